/-
 What functions of the Go text compute, as plain functions, and that they do, part 5 of 5. Conditions: what each theorem names.
-/
import Derived.Test.YtmkacilcbfiieaaGreatSm4
import Derived.Test.YtmkacilcbfiieaaGreatProg
set_option linter.unusedVariables false
set_option linter.unusedSimpArgs false
set_option maxRecDepth 100000
set_option maxHeartbeats 4000000
namespace Go.Nilo
open Go.Proofs


def jY (N:Nat) (M:Int) (J:List aF) (B:List Int) (H:List aG) (I:List Int) (D:List aI):Option (bH ((List aF) × (List Int) × Int × (List aG) × (List Int) × (List aI)) (bH (Int) (Bool))) :=
 some (.cont (J,B,W (M + 1),H,I,D))
def kM (N:Nat) (l:List aF) (M:Int) (H:List Int) (D:List aG) (B:List Int) (I:List aI):Option (bH ((List aF) × (List Int) × Int × (List aG) × (List Int) × (List aI)) (bH (Int) (Bool))) :=
 cond (decide (M < 45))
 (Option.bind (eE N 1000000000 1000000000) fun J=>
 Option.bind (jE ((l++[(⟨(⟨0,0⟩:aE),J,false⟩:aF)])).length) fun R=>
 Option.bind (jE ((H++[1000000000])).length) fun O=>
 jY N M (l++[(⟨(⟨0,0⟩:aE),J,false⟩:aF)]) B D (H++[1000000000]) I)
 (jY N M l B D H I)
def kI (N:Nat) (l:List aF) (B:List Int) (D:Int) (J:List Int) (I:List aI) (H:List aG):Option (bH ((List aF) × (List Int) × Int × (List aG) × (List Int) × (List aI)) (bH (Int) (Bool))) :=
 cond (decide (D < 15))
 (Option.bind (jE ((I++[(⟨D,1000000000⟩:aI)])).length) fun M=>
 Option.bind (jE ((B++[1000000])).length) fun O=>
 kM N l D J H (B++[1000000]) (I++[(⟨D,1000000000⟩:aI)]))
 (kM N l D J H B I)
def kJ (N:Nat) (I:Int) (l:List aF) (B:List Int) (D:Int) (H:List aG) (J:List Int) (M:List aI):Option (bH ((List aF) × (List Int) × Int × (List aG) × (List Int) × (List aI)) (bH (Int) (Bool))) :=
 cond (decide (D < I))
 (cond (decide (D < 35))
 (Option.bind (nz (max 1 (min I 14))) fun O=>
 Option.bind (jE ((H++[(⟨D.tmod (max 1 (min I 14)),1000000000,1000⟩:aG)])).length) fun R=>
 kI N l B D J M (H++[(⟨D.tmod (max 1 (min I 14)),1000000000,1000⟩:aG)]))
 (kI N l B D J M H))
 (some (.brk (l,B,D,H,J,M)))
def eP (N:Nat) (D:Int):Option (bH (Int) (Bool)) :=
 cond (decide (D < 46))
 (Option.bind (aT (fun B=>kJ N D B.1 B.2.1 B.2.2.1 B.2.2.2.1 B.2.2.2.2.1 B.2.2.2.2.2) N (([]:List aF),([]:List Int),0,([]:List aG),([]:List Int),([]:List aI))) fun M=>
 exK M (fun B=>Option.bind (Option.bind (eE N 0 1000000000) fun I=>
 Option.bind (gD N (⟨min D 14,B.2.2.2.1⟩:aJ) 1000000000 I) fun V=>
 cond (!V)
 (some true)
 (Option.bind (eE N (-1000000000) 1000000000) fun O=>
 Option.bind (inM ((B.1.length:Nat):Int)) fun un=>
 Option.bind (gR N (⟨B.2.2.2.2.2,0⟩:aH) 7 O B.1 (List.replicate ((B.1.length:Nat):Int).toNat (⟨0,0⟩:aB))) fun X=>
 cond (!X)
 (some true)
 (Option.bind (inM ((B.2.1.length:Nat):Int)) fun Y=>
 Option.bind (fV N 1000000000 (⟨1,100,B.2.2.2.2.1⟩:bU) B.2.1 (List.replicate ((B.2.1.length:Nat):Int).toNat (0:Int)) 13 2 (⟨2000000,1⟩:aM)) fun R=>
 some (!R)))) fun rg=>
 cond rg
 (some (.ret false))
 (Option.bind (fZ N 0 (⟨1,100,B.2.2.2.2.1⟩:bU)) fun U=>
 Option.bind (hY N (⟨min D 14,B.2.2.2.1⟩:aJ)) fun S=>
 Option.bind (cond ((S == 0) != ((decide (0 < D)) && (decide (D < 13)))) (some true) (Option.bind (eA N (⟨B.2.2.2.2.2,0⟩:aH)) fun H=>
 some ((H == 0) != ((decide (1 < D)) && (decide (D < 13)))))) fun J=>
 cond (J || ((U.2 == 0) != (decide (D < 41))))
 (some (.ret false))
 (some (.cont (W (D + 1)))))) some)
 (some (.brk D))
def jX (N:Nat) (D:Int) (V:List aF) (J:List aB) (R:List Int) (H:List Int) (I:List Int) (B:Int) (M:List aG) (O:List aI):Option (bH ((List aF) × (List aB) × (List Int) × (List Int) × (List Int) × Int × (List aG) × (List aI)) (bH (Int) (Bool))) :=
 cond (decide (B < (W (1 + ((W (D.tdiv 3)).tmod 4)))))
 (Option.bind (nz (W (B + 2))) fun z=>
 Option.bind (nz (W (1 + (D.tmod 3)))) fun aa=>
 Option.bind (nz (W (B + 3))) fun t=>
 Option.bind (nz (W (B + 5))) fun o=>
 Option.bind (jE ((M++[(⟨(W (D.tdiv (W (B + 2)))).tmod (W (1 + (D.tmod 3))),(W (D.tdiv (W (B + 3)))).tmod 9,W (((W (D.tdiv (W (B + 5)))).tmod 5) * 250)⟩:aG)])).length) fun i=>
 Option.bind (nz (W (B + 4))) fun k=>
 Option.bind (nz (W (B + 6))) fun g=>
 Option.bind (jE ((O++[(⟨W ((W (3 * B)) + ((W (D.tdiv (W (B + 4)))).tmod 3)),W ((W (2 * B)) + ((W (D.tdiv (W (B + 6)))).tmod 3))⟩:aI)])).length) fun d=>
 Option.bind (nz (W (B + 7))) fun u=>
 Option.bind (nz (W (B + 7))) fun y=>
 Option.bind (eE N ((W (D.tdiv (W (B + 7)))).tmod 9) (W (((W (D.tdiv (W (B + 7)))).tmod 9) + (D.tmod 3)))) fun S=>
 Option.bind (nz (W (B + 1))) fun p=>
 Option.bind (nz (W (B + 1))) fun Z=>
 Option.bind (eE N ((W (D.tdiv (W (B + 1)))).tmod 7) (W (((W (D.tdiv (W (B + 1)))).tmod 7) + ((W (D.tdiv 2)).tmod 3)))) fun U=>
 Option.bind (nz (W (B + 8))) fun b=>
 Option.bind (jE ((V++[(⟨S,U,(((W (D.tdiv (W (B + 8)))).tmod 7) == 0)⟩:aF)])).length) fun X=>
 Option.bind (nz (W (B + 7))) fun m=>
 Option.bind (nz (W (B + 1))) fun n=>
 Option.bind (jE ((J++[(⟨W (((W (D.tdiv (W (B + 7)))).tmod 9) + ((W (D.tdiv 5)).tmod 3)),W (((W (D.tdiv (W (B + 1)))).tmod 7) + ((W (D.tdiv 7)).tmod 2))⟩:aB)])).length) fun j=>
 Option.bind (nz (W (B + 9))) fun s=>
 Option.bind (jE ((R++[(W (D.tdiv (W (B + 9)))).tmod 8])).length) fun x=>
 Option.bind (nz (W ((W (2 * B)) + 3))) fun q=>
 Option.bind (jE ((H++[W (1 + ((W (D.tdiv (W ((W (2 * B)) + 3)))).tmod 9))])).length) fun Y=>
 Option.bind (nz (W ((W (3 * B)) + 2))) fun v=>
 Option.bind (jE ((I++[(W (D.tdiv (W ((W (3 * B)) + 2)))).tmod 5])).length) fun r=>
 some (.cont ((V++[(⟨S,U,(((W (D.tdiv (W (B + 8)))).tmod 7) == 0)⟩:aF)]),(J++[(⟨W (((W (D.tdiv (W (B + 7)))).tmod 9) + ((W (D.tdiv 5)).tmod 3)),W (((W (D.tdiv (W (B + 1)))).tmod 7) + ((W (D.tdiv 7)).tmod 2))⟩:aB)]),(R++[(W (D.tdiv (W (B + 9)))).tmod 8]),(H++[W (1 + ((W (D.tdiv (W ((W (2 * B)) + 3)))).tmod 9))]),(I++[(W (D.tdiv (W ((W (3 * B)) + 2)))).tmod 5]),W (B + 1),(M++[(⟨(W (D.tdiv (W (B + 2)))).tmod (W (1 + (D.tmod 3))),(W (D.tdiv (W (B + 3)))).tmod 9,W (((W (D.tdiv (W (B + 5)))).tmod 5) * 250)⟩:aG)]),(O++[(⟨W ((W (3 * B)) + ((W (D.tdiv (W (B + 4)))).tmod 3)),W ((W (2 * B)) + ((W (D.tdiv (W (B + 6)))).tmod 3))⟩:aI)]))))
 (some (.brk (V,J,R,H,I,B,M,O)))
def fE (N:Nat) (B:Int):Option (bH (Int) (Bool)) :=
 cond (decide (B < 2000))
 (Option.bind (aT (fun D=>jX N B D.1 D.2.1 D.2.2.1 D.2.2.2.1 D.2.2.2.2.1 D.2.2.2.2.2.1 D.2.2.2.2.2.2.1 D.2.2.2.2.2.2.2) N (([]:List aF),([]:List aB),([]:List Int),([]:List Int),([]:List Int),0,([]:List aG),([]:List aI))) fun U=>
 exK U (fun D=>Option.bind (eE N (B.tmod 7) (W ((B.tmod 7) + ((W (B.tdiv 9)).tmod 9)))) fun M=>
 Option.bind (gD N (⟨W (1 + (B.tmod 3)),D.2.2.2.2.2.2.1⟩:aJ) (B.tmod 25) M) fun I=>
 Option.bind (cond (!I) (some true) (Option.bind (eE N (W ((B.tmod 5) - 2)) (W ((W ((B.tmod 5) - 2)) + ((W (B.tdiv 11)).tmod 3)))) fun H=>
 Option.bind (gR N (⟨D.2.2.2.2.2.2.2,B.tmod 5⟩:aH) (B.tmod 15) H D.1 D.2.1) fun J=>
 some (!J))) fun R=>
 Option.bind (cond R (some true) (Option.bind (fV N (B.tmod 19) (⟨W (1 + (B.tmod 3)),W (1 + ((W (B.tdiv 4)).tmod 4)),D.2.2.1⟩:bU) D.2.2.2.1 D.2.2.2.2.1 (W (1 + ((W (B.tdiv 6)).tmod 7))) (B.tmod 3) (⟨W (1 + (B.tmod 11)),W (1 + ((W (B.tdiv 11)).tmod 4))⟩:aM)) fun O=>
 some (!O))) fun S=>
 cond S
 (some (.ret false))
 (some (.cont (W (B + 1))))) some)
 (some (.brk B))
def eQ (N:Nat) (D:Int) (B:Int):Option (bH (Int) (bH (Int) (Bool))) :=
 cond (decide (B < 26))
 (Option.bind (pK N) fun I=>
 Option.bind (eE N 90 185) fun R=>
 Option.bind (rJ N) fun H=>
 Option.bind (eE N 0 0) fun M=>
 Option.bind (aZ I.Rights 1) fun V=>
 Option.bind (aZ I.Rights 0) fun S=>
 Option.bind (aZ I.Rights 0) fun U=>
 Option.bind (aZ H.1.Table 0) fun i=>
 Option.bind (aZ H.1.Table 1) fun k=>
 Option.bind (aZ H.2 0) fun J=>
 Option.bind (aZ H.2 1) fun O=>
 Option.bind (aZ ([(⟨150,22⟩:aB),(⟨90,30⟩:aB),(⟨0,0⟩:aB)]:List aB) 0) fun n=>
 Option.bind (aZ ([(⟨150,22⟩:aB),(⟨90,30⟩:aB),(⟨0,0⟩:aB)]:List aB) 1) fun b=>
 Option.bind (aZ ([20,30,30,40,40,40]:List Int) 0) fun q=>
 Option.bind (aZ ([60,30,10]:List Int) 1) fun s=>
 Option.bind (aZ ([6,3,0]:List Int) 2) fun r=>
 Option.bind (inR B 26) fun p=>
 Option.bind (cond (decide (B < 7)) (Option.bind (gD N (⟨(cond (B == 0) D I.States),(stI (B == 3) (stI (B == 2) (stI (B == 1) I.Rights (1:Int).toNat (⟨D,V.Amount,V.Loss⟩:aG)) (0:Int).toNat (⟨S.State,D,S.Loss⟩:aG)) (0:Int).toNat (⟨U.State,U.Amount,D⟩:aG))⟩:aJ) (cond (B == 4) D 120) (⟨(cond (B == 5) D R.Lo),(cond (B == 6) D R.Hi)⟩:aE)) fun Y=>
 some (!Y)) (some false)) fun j=>
 Option.bind (cond j (some true) (Option.bind (cond ((decide (6 < B)) && (decide (B < 17))) (Option.bind (gR N (⟨(stI (B == 8) (stI (B == 7) H.1.Table (0:Int).toNat (⟨D,i.Due⟩:aI)) (1:Int).toNat (⟨k.Index,D⟩:aI)),(cond (B == 9) D H.1.Credit)⟩:aH) (cond (B == 10) D 150) (⟨(cond (B == 11) D M.Lo),(cond (B == 12) D M.Hi)⟩:aE) (stI (B == 14) (stI (B == 13) H.2 (0:Int).toNat (⟨(⟨D,J.Index.Hi⟩:aE),J.Delivered,J.Spill⟩:aF)) (1:Int).toNat (⟨O.Index,(⟨O.Delivered.Lo,D⟩:aE),O.Spill⟩:aF)) (stI (B == 16) (stI (B == 15) ([(⟨150,22⟩:aB),(⟨90,30⟩:aB),(⟨0,0⟩:aB)]:List aB) (0:Int).toNat (⟨D,n.Delivered⟩:aB)) (1:Int).toNat (⟨b.Index,D⟩:aB))) fun X=>
 some (!X)) (some false)) fun g=>
 some g)) fun o=>
 Option.bind (cond o (some true) (Option.bind (cond (decide (16 < B)) (Option.bind (fV N (cond (B == 17) D 100) (⟨(cond (B == 18) D 15),(cond (B == 19) D 4),(stI (B == 20) ([20,30,30,40,40,40]:List Int) (0:Int).toNat D)⟩:bU) (stI (B == 21) ([60,30,10]:List Int) (1:Int).toNat D) (stI (B == 22) ([6,3,0]:List Int) (2:Int).toNat D) (cond (B == 23) D 9) (B.tmod 3) (⟨(cond (B == 24) D 10),(cond (B == 25) D 1)⟩:aM)) fun d=>
 some (!d)) (some false)) fun m=>
 some m)) fun Z=>
 cond Z
 (some (.ret (.ret false)))
 (some (.cont (W (B + 1)))))
 (some (.brk B))
def fD (N:Nat) (x:Int):Option (bH (Int) (Bool)) :=
 cond (decide (x < (46:Int)))
 (Option.bind (aZ ([(-1000000001),(-1000000000),(-1),0,1,2,3,4,6,7,9,10,11,12,13,14,15,20,24,30,40,41,60,90,99,100,101,103,120,140,160,185,200,250,366,367,999,1000,1001,999999,1000000,1000001,1000000000,1000000001,9223372036854775807,(-9223372036854775808)]:List Int) x) fun D=>
 Option.bind (aT (fun B=>eQ N D B) N 0) fun I=>
 exK I (fun B=>Option.bind (fV N 5 (⟨1,1,([]:List Int)⟩:bU) ([60,30,10]:List Int) ([6,3,0]:List Int) 9 D (⟨10,1⟩:aM)) fun H=>
 cond (!H)
 (some (.ret false))
 (some (.cont (W (x + 1))))) some)
 (some (.brk x))
def nF (N:Nat)  : Option (Bool) :=
 Option.bind (aT (fun s4=>fD N s4) N 0) fun x4=>
 exK x4 (fun s4=>Option.bind (aT (fun s7=>fE N s7) N 0) fun x7=>
 exK x7 (fun s7=>Option.bind (aT (fun B=>eP N B) N 0) fun M=>
 exK M (fun B=>Option.bind (fG N ([1000000,1,999999]:List Int) 366 1) fun r=>
 Option.bind (cond (r.2 == 0) (Option.bind (cK N r.1 ([183,0,183]:List Int)) fun I=>
 some I) (some false)) fun H=>
 Option.bind (cond H (Option.bind (fR N) fun J=>
 some J) (some false)) fun D=>
 some D) some) some) some
theorem vZ {N:Nat} {G:bA} {Lf:List Ent} {w:World}    (hc:Ctx G (Lf) w) {ii:Bool} (hF:nF N=some ii):Calls Tryz.prog 3 #[] w (fun e w=>e=.returned (.bool ii)∧Ctx G (Lf) w):=by
 unfold nF at hF
 refine cG Tryz.func3 rfl Tryz.ntmps3 rfl fun a hf=>zS fun K h=>sp 1 hf rfl fun a hf=>zT h ?_
 refine wp_seq_k fun K2 h2=>zS fun K h=>gV (rows:=([(-1000000001),(-1000000000),(-1),0,1,2,3,4,6,7,9,10,11,12,13,14,15,20,24,30,40,41,60,90,99,100,101,103,120,140,160,185,200,250,366,367,999,1000,1001,999999,1000000,1000001,1000000000,1000000001,9223372036854775807,(-9223372036854775808)]:List Int).map aD) (vs:=[(0,i6 (-1000000001)),(1,i6 (-1000000000)),(2,i6 (-1)),(3,i6 0),(4,i6 1),(5,i6 2),(6,i6 3),(7,i6 4),(8,i6 6),(9,i6 7),(10,i6 9),(11,i6 10),(12,i6 11),(13,i6 12),(14,i6 13),(15,i6 14),(16,i6 15),(17,i6 20),(18,i6 24),(19,i6 30),(20,i6 40),(21,i6 41),(22,i6 60),(23,i6 90),(24,i6 99),(25,i6 100),(26,i6 101),(27,i6 103),(28,i6 120),(29,i6 140),(30,i6 160),(31,i6 185),(32,i6 200),(33,i6 250),(34,i6 366),(35,i6 367),(36,i6 999),(37,i6 1000),(38,i6 1001),(39,i6 999999),(40,i6 1000000),(41,i6 1000001),(42,i6 1000000000),(43,i6 1000000001),(44,i6 9223372036854775807),(45,i6 (-9223372036854775808))]) hf hc rfl rfl fC rfl ⟨rfl,rfl,rfl,rfl,rfl,rfl,rfl,rfl,rfl,rfl,rfl,rfl,rfl,rfl,rfl,rfl,rfl,rfl,rfl,rfl,rfl,rfl,rfl,rfl,rfl,rfl,rfl,rfl,rfl,rfl,rfl,rfl,rfl,rfl,rfl,rfl,rfl,rfl,rfl,rfl,rfl,rfl,rfl,rfl,rfl,rfl,rfl,rfl,rfl,rfl,rfl,rfl,rfl,rfl,rfl,rfl,rfl,rfl,rfl,rfl,rfl,rfl,rfl,rfl,rfl,rfl,rfl,rfl,rfl,rfl,rfl,rfl,rfl,rfl,rfl,rfl,rfl,rfl,rfl,rfl,rfl,rfl,rfl,rfl,rfl,rfl,rfl,rfl,rfl,rfl,rfl,rfl,rfl,rfl,rfl,rfl,rfl,rfl,rfl,rfl,rfl,rfl,rfl,rfl,rfl,rfl,rfl,rfl,rfl,rfl,rfl,rfl,rfl,rfl,rfl,rfl,rfl,rfl,rfl,rfl,rfl,rfl,rfl,rfl,rfl,rfl,rfl,rfl,rfl,rfl,rfl,rfl,rfl,rfl,rfl,rfl,rfl,rfl,trivial⟩ rfl rfl fun cy a w hf hc=>zP hf rfl (bL Tryz.underlying22 rfl) fun a hf=>sp 1 hf rfl fun a hf=>zT h ?_
 refine wp_block ?_
 obtain ⟨x4,r7,hF⟩:=aA hF
 let S4:Int→Act→World→Prop:=(fun (zz:Int) a w=>Has 516 a [(40,.slice (some ⟨cy,0,none⟩) 46 46),(41,i6 (46:Int)),(42,i6 zz)]∧Ctx G (.row (some ⟨cy,0,none⟩) 46 (([(-1000000001),(-1000000000),(-1),0,1,2,3,4,6,7,9,10,11,12,13,14,15,20,24,30,40,41,60,90,99,100,101,103,120,140,160,185,200,250,366,367,999,1000,1001,999999,1000000,1000001,1000000000,1000000001,9223372036854775807,(-9223372036854775808)]:List Int).map aD) 3 1::Lf) w)
 have ri:∀ (zz:Int) a w,x4=.go zz→S4 zz a w→K2 a w:=by
  rintro x a w rfl ⟨hf,hc⟩
  replace hF:=bQ hF
  refine h2 _ _ ?_
  refine wp_seq_k fun K5 h5=>zS fun K h=>sp 1 hf rfl fun a hf=>zT h ?_
  refine wp_block ?_
  obtain ⟨x7,rm,hF⟩:=aA hF
  let S7:Int→Act→World→Prop:=(fun (zz:Int) a w=>Has 516 a [(175,i6 zz)]∧Ctx G (Lf) w)
  have sc:∀ (zz:Int) a w,x7=.go zz→S7 zz a w→K5 a w:=by
   rintro D a w rfl ⟨hf,hc⟩
   replace hF:=bQ hF
   refine h5 _ _ ?_
   refine wp_seq_k fun K8 h8=>zS fun K h=>sp 1 hf rfl fun a hf=>zT h ?_
   refine wp_block ?_
   obtain ⟨kz,pj,hF⟩:=aA hF
   let S10:Int→Act→World→Prop:=(fun (zz:Int) a w=>Has 516 a [(393,i6 zz)]∧Ctx G (Lf) w)
   have ou:∀ (zz:Int) a w,kz=.go zz→S10 zz a w→K8 a w:=by
    rintro J a w rfl ⟨hf,hc⟩
    replace hF:=bQ hF
    refine h8 _ _ ?_
    refine zS fun K h=>gV (rows:=([1000000,1,999999]:List Int).map aD) (vs:=[(0,i6 1000000),(1,i6 1),(2,i6 999999)]) hf hc rfl rfl fC rfl ⟨rfl,rfl,rfl,rfl,rfl,rfl,rfl,rfl,rfl,trivial⟩ rfl rfl fun uy a w hf hc=>?_
    obtain ⟨r,hr,hF⟩:=aA hF
    obtain ⟨G1,cj,aq,hc,ap⟩:=lend hc k0
    refine zC hf aGs rfl (oW ([1000000,1,999999]:List Int) 366 1 aq hc hr) ?_
    rintro _ w ⟨oi,og,rfl,hc⟩
    refine ⟨_,rfl,fun a hf=>?_⟩
    replace hc:=ap _ _ hc
    refine sp 5 hf rfl fun a hf=>zT h ?_
    refine zS fun K h=>sp 3 hf rfl fun a hf=>?_
    obtain ⟨jr,kr,hF⟩:=aA hF
    refine cP 4 (fun a=>Has 516 a [(38,.slice oi r.1.length og),(39,i6 r.2),(506,i6 r.2),(507,.bool (r.2 == 0)),(508,.bool (r.2 == 0)),(512,.bool jr)]) hc ?_ ?_
    ·cases hb:(r.2 == 0)
     ·rw [hb] at hf
      have hF:=fN hb kr
      obtain rfl:=sj hF
      refine stS hf rfl rfl rfl fun a hf=>stS hf rfl rfl rfl fun a hf=>stS hf rfl rfl rfl fun a hf=>sp 1 hf rfl fun a hf=>aP ⟨hf.kp rfl,hc⟩
     ·rw [hb] at hf
      have hF:=fO hb kr
      refine sp 1 hf rfl fun a hf=>gV (rows:=([183,0,183]:List Int).map aD) (vs:=[(0,i6 183),(1,i6 0),(2,i6 183)]) hf hc rfl rfl fC rfl ⟨rfl,rfl,rfl,rfl,rfl,rfl,rfl,rfl,rfl,trivial⟩ rfl rfl fun ux a w hf hc=>?_
      obtain ⟨rb,on,hF⟩:=aA hF
      refine zQ (v:=.bool rb) hf hc tY rfl (fun w hc=>by obtain ⟨G1,cj,aq,hc,ap⟩:=lend hc k2; obtain ⟨G2,cm,cq,hc,cn⟩:=lend hc k0; exact (dP r.1 ([183,0,183]:List Int) (aq.mono cm) cq hc on).mono fun e w h=>⟨h.1,((ap _ _ ((cn _ _ h.2).unpick k0)).unpick k2)⟩) fun a w hf hc=>sp 1 hf rfl fun a hf=>?_
      replace hc:=hc.drop k0
      obtain rfl:=sj hF
      exact aP ⟨hf.kp rfl,hc⟩
    intro a w ⟨hf,hc⟩
    refine sp 1 hf rfl fun a hf=>?_
    obtain ⟨st,kc,hF⟩:=aA hF
    refine cP 2 (fun a=>Has 516 a [(38,.slice oi r.1.length og),(39,i6 r.2),(506,i6 r.2),(507,.bool (r.2 == 0)),(508,.bool (r.2 == 0)),(512,.bool jr),(513,.bool jr),(515,.bool st)]) hc ?_ ?_
    ·cases hb:jr
     ·rw [hb] at hf
      try rw [hb] at hc
      have hF:=fN hb kc
      obtain rfl:=sj hF
      refine stS hf rfl rfl rfl fun a hf=>sp 1 hf rfl fun a hf=>aP ⟨hf.kp rfl,hc⟩
     ·rw [hb] at hf
      try rw [hb] at hc
      have hF:=fO hb kc
      obtain ⟨sm,qz,hF⟩:=aA hF
      refine zQ (v:=.bool sm) hf hc aAh rfl (fun w hc=>jT hc qz) fun a w hf hc=>sp 1 hf rfl fun a hf=>?_
      obtain rfl:=sj hF
      exact aP ⟨hf.kp rfl,hc⟩
    intro a w ⟨hf,hc⟩
    refine sp 1 hf rfl fun a hf=>zT h ?_
    refine wp_ret ?_
    obtain rfl:=sj hF
    replace hc:=(hc.drop k1).drop k0
    exact zO1 Tryz.results3 hf rfl ⟨rfl,hc⟩
   have nf:∀ r,kz=.out r→r=ii:=by
    rintro r rfl
    exact sj hF
   refine cX N (cV (S:=S10) (x:=kz) ?_ N 0 _ _ ⟨hf.kp rfl,hc⟩ pj)
   clear hF hf hc
   rintro J p3 a w KB10 ⟨hf,hc⟩ hF dp qk
   unfold eP at hF
   refine zS fun K h=>sp 1 hf rfl fun a hf=>zT h ?_
   refine wp_seq_k fun K14 q5=>zI hf rfl hF ?_ ?_ <;> clear hF <;> intro hF
   ·refine wp_skip ?_
    refine q5 _ _ ?_
    refine wp_seq_k fun K15 rs=>wp_block ?_
    refine zS fun K h=>sp 2 hf rfl fun a hf=>zT h ?_
    refine zS fun K h=>sp 1 hf rfl fun a hf=>zP hf rfl (aG8 rfl rfl) fun a hf=>zP hf rfl (bG (cells:=[i6 (min J 14),.slice none 0 0]) aIf rfl rfl) fun a hf=>zP hf rfl (bG (cells:=[i6 1,i6 100,.slice none 0 0]) aCt rfl rfl) fun a hf=>zA hf hc aCo rfl fun a0 a w hf hc=>zA hf hc aKw rfl fun br a w hf hc=>zW hf hc aCa u1 rfl fun w hc=>zW hf hc aK0 u0 rfl fun w hc=>zT h ?_
    refine zS fun K h=>zA hf hc aAv rfl fun bf a w hf hc=>zT h ?_
    refine zS fun K h=>sp 1 hf rfl fun a hf=>zT h ?_
    refine zS fun K h=>sp 1 hf rfl fun a hf=>zT h ?_
    refine wp_seq_k fun K21 r4=>zS fun K h=>sp 2 hf rfl fun a hf=>zT h ?_
    refine wp_block ?_
    obtain ⟨mm,qc,hF⟩:=aA hF
    let S23:((List aF) × (List Int) × Int × (List aG) × (List Int) × (List aI))→Act→World→Prop:=(fun (zz:(List aF) × (List Int) × Int × (List aG) × (List Int) × (List aI)) a w=>∃ (bi:Option Addr) (bg:Nat) (ci:Option Addr) (cf:Nat) (b1:Option Addr) (b0:Nat) (bp:Option Addr) (bj:Nat) (bz:Option Addr) (bv:Nat),Has 516 a [(29,i6 J),(30,pq a0),(31,pq br),(32,pq bf),(33,.slice bi zz.1.length bg),(34,.slice ci zz.2.1.length cf),(393,i6 J),(400,i6 J),(401,i6 zz.2.2.1)]∧Ctx G (.row bz bv (zz.2.2.2.2.2.map aO) 48 2::.row bp bj (zz.2.2.2.2.1.map aD) 3 1::.row b1 b0 (zz.2.2.2.1.map aK) 46 3::.row ci cf (zz.2.1.map aD) 3 1::.row bi bg (zz.1.map aS) 50 5::.box bf [.slice bz zz.2.2.2.2.2.length bv,i6 0] 32::.box br [i6 1,i6 100,.slice bp zz.2.2.2.2.1.length bj] 40::.box a0 [i6 (min J 14),.slice b1 zz.2.2.2.1.length b0] 25::Lf) w)
    have pf:∀ (zz:(List aF) × (List Int) × Int × (List aG) × (List Int) × (List aI)) a w,mm=.go zz→S23 zz a w→K21 a w:=by
     rintro ⟨l,s,bc,a6,az,bm⟩ a w rfl ⟨bi,bg,ci,cf,b1,b0,bp,bj,bz,bv,hf,hc⟩
     replace hF:=bQ hF
     refine r4 _ _ ?_
     refine wp_seq_k fun K24 rz=>wp_seq_k fun K25 rd=>?_
     obtain ⟨rg,ok,hF⟩:=aA hF
     refine aLt (fun a w=>Has 516 a [(29,i6 J),(30,pq a0),(31,pq br),(32,pq bf),(393,i6 J),(465,.bool rg)]∧Ctx G (.row bz bv (bm.map aO) 48 2::.row bp bj (az.map aD) 3 1::.row b1 b0 (a6.map aK) 46 3::.box bf [.slice bz bm.length bv,i6 0] 32::.box br [i6 1,i6 100,.slice bp az.length bj] 40::.box a0 [i6 (min J 14),.slice b1 a6.length b0] 25::Lf) w) ?_ ?_
     ·clear hF
      have hF:=ok
      clear ok
      obtain ⟨dg,i4,hF⟩:=aA hF
      obtain ⟨gk,i2,hF⟩:=aA hF
      cases hb:(!gk)
      ·replace hF:=fN hb hF
       try rw [hb] at hf
       try rw [hb] at hc
       have jg:=hb
       clear hb
       obtain ⟨dj,j4,hF⟩:=aA hF
       obtain ⟨un,oj,hF⟩:=aA hF
       obtain ⟨gd,ky,hF⟩:=aA hF
       cases hb:(!gd)
       ·replace hF:=fN hb hF
        try rw [hb] at hf
        try rw [hb] at hc
        have km:=hb
        clear hb
        obtain ⟨t9,oc,hF⟩:=aA hF
        obtain ⟨gj,o0,hF⟩:=aA hF
        replace hc:=hc.nilRow 0 0
        replace hc:=hc.nilRow 0 0
        refine dJ (fun θ=>(⟨none,none,29,i6 J⟩::⟨none,none,30,pq a0⟩::⟨none,none,31,pq br⟩::⟨none,none,32,pq bf⟩::⟨none,none,33,.slice bi l.length bg⟩::⟨none,none,34,.slice ci s.length cf⟩::⟨none,none,393,i6 J⟩::⟨some 0,none,442,.agg #[i6 (min J 14),.slice b1 a6.length b0]⟩::⟨some 1,none,443,.agg #[i6 dg.Lo,i6 dg.Hi]⟩::⟨some 2,none,444,.bool gk⟩::⟨some 3,none,445,.bool false⟩::⟨some 4,none,446,.bool false⟩::⟨some 5,none,447,.agg #[.slice bz bm.length bv,i6 0]⟩::⟨some 6,none,448,.agg #[i6 dj.Lo,i6 dj.Hi]⟩::⟨some 7,none,449,.slice bi l.length bg⟩::⟨some 8,none,450,.slice bi l.length bg⟩::⟨some 9,none,451,i6 ((l.length:Nat):Int)⟩::⟨some 10,none,452,.slice (some ⟨(θ 80).b,0,none⟩) ((List.replicate ((l.length:Nat):Int).toNat (⟨0,0⟩:aB)).length) (((l.length:Nat):Int).toNat)⟩::⟨some 11,none,453,.bool gd⟩::⟨some 12,none,454,.bool false⟩::⟨some 13,none,455,.bool false⟩::⟨some 14,none,456,.bool false⟩::⟨some 15,none,457,.agg #[i6 1,i6 100,.slice bp az.length bj]⟩::⟨some 16,none,458,.slice ci s.length cf⟩::⟨some 17,none,459,.slice ci s.length cf⟩::⟨some 18,none,460,i6 ((s.length:Nat):Int)⟩::⟨some 19,none,461,.slice (some ⟨(θ 152).b,0,none⟩) ((List.replicate ((s.length:Nat):Int).toNat (0:Int)).length) (((s.length:Nat):Int).toNat)⟩::⟨some 20,none,462,.agg #[i6 2000000,i6 1]⟩::⟨some 21,none,463,.bool gj⟩::⟨some 22,none,464,.bool (!gj)⟩::⟨some 23,none,465,.bool (!gj)⟩::[])) (fun E θ=>(bif E 19 then .row (some ⟨(θ 152).b,0,none⟩) (((s.length:Nat):Int).toNat) ((List.replicate ((s.length:Nat):Int).toNat (0:Int)).map aD) 3 1 else .row none 0 [] 0 0)::(bif E 10 then .row (some ⟨(θ 80).b,0,none⟩) (((l.length:Nat):Int).toNat) ((List.replicate ((l.length:Nat):Int).toNat (⟨0,0⟩:aB)).map aW) 37 2 else .row none 0 [] 0 0)::.row bz bv (bm.map aO) 48 2::.row bp bj (az.map aD) 3 1::.row b1 b0 (a6.map aK) 46 3::.row ci cf (s.map aD) 3 1::.row bi bg (l.map aS) 50 5::.box bf [.slice bz bm.length bv,i6 0] 32::.box br [i6 1,i6 100,.slice bp az.length bj] 40::.box a0 [i6 (min J 14),.slice b1 a6.length b0] 25::Lf) [] (fun a w=>∃ (i8:Nat) (iy:Nat),Has 516 a [(29,i6 J),(30,pq a0),(31,pq br),(32,pq bf),(393,i6 J),(447,.agg #[.slice bz bm.length bv,i6 0]),(448,.agg #[i6 dj.Lo,i6 dj.Hi]),(449,.slice bi l.length bg),(450,.slice bi l.length bg),(451,i6 ((l.length:Nat):Int)),(452,.slice (some ⟨i8,0,none⟩) ((List.replicate ((l.length:Nat):Int).toNat (⟨0,0⟩:aB)).length) (((l.length:Nat):Int).toNat)),(453,.bool gd),(454,.bool false),(457,.agg #[i6 1,i6 100,.slice bp az.length bj]),(458,.slice ci s.length cf),(459,.slice ci s.length cf),(460,i6 ((s.length:Nat):Int)),(461,.slice (some ⟨iy,0,none⟩) ((List.replicate ((s.length:Nat):Int).toNat (0:Int)).length) (((s.length:Nat):Int).toNat)),(462,.agg #[i6 2000000,i6 1]),(463,.bool gj),(464,.bool (!gj)),(465,.bool (!gj))]∧Ctx G (.row (some ⟨iy,0,none⟩) (((s.length:Nat):Int).toNat) ((List.replicate ((s.length:Nat):Int).toNat (0:Int)).map aD) 3 1::.row (some ⟨i8,0,none⟩) (((l.length:Nat):Int).toNat) ((List.replicate ((l.length:Nat):Int).toNat (⟨0,0⟩:aB)).map aW) 37 2::.row bz bv (bm.map aO) 48 2::.row bp bj (az.map aD) 3 1::.row b1 b0 (a6.map aK) 46 3::.row ci cf (s.map aD) 3 1::.row bi bg (l.map aS) 50 5::.box bf [.slice bz bm.length bv,i6 0] 32::.box br [i6 1,i6 100,.slice bp az.length bj] 40::.box a0 [i6 (min J 14),.slice b1 a6.length b0] 25::Lf) w) aY (by kernel_rfl) (by kernel_rfl) (eY.of hf ⟨rfl,rfl,rfl,rfl,rfl,rfl,rfl,trivial,trivial,trivial,trivial,trivial,trivial,trivial,trivial,trivial,trivial,trivial,trivial,trivial,trivial,trivial,trivial,trivial,trivial,trivial,trivial,trivial,trivial,trivial,trivial,trivial⟩) hc ⟨?_,?_,?_,?_,?_,?_,?_,?_,?_,?_,?_,?_,?_,?_,?_,?_,?_,?_,?_,?_,?_,?_,?_,?_,trivial⟩ ?_ ?_
        ·intro E θ a w hD hi hp he hc
         have hf:=he.h0.mT he 1 rfl
         refine zN hf hc lN m9 rfl fun a w hf hc=>zD θ he hi hf 7 rfl rfl rfl hc
        ·intro E θ a w hD hi hp he hc
         have hf:=he.h0
         refine zQ (v:=.agg #[i6 dg.Lo,i6 dg.Hi]) hf hc tQ rfl (fun w hc=>cJ 0 1000000000 hc i4) fun a w hf hc=>zD θ he hi hf 8 rfl rfl rfl hc
        ·intro E θ a w hD hi hp he hc
         have e0:=hp.o 0 rfl
         have e1:=hp.o 1 rfl
         have hf:=(he.h0.mP he 7 rfl e0).mP he 8 rfl e1
         refine zQ (v:=.bool gk) hf hc aJg rfl (fun w hc=>by obtain ⟨G1,cj,aq,hc,ap⟩:=lend hc k4; exact (iC (⟨min J 14,a6⟩:aJ) 1000000000 dg aq hc i2).mono fun e w h=>⟨h.1,((ap _ _ h.2).unpick k4)⟩) fun a w hf hc=>zD θ he hi hf 9 rfl rfl rfl hc
        ·intro E θ a w hD hi hp he hc
         have e2:=hp.o 2 rfl
         have hf:=he.h0.mP he 9 rfl e2
         refine sp 1 hf rfl fun a hf=>?_
         rw [jg] at hf
         exact zD θ he hi hf 10 rfl rfl rfl hc
        ·intro E θ a w hD hi hp he hc
         have e3:=hp.o 3 rfl
         have hf:=he.h0.mP he 10 rfl e3
         refine sp 1 hf rfl fun a hf=>zD θ he hi hf 11 rfl rfl rfl hc
        ·intro E θ a w hD hi hp he hc
         have e4:=hp.o 4 rfl
         have hf:=(he.h0.mT he 3 rfl).mP he 11 rfl e4
         refine zN hf hc lE m7 rfl fun a w hf hc=>zD θ he hi hf 12 rfl rfl rfl hc
        ·intro E θ a w hD hi hp he hc
         have e4:=hp.o 4 rfl
         have hf:=he.h0.mP he 11 rfl e4
         refine zQ (v:=.agg #[i6 dj.Lo,i6 dj.Hi]) hf hc tQ rfl (fun w hc=>cJ (-1000000000) 1000000000 hc j4) fun a w hf hc=>zD θ he hi hf 13 rfl rfl rfl hc
        ·intro E θ a w hD hi hp he hc
         have e4:=hp.o 4 rfl
         have hf:=(he.h0.mT he 4 rfl).mP he 11 rfl e4
         refine sp 1 hf rfl fun a hf=>zD θ he hi hf 14 rfl rfl rfl hc
        ·intro E θ a w hD hi hp he hc
         have e4:=hp.o 4 rfl
         have hf:=(he.h0.mT he 4 rfl).mP he 11 rfl e4
         refine sp 1 hf rfl fun a hf=>zD θ he hi hf 15 rfl rfl rfl hc
        ·intro E θ a w hD hi hp he hc
         have e4:=hp.o 4 rfl
         have e8:=hp.o 8 rfl
         have hf:=(he.h0.mP he 11 rfl e4).mP he 15 rfl e8
         refine zP hf rfl (bL Tryz.underlying33 rfl) fun a hf=>zD θ he hi hf 16 rfl rfl rfl hc
        ·intro E θ a w hD hi hp he hc
         have e4:=hp.o 4 rfl
         have e9:=hp.o 9 rfl
         try dsimp only at hc
         rw [hi] at hc
         have hf:=(he.h0.mP he 11 rfl e4).mP he 16 rfl e9
         refine aJx (m:=(List.replicate ((l.length:Nat):Int).toNat (⟨0,0⟩:aB)).length) (rows:=(List.replicate ((l.length:Nat):Int).toNat (⟨0,0⟩:aB)).map aW) hf hc rfl rfl aCs rfl rfl (uN oj) rfl rfl (by simp [List.map_replicate,Value.cells]) (by simp) fun sd a w hf hc=>aP ?_
         refine bV ?_
         intro ds u ar
         replace hc:=((hc.drop k2).pick k0).pick k1
         refine ⟨(fY θ 80 ⟨sd,none,0,(fun _=>(none,0))⟩),he.put hi ar hf rfl [] trivial ⟨qq,qq,qq,qq,qq,qq,qq,qq,qq,qq,qq,qq,qq,qq,qq,qq,qq,qq,qq,qq,qq,qq,qq,qq,qq,qq,qq,qq,qq,qq,qq,trivial⟩,?_⟩
         try dsimp only
         rw [aU E 10]
         exact hc
        ·intro E θ a w hD hi hp he hc
         have e4:=hp.o 4 rfl
         have e5:=hp.o 5 rfl
         have e6:=hp.o 6 rfl
         have e7:=hp.o 7 rfl
         have bk:=hp.o 10 rfl
         try dsimp only at hc
         rw [bk] at hc
         have hf:=((((he.h0.mP he 11 rfl e4).mP he 12 rfl e5).mP he 13 rfl e6).mP he 14 rfl e7).mP he 17 rfl bk
         refine zQ (v:=.bool gd) hf hc en_8 rfl (fun w hc=>by obtain ⟨G1,cj,aq,hc,ap⟩:=lend hc k2; obtain ⟨G2,cm,cq,hc,cn⟩:=lend hc k5; obtain ⟨G3,b8,c1,hc,c0⟩:=lend hc k1; exact (kY (⟨bm,0⟩:aH) 7 dj l (List.replicate ((l.length:Nat):Int).toNat (⟨0,0⟩:aB)) ((aq.mono cm).mono b8) (cq.mono b8) c1 hc ky).mono fun e w h=>⟨h.1,((ap _ _ ((cn _ _ ((c0 _ _ h.2).unpick k1)).unpick k5)).unpick k2)⟩) fun a w hf hc=>zD θ he hi hf 18 rfl rfl rfl ?_
         try dsimp only
         rw [dH 11 bk]
         exact hc
        ·intro E θ a w hD hi hp he hc
         have e4:=hp.o 4 rfl
         have ax:=hp.o 11 rfl
         have hf:=(he.h0.mP he 11 rfl e4).mP he 18 rfl ax
         refine sp 1 hf rfl fun a hf=>?_
         rw [km] at hf
         exact zD θ he hi hf 19 rfl rfl rfl hc
        ·intro E θ a w hD hi hp he hc
         have e4:=hp.o 4 rfl
         have ck:=hp.o 12 rfl
         have hf:=(he.h0.mP he 11 rfl e4).mP he 19 rfl ck
         refine sp 1 hf rfl fun a hf=>zD θ he hi hf 20 rfl rfl rfl hc
        ·intro E θ a w hD hi hp he hc
         have c3:=hp.o 13 rfl
         have hf:=he.h0.mP he 20 rfl c3
         refine sp 1 hf rfl fun a hf=>zD θ he hi hf 21 rfl rfl rfl hc
        ·intro E θ a w hD hi hp he hc
         have ac:=hp.o 14 rfl
         have hf:=(he.h0.mT he 2 rfl).mP he 21 rfl ac
         refine zN hf hc aIe m8 rfl fun a w hf hc=>zD θ he hi hf 22 rfl rfl rfl hc
        ·intro E θ a w hD hi hp he hc
         have ac:=hp.o 14 rfl
         have hf:=(he.h0.mT he 5 rfl).mP he 21 rfl ac
         refine sp 1 hf rfl fun a hf=>zD θ he hi hf 23 rfl rfl rfl hc
        ·intro E θ a w hD hi hp he hc
         have ac:=hp.o 14 rfl
         have hf:=(he.h0.mT he 5 rfl).mP he 21 rfl ac
         refine sp 1 hf rfl fun a hf=>zD θ he hi hf 24 rfl rfl rfl hc
        ·intro E θ a w hD hi hp he hc
         have ac:=hp.o 14 rfl
         have cg:=hp.o 17 rfl
         have hf:=(he.h0.mP he 21 rfl ac).mP he 24 rfl cg
         refine zP hf rfl (bL Tryz.underlying22 rfl) fun a hf=>zD θ he hi hf 25 rfl rfl rfl hc
        ·intro E θ a w hD hi hp he hc
         have ac:=hp.o 14 rfl
         have cr:=hp.o 18 rfl
         try dsimp only at hc
         rw [hi] at hc
         have hf:=(he.h0.mP he 21 rfl ac).mP he 25 rfl cr
         refine aJx (m:=(List.replicate ((s.length:Nat):Int).toNat (0:Int)).length) (rows:=(List.replicate ((s.length:Nat):Int).toNat (0:Int)).map aD) hf hc rfl rfl fC rfl rfl (uN oc) rfl rfl (by simp [List.map_replicate,Value.cells]) (by simp) fun rk a w hf hc=>aP ?_
         refine bV ?_
         intro ds u ar
         replace hc:=hc.drop k1
         refine ⟨(fY θ 152 ⟨rk,none,0,(fun _=>(none,0))⟩),he.put hi ar hf rfl [] trivial ⟨qq,qq,qq,qq,qq,qq,qq,qq,qq,qq,qq,qq,qq,qq,qq,qq,qq,qq,qq,qq,qq,qq,qq,qq,qq,qq,qq,qq,qq,qq,qq,trivial⟩,?_⟩
         try dsimp only
         rw [aU E 19]
         exact hc
        ·intro E θ a w hD hi hp he hc
         have ac:=hp.o 14 rfl
         have hf:=he.h0.mP he 21 rfl ac
         refine zP hf rfl (bG (cells:=[i6 2000000,i6 1]) qN rfl rfl) fun a hf=>zD θ he hi hf 27 rfl rfl rfl hc
        ·intro E θ a w hD hi hp he hc
         have ac:=hp.o 14 rfl
         have cp:=hp.o 15 rfl
         have b6:=hp.o 16 rfl
         have b2:=hp.o 19 rfl
         have b3:=hp.o 20 rfl
         try dsimp only at hc
         rw [b2] at hc
         have hf:=((((he.h0.mP he 21 rfl ac).mP he 22 rfl cp).mP he 23 rfl b6).mP he 26 rfl b2).mP he 27 rfl b3
         refine zQ (v:=.bool gj) hf hc en_9 rfl (fun w hc=>by obtain ⟨G1,cj,aq,hc,ap⟩:=lend hc k3; obtain ⟨G2,cm,cq,hc,cn⟩:=lend hc k4; obtain ⟨G3,b8,c1,hc,c0⟩:=lend hc k0; exact (kX 1000000000 (⟨1,100,az⟩:bU) s (List.replicate ((s.length:Nat):Int).toNat (0:Int)) 13 2 (⟨2000000,1⟩:aM) ((aq.mono cm).mono b8) (cq.mono b8) c1 hc o0).mono fun e w h=>⟨h.1,((ap _ _ ((cn _ _ ((c0 _ _ h.2).unpick k0)).unpick k4)).unpick k3)⟩) fun a w hf hc=>zD θ he hi hf 28 rfl rfl rfl ?_
         try dsimp only
         rw [dH 21 b2]
         exact hc
        ·intro E θ a w hD hi hp he hc
         have ac:=hp.o 14 rfl
         have b4:=hp.o 21 rfl
         have hf:=(he.h0.mP he 21 rfl ac).mP he 28 rfl b4
         refine sp 1 hf rfl fun a hf=>zD θ he hi hf 29 rfl rfl rfl hc
        ·intro E θ a w hD hi hp he hc
         have ac:=hp.o 14 rfl
         have bd:=hp.o 22 rfl
         have hf:=(he.h0.mP he 21 rfl ac).mP he 29 rfl bd
         refine sp 1 hf rfl fun a hf=>zD θ he hi hf 30 rfl rfl rfl hc
        ·intro E θ a w M he hc
         have hf:=he.h0
         have e5:=M 5 rfl
         have e6:=M 6 rfl
         have e7:=M 7 rfl
         have e8:=M 8 rfl
         have e9:=M 9 rfl
         have bk:=M 10 rfl
         have ax:=M 11 rfl
         have ck:=M 12 rfl
         have cp:=M 15 rfl
         have b6:=M 16 rfl
         have cg:=M 17 rfl
         have cr:=M 18 rfl
         have b2:=M 19 rfl
         have b3:=M 20 rfl
         have b4:=M 21 rfl
         have bd:=M 22 rfl
         have dq:=M 23 rfl
         replace hf:=hf.more he 30 rfl (onP dq)
         replace hf:=hf.more he 29 rfl (onP bd)
         replace hf:=hf.more he 28 rfl (onP b4)
         replace hf:=hf.more he 27 rfl (onP b3)
         replace hf:=hf.more he 26 rfl (onP b2)
         replace hf:=hf.more he 25 rfl (onP cr)
         replace hf:=hf.more he 24 rfl (onP cg)
         replace hf:=hf.more he 23 rfl (onP b6)
         replace hf:=hf.more he 22 rfl (onP cp)
         replace hf:=hf.more he 19 rfl (onP ck)
         replace hf:=hf.more he 18 rfl (onP ax)
         replace hf:=hf.more he 17 rfl (onP bk)
         replace hf:=hf.more he 16 rfl (onP e9)
         replace hf:=hf.more he 15 rfl (onP e8)
         replace hf:=hf.more he 14 rfl (onP e7)
         replace hf:=hf.more he 13 rfl (onP e6)
         replace hf:=hf.more he 12 rfl (onP e5)
         replace hf:=hf.more he 6 rfl (onT)
         replace hf:=hf.more he 3 rfl (onT)
         replace hf:=hf.more he 2 rfl (onT)
         replace hf:=hf.more he 1 rfl (onT)
         replace hf:=hf.more he 0 rfl (onT)
         try dsimp only at hc
         rw [bk,b2] at hc
         exact ⟨(θ 80).b,(θ 152).b,hf.kp rfl,hc⟩
        rintro a w ⟨i8,iy,hf,hc⟩
        refine bV ?_
        obtain rfl:=sj hF
        replace hc:=(((hc.drop k6).drop k5).drop k1).drop k0
        exact ⟨hf.kp rfl,hc⟩
       ·replace hF:=fO hb hF
        try rw [hb] at hf
        try rw [hb] at hc
        have km:=hb
        clear hb
        replace hc:=hc.nilRow 0 0
        refine dJ (fun θ=>(⟨none,none,29,i6 J⟩::⟨none,none,30,pq a0⟩::⟨none,none,31,pq br⟩::⟨none,none,32,pq bf⟩::⟨none,none,33,.slice bi l.length bg⟩::⟨none,none,34,.slice ci s.length cf⟩::⟨none,none,393,i6 J⟩::⟨some 0,none,442,.agg #[i6 (min J 14),.slice b1 a6.length b0]⟩::⟨some 1,none,443,.agg #[i6 dg.Lo,i6 dg.Hi]⟩::⟨some 2,none,444,.bool gk⟩::⟨some 3,none,445,.bool false⟩::⟨some 4,none,446,.bool false⟩::⟨some 5,none,447,.agg #[.slice bz bm.length bv,i6 0]⟩::⟨some 6,none,448,.agg #[i6 dj.Lo,i6 dj.Hi]⟩::⟨some 7,none,449,.slice bi l.length bg⟩::⟨some 8,none,450,.slice bi l.length bg⟩::⟨some 9,none,451,i6 ((l.length:Nat):Int)⟩::⟨some 10,none,452,.slice (some ⟨(θ 80).b,0,none⟩) ((List.replicate ((l.length:Nat):Int).toNat (⟨0,0⟩:aB)).length) (((l.length:Nat):Int).toNat)⟩::⟨some 11,none,453,.bool gd⟩::⟨some 12,none,454,.bool true⟩::⟨some 13,none,455,.bool true⟩::⟨some 14,none,456,.bool true⟩::⟨some 15,none,457,undef⟩::⟨some 16,none,458,undef⟩::⟨some 17,none,459,undef⟩::⟨some 18,none,460,undef⟩::⟨some 19,none,461,undef⟩::⟨some 20,none,462,undef⟩::⟨some 21,none,463,undef⟩::⟨some 22,none,464,undef⟩::⟨some 23,none,465,.bool true⟩::[])) (fun E θ=>(bif E 10 then .row (some ⟨(θ 80).b,0,none⟩) (((l.length:Nat):Int).toNat) ((List.replicate ((l.length:Nat):Int).toNat (⟨0,0⟩:aB)).map aW) 37 2 else .row none 0 [] 0 0)::.row bz bv (bm.map aO) 48 2::.row bp bj (az.map aD) 3 1::.row b1 b0 (a6.map aK) 46 3::.row ci cf (s.map aD) 3 1::.row bi bg (l.map aS) 50 5::.box bf [.slice bz bm.length bv,i6 0] 32::.box br [i6 1,i6 100,.slice bp az.length bj] 40::.box a0 [i6 (min J 14),.slice b1 a6.length b0] 25::Lf) [] (fun a w=>∃ (jb:Nat),Has 516 a [(29,i6 J),(30,pq a0),(31,pq br),(32,pq bf),(393,i6 J),(447,.agg #[.slice bz bm.length bv,i6 0]),(448,.agg #[i6 dj.Lo,i6 dj.Hi]),(449,.slice bi l.length bg),(450,.slice bi l.length bg),(451,i6 ((l.length:Nat):Int)),(452,.slice (some ⟨jb,0,none⟩) ((List.replicate ((l.length:Nat):Int).toNat (⟨0,0⟩:aB)).length) (((l.length:Nat):Int).toNat)),(453,.bool gd),(454,.bool true),(457,undef),(458,undef),(459,undef),(460,undef),(461,undef),(462,undef),(463,undef),(464,undef),(465,.bool true)]∧Ctx G (.row (some ⟨jb,0,none⟩) (((l.length:Nat):Int).toNat) ((List.replicate ((l.length:Nat):Int).toNat (⟨0,0⟩:aB)).map aW) 37 2::.row bz bv (bm.map aO) 48 2::.row bp bj (az.map aD) 3 1::.row b1 b0 (a6.map aK) 46 3::.row ci cf (s.map aD) 3 1::.row bi bg (l.map aS) 50 5::.box bf [.slice bz bm.length bv,i6 0] 32::.box br [i6 1,i6 100,.slice bp az.length bj] 40::.box a0 [i6 (min J 14),.slice b1 a6.length b0] 25::Lf) w) aY (by kernel_rfl) (by kernel_rfl) (eY.of hf ⟨rfl,rfl,rfl,rfl,rfl,rfl,rfl,trivial,trivial,trivial,trivial,trivial,trivial,trivial,trivial,trivial,trivial,trivial,trivial,trivial,trivial,trivial,trivial,trivial,trivial,trivial,trivial,trivial,trivial,trivial,trivial,trivial⟩) hc ⟨?_,?_,?_,?_,?_,?_,?_,?_,?_,?_,?_,?_,?_,?_,?_,?_,?_,?_,?_,?_,?_,?_,?_,?_,trivial⟩ ?_ ?_
        ·intro E θ a w hD hi hp he hc
         have hf:=he.h0.mT he 1 rfl
         refine zN hf hc lN m8 rfl fun a w hf hc=>zD θ he hi hf 7 rfl rfl rfl hc
        ·intro E θ a w hD hi hp he hc
         have hf:=he.h0
         refine zQ (v:=.agg #[i6 dg.Lo,i6 dg.Hi]) hf hc tQ rfl (fun w hc=>cJ 0 1000000000 hc i4) fun a w hf hc=>zD θ he hi hf 8 rfl rfl rfl hc
        ·intro E θ a w hD hi hp he hc
         have e0:=hp.o 0 rfl
         have e1:=hp.o 1 rfl
         have hf:=(he.h0.mP he 7 rfl e0).mP he 8 rfl e1
         refine zQ (v:=.bool gk) hf hc aJg rfl (fun w hc=>by obtain ⟨G1,cj,aq,hc,ap⟩:=lend hc k3; exact (iC (⟨min J 14,a6⟩:aJ) 1000000000 dg aq hc i2).mono fun e w h=>⟨h.1,((ap _ _ h.2).unpick k3)⟩) fun a w hf hc=>zD θ he hi hf 9 rfl rfl rfl hc
        ·intro E θ a w hD hi hp he hc
         have e2:=hp.o 2 rfl
         have hf:=he.h0.mP he 9 rfl e2
         refine sp 1 hf rfl fun a hf=>?_
         rw [jg] at hf
         exact zD θ he hi hf 10 rfl rfl rfl hc
        ·intro E θ a w hD hi hp he hc
         have e3:=hp.o 3 rfl
         have hf:=he.h0.mP he 10 rfl e3
         refine sp 1 hf rfl fun a hf=>zD θ he hi hf 11 rfl rfl rfl hc
        ·intro E θ a w hD hi hp he hc
         have e4:=hp.o 4 rfl
         have hf:=(he.h0.mT he 3 rfl).mP he 11 rfl e4
         refine zN hf hc lE m6 rfl fun a w hf hc=>zD θ he hi hf 12 rfl rfl rfl hc
        ·intro E θ a w hD hi hp he hc
         have e4:=hp.o 4 rfl
         have hf:=he.h0.mP he 11 rfl e4
         refine zQ (v:=.agg #[i6 dj.Lo,i6 dj.Hi]) hf hc tQ rfl (fun w hc=>cJ (-1000000000) 1000000000 hc j4) fun a w hf hc=>zD θ he hi hf 13 rfl rfl rfl hc
        ·intro E θ a w hD hi hp he hc
         have e4:=hp.o 4 rfl
         have hf:=(he.h0.mT he 4 rfl).mP he 11 rfl e4
         refine sp 1 hf rfl fun a hf=>zD θ he hi hf 14 rfl rfl rfl hc
        ·intro E θ a w hD hi hp he hc
         have e4:=hp.o 4 rfl
         have hf:=(he.h0.mT he 4 rfl).mP he 11 rfl e4
         refine sp 1 hf rfl fun a hf=>zD θ he hi hf 15 rfl rfl rfl hc
        ·intro E θ a w hD hi hp he hc
         have e4:=hp.o 4 rfl
         have e8:=hp.o 8 rfl
         have hf:=(he.h0.mP he 11 rfl e4).mP he 15 rfl e8
         refine zP hf rfl (bL Tryz.underlying33 rfl) fun a hf=>zD θ he hi hf 16 rfl rfl rfl hc
        ·intro E θ a w hD hi hp he hc
         have e4:=hp.o 4 rfl
         have e9:=hp.o 9 rfl
         try dsimp only at hc
         rw [hi] at hc
         have hf:=(he.h0.mP he 11 rfl e4).mP he 16 rfl e9
         refine aJx (m:=(List.replicate ((l.length:Nat):Int).toNat (⟨0,0⟩:aB)).length) (rows:=(List.replicate ((l.length:Nat):Int).toNat (⟨0,0⟩:aB)).map aW) hf hc rfl rfl aCs rfl rfl (uN oj) rfl rfl (by simp [List.map_replicate,Value.cells]) (by simp) fun om a w hf hc=>aP ?_
         refine bV ?_
         intro ds u ar
         replace hc:=hc.drop k1
         refine ⟨(fY θ 80 ⟨om,none,0,(fun _=>(none,0))⟩),he.put hi ar hf rfl [] trivial ⟨qq,qq,qq,qq,qq,qq,qq,qq,qq,qq,qq,qq,qq,qq,qq,qq,qq,qq,qq,qq,qq,qq,qq,qq,qq,qq,qq,qq,qq,qq,qq,trivial⟩,?_⟩
         try dsimp only
         rw [aU E 10]
         exact hc
        ·intro E θ a w hD hi hp he hc
         have e4:=hp.o 4 rfl
         have e5:=hp.o 5 rfl
         have e6:=hp.o 6 rfl
         have e7:=hp.o 7 rfl
         have bk:=hp.o 10 rfl
         try dsimp only at hc
         rw [bk] at hc
         have hf:=((((he.h0.mP he 11 rfl e4).mP he 12 rfl e5).mP he 13 rfl e6).mP he 14 rfl e7).mP he 17 rfl bk
         refine zQ (v:=.bool gd) hf hc en_8 rfl (fun w hc=>by obtain ⟨G1,cj,aq,hc,ap⟩:=lend hc k1; obtain ⟨G2,cm,cq,hc,cn⟩:=lend hc k4; obtain ⟨G3,b8,c1,hc,c0⟩:=lend hc k0; exact (kY (⟨bm,0⟩:aH) 7 dj l (List.replicate ((l.length:Nat):Int).toNat (⟨0,0⟩:aB)) ((aq.mono cm).mono b8) (cq.mono b8) c1 hc ky).mono fun e w h=>⟨h.1,((ap _ _ ((cn _ _ ((c0 _ _ h.2).unpick k0)).unpick k4)).unpick k1)⟩) fun a w hf hc=>zD θ he hi hf 18 rfl rfl rfl ?_
         try dsimp only
         rw [dH 11 bk]
         exact hc
        ·intro E θ a w hD hi hp he hc
         have e4:=hp.o 4 rfl
         have ax:=hp.o 11 rfl
         have hf:=(he.h0.mP he 11 rfl e4).mP he 18 rfl ax
         refine sp 1 hf rfl fun a hf=>?_
         rw [km] at hf
         exact zD θ he hi hf 19 rfl rfl rfl hc
        ·intro E θ a w hD hi hp he hc
         have e4:=hp.o 4 rfl
         have ck:=hp.o 12 rfl
         have hf:=(he.h0.mP he 11 rfl e4).mP he 19 rfl ck
         refine sp 1 hf rfl fun a hf=>zD θ he hi hf 20 rfl rfl rfl hc
        ·intro E θ a w hD hi hp he hc
         have c3:=hp.o 13 rfl
         have hf:=he.h0.mP he 20 rfl c3
         refine sp 1 hf rfl fun a hf=>zD θ he hi hf 21 rfl rfl rfl hc
        ·intro E θ a w hD hi hp he hc
         have ac:=hp.o 14 rfl
         have hf:=(he.h0.mT he 2 rfl).mP he 21 rfl ac
         refine stS hf rfl rfl rfl fun a hf=>zD θ he hi hf 22 rfl rfl rfl hc
        ·intro E θ a w hD hi hp he hc
         have ac:=hp.o 14 rfl
         have hf:=(he.h0.mT he 5 rfl).mP he 21 rfl ac
         refine stS hf rfl rfl rfl fun a hf=>zD θ he hi hf 23 rfl rfl rfl hc
        ·intro E θ a w hD hi hp he hc
         have ac:=hp.o 14 rfl
         have hf:=(he.h0.mT he 5 rfl).mP he 21 rfl ac
         refine stS hf rfl rfl rfl fun a hf=>zD θ he hi hf 24 rfl rfl rfl hc
        ·intro E θ a w hD hi hp he hc
         have ac:=hp.o 14 rfl
         have cg:=hp.o 17 rfl
         have hf:=(he.h0.mP he 21 rfl ac).mP he 24 rfl cg
         refine stS hf rfl rfl rfl fun a hf=>zD θ he hi hf 25 rfl rfl rfl hc
        ·intro E θ a w hD hi hp he hc
         have ac:=hp.o 14 rfl
         have cr:=hp.o 18 rfl
         have hf:=(he.h0.mP he 21 rfl ac).mP he 25 rfl cr
         refine stS hf rfl rfl rfl fun a hf=>zD θ he hi hf 26 rfl rfl rfl hc
        ·intro E θ a w hD hi hp he hc
         have ac:=hp.o 14 rfl
         have hf:=he.h0.mP he 21 rfl ac
         refine stS hf rfl rfl rfl fun a hf=>zD θ he hi hf 27 rfl rfl rfl hc
        ·intro E θ a w hD hi hp he hc
         have ac:=hp.o 14 rfl
         have cp:=hp.o 15 rfl
         have b6:=hp.o 16 rfl
         have b2:=hp.o 19 rfl
         have b3:=hp.o 20 rfl
         have hf:=((((he.h0.mP he 21 rfl ac).mP he 22 rfl cp).mP he 23 rfl b6).mP he 26 rfl b2).mP he 27 rfl b3
         refine stS hf rfl rfl rfl fun a hf=>zD θ he hi hf 28 rfl rfl rfl hc
        ·intro E θ a w hD hi hp he hc
         have ac:=hp.o 14 rfl
         have b4:=hp.o 21 rfl
         have hf:=(he.h0.mP he 21 rfl ac).mP he 28 rfl b4
         refine stS hf rfl rfl rfl fun a hf=>zD θ he hi hf 29 rfl rfl rfl hc
        ·intro E θ a w hD hi hp he hc
         have ac:=hp.o 14 rfl
         have bd:=hp.o 22 rfl
         have hf:=(he.h0.mP he 21 rfl ac).mP he 29 rfl bd
         refine sp 1 hf rfl fun a hf=>zD θ he hi hf 30 rfl rfl rfl hc
        ·intro E θ a w M he hc
         have hf:=he.h0
         have e5:=M 5 rfl
         have e6:=M 6 rfl
         have e7:=M 7 rfl
         have e8:=M 8 rfl
         have e9:=M 9 rfl
         have bk:=M 10 rfl
         have ax:=M 11 rfl
         have ck:=M 12 rfl
         have cp:=M 15 rfl
         have b6:=M 16 rfl
         have cg:=M 17 rfl
         have cr:=M 18 rfl
         have b2:=M 19 rfl
         have b3:=M 20 rfl
         have b4:=M 21 rfl
         have bd:=M 22 rfl
         have dq:=M 23 rfl
         replace hf:=hf.more he 30 rfl (onP dq)
         replace hf:=hf.more he 29 rfl (onP bd)
         replace hf:=hf.more he 28 rfl (onP b4)
         replace hf:=hf.more he 27 rfl (onP b3)
         replace hf:=hf.more he 26 rfl (onP b2)
         replace hf:=hf.more he 25 rfl (onP cr)
         replace hf:=hf.more he 24 rfl (onP cg)
         replace hf:=hf.more he 23 rfl (onP b6)
         replace hf:=hf.more he 22 rfl (onP cp)
         replace hf:=hf.more he 19 rfl (onP ck)
         replace hf:=hf.more he 18 rfl (onP ax)
         replace hf:=hf.more he 17 rfl (onP bk)
         replace hf:=hf.more he 16 rfl (onP e9)
         replace hf:=hf.more he 15 rfl (onP e8)
         replace hf:=hf.more he 14 rfl (onP e7)
         replace hf:=hf.more he 13 rfl (onP e6)
         replace hf:=hf.more he 12 rfl (onP e5)
         replace hf:=hf.more he 6 rfl (onT)
         replace hf:=hf.more he 3 rfl (onT)
         replace hf:=hf.more he 2 rfl (onT)
         replace hf:=hf.more he 1 rfl (onT)
         replace hf:=hf.more he 0 rfl (onT)
         try dsimp only at hc
         rw [bk] at hc
         exact ⟨(θ 80).b,hf.kp rfl,hc⟩
        rintro a w ⟨jb,hf,hc⟩
        refine bV ?_
        obtain rfl:=sj hF
        replace hc:=((hc.drop k5).drop k4).drop k0
        exact ⟨hf.kp rfl,hc⟩
      ·replace hF:=fO hb hF
       try rw [hb] at hf
       try rw [hb] at hc
       have jg:=hb
       clear hb
       refine dJ (fun θ=>(⟨none,none,29,i6 J⟩::⟨none,none,30,pq a0⟩::⟨none,none,31,pq br⟩::⟨none,none,32,pq bf⟩::⟨none,none,33,.slice bi l.length bg⟩::⟨none,none,34,.slice ci s.length cf⟩::⟨none,none,393,i6 J⟩::⟨some 0,none,442,.agg #[i6 (min J 14),.slice b1 a6.length b0]⟩::⟨some 1,none,443,.agg #[i6 dg.Lo,i6 dg.Hi]⟩::⟨some 2,none,444,.bool gk⟩::⟨some 3,none,445,.bool true⟩::⟨some 4,none,446,.bool true⟩::⟨some 5,none,447,undef⟩::⟨some 6,none,448,undef⟩::⟨some 7,none,449,undef⟩::⟨some 8,none,450,undef⟩::⟨some 9,none,451,undef⟩::⟨some 10,none,452,undef⟩::⟨some 11,none,453,undef⟩::⟨some 12,none,454,undef⟩::⟨some 13,none,455,.bool true⟩::⟨some 14,none,456,.bool true⟩::⟨some 15,none,457,undef⟩::⟨some 16,none,458,undef⟩::⟨some 17,none,459,undef⟩::⟨some 18,none,460,undef⟩::⟨some 19,none,461,undef⟩::⟨some 20,none,462,undef⟩::⟨some 21,none,463,undef⟩::⟨some 22,none,464,undef⟩::⟨some 23,none,465,.bool true⟩::[])) (fun E θ=>.row bz bv (bm.map aO) 48 2::.row bp bj (az.map aD) 3 1::.row b1 b0 (a6.map aK) 46 3::.row ci cf (s.map aD) 3 1::.row bi bg (l.map aS) 50 5::.box bf [.slice bz bm.length bv,i6 0] 32::.box br [i6 1,i6 100,.slice bp az.length bj] 40::.box a0 [i6 (min J 14),.slice b1 a6.length b0] 25::Lf) [] (fun a w=>Has 516 a [(29,i6 J),(30,pq a0),(31,pq br),(32,pq bf),(393,i6 J),(447,undef),(448,undef),(449,undef),(450,undef),(451,undef),(452,undef),(453,undef),(454,undef),(457,undef),(458,undef),(459,undef),(460,undef),(461,undef),(462,undef),(463,undef),(464,undef),(465,.bool true)]∧Ctx G (.row bz bv (bm.map aO) 48 2::.row bp bj (az.map aD) 3 1::.row b1 b0 (a6.map aK) 46 3::.row ci cf (s.map aD) 3 1::.row bi bg (l.map aS) 50 5::.box bf [.slice bz bm.length bv,i6 0] 32::.box br [i6 1,i6 100,.slice bp az.length bj] 40::.box a0 [i6 (min J 14),.slice b1 a6.length b0] 25::Lf) w) aY (by kernel_rfl) (by kernel_rfl) (eY.of hf ⟨rfl,rfl,rfl,rfl,rfl,rfl,rfl,trivial,trivial,trivial,trivial,trivial,trivial,trivial,trivial,trivial,trivial,trivial,trivial,trivial,trivial,trivial,trivial,trivial,trivial,trivial,trivial,trivial,trivial,trivial,trivial,trivial⟩) hc ⟨?_,?_,?_,?_,?_,?_,?_,?_,?_,?_,?_,?_,?_,?_,?_,?_,?_,?_,?_,?_,?_,?_,?_,?_,trivial⟩ ?_ ?_
       ·intro E θ a w hD hi hp he hc
        have hf:=he.h0.mT he 1 rfl
        refine zN hf hc lN m7 rfl fun a w hf hc=>zD θ he hi hf 7 rfl rfl rfl hc
       ·intro E θ a w hD hi hp he hc
        have hf:=he.h0
        refine zQ (v:=.agg #[i6 dg.Lo,i6 dg.Hi]) hf hc tQ rfl (fun w hc=>cJ 0 1000000000 hc i4) fun a w hf hc=>zD θ he hi hf 8 rfl rfl rfl hc
       ·intro E θ a w hD hi hp he hc
        have e0:=hp.o 0 rfl
        have e1:=hp.o 1 rfl
        have hf:=(he.h0.mP he 7 rfl e0).mP he 8 rfl e1
        refine zQ (v:=.bool gk) hf hc aJg rfl (fun w hc=>by obtain ⟨G1,cj,aq,hc,ap⟩:=lend hc k2; exact (iC (⟨min J 14,a6⟩:aJ) 1000000000 dg aq hc i2).mono fun e w h=>⟨h.1,((ap _ _ h.2).unpick k2)⟩) fun a w hf hc=>zD θ he hi hf 9 rfl rfl rfl hc
       ·intro E θ a w hD hi hp he hc
        have e2:=hp.o 2 rfl
        have hf:=he.h0.mP he 9 rfl e2
        refine sp 1 hf rfl fun a hf=>?_
        rw [jg] at hf
        exact zD θ he hi hf 10 rfl rfl rfl hc
       ·intro E θ a w hD hi hp he hc
        have e3:=hp.o 3 rfl
        have hf:=he.h0.mP he 10 rfl e3
        refine sp 1 hf rfl fun a hf=>zD θ he hi hf 11 rfl rfl rfl hc
       ·intro E θ a w hD hi hp he hc
        have e4:=hp.o 4 rfl
        have hf:=(he.h0.mT he 3 rfl).mP he 11 rfl e4
        refine stS hf rfl rfl rfl fun a hf=>zD θ he hi hf 12 rfl rfl rfl hc
       ·intro E θ a w hD hi hp he hc
        have e4:=hp.o 4 rfl
        have hf:=he.h0.mP he 11 rfl e4
        refine stS hf rfl rfl rfl fun a hf=>zD θ he hi hf 13 rfl rfl rfl hc
       ·intro E θ a w hD hi hp he hc
        have e4:=hp.o 4 rfl
        have hf:=(he.h0.mT he 4 rfl).mP he 11 rfl e4
        refine stS hf rfl rfl rfl fun a hf=>zD θ he hi hf 14 rfl rfl rfl hc
       ·intro E θ a w hD hi hp he hc
        have e4:=hp.o 4 rfl
        have hf:=(he.h0.mT he 4 rfl).mP he 11 rfl e4
        refine stS hf rfl rfl rfl fun a hf=>zD θ he hi hf 15 rfl rfl rfl hc
       ·intro E θ a w hD hi hp he hc
        have e4:=hp.o 4 rfl
        have e8:=hp.o 8 rfl
        have hf:=(he.h0.mP he 11 rfl e4).mP he 15 rfl e8
        refine stS hf rfl rfl rfl fun a hf=>zD θ he hi hf 16 rfl rfl rfl hc
       ·intro E θ a w hD hi hp he hc
        have e4:=hp.o 4 rfl
        have e9:=hp.o 9 rfl
        have hf:=(he.h0.mP he 11 rfl e4).mP he 16 rfl e9
        refine stS hf rfl rfl rfl fun a hf=>zD θ he hi hf 17 rfl rfl rfl hc
       ·intro E θ a w hD hi hp he hc
        have e4:=hp.o 4 rfl
        have e5:=hp.o 5 rfl
        have e6:=hp.o 6 rfl
        have e7:=hp.o 7 rfl
        have bk:=hp.o 10 rfl
        have hf:=((((he.h0.mP he 11 rfl e4).mP he 12 rfl e5).mP he 13 rfl e6).mP he 14 rfl e7).mP he 17 rfl bk
        refine stS hf rfl rfl rfl fun a hf=>zD θ he hi hf 18 rfl rfl rfl hc
       ·intro E θ a w hD hi hp he hc
        have e4:=hp.o 4 rfl
        have ax:=hp.o 11 rfl
        have hf:=(he.h0.mP he 11 rfl e4).mP he 18 rfl ax
        refine stS hf rfl rfl rfl fun a hf=>zD θ he hi hf 19 rfl rfl rfl hc
       ·intro E θ a w hD hi hp he hc
        have e4:=hp.o 4 rfl
        have ck:=hp.o 12 rfl
        have hf:=(he.h0.mP he 11 rfl e4).mP he 19 rfl ck
        refine sp 1 hf rfl fun a hf=>zD θ he hi hf 20 rfl rfl rfl hc
       ·intro E θ a w hD hi hp he hc
        have c3:=hp.o 13 rfl
        have hf:=he.h0.mP he 20 rfl c3
        refine sp 1 hf rfl fun a hf=>zD θ he hi hf 21 rfl rfl rfl hc
       ·intro E θ a w hD hi hp he hc
        have ac:=hp.o 14 rfl
        have hf:=(he.h0.mT he 2 rfl).mP he 21 rfl ac
        refine stS hf rfl rfl rfl fun a hf=>zD θ he hi hf 22 rfl rfl rfl hc
       ·intro E θ a w hD hi hp he hc
        have ac:=hp.o 14 rfl
        have hf:=(he.h0.mT he 5 rfl).mP he 21 rfl ac
        refine stS hf rfl rfl rfl fun a hf=>zD θ he hi hf 23 rfl rfl rfl hc
       ·intro E θ a w hD hi hp he hc
        have ac:=hp.o 14 rfl
        have hf:=(he.h0.mT he 5 rfl).mP he 21 rfl ac
        refine stS hf rfl rfl rfl fun a hf=>zD θ he hi hf 24 rfl rfl rfl hc
       ·intro E θ a w hD hi hp he hc
        have ac:=hp.o 14 rfl
        have cg:=hp.o 17 rfl
        have hf:=(he.h0.mP he 21 rfl ac).mP he 24 rfl cg
        refine stS hf rfl rfl rfl fun a hf=>zD θ he hi hf 25 rfl rfl rfl hc
       ·intro E θ a w hD hi hp he hc
        have ac:=hp.o 14 rfl
        have cr:=hp.o 18 rfl
        have hf:=(he.h0.mP he 21 rfl ac).mP he 25 rfl cr
        refine stS hf rfl rfl rfl fun a hf=>zD θ he hi hf 26 rfl rfl rfl hc
       ·intro E θ a w hD hi hp he hc
        have ac:=hp.o 14 rfl
        have hf:=he.h0.mP he 21 rfl ac
        refine stS hf rfl rfl rfl fun a hf=>zD θ he hi hf 27 rfl rfl rfl hc
       ·intro E θ a w hD hi hp he hc
        have ac:=hp.o 14 rfl
        have cp:=hp.o 15 rfl
        have b6:=hp.o 16 rfl
        have b2:=hp.o 19 rfl
        have b3:=hp.o 20 rfl
        have hf:=((((he.h0.mP he 21 rfl ac).mP he 22 rfl cp).mP he 23 rfl b6).mP he 26 rfl b2).mP he 27 rfl b3
        refine stS hf rfl rfl rfl fun a hf=>zD θ he hi hf 28 rfl rfl rfl hc
       ·intro E θ a w hD hi hp he hc
        have ac:=hp.o 14 rfl
        have b4:=hp.o 21 rfl
        have hf:=(he.h0.mP he 21 rfl ac).mP he 28 rfl b4
        refine stS hf rfl rfl rfl fun a hf=>zD θ he hi hf 29 rfl rfl rfl hc
       ·intro E θ a w hD hi hp he hc
        have ac:=hp.o 14 rfl
        have bd:=hp.o 22 rfl
        have hf:=(he.h0.mP he 21 rfl ac).mP he 29 rfl bd
        refine sp 1 hf rfl fun a hf=>zD θ he hi hf 30 rfl rfl rfl hc
       ·intro E θ a w M he hc
        have hf:=he.h0
        have e5:=M 5 rfl
        have e6:=M 6 rfl
        have e7:=M 7 rfl
        have e8:=M 8 rfl
        have e9:=M 9 rfl
        have bk:=M 10 rfl
        have ax:=M 11 rfl
        have ck:=M 12 rfl
        have cp:=M 15 rfl
        have b6:=M 16 rfl
        have cg:=M 17 rfl
        have cr:=M 18 rfl
        have b2:=M 19 rfl
        have b3:=M 20 rfl
        have b4:=M 21 rfl
        have bd:=M 22 rfl
        have dq:=M 23 rfl
        replace hf:=hf.more he 30 rfl (onP dq)
        replace hf:=hf.more he 29 rfl (onP bd)
        replace hf:=hf.more he 28 rfl (onP b4)
        replace hf:=hf.more he 27 rfl (onP b3)
        replace hf:=hf.more he 26 rfl (onP b2)
        replace hf:=hf.more he 25 rfl (onP cr)
        replace hf:=hf.more he 24 rfl (onP cg)
        replace hf:=hf.more he 23 rfl (onP b6)
        replace hf:=hf.more he 22 rfl (onP cp)
        replace hf:=hf.more he 19 rfl (onP ck)
        replace hf:=hf.more he 18 rfl (onP ax)
        replace hf:=hf.more he 17 rfl (onP bk)
        replace hf:=hf.more he 16 rfl (onP e9)
        replace hf:=hf.more he 15 rfl (onP e8)
        replace hf:=hf.more he 14 rfl (onP e7)
        replace hf:=hf.more he 13 rfl (onP e6)
        replace hf:=hf.more he 12 rfl (onP e5)
        replace hf:=hf.more he 6 rfl (onT)
        replace hf:=hf.more he 3 rfl (onT)
        replace hf:=hf.more he 2 rfl (onT)
        replace hf:=hf.more he 1 rfl (onT)
        replace hf:=hf.more he 0 rfl (onT)
        exact ⟨hf.kp rfl,hc⟩
       rintro a w ⟨hf,hc⟩
       refine bV ?_
       obtain rfl:=sj hF
       replace hc:=(hc.drop k4).drop k3
       exact ⟨hf.kp rfl,hc⟩
     rintro a w ⟨hf,hc⟩
     refine rd _ _ ?_
     refine zI hf rfl hF ?_ ?_ <;> clear hF <;> intro hF
     ·refine zS fun K h=>sp 1 hf rfl fun a hf=>zT h ?_
      refine wp_ret ?_
      refine aN ?_
      refine bI ?_
      refine aN ?_
      refine aN ?_
      have he:=sj hF
      rw [← he] at dp
      replace hF:=nf _ dp
      refine bI ?_
      refine aN ?_
      obtain rfl:=hF
      replace hc:=(((((hc.drop k5).drop k4).drop k3).drop k2).drop k1).drop k0
      exact zO1 Tryz.results3 hf rfl ⟨rfl,hc⟩
     ·refine wp_skip ?_
      refine rz _ _ ?_
      refine zS fun K h=>zN hf hc aIe m4 rfl fun a w hf hc=>?_
      obtain ⟨ip,q2,hF⟩:=aA hF
      obtain ⟨G1,cj,aq,hc,ap⟩:=lend hc k1
      refine zC hf aIh rfl (pJ 0 (⟨1,100,az⟩:bU) aq hc q2) ?_
      rintro _ w ⟨va,uz,rfl,hc⟩
      refine ⟨_,rfl,fun a hf=>?_⟩
      replace hc:=ap _ _ hc
      refine sp 5 hf rfl fun a hf=>zT h ?_
      refine zS fun K h=>zN hf hc lN m6 rfl fun a w hf hc=>?_
      obtain ⟨dk,oq,hF⟩:=aA hF
      refine zQ (v:=i6 dk) hf hc aEr rfl (fun w hc=>by obtain ⟨G1,cj,aq,hc,ap⟩:=lend hc k3; exact (mX (⟨min J 14,a6⟩:aJ) aq hc oq).mono fun e w h=>⟨h.1,((ap _ _ h.2).unpick k3)⟩) fun a w hf hc=>sp 4 hf rfl fun a hf=>cP 3 (fun a=>Has 516 a [(29,i6 J),(30,pq a0),(32,pq bf),(393,i6 J),(37,i6 ip.2),(471,.agg #[i6 (min J 14),.slice b1 a6.length b0]),(472,i6 dk),(473,.bool (dk == 0)),(474,i6 J),(475,.bool (decide (0 < J))),(476,.bool (decide (0 < J))),(479,.bool ((decide (0 < J)) && (decide (J < 13))))]) hc ?_ ?_
      ·cases hb:(decide (0 < J))
       ·rw [hb] at hf
        refine stS hf rfl rfl rfl fun a hf=>stS hf rfl rfl rfl fun a hf=>sp 1 hf rfl fun a hf=>aP ⟨hf.kp rfl,hc⟩
       ·rw [hb] at hf
        refine sp 3 hf rfl fun a hf=>aP ⟨hf.kp rfl,hc⟩
      intro a w ⟨hf,hc⟩
      refine zP hf rfl (pNeB Tryz.underlying4 rfl rfl) fun a hf=>sp 1 hf rfl fun a hf=>?_
      obtain ⟨ig,jx,hF⟩:=aA hF
      refine cP 11 (fun a=>Has 516 a [(29,i6 J),(30,pq a0),(32,pq bf),(393,i6 J),(37,i6 ip.2),(471,.agg #[i6 (min J 14),.slice b1 a6.length b0]),(472,i6 dk),(473,.bool (dk == 0)),(474,i6 J),(475,.bool (decide (0 < J))),(476,.bool (decide (0 < J))),(479,.bool ((decide (0 < J)) && (decide (J < 13)))),(480,.bool ((dk == 0) != ((decide (0 < J)) && (decide (J < 13))))),(481,.bool ((dk == 0) != ((decide (0 < J)) && (decide (J < 13))))),(492,.bool ig)]) hc ?_ ?_
      ·cases hb:((dk == 0) != ((decide (0 < J)) && (decide (J < 13))))
       ·rw [hb] at hf
        have hF:=fN hb jx
        refine zN hf hc lE m4 rfl fun a w hf hc=>?_
        obtain ⟨ix,ni,hF⟩:=aA hF
        refine zQ (v:=i6 ix) hf hc aHa rfl (fun w hc=>by obtain ⟨G1,cj,aq,hc,ap⟩:=lend hc k2; exact (kH (⟨bm,0⟩:aH) aq hc ni).mono fun e w h=>⟨h.1,((ap _ _ h.2).unpick k2)⟩) fun a w hf hc=>sp 4 hf rfl fun a hf=>cP 3 (fun a=>Has 516 a [(29,i6 J),(30,pq a0),(32,pq bf),(393,i6 J),(37,i6 ip.2),(471,.agg #[i6 (min J 14),.slice b1 a6.length b0]),(472,i6 dk),(473,.bool (dk == 0)),(474,i6 J),(475,.bool (decide (0 < J))),(476,.bool (decide (0 < J))),(479,.bool ((decide (0 < J)) && (decide (J < 13)))),(480,.bool false),(481,.bool false),(482,.agg #[.slice bz bm.length bv,i6 0]),(483,i6 ix),(484,.bool (ix == 0)),(485,i6 J),(486,.bool (decide (1 < J))),(487,.bool (decide (1 < J))),(490,.bool ((decide (1 < J)) && (decide (J < 13))))]) hc ?_ ?_
        ·cases hb:(decide (1 < J))
         ·rw [hb] at hf
          refine stS hf rfl rfl rfl fun a hf=>stS hf rfl rfl rfl fun a hf=>sp 1 hf rfl fun a hf=>aP ⟨hf.kp rfl,hc⟩
         ·rw [hb] at hf
          refine sp 3 hf rfl fun a hf=>aP ⟨hf.kp rfl,hc⟩
        intro a w ⟨hf,hc⟩
        refine zP hf rfl (pNeB Tryz.underlying4 rfl rfl) fun a hf=>sp 1 hf rfl fun a hf=>?_
        obtain rfl:=sj hF
        exact aP ⟨hf.kp rfl,hc⟩
       ·rw [hb] at hf
        have hF:=fO hb jx
        obtain rfl:=sj hF
        refine stS hf rfl rfl rfl fun a hf=>stS hf rfl rfl rfl fun a hf=>stS hf rfl rfl rfl fun a hf=>stS hf rfl rfl rfl fun a hf=>stS hf rfl rfl rfl fun a hf=>stS hf rfl rfl rfl fun a hf=>stS hf rfl rfl rfl fun a hf=>stS hf rfl rfl rfl fun a hf=>stS hf rfl rfl rfl fun a hf=>stS hf rfl rfl rfl fun a hf=>sp 1 hf rfl fun a hf=>aP ⟨hf.kp rfl,hc⟩
      intro a w ⟨hf,hc⟩
      refine sp 1 hf rfl fun a hf=>cP 6 (fun a=>Has 516 a [(29,i6 J),(30,pq a0),(32,pq bf),(393,i6 J),(37,i6 ip.2),(471,.agg #[i6 (min J 14),.slice b1 a6.length b0]),(472,i6 dk),(473,.bool (dk == 0)),(474,i6 J),(475,.bool (decide (0 < J))),(476,.bool (decide (0 < J))),(479,.bool ((decide (0 < J)) && (decide (J < 13)))),(480,.bool ((dk == 0) != ((decide (0 < J)) && (decide (J < 13))))),(481,.bool ((dk == 0) != ((decide (0 < J)) && (decide (J < 13))))),(492,.bool ig),(493,.bool ig),(499,.bool (ig || ((ip.2 == 0) != (decide (J < 41)))))]) hc ?_ ?_
      ·cases hb:ig
       ·rw [hb] at hf
        try rw [hb] at hc
        refine sp 4 hf rfl fun a hf=>zP hf rfl (pNeB Tryz.underlying4 rfl rfl) fun a hf=>sp 1 hf rfl fun a hf=>aP ⟨hf.kp rfl,hc⟩
       ·rw [hb] at hf
        try rw [hb] at hc
        refine stS hf rfl rfl rfl fun a hf=>stS hf rfl rfl rfl fun a hf=>stS hf rfl rfl rfl fun a hf=>stS hf rfl rfl rfl fun a hf=>stS hf rfl rfl rfl fun a hf=>sp 1 hf rfl fun a hf=>aP ⟨hf.kp rfl,hc⟩
      intro a w ⟨hf,hc⟩
      refine zT h ?_
      refine zI hf rfl hF ?_ ?_ <;> clear hF <;> intro hF
      ·refine zS fun K h=>sp 1 hf rfl fun a hf=>zT h ?_
       refine wp_ret ?_
       refine bI ?_
       refine aN ?_
       refine aN ?_
       have he:=sj hF
       rw [← he] at dp
       replace hF:=nf _ dp
       refine bI ?_
       refine aN ?_
       obtain rfl:=hF
       replace hc:=((((((hc.drop k6).drop k5).drop k4).drop k3).drop k2).drop k1).drop k0
       exact zO1 Tryz.results3 hf rfl ⟨rfl,hc⟩
      ·refine wp_skip ?_
       refine rs _ _ ?_
       refine bR ?_
       refine sp 2 hf rfl fun a hf=>aP ?_
       replace hc:=((((((hc.drop k6).drop k5).drop k4).drop k3).drop k2).drop k1).drop k0
       exact qk (W (J + 1)) _ _ (sj hF).symm ⟨hf.kp rfl,hc⟩
    have t7:∀ r,mm=.out r→r=p3:=by
     rintro r rfl
     exact sj hF
    replace hc:=hc.nilRow 50 5
    replace hc:=hc.nilRow 3 1
    replace hc:=hc.nilRow 48 2
    replace hc:=hc.nilRow 3 1
    replace hc:=hc.nilRow 46 3
    replace hc:=((hc.pick k0).pick k1).pick k2
    refine cX N (cV (S:=S23) (x:=mm) ?_ N (([]:List aF),([]:List Int),0,([]:List aG),([]:List Int),([]:List aI)) _ _ ⟨none,0,none,0,none,0,none,0,none,0,hf.kp rfl,hc⟩ qc)
    clear hF hf hc
    rintro ⟨l,s,bc,a6,az,bm⟩ ja a w KB23 ⟨bi,bg,ci,cf,b1,b0,bp,bj,bz,bv,hf,hc⟩ hF ik pc
    unfold kJ at hF
    refine zS fun K h=>sp 1 hf rfl fun a hf=>zT h ?_
    refine wp_seq_k fun K31 rn=>zI hf rfl hF ?_ ?_ <;> clear hF <;> intro hF
    ·refine wp_skip ?_
     refine rn _ _ ?_
     refine wp_seq_k fun K32 sq=>?_
     have mn:∀ (iu:List aF) (df:List Int) (iq:List aG) (iv:List Int) (gf:List aI) (jn:Option Addr) (jk:Nat) (ji:Option Addr) (jd:Nat) (g7:Option Addr) (g6:Nat) (gx:Option Addr) (ib:Nat) (gy:Option Addr) (g0:Nat) a w,Has 516 a [(29,i6 J),(30,pq a0),(31,pq br),(32,pq bf),(33,.slice jn iu.length jk),(34,.slice ji df.length jd),(393,i6 J),(400,i6 J),(401,i6 bc)]→Ctx G (.row gy g0 (gf.map aO) 48 2::.row gx ib (iv.map aD) 3 1::.row g7 g6 (iq.map aK) 46 3::.row ji jd (df.map aD) 3 1::.row jn jk (iu.map aS) 50 5::.box bf [.slice gy gf.length g0,i6 0] 32::.box br [i6 1,i6 100,.slice gx iv.length ib] 40::.box a0 [i6 (min J 14),.slice g7 iq.length g6] 25::Lf) w→jY N bc iu df iq iv gf=some ja→K32 a w:=by
      repeat (clear hF)
      repeat (clear hc)
      repeat (clear hf)
      intro iu df iq iv gf jn jk ji jd g7 g6 gx ib gy g0 a w hf hc hF
      unfold jY at hF
      refine sq _ _ ?_
      refine bR ?_
      refine sp 2 hf rfl fun a hf=>aP ?_
      exact pc (iu,df,W (bc + 1),iq,iv,gf) _ _ (sj hF).symm ⟨jn,jk,ji,jd,g7,g6,gx,ib,gy,g0,hf.kp rfl,hc⟩
     refine wp_block ?_
     refine zS fun K h=>sp 2 hf rfl fun a hf=>zT h ?_
     refine wp_seq_k fun K34 q4=>?_
     have ka:∀ (cz:List aG) (db:Option Addr) (di:Nat) a w,Has 516 a [(29,i6 J),(30,pq a0),(31,pq br),(32,pq bf),(33,.slice bi l.length bg),(34,.slice ci s.length cf),(35,i6 bc),(393,i6 J),(400,i6 J),(401,i6 bc)]→Ctx G (.row bz bv (bm.map aO) 48 2::.row bp bj (az.map aD) 3 1::.row db di (cz.map aK) 46 3::.row ci cf (s.map aD) 3 1::.row bi bg (l.map aS) 50 5::.box bf [.slice bz bm.length bv,i6 0] 32::.box br [i6 1,i6 100,.slice bp az.length bj] 40::.box a0 [i6 (min J 14),.slice db cz.length di] 25::Lf) w→kI N l s bc az bm cz=some ja→K34 a w:=by
      repeat (clear hF)
      repeat (clear hc)
      repeat (clear hf)
      intro cz db di a w hf hc hF
      unfold kI at hF
      refine q4 _ _ ?_
      refine wp_seq_k fun K35 q9=>?_
      have md:∀ (b5:List Int) (dn:List aI) (dx:Option Addr) (dv:Nat) (du:Option Addr) (dt:Nat) a w,Has 516 a [(29,i6 J),(30,pq a0),(31,pq br),(32,pq bf),(33,.slice bi l.length bg),(34,.slice dx b5.length dv),(35,i6 bc),(393,i6 J),(400,i6 J),(401,i6 bc)]→Ctx G (.row du dt (dn.map aO) 48 2::.row bp bj (az.map aD) 3 1::.row db di (cz.map aK) 46 3::.row dx dv (b5.map aD) 3 1::.row bi bg (l.map aS) 50 5::.box bf [.slice du dn.length dt,i6 0] 32::.box br [i6 1,i6 100,.slice bp az.length bj] 40::.box a0 [i6 (min J 14),.slice db cz.length di] 25::Lf) w→kM N l bc az cz b5 dn=some ja→K35 a w:=by
       repeat (clear hF)
       repeat (clear hc)
       repeat (clear hf)
       intro b5 dn dx dv du dt a w hf hc hF
       unfold kM at hF
       refine q9 _ _ ?_
       refine zS fun K h=>sp 2 hf rfl fun a hf=>zT h ?_
       refine zI hf rfl hF ?_ ?_ <;> clear hF <;> intro hF
       ·obtain ⟨b9,nq,hF⟩:=aA hF
        obtain ⟨t0,oa,hF⟩:=aA hF
        obtain ⟨uj,n4,hF⟩:=aA hF
        replace hc:=hc.nilRow 0 0
        replace hc:=hc.nilRow 0 0
        refine dJ (fun θ=>[⟨none,none,29,i6 J⟩,⟨none,none,30,pq a0⟩,⟨none,none,31,pq br⟩,⟨none,none,32,pq bf⟩,⟨none,some 9,33,.slice bi l.length bg⟩,⟨none,none,34,.slice dx b5.length dv⟩,⟨none,none,393,i6 J⟩,⟨none,none,400,i6 J⟩,⟨none,none,401,i6 bc⟩,⟨some 0,none,431,.slice bi l.length bg⟩,⟨some 1,none,432,.agg #[i6 b9.Lo,i6 b9.Hi]⟩,⟨some 2,none,433,.agg #[i6 0,i6 0,i6 b9.Lo,i6 b9.Hi,.bool false]⟩,⟨some 3,none,434,.slice (some ⟨(θ 24).b,0,none⟩) 1 1⟩,⟨some 4,none,435,.slice ((θ 32).p) ((l++[(⟨(⟨0,0⟩:aE),b9,false⟩:aF)]).length) ((θ 32).c)⟩,⟨some 5,none,436,.pointer (some ⟨br,2,none⟩)⟩,⟨some 6,none,437,.slice bp az.length bj⟩,⟨some 7,none,438,.slice (some ⟨(θ 56).b,0,none⟩) 1 1⟩,⟨some 8,none,439,.slice ((θ 64).p) ((az++[1000000000]).length) ((θ 64).c)⟩,⟨some 9,none,33,.slice ((θ 32).p) ((l++[(⟨(⟨0,0⟩:aE),b9,false⟩:aF)]).length) ((θ 32).c)⟩,⟨some 10,none,440,.pointer (some ⟨br,2,none⟩)⟩]) (fun E θ=>(bif E 7 then .row (some ⟨(θ 56).b,0,none⟩) 1 (([1000000000]:List Int).map aD) 3 1 else .row none 0 [] 0 0)::(bif E 3 then .row (some ⟨(θ 24).b,0,none⟩) 1 (([(⟨(⟨0,0⟩:aE),b9,false⟩:aF)]:List aF).map aS) 50 5 else .row none 0 [] 0 0)::.row du dt (dn.map aO) 48 2::(bif E 8 then .row ((θ 64).p) ((θ 64).c) ((az++[1000000000]).map aD) 3 1 else .row bp bj (az.map aD) 3 1)::.row db di (cz.map aK) 46 3::.row dx dv (b5.map aD) 3 1::(bif E 4 then .row ((θ 32).p) ((θ 32).c) ((l++[(⟨(⟨0,0⟩:aE),b9,false⟩:aF)]).map aS) 50 5 else .row bi bg (l.map aS) 50 5)::.box bf [.slice du dn.length dt,i6 0] 32::(bif E 11 then .box br [i6 1,i6 100,.slice ((θ 64).p) ((az++[1000000000]).length) ((θ 64).c)] 40 else .box br [i6 1,i6 100,.slice bp az.length bj] 40)::.box a0 [i6 (min J 14),.slice db cz.length di] 25::Lf) [(9,0),(9,4),(11,6),(11,8)] (fun a w=>∃ (gv:Option Addr) (gs:Nat) (mg:Nat) (kj:Nat) (g2:Option Addr) (ia:Nat),Has 516 a [(29,i6 J),(30,pq a0),(31,pq br),(32,pq bf),(34,.slice dx b5.length dv),(393,i6 J),(400,i6 J),(401,i6 bc),(33,.slice gv ((l++[(⟨(⟨0,0⟩:aE),b9,false⟩:aF)]).length) gs)]∧Ctx G (.row (some ⟨mg,0,none⟩) 1 (([1000000000]:List Int).map aD) 3 1::.row (some ⟨kj,0,none⟩) 1 (([(⟨(⟨0,0⟩:aE),b9,false⟩:aF)]:List aF).map aS) 50 5::.row du dt (dn.map aO) 48 2::.row g2 ia ((az++[1000000000]).map aD) 3 1::.row db di (cz.map aK) 46 3::.row dx dv (b5.map aD) 3 1::.row gv gs ((l++[(⟨(⟨0,0⟩:aE),b9,false⟩:aF)]).map aS) 50 5::.box bf [.slice du dn.length dt,i6 0] 32::.box br [i6 1,i6 100,.slice g2 ((az++[1000000000]).length) ia] 40::.box a0 [i6 (min J 14),.slice db cz.length di] 25::Lf) w) aY (by kernel_rfl) (by kernel_rfl) (eY.of hf ⟨rfl,rfl,rfl,rfl,rfl,rfl,rfl,rfl,rfl,trivial,trivial,trivial,trivial,trivial,trivial,trivial,trivial,trivial,trivial,trivial,trivial⟩) hc ⟨?_,?_,?_,?_,?_,?_,?_,?_,?_,?_,?_,?_,trivial⟩ ?_ ?_
        ·intro E θ a w hD hi hp he hc
         have e9:=hD.f 0 rfl hi
         have hf:=he.h0.mN he 4 rfl e9
         refine sp 1 hf rfl fun a hf=>zD θ he hi hf 9 rfl rfl rfl hc
        ·intro E θ a w hD hi hp he hc
         have hf:=he.h0
         refine zQ (v:=.agg #[i6 b9.Lo,i6 b9.Hi]) hf hc tQ rfl (fun w hc=>cJ 1000000000 1000000000 hc nq) fun a w hf hc=>zD θ he hi hf 10 rfl rfl rfl hc
        ·intro E θ a w hD hi hp he hc
         have e1:=hp.o 1 rfl
         have hf:=he.h0.mP he 10 rfl e1
         refine zP hf rfl (bG (cells:=[i6 0,i6 0,i6 b9.Lo,i6 b9.Hi,.bool false]) aEd rfl rfl) fun a hf=>zD θ he hi hf 11 rfl rfl rfl hc
        ·intro E θ a w hD hi hp he hc
         have e2:=hp.o 2 rfl
         try dsimp only at hc
         rw [hi] at hc
         have hf:=he.h0.mP he 11 rfl e2
         refine gV (rows:=([(⟨(⟨0,0⟩:aE),b9,false⟩:aF)]:List aF).map aS) (vs:=[(0,.agg #[i6 0,i6 0,i6 b9.Lo,i6 b9.Hi,.bool false])]) hf hc rfl rfl aCb rfl ⟨rfl,rfl,rfl,trivial⟩ rfl rfl fun py a w hf hc=>aP ?_
         refine bV ?_
         intro ds u ar
         replace hc:=((hc.drop k2).pick k0).pick k1
         refine ⟨(fY θ 24 ⟨py,none,0,(fun _=>(none,0))⟩),he.put hi ar hf rfl [] trivial ⟨qq,qq,qq,qq,qq,qq,qq,qq,qq,qq,qq,qq,qq,qq,qq,qq,qq,qq,qq,qq,trivial⟩,?_⟩
         try dsimp only
         rw [aU E 3]
         exact hc
        ·intro E θ a w hD hi hp he hc
         have e0:=hp.o 0 rfl
         have e3:=hp.o 3 rfl
         have e9:=hD.f 1 rfl hi
         try dsimp only at hc
         rw [e3,hi] at hc
         have hf:=(he.h0.mP he 9 rfl e0).mP he 12 rfl e3
         refine iV (xs:=l) (ys:=([(⟨(⟨0,0⟩:aE),b9,false⟩:aF)]:List aF)) hf hc rfl rfl aCb rfl rfl rfl rfl rfl jP (fA hc m1) (fun _ _=>u6) (by simpa using cB oa) fun op p2 a w hf hc=>aP ?_
         refine bV ?_
         intro ds u ar
         refine ⟨(fY θ 32 ⟨0,op,p2,(fun _=>(none,0))⟩),he.put hi ar hf rfl [9] ⟨⟨e9,rfl⟩,trivial⟩ ⟨qq,qq,qq,qq,qq,qq,qq,qq,qq,qq,qq,qq,qq,qq,qq,qq,qq,qq,trivial,qq,trivial⟩,?_⟩
         try dsimp only
         rw [dH 4 e3,aU E 4]
         exact hc
        ·intro E θ a w hD hi hp he hc
         have hf:=he.h0.mT he 2 rfl
         refine zP hf rfl (pFA pO rfl) fun a hf=>zD θ he hi hf 14 rfl rfl rfl hc
        ·intro E θ a w hD hi hp he hc
         have e5:=hp.o 5 rfl
         have ax:=hD.f 2 rfl hi
         try dsimp only at hc
         rw [ax] at hc
         have hf:=he.h0.mP he 14 rfl e5
         refine zL hf hc xC m8 rfl fun a w hf hc=>zD θ he hi hf 15 rfl rfl rfl ?_
         try dsimp only
         rw [eO 6 ax rfl]
         exact hc
        ·intro E θ a w hD hi hp he hc
         try dsimp only at hc
         rw [hi] at hc
         have hf:=he.h0
         refine gV (rows:=([1000000000]:List Int).map aD) (vs:=[(0,i6 1000000000)]) hf hc rfl rfl fC rfl ⟨rfl,rfl,rfl,trivial⟩ rfl rfl fun qt a w hf hc=>aP ?_
         refine bV ?_
         intro ds u ar
         replace hc:=hc.drop k1
         refine ⟨(fY θ 56 ⟨qt,none,0,(fun _=>(none,0))⟩),he.put hi ar hf rfl [] trivial ⟨qq,qq,qq,qq,qq,qq,qq,qq,qq,qq,qq,qq,qq,qq,qq,qq,qq,qq,qq,qq,trivial⟩,?_⟩
         try dsimp only
         rw [aU E 7]
         exact hc
        ·intro E θ a w hD hi hp he hc
         have e6:=hp.o 6 rfl
         have e7:=hp.o 7 rfl
         have ax:=hD.f 3 rfl hi
         try dsimp only at hc
         rw [e7,hi,ax] at hc
         have hf:=(he.h0.mP he 15 rfl e6).mP he 16 rfl e7
         refine iV (xs:=az) (ys:=([1000000000]:List Int)) hf hc rfl rfl fC rfl rfl rfl rfl rfl cM (fA hc m0) (fun _ _=>u3) (by simpa using cB n4) fun q0 q1 a w hf hc=>aP ?_
         refine bV ?_
         intro ds u ar
         refine ⟨(fY θ 64 ⟨0,q0,q1,(fun _=>(none,0))⟩),he.put hi ar hf rfl [] trivial ⟨qq,qq,qq,qq,qq,qq,qq,qq,qq,qq,qq,qq,qq,qq,qq,qq,qq,qq,qq,qq,trivial⟩,?_⟩
         try dsimp only
         rw [dH 8 e7,aU E 8,eO 8 ax rfl]
         exact hc
        ·intro E θ a w hD hi hp he hc
         have e4:=hp.o 4 rfl
         have hf:=he.h0.mP he 13 rfl e4
         refine sp 1 hf rfl fun a hf=>zD θ he hi hf 18 rfl rfl rfl hc
        ·intro E θ a w hD hi hp he hc
         have hf:=he.h0.mT he 2 rfl
         refine zP hf rfl (pFA pO rfl) fun a hf=>zD θ he hi hf 19 rfl rfl rfl hc
        ·intro E θ a w hD hi hp he hc
         have e8:=hp.o 8 rfl
         have bk:=hp.o 10 rfl
         try dsimp only at hc
         rw [hi] at hc
         have hf:=(he.h0.mP he 17 rfl e8).mP he 19 rfl bk
         refine zW hf hc sz_22 u8 rfl fun w hc=>zG θ he hi hf rfl ?_
         try dsimp only
         rw [aU E 11]
         exact hc
        ·intro E θ a w M he hc
         have hf:=he.h0
         have e3:=M 3 rfl
         have e4:=M 4 rfl
         have e7:=M 7 rfl
         have e8:=M 8 rfl
         have e9:=M 9 rfl
         have ax:=M 11 rfl
         replace hf:=hf.more he 18 rfl (onP e9)
         replace hf:=hf.more he 8 rfl (onT)
         replace hf:=hf.more he 7 rfl (onT)
         replace hf:=hf.more he 6 rfl (onT)
         replace hf:=hf.more he 5 rfl (onT)
         replace hf:=hf.more he 3 rfl (onT)
         replace hf:=hf.more he 2 rfl (onT)
         replace hf:=hf.more he 1 rfl (onT)
         replace hf:=hf.more he 0 rfl (onT)
         try dsimp only at hc
         rw [e3,e4,e7,e8,ax] at hc
         exact ⟨(θ 32).p,(θ 32).c,(θ 56).b,(θ 24).b,(θ 64).p,(θ 64).c,hf.kp rfl,hc⟩
        rintro a w ⟨gv,gs,mg,kj,g2,ia,hf,hc⟩
        replace hc:=(hc.drop k1).drop k0
        exact mn (l++[(⟨(⟨0,0⟩:aE),b9,false⟩:aF)]) b5 cz (az++[1000000000]) dn gv gs dx dv db di g2 ia du dt _ _  (hf.kp rfl) hc hF
       ·refine wp_skip ?_
        exact mn l b5 cz az dn bi bg dx dv db di bp bj du dt _ _  (hf.kp rfl) hc hF
      refine zS fun K h=>sp 2 hf rfl fun a hf=>zT h ?_
      refine zI hf rfl hF ?_ ?_ <;> clear hF <;> intro hF
      ·refine bR ?_
       refine zP hf rfl (pFA gB rfl) fun a hf=>zL hf hc oH m5 rfl fun a w hf hc=>sp 1 hf rfl fun a hf=>zP hf rfl (bG (cells:=[i6 bc,i6 1000000000]) aGw rfl rfl) fun a hf=>gV (rows:=([(⟨bc,1000000000⟩:aI)]:List aI).map aO) (vs:=[(0,.agg #[i6 bc,i6 1000000000])]) hf hc rfl rfl aCk rfl ⟨rfl,rfl,rfl,trivial⟩ rfl rfl fun t2 a w hf hc=>?_
       obtain ⟨t1,n9,hF⟩:=aA hF
       refine iV (xs:=bm) (ys:=([(⟨bc,1000000000⟩:aI)]:List aI)) hf hc rfl rfl aCk rfl rfl rfl rfl rfl iY (fA hc m0) (fun _ _=>u1) (by simpa using cB n9) fun qd oy a w hf hc=>sp 1 hf rfl fun a hf=>gV (rows:=([1000000]:List Int).map aD) (vs:=[(0,i6 1000000)]) hf hc rfl rfl fC rfl ⟨rfl,rfl,rfl,trivial⟩ rfl rfl fun tu a w hf hc=>?_
       obtain ⟨t3,n5,hF⟩:=aA hF
       refine iV (xs:=s) (ys:=([1000000]:List Int)) hf hc rfl rfl fC rfl rfl rfl rfl rfl cM (fA hc m0) (fun _ _=>u5) (by simpa using cB n5) fun qy qn a w hf hc=>zP hf rfl (pFA gB rfl) fun a hf=>zW hf hc aIl u7 rfl fun w hc=>sp 1 hf rfl fun a hf=>aP ?_
       replace hc:=(hc.drop k1).drop k0
       exact md (s++[1000000]) (bm++[(⟨bc,1000000000⟩:aI)]) qy qn qd oy _ _  (hf.kp rfl) hc hF
      ·refine wp_skip ?_
       exact md s bm ci cf bz bv _ _  (hf.kp rfl) hc hF
     refine zS fun K h=>sp 2 hf rfl fun a hf=>zT h ?_
     refine zI hf rfl hF ?_ ?_ <;> clear hF <;> intro hF
     ·obtain ⟨t6,ng,hF⟩:=aA hF
      obtain ⟨uc,ns,hF⟩:=aA hF
      replace hc:=hc.nilRow 0 0
      refine dJ (fun θ=>[⟨none,none,29,i6 J⟩,⟨none,none,30,pq a0⟩,⟨none,none,31,pq br⟩,⟨none,none,32,pq bf⟩,⟨none,none,33,.slice bi l.length bg⟩,⟨none,none,34,.slice ci s.length cf⟩,⟨none,none,35,i6 bc⟩,⟨none,none,393,i6 J⟩,⟨none,none,400,i6 J⟩,⟨none,none,401,i6 bc⟩,⟨some 0,none,406,.pointer (some ⟨a0,1,none⟩)⟩,⟨some 1,none,407,.slice b1 a6.length b0⟩,⟨some 2,none,408,i6 bc⟩,⟨some 3,none,409,pq a0⟩,⟨some 4,none,410,i6 (min J 14)⟩,⟨some 5,none,411,i6 (max 1 (min J 14))⟩,⟨some 6,none,412,i6 (bc.tmod (max 1 (min J 14)))⟩,⟨some 7,none,413,.agg #[i6 (bc.tmod (max 1 (min J 14))),i6 1000000000,i6 1000]⟩,⟨some 8,none,414,.slice (some ⟨(θ 64).b,0,none⟩) 1 1⟩,⟨some 9,none,415,.slice ((θ 72).p) ((a6++[(⟨bc.tmod (max 1 (min J 14)),1000000000,1000⟩:aG)]).length) ((θ 72).c)⟩,⟨some 10,none,416,.pointer (some ⟨a0,1,none⟩)⟩]) (fun E θ=>(bif E 8 then .row (some ⟨(θ 64).b,0,none⟩) 1 (([(⟨bc.tmod (max 1 (min J 14)),1000000000,1000⟩:aG)]:List aG).map aK) 46 3 else .row none 0 [] 0 0)::.row bz bv (bm.map aO) 48 2::.row bp bj (az.map aD) 3 1::(bif E 9 then .row ((θ 72).p) ((θ 72).c) ((a6++[(⟨bc.tmod (max 1 (min J 14)),1000000000,1000⟩:aG)]).map aK) 46 3 else .row b1 b0 (a6.map aK) 46 3)::.row ci cf (s.map aD) 3 1::.row bi bg (l.map aS) 50 5::.box bf [.slice bz bm.length bv,i6 0] 32::.box br [i6 1,i6 100,.slice bp az.length bj] 40::(bif E 11 then .box a0 [i6 (min J 14),.slice ((θ 72).p) ((a6++[(⟨bc.tmod (max 1 (min J 14)),1000000000,1000⟩:aG)]).length) ((θ 72).c)] 25 else .box a0 [i6 (min J 14),.slice b1 a6.length b0] 25)::Lf) [(11,1),(11,4),(11,9)] (fun a w=>∃ (kx:Nat) (g8:Option Addr) (g1:Nat),Has 516 a [(29,i6 J),(30,pq a0),(31,pq br),(32,pq bf),(33,.slice bi l.length bg),(34,.slice ci s.length cf),(35,i6 bc),(393,i6 J),(400,i6 J),(401,i6 bc)]∧Ctx G (.row (some ⟨kx,0,none⟩) 1 (([(⟨bc.tmod (max 1 (min J 14)),1000000000,1000⟩:aG)]:List aG).map aK) 46 3::.row bz bv (bm.map aO) 48 2::.row bp bj (az.map aD) 3 1::.row g8 g1 ((a6++[(⟨bc.tmod (max 1 (min J 14)),1000000000,1000⟩:aG)]).map aK) 46 3::.row ci cf (s.map aD) 3 1::.row bi bg (l.map aS) 50 5::.box bf [.slice bz bm.length bv,i6 0] 32::.box br [i6 1,i6 100,.slice bp az.length bj] 40::.box a0 [i6 (min J 14),.slice g8 ((a6++[(⟨bc.tmod (max 1 (min J 14)),1000000000,1000⟩:aG)]).length) g1] 25::Lf) w) aY (by kernel_rfl) (by kernel_rfl) (eY.of hf ⟨rfl,rfl,rfl,rfl,rfl,rfl,rfl,rfl,rfl,rfl,trivial,trivial,trivial,trivial,trivial,trivial,trivial,trivial,trivial,trivial,trivial,trivial⟩) hc ⟨?_,?_,?_,?_,?_,?_,?_,?_,?_,?_,?_,?_,trivial⟩ ?_ ?_
      ·intro E θ a w hD hi hp he hc
       have hf:=he.h0.mT he 1 rfl
       refine zP hf rfl (pFA kN rfl) fun a hf=>zD θ he hi hf 10 rfl rfl rfl hc
      ·intro E θ a w hD hi hp he hc
       have e0:=hp.o 0 rfl
       have ax:=hD.f 0 rfl hi
       try dsimp only at hc
       rw [ax] at hc
       have hf:=he.h0.mP he 10 rfl e0
       refine zL hf hc sD m8 rfl fun a w hf hc=>zD θ he hi hf 11 rfl rfl rfl ?_
       try dsimp only
       rw [eO 1 ax rfl]
       exact hc
      ·intro E θ a w hD hi hp he hc
       have hf:=he.h0.mT he 6 rfl
       refine sp 1 hf rfl fun a hf=>zD θ he hi hf 12 rfl rfl rfl hc
      ·intro E θ a w hD hi hp he hc
       have hf:=he.h0.mT he 1 rfl
       refine zP hf rfl (pFA qP rfl) fun a hf=>zD θ he hi hf 13 rfl rfl rfl hc
      ·intro E θ a w hD hi hp he hc
       have e3:=hp.o 3 rfl
       have ax:=hD.f 1 rfl hi
       try dsimp only at hc
       rw [ax] at hc
       have hf:=he.h0.mP he 13 rfl e3
       refine zL hf hc bB m8 rfl fun a w hf hc=>zD θ he hi hf 14 rfl rfl rfl ?_
       try dsimp only
       rw [eO 4 ax rfl]
       exact hc
      ·intro E θ a w hD hi hp he hc
       have e4:=hp.o 4 rfl
       have hf:=he.h0.mP he 14 rfl e4
       refine zP hf rfl (aG6 rfl rfl) fun a hf=>zD θ he hi hf 15 rfl rfl rfl hc
      ·intro E θ a w hD hi hp he hc
       have e2:=hp.o 2 rfl
       have e5:=hp.o 5 rfl
       have hf:=(he.h0.mP he 12 rfl e2).mP he 15 rfl e5
       refine zP hf rfl (lH rfl rfl (eZ ng)) fun a hf=>zD θ he hi hf 16 rfl rfl rfl hc
      ·intro E θ a w hD hi hp he hc
       have e6:=hp.o 6 rfl
       have hf:=he.h0.mP he 16 rfl e6
       refine zP hf rfl (bG (cells:=[i6 (bc.tmod (max 1 (min J 14))),i6 1000000000,i6 1000]) aD5 rfl rfl) fun a hf=>zD θ he hi hf 17 rfl rfl rfl hc
      ·intro E θ a w hD hi hp he hc
       have e7:=hp.o 7 rfl
       try dsimp only at hc
       rw [hi] at hc
       have hf:=he.h0.mP he 17 rfl e7
       refine gV (rows:=([(⟨bc.tmod (max 1 (min J 14)),1000000000,1000⟩:aG)]:List aG).map aK) (vs:=[(0,.agg #[i6 (bc.tmod (max 1 (min J 14))),i6 1000000000,i6 1000])]) hf hc rfl rfl aCy rfl ⟨rfl,rfl,rfl,trivial⟩ rfl rfl fun p9 a w hf hc=>aP ?_
       refine bV ?_
       intro ds u ar
       replace hc:=hc.drop k1
       refine ⟨(fY θ 64 ⟨p9,none,0,(fun _=>(none,0))⟩),he.put hi ar hf rfl [] trivial ⟨qq,qq,qq,qq,qq,qq,qq,qq,qq,qq,qq,qq,qq,qq,qq,qq,qq,qq,qq,qq,qq,trivial⟩,?_⟩
       try dsimp only
       rw [aU E 8]
       exact hc
      ·intro E θ a w hD hi hp he hc
       have e1:=hp.o 1 rfl
       have e8:=hp.o 8 rfl
       have ax:=hD.f 2 rfl hi
       try dsimp only at hc
       rw [e8,hi,ax] at hc
       have hf:=(he.h0.mP he 11 rfl e1).mP he 18 rfl e8
       refine iV (xs:=a6) (ys:=([(⟨bc.tmod (max 1 (min J 14)),1000000000,1000⟩:aG)]:List aG)) hf hc rfl rfl aCy rfl rfl rfl rfl rfl gI (fA hc m0) (fun _ _=>u3) (by simpa using cB ns) fun o2 p6 a w hf hc=>aP ?_
       refine bV ?_
       intro ds u ar
       refine ⟨(fY θ 72 ⟨0,o2,p6,(fun _=>(none,0))⟩),he.put hi ar hf rfl [] trivial ⟨qq,qq,qq,qq,qq,qq,qq,qq,qq,qq,qq,qq,qq,qq,qq,qq,qq,qq,qq,qq,qq,trivial⟩,?_⟩
       try dsimp only
       rw [dH 9 e8,aU E 9,eO 9 ax rfl]
       exact hc
      ·intro E θ a w hD hi hp he hc
       have hf:=he.h0.mT he 1 rfl
       refine zP hf rfl (pFA kN rfl) fun a hf=>zD θ he hi hf 20 rfl rfl rfl hc
      ·intro E θ a w hD hi hp he hc
       have e9:=hp.o 9 rfl
       have bk:=hp.o 10 rfl
       try dsimp only at hc
       rw [hi] at hc
       have hf:=(he.h0.mP he 19 rfl e9).mP he 20 rfl bk
       refine zW hf hc aJf u8 rfl fun w hc=>zG θ he hi hf rfl ?_
       try dsimp only
       rw [aU E 11]
       exact hc
      ·intro E θ a w M he hc
       have hf:=he.h0
       have e8:=M 8 rfl
       have e9:=M 9 rfl
       have ax:=M 11 rfl
       replace hf:=hf.more he 9 rfl (onT)
       replace hf:=hf.more he 8 rfl (onT)
       replace hf:=hf.more he 7 rfl (onT)
       replace hf:=hf.more he 6 rfl (onT)
       replace hf:=hf.more he 5 rfl (onT)
       replace hf:=hf.more he 4 rfl (onT)
       replace hf:=hf.more he 3 rfl (onT)
       replace hf:=hf.more he 2 rfl (onT)
       replace hf:=hf.more he 1 rfl (onT)
       replace hf:=hf.more he 0 rfl (onT)
       try dsimp only at hc
       rw [e8,e9,ax] at hc
       exact ⟨(θ 64).b,(θ 72).p,(θ 72).c,hf.kp rfl,hc⟩
      rintro a w ⟨kx,g8,g1,hf,hc⟩
      replace hc:=hc.drop k0
      exact ka (a6++[(⟨bc.tmod (max 1 (min J 14)),1000000000,1000⟩:aG)]) g8 g1 _ _  (hf.kp rfl) hc hF
     ·refine wp_skip ?_
      exact ka a6 b1 b0 _ _  (hf.kp rfl) hc hF
    ·refine wp_exit ?_
     refine bE ?_
     refine bE ?_
     have he:=sj hF
     rw [← he] at ik
     refine eX ?_
     exact pf _ _ _ ik ⟨bi,bg,ci,cf,b1,b0,bp,bj,bz,bv,hf.kp rfl,hc⟩
   ·refine wp_exit ?_
    refine bE ?_
    refine bE ?_
    have he:=sj hF
    rw [← he] at dp
    refine eX ?_
    exact ou _ _ _ dp ⟨hf.kp rfl,hc⟩
  have rq:∀ r,x7=.out r→r=ii:=by
   rintro r rfl
   exact sj hF
  replace hc:=hc.drop k0
  refine cX N (cV (S:=S7) (x:=x7) ?_ N 0 _ _ ⟨hf.kp rfl,hc⟩ rm)
  clear hF hf hc
  rintro D rp a w KB7 ⟨hf,hc⟩ hF gc rj
  unfold fE at hF
  refine zS fun K h=>sp 1 hf rfl fun a hf=>zT h ?_
  refine wp_seq_k fun K40 sr=>zI hf rfl hF ?_ ?_ <;> clear hF <;> intro hF
  ·refine wp_skip ?_
   refine sr _ _ ?_
   refine wp_seq_k fun K41 sy=>wp_block ?_
   refine zS fun K h=>sp 2 hf rfl fun a hf=>zT h ?_
   refine zS fun K h=>sp 1 hf rfl fun a hf=>zP hf rfl (lH rfl rfl (by decide)) fun a hf=>sp 1 hf rfl fun a hf=>zP hf rfl (bG (cells:=[i6 (W (1 + (D.tmod 3))),.slice none 0 0]) aIf rfl rfl) fun a hf=>zA hf hc aCo rfl fun a4 a w hf hc=>zW hf hc aCa u0 rfl fun w hc=>zT h ?_
   refine zS fun K h=>zA hf hc aAv rfl fun bb a w hf hc=>zT h ?_
   refine zS fun K h=>sp 1 hf rfl fun a hf=>zT h ?_
   refine zS fun K h=>sp 1 hf rfl fun a hf=>zT h ?_
   refine zS fun K h=>sp 3 hf rfl fun a hf=>zT h ?_
   refine wp_seq_k fun K48 r6=>zS fun K h=>sp 1 hf rfl fun a hf=>zP hf rfl (nE rfl rfl (by decide)) fun a hf=>zP hf rfl (lH rfl rfl (by decide)) fun a hf=>sp 2 hf rfl fun a hf=>zT h ?_
   refine wp_block ?_
   obtain ⟨j9,pd,hF⟩:=aA hF
   let S50:((List aF) × (List aB) × (List Int) × (List Int) × (List Int) × Int × (List aG) × (List aI))→Act→World→Prop:=(fun (zz:(List aF) × (List aB) × (List Int) × (List Int) × (List Int) × Int × (List aG) × (List aI)) a w=>∃ (cc:Option Addr) (cd:Nat) (bx:Option Addr) (bu:Nat) (a2:Option Addr) (a3:Nat) (ba:Option Addr) (a9:Nat) (a8:Option Addr) (a7:Nat) (c9:Option Addr) (c7:Nat) (cv:Option Addr) (cx:Nat),Has 516 a [(20,i6 D),(21,pq a4),(22,pq bb),(23,.slice cc zz.1.length cd),(24,.slice bx zz.2.1.length bu),(25,.slice a2 zz.2.2.1.length a3),(26,.slice ba zz.2.2.2.1.length a9),(27,.slice a8 zz.2.2.2.2.1.length a7),(175,i6 D),(185,i6 (W (1 + ((W (D.tdiv 3)).tmod 4)))),(186,i6 zz.2.2.2.2.2.1)]∧Ctx G (.row cv cx (zz.2.2.2.2.2.2.2.map aO) 48 2::.row c9 c7 (zz.2.2.2.2.2.2.1.map aK) 46 3::.row a8 a7 (zz.2.2.2.2.1.map aD) 3 1::.row ba a9 (zz.2.2.2.1.map aD) 3 1::.row a2 a3 (zz.2.2.1.map aD) 3 1::.row bx bu (zz.2.1.map aW) 37 2::.row cc cd (zz.1.map aS) 50 5::.box bb [.slice cv zz.2.2.2.2.2.2.2.length cx,i6 0] 32::.box a4 [i6 (W (1 + (D.tmod 3))),.slice c9 zz.2.2.2.2.2.2.1.length c7] 25::Lf) w)
   have p8:∀ (zz:(List aF) × (List aB) × (List Int) × (List Int) × (List Int) × Int × (List aG) × (List aI)) a w,j9=.go zz→S50 zz a w→K48 a w:=by
    rintro ⟨bt,am,bs,k,ai,B,av,ay⟩ a w rfl ⟨cc,cd,bx,bu,a2,a3,ba,a9,a8,a7,c9,c7,cv,cx,hf,hc⟩
    replace hF:=bQ hF
    refine r6 _ _ ?_
    refine zS fun K h=>sp 1 hf rfl fun a hf=>zP hf rfl (lH rfl rfl (by decide)) fun a hf=>zP hf rfl (pFA tN rfl) fun a hf=>zW hf hc cY u7 rfl fun w hc=>zT h ?_
    refine wp_seq_k fun K52 rx=>?_
    obtain ⟨dr,nz,hF⟩:=aA hF
    obtain ⟨d0,np,hF⟩:=aA hF
    obtain ⟨jm,mk,hF⟩:=aA hF
    obtain ⟨r8,kd,hF⟩:=aA hF
    refine cQ hc aY (by kernel_rfl) ?_
    refine qE hf rfl rfl rfl (kG (vs:=[i6 (W (1 + (D.tmod 3))),.slice c9 av.length c7]) lN rfl rfl (cA (n:=2) m8 rfl)) fun a hf=>qE hf rfl rfl rfl (Pu.ev (pM rfl)) fun a hf=>qE hf rfl rfl rfl (Pu.ev (lH rfl rfl (by decide))) fun a hf=>qE hf rfl rfl rfl (Pu.ev (pM rfl)) fun a hf=>qE hf rfl rfl rfl (Pu.ev (lH rfl rfl (by decide))) fun a hf=>qE hf rfl rfl rfl (Pu.ev (pM rfl)) fun a hf=>qE hf rfl rfl rfl (Pu.ev (lH rfl rfl (by decide))) fun a hf=>qE hf rfl rfl rfl (Pu.ev (pM rfl)) fun a hf=>qE hf rfl rfl rfl (Pu.ev (nE rfl rfl (by decide))) fun a hf=>qE hf rfl rfl rfl (Pu.ev (lH rfl rfl (by decide))) fun a hf=>qE hf rfl rfl rfl (Pu.ev (wZ rfl rfl)) fun a hf=>qE hf rfl rfl rfl (eC (v:=.agg #[i6 dr.Lo,i6 dr.Hi]) (vs:=[i6 (D.tmod 7),i6 (W ((D.tmod 7) + ((W (D.tdiv 9)).tmod 9)))]) (caps:=[]) tQ rfl rfl rfl rfl (fun w hc=>cJ (D.tmod 7) (W ((D.tmod 7) + ((W (D.tdiv 9)).tmod 9))) hc nz)) fun a hf=>qE hf rfl rfl rfl (eC (v:=.bool d0) (vs:=[.agg #[i6 (W (1 + (D.tmod 3))),.slice c9 av.length c7],i6 (D.tmod 25),.agg #[i6 dr.Lo,i6 dr.Hi]]) (caps:=[]) aJg rfl rfl rfl rfl (fun w hc=>by obtain ⟨G1,cj,aq,hc,ap⟩:=lend hc k1; exact (iC (⟨W (1 + (D.tmod 3)),av⟩:aJ) (D.tmod 25) dr aq hc np).mono fun e w h=>⟨h.1,((ap _ _ h.2).unpick k1)⟩)) fun a hf=>?_
    refine qE hf rfl rfl rfl (Pu.ev (pNot rfl)) fun a hf=>qE hf rfl rfl rfl (Pu.ev (pM rfl)) fun a hf=>aBd 19 (fun a=>Has 516 a [(20,i6 D),(21,pq a4),(22,pq bb),(23,.slice cc bt.length cd),(24,.slice bx am.length bu),(25,.slice a2 bs.length a3),(26,.slice ba k.length a9),(27,.slice a8 ai.length a7),(175,i6 D),(327,.agg #[i6 (W (1 + (D.tmod 3))),.slice c9 av.length c7]),(328,i6 D),(329,i6 (D.tmod 25)),(330,i6 D),(331,i6 (D.tmod 7)),(332,i6 D),(333,i6 (D.tmod 7)),(334,i6 D),(335,i6 (W (D.tdiv 9))),(336,i6 ((W (D.tdiv 9)).tmod 9)),(337,i6 (W ((D.tmod 7) + ((W (D.tdiv 9)).tmod 9)))),(338,.agg #[i6 dr.Lo,i6 dr.Hi]),(339,.bool d0),(340,.bool (!d0)),(341,.bool (!d0)),(360,.bool jm)]) ?_ ?_
    ·cases hb:(!d0)
     ·rw [hb] at hf
      have hF:=fN hb mk
      obtain ⟨gg,n3,hF⟩:=aA hF
      obtain ⟨pg,n0,hF⟩:=aA hF
      refine qE hf rfl rfl rfl (kG (vs:=[.slice cv ay.length cx,i6 (D.tmod 5)]) lE rfl rfl (cA (n:=2) m7 rfl)) fun a hf=>qE hf rfl rfl rfl (Pu.ev (pM rfl)) fun a hf=>qE hf rfl rfl rfl (Pu.ev (lH rfl rfl (by decide))) fun a hf=>qE hf rfl rfl rfl (Pu.ev (pM rfl)) fun a hf=>qE hf rfl rfl rfl (Pu.ev (lH rfl rfl (by decide))) fun a hf=>qE hf rfl rfl rfl (Pu.ev (aB0 rfl rfl)) fun a hf=>qE hf rfl rfl rfl (Pu.ev (pM rfl)) fun a hf=>qE hf rfl rfl rfl (Pu.ev (lH rfl rfl (by decide))) fun a hf=>qE hf rfl rfl rfl (Pu.ev (aB0 rfl rfl)) fun a hf=>qE hf rfl rfl rfl (Pu.ev (pM rfl)) fun a hf=>qE hf rfl rfl rfl (Pu.ev (nE rfl rfl (by decide))) fun a hf=>qE hf rfl rfl rfl (Pu.ev (lH rfl rfl (by decide))) fun a hf=>qE hf rfl rfl rfl (Pu.ev (wZ rfl rfl)) fun a hf=>?_
      refine qE hf rfl rfl rfl (eC (v:=.agg #[i6 gg.Lo,i6 gg.Hi]) (vs:=[i6 (W ((D.tmod 5) - 2)),i6 (W ((W ((D.tmod 5) - 2)) + ((W (D.tdiv 11)).tmod 3)))]) (caps:=[]) tQ rfl rfl rfl rfl (fun w hc=>cJ (W ((D.tmod 5) - 2)) (W ((W ((D.tmod 5) - 2)) + ((W (D.tdiv 11)).tmod 3))) hc n3)) fun a hf=>qE hf rfl rfl rfl (Pu.ev (pM rfl)) fun a hf=>qE hf rfl rfl rfl (Pu.ev (pM rfl)) fun a hf=>qE hf rfl rfl rfl (eC (v:=.bool pg) (vs:=[.agg #[.slice cv ay.length cx,i6 (D.tmod 5)],i6 (D.tmod 15),.agg #[i6 gg.Lo,i6 gg.Hi],.slice cc bt.length cd,.slice bx am.length bu]) (caps:=[]) en_8 rfl rfl rfl rfl (fun w hc=>by obtain ⟨G1,cj,aq,hc,ap⟩:=lend hc k0; obtain ⟨G2,cm,cq,hc,cn⟩:=lend hc k5; obtain ⟨G3,b8,c1,hc,c0⟩:=lend hc k4; exact (kY (⟨ay,D.tmod 5⟩:aH) (D.tmod 15) gg bt am ((aq.mono cm).mono b8) (cq.mono b8) c1 hc n0).mono fun e w h=>⟨h.1,((ap _ _ ((cn _ _ ((c0 _ _ h.2).unpick k4)).unpick k5)).unpick k0)⟩)) fun a hf=>qE hf rfl rfl rfl (Pu.ev (pNot rfl)) fun a hf=>qE hf rfl rfl rfl (Pu.ev (pPf rfl rfl)) fun a hf=>?_
      obtain rfl:=sj hF
      exact rU (hf.kp rfl)
     ·rw [hb] at hf
      have hF:=fO hb mk
      obtain rfl:=sj hF
      refine qS hf rfl rfl rfl fun a hf=>qS hf rfl rfl rfl fun a hf=>qS hf rfl rfl rfl fun a hf=>qS hf rfl rfl rfl fun a hf=>qS hf rfl rfl rfl fun a hf=>qS hf rfl rfl rfl fun a hf=>qS hf rfl rfl rfl fun a hf=>qS hf rfl rfl rfl fun a hf=>qS hf rfl rfl rfl fun a hf=>qS hf rfl rfl rfl fun a hf=>qS hf rfl rfl rfl fun a hf=>qS hf rfl rfl rfl fun a hf=>qS hf rfl rfl rfl fun a hf=>?_
      refine qS hf rfl rfl rfl fun a hf=>qS hf rfl rfl rfl fun a hf=>qS hf rfl rfl rfl fun a hf=>qS hf rfl rfl rfl fun a hf=>qS hf rfl rfl rfl fun a hf=>qE hf rfl rfl rfl (Pu.ev (pPt rfl rfl)) fun a hf=>rU (hf.kp rfl)
    intro a hf
    refine qE hf rfl rfl rfl (Pu.ev (pM rfl)) fun a hf=>aBd 30 (fun a=>Has 516 a [(20,i6 D),(21,pq a4),(22,pq bb),(23,.slice cc bt.length cd),(24,.slice bx am.length bu),(25,.slice a2 bs.length a3),(26,.slice ba k.length a9),(27,.slice a8 ai.length a7),(175,i6 D),(327,.agg #[i6 (W (1 + (D.tmod 3))),.slice c9 av.length c7]),(328,i6 D),(329,i6 (D.tmod 25)),(330,i6 D),(331,i6 (D.tmod 7)),(332,i6 D),(333,i6 (D.tmod 7)),(334,i6 D),(335,i6 (W (D.tdiv 9))),(336,i6 ((W (D.tdiv 9)).tmod 9)),(337,i6 (W ((D.tmod 7) + ((W (D.tdiv 9)).tmod 9)))),(338,.agg #[i6 dr.Lo,i6 dr.Hi]),(339,.bool d0),(340,.bool (!d0)),(341,.bool (!d0)),(360,.bool jm),(361,.bool jm),(391,.bool r8)]) ?_ ?_
    ·cases hb:jm
     ·rw [hb] at hf
      have hF:=fN hb kd
      obtain ⟨qv,nv,hF⟩:=aA hF
      refine qE hf rfl rfl rfl (Pu.ev (pM rfl)) fun a hf=>qE hf rfl rfl rfl (Pu.ev (lH rfl rfl (by decide))) fun a hf=>qE hf rfl rfl rfl (Pu.ev (pM rfl)) fun a hf=>qE hf rfl rfl rfl (Pu.ev (lH rfl rfl (by decide))) fun a hf=>qE hf rfl rfl rfl (Pu.ev (wZ rfl rfl)) fun a hf=>qE hf rfl rfl rfl (Pu.ev (pM rfl)) fun a hf=>qE hf rfl rfl rfl (Pu.ev (nE rfl rfl (by decide))) fun a hf=>qE hf rfl rfl rfl (Pu.ev (lH rfl rfl (by decide))) fun a hf=>qE hf rfl rfl rfl (Pu.ev (wZ rfl rfl)) fun a hf=>qE hf rfl rfl rfl (Pu.ev (pM rfl)) fun a hf=>qE hf rfl rfl rfl (Pu.ev (bG (cells:=[i6 (W (1 + (D.tmod 3))),i6 (W (1 + ((W (D.tdiv 4)).tmod 4))),.slice a2 bs.length a3]) aCt rfl rfl)) fun a hf=>qE hf rfl rfl rfl (Pu.ev (pM rfl)) fun a hf=>qE hf rfl rfl rfl (Pu.ev (pM rfl)) fun a hf=>?_
      refine qE hf rfl rfl rfl (Pu.ev (pM rfl)) fun a hf=>qE hf rfl rfl rfl (Pu.ev (nE rfl rfl (by decide))) fun a hf=>qE hf rfl rfl rfl (Pu.ev (lH rfl rfl (by decide))) fun a hf=>qE hf rfl rfl rfl (Pu.ev (wZ rfl rfl)) fun a hf=>qE hf rfl rfl rfl (Pu.ev (pM rfl)) fun a hf=>qE hf rfl rfl rfl (Pu.ev (lH rfl rfl (by decide))) fun a hf=>qE hf rfl rfl rfl (Pu.ev (pM rfl)) fun a hf=>qE hf rfl rfl rfl (Pu.ev (lH rfl rfl (by decide))) fun a hf=>qE hf rfl rfl rfl (Pu.ev (wZ rfl rfl)) fun a hf=>qE hf rfl rfl rfl (Pu.ev (pM rfl)) fun a hf=>qE hf rfl rfl rfl (Pu.ev (nE rfl rfl (by decide))) fun a hf=>qE hf rfl rfl rfl (Pu.ev (lH rfl rfl (by decide))) fun a hf=>qE hf rfl rfl rfl (Pu.ev (wZ rfl rfl)) fun a hf=>?_
      refine qE hf rfl rfl rfl (Pu.ev (bG (cells:=[i6 (W (1 + (D.tmod 11))),i6 (W (1 + ((W (D.tdiv 11)).tmod 4)))]) qN rfl rfl)) fun a hf=>qE hf rfl rfl rfl (eC (v:=.bool qv) (vs:=[i6 (D.tmod 19),.agg #[i6 (W (1 + (D.tmod 3))),i6 (W (1 + ((W (D.tdiv 4)).tmod 4))),.slice a2 bs.length a3],.slice ba k.length a9,.slice a8 ai.length a7,i6 (W (1 + ((W (D.tdiv 6)).tmod 7))),i6 (D.tmod 3),.agg #[i6 (W (1 + (D.tmod 11))),i6 (W (1 + ((W (D.tdiv 11)).tmod 4)))]]) (caps:=[]) en_9 rfl rfl rfl rfl (fun w hc=>by obtain ⟨G1,cj,aq,hc,ap⟩:=lend hc k4; obtain ⟨G2,cm,cq,hc,cn⟩:=lend hc k3; obtain ⟨G3,b8,c1,hc,c0⟩:=lend hc k2; exact (kX (D.tmod 19) (⟨W (1 + (D.tmod 3)),W (1 + ((W (D.tdiv 4)).tmod 4)),bs⟩:bU) k ai (W (1 + ((W (D.tdiv 6)).tmod 7))) (D.tmod 3) (⟨W (1 + (D.tmod 11)),W (1 + ((W (D.tdiv 11)).tmod 4))⟩:aM) ((aq.mono cm).mono b8) (cq.mono b8) c1 hc nv).mono fun e w h=>⟨h.1,((ap _ _ ((cn _ _ ((c0 _ _ h.2).unpick k2)).unpick k3)).unpick k4)⟩)) fun a hf=>qE hf rfl rfl rfl (Pu.ev (pNot rfl)) fun a hf=>qE hf rfl rfl rfl (Pu.ev (pPf rfl rfl)) fun a hf=>?_
      obtain rfl:=sj hF
      exact rU (hf.kp rfl)
     ·rw [hb] at hf
      have hF:=fO hb kd
      obtain rfl:=sj hF
      refine qS hf rfl rfl rfl fun a hf=>qS hf rfl rfl rfl fun a hf=>qS hf rfl rfl rfl fun a hf=>qS hf rfl rfl rfl fun a hf=>qS hf rfl rfl rfl fun a hf=>qS hf rfl rfl rfl fun a hf=>qS hf rfl rfl rfl fun a hf=>qS hf rfl rfl rfl fun a hf=>qS hf rfl rfl rfl fun a hf=>qS hf rfl rfl rfl fun a hf=>qS hf rfl rfl rfl fun a hf=>qS hf rfl rfl rfl fun a hf=>qS hf rfl rfl rfl fun a hf=>?_
      refine qS hf rfl rfl rfl fun a hf=>qS hf rfl rfl rfl fun a hf=>qS hf rfl rfl rfl fun a hf=>qS hf rfl rfl rfl fun a hf=>qS hf rfl rfl rfl fun a hf=>qS hf rfl rfl rfl fun a hf=>qS hf rfl rfl rfl fun a hf=>qS hf rfl rfl rfl fun a hf=>qS hf rfl rfl rfl fun a hf=>qS hf rfl rfl rfl fun a hf=>qS hf rfl rfl rfl fun a hf=>qS hf rfl rfl rfl fun a hf=>qS hf rfl rfl rfl fun a hf=>?_
      refine qS hf rfl rfl rfl fun a hf=>qS hf rfl rfl rfl fun a hf=>qS hf rfl rfl rfl fun a hf=>qE hf rfl rfl rfl (Pu.ev (pPt rfl rfl)) fun a hf=>rU (hf.kp rfl)
    intro a hf
    intro w hc
    replace hc:=((((((((hc.drop k8).drop k7).drop k6).drop k5).drop k4).drop k3).drop k2).drop k1).drop k0
    refine rx _ _ ?_
    refine zI hf rfl hF ?_ ?_ <;> clear hF <;> intro hF
    ·refine zS fun K h=>sp 1 hf rfl fun a hf=>zT h ?_
     refine wp_ret ?_
     refine bI ?_
     refine aN ?_
     refine aN ?_
     have he:=sj hF
     rw [← he] at gc
     replace hF:=rq _ gc
     refine bI ?_
     refine aN ?_
     obtain rfl:=hF
     exact zO1 Tryz.results3 hf rfl ⟨rfl,hc⟩
    ·refine wp_skip ?_
     refine sy _ _ ?_
     refine bR ?_
     refine sp 2 hf rfl fun a hf=>aP ?_
     exact rj (W (D + 1)) _ _ (sj hF).symm ⟨hf.kp rfl,hc⟩
   have tz:∀ r,j9=.out r→r=rp:=by
    rintro r rfl
    exact sj hF
   replace hc:=hc.nilRow 50 5
   replace hc:=hc.nilRow 37 2
   replace hc:=hc.nilRow 3 1
   replace hc:=hc.nilRow 3 1
   replace hc:=hc.nilRow 3 1
   replace hc:=hc.nilRow 48 2
   replace hc:=hc.nilRow 46 3
   replace hc:=(hc.pick k0).pick k1
   refine cX N (cV (S:=S50) (x:=j9) ?_ N (([]:List aF),([]:List aB),([]:List Int),([]:List Int),([]:List Int),0,([]:List aG),([]:List aI)) _ _ ⟨none,0,none,0,none,0,none,0,none,0,none,0,none,0,hf.kp rfl,hc⟩ pd)
   clear hF hf hc
   rintro ⟨bt,am,bs,k,ai,B,av,ay⟩ ud a w KB50 ⟨cc,cd,bx,bu,a2,a3,ba,a9,a8,a7,c9,c7,cv,cx,hf,hc⟩ hF ij o6
   unfold jX at hF
   refine zS fun K h=>sp 1 hf rfl fun a hf=>zT h ?_
   refine wp_seq_k fun K55 r5=>zI hf rfl hF ?_ ?_ <;> clear hF <;> intro hF
   ·refine wp_skip ?_
    refine r5 _ _ ?_
    refine wp_seq_k fun K56 ru=>wp_block ?_
    refine zS fun K h=>sp 2 hf rfl fun a hf=>zT h ?_
    refine wp_seq_k fun K58 rc=>?_
    obtain ⟨ty,n7,hF⟩:=aA hF
    obtain ⟨uk,nr,hF⟩:=aA hF
    obtain ⟨tk,jt,hF⟩:=aA hF
    obtain ⟨tg,ms,hF⟩:=aA hF
    obtain ⟨tm,nd,hF⟩:=aA hF
    replace hc:=hc.nilRow 0 0
    refine dJ (fun θ=>(⟨none,none,20,i6 D⟩::⟨none,none,21,pq a4⟩::⟨none,none,22,pq bb⟩::⟨none,none,23,.slice cc bt.length cd⟩::⟨none,none,24,.slice bx am.length bu⟩::⟨none,none,25,.slice a2 bs.length a3⟩::⟨none,none,26,.slice ba k.length a9⟩::⟨none,none,27,.slice a8 ai.length a7⟩::⟨none,none,28,i6 B⟩::⟨none,none,175,i6 D⟩::⟨none,none,185,i6 (W (1 + ((W (D.tdiv 3)).tmod 4)))⟩::⟨none,none,186,i6 B⟩::⟨some 0,none,189,.pointer (some ⟨a4,1,none⟩)⟩::⟨some 1,none,190,.slice c9 av.length c7⟩::⟨some 2,none,191,i6 D⟩::⟨some 3,none,192,i6 B⟩::⟨some 4,none,193,i6 (W (B + 2))⟩::⟨some 5,none,194,i6 (W (D.tdiv (W (B + 2))))⟩::⟨some 6,none,195,pq a4⟩::⟨some 7,none,196,i6 (W (1 + (D.tmod 3)))⟩::⟨some 8,none,197,i6 ((W (D.tdiv (W (B + 2)))).tmod (W (1 + (D.tmod 3))))⟩::⟨some 9,none,198,i6 D⟩::⟨some 10,none,199,i6 B⟩::⟨some 11,none,200,i6 (W (B + 3))⟩::⟨some 12,none,201,i6 (W (D.tdiv (W (B + 3))))⟩::⟨some 13,none,202,i6 ((W (D.tdiv (W (B + 3)))).tmod 9)⟩::⟨some 14,none,203,i6 D⟩::⟨some 15,none,204,i6 B⟩::⟨some 16,none,205,i6 (W (B + 5))⟩::⟨some 17,none,206,i6 (W (D.tdiv (W (B + 5))))⟩::⟨some 18,none,207,i6 ((W (D.tdiv (W (B + 5)))).tmod 5)⟩::⟨some 19,none,208,i6 (W (((W (D.tdiv (W (B + 5)))).tmod 5) * 250))⟩::⟨some 20,none,209,.agg #[i6 ((W (D.tdiv (W (B + 2)))).tmod (W (1 + (D.tmod 3)))),i6 ((W (D.tdiv (W (B + 3)))).tmod 9),i6 (W (((W (D.tdiv (W (B + 5)))).tmod 5) * 250))]⟩::⟨some 21,none,210,.slice (some ⟨(θ 168).b,0,none⟩) 1 1⟩::⟨some 22,none,211,.slice ((θ 176).p) ((av++[(⟨(W (D.tdiv (W (B + 2)))).tmod (W (1 + (D.tmod 3))),(W (D.tdiv (W (B + 3)))).tmod 9,W (((W (D.tdiv (W (B + 5)))).tmod 5) * 250)⟩:aG)]).length) ((θ 176).c)⟩::⟨some 23,none,212,.pointer (some ⟨a4,1,none⟩)⟩::[])) (fun E θ=>(bif E 21 then .row (some ⟨(θ 168).b,0,none⟩) 1 (([(⟨(W (D.tdiv (W (B + 2)))).tmod (W (1 + (D.tmod 3))),(W (D.tdiv (W (B + 3)))).tmod 9,W (((W (D.tdiv (W (B + 5)))).tmod 5) * 250)⟩:aG)]:List aG).map aK) 46 3 else .row none 0 [] 0 0)::.row cv cx (ay.map aO) 48 2::(bif E 22 then .row ((θ 176).p) ((θ 176).c) ((av++[(⟨(W (D.tdiv (W (B + 2)))).tmod (W (1 + (D.tmod 3))),(W (D.tdiv (W (B + 3)))).tmod 9,W (((W (D.tdiv (W (B + 5)))).tmod 5) * 250)⟩:aG)]).map aK) 46 3 else .row c9 c7 (av.map aK) 46 3)::.row a8 a7 (ai.map aD) 3 1::.row ba a9 (k.map aD) 3 1::.row a2 a3 (bs.map aD) 3 1::.row bx bu (am.map aW) 37 2::.row cc cd (bt.map aS) 50 5::.box bb [.slice cv ay.length cx,i6 0] 32::(bif E 24 then .box a4 [i6 (W (1 + (D.tmod 3))),.slice ((θ 176).p) ((av++[(⟨(W (D.tdiv (W (B + 2)))).tmod (W (1 + (D.tmod 3))),(W (D.tdiv (W (B + 3)))).tmod 9,W (((W (D.tdiv (W (B + 5)))).tmod 5) * 250)⟩:aG)]).length) ((θ 176).c)] 25 else .box a4 [i6 (W (1 + (D.tmod 3))),.slice c9 av.length c7] 25)::Lf) [(24,1),(24,7),(24,22)] (fun a w=>∃ (mz:Nat) (b7:Option Addr) (cb:Nat),Has 516 a [(20,i6 D),(21,pq a4),(22,pq bb),(23,.slice cc bt.length cd),(24,.slice bx am.length bu),(25,.slice a2 bs.length a3),(26,.slice ba k.length a9),(27,.slice a8 ai.length a7),(28,i6 B),(175,i6 D),(185,i6 (W (1 + ((W (D.tdiv 3)).tmod 4)))),(186,i6 B)]∧Ctx G (.row (some ⟨mz,0,none⟩) 1 (([(⟨(W (D.tdiv (W (B + 2)))).tmod (W (1 + (D.tmod 3))),(W (D.tdiv (W (B + 3)))).tmod 9,W (((W (D.tdiv (W (B + 5)))).tmod 5) * 250)⟩:aG)]:List aG).map aK) 46 3::.row cv cx (ay.map aO) 48 2::.row b7 cb ((av++[(⟨(W (D.tdiv (W (B + 2)))).tmod (W (1 + (D.tmod 3))),(W (D.tdiv (W (B + 3)))).tmod 9,W (((W (D.tdiv (W (B + 5)))).tmod 5) * 250)⟩:aG)]).map aK) 46 3::.row a8 a7 (ai.map aD) 3 1::.row ba a9 (k.map aD) 3 1::.row a2 a3 (bs.map aD) 3 1::.row bx bu (am.map aW) 37 2::.row cc cd (bt.map aS) 50 5::.box bb [.slice cv ay.length cx,i6 0] 32::.box a4 [i6 (W (1 + (D.tmod 3))),.slice b7 ((av++[(⟨(W (D.tdiv (W (B + 2)))).tmod (W (1 + (D.tmod 3))),(W (D.tdiv (W (B + 3)))).tmod 9,W (((W (D.tdiv (W (B + 5)))).tmod 5) * 250)⟩:aG)]).length) cb] 25::Lf) w) aY (by kernel_rfl) (by kernel_rfl) (eY.of hf ⟨rfl,rfl,rfl,rfl,rfl,rfl,rfl,rfl,rfl,rfl,rfl,rfl,trivial,trivial,trivial,trivial,trivial,trivial,trivial,trivial,trivial,trivial,trivial,trivial,trivial,trivial,trivial,trivial,trivial,trivial,trivial,trivial,trivial,trivial,trivial,trivial,trivial⟩) hc ⟨?_,?_,?_,?_,?_,?_,?_,?_,?_,?_,?_,?_,?_,?_,?_,?_,?_,?_,?_,?_,?_,?_,?_,?_,?_,trivial⟩ ?_ ?_
    ·intro E θ a w hD hi hp he hc
     have hf:=he.h0.mT he 1 rfl
     refine zP hf rfl (pFA kN rfl) fun a hf=>zD θ he hi hf 12 rfl rfl rfl hc
    ·intro E θ a w hD hi hp he hc
     have e0:=hp.o 0 rfl
     have da:=hD.f 0 rfl hi
     try dsimp only at hc
     rw [da] at hc
     have hf:=he.h0.mP he 12 rfl e0
     refine zL hf hc sD m9 rfl fun a w hf hc=>zD θ he hi hf 13 rfl rfl rfl ?_
     try dsimp only
     rw [eO 1 da rfl]
     exact hc
    ·intro E θ a w hD hi hp he hc
     have hf:=he.h0.mT he 0 rfl
     refine sp 1 hf rfl fun a hf=>zD θ he hi hf 14 rfl rfl rfl hc
    ·intro E θ a w hD hi hp he hc
     have hf:=he.h0.mT he 8 rfl
     refine sp 1 hf rfl fun a hf=>zD θ he hi hf 15 rfl rfl rfl hc
    ·intro E θ a w hD hi hp he hc
     have e3:=hp.o 3 rfl
     have hf:=he.h0.mP he 15 rfl e3
     refine sp 1 hf rfl fun a hf=>zD θ he hi hf 16 rfl rfl rfl hc
    ·intro E θ a w hD hi hp he hc
     have e2:=hp.o 2 rfl
     have e4:=hp.o 4 rfl
     have hf:=(he.h0.mP he 14 rfl e2).mP he 16 rfl e4
     refine zP hf rfl (nE rfl rfl (eZ n7)) fun a hf=>zD θ he hi hf 17 rfl rfl rfl hc
    ·intro E θ a w hD hi hp he hc
     have hf:=he.h0.mT he 1 rfl
     refine zP hf rfl (pFA qP rfl) fun a hf=>zD θ he hi hf 18 rfl rfl rfl hc
    ·intro E θ a w hD hi hp he hc
     have e6:=hp.o 6 rfl
     have da:=hD.f 1 rfl hi
     try dsimp only at hc
     rw [da] at hc
     have hf:=he.h0.mP he 18 rfl e6
     refine zL hf hc bB m9 rfl fun a w hf hc=>zD θ he hi hf 19 rfl rfl rfl ?_
     try dsimp only
     rw [eO 7 da rfl]
     exact hc
    ·intro E θ a w hD hi hp he hc
     have e5:=hp.o 5 rfl
     have e7:=hp.o 7 rfl
     have hf:=(he.h0.mP he 17 rfl e5).mP he 19 rfl e7
     refine zP hf rfl (lH rfl rfl (eZ nr)) fun a hf=>zD θ he hi hf 20 rfl rfl rfl hc
    ·intro E θ a w hD hi hp he hc
     have hf:=he.h0.mT he 0 rfl
     refine sp 1 hf rfl fun a hf=>zD θ he hi hf 21 rfl rfl rfl hc
    ·intro E θ a w hD hi hp he hc
     have hf:=he.h0.mT he 8 rfl
     refine sp 1 hf rfl fun a hf=>zD θ he hi hf 22 rfl rfl rfl hc
    ·intro E θ a w hD hi hp he hc
     have bk:=hp.o 10 rfl
     have hf:=he.h0.mP he 22 rfl bk
     refine sp 1 hf rfl fun a hf=>zD θ he hi hf 23 rfl rfl rfl hc
    ·intro E θ a w hD hi hp he hc
     have e9:=hp.o 9 rfl
     have ax:=hp.o 11 rfl
     have hf:=(he.h0.mP he 21 rfl e9).mP he 23 rfl ax
     refine zP hf rfl (nE rfl rfl (eZ jt)) fun a hf=>zD θ he hi hf 24 rfl rfl rfl hc
    ·intro E θ a w hD hi hp he hc
     have ck:=hp.o 12 rfl
     have hf:=he.h0.mP he 24 rfl ck
     refine zP hf rfl (lH rfl rfl (by decide)) fun a hf=>zD θ he hi hf 25 rfl rfl rfl hc
    ·intro E θ a w hD hi hp he hc
     have hf:=he.h0.mT he 0 rfl
     refine sp 1 hf rfl fun a hf=>zD θ he hi hf 26 rfl rfl rfl hc
    ·intro E θ a w hD hi hp he hc
     have hf:=he.h0.mT he 8 rfl
     refine sp 1 hf rfl fun a hf=>zD θ he hi hf 27 rfl rfl rfl hc
    ·intro E θ a w hD hi hp he hc
     have cp:=hp.o 15 rfl
     have hf:=he.h0.mP he 27 rfl cp
     refine sp 1 hf rfl fun a hf=>zD θ he hi hf 28 rfl rfl rfl hc
    ·intro E θ a w hD hi hp he hc
     have ac:=hp.o 14 rfl
     have b6:=hp.o 16 rfl
     have hf:=(he.h0.mP he 26 rfl ac).mP he 28 rfl b6
     refine zP hf rfl (nE rfl rfl (eZ ms)) fun a hf=>zD θ he hi hf 29 rfl rfl rfl hc
    ·intro E θ a w hD hi hp he hc
     have cg:=hp.o 17 rfl
     have hf:=he.h0.mP he 29 rfl cg
     refine zP hf rfl (lH rfl rfl (by decide)) fun a hf=>zD θ he hi hf 30 rfl rfl rfl hc
    ·intro E θ a w hD hi hp he hc
     have cr:=hp.o 18 rfl
     have hf:=he.h0.mP he 30 rfl cr
     refine sp 1 hf rfl fun a hf=>zD θ he hi hf 31 rfl rfl rfl hc
    ·intro E θ a w hD hi hp he hc
     have e8:=hp.o 8 rfl
     have c3:=hp.o 13 rfl
     have b2:=hp.o 19 rfl
     have hf:=((he.h0.mP he 20 rfl e8).mP he 25 rfl c3).mP he 31 rfl b2
     refine zP hf rfl (bG (cells:=[i6 ((W (D.tdiv (W (B + 2)))).tmod (W (1 + (D.tmod 3)))),i6 ((W (D.tdiv (W (B + 3)))).tmod 9),i6 (W (((W (D.tdiv (W (B + 5)))).tmod 5) * 250))]) aD5 rfl rfl) fun a hf=>zD θ he hi hf 32 rfl rfl rfl hc
    ·intro E θ a w hD hi hp he hc
     have b3:=hp.o 20 rfl
     try dsimp only at hc
     rw [hi] at hc
     have hf:=he.h0.mP he 32 rfl b3
     refine gV (rows:=([(⟨(W (D.tdiv (W (B + 2)))).tmod (W (1 + (D.tmod 3))),(W (D.tdiv (W (B + 3)))).tmod 9,W (((W (D.tdiv (W (B + 5)))).tmod 5) * 250)⟩:aG)]:List aG).map aK) (vs:=[(0,.agg #[i6 ((W (D.tdiv (W (B + 2)))).tmod (W (1 + (D.tmod 3)))),i6 ((W (D.tdiv (W (B + 3)))).tmod 9),i6 (W (((W (D.tdiv (W (B + 5)))).tmod 5) * 250))])]) hf hc rfl rfl aCy rfl ⟨rfl,rfl,rfl,trivial⟩ rfl rfl fun p4 a w hf hc=>aP ?_
     refine bV ?_
     intro ds u ar
     replace hc:=hc.drop k1
     refine ⟨(fY θ 168 ⟨p4,none,0,(fun _=>(none,0))⟩),he.put hi ar hf rfl [] trivial ⟨qq,qq,qq,qq,qq,qq,qq,qq,qq,qq,qq,qq,qq,qq,qq,qq,qq,qq,qq,qq,qq,qq,qq,qq,qq,qq,qq,qq,qq,qq,qq,qq,qq,qq,qq,qq,trivial⟩,?_⟩
     try dsimp only
     rw [aU E 21]
     exact hc
    ·intro E θ a w hD hi hp he hc
     have e1:=hp.o 1 rfl
     have b4:=hp.o 21 rfl
     have da:=hD.f 2 rfl hi
     try dsimp only at hc
     rw [b4,hi,da] at hc
     have hf:=(he.h0.mP he 13 rfl e1).mP he 33 rfl b4
     refine iV (xs:=av) (ys:=([(⟨(W (D.tdiv (W (B + 2)))).tmod (W (1 + (D.tmod 3))),(W (D.tdiv (W (B + 3)))).tmod 9,W (((W (D.tdiv (W (B + 5)))).tmod 5) * 250)⟩:aG)]:List aG)) hf hc rfl rfl aCy rfl rfl rfl rfl rfl gI (fA hc m0) (fun _ _=>u2) (by simpa using cB nd) fun os o7 a w hf hc=>aP ?_
     refine bV ?_
     intro ds u ar
     refine ⟨(fY θ 176 ⟨0,os,o7,(fun _=>(none,0))⟩),he.put hi ar hf rfl [] trivial ⟨qq,qq,qq,qq,qq,qq,qq,qq,qq,qq,qq,qq,qq,qq,qq,qq,qq,qq,qq,qq,qq,qq,qq,qq,qq,qq,qq,qq,qq,qq,qq,qq,qq,qq,qq,qq,trivial⟩,?_⟩
     try dsimp only
     rw [dH 22 b4,aU E 22,eO 22 da rfl]
     exact hc
    ·intro E θ a w hD hi hp he hc
     have hf:=he.h0.mT he 1 rfl
     refine zP hf rfl (pFA kN rfl) fun a hf=>zD θ he hi hf 35 rfl rfl rfl hc
    ·intro E θ a w hD hi hp he hc
     have bd:=hp.o 22 rfl
     have dq:=hp.o 23 rfl
     try dsimp only at hc
     rw [hi] at hc
     have hf:=(he.h0.mP he 34 rfl bd).mP he 35 rfl dq
     refine zW hf hc aJf u9 rfl fun w hc=>zG θ he hi hf rfl ?_
     try dsimp only
     rw [aU E 24]
     exact hc
    ·intro E θ a w M he hc
     have hf:=he.h0
     have b4:=M 21 rfl
     have bd:=M 22 rfl
     have da:=M 24 rfl
     replace hf:=hf.more he 11 rfl (onT)
     replace hf:=hf.more he 10 rfl (onT)
     replace hf:=hf.more he 9 rfl (onT)
     replace hf:=hf.more he 8 rfl (onT)
     replace hf:=hf.more he 7 rfl (onT)
     replace hf:=hf.more he 6 rfl (onT)
     replace hf:=hf.more he 5 rfl (onT)
     replace hf:=hf.more he 4 rfl (onT)
     replace hf:=hf.more he 3 rfl (onT)
     replace hf:=hf.more he 2 rfl (onT)
     replace hf:=hf.more he 1 rfl (onT)
     replace hf:=hf.more he 0 rfl (onT)
     try dsimp only at hc
     rw [b4,bd,da] at hc
     exact ⟨(θ 168).b,(θ 176).p,(θ 176).c,hf.kp rfl,hc⟩
    rintro a w ⟨mz,b7,cb,hf,hc⟩
    replace hc:=hc.drop k0
    refine rc _ _ ?_
    refine wp_seq_k fun K59 ss=>?_
    obtain ⟨s2,ks,hF⟩:=aA hF
    obtain ⟨s5,kn,hF⟩:=aA hF
    obtain ⟨tp,mr,hF⟩:=aA hF
    replace hc:=hc.nilRow 0 0
    refine dJ (fun θ=>(⟨none,none,20,i6 D⟩::⟨none,none,21,pq a4⟩::⟨none,none,22,pq bb⟩::⟨none,none,23,.slice cc bt.length cd⟩::⟨none,none,24,.slice bx am.length bu⟩::⟨none,none,25,.slice a2 bs.length a3⟩::⟨none,none,26,.slice ba k.length a9⟩::⟨none,none,27,.slice a8 ai.length a7⟩::⟨none,none,28,i6 B⟩::⟨none,none,175,i6 D⟩::⟨none,none,185,i6 (W (1 + ((W (D.tdiv 3)).tmod 4)))⟩::⟨none,none,186,i6 B⟩::⟨some 0,none,213,pq bb⟩::⟨some 1,none,214,.slice cv ay.length cx⟩::⟨some 2,none,215,i6 B⟩::⟨some 3,none,216,i6 (W (3 * B))⟩::⟨some 4,none,217,i6 D⟩::⟨some 5,none,218,i6 B⟩::⟨some 6,none,219,i6 (W (B + 4))⟩::⟨some 7,none,220,i6 (W (D.tdiv (W (B + 4))))⟩::⟨some 8,none,221,i6 ((W (D.tdiv (W (B + 4)))).tmod 3)⟩::⟨some 9,none,222,i6 (W ((W (3 * B)) + ((W (D.tdiv (W (B + 4)))).tmod 3)))⟩::⟨some 10,none,223,i6 B⟩::⟨some 11,none,224,i6 (W (2 * B))⟩::⟨some 12,none,225,i6 D⟩::⟨some 13,none,226,i6 B⟩::⟨some 14,none,227,i6 (W (B + 6))⟩::⟨some 15,none,228,i6 (W (D.tdiv (W (B + 6))))⟩::⟨some 16,none,229,i6 ((W (D.tdiv (W (B + 6)))).tmod 3)⟩::⟨some 17,none,230,i6 (W ((W (2 * B)) + ((W (D.tdiv (W (B + 6)))).tmod 3)))⟩::⟨some 18,none,231,.agg #[i6 (W ((W (3 * B)) + ((W (D.tdiv (W (B + 4)))).tmod 3))),i6 (W ((W (2 * B)) + ((W (D.tdiv (W (B + 6)))).tmod 3)))]⟩::⟨some 19,none,232,.slice (some ⟨(θ 152).b,0,none⟩) 1 1⟩::⟨some 20,none,233,.slice ((θ 160).p) ((ay++[(⟨W ((W (3 * B)) + ((W (D.tdiv (W (B + 4)))).tmod 3)),W ((W (2 * B)) + ((W (D.tdiv (W (B + 6)))).tmod 3))⟩:aI)]).length) ((θ 160).c)⟩::⟨some 21,none,234,pq bb⟩::[])) (fun E θ=>(bif E 19 then .row (some ⟨(θ 152).b,0,none⟩) 1 (([(⟨W ((W (3 * B)) + ((W (D.tdiv (W (B + 4)))).tmod 3)),W ((W (2 * B)) + ((W (D.tdiv (W (B + 6)))).tmod 3))⟩:aI)]:List aI).map aO) 48 2 else .row none 0 [] 0 0)::(bif E 20 then .row ((θ 160).p) ((θ 160).c) ((ay++[(⟨W ((W (3 * B)) + ((W (D.tdiv (W (B + 4)))).tmod 3)),W ((W (2 * B)) + ((W (D.tdiv (W (B + 6)))).tmod 3))⟩:aI)]).map aO) 48 2 else .row cv cx (ay.map aO) 48 2)::.row b7 cb ((av++[(⟨(W (D.tdiv (W (B + 2)))).tmod (W (1 + (D.tmod 3))),(W (D.tdiv (W (B + 3)))).tmod 9,W (((W (D.tdiv (W (B + 5)))).tmod 5) * 250)⟩:aG)]).map aK) 46 3::.row a8 a7 (ai.map aD) 3 1::.row ba a9 (k.map aD) 3 1::.row a2 a3 (bs.map aD) 3 1::.row bx bu (am.map aW) 37 2::.row cc cd (bt.map aS) 50 5::(bif E 22 then .box bb [.slice ((θ 160).p) ((ay++[(⟨W ((W (3 * B)) + ((W (D.tdiv (W (B + 4)))).tmod 3)),W ((W (2 * B)) + ((W (D.tdiv (W (B + 6)))).tmod 3))⟩:aI)]).length) ((θ 160).c),i6 0] 32 else .box bb [.slice cv ay.length cx,i6 0] 32)::.box a4 [i6 (W (1 + (D.tmod 3))),.slice b7 ((av++[(⟨(W (D.tdiv (W (B + 2)))).tmod (W (1 + (D.tmod 3))),(W (D.tdiv (W (B + 3)))).tmod 9,W (((W (D.tdiv (W (B + 5)))).tmod 5) * 250)⟩:aG)]).length) cb] 25::Lf) [(22,1),(22,20)] (fun a w=>∃ (nc:Nat) (ct:Option Addr) (cs:Nat),Has 516 a [(20,i6 D),(21,pq a4),(22,pq bb),(23,.slice cc bt.length cd),(24,.slice bx am.length bu),(25,.slice a2 bs.length a3),(26,.slice ba k.length a9),(27,.slice a8 ai.length a7),(28,i6 B),(175,i6 D),(185,i6 (W (1 + ((W (D.tdiv 3)).tmod 4)))),(186,i6 B)]∧Ctx G (.row (some ⟨nc,0,none⟩) 1 (([(⟨W ((W (3 * B)) + ((W (D.tdiv (W (B + 4)))).tmod 3)),W ((W (2 * B)) + ((W (D.tdiv (W (B + 6)))).tmod 3))⟩:aI)]:List aI).map aO) 48 2::.row ct cs ((ay++[(⟨W ((W (3 * B)) + ((W (D.tdiv (W (B + 4)))).tmod 3)),W ((W (2 * B)) + ((W (D.tdiv (W (B + 6)))).tmod 3))⟩:aI)]).map aO) 48 2::.row b7 cb ((av++[(⟨(W (D.tdiv (W (B + 2)))).tmod (W (1 + (D.tmod 3))),(W (D.tdiv (W (B + 3)))).tmod 9,W (((W (D.tdiv (W (B + 5)))).tmod 5) * 250)⟩:aG)]).map aK) 46 3::.row a8 a7 (ai.map aD) 3 1::.row ba a9 (k.map aD) 3 1::.row a2 a3 (bs.map aD) 3 1::.row bx bu (am.map aW) 37 2::.row cc cd (bt.map aS) 50 5::.box bb [.slice ct ((ay++[(⟨W ((W (3 * B)) + ((W (D.tdiv (W (B + 4)))).tmod 3)),W ((W (2 * B)) + ((W (D.tdiv (W (B + 6)))).tmod 3))⟩:aI)]).length) cs,i6 0] 32::.box a4 [i6 (W (1 + (D.tmod 3))),.slice b7 ((av++[(⟨(W (D.tdiv (W (B + 2)))).tmod (W (1 + (D.tmod 3))),(W (D.tdiv (W (B + 3)))).tmod 9,W (((W (D.tdiv (W (B + 5)))).tmod 5) * 250)⟩:aG)]).length) cb] 25::Lf) w) aY (by kernel_rfl) (by kernel_rfl) (eY.of hf ⟨rfl,rfl,rfl,rfl,rfl,rfl,rfl,rfl,rfl,rfl,rfl,rfl,trivial,trivial,trivial,trivial,trivial,trivial,trivial,trivial,trivial,trivial,trivial,trivial,trivial,trivial,trivial,trivial,trivial,trivial,trivial,trivial,trivial,trivial,trivial⟩) hc ⟨?_,?_,?_,?_,?_,?_,?_,?_,?_,?_,?_,?_,?_,?_,?_,?_,?_,?_,?_,?_,?_,?_,?_,trivial⟩ ?_ ?_
    ·intro E θ a w hD hi hp he hc
     have hf:=he.h0.mT he 2 rfl
     refine zP hf rfl (pFA gB rfl) fun a hf=>zD θ he hi hf 12 rfl rfl rfl hc
    ·intro E θ a w hD hi hp he hc
     have e0:=hp.o 0 rfl
     have bd:=hD.f 0 rfl hi
     try dsimp only at hc
     rw [bd] at hc
     have hf:=he.h0.mP he 12 rfl e0
     refine zL hf hc oH m8 rfl fun a w hf hc=>zD θ he hi hf 13 rfl rfl rfl ?_
     try dsimp only
     rw [eO 1 bd rfl]
     exact hc
    ·intro E θ a w hD hi hp he hc
     have hf:=he.h0.mT he 8 rfl
     refine sp 1 hf rfl fun a hf=>zD θ he hi hf 14 rfl rfl rfl hc
    ·intro E θ a w hD hi hp he hc
     have e2:=hp.o 2 rfl
     have hf:=he.h0.mP he 14 rfl e2
     refine sp 1 hf rfl fun a hf=>zD θ he hi hf 15 rfl rfl rfl hc
    ·intro E θ a w hD hi hp he hc
     have hf:=he.h0.mT he 0 rfl
     refine sp 1 hf rfl fun a hf=>zD θ he hi hf 16 rfl rfl rfl hc
    ·intro E θ a w hD hi hp he hc
     have hf:=he.h0.mT he 8 rfl
     refine sp 1 hf rfl fun a hf=>zD θ he hi hf 17 rfl rfl rfl hc
    ·intro E θ a w hD hi hp he hc
     have e5:=hp.o 5 rfl
     have hf:=he.h0.mP he 17 rfl e5
     refine sp 1 hf rfl fun a hf=>zD θ he hi hf 18 rfl rfl rfl hc
    ·intro E θ a w hD hi hp he hc
     have e4:=hp.o 4 rfl
     have e6:=hp.o 6 rfl
     have hf:=(he.h0.mP he 16 rfl e4).mP he 18 rfl e6
     refine zP hf rfl (nE rfl rfl (eZ ks)) fun a hf=>zD θ he hi hf 19 rfl rfl rfl hc
    ·intro E θ a w hD hi hp he hc
     have e7:=hp.o 7 rfl
     have hf:=he.h0.mP he 19 rfl e7
     refine zP hf rfl (lH rfl rfl (by decide)) fun a hf=>zD θ he hi hf 20 rfl rfl rfl hc
    ·intro E θ a w hD hi hp he hc
     have e3:=hp.o 3 rfl
     have e8:=hp.o 8 rfl
     have hf:=(he.h0.mP he 15 rfl e3).mP he 20 rfl e8
     refine sp 1 hf rfl fun a hf=>zD θ he hi hf 21 rfl rfl rfl hc
    ·intro E θ a w hD hi hp he hc
     have hf:=he.h0.mT he 8 rfl
     refine sp 1 hf rfl fun a hf=>zD θ he hi hf 22 rfl rfl rfl hc
    ·intro E θ a w hD hi hp he hc
     have bk:=hp.o 10 rfl
     have hf:=he.h0.mP he 22 rfl bk
     refine sp 1 hf rfl fun a hf=>zD θ he hi hf 23 rfl rfl rfl hc
    ·intro E θ a w hD hi hp he hc
     have hf:=he.h0.mT he 0 rfl
     refine sp 1 hf rfl fun a hf=>zD θ he hi hf 24 rfl rfl rfl hc
    ·intro E θ a w hD hi hp he hc
     have hf:=he.h0.mT he 8 rfl
     refine sp 1 hf rfl fun a hf=>zD θ he hi hf 25 rfl rfl rfl hc
    ·intro E θ a w hD hi hp he hc
     have c3:=hp.o 13 rfl
     have hf:=he.h0.mP he 25 rfl c3
     refine sp 1 hf rfl fun a hf=>zD θ he hi hf 26 rfl rfl rfl hc
    ·intro E θ a w hD hi hp he hc
     have ck:=hp.o 12 rfl
     have ac:=hp.o 14 rfl
     have hf:=(he.h0.mP he 24 rfl ck).mP he 26 rfl ac
     refine zP hf rfl (nE rfl rfl (eZ kn)) fun a hf=>zD θ he hi hf 27 rfl rfl rfl hc
    ·intro E θ a w hD hi hp he hc
     have cp:=hp.o 15 rfl
     have hf:=he.h0.mP he 27 rfl cp
     refine zP hf rfl (lH rfl rfl (by decide)) fun a hf=>zD θ he hi hf 28 rfl rfl rfl hc
    ·intro E θ a w hD hi hp he hc
     have ax:=hp.o 11 rfl
     have b6:=hp.o 16 rfl
     have hf:=(he.h0.mP he 23 rfl ax).mP he 28 rfl b6
     refine sp 1 hf rfl fun a hf=>zD θ he hi hf 29 rfl rfl rfl hc
    ·intro E θ a w hD hi hp he hc
     have e9:=hp.o 9 rfl
     have cg:=hp.o 17 rfl
     have hf:=(he.h0.mP he 21 rfl e9).mP he 29 rfl cg
     refine zP hf rfl (bG (cells:=[i6 (W ((W (3 * B)) + ((W (D.tdiv (W (B + 4)))).tmod 3))),i6 (W ((W (2 * B)) + ((W (D.tdiv (W (B + 6)))).tmod 3)))]) aGw rfl rfl) fun a hf=>zD θ he hi hf 30 rfl rfl rfl hc
    ·intro E θ a w hD hi hp he hc
     have cr:=hp.o 18 rfl
     try dsimp only at hc
     rw [hi] at hc
     have hf:=he.h0.mP he 30 rfl cr
     refine gV (rows:=([(⟨W ((W (3 * B)) + ((W (D.tdiv (W (B + 4)))).tmod 3)),W ((W (2 * B)) + ((W (D.tdiv (W (B + 6)))).tmod 3))⟩:aI)]:List aI).map aO) (vs:=[(0,.agg #[i6 (W ((W (3 * B)) + ((W (D.tdiv (W (B + 4)))).tmod 3))),i6 (W ((W (2 * B)) + ((W (D.tdiv (W (B + 6)))).tmod 3)))])]) hf hc rfl rfl aCk rfl ⟨rfl,rfl,rfl,trivial⟩ rfl rfl fun pv a w hf hc=>aP ?_
     refine bV ?_
     intro ds u ar
     replace hc:=hc.drop k1
     refine ⟨(fY θ 152 ⟨pv,none,0,(fun _=>(none,0))⟩),he.put hi ar hf rfl [] trivial ⟨qq,qq,qq,qq,qq,qq,qq,qq,qq,qq,qq,qq,qq,qq,qq,qq,qq,qq,qq,qq,qq,qq,qq,qq,qq,qq,qq,qq,qq,qq,qq,qq,qq,qq,trivial⟩,?_⟩
     try dsimp only
     rw [aU E 19]
     exact hc
    ·intro E θ a w hD hi hp he hc
     have e1:=hp.o 1 rfl
     have b2:=hp.o 19 rfl
     have bd:=hD.f 1 rfl hi
     try dsimp only at hc
     rw [b2,hi,bd] at hc
     have hf:=(he.h0.mP he 13 rfl e1).mP he 31 rfl b2
     refine iV (xs:=ay) (ys:=([(⟨W ((W (3 * B)) + ((W (D.tdiv (W (B + 4)))).tmod 3)),W ((W (2 * B)) + ((W (D.tdiv (W (B + 6)))).tmod 3))⟩:aI)]:List aI)) hf hc rfl rfl aCk rfl rfl rfl rfl rfl iY (fA hc m0) (fun _ _=>u1) (by simpa using cB mr) fun oz o4 a w hf hc=>aP ?_
     refine bV ?_
     intro ds u ar
     refine ⟨(fY θ 160 ⟨0,oz,o4,(fun _=>(none,0))⟩),he.put hi ar hf rfl [] trivial ⟨qq,qq,qq,qq,qq,qq,qq,qq,qq,qq,qq,qq,qq,qq,qq,qq,qq,qq,qq,qq,qq,qq,qq,qq,qq,qq,qq,qq,qq,qq,qq,qq,qq,qq,trivial⟩,?_⟩
     try dsimp only
     rw [dH 20 b2,aU E 20,eO 20 bd rfl]
     exact hc
    ·intro E θ a w hD hi hp he hc
     have hf:=he.h0.mT he 2 rfl
     refine zP hf rfl (pFA gB rfl) fun a hf=>zD θ he hi hf 33 rfl rfl rfl hc
    ·intro E θ a w hD hi hp he hc
     have b3:=hp.o 20 rfl
     have b4:=hp.o 21 rfl
     try dsimp only at hc
     rw [hi] at hc
     have hf:=(he.h0.mP he 32 rfl b3).mP he 33 rfl b4
     refine zW hf hc aIl u8 rfl fun w hc=>zG θ he hi hf rfl ?_
     try dsimp only
     rw [aU E 22]
     exact hc
    ·intro E θ a w M he hc
     have hf:=he.h0
     have b2:=M 19 rfl
     have b3:=M 20 rfl
     have bd:=M 22 rfl
     replace hf:=hf.more he 11 rfl (onT)
     replace hf:=hf.more he 10 rfl (onT)
     replace hf:=hf.more he 9 rfl (onT)
     replace hf:=hf.more he 8 rfl (onT)
     replace hf:=hf.more he 7 rfl (onT)
     replace hf:=hf.more he 6 rfl (onT)
     replace hf:=hf.more he 5 rfl (onT)
     replace hf:=hf.more he 4 rfl (onT)
     replace hf:=hf.more he 3 rfl (onT)
     replace hf:=hf.more he 2 rfl (onT)
     replace hf:=hf.more he 1 rfl (onT)
     replace hf:=hf.more he 0 rfl (onT)
     try dsimp only at hc
     rw [b2,b3,bd] at hc
     exact ⟨(θ 152).b,(θ 160).p,(θ 160).c,hf.kp rfl,hc⟩
    rintro a w ⟨nc,ct,cs,hf,hc⟩
    replace hc:=hc.drop k0
    refine ss _ _ ?_
    refine wp_seq_k fun K60 rr=>?_
    obtain ⟨tq,ku,hF⟩:=aA hF
    obtain ⟨ta,jz,hF⟩:=aA hF
    obtain ⟨a1,nj,hF⟩:=aA hF
    obtain ⟨ti,mv,hF⟩:=aA hF
    obtain ⟨tn,j6,hF⟩:=aA hF
    obtain ⟨a5,ny,hF⟩:=aA hF
    obtain ⟨s7,mu,hF⟩:=aA hF
    obtain ⟨s0,ma,hF⟩:=aA hF
    replace hc:=hc.nilRow 0 0
    refine dJ (fun θ=>(⟨none,none,20,i6 D⟩::⟨none,none,21,pq a4⟩::⟨none,none,22,pq bb⟩::⟨none,some 39,23,.slice cc bt.length cd⟩::⟨none,none,24,.slice bx am.length bu⟩::⟨none,none,25,.slice a2 bs.length a3⟩::⟨none,none,26,.slice ba k.length a9⟩::⟨none,none,27,.slice a8 ai.length a7⟩::⟨none,none,28,i6 B⟩::⟨none,none,175,i6 D⟩::⟨none,none,185,i6 (W (1 + ((W (D.tdiv 3)).tmod 4)))⟩::⟨none,none,186,i6 B⟩::⟨some 0,none,235,.slice cc bt.length cd⟩::⟨some 1,none,236,i6 D⟩::⟨some 2,none,237,i6 B⟩::⟨some 3,none,238,i6 (W (B + 7))⟩::⟨some 4,none,239,i6 (W (D.tdiv (W (B + 7))))⟩::⟨some 5,none,240,i6 ((W (D.tdiv (W (B + 7)))).tmod 9)⟩::⟨some 6,none,241,i6 D⟩::⟨some 7,none,242,i6 B⟩::⟨some 8,none,243,i6 (W (B + 7))⟩::⟨some 9,none,244,i6 (W (D.tdiv (W (B + 7))))⟩::⟨some 10,none,245,i6 ((W (D.tdiv (W (B + 7)))).tmod 9)⟩::⟨some 11,none,246,i6 D⟩::⟨some 12,none,247,i6 (D.tmod 3)⟩::⟨some 13,none,248,i6 (W (((W (D.tdiv (W (B + 7)))).tmod 9) + (D.tmod 3)))⟩::⟨some 14,none,249,.agg #[i6 a1.Lo,i6 a1.Hi]⟩::⟨some 15,none,250,i6 D⟩::⟨some 16,none,251,i6 B⟩::⟨some 17,none,252,i6 (W (B + 1))⟩::⟨some 18,none,253,i6 (W (D.tdiv (W (B + 1))))⟩::⟨some 19,none,254,i6 ((W (D.tdiv (W (B + 1)))).tmod 7)⟩::⟨some 20,none,255,i6 D⟩::⟨some 21,none,256,i6 B⟩::⟨some 22,none,257,i6 (W (B + 1))⟩::⟨some 23,none,258,i6 (W (D.tdiv (W (B + 1))))⟩::⟨some 24,none,259,i6 ((W (D.tdiv (W (B + 1)))).tmod 7)⟩::⟨some 25,none,260,i6 D⟩::⟨some 26,none,261,i6 (W (D.tdiv 2))⟩::⟨some 27,none,262,i6 ((W (D.tdiv 2)).tmod 3)⟩::⟨some 28,none,263,i6 (W (((W (D.tdiv (W (B + 1)))).tmod 7) + ((W (D.tdiv 2)).tmod 3)))⟩::⟨some 29,none,264,.agg #[i6 a5.Lo,i6 a5.Hi]⟩::⟨some 30,none,265,i6 D⟩::⟨some 31,none,266,i6 B⟩::⟨some 32,none,267,i6 (W (B + 8))⟩::⟨some 33,none,268,i6 (W (D.tdiv (W (B + 8))))⟩::⟨some 34,none,269,i6 ((W (D.tdiv (W (B + 8)))).tmod 7)⟩::⟨some 35,none,270,.bool (((W (D.tdiv (W (B + 8)))).tmod 7) == 0)⟩::⟨some 36,none,271,.agg #[i6 a1.Lo,i6 a1.Hi,i6 a5.Lo,i6 a5.Hi,.bool (((W (D.tdiv (W (B + 8)))).tmod 7) == 0)]⟩::⟨some 37,none,272,.slice (some ⟨(θ 296).b,0,none⟩) 1 1⟩::⟨some 38,none,273,.slice ((θ 304).p) ((bt++[(⟨a1,a5,(((W (D.tdiv (W (B + 8)))).tmod 7) == 0)⟩:aF)]).length) ((θ 304).c)⟩::⟨some 39,none,23,.slice ((θ 304).p) ((bt++[(⟨a1,a5,(((W (D.tdiv (W (B + 8)))).tmod 7) == 0)⟩:aF)]).length) ((θ 304).c)⟩::[])) (fun E θ=>(bif E 37 then .row (some ⟨(θ 296).b,0,none⟩) 1 (([(⟨a1,a5,(((W (D.tdiv (W (B + 8)))).tmod 7) == 0)⟩:aF)]:List aF).map aS) 50 5 else .row none 0 [] 0 0)::.row ct cs ((ay++[(⟨W ((W (3 * B)) + ((W (D.tdiv (W (B + 4)))).tmod 3)),W ((W (2 * B)) + ((W (D.tdiv (W (B + 6)))).tmod 3))⟩:aI)]).map aO) 48 2::.row b7 cb ((av++[(⟨(W (D.tdiv (W (B + 2)))).tmod (W (1 + (D.tmod 3))),(W (D.tdiv (W (B + 3)))).tmod 9,W (((W (D.tdiv (W (B + 5)))).tmod 5) * 250)⟩:aG)]).map aK) 46 3::.row a8 a7 (ai.map aD) 3 1::.row ba a9 (k.map aD) 3 1::.row a2 a3 (bs.map aD) 3 1::.row bx bu (am.map aW) 37 2::(bif E 38 then .row ((θ 304).p) ((θ 304).c) ((bt++[(⟨a1,a5,(((W (D.tdiv (W (B + 8)))).tmod 7) == 0)⟩:aF)]).map aS) 50 5 else .row cc cd (bt.map aS) 50 5)::.box bb [.slice ct ((ay++[(⟨W ((W (3 * B)) + ((W (D.tdiv (W (B + 4)))).tmod 3)),W ((W (2 * B)) + ((W (D.tdiv (W (B + 6)))).tmod 3))⟩:aI)]).length) cs,i6 0] 32::.box a4 [i6 (W (1 + (D.tmod 3))),.slice b7 ((av++[(⟨(W (D.tdiv (W (B + 2)))).tmod (W (1 + (D.tmod 3))),(W (D.tdiv (W (B + 3)))).tmod 9,W (((W (D.tdiv (W (B + 5)))).tmod 5) * 250)⟩:aG)]).length) cb] 25::Lf) [(39,0),(39,38)] (fun a w=>∃ (c8:Option Addr) (c4:Nat) (kk:Nat),Has 516 a [(20,i6 D),(21,pq a4),(22,pq bb),(24,.slice bx am.length bu),(25,.slice a2 bs.length a3),(26,.slice ba k.length a9),(27,.slice a8 ai.length a7),(28,i6 B),(175,i6 D),(185,i6 (W (1 + ((W (D.tdiv 3)).tmod 4)))),(186,i6 B),(23,.slice c8 ((bt++[(⟨a1,a5,(((W (D.tdiv (W (B + 8)))).tmod 7) == 0)⟩:aF)]).length) c4)]∧Ctx G (.row (some ⟨kk,0,none⟩) 1 (([(⟨a1,a5,(((W (D.tdiv (W (B + 8)))).tmod 7) == 0)⟩:aF)]:List aF).map aS) 50 5::.row ct cs ((ay++[(⟨W ((W (3 * B)) + ((W (D.tdiv (W (B + 4)))).tmod 3)),W ((W (2 * B)) + ((W (D.tdiv (W (B + 6)))).tmod 3))⟩:aI)]).map aO) 48 2::.row b7 cb ((av++[(⟨(W (D.tdiv (W (B + 2)))).tmod (W (1 + (D.tmod 3))),(W (D.tdiv (W (B + 3)))).tmod 9,W (((W (D.tdiv (W (B + 5)))).tmod 5) * 250)⟩:aG)]).map aK) 46 3::.row a8 a7 (ai.map aD) 3 1::.row ba a9 (k.map aD) 3 1::.row a2 a3 (bs.map aD) 3 1::.row bx bu (am.map aW) 37 2::.row c8 c4 ((bt++[(⟨a1,a5,(((W (D.tdiv (W (B + 8)))).tmod 7) == 0)⟩:aF)]).map aS) 50 5::.box bb [.slice ct ((ay++[(⟨W ((W (3 * B)) + ((W (D.tdiv (W (B + 4)))).tmod 3)),W ((W (2 * B)) + ((W (D.tdiv (W (B + 6)))).tmod 3))⟩:aI)]).length) cs,i6 0] 32::.box a4 [i6 (W (1 + (D.tmod 3))),.slice b7 ((av++[(⟨(W (D.tdiv (W (B + 2)))).tmod (W (1 + (D.tmod 3))),(W (D.tdiv (W (B + 3)))).tmod 9,W (((W (D.tdiv (W (B + 5)))).tmod 5) * 250)⟩:aG)]).length) cb] 25::Lf) w) aY (by kernel_rfl) (by kernel_rfl) (eY.of hf ⟨rfl,rfl,rfl,rfl,rfl,rfl,rfl,rfl,rfl,rfl,rfl,rfl,trivial,trivial,trivial,trivial,trivial,trivial,trivial,trivial,trivial,trivial,trivial,trivial,trivial,trivial,trivial,trivial,trivial,trivial,trivial,trivial,trivial,trivial,trivial,trivial,trivial,trivial,trivial,trivial,trivial,trivial,trivial,trivial,trivial,trivial,trivial,trivial,trivial,trivial,trivial,trivial,trivial⟩) hc ⟨?_,?_,?_,?_,?_,?_,?_,?_,?_,?_,?_,?_,?_,?_,?_,?_,?_,?_,?_,?_,?_,?_,?_,?_,?_,?_,?_,?_,?_,?_,?_,?_,?_,?_,?_,?_,?_,?_,?_,?_,trivial⟩ ?_ ?_
    ·intro E θ a w hD hi hp he hc
     have gp:=hD.f 0 rfl hi
     have hf:=he.h0.mN he 3 rfl gp
     refine sp 1 hf rfl fun a hf=>zD θ he hi hf 12 rfl rfl rfl hc
    ·intro E θ a w hD hi hp he hc
     have hf:=he.h0.mT he 0 rfl
     refine sp 1 hf rfl fun a hf=>zD θ he hi hf 13 rfl rfl rfl hc
    ·intro E θ a w hD hi hp he hc
     have hf:=he.h0.mT he 8 rfl
     refine sp 1 hf rfl fun a hf=>zD θ he hi hf 14 rfl rfl rfl hc
    ·intro E θ a w hD hi hp he hc
     have e2:=hp.o 2 rfl
     have hf:=he.h0.mP he 14 rfl e2
     refine sp 1 hf rfl fun a hf=>zD θ he hi hf 15 rfl rfl rfl hc
    ·intro E θ a w hD hi hp he hc
     have e1:=hp.o 1 rfl
     have e3:=hp.o 3 rfl
     have hf:=(he.h0.mP he 13 rfl e1).mP he 15 rfl e3
     refine zP hf rfl (nE rfl rfl (eZ ku)) fun a hf=>zD θ he hi hf 16 rfl rfl rfl hc
    ·intro E θ a w hD hi hp he hc
     have e4:=hp.o 4 rfl
     have hf:=he.h0.mP he 16 rfl e4
     refine zP hf rfl (lH rfl rfl (by decide)) fun a hf=>zD θ he hi hf 17 rfl rfl rfl hc
    ·intro E θ a w hD hi hp he hc
     have hf:=he.h0.mT he 0 rfl
     refine sp 1 hf rfl fun a hf=>zD θ he hi hf 18 rfl rfl rfl hc
    ·intro E θ a w hD hi hp he hc
     have hf:=he.h0.mT he 8 rfl
     refine sp 1 hf rfl fun a hf=>zD θ he hi hf 19 rfl rfl rfl hc
    ·intro E θ a w hD hi hp he hc
     have e7:=hp.o 7 rfl
     have hf:=he.h0.mP he 19 rfl e7
     refine sp 1 hf rfl fun a hf=>zD θ he hi hf 20 rfl rfl rfl hc
    ·intro E θ a w hD hi hp he hc
     have e6:=hp.o 6 rfl
     have e8:=hp.o 8 rfl
     have hf:=(he.h0.mP he 18 rfl e6).mP he 20 rfl e8
     refine zP hf rfl (nE rfl rfl (eZ jz)) fun a hf=>zD θ he hi hf 21 rfl rfl rfl hc
    ·intro E θ a w hD hi hp he hc
     have e9:=hp.o 9 rfl
     have hf:=he.h0.mP he 21 rfl e9
     refine zP hf rfl (lH rfl rfl (by decide)) fun a hf=>zD θ he hi hf 22 rfl rfl rfl hc
    ·intro E θ a w hD hi hp he hc
     have hf:=he.h0.mT he 0 rfl
     refine sp 1 hf rfl fun a hf=>zD θ he hi hf 23 rfl rfl rfl hc
    ·intro E θ a w hD hi hp he hc
     have ax:=hp.o 11 rfl
     have hf:=he.h0.mP he 23 rfl ax
     refine zP hf rfl (lH rfl rfl (by decide)) fun a hf=>zD θ he hi hf 24 rfl rfl rfl hc
    ·intro E θ a w hD hi hp he hc
     have bk:=hp.o 10 rfl
     have ck:=hp.o 12 rfl
     have hf:=(he.h0.mP he 22 rfl bk).mP he 24 rfl ck
     refine sp 1 hf rfl fun a hf=>zD θ he hi hf 25 rfl rfl rfl hc
    ·intro E θ a w hD hi hp he hc
     have e5:=hp.o 5 rfl
     have c3:=hp.o 13 rfl
     have hf:=(he.h0.mP he 17 rfl e5).mP he 25 rfl c3
     refine zQ (v:=.agg #[i6 a1.Lo,i6 a1.Hi]) hf hc tQ rfl (fun w hc=>cJ ((W (D.tdiv (W (B + 7)))).tmod 9) (W (((W (D.tdiv (W (B + 7)))).tmod 9) + (D.tmod 3))) hc nj) fun a w hf hc=>zD θ he hi hf 26 rfl rfl rfl hc
    ·intro E θ a w hD hi hp he hc
     have hf:=he.h0.mT he 0 rfl
     refine sp 1 hf rfl fun a hf=>zD θ he hi hf 27 rfl rfl rfl hc
    ·intro E θ a w hD hi hp he hc
     have hf:=he.h0.mT he 8 rfl
     refine sp 1 hf rfl fun a hf=>zD θ he hi hf 28 rfl rfl rfl hc
    ·intro E θ a w hD hi hp he hc
     have b6:=hp.o 16 rfl
     have hf:=he.h0.mP he 28 rfl b6
     refine sp 1 hf rfl fun a hf=>zD θ he hi hf 29 rfl rfl rfl hc
    ·intro E θ a w hD hi hp he hc
     have cp:=hp.o 15 rfl
     have cg:=hp.o 17 rfl
     have hf:=(he.h0.mP he 27 rfl cp).mP he 29 rfl cg
     refine zP hf rfl (nE rfl rfl (eZ mv)) fun a hf=>zD θ he hi hf 30 rfl rfl rfl hc
    ·intro E θ a w hD hi hp he hc
     have cr:=hp.o 18 rfl
     have hf:=he.h0.mP he 30 rfl cr
     refine zP hf rfl (lH rfl rfl (by decide)) fun a hf=>zD θ he hi hf 31 rfl rfl rfl hc
    ·intro E θ a w hD hi hp he hc
     have hf:=he.h0.mT he 0 rfl
     refine sp 1 hf rfl fun a hf=>zD θ he hi hf 32 rfl rfl rfl hc
    ·intro E θ a w hD hi hp he hc
     have hf:=he.h0.mT he 8 rfl
     refine sp 1 hf rfl fun a hf=>zD θ he hi hf 33 rfl rfl rfl hc
    ·intro E θ a w hD hi hp he hc
     have b4:=hp.o 21 rfl
     have hf:=he.h0.mP he 33 rfl b4
     refine sp 1 hf rfl fun a hf=>zD θ he hi hf 34 rfl rfl rfl hc
    ·intro E θ a w hD hi hp he hc
     have b3:=hp.o 20 rfl
     have bd:=hp.o 22 rfl
     have hf:=(he.h0.mP he 32 rfl b3).mP he 34 rfl bd
     refine zP hf rfl (nE rfl rfl (eZ j6)) fun a hf=>zD θ he hi hf 35 rfl rfl rfl hc
    ·intro E θ a w hD hi hp he hc
     have dq:=hp.o 23 rfl
     have hf:=he.h0.mP he 35 rfl dq
     refine zP hf rfl (lH rfl rfl (by decide)) fun a hf=>zD θ he hi hf 36 rfl rfl rfl hc
    ·intro E θ a w hD hi hp he hc
     have hf:=he.h0.mT he 0 rfl
     refine sp 1 hf rfl fun a hf=>zD θ he hi hf 37 rfl rfl rfl hc
    ·intro E θ a w hD hi hp he hc
     have d7:=hp.o 25 rfl
     have hf:=he.h0.mP he 37 rfl d7
     refine zP hf rfl (nE rfl rfl (by decide)) fun a hf=>zD θ he hi hf 38 rfl rfl rfl hc
    ·intro E θ a w hD hi hp he hc
     have gq:=hp.o 26 rfl
     have hf:=he.h0.mP he 38 rfl gq
     refine zP hf rfl (lH rfl rfl (by decide)) fun a hf=>zD θ he hi hf 39 rfl rfl rfl hc
    ·intro E θ a w hD hi hp he hc
     have da:=hp.o 24 rfl
     have d6:=hp.o 27 rfl
     have hf:=(he.h0.mP he 36 rfl da).mP he 39 rfl d6
     refine sp 1 hf rfl fun a hf=>zD θ he hi hf 40 rfl rfl rfl hc
    ·intro E θ a w hD hi hp he hc
     have b2:=hp.o 19 rfl
     have ga:=hp.o 28 rfl
     have hf:=(he.h0.mP he 31 rfl b2).mP he 40 rfl ga
     refine zQ (v:=.agg #[i6 a5.Lo,i6 a5.Hi]) hf hc tQ rfl (fun w hc=>cJ ((W (D.tdiv (W (B + 1)))).tmod 7) (W (((W (D.tdiv (W (B + 1)))).tmod 7) + ((W (D.tdiv 2)).tmod 3))) hc ny) fun a w hf hc=>zD θ he hi hf 41 rfl rfl rfl hc
    ·intro E θ a w hD hi hp he hc
     have hf:=he.h0.mT he 0 rfl
     refine sp 1 hf rfl fun a hf=>zD θ he hi hf 42 rfl rfl rfl hc
    ·intro E θ a w hD hi hp he hc
     have hf:=he.h0.mT he 8 rfl
     refine sp 1 hf rfl fun a hf=>zD θ he hi hf 43 rfl rfl rfl hc
    ·intro E θ a w hD hi hp he hc
     have my:=hp.o 31 rfl
     have hf:=he.h0.mP he 43 rfl my
     refine sp 1 hf rfl fun a hf=>zD θ he hi hf 44 rfl rfl rfl hc
    ·intro E θ a w hD hi hp he hc
     have kf:=hp.o 30 rfl
     have mf:=hp.o 32 rfl
     have hf:=(he.h0.mP he 42 rfl kf).mP he 44 rfl mf
     refine zP hf rfl (nE rfl rfl (eZ mu)) fun a hf=>zD θ he hi hf 45 rfl rfl rfl hc
    ·intro E θ a w hD hi hp he hc
     have j3:=hp.o 33 rfl
     have hf:=he.h0.mP he 45 rfl j3
     refine zP hf rfl (lH rfl rfl (by decide)) fun a hf=>zD θ he hi hf 46 rfl rfl rfl hc
    ·intro E θ a w hD hi hp he hc
     have na:=hp.o 34 rfl
     have hf:=he.h0.mP he 46 rfl na
     refine sp 1 hf rfl fun a hf=>zD θ he hi hf 47 rfl rfl rfl hc
    ·intro E θ a w hD hi hp he hc
     have ac:=hp.o 14 rfl
     have d9:=hp.o 29 rfl
     have ju:=hp.o 35 rfl
     have hf:=((he.h0.mP he 26 rfl ac).mP he 41 rfl d9).mP he 47 rfl ju
     refine zP hf rfl (bG (cells:=[i6 a1.Lo,i6 a1.Hi,i6 a5.Lo,i6 a5.Hi,.bool (((W (D.tdiv (W (B + 8)))).tmod 7) == 0)]) aEd rfl rfl) fun a hf=>zD θ he hi hf 48 rfl rfl rfl hc
    ·intro E θ a w hD hi hp he hc
     have mj:=hp.o 36 rfl
     try dsimp only at hc
     rw [hi] at hc
     have hf:=he.h0.mP he 48 rfl mj
     refine gV (rows:=([(⟨a1,a5,(((W (D.tdiv (W (B + 8)))).tmod 7) == 0)⟩:aF)]:List aF).map aS) (vs:=[(0,.agg #[i6 a1.Lo,i6 a1.Hi,i6 a5.Lo,i6 a5.Hi,.bool (((W (D.tdiv (W (B + 8)))).tmod 7) == 0)])]) hf hc rfl rfl aCb rfl ⟨rfl,rfl,rfl,trivial⟩ rfl rfl fun pt a w hf hc=>aP ?_
     refine bV ?_
     intro ds u ar
     replace hc:=hc.drop k1
     refine ⟨(fY θ 296 ⟨pt,none,0,(fun _=>(none,0))⟩),he.put hi ar hf rfl [] trivial ⟨qq,qq,qq,qq,qq,qq,qq,qq,qq,qq,qq,qq,qq,qq,qq,qq,qq,qq,qq,qq,qq,qq,qq,qq,qq,qq,qq,qq,qq,qq,qq,qq,qq,qq,qq,qq,qq,qq,qq,qq,qq,qq,qq,qq,qq,qq,qq,qq,qq,qq,qq,qq,trivial⟩,?_⟩
     try dsimp only
     rw [aU E 37]
     exact hc
    ·intro E θ a w hD hi hp he hc
     have e0:=hp.o 0 rfl
     have gi:=hp.o 37 rfl
     have gp:=hD.f 1 rfl hi
     try dsimp only at hc
     rw [gi,hi] at hc
     have hf:=(he.h0.mP he 12 rfl e0).mP he 49 rfl gi
     refine iV (xs:=bt) (ys:=([(⟨a1,a5,(((W (D.tdiv (W (B + 8)))).tmod 7) == 0)⟩:aF)]:List aF)) hf hc rfl rfl aCb rfl rfl rfl rfl rfl jP (fA hc m0) (fun _ _=>u7) (by simpa using cB ma) fun qm p0 a w hf hc=>aP ?_
     refine bV ?_
     intro ds u ar
     refine ⟨(fY θ 304 ⟨0,qm,p0,(fun _=>(none,0))⟩),he.put hi ar hf rfl [39] ⟨⟨gp,rfl⟩,trivial⟩ ⟨qq,qq,qq,qq,qq,qq,qq,qq,qq,qq,qq,qq,qq,qq,qq,qq,qq,qq,qq,qq,qq,qq,qq,qq,qq,qq,qq,qq,qq,qq,qq,qq,qq,qq,qq,qq,qq,qq,qq,qq,qq,qq,qq,qq,qq,qq,qq,qq,qq,qq,qq,trivial,trivial⟩,?_⟩
     try dsimp only
     rw [dH 38 gi,aU E 38]
     exact hc
    ·intro E θ a w hD hi hp he hc
     have ir:=hp.o 38 rfl
     have hf:=he.h0.mP he 50 rfl ir
     refine sp 1 hf rfl fun a hf=>zD θ he hi hf 51 rfl rfl rfl hc
    ·intro E θ a w M he hc
     have hf:=he.h0
     have gi:=M 37 rfl
     have ir:=M 38 rfl
     have gp:=M 39 rfl
     replace hf:=hf.more he 51 rfl (onP gp)
     replace hf:=hf.more he 11 rfl (onT)
     replace hf:=hf.more he 10 rfl (onT)
     replace hf:=hf.more he 9 rfl (onT)
     replace hf:=hf.more he 8 rfl (onT)
     replace hf:=hf.more he 7 rfl (onT)
     replace hf:=hf.more he 6 rfl (onT)
     replace hf:=hf.more he 5 rfl (onT)
     replace hf:=hf.more he 4 rfl (onT)
     replace hf:=hf.more he 2 rfl (onT)
     replace hf:=hf.more he 1 rfl (onT)
     replace hf:=hf.more he 0 rfl (onT)
     try dsimp only at hc
     rw [gi,ir] at hc
     exact ⟨(θ 304).p,(θ 304).c,(θ 296).b,hf.kp rfl,hc⟩
    rintro a w ⟨c8,c4,kk,hf,hc⟩
    replace hc:=hc.drop k0
    refine rr _ _ ?_
    refine wp_seq_k fun K61 rf=>?_
    obtain ⟨tj,j5,hF⟩:=aA hF
    obtain ⟨tr,j1,hF⟩:=aA hF
    obtain ⟨tf,mx,hF⟩:=aA hF
    replace hc:=hc.nilRow 0 0
    refine dJ (fun θ=>(⟨none,none,20,i6 D⟩::⟨none,none,21,pq a4⟩::⟨none,none,22,pq bb⟩::⟨none,none,23,.slice c8 ((bt++[(⟨a1,a5,(((W (D.tdiv (W (B + 8)))).tmod 7) == 0)⟩:aF)]).length) c4⟩::⟨none,some 22,24,.slice bx am.length bu⟩::⟨none,none,25,.slice a2 bs.length a3⟩::⟨none,none,26,.slice ba k.length a9⟩::⟨none,none,27,.slice a8 ai.length a7⟩::⟨none,none,28,i6 B⟩::⟨none,none,175,i6 D⟩::⟨none,none,185,i6 (W (1 + ((W (D.tdiv 3)).tmod 4)))⟩::⟨none,none,186,i6 B⟩::⟨some 0,none,274,.slice bx am.length bu⟩::⟨some 1,none,275,i6 D⟩::⟨some 2,none,276,i6 B⟩::⟨some 3,none,277,i6 (W (B + 7))⟩::⟨some 4,none,278,i6 (W (D.tdiv (W (B + 7))))⟩::⟨some 5,none,279,i6 ((W (D.tdiv (W (B + 7)))).tmod 9)⟩::⟨some 6,none,280,i6 D⟩::⟨some 7,none,281,i6 (W (D.tdiv 5))⟩::⟨some 8,none,282,i6 ((W (D.tdiv 5)).tmod 3)⟩::⟨some 9,none,283,i6 (W (((W (D.tdiv (W (B + 7)))).tmod 9) + ((W (D.tdiv 5)).tmod 3)))⟩::⟨some 10,none,284,i6 D⟩::⟨some 11,none,285,i6 B⟩::⟨some 12,none,286,i6 (W (B + 1))⟩::⟨some 13,none,287,i6 (W (D.tdiv (W (B + 1))))⟩::⟨some 14,none,288,i6 ((W (D.tdiv (W (B + 1)))).tmod 7)⟩::⟨some 15,none,289,i6 D⟩::⟨some 16,none,290,i6 (W (D.tdiv 7))⟩::⟨some 17,none,291,i6 ((W (D.tdiv 7)).tmod 2)⟩::⟨some 18,none,292,i6 (W (((W (D.tdiv (W (B + 1)))).tmod 7) + ((W (D.tdiv 7)).tmod 2)))⟩::⟨some 19,none,293,.agg #[i6 (W (((W (D.tdiv (W (B + 7)))).tmod 9) + ((W (D.tdiv 5)).tmod 3))),i6 (W (((W (D.tdiv (W (B + 1)))).tmod 7) + ((W (D.tdiv 7)).tmod 2)))]⟩::⟨some 20,none,294,.slice (some ⟨(θ 160).b,0,none⟩) 1 1⟩::⟨some 21,none,295,.slice ((θ 168).p) ((am++[(⟨W (((W (D.tdiv (W (B + 7)))).tmod 9) + ((W (D.tdiv 5)).tmod 3)),W (((W (D.tdiv (W (B + 1)))).tmod 7) + ((W (D.tdiv 7)).tmod 2))⟩:aB)]).length) ((θ 168).c)⟩::⟨some 22,none,24,.slice ((θ 168).p) ((am++[(⟨W (((W (D.tdiv (W (B + 7)))).tmod 9) + ((W (D.tdiv 5)).tmod 3)),W (((W (D.tdiv (W (B + 1)))).tmod 7) + ((W (D.tdiv 7)).tmod 2))⟩:aB)]).length) ((θ 168).c)⟩::[])) (fun E θ=>(bif E 20 then .row (some ⟨(θ 160).b,0,none⟩) 1 (([(⟨W (((W (D.tdiv (W (B + 7)))).tmod 9) + ((W (D.tdiv 5)).tmod 3)),W (((W (D.tdiv (W (B + 1)))).tmod 7) + ((W (D.tdiv 7)).tmod 2))⟩:aB)]:List aB).map aW) 37 2 else .row none 0 [] 0 0)::.row ct cs ((ay++[(⟨W ((W (3 * B)) + ((W (D.tdiv (W (B + 4)))).tmod 3)),W ((W (2 * B)) + ((W (D.tdiv (W (B + 6)))).tmod 3))⟩:aI)]).map aO) 48 2::.row b7 cb ((av++[(⟨(W (D.tdiv (W (B + 2)))).tmod (W (1 + (D.tmod 3))),(W (D.tdiv (W (B + 3)))).tmod 9,W (((W (D.tdiv (W (B + 5)))).tmod 5) * 250)⟩:aG)]).map aK) 46 3::.row a8 a7 (ai.map aD) 3 1::.row ba a9 (k.map aD) 3 1::.row a2 a3 (bs.map aD) 3 1::(bif E 21 then .row ((θ 168).p) ((θ 168).c) ((am++[(⟨W (((W (D.tdiv (W (B + 7)))).tmod 9) + ((W (D.tdiv 5)).tmod 3)),W (((W (D.tdiv (W (B + 1)))).tmod 7) + ((W (D.tdiv 7)).tmod 2))⟩:aB)]).map aW) 37 2 else .row bx bu (am.map aW) 37 2)::.row c8 c4 ((bt++[(⟨a1,a5,(((W (D.tdiv (W (B + 8)))).tmod 7) == 0)⟩:aF)]).map aS) 50 5::.box bb [.slice ct ((ay++[(⟨W ((W (3 * B)) + ((W (D.tdiv (W (B + 4)))).tmod 3)),W ((W (2 * B)) + ((W (D.tdiv (W (B + 6)))).tmod 3))⟩:aI)]).length) cs,i6 0] 32::.box a4 [i6 (W (1 + (D.tmod 3))),.slice b7 ((av++[(⟨(W (D.tdiv (W (B + 2)))).tmod (W (1 + (D.tmod 3))),(W (D.tdiv (W (B + 3)))).tmod 9,W (((W (D.tdiv (W (B + 5)))).tmod 5) * 250)⟩:aG)]).length) cb] 25::Lf) [(22,0),(22,21)] (fun a w=>∃ (d1:Option Addr) (dz:Nat) (jv:Nat),Has 516 a [(20,i6 D),(21,pq a4),(22,pq bb),(23,.slice c8 ((bt++[(⟨a1,a5,(((W (D.tdiv (W (B + 8)))).tmod 7) == 0)⟩:aF)]).length) c4),(25,.slice a2 bs.length a3),(26,.slice ba k.length a9),(27,.slice a8 ai.length a7),(28,i6 B),(175,i6 D),(185,i6 (W (1 + ((W (D.tdiv 3)).tmod 4)))),(186,i6 B),(24,.slice d1 ((am++[(⟨W (((W (D.tdiv (W (B + 7)))).tmod 9) + ((W (D.tdiv 5)).tmod 3)),W (((W (D.tdiv (W (B + 1)))).tmod 7) + ((W (D.tdiv 7)).tmod 2))⟩:aB)]).length) dz)]∧Ctx G (.row (some ⟨jv,0,none⟩) 1 (([(⟨W (((W (D.tdiv (W (B + 7)))).tmod 9) + ((W (D.tdiv 5)).tmod 3)),W (((W (D.tdiv (W (B + 1)))).tmod 7) + ((W (D.tdiv 7)).tmod 2))⟩:aB)]:List aB).map aW) 37 2::.row ct cs ((ay++[(⟨W ((W (3 * B)) + ((W (D.tdiv (W (B + 4)))).tmod 3)),W ((W (2 * B)) + ((W (D.tdiv (W (B + 6)))).tmod 3))⟩:aI)]).map aO) 48 2::.row b7 cb ((av++[(⟨(W (D.tdiv (W (B + 2)))).tmod (W (1 + (D.tmod 3))),(W (D.tdiv (W (B + 3)))).tmod 9,W (((W (D.tdiv (W (B + 5)))).tmod 5) * 250)⟩:aG)]).map aK) 46 3::.row a8 a7 (ai.map aD) 3 1::.row ba a9 (k.map aD) 3 1::.row a2 a3 (bs.map aD) 3 1::.row d1 dz ((am++[(⟨W (((W (D.tdiv (W (B + 7)))).tmod 9) + ((W (D.tdiv 5)).tmod 3)),W (((W (D.tdiv (W (B + 1)))).tmod 7) + ((W (D.tdiv 7)).tmod 2))⟩:aB)]).map aW) 37 2::.row c8 c4 ((bt++[(⟨a1,a5,(((W (D.tdiv (W (B + 8)))).tmod 7) == 0)⟩:aF)]).map aS) 50 5::.box bb [.slice ct ((ay++[(⟨W ((W (3 * B)) + ((W (D.tdiv (W (B + 4)))).tmod 3)),W ((W (2 * B)) + ((W (D.tdiv (W (B + 6)))).tmod 3))⟩:aI)]).length) cs,i6 0] 32::.box a4 [i6 (W (1 + (D.tmod 3))),.slice b7 ((av++[(⟨(W (D.tdiv (W (B + 2)))).tmod (W (1 + (D.tmod 3))),(W (D.tdiv (W (B + 3)))).tmod 9,W (((W (D.tdiv (W (B + 5)))).tmod 5) * 250)⟩:aG)]).length) cb] 25::Lf) w) aY (by kernel_rfl) (by kernel_rfl) (eY.of hf ⟨rfl,rfl,rfl,rfl,rfl,rfl,rfl,rfl,rfl,rfl,rfl,rfl,trivial,trivial,trivial,trivial,trivial,trivial,trivial,trivial,trivial,trivial,trivial,trivial,trivial,trivial,trivial,trivial,trivial,trivial,trivial,trivial,trivial,trivial,trivial,trivial⟩) hc ⟨?_,?_,?_,?_,?_,?_,?_,?_,?_,?_,?_,?_,?_,?_,?_,?_,?_,?_,?_,?_,?_,?_,?_,trivial⟩ ?_ ?_
    ·intro E θ a w hD hi hp he hc
     have bd:=hD.f 0 rfl hi
     have hf:=he.h0.mN he 4 rfl bd
     refine sp 1 hf rfl fun a hf=>zD θ he hi hf 12 rfl rfl rfl hc
    ·intro E θ a w hD hi hp he hc
     have hf:=he.h0.mT he 0 rfl
     refine sp 1 hf rfl fun a hf=>zD θ he hi hf 13 rfl rfl rfl hc
    ·intro E θ a w hD hi hp he hc
     have hf:=he.h0.mT he 8 rfl
     refine sp 1 hf rfl fun a hf=>zD θ he hi hf 14 rfl rfl rfl hc
    ·intro E θ a w hD hi hp he hc
     have e2:=hp.o 2 rfl
     have hf:=he.h0.mP he 14 rfl e2
     refine sp 1 hf rfl fun a hf=>zD θ he hi hf 15 rfl rfl rfl hc
    ·intro E θ a w hD hi hp he hc
     have e1:=hp.o 1 rfl
     have e3:=hp.o 3 rfl
     have hf:=(he.h0.mP he 13 rfl e1).mP he 15 rfl e3
     refine zP hf rfl (nE rfl rfl (eZ j5)) fun a hf=>zD θ he hi hf 16 rfl rfl rfl hc
    ·intro E θ a w hD hi hp he hc
     have e4:=hp.o 4 rfl
     have hf:=he.h0.mP he 16 rfl e4
     refine zP hf rfl (lH rfl rfl (by decide)) fun a hf=>zD θ he hi hf 17 rfl rfl rfl hc
    ·intro E θ a w hD hi hp he hc
     have hf:=he.h0.mT he 0 rfl
     refine sp 1 hf rfl fun a hf=>zD θ he hi hf 18 rfl rfl rfl hc
    ·intro E θ a w hD hi hp he hc
     have e6:=hp.o 6 rfl
     have hf:=he.h0.mP he 18 rfl e6
     refine zP hf rfl (nE rfl rfl (by decide)) fun a hf=>zD θ he hi hf 19 rfl rfl rfl hc
    ·intro E θ a w hD hi hp he hc
     have e7:=hp.o 7 rfl
     have hf:=he.h0.mP he 19 rfl e7
     refine zP hf rfl (lH rfl rfl (by decide)) fun a hf=>zD θ he hi hf 20 rfl rfl rfl hc
    ·intro E θ a w hD hi hp he hc
     have e5:=hp.o 5 rfl
     have e8:=hp.o 8 rfl
     have hf:=(he.h0.mP he 17 rfl e5).mP he 20 rfl e8
     refine sp 1 hf rfl fun a hf=>zD θ he hi hf 21 rfl rfl rfl hc
    ·intro E θ a w hD hi hp he hc
     have hf:=he.h0.mT he 0 rfl
     refine sp 1 hf rfl fun a hf=>zD θ he hi hf 22 rfl rfl rfl hc
    ·intro E θ a w hD hi hp he hc
     have hf:=he.h0.mT he 8 rfl
     refine sp 1 hf rfl fun a hf=>zD θ he hi hf 23 rfl rfl rfl hc
    ·intro E θ a w hD hi hp he hc
     have ax:=hp.o 11 rfl
     have hf:=he.h0.mP he 23 rfl ax
     refine sp 1 hf rfl fun a hf=>zD θ he hi hf 24 rfl rfl rfl hc
    ·intro E θ a w hD hi hp he hc
     have bk:=hp.o 10 rfl
     have ck:=hp.o 12 rfl
     have hf:=(he.h0.mP he 22 rfl bk).mP he 24 rfl ck
     refine zP hf rfl (nE rfl rfl (eZ j1)) fun a hf=>zD θ he hi hf 25 rfl rfl rfl hc
    ·intro E θ a w hD hi hp he hc
     have c3:=hp.o 13 rfl
     have hf:=he.h0.mP he 25 rfl c3
     refine zP hf rfl (lH rfl rfl (by decide)) fun a hf=>zD θ he hi hf 26 rfl rfl rfl hc
    ·intro E θ a w hD hi hp he hc
     have hf:=he.h0.mT he 0 rfl
     refine sp 1 hf rfl fun a hf=>zD θ he hi hf 27 rfl rfl rfl hc
    ·intro E θ a w hD hi hp he hc
     have cp:=hp.o 15 rfl
     have hf:=he.h0.mP he 27 rfl cp
     refine zP hf rfl (nE rfl rfl (by decide)) fun a hf=>zD θ he hi hf 28 rfl rfl rfl hc
    ·intro E θ a w hD hi hp he hc
     have b6:=hp.o 16 rfl
     have hf:=he.h0.mP he 28 rfl b6
     refine zP hf rfl (lH rfl rfl (by decide)) fun a hf=>zD θ he hi hf 29 rfl rfl rfl hc
    ·intro E θ a w hD hi hp he hc
     have ac:=hp.o 14 rfl
     have cg:=hp.o 17 rfl
     have hf:=(he.h0.mP he 26 rfl ac).mP he 29 rfl cg
     refine sp 1 hf rfl fun a hf=>zD θ he hi hf 30 rfl rfl rfl hc
    ·intro E θ a w hD hi hp he hc
     have e9:=hp.o 9 rfl
     have cr:=hp.o 18 rfl
     have hf:=(he.h0.mP he 21 rfl e9).mP he 30 rfl cr
     refine zP hf rfl (bG (cells:=[i6 (W (((W (D.tdiv (W (B + 7)))).tmod 9) + ((W (D.tdiv 5)).tmod 3))),i6 (W (((W (D.tdiv (W (B + 1)))).tmod 7) + ((W (D.tdiv 7)).tmod 2)))]) aCc rfl rfl) fun a hf=>zD θ he hi hf 31 rfl rfl rfl hc
    ·intro E θ a w hD hi hp he hc
     have b2:=hp.o 19 rfl
     try dsimp only at hc
     rw [hi] at hc
     have hf:=he.h0.mP he 31 rfl b2
     refine gV (rows:=([(⟨W (((W (D.tdiv (W (B + 7)))).tmod 9) + ((W (D.tdiv 5)).tmod 3)),W (((W (D.tdiv (W (B + 1)))).tmod 7) + ((W (D.tdiv 7)).tmod 2))⟩:aB)]:List aB).map aW) (vs:=[(0,.agg #[i6 (W (((W (D.tdiv (W (B + 7)))).tmod 9) + ((W (D.tdiv 5)).tmod 3))),i6 (W (((W (D.tdiv (W (B + 1)))).tmod 7) + ((W (D.tdiv 7)).tmod 2)))])]) hf hc rfl rfl aCs rfl ⟨rfl,rfl,rfl,trivial⟩ rfl rfl fun qg a w hf hc=>aP ?_
     refine bV ?_
     intro ds u ar
     replace hc:=hc.drop k1
     refine ⟨(fY θ 160 ⟨qg,none,0,(fun _=>(none,0))⟩),he.put hi ar hf rfl [] trivial ⟨qq,qq,qq,qq,qq,qq,qq,qq,qq,qq,qq,qq,qq,qq,qq,qq,qq,qq,qq,qq,qq,qq,qq,qq,qq,qq,qq,qq,qq,qq,qq,qq,qq,qq,qq,trivial⟩,?_⟩
     try dsimp only
     rw [aU E 20]
     exact hc
    ·intro E θ a w hD hi hp he hc
     have e0:=hp.o 0 rfl
     have b3:=hp.o 20 rfl
     have bd:=hD.f 1 rfl hi
     try dsimp only at hc
     rw [b3,hi] at hc
     have hf:=(he.h0.mP he 12 rfl e0).mP he 32 rfl b3
     refine iV (xs:=am) (ys:=([(⟨W (((W (D.tdiv (W (B + 7)))).tmod 9) + ((W (D.tdiv 5)).tmod 3)),W (((W (D.tdiv (W (B + 1)))).tmod 7) + ((W (D.tdiv 7)).tmod 2))⟩:aB)]:List aB)) hf hc rfl rfl aCs rfl rfl rfl rfl rfl kZ (fA hc m0) (fun _ _=>u6) (by simpa using cB mx) fun o3 pm a w hf hc=>aP ?_
     refine bV ?_
     intro ds u ar
     refine ⟨(fY θ 168 ⟨0,o3,pm,(fun _=>(none,0))⟩),he.put hi ar hf rfl [22] ⟨⟨bd,rfl⟩,trivial⟩ ⟨qq,qq,qq,qq,qq,qq,qq,qq,qq,qq,qq,qq,qq,qq,qq,qq,qq,qq,qq,qq,qq,qq,qq,qq,qq,qq,qq,qq,qq,qq,qq,qq,qq,qq,trivial,trivial⟩,?_⟩
     try dsimp only
     rw [dH 21 b3,aU E 21]
     exact hc
    ·intro E θ a w hD hi hp he hc
     have b4:=hp.o 21 rfl
     have hf:=he.h0.mP he 33 rfl b4
     refine sp 1 hf rfl fun a hf=>zD θ he hi hf 34 rfl rfl rfl hc
    ·intro E θ a w M he hc
     have hf:=he.h0
     have b3:=M 20 rfl
     have b4:=M 21 rfl
     have bd:=M 22 rfl
     replace hf:=hf.more he 34 rfl (onP bd)
     replace hf:=hf.more he 11 rfl (onT)
     replace hf:=hf.more he 10 rfl (onT)
     replace hf:=hf.more he 9 rfl (onT)
     replace hf:=hf.more he 8 rfl (onT)
     replace hf:=hf.more he 7 rfl (onT)
     replace hf:=hf.more he 6 rfl (onT)
     replace hf:=hf.more he 5 rfl (onT)
     replace hf:=hf.more he 3 rfl (onT)
     replace hf:=hf.more he 2 rfl (onT)
     replace hf:=hf.more he 1 rfl (onT)
     replace hf:=hf.more he 0 rfl (onT)
     try dsimp only at hc
     rw [b3,b4] at hc
     exact ⟨(θ 168).p,(θ 168).c,(θ 160).b,hf.kp rfl,hc⟩
    rintro a w ⟨d1,dz,jv,hf,hc⟩
    replace hc:=hc.drop k0
    refine rf _ _ ?_
    obtain ⟨s3,ki,hF⟩:=aA hF
    obtain ⟨tb,j0,hF⟩:=aA hF
    obtain ⟨ts,kt,hF⟩:=aA hF
    obtain ⟨td,j7,hF⟩:=aA hF
    obtain ⟨s6,mq,hF⟩:=aA hF
    obtain ⟨s9,j2,hF⟩:=aA hF
    replace hc:=hc.nilRow 0 0
    replace hc:=hc.nilRow 0 0
    replace hc:=hc.nilRow 0 0
    refine dJ (fun θ=>(⟨none,none,20,i6 D⟩::⟨none,none,21,pq a4⟩::⟨none,none,22,pq bb⟩::⟨none,none,23,.slice c8 ((bt++[(⟨a1,a5,(((W (D.tdiv (W (B + 8)))).tmod 7) == 0)⟩:aF)]).length) c4⟩::⟨none,none,24,.slice d1 ((am++[(⟨W (((W (D.tdiv (W (B + 7)))).tmod 9) + ((W (D.tdiv 5)).tmod 3)),W (((W (D.tdiv (W (B + 1)))).tmod 7) + ((W (D.tdiv 7)).tmod 2))⟩:aB)]).length) dz⟩::⟨none,some 27,25,.slice a2 bs.length a3⟩::⟨none,some 28,26,.slice ba k.length a9⟩::⟨none,some 29,27,.slice a8 ai.length a7⟩::⟨none,none,28,i6 B⟩::⟨none,none,175,i6 D⟩::⟨none,none,185,i6 (W (1 + ((W (D.tdiv 3)).tmod 4)))⟩::⟨none,none,186,i6 B⟩::⟨some 0,none,296,.slice a2 bs.length a3⟩::⟨some 1,none,297,i6 D⟩::⟨some 2,none,298,i6 B⟩::⟨some 3,none,299,i6 (W (B + 9))⟩::⟨some 4,none,300,i6 (W (D.tdiv (W (B + 9))))⟩::⟨some 5,none,301,i6 ((W (D.tdiv (W (B + 9)))).tmod 8)⟩::⟨some 6,none,302,.slice (some ⟨(θ 48).b,0,none⟩) 1 1⟩::⟨some 7,none,303,.slice ((θ 56).p) ((bs++[(W (D.tdiv (W (B + 9)))).tmod 8]).length) ((θ 56).c)⟩::⟨some 8,none,304,.slice ba k.length a9⟩::⟨some 9,none,305,i6 D⟩::⟨some 10,none,306,i6 B⟩::⟨some 11,none,307,i6 (W (2 * B))⟩::⟨some 12,none,308,i6 (W ((W (2 * B)) + 3))⟩::⟨some 13,none,309,i6 (W (D.tdiv (W ((W (2 * B)) + 3))))⟩::⟨some 14,none,310,i6 ((W (D.tdiv (W ((W (2 * B)) + 3)))).tmod 9)⟩::⟨some 15,none,311,i6 (W (1 + ((W (D.tdiv (W ((W (2 * B)) + 3)))).tmod 9)))⟩::⟨some 16,none,312,.slice (some ⟨(θ 128).b,0,none⟩) 1 1⟩::⟨some 17,none,313,.slice ((θ 136).p) ((k++[W (1 + ((W (D.tdiv (W ((W (2 * B)) + 3)))).tmod 9))]).length) ((θ 136).c)⟩::⟨some 18,none,314,.slice a8 ai.length a7⟩::⟨some 19,none,315,i6 D⟩::⟨some 20,none,316,i6 B⟩::⟨some 21,none,317,i6 (W (3 * B))⟩::⟨some 22,none,318,i6 (W ((W (3 * B)) + 2))⟩::⟨some 23,none,319,i6 (W (D.tdiv (W ((W (3 * B)) + 2))))⟩::⟨some 24,none,320,i6 ((W (D.tdiv (W ((W (3 * B)) + 2)))).tmod 5)⟩::⟨some 25,none,321,.slice (some ⟨(θ 200).b,0,none⟩) 1 1⟩::⟨some 26,none,322,.slice ((θ 208).p) ((ai++[(W (D.tdiv (W ((W (3 * B)) + 2)))).tmod 5]).length) ((θ 208).c)⟩::⟨some 27,none,25,.slice ((θ 56).p) ((bs++[(W (D.tdiv (W (B + 9)))).tmod 8]).length) ((θ 56).c)⟩::⟨some 28,none,26,.slice ((θ 136).p) ((k++[W (1 + ((W (D.tdiv (W ((W (2 * B)) + 3)))).tmod 9))]).length) ((θ 136).c)⟩::⟨some 29,none,27,.slice ((θ 208).p) ((ai++[(W (D.tdiv (W ((W (3 * B)) + 2)))).tmod 5]).length) ((θ 208).c)⟩::[])) (fun E θ=>(bif E 25 then .row (some ⟨(θ 200).b,0,none⟩) 1 (([(W (D.tdiv (W ((W (3 * B)) + 2)))).tmod 5]:List Int).map aD) 3 1 else .row none 0 [] 0 0)::(bif E 16 then .row (some ⟨(θ 128).b,0,none⟩) 1 (([W (1 + ((W (D.tdiv (W ((W (2 * B)) + 3)))).tmod 9))]:List Int).map aD) 3 1 else .row none 0 [] 0 0)::(bif E 6 then .row (some ⟨(θ 48).b,0,none⟩) 1 (([(W (D.tdiv (W (B + 9)))).tmod 8]:List Int).map aD) 3 1 else .row none 0 [] 0 0)::.row ct cs ((ay++[(⟨W ((W (3 * B)) + ((W (D.tdiv (W (B + 4)))).tmod 3)),W ((W (2 * B)) + ((W (D.tdiv (W (B + 6)))).tmod 3))⟩:aI)]).map aO) 48 2::.row b7 cb ((av++[(⟨(W (D.tdiv (W (B + 2)))).tmod (W (1 + (D.tmod 3))),(W (D.tdiv (W (B + 3)))).tmod 9,W (((W (D.tdiv (W (B + 5)))).tmod 5) * 250)⟩:aG)]).map aK) 46 3::(bif E 26 then .row ((θ 208).p) ((θ 208).c) ((ai++[(W (D.tdiv (W ((W (3 * B)) + 2)))).tmod 5]).map aD) 3 1 else .row a8 a7 (ai.map aD) 3 1)::(bif E 17 then .row ((θ 136).p) ((θ 136).c) ((k++[W (1 + ((W (D.tdiv (W ((W (2 * B)) + 3)))).tmod 9))]).map aD) 3 1 else .row ba a9 (k.map aD) 3 1)::(bif E 7 then .row ((θ 56).p) ((θ 56).c) ((bs++[(W (D.tdiv (W (B + 9)))).tmod 8]).map aD) 3 1 else .row a2 a3 (bs.map aD) 3 1)::.row d1 dz ((am++[(⟨W (((W (D.tdiv (W (B + 7)))).tmod 9) + ((W (D.tdiv 5)).tmod 3)),W (((W (D.tdiv (W (B + 1)))).tmod 7) + ((W (D.tdiv 7)).tmod 2))⟩:aB)]).map aW) 37 2::.row c8 c4 ((bt++[(⟨a1,a5,(((W (D.tdiv (W (B + 8)))).tmod 7) == 0)⟩:aF)]).map aS) 50 5::.box bb [.slice ct ((ay++[(⟨W ((W (3 * B)) + ((W (D.tdiv (W (B + 4)))).tmod 3)),W ((W (2 * B)) + ((W (D.tdiv (W (B + 6)))).tmod 3))⟩:aI)]).length) cs,i6 0] 32::.box a4 [i6 (W (1 + (D.tmod 3))),.slice b7 ((av++[(⟨(W (D.tdiv (W (B + 2)))).tmod (W (1 + (D.tmod 3))),(W (D.tdiv (W (B + 3)))).tmod 9,W (((W (D.tdiv (W (B + 5)))).tmod 5) * 250)⟩:aG)]).length) cb] 25::Lf) [(27,0),(27,7),(28,8),(28,17),(29,18),(29,26)] (fun a w=>∃ (g4:Option Addr) (gz:Nat) (g9:Option Addr) (gr:Nat) (gu:Option Addr) (g3:Nat) (jy:Nat) (j8:Nat) (nb:Nat),Has 516 a [(20,i6 D),(21,pq a4),(22,pq bb),(23,.slice c8 ((bt++[(⟨a1,a5,(((W (D.tdiv (W (B + 8)))).tmod 7) == 0)⟩:aF)]).length) c4),(24,.slice d1 ((am++[(⟨W (((W (D.tdiv (W (B + 7)))).tmod 9) + ((W (D.tdiv 5)).tmod 3)),W (((W (D.tdiv (W (B + 1)))).tmod 7) + ((W (D.tdiv 7)).tmod 2))⟩:aB)]).length) dz),(175,i6 D),(185,i6 (W (1 + ((W (D.tdiv 3)).tmod 4)))),(186,i6 B),(25,.slice g4 ((bs++[(W (D.tdiv (W (B + 9)))).tmod 8]).length) gz),(26,.slice g9 ((k++[W (1 + ((W (D.tdiv (W ((W (2 * B)) + 3)))).tmod 9))]).length) gr),(27,.slice gu ((ai++[(W (D.tdiv (W ((W (3 * B)) + 2)))).tmod 5]).length) g3)]∧Ctx G (.row (some ⟨jy,0,none⟩) 1 (([(W (D.tdiv (W ((W (3 * B)) + 2)))).tmod 5]:List Int).map aD) 3 1::.row (some ⟨j8,0,none⟩) 1 (([W (1 + ((W (D.tdiv (W ((W (2 * B)) + 3)))).tmod 9))]:List Int).map aD) 3 1::.row (some ⟨nb,0,none⟩) 1 (([(W (D.tdiv (W (B + 9)))).tmod 8]:List Int).map aD) 3 1::.row ct cs ((ay++[(⟨W ((W (3 * B)) + ((W (D.tdiv (W (B + 4)))).tmod 3)),W ((W (2 * B)) + ((W (D.tdiv (W (B + 6)))).tmod 3))⟩:aI)]).map aO) 48 2::.row b7 cb ((av++[(⟨(W (D.tdiv (W (B + 2)))).tmod (W (1 + (D.tmod 3))),(W (D.tdiv (W (B + 3)))).tmod 9,W (((W (D.tdiv (W (B + 5)))).tmod 5) * 250)⟩:aG)]).map aK) 46 3::.row gu g3 ((ai++[(W (D.tdiv (W ((W (3 * B)) + 2)))).tmod 5]).map aD) 3 1::.row g9 gr ((k++[W (1 + ((W (D.tdiv (W ((W (2 * B)) + 3)))).tmod 9))]).map aD) 3 1::.row g4 gz ((bs++[(W (D.tdiv (W (B + 9)))).tmod 8]).map aD) 3 1::.row d1 dz ((am++[(⟨W (((W (D.tdiv (W (B + 7)))).tmod 9) + ((W (D.tdiv 5)).tmod 3)),W (((W (D.tdiv (W (B + 1)))).tmod 7) + ((W (D.tdiv 7)).tmod 2))⟩:aB)]).map aW) 37 2::.row c8 c4 ((bt++[(⟨a1,a5,(((W (D.tdiv (W (B + 8)))).tmod 7) == 0)⟩:aF)]).map aS) 50 5::.box bb [.slice ct ((ay++[(⟨W ((W (3 * B)) + ((W (D.tdiv (W (B + 4)))).tmod 3)),W ((W (2 * B)) + ((W (D.tdiv (W (B + 6)))).tmod 3))⟩:aI)]).length) cs,i6 0] 32::.box a4 [i6 (W (1 + (D.tmod 3))),.slice b7 ((av++[(⟨(W (D.tdiv (W (B + 2)))).tmod (W (1 + (D.tmod 3))),(W (D.tdiv (W (B + 3)))).tmod 9,W (((W (D.tdiv (W (B + 5)))).tmod 5) * 250)⟩:aG)]).length) cb] 25::Lf) w) aY (by kernel_rfl) (by kernel_rfl) (eY.of hf ⟨rfl,rfl,rfl,rfl,rfl,rfl,rfl,rfl,rfl,rfl,rfl,rfl,trivial,trivial,trivial,trivial,trivial,trivial,trivial,trivial,trivial,trivial,trivial,trivial,trivial,trivial,trivial,trivial,trivial,trivial,trivial,trivial,trivial,trivial,trivial,trivial,trivial,trivial,trivial,trivial,trivial,trivial,trivial⟩) hc ⟨?_,?_,?_,?_,?_,?_,?_,?_,?_,?_,?_,?_,?_,?_,?_,?_,?_,?_,?_,?_,?_,?_,?_,?_,?_,?_,?_,?_,?_,?_,trivial⟩ ?_ ?_
    ·intro E θ a w hD hi hp he hc
     have d6:=hD.f 0 rfl hi
     have hf:=he.h0.mN he 5 rfl d6
     refine sp 1 hf rfl fun a hf=>zD θ he hi hf 12 rfl rfl rfl hc
    ·intro E θ a w hD hi hp he hc
     have hf:=he.h0.mT he 0 rfl
     refine sp 1 hf rfl fun a hf=>zD θ he hi hf 13 rfl rfl rfl hc
    ·intro E θ a w hD hi hp he hc
     have hf:=he.h0.mT he 8 rfl
     refine sp 1 hf rfl fun a hf=>zD θ he hi hf 14 rfl rfl rfl hc
    ·intro E θ a w hD hi hp he hc
     have e2:=hp.o 2 rfl
     have hf:=he.h0.mP he 14 rfl e2
     refine sp 1 hf rfl fun a hf=>zD θ he hi hf 15 rfl rfl rfl hc
    ·intro E θ a w hD hi hp he hc
     have e1:=hp.o 1 rfl
     have e3:=hp.o 3 rfl
     have hf:=(he.h0.mP he 13 rfl e1).mP he 15 rfl e3
     refine zP hf rfl (nE rfl rfl (eZ ki)) fun a hf=>zD θ he hi hf 16 rfl rfl rfl hc
    ·intro E θ a w hD hi hp he hc
     have e4:=hp.o 4 rfl
     have hf:=he.h0.mP he 16 rfl e4
     refine zP hf rfl (lH rfl rfl (by decide)) fun a hf=>zD θ he hi hf 17 rfl rfl rfl hc
    ·intro E θ a w hD hi hp he hc
     have e5:=hp.o 5 rfl
     try dsimp only at hc
     rw [hi] at hc
     have hf:=he.h0.mP he 17 rfl e5
     refine gV (rows:=([(W (D.tdiv (W (B + 9)))).tmod 8]:List Int).map aD) (vs:=[(0,i6 ((W (D.tdiv (W (B + 9)))).tmod 8))]) hf hc rfl rfl fC rfl ⟨rfl,rfl,rfl,trivial⟩ rfl rfl fun pz a w hf hc=>aP ?_
     refine bV ?_
     intro ds u ar
     replace hc:=(((hc.drop k3).pick k0).pick k2).pick k2
     refine ⟨(fY θ 48 ⟨pz,none,0,(fun _=>(none,0))⟩),he.put hi ar hf rfl [] trivial ⟨qq,qq,qq,qq,qq,qq,qq,qq,qq,qq,qq,qq,qq,qq,qq,qq,qq,qq,qq,qq,qq,qq,qq,qq,qq,qq,qq,qq,qq,qq,qq,qq,qq,qq,qq,qq,qq,qq,qq,qq,qq,qq,trivial⟩,?_⟩
     try dsimp only
     rw [aU E 6]
     exact hc
    ·intro E θ a w hD hi hp he hc
     have e0:=hp.o 0 rfl
     have e6:=hp.o 6 rfl
     have d6:=hD.f 1 rfl hi
     try dsimp only at hc
     rw [e6,hi] at hc
     have hf:=(he.h0.mP he 12 rfl e0).mP he 18 rfl e6
     refine iV (xs:=bs) (ys:=([(W (D.tdiv (W (B + 9)))).tmod 8]:List Int)) hf hc rfl rfl fC rfl rfl rfl rfl rfl cM (fA hc m2) (fun _ _=>u7) (by simpa using cB j0) fun qx pa a w hf hc=>aP ?_
     refine bV ?_
     intro ds u ar
     refine ⟨(fY θ 56 ⟨0,qx,pa,(fun _=>(none,0))⟩),he.put hi ar hf rfl [27] ⟨⟨d6,rfl⟩,trivial⟩ ⟨qq,qq,qq,qq,qq,qq,qq,qq,qq,qq,qq,qq,qq,qq,qq,qq,qq,qq,qq,qq,qq,qq,qq,qq,qq,qq,qq,qq,qq,qq,qq,qq,qq,qq,qq,qq,qq,qq,qq,trivial,qq,qq,trivial⟩,?_⟩
     try dsimp only
     rw [dH 7 e6,aU E 7]
     exact hc
    ·intro E θ a w hD hi hp he hc
     have ga:=hD.f 2 rfl hi
     have hf:=he.h0.mN he 6 rfl ga
     refine sp 1 hf rfl fun a hf=>zD θ he hi hf 20 rfl rfl rfl hc
    ·intro E θ a w hD hi hp he hc
     have hf:=he.h0.mT he 0 rfl
     refine sp 1 hf rfl fun a hf=>zD θ he hi hf 21 rfl rfl rfl hc
    ·intro E θ a w hD hi hp he hc
     have hf:=he.h0.mT he 8 rfl
     refine sp 1 hf rfl fun a hf=>zD θ he hi hf 22 rfl rfl rfl hc
    ·intro E θ a w hD hi hp he hc
     have bk:=hp.o 10 rfl
     have hf:=he.h0.mP he 22 rfl bk
     refine sp 1 hf rfl fun a hf=>zD θ he hi hf 23 rfl rfl rfl hc
    ·intro E θ a w hD hi hp he hc
     have ax:=hp.o 11 rfl
     have hf:=he.h0.mP he 23 rfl ax
     refine sp 1 hf rfl fun a hf=>zD θ he hi hf 24 rfl rfl rfl hc
    ·intro E θ a w hD hi hp he hc
     have e9:=hp.o 9 rfl
     have ck:=hp.o 12 rfl
     have hf:=(he.h0.mP he 21 rfl e9).mP he 24 rfl ck
     refine zP hf rfl (nE rfl rfl (eZ kt)) fun a hf=>zD θ he hi hf 25 rfl rfl rfl hc
    ·intro E θ a w hD hi hp he hc
     have c3:=hp.o 13 rfl
     have hf:=he.h0.mP he 25 rfl c3
     refine zP hf rfl (lH rfl rfl (by decide)) fun a hf=>zD θ he hi hf 26 rfl rfl rfl hc
    ·intro E θ a w hD hi hp he hc
     have ac:=hp.o 14 rfl
     have hf:=he.h0.mP he 26 rfl ac
     refine sp 1 hf rfl fun a hf=>zD θ he hi hf 27 rfl rfl rfl hc
    ·intro E θ a w hD hi hp he hc
     have cp:=hp.o 15 rfl
     try dsimp only at hc
     rw [hi] at hc
     have hf:=he.h0.mP he 27 rfl cp
     refine gV (rows:=([W (1 + ((W (D.tdiv (W ((W (2 * B)) + 3)))).tmod 9))]:List Int).map aD) (vs:=[(0,i6 (W (1 + ((W (D.tdiv (W ((W (2 * B)) + 3)))).tmod 9))))]) hf hc rfl rfl fC rfl ⟨rfl,rfl,rfl,trivial⟩ rfl rfl fun ox a w hf hc=>aP ?_
     refine bV ?_
     intro ds u ar
     replace hc:=((hc.drop k2).pick k0).pick k1
     refine ⟨(fY θ 128 ⟨ox,none,0,(fun _=>(none,0))⟩),he.put hi ar hf rfl [] trivial ⟨qq,qq,qq,qq,qq,qq,qq,qq,qq,qq,qq,qq,qq,qq,qq,qq,qq,qq,qq,qq,qq,qq,qq,qq,qq,qq,qq,qq,qq,qq,qq,qq,qq,qq,qq,qq,qq,qq,qq,qq,qq,qq,trivial⟩,?_⟩
     try dsimp only
     rw [aU E 16]
     exact hc
    ·intro E θ a w hD hi hp he hc
     have e8:=hp.o 8 rfl
     have b6:=hp.o 16 rfl
     have ga:=hD.f 3 rfl hi
     try dsimp only at hc
     rw [b6,hi] at hc
     have hf:=(he.h0.mP he 20 rfl e8).mP he 28 rfl b6
     refine iV (xs:=k) (ys:=([W (1 + ((W (D.tdiv (W ((W (2 * B)) + 3)))).tmod 9))]:List Int)) hf hc rfl rfl fC rfl rfl rfl rfl rfl cM (fA hc m1) (fun _ _=>u6) (by simpa using cB j7) fun p7 qi a w hf hc=>aP ?_
     refine bV ?_
     intro ds u ar
     refine ⟨(fY θ 136 ⟨0,p7,qi,(fun _=>(none,0))⟩),he.put hi ar hf rfl [28] ⟨⟨ga,rfl⟩,trivial⟩ ⟨qq,qq,qq,qq,qq,qq,qq,qq,qq,qq,qq,qq,qq,qq,qq,qq,qq,qq,qq,qq,qq,qq,qq,qq,qq,qq,qq,qq,qq,qq,qq,qq,qq,qq,qq,qq,qq,qq,qq,qq,trivial,qq,trivial⟩,?_⟩
     try dsimp only
     rw [dH 17 b6,aU E 17]
     exact hc
    ·intro E θ a w hD hi hp he hc
     have d9:=hD.f 4 rfl hi
     have hf:=he.h0.mN he 7 rfl d9
     refine sp 1 hf rfl fun a hf=>zD θ he hi hf 30 rfl rfl rfl hc
    ·intro E θ a w hD hi hp he hc
     have hf:=he.h0.mT he 0 rfl
     refine sp 1 hf rfl fun a hf=>zD θ he hi hf 31 rfl rfl rfl hc
    ·intro E θ a w hD hi hp he hc
     have hf:=he.h0.mT he 8 rfl
     refine sp 1 hf rfl fun a hf=>zD θ he hi hf 32 rfl rfl rfl hc
    ·intro E θ a w hD hi hp he hc
     have b3:=hp.o 20 rfl
     have hf:=he.h0.mP he 32 rfl b3
     refine sp 1 hf rfl fun a hf=>zD θ he hi hf 33 rfl rfl rfl hc
    ·intro E θ a w hD hi hp he hc
     have b4:=hp.o 21 rfl
     have hf:=he.h0.mP he 33 rfl b4
     refine sp 1 hf rfl fun a hf=>zD θ he hi hf 34 rfl rfl rfl hc
    ·intro E θ a w hD hi hp he hc
     have b2:=hp.o 19 rfl
     have bd:=hp.o 22 rfl
     have hf:=(he.h0.mP he 31 rfl b2).mP he 34 rfl bd
     refine zP hf rfl (nE rfl rfl (eZ mq)) fun a hf=>zD θ he hi hf 35 rfl rfl rfl hc
    ·intro E θ a w hD hi hp he hc
     have dq:=hp.o 23 rfl
     have hf:=he.h0.mP he 35 rfl dq
     refine zP hf rfl (lH rfl rfl (by decide)) fun a hf=>zD θ he hi hf 36 rfl rfl rfl hc
    ·intro E θ a w hD hi hp he hc
     have da:=hp.o 24 rfl
     try dsimp only at hc
     rw [hi] at hc
     have hf:=he.h0.mP he 36 rfl da
     refine gV (rows:=([(W (D.tdiv (W ((W (3 * B)) + 2)))).tmod 5]:List Int).map aD) (vs:=[(0,i6 ((W (D.tdiv (W ((W (3 * B)) + 2)))).tmod 5))]) hf hc rfl rfl fC rfl ⟨rfl,rfl,rfl,trivial⟩ rfl rfl fun qb a w hf hc=>aP ?_
     refine bV ?_
     intro ds u ar
     replace hc:=hc.drop k1
     refine ⟨(fY θ 200 ⟨qb,none,0,(fun _=>(none,0))⟩),he.put hi ar hf rfl [] trivial ⟨qq,qq,qq,qq,qq,qq,qq,qq,qq,qq,qq,qq,qq,qq,qq,qq,qq,qq,qq,qq,qq,qq,qq,qq,qq,qq,qq,qq,qq,qq,qq,qq,qq,qq,qq,qq,qq,qq,qq,qq,qq,qq,trivial⟩,?_⟩
     try dsimp only
     rw [aU E 25]
     exact hc
    ·intro E θ a w hD hi hp he hc
     have cr:=hp.o 18 rfl
     have d7:=hp.o 25 rfl
     have d9:=hD.f 5 rfl hi
     try dsimp only at hc
     rw [d7,hi] at hc
     have hf:=(he.h0.mP he 30 rfl cr).mP he 37 rfl d7
     refine iV (xs:=ai) (ys:=([(W (D.tdiv (W ((W (3 * B)) + 2)))).tmod 5]:List Int)) hf hc rfl rfl fC rfl rfl rfl rfl rfl cM (fA hc m0) (fun _ _=>u5) (by simpa using cB j2) fun ov pk a w hf hc=>aP ?_
     refine bV ?_
     intro ds u ar
     refine ⟨(fY θ 208 ⟨0,ov,pk,(fun _=>(none,0))⟩),he.put hi ar hf rfl [29] ⟨⟨d9,rfl⟩,trivial⟩ ⟨qq,qq,qq,qq,qq,qq,qq,qq,qq,qq,qq,qq,qq,qq,qq,qq,qq,qq,qq,qq,qq,qq,qq,qq,qq,qq,qq,qq,qq,qq,qq,qq,qq,qq,qq,qq,qq,qq,qq,qq,qq,trivial,trivial⟩,?_⟩
     try dsimp only
     rw [dH 26 d7,aU E 26]
     exact hc
    ·intro E θ a w hD hi hp he hc
     have e7:=hp.o 7 rfl
     have hf:=he.h0.mP he 19 rfl e7
     refine sp 1 hf rfl fun a hf=>zD θ he hi hf 39 rfl rfl rfl hc
    ·intro E θ a w hD hi hp he hc
     have cg:=hp.o 17 rfl
     have hf:=he.h0.mP he 29 rfl cg
     refine sp 1 hf rfl fun a hf=>zD θ he hi hf 40 rfl rfl rfl hc
    ·intro E θ a w hD hi hp he hc
     have gq:=hp.o 26 rfl
     have hf:=he.h0.mP he 38 rfl gq
     refine sp 1 hf rfl fun a hf=>zD θ he hi hf 41 rfl rfl rfl hc
    ·intro E θ a w M he hc
     have hf:=he.h0
     have e6:=M 6 rfl
     have e7:=M 7 rfl
     have b6:=M 16 rfl
     have cg:=M 17 rfl
     have d7:=M 25 rfl
     have gq:=M 26 rfl
     have d6:=M 27 rfl
     have ga:=M 28 rfl
     have d9:=M 29 rfl
     replace hf:=hf.more he 41 rfl (onP d9)
     replace hf:=hf.more he 40 rfl (onP ga)
     replace hf:=hf.more he 39 rfl (onP d6)
     replace hf:=hf.more he 11 rfl (onT)
     replace hf:=hf.more he 10 rfl (onT)
     replace hf:=hf.more he 9 rfl (onT)
     replace hf:=hf.more he 4 rfl (onT)
     replace hf:=hf.more he 3 rfl (onT)
     replace hf:=hf.more he 2 rfl (onT)
     replace hf:=hf.more he 1 rfl (onT)
     replace hf:=hf.more he 0 rfl (onT)
     try dsimp only at hc
     rw [e6,e7,b6,cg,d7,gq] at hc
     exact ⟨(θ 56).p,(θ 56).c,(θ 136).p,(θ 136).c,(θ 208).p,(θ 208).c,(θ 200).b,(θ 128).b,(θ 48).b,hf.kp rfl,hc⟩
    rintro a w ⟨g4,gz,g9,gr,gu,g3,jy,j8,nb,hf,hc⟩
    replace hc:=((hc.drop k2).drop k1).drop k0
    refine ru _ _ ?_
    refine bR ?_
    refine sp 2 hf rfl fun a hf=>aP ?_
    exact o6 ((bt++[(⟨a1,a5,(((W (D.tdiv (W (B + 8)))).tmod 7) == 0)⟩:aF)]),(am++[(⟨W (((W (D.tdiv (W (B + 7)))).tmod 9) + ((W (D.tdiv 5)).tmod 3)),W (((W (D.tdiv (W (B + 1)))).tmod 7) + ((W (D.tdiv 7)).tmod 2))⟩:aB)]),(bs++[(W (D.tdiv (W (B + 9)))).tmod 8]),(k++[W (1 + ((W (D.tdiv (W ((W (2 * B)) + 3)))).tmod 9))]),(ai++[(W (D.tdiv (W ((W (3 * B)) + 2)))).tmod 5]),W (B + 1),(av++[(⟨(W (D.tdiv (W (B + 2)))).tmod (W (1 + (D.tmod 3))),(W (D.tdiv (W (B + 3)))).tmod 9,W (((W (D.tdiv (W (B + 5)))).tmod 5) * 250)⟩:aG)]),(ay++[(⟨W ((W (3 * B)) + ((W (D.tdiv (W (B + 4)))).tmod 3)),W ((W (2 * B)) + ((W (D.tdiv (W (B + 6)))).tmod 3))⟩:aI)])) _ _ (sj hF).symm ⟨c8,c4,d1,dz,g4,gz,g9,gr,gu,g3,b7,cb,ct,cs,hf.kp rfl,hc⟩
   ·refine wp_exit ?_
    refine bE ?_
    refine bE ?_
    have he:=sj hF
    rw [← he] at ij
    refine eX ?_
    exact p8 _ _ _ ij ⟨cc,cd,bx,bu,a2,a3,ba,a9,a8,a7,c9,c7,cv,cx,hf.kp rfl,hc⟩
  ·refine wp_exit ?_
   refine bE ?_
   refine bE ?_
   have he:=sj hF
   rw [← he] at gc
   refine eX ?_
   exact sc _ _ _ gc ⟨hf.kp rfl,hc⟩
 have od:∀ r,x4=.out r→r=ii:=by
  rintro r rfl
  exact sj hF
 refine cX N (cV (S:=S4) (x:=x4) ?_ N 0 _ _ ⟨hf.kp rfl,hc⟩ r7)
 clear hF hf hc
 rintro x ra a w KB4 ⟨hf,hc⟩ hF d2 sa
 unfold fD at hF
 refine zS fun K h=>sp 1 hf rfl fun a hf=>zT h ?_
 refine wp_seq_k fun K63 r2=>zI hf rfl hF ?_ ?_ <;> clear hF <;> intro hF
 ·refine wp_skip ?_
  refine r2 _ _ ?_
  refine wp_seq_k fun K64 q6=>wp_block ?_
  refine zS fun K h=>?_
  obtain ⟨I,ps,hF⟩:=aA hF
  obtain ⟨qa,qr⟩:=cC hc m0 ps
  refine zP hf rfl (pIA Tryz.underlying22 cY rfl rfl qa) fun a hf=>zE hf hc rfl (bP bB rfl (bX (sz:=1) (i:=x.toNat) (j:=0) m0 qr rfl)) fun a w hf hc=>sp 1 hf rfl fun a hf=>zT h ?_
  refine wp_seq_k fun K66 sv=>zS fun K h=>sp 1 hf rfl fun a hf=>zT h ?_
  refine wp_block ?_
  obtain ⟨kg,pr,hF⟩:=aA hF
  let S68:Int→Act→World→Prop:=(fun (zz:Int) a w=>Has 516 a [(2,i6 I),(40,.slice (some ⟨cy,0,none⟩) 46 46),(41,i6 (46:Int)),(42,i6 x),(46,i6 zz)]∧Ctx G (.row (some ⟨cy,0,none⟩) 46 (([(-1000000001),(-1000000000),(-1),0,1,2,3,4,6,7,9,10,11,12,13,14,15,20,24,30,40,41,60,90,99,100,101,103,120,140,160,185,200,250,366,367,999,1000,1001,999999,1000000,1000001,1000000000,1000000001,9223372036854775807,(-9223372036854775808)]:List Int).map aD) 3 1::Lf) w)
  have o8:∀ (zz:Int) a w,kg=.go zz→S68 zz a w→K66 a w:=by
   rintro H a w rfl ⟨hf,hc⟩
   replace hF:=bQ hF
   refine sv _ _ ?_
   refine zS fun K h=>zP hf rfl (bG (cells:=[i6 1,i6 1,.slice none 0 0]) aCt rfl rfl) fun a hf=>gV (rows:=([60,30,10]:List Int).map aD) (vs:=[(0,i6 60),(1,i6 30),(2,i6 10)]) hf hc rfl rfl fC rfl ⟨rfl,rfl,rfl,rfl,rfl,rfl,rfl,rfl,rfl,trivial⟩ rfl rfl fun ui a w hf hc=>gV (rows:=([6,3,0]:List Int).map aD) (vs:=[(0,i6 6),(1,i6 3),(2,i6 0)]) hf hc rfl rfl fC rfl ⟨rfl,rfl,rfl,rfl,rfl,rfl,rfl,rfl,rfl,trivial⟩ rfl rfl fun t8 a w hf hc=>sp 1 hf rfl fun a hf=>zP hf rfl (bG (cells:=[i6 10,i6 1]) qN rfl rfl) fun a hf=>?_
   obtain ⟨o5,nt,hF⟩:=aA hF
   refine zQ (v:=.bool o5) hf hc en_9 rfl (fun w hc=>by obtain ⟨G1,cj,aq,hc,ap⟩:=lend hc k1; obtain ⟨G2,cm,cq,hc,cn⟩:=lend hc k0; exact (kX 5 (⟨1,1,([]:List Int)⟩:bU) ([60,30,10]:List Int) ([6,3,0]:List Int) 9 I (⟨10,1⟩:aM) (Rd.nil _ _) (aq.mono cm) cq hc nt).mono fun e w h=>⟨h.1,((ap _ _ ((cn _ _ h.2).unpick k0)).unpick k1)⟩) fun a w hf hc=>sp 1 hf rfl fun a hf=>zT h ?_
   refine zI hf rfl hF ?_ ?_ <;> clear hF <;> intro hF
   ·refine zS fun K h=>sp 1 hf rfl fun a hf=>zT h ?_
    refine wp_ret ?_
    refine bI ?_
    refine aN ?_
    refine aN ?_
    have he:=sj hF
    rw [← he] at d2
    replace hF:=od _ d2
    refine bI ?_
    refine aN ?_
    obtain rfl:=hF
    replace hc:=((hc.drop k2).drop k1).drop k0
    exact zO1 Tryz.results3 hf rfl ⟨rfl,hc⟩
   ·refine wp_skip ?_
    refine q6 _ _ ?_
    refine bR ?_
    refine sp 2 hf rfl fun a hf=>aP ?_
    replace hc:=(hc.drop k1).drop k0
    exact sa (W (x + 1)) _ _ (sj hF).symm ⟨hf.kp rfl,hc⟩
  have o9:∀ r,kg=.out r→r=ra:=by
   rintro r rfl
   exact sj hF
  refine cX N (cV (S:=S68) (x:=kg) ?_ N 0 _ _ ⟨hf.kp rfl,hc⟩ pr)
  clear hF hf hc
  rintro H up a w KB68 ⟨hf,hc⟩ hF d8 pn
  unfold eQ at hF
  refine zS fun K h=>sp 1 hf rfl fun a hf=>zT h ?_
  refine wp_seq_k fun K72 sn=>zI hf rfl hF ?_ ?_ <;> clear hF <;> intro hF
  ·refine wp_skip ?_
   refine sn _ _ ?_
   refine wp_seq_k fun K73 ry=>wp_block ?_
   refine zS fun K h=>sp 2 hf rfl fun a hf=>zT h ?_
   refine zS fun K h=>?_
   obtain ⟨ca,nx,hF⟩:=aA hF
   refine zC hf en_4 rfl (qU hc nx) ?_
   rintro _ w ⟨t4,dc,rfl,hc⟩
   refine ⟨_,rfl,fun a hf=>?_⟩
   obtain ⟨c5,nn,hF⟩:=aA hF
   refine zQ (v:=.agg #[i6 c5.Lo,i6 c5.Hi]) hf hc tQ rfl (fun w hc=>cJ 90 185 hc nn) fun a w hf hc=>zA hf hc aCo rfl fun t a w hf hc=>zA hf hc aFt rfl fun af a w hf hc=>zA hf hc aG5 rfl fun X a w hf hc=>zW hf hc aCa u2 rfl fun w hc=>zW hf hc cY u1 rfl fun w hc=>zW hf hc aBu u0 rfl fun w hc=>zT h ?_
   refine zS fun K h=>?_
   obtain ⟨an,nu,hF⟩:=aA hF
   refine zC hf en_6 rfl (wC hc nu) ?_
   rintro _ w ⟨um,dm,uu,cu,rfl,hc⟩
   refine ⟨_,rfl,fun a hf=>?_⟩
   refine sp 3 hf rfl fun a hf=>zA hf hc aAv rfl fun y a w hf hc=>zW hf hc aEa u0 rfl fun w hc=>sp 1 hf rfl fun a hf=>zT h ?_
   refine zS fun K h=>?_
   obtain ⟨c6,n1,hF⟩:=aA hF
   refine zQ (v:=.agg #[i6 c6.Lo,i6 c6.Hi]) hf hc tQ rfl (fun w hc=>cJ 0 0 hc n1) fun a w hf hc=>zP hf rfl (bG (cells:=[i6 150,i6 22]) aCc rfl rfl) fun a hf=>zP hf rfl (bG (cells:=[i6 90,i6 30]) aCc rfl rfl) fun a hf=>zP hf rfl (bG (cells:=[i6 0,i6 0]) aCc rfl rfl) fun a hf=>gV (rows:=([(⟨150,22⟩:aB),(⟨90,30⟩:aB),(⟨0,0⟩:aB)]:List aB).map aW) (vs:=[(0,.agg #[i6 150,i6 22]),(1,.agg #[i6 90,i6 30]),(2,.agg #[i6 0,i6 0])]) hf hc rfl rfl aCs rfl ⟨rfl,rfl,rfl,rfl,rfl,rfl,rfl,rfl,rfl,trivial⟩ rfl rfl fun O a w hf hc=>zA hf hc aG5 rfl fun U a w hf hc=>zA hf hc aFt rfl fun aj a w hf hc=>zW hf hc aBu u1 rfl fun w hc=>zW hf hc cY u0 rfl fun w hc=>sp 1 hf rfl fun a hf=>zT h ?_
   refine zS fun K h=>gV (rows:=([20,30,30,40,40,40]:List Int).map aD) (vs:=[(0,i6 20),(1,i6 30),(2,i6 30),(3,i6 40),(4,i6 40),(5,i6 40)]) hf hc rfl rfl fC rfl ⟨rfl,rfl,rfl,rfl,rfl,rfl,rfl,rfl,rfl,rfl,rfl,rfl,rfl,rfl,rfl,rfl,rfl,rfl,trivial⟩ rfl rfl fun ak a w hf hc=>zP hf rfl (bG (cells:=[i6 15,i6 4,.slice (some ⟨ak,0,none⟩) 6 6]) aCt rfl rfl) fun a hf=>gV (rows:=([60,30,10]:List Int).map aD) (vs:=[(0,i6 60),(1,i6 30),(2,i6 10)]) hf hc rfl rfl fC rfl ⟨rfl,rfl,rfl,rfl,rfl,rfl,rfl,rfl,rfl,trivial⟩ rfl rfl fun aa a w hf hc=>gV (rows:=([6,3,0]:List Int).map aD) (vs:=[(0,i6 6),(1,i6 3),(2,i6 0)]) hf hc rfl rfl fC rfl ⟨rfl,rfl,rfl,rfl,rfl,rfl,rfl,rfl,rfl,trivial⟩ rfl rfl fun ab a w hf hc=>sp 1 hf rfl fun a hf=>zP hf rfl (lH rfl rfl (by decide)) fun a hf=>zP hf rfl (bG (cells:=[i6 10,i6 1]) qN rfl rfl) fun a hf=>zA hf hc aKw rfl fun R a w hf hc=>zA hf hc aFt rfl fun ad a w hf hc=>zA hf hc rA rfl fun V a w hf hc=>zW hf hc aK0 u2 rfl fun w hc=>sp 2 hf rfl fun a hf=>?_
   refine zW hf hc cY u1 rfl fun w hc=>sp 1 hf rfl fun a hf=>zW hf hc jU u0 rfl fun w hc=>zT h ?_
   refine zS fun K h=>zA hf hc aFt rfl fun ag a w hf hc=>zW hf hc cY u0 rfl fun w hc=>zT h ?_
   refine wp_seq_k fun K80 sf=>?_
   obtain ⟨d3,i5,hF⟩:=aA hF
   obtain ⟨g,rfl,qf,uf⟩:=nT hc m16 i5
   obtain ⟨d4,iz,hF⟩:=aA hF
   obtain ⟨px,t5⟩:=cC hc m16 iz
   obtain ⟨d5,i9,hF⟩:=aA hF
   obtain ⟨qp,ut⟩:=cC hc m16 i9
   obtain ⟨it,i1,hF⟩:=aA hF
   obtain ⟨q,rfl,p5,ug⟩:=nT hc m11 i1
   obtain ⟨ic,i7,hF⟩:=aA hF
   obtain ⟨pu,uq⟩:=cC hc m11 i7
   obtain ⟨bn,i3,hF⟩:=aA hF
   obtain ⟨Y,rfl,ot,ub⟩:=nT hc m12 i3
   obtain ⟨bq,jc,hF⟩:=aA hF
   obtain ⟨o1,ur⟩:=cC hc m12 jc
   obtain ⟨dy,i0,hF⟩:=aA hF
   obtain ⟨pb,ua⟩:=cC hc m9 i0
   obtain ⟨dd,g5,hF⟩:=aA hF
   obtain ⟨qu,us⟩:=cC hc m9 g5
   obtain ⟨tx,jj,hF⟩:=aA hF
   obtain ⟨ob,s1⟩:=cC hc m6 jj
   obtain ⟨tv,jp,hF⟩:=aA hF
   obtain ⟨n2,s4⟩:=cC hc m5 jp
   obtain ⟨uv,js,hF⟩:=aA hF
   obtain ⟨nk,s8⟩:=cC hc m4 js
   replace hc:=hc.nilRow 0 0
   refine dJ (fun θ=>(⟨none,none,2,i6 I⟩::⟨none,none,3,i6 H⟩::⟨none,none,4,pq t⟩::⟨none,none,5,pq af⟩::⟨none,none,6,pq X⟩::⟨none,none,7,pq y⟩::⟨none,none,8,.slice (some ⟨Y,0,none⟩) an.2.length cu⟩::⟨none,none,9,pq U⟩::⟨none,none,10,pq aj⟩::⟨none,none,11,.slice (some ⟨O,0,none⟩) 3 3⟩::⟨none,none,12,pq R⟩::⟨none,none,13,.slice (some ⟨aa,0,none⟩) 3 3⟩::⟨none,none,14,.slice (some ⟨ab,0,none⟩) 3 3⟩::⟨none,none,15,pq ad⟩::⟨none,none,16,i6 (H.tmod 3)⟩::⟨none,none,17,pq V⟩::⟨none,none,18,pq ag⟩::⟨none,none,40,.slice (some ⟨cy,0,none⟩) 46 46⟩::⟨none,none,41,i6 (46:Int)⟩::⟨none,none,42,i6 x⟩::⟨none,none,46,i6 H⟩::⟨some 0,none,67,pq t⟩::⟨some 1,none,68,.pointer (some ⟨t,1,none⟩)⟩::⟨some 2,none,69,.slice (some ⟨g,0,none⟩) ca.Rights.length dc⟩::⟨some 3,none,70,.pointer (some ⟨g,(1:Int).toNat * 3,none⟩)⟩::⟨some 4,none,71,.pointer (some ⟨g,(1:Int).toNat * 3 + 0,none⟩)⟩::⟨some 5,none,72,.pointer (some ⟨t,1,none⟩)⟩::⟨some 6,none,73,.slice (some ⟨g,0,none⟩) ca.Rights.length dc⟩::⟨some 7,none,74,.pointer (some ⟨g,(0:Int).toNat * 3,none⟩)⟩::⟨some 8,none,75,.pointer (some ⟨g,(0:Int).toNat * 3 + 1,none⟩)⟩::⟨some 9,none,76,.pointer (some ⟨t,1,none⟩)⟩::⟨some 10,none,77,.slice (some ⟨g,0,none⟩) ca.Rights.length dc⟩::⟨some 11,none,78,.pointer (some ⟨g,(0:Int).toNat * 3,none⟩)⟩::⟨some 12,none,79,.pointer (some ⟨g,(0:Int).toNat * 3 + 2,none⟩)⟩::⟨some 13,none,80,pq X⟩::⟨some 14,none,81,.pointer (some ⟨X,1,none⟩)⟩::⟨some 15,none,82,pq y⟩::⟨some 16,none,83,.slice (some ⟨q,0,none⟩) an.1.Table.length dm⟩::⟨some 17,none,84,.pointer (some ⟨q,(0:Int).toNat * 2,none⟩)⟩::⟨some 18,none,85,.pointer (some ⟨q,(0:Int).toNat * 2 + 0,none⟩)⟩::⟨some 19,none,86,pq y⟩::⟨some 20,none,87,.slice (some ⟨q,0,none⟩) an.1.Table.length dm⟩::⟨some 21,none,88,.pointer (some ⟨q,(1:Int).toNat * 2,none⟩)⟩::⟨some 22,none,89,.pointer (some ⟨q,(1:Int).toNat * 2 + 1,none⟩)⟩::⟨some 23,none,90,.pointer (some ⟨y,1,none⟩)⟩::⟨some 24,none,91,pq U⟩::⟨some 25,none,92,.pointer (some ⟨U,1,none⟩)⟩::⟨some 26,none,93,.slice (some ⟨Y,0,none⟩) an.2.length cu⟩::⟨some 27,none,94,.pointer (some ⟨Y,(0:Int).toNat * 5,none⟩)⟩::⟨some 28,none,95,.pointer (some ⟨Y,(0:Int).toNat * 5 + 0,none⟩)⟩::⟨some 29,none,96,.pointer (some ⟨Y,(0:Int).toNat * 5 + 0 + 0,none⟩)⟩::⟨some 30,none,97,.slice (some ⟨Y,0,none⟩) an.2.length cu⟩::⟨some 31,none,98,.pointer (some ⟨Y,(1:Int).toNat * 5,none⟩)⟩::⟨some 32,none,99,.pointer (some ⟨Y,(1:Int).toNat * 5 + 2,none⟩)⟩::⟨some 33,none,100,.pointer (some ⟨Y,(1:Int).toNat * 5 + 2 + 1,none⟩)⟩::⟨some 34,none,101,.slice (some ⟨O,0,none⟩) 3 3⟩::⟨some 35,none,102,.pointer (some ⟨O,(0:Int).toNat * 2,none⟩)⟩::⟨some 36,none,103,.pointer (some ⟨O,(0:Int).toNat * 2 + 0,none⟩)⟩::⟨some 37,none,104,.slice (some ⟨O,0,none⟩) 3 3⟩::⟨some 38,none,105,.pointer (some ⟨O,(1:Int).toNat * 2,none⟩)⟩::⟨some 39,none,106,.pointer (some ⟨O,(1:Int).toNat * 2 + 1,none⟩)⟩::⟨some 40,none,107,pq R⟩::⟨some 41,none,108,.pointer (some ⟨R,1,none⟩)⟩::⟨some 42,none,109,.pointer (some ⟨R,2,none⟩)⟩::⟨some 43,none,110,.slice (some ⟨ak,0,none⟩) 6 6⟩::⟨some 44,none,111,.pointer (some ⟨ak,(0:Int).toNat * 1,none⟩)⟩::⟨some 45,none,112,.slice (some ⟨aa,0,none⟩) 3 3⟩::⟨some 46,none,113,.pointer (some ⟨aa,(1:Int).toNat * 1,none⟩)⟩::⟨some 47,none,114,.slice (some ⟨ab,0,none⟩) 3 3⟩::⟨some 48,none,115,.pointer (some ⟨ab,(2:Int).toNat * 1,none⟩)⟩::⟨some 49,none,116,pq V⟩::⟨some 50,none,117,.pointer (some ⟨V,1,none⟩)⟩::⟨some 51,none,118,.slice (some ⟨(θ 408).b,0,none⟩) 26 26⟩::⟨some 52,none,19,.slice (some ⟨(θ 408).b,0,none⟩) 26 26⟩::[])) (fun E θ=>(bif E 51 then .row (some ⟨(θ 408).b,0,none⟩) 26 (([pq t,.pointer (some ⟨g,(1:Int).toNat * 3 + 0,none⟩),.pointer (some ⟨g,(0:Int).toNat * 3 + 1,none⟩),.pointer (some ⟨g,(0:Int).toNat * 3 + 2,none⟩),pq af,pq X,.pointer (some ⟨X,1,none⟩),.pointer (some ⟨q,(0:Int).toNat * 2 + 0,none⟩),.pointer (some ⟨q,(1:Int).toNat * 2 + 1,none⟩),.pointer (some ⟨y,1,none⟩),pq aj,pq U,.pointer (some ⟨U,1,none⟩),.pointer (some ⟨Y,(0:Int).toNat * 5 + 0 + 0,none⟩),.pointer (some ⟨Y,(1:Int).toNat * 5 + 2 + 1,none⟩),.pointer (some ⟨O,(0:Int).toNat * 2 + 0,none⟩),.pointer (some ⟨O,(1:Int).toNat * 2 + 1,none⟩),pq ag,pq R,.pointer (some ⟨R,1,none⟩),.pointer (some ⟨ak,(0:Int).toNat * 1,none⟩),.pointer (some ⟨aa,(1:Int).toNat * 1,none⟩),.pointer (some ⟨ab,(2:Int).toNat * 1,none⟩),pq ad,pq V,.pointer (some ⟨V,1,none⟩)]:List Value).map aEo) 44 1 else .row none 0 [] 0 0)::.box ag [i6 100] 3::.box V [i6 10,i6 1] 43::.box ad [i6 9] 3::.box R [i6 15,i6 4,.slice (some ⟨ak,0,none⟩) 6 6] 40::.row (some ⟨ab,0,none⟩) 3 (([6,3,0]:List Int).map aD) 3 1::.row (some ⟨aa,0,none⟩) 3 (([60,30,10]:List Int).map aD) 3 1::.row (some ⟨ak,0,none⟩) 6 (([20,30,30,40,40,40]:List Int).map aD) 3 1::.box aj [i6 150] 3::.box U [i6 c6.Lo,i6 c6.Hi] 28::.row (some ⟨O,0,none⟩) 3 (([(⟨150,22⟩:aB),(⟨90,30⟩:aB),(⟨0,0⟩:aB)]:List aB).map aW) 37 2::.box y [.slice (some ⟨q,0,none⟩) an.1.Table.length dm,i6 an.1.Credit] 32::.row (some ⟨q,0,none⟩) dm (an.1.Table.map aO) 48 2::.row (some ⟨Y,0,none⟩) cu (an.2.map aS) 50 5::.box X [i6 c5.Lo,i6 c5.Hi] 28::.box af [i6 120] 3::.box t [i6 ca.States,.slice (some ⟨g,0,none⟩) ca.Rights.length dc] 25::.row (some ⟨g,0,none⟩) dc (ca.Rights.map aK) 46 3::.row (some ⟨cy,0,none⟩) 46 (([(-1000000001),(-1000000000),(-1),0,1,2,3,4,6,7,9,10,11,12,13,14,15,20,24,30,40,41,60,90,99,100,101,103,120,140,160,185,200,250,366,367,999,1000,1001,999999,1000000,1000001,1000000000,1000000001,9223372036854775807,(-9223372036854775808)]:List Int).map aD) 3 1::Lf) [(52,51)] (fun a w=>∃ (gn:Nat),Has 516 a [(2,i6 I),(3,i6 H),(4,pq t),(5,pq af),(6,pq X),(7,pq y),(8,.slice (some ⟨Y,0,none⟩) an.2.length cu),(9,pq U),(10,pq aj),(11,.slice (some ⟨O,0,none⟩) 3 3),(12,pq R),(13,.slice (some ⟨aa,0,none⟩) 3 3),(14,.slice (some ⟨ab,0,none⟩) 3 3),(15,pq ad),(16,i6 (H.tmod 3)),(17,pq V),(18,pq ag),(40,.slice (some ⟨cy,0,none⟩) 46 46),(41,i6 (46:Int)),(42,i6 x),(46,i6 H),(19,.slice (some ⟨gn,0,none⟩) 26 26)]∧Ctx G (.row (some ⟨gn,0,none⟩) 26 (([pq t,.pointer (some ⟨g,(1:Int).toNat * 3 + 0,none⟩),.pointer (some ⟨g,(0:Int).toNat * 3 + 1,none⟩),.pointer (some ⟨g,(0:Int).toNat * 3 + 2,none⟩),pq af,pq X,.pointer (some ⟨X,1,none⟩),.pointer (some ⟨q,(0:Int).toNat * 2 + 0,none⟩),.pointer (some ⟨q,(1:Int).toNat * 2 + 1,none⟩),.pointer (some ⟨y,1,none⟩),pq aj,pq U,.pointer (some ⟨U,1,none⟩),.pointer (some ⟨Y,(0:Int).toNat * 5 + 0 + 0,none⟩),.pointer (some ⟨Y,(1:Int).toNat * 5 + 2 + 1,none⟩),.pointer (some ⟨O,(0:Int).toNat * 2 + 0,none⟩),.pointer (some ⟨O,(1:Int).toNat * 2 + 1,none⟩),pq ag,pq R,.pointer (some ⟨R,1,none⟩),.pointer (some ⟨ak,(0:Int).toNat * 1,none⟩),.pointer (some ⟨aa,(1:Int).toNat * 1,none⟩),.pointer (some ⟨ab,(2:Int).toNat * 1,none⟩),pq ad,pq V,.pointer (some ⟨V,1,none⟩)]:List Value).map aEo) 44 1::.box ag [i6 100] 3::.box V [i6 10,i6 1] 43::.box ad [i6 9] 3::.box R [i6 15,i6 4,.slice (some ⟨ak,0,none⟩) 6 6] 40::.row (some ⟨ab,0,none⟩) 3 (([6,3,0]:List Int).map aD) 3 1::.row (some ⟨aa,0,none⟩) 3 (([60,30,10]:List Int).map aD) 3 1::.row (some ⟨ak,0,none⟩) 6 (([20,30,30,40,40,40]:List Int).map aD) 3 1::.box aj [i6 150] 3::.box U [i6 c6.Lo,i6 c6.Hi] 28::.row (some ⟨O,0,none⟩) 3 (([(⟨150,22⟩:aB),(⟨90,30⟩:aB),(⟨0,0⟩:aB)]:List aB).map aW) 37 2::.box y [.slice (some ⟨q,0,none⟩) an.1.Table.length dm,i6 an.1.Credit] 32::.row (some ⟨q,0,none⟩) dm (an.1.Table.map aO) 48 2::.row (some ⟨Y,0,none⟩) cu (an.2.map aS) 50 5::.box X [i6 c5.Lo,i6 c5.Hi] 28::.box af [i6 120] 3::.box t [i6 ca.States,.slice (some ⟨g,0,none⟩) ca.Rights.length dc] 25::.row (some ⟨g,0,none⟩) dc (ca.Rights.map aK) 46 3::.row (some ⟨cy,0,none⟩) 46 (([(-1000000001),(-1000000000),(-1),0,1,2,3,4,6,7,9,10,11,12,13,14,15,20,24,30,40,41,60,90,99,100,101,103,120,140,160,185,200,250,366,367,999,1000,1001,999999,1000000,1000001,1000000000,1000000001,9223372036854775807,(-9223372036854775808)]:List Int).map aD) 3 1::Lf) w) aY (by kernel_rfl) (by kernel_rfl) (eY.of hf ⟨rfl,rfl,rfl,rfl,rfl,rfl,rfl,rfl,rfl,rfl,rfl,rfl,rfl,rfl,rfl,rfl,rfl,rfl,rfl,rfl,rfl,trivial,trivial,trivial,trivial,trivial,trivial,trivial,trivial,trivial,trivial,trivial,trivial,trivial,trivial,trivial,trivial,trivial,trivial,trivial,trivial,trivial,trivial,trivial,trivial,trivial,trivial,trivial,trivial,trivial,trivial,trivial,trivial,trivial,trivial,trivial,trivial,trivial,trivial,trivial,trivial,trivial,trivial,trivial,trivial,trivial,trivial,trivial,trivial,trivial,trivial,trivial,trivial,trivial,trivial⟩) hc ⟨?_,?_,?_,?_,?_,?_,?_,?_,?_,?_,?_,?_,?_,?_,?_,?_,?_,?_,?_,?_,?_,?_,?_,?_,?_,?_,?_,?_,?_,?_,?_,?_,?_,?_,?_,?_,?_,?_,?_,?_,?_,?_,?_,?_,?_,?_,?_,?_,?_,?_,?_,?_,?_,trivial⟩ ?_ ?_
   ·intro E θ a w hD hi hp he hc
    have hf:=he.h0.mT he 2 rfl
    refine zP hf rfl (pFA qP rfl) fun a hf=>zD θ he hi hf 21 rfl rfl rfl hc
   ·intro E θ a w hD hi hp he hc
    have hf:=he.h0.mT he 2 rfl
    refine zP hf rfl (pFA kN rfl) fun a hf=>zD θ he hi hf 22 rfl rfl rfl hc
   ·intro E θ a w hD hi hp he hc
    have e1:=hp.o 1 rfl
    have hf:=he.h0.mP he 22 rfl e1
    refine zL hf hc sD m16 rfl fun a w hf hc=>zD θ he hi hf 23 rfl rfl rfl hc
   ·intro E θ a w hD hi hp he hc
    have e2:=hp.o 2 rfl
    have hf:=he.h0.mP he 23 rfl e2
    refine zP hf rfl (pIA Tryz.underlying23 sG rfl rfl qf) fun a hf=>zD θ he hi hf 24 rfl rfl rfl hc
   ·intro E θ a w hD hi hp he hc
    have e3:=hp.o 3 rfl
    have hf:=he.h0.mP he 24 rfl e3
    refine zP hf rfl (pFA aC4 rfl) fun a hf=>zD θ he hi hf 25 rfl rfl rfl hc
   ·intro E θ a w hD hi hp he hc
    have hf:=he.h0.mT he 2 rfl
    refine zP hf rfl (pFA kN rfl) fun a hf=>zD θ he hi hf 26 rfl rfl rfl hc
   ·intro E θ a w hD hi hp he hc
    have e5:=hp.o 5 rfl
    have hf:=he.h0.mP he 26 rfl e5
    refine zL hf hc sD m16 rfl fun a w hf hc=>zD θ he hi hf 27 rfl rfl rfl hc
   ·intro E θ a w hD hi hp he hc
    have e6:=hp.o 6 rfl
    have hf:=he.h0.mP he 27 rfl e6
    refine zP hf rfl (pIA Tryz.underlying23 sG rfl rfl px) fun a hf=>zD θ he hi hf 28 rfl rfl rfl hc
   ·intro E θ a w hD hi hp he hc
    have e7:=hp.o 7 rfl
    have hf:=he.h0.mP he 28 rfl e7
    refine zP hf rfl (pFA xU rfl) fun a hf=>zD θ he hi hf 29 rfl rfl rfl hc
   ·intro E θ a w hD hi hp he hc
    have hf:=he.h0.mT he 2 rfl
    refine zP hf rfl (pFA kN rfl) fun a hf=>zD θ he hi hf 30 rfl rfl rfl hc
   ·intro E θ a w hD hi hp he hc
    have e9:=hp.o 9 rfl
    have hf:=he.h0.mP he 30 rfl e9
    refine zL hf hc sD m16 rfl fun a w hf hc=>zD θ he hi hf 31 rfl rfl rfl hc
   ·intro E θ a w hD hi hp he hc
    have bk:=hp.o 10 rfl
    have hf:=he.h0.mP he 31 rfl bk
    refine zP hf rfl (pIA Tryz.underlying23 sG rfl rfl qp) fun a hf=>zD θ he hi hf 32 rfl rfl rfl hc
   ·intro E θ a w hD hi hp he hc
    have ax:=hp.o 11 rfl
    have hf:=he.h0.mP he 32 rfl ax
    refine zP hf rfl (pFA aDg rfl) fun a hf=>zD θ he hi hf 33 rfl rfl rfl hc
   ·intro E θ a w hD hi hp he hc
    have hf:=he.h0.mT he 4 rfl
    refine zP hf rfl (pFA hC rfl) fun a hf=>zD θ he hi hf 34 rfl rfl rfl hc
   ·intro E θ a w hD hi hp he hc
    have hf:=he.h0.mT he 4 rfl
    refine zP hf rfl (pFA hI rfl) fun a hf=>zD θ he hi hf 35 rfl rfl rfl hc
   ·intro E θ a w hD hi hp he hc
    have hf:=he.h0.mT he 5 rfl
    refine zP hf rfl (pFA gB rfl) fun a hf=>zD θ he hi hf 36 rfl rfl rfl hc
   ·intro E θ a w hD hi hp he hc
    have cp:=hp.o 15 rfl
    have hf:=he.h0.mP he 36 rfl cp
    refine zL hf hc oH m11 rfl fun a w hf hc=>zD θ he hi hf 37 rfl rfl rfl hc
   ·intro E θ a w hD hi hp he hc
    have b6:=hp.o 16 rfl
    have hf:=he.h0.mP he 37 rfl b6
    refine zP hf rfl (pIA Tryz.underlying30 oK rfl rfl p5) fun a hf=>zD θ he hi hf 38 rfl rfl rfl hc
   ·intro E θ a w hD hi hp he hc
    have cg:=hp.o 17 rfl
    have hf:=he.h0.mP he 38 rfl cg
    refine zP hf rfl (pFA sB rfl) fun a hf=>zD θ he hi hf 39 rfl rfl rfl hc
   ·intro E θ a w hD hi hp he hc
    have hf:=he.h0.mT he 5 rfl
    refine zP hf rfl (pFA gB rfl) fun a hf=>zD θ he hi hf 40 rfl rfl rfl hc
   ·intro E θ a w hD hi hp he hc
    have b2:=hp.o 19 rfl
    have hf:=he.h0.mP he 40 rfl b2
    refine zL hf hc oH m11 rfl fun a w hf hc=>zD θ he hi hf 41 rfl rfl rfl hc
   ·intro E θ a w hD hi hp he hc
    have b3:=hp.o 20 rfl
    have hf:=he.h0.mP he 41 rfl b3
    refine zP hf rfl (pIA Tryz.underlying30 oK rfl rfl pu) fun a hf=>zD θ he hi hf 42 rfl rfl rfl hc
   ·intro E θ a w hD hi hp he hc
    have b4:=hp.o 21 rfl
    have hf:=he.h0.mP he 42 rfl b4
    refine zP hf rfl (pFA qR rfl) fun a hf=>zD θ he hi hf 43 rfl rfl rfl hc
   ·intro E θ a w hD hi hp he hc
    have hf:=he.h0.mT he 5 rfl
    refine zP hf rfl (pFA tN rfl) fun a hf=>zD θ he hi hf 44 rfl rfl rfl hc
   ·intro E θ a w hD hi hp he hc
    have hf:=he.h0.mT he 7 rfl
    refine zP hf rfl (pFA hC rfl) fun a hf=>zD θ he hi hf 45 rfl rfl rfl hc
   ·intro E θ a w hD hi hp he hc
    have hf:=he.h0.mT he 7 rfl
    refine zP hf rfl (pFA hI rfl) fun a hf=>zD θ he hi hf 46 rfl rfl rfl hc
   ·intro E θ a w hD hi hp he hc
    have hf:=he.h0.mT he 6 rfl
    refine sp 1 hf rfl fun a hf=>zD θ he hi hf 47 rfl rfl rfl hc
   ·intro E θ a w hD hi hp he hc
    have gq:=hp.o 26 rfl
    have hf:=he.h0.mP he 47 rfl gq
    refine zP hf rfl (pIA Tryz.underlying33 vD rfl rfl ot) fun a hf=>zD θ he hi hf 48 rfl rfl rfl hc
   ·intro E θ a w hD hi hp he hc
    have d6:=hp.o 27 rfl
    have hf:=he.h0.mP he 48 rfl d6
    refine zP hf rfl (pFA vL rfl) fun a hf=>zD θ he hi hf 49 rfl rfl rfl hc
   ·intro E θ a w hD hi hp he hc
    have ga:=hp.o 28 rfl
    have hf:=he.h0.mP he 49 rfl ga
    refine zP hf rfl (pFA hC rfl) fun a hf=>zD θ he hi hf 50 rfl rfl rfl hc
   ·intro E θ a w hD hi hp he hc
    have hf:=he.h0.mT he 6 rfl
    refine sp 1 hf rfl fun a hf=>zD θ he hi hf 51 rfl rfl rfl hc
   ·intro E θ a w hD hi hp he hc
    have kf:=hp.o 30 rfl
    have hf:=he.h0.mP he 51 rfl kf
    refine zP hf rfl (pIA Tryz.underlying33 vD rfl rfl o1) fun a hf=>zD θ he hi hf 52 rfl rfl rfl hc
   ·intro E θ a w hD hi hp he hc
    have my:=hp.o 31 rfl
    have hf:=he.h0.mP he 52 rfl my
    refine zP hf rfl (pFA vV rfl) fun a hf=>zD θ he hi hf 53 rfl rfl rfl hc
   ·intro E θ a w hD hi hp he hc
    have mf:=hp.o 32 rfl
    have hf:=he.h0.mP he 53 rfl mf
    refine zP hf rfl (pFA hI rfl) fun a hf=>zD θ he hi hf 54 rfl rfl rfl hc
   ·intro E θ a w hD hi hp he hc
    have hf:=he.h0.mT he 9 rfl
    refine sp 1 hf rfl fun a hf=>zD θ he hi hf 55 rfl rfl rfl hc
   ·intro E θ a w hD hi hp he hc
    have na:=hp.o 34 rfl
    have hf:=he.h0.mP he 55 rfl na
    refine zP hf rfl (pIA Tryz.underlying38 zJ rfl rfl pb) fun a hf=>zD θ he hi hf 56 rfl rfl rfl hc
   ·intro E θ a w hD hi hp he hc
    have ju:=hp.o 35 rfl
    have hf:=he.h0.mP he 56 rfl ju
    refine zP hf rfl (pFA wS rfl) fun a hf=>zD θ he hi hf 57 rfl rfl rfl hc
   ·intro E θ a w hD hi hp he hc
    have hf:=he.h0.mT he 9 rfl
    refine sp 1 hf rfl fun a hf=>zD θ he hi hf 58 rfl rfl rfl hc
   ·intro E θ a w hD hi hp he hc
    have gi:=hp.o 37 rfl
    have hf:=he.h0.mP he 58 rfl gi
    refine zP hf rfl (pIA Tryz.underlying38 zJ rfl rfl qu) fun a hf=>zD θ he hi hf 59 rfl rfl rfl hc
   ·intro E θ a w hD hi hp he hc
    have ir:=hp.o 38 rfl
    have hf:=he.h0.mP he 59 rfl ir
    refine zP hf rfl (pFA aC7 rfl) fun a hf=>zD θ he hi hf 60 rfl rfl rfl hc
   ·intro E θ a w hD hi hp he hc
    have hf:=he.h0.mT he 10 rfl
    refine zP hf rfl (pFA xT rfl) fun a hf=>zD θ he hi hf 61 rfl rfl rfl hc
   ·intro E θ a w hD hi hp he hc
    have hf:=he.h0.mT he 10 rfl
    refine zP hf rfl (pFA vT rfl) fun a hf=>zD θ he hi hf 62 rfl rfl rfl hc
   ·intro E θ a w hD hi hp he hc
    have hf:=he.h0.mT he 10 rfl
    refine zP hf rfl (pFA pO rfl) fun a hf=>zD θ he hi hf 63 rfl rfl rfl hc
   ·intro E θ a w hD hi hp he hc
    have su:=hp.o 42 rfl
    have hf:=he.h0.mP he 63 rfl su
    refine zL hf hc xC m4 rfl fun a w hf hc=>zD θ he hi hf 64 rfl rfl rfl hc
   ·intro E θ a w hD hi hp he hc
    have sg:=hp.o 43 rfl
    have hf:=he.h0.mP he 64 rfl sg
    refine zP hf rfl (pIA Tryz.underlying22 cY rfl rfl ob) fun a hf=>zD θ he hi hf 65 rfl rfl rfl hc
   ·intro E θ a w hD hi hp he hc
    have hf:=he.h0.mT he 11 rfl
    refine sp 1 hf rfl fun a hf=>zD θ he hi hf 66 rfl rfl rfl hc
   ·intro E θ a w hD hi hp he hc
    have r0:=hp.o 45 rfl
    have hf:=he.h0.mP he 66 rfl r0
    refine zP hf rfl (pIA Tryz.underlying22 cY rfl rfl n2) fun a hf=>zD θ he hi hf 67 rfl rfl rfl hc
   ·intro E θ a w hD hi hp he hc
    have hf:=he.h0.mT he 12 rfl
    refine sp 1 hf rfl fun a hf=>zD θ he hi hf 68 rfl rfl rfl hc
   ·intro E θ a w hD hi hp he hc
    have r9:=hp.o 47 rfl
    have hf:=he.h0.mP he 68 rfl r9
    refine zP hf rfl (pIA Tryz.underlying22 cY rfl rfl nk) fun a hf=>zD θ he hi hf 69 rfl rfl rfl hc
   ·intro E θ a w hD hi hp he hc
    have hf:=he.h0.mT he 15 rfl
    refine zP hf rfl (pFA nU rfl) fun a hf=>zD θ he hi hf 70 rfl rfl rfl hc
   ·intro E θ a w hD hi hp he hc
    have hf:=he.h0.mT he 15 rfl
    refine zP hf rfl (pFA lT rfl) fun a hf=>zD θ he hi hf 71 rfl rfl rfl hc
   ·intro E θ a w hD hi hp he hc
    have e0:=hp.o 0 rfl
    have e4:=hp.o 4 rfl
    have e8:=hp.o 8 rfl
    have ck:=hp.o 12 rfl
    have c3:=hp.o 13 rfl
    have ac:=hp.o 14 rfl
    have cr:=hp.o 18 rfl
    have bd:=hp.o 22 rfl
    have dq:=hp.o 23 rfl
    have da:=hp.o 24 rfl
    have d7:=hp.o 25 rfl
    have d9:=hp.o 29 rfl
    have j3:=hp.o 33 rfl
    have mj:=hp.o 36 rfl
    have gp:=hp.o 39 rfl
    have r1:=hp.o 40 rfl
    have rv:=hp.o 41 rfl
    have r3:=hp.o 44 rfl
    have sk:=hp.o 46 rfl
    have q8:=hp.o 48 rfl
    have sb:=hp.o 49 rfl
    have sx:=hp.o 50 rfl
    have mc:=hD.f 0 rfl hi
    try dsimp only at hc
    rw [hi] at hc
    have hf:=(((((((((((((((((((((((((he.h0.mT he 3 rfl).mT he 8 rfl).mT he 13 rfl).mT he 16 rfl).mP he 21 rfl e0).mP he 25 rfl e4).mP he 29 rfl e8).mP he 33 rfl ck).mP he 34 rfl c3).mP he 35 rfl ac).mP he 39 rfl cr).mP he 43 rfl bd).mP he 44 rfl dq).mP he 45 rfl da).mP he 46 rfl d7).mP he 50 rfl d9).mP he 54 rfl j3).mP he 57 rfl mj).mP he 60 rfl gp).mP he 61 rfl r1).mP he 62 rfl rv).mP he 65 rfl r3).mP he 67 rfl sk).mP he 69 rfl q8).mP he 70 rfl sb).mP he 71 rfl sx
    refine gV (rows:=([pq t,.pointer (some ⟨g,(1:Int).toNat * 3 + 0,none⟩),.pointer (some ⟨g,(0:Int).toNat * 3 + 1,none⟩),.pointer (some ⟨g,(0:Int).toNat * 3 + 2,none⟩),pq af,pq X,.pointer (some ⟨X,1,none⟩),.pointer (some ⟨q,(0:Int).toNat * 2 + 0,none⟩),.pointer (some ⟨q,(1:Int).toNat * 2 + 1,none⟩),.pointer (some ⟨y,1,none⟩),pq aj,pq U,.pointer (some ⟨U,1,none⟩),.pointer (some ⟨Y,(0:Int).toNat * 5 + 0 + 0,none⟩),.pointer (some ⟨Y,(1:Int).toNat * 5 + 2 + 1,none⟩),.pointer (some ⟨O,(0:Int).toNat * 2 + 0,none⟩),.pointer (some ⟨O,(1:Int).toNat * 2 + 1,none⟩),pq ag,pq R,.pointer (some ⟨R,1,none⟩),.pointer (some ⟨ak,(0:Int).toNat * 1,none⟩),.pointer (some ⟨aa,(1:Int).toNat * 1,none⟩),.pointer (some ⟨ab,(2:Int).toNat * 1,none⟩),pq ad,pq V,.pointer (some ⟨V,1,none⟩)]:List Value).map aEo) (vs:=[(0,pq t),(1,.pointer (some ⟨g,(1:Int).toNat * 3 + 0,none⟩)),(2,.pointer (some ⟨g,(0:Int).toNat * 3 + 1,none⟩)),(3,.pointer (some ⟨g,(0:Int).toNat * 3 + 2,none⟩)),(4,pq af),(5,pq X),(6,.pointer (some ⟨X,1,none⟩)),(7,.pointer (some ⟨q,(0:Int).toNat * 2 + 0,none⟩)),(8,.pointer (some ⟨q,(1:Int).toNat * 2 + 1,none⟩)),(9,.pointer (some ⟨y,1,none⟩)),(10,pq aj),(11,pq U),(12,.pointer (some ⟨U,1,none⟩)),(13,.pointer (some ⟨Y,(0:Int).toNat * 5 + 0 + 0,none⟩)),(14,.pointer (some ⟨Y,(1:Int).toNat * 5 + 2 + 1,none⟩)),(15,.pointer (some ⟨O,(0:Int).toNat * 2 + 0,none⟩)),(16,.pointer (some ⟨O,(1:Int).toNat * 2 + 1,none⟩)),(17,pq ag),(18,pq R),(19,.pointer (some ⟨R,1,none⟩)),(20,.pointer (some ⟨ak,(0:Int).toNat * 1,none⟩)),(21,.pointer (some ⟨aa,(1:Int).toNat * 1,none⟩)),(22,.pointer (some ⟨ab,(2:Int).toNat * 1,none⟩)),(23,pq ad),(24,pq V),(25,.pointer (some ⟨V,1,none⟩))]) hf hc rfl rfl sl_51 rfl ⟨rfl,rfl,rfl,rfl,rfl,rfl,rfl,rfl,rfl,rfl,rfl,rfl,rfl,rfl,rfl,rfl,rfl,rfl,rfl,rfl,rfl,rfl,rfl,rfl,rfl,rfl,rfl,rfl,rfl,rfl,rfl,rfl,rfl,rfl,rfl,rfl,rfl,rfl,rfl,rfl,rfl,rfl,rfl,rfl,rfl,rfl,rfl,rfl,rfl,rfl,rfl,rfl,rfl,rfl,rfl,rfl,rfl,rfl,rfl,rfl,rfl,rfl,rfl,rfl,rfl,rfl,rfl,rfl,rfl,rfl,rfl,rfl,rfl,rfl,rfl,rfl,rfl,rfl,trivial⟩ rfl rfl fun qj a w hf hc=>aP ?_
    refine bV ?_
    intro ds u ar
    replace hc:=hc.drop k1
    refine ⟨(fY θ 408 ⟨qj,none,0,(fun _=>(none,0))⟩),he.put hi ar hf rfl [52] ⟨⟨mc,rfl⟩,trivial⟩ ⟨qq,qq,qq,qq,qq,qq,qq,qq,qq,qq,qq,qq,qq,qq,qq,qq,qq,qq,qq,qq,qq,qq,qq,qq,qq,qq,qq,qq,qq,qq,qq,qq,qq,qq,qq,qq,qq,qq,qq,qq,qq,qq,qq,qq,qq,qq,qq,qq,qq,qq,qq,qq,qq,qq,qq,qq,qq,qq,qq,qq,qq,qq,qq,qq,qq,qq,qq,qq,qq,qq,qq,qq,qq,trivial,trivial⟩,?_⟩
    try dsimp only
    rw [aU E 51]
    exact hc
   ·intro E θ a w hD hi hp he hc
    have kq:=hp.o 51 rfl
    have hf:=he.h0.mP he 72 rfl kq
    refine sp 1 hf rfl fun a hf=>zD θ he hi hf 73 rfl rfl rfl hc
   ·intro E θ a w M he hc
    have hf:=he.h0
    have kq:=M 51 rfl
    have mc:=M 52 rfl
    replace hf:=hf.more he 73 rfl (onP mc)
    replace hf:=hf.more he 20 rfl (onT)
    replace hf:=hf.more he 19 rfl (onT)
    replace hf:=hf.more he 18 rfl (onT)
    replace hf:=hf.more he 17 rfl (onT)
    replace hf:=hf.more he 16 rfl (onT)
    replace hf:=hf.more he 15 rfl (onT)
    replace hf:=hf.more he 14 rfl (onT)
    replace hf:=hf.more he 13 rfl (onT)
    replace hf:=hf.more he 12 rfl (onT)
    replace hf:=hf.more he 11 rfl (onT)
    replace hf:=hf.more he 10 rfl (onT)
    replace hf:=hf.more he 9 rfl (onT)
    replace hf:=hf.more he 8 rfl (onT)
    replace hf:=hf.more he 7 rfl (onT)
    replace hf:=hf.more he 6 rfl (onT)
    replace hf:=hf.more he 5 rfl (onT)
    replace hf:=hf.more he 4 rfl (onT)
    replace hf:=hf.more he 3 rfl (onT)
    replace hf:=hf.more he 2 rfl (onT)
    replace hf:=hf.more he 1 rfl (onT)
    replace hf:=hf.more he 0 rfl (onT)
    try dsimp only at hc
    rw [kq] at hc
    exact ⟨(θ 408).b,hf.kp rfl,hc⟩
   rintro a w ⟨gn,hf,hc⟩
   refine sf _ _ ?_
   refine wp_seq_k fun K81 rt=>?_
   obtain ⟨tc,mb,hF⟩:=aA hF
   have au:∀ a w,Has 516 a [(2,i6 I),(3,i6 H),(4,pq t),(5,pq af),(6,pq X),(7,pq y),(8,.slice (some ⟨Y,0,none⟩) an.2.length cu),(9,pq U),(10,pq aj),(11,.slice (some ⟨O,0,none⟩) 3 3),(12,pq R),(13,.slice (some ⟨aa,0,none⟩) 3 3),(14,.slice (some ⟨ab,0,none⟩) 3 3),(15,pq ad),(16,i6 (H.tmod 3)),(17,pq V),(18,pq ag),(40,.slice (some ⟨cy,0,none⟩) 46 46),(41,i6 (46:Int)),(42,i6 x),(46,i6 H)]→Ctx G (.row (some ⟨gn,0,none⟩) 26 (([pq t,.pointer (some ⟨g,(1:Int).toNat * 3 + 0,none⟩),.pointer (some ⟨g,(0:Int).toNat * 3 + 1,none⟩),.pointer (some ⟨g,(0:Int).toNat * 3 + 2,none⟩),pq af,pq X,.pointer (some ⟨X,1,none⟩),.pointer (some ⟨q,(0:Int).toNat * 2 + 0,none⟩),.pointer (some ⟨q,(1:Int).toNat * 2 + 1,none⟩),.pointer (some ⟨y,1,none⟩),pq aj,pq U,.pointer (some ⟨U,1,none⟩),.pointer (some ⟨Y,(0:Int).toNat * 5 + 0 + 0,none⟩),.pointer (some ⟨Y,(1:Int).toNat * 5 + 2 + 1,none⟩),.pointer (some ⟨O,(0:Int).toNat * 2 + 0,none⟩),.pointer (some ⟨O,(1:Int).toNat * 2 + 1,none⟩),pq ag,pq R,.pointer (some ⟨R,1,none⟩),.pointer (some ⟨ak,(0:Int).toNat * 1,none⟩),.pointer (some ⟨aa,(1:Int).toNat * 1,none⟩),.pointer (some ⟨ab,(2:Int).toNat * 1,none⟩),pq ad,pq V,.pointer (some ⟨V,1,none⟩)]:List Value).map aEo) 44 1::.box ag [i6 (cond (H == 17) I 100)] 3::.box V [i6 (cond (H == 24) I 10),i6 (cond (H == 25) I 1)] 43::.box ad [i6 (cond (H == 23) I 9)] 3::.box R [i6 (cond (H == 18) I 15),i6 (cond (H == 19) I 4),.slice (some ⟨ak,0,none⟩) 6 6] 40::.row (some ⟨ab,0,none⟩) 3 ((stI (H == 22) ([6,3,0]:List Int) (2:Int).toNat I).map aD) 3 1::.row (some ⟨aa,0,none⟩) 3 ((stI (H == 21) ([60,30,10]:List Int) (1:Int).toNat I).map aD) 3 1::.row (some ⟨ak,0,none⟩) 6 ((stI (H == 20) ([20,30,30,40,40,40]:List Int) (0:Int).toNat I).map aD) 3 1::.box aj [i6 (cond (H == 10) I 150)] 3::.box U [i6 (cond (H == 11) I c6.Lo),i6 (cond (H == 12) I c6.Hi)] 28::.row (some ⟨O,0,none⟩) 3 ((stI (H == 16) (stI (H == 15) ([(⟨150,22⟩:aB),(⟨90,30⟩:aB),(⟨0,0⟩:aB)]:List aB) (0:Int).toNat (⟨I,dy.Delivered⟩:aB)) (1:Int).toNat (⟨dd.Index,I⟩:aB)).map aW) 37 2::.box y [.slice (some ⟨q,0,none⟩) an.1.Table.length dm,i6 (cond (H == 9) I an.1.Credit)] 32::.row (some ⟨q,0,none⟩) dm ((stI (H == 8) (stI (H == 7) an.1.Table (0:Int).toNat (⟨I,it.Due⟩:aI)) (1:Int).toNat (⟨ic.Index,I⟩:aI)).map aO) 48 2::.row (some ⟨Y,0,none⟩) cu ((stI (H == 14) (stI (H == 13) an.2 (0:Int).toNat (⟨(⟨I,bn.Index.Hi⟩:aE),bn.Delivered,bn.Spill⟩:aF)) (1:Int).toNat (⟨bq.Index,(⟨bq.Delivered.Lo,I⟩:aE),bq.Spill⟩:aF)).map aS) 50 5::.box X [i6 (cond (H == 5) I c5.Lo),i6 (cond (H == 6) I c5.Hi)] 28::.box af [i6 (cond (H == 4) I 120)] 3::.box t [i6 (cond (H == 0) I ca.States),.slice (some ⟨g,0,none⟩) ca.Rights.length dc] 25::.row (some ⟨g,0,none⟩) dc ((stI (H == 3) (stI (H == 2) (stI (H == 1) ca.Rights (1:Int).toNat (⟨I,d3.Amount,d3.Loss⟩:aG)) (0:Int).toNat (⟨d4.State,I,d4.Loss⟩:aG)) (0:Int).toNat (⟨d5.State,d5.Amount,I⟩:aG)).map aK) 46 3::.row (some ⟨cy,0,none⟩) 46 (([(-1000000001),(-1000000000),(-1),0,1,2,3,4,6,7,9,10,11,12,13,14,15,20,24,30,40,41,60,90,99,100,101,103,120,140,160,185,200,250,366,367,999,1000,1001,999999,1000000,1000001,1000000000,1000000001,9223372036854775807,(-9223372036854775808)]:List Int).map aD) 3 1::Lf) w→K81 a w:=by
    intro a w hf hc
    replace hf:Has 516 a [(2,i6 I),(3,i6 H),(4,pq t),(5,pq af),(6,pq X),(7,pq y),(8,.slice (some ⟨Y,0,none⟩) ((stI (H == 14) (stI (H == 13) an.2 (0:Int).toNat (⟨(⟨I,bn.Index.Hi⟩:aE),bn.Delivered,bn.Spill⟩:aF)) (1:Int).toNat (⟨bq.Index,(⟨bq.Delivered.Lo,I⟩:aE),bq.Spill⟩:aF)).length) cu),(9,pq U),(10,pq aj),(11,.slice (some ⟨O,0,none⟩) ((stI (H == 16) (stI (H == 15) ([(⟨150,22⟩:aB),(⟨90,30⟩:aB),(⟨0,0⟩:aB)]:List aB) (0:Int).toNat (⟨I,dy.Delivered⟩:aB)) (1:Int).toNat (⟨dd.Index,I⟩:aB)).length) 3),(12,pq R),(13,.slice (some ⟨aa,0,none⟩) ((stI (H == 21) ([60,30,10]:List Int) (1:Int).toNat I).length) 3),(14,.slice (some ⟨ab,0,none⟩) ((stI (H == 22) ([6,3,0]:List Int) (2:Int).toNat I).length) 3),(15,pq ad),(16,i6 (H.tmod 3)),(17,pq V),(18,pq ag),(40,.slice (some ⟨cy,0,none⟩) 46 46),(41,i6 (46:Int)),(42,i6 x),(46,i6 H)]:=by simp only [aG0] at hf ⊢; exact hf
    replace hc:Ctx G (.row (some ⟨gn,0,none⟩) 26 (([pq t,.pointer (some ⟨g,(1:Int).toNat * 3 + 0,none⟩),.pointer (some ⟨g,(0:Int).toNat * 3 + 1,none⟩),.pointer (some ⟨g,(0:Int).toNat * 3 + 2,none⟩),pq af,pq X,.pointer (some ⟨X,1,none⟩),.pointer (some ⟨q,(0:Int).toNat * 2 + 0,none⟩),.pointer (some ⟨q,(1:Int).toNat * 2 + 1,none⟩),.pointer (some ⟨y,1,none⟩),pq aj,pq U,.pointer (some ⟨U,1,none⟩),.pointer (some ⟨Y,(0:Int).toNat * 5 + 0 + 0,none⟩),.pointer (some ⟨Y,(1:Int).toNat * 5 + 2 + 1,none⟩),.pointer (some ⟨O,(0:Int).toNat * 2 + 0,none⟩),.pointer (some ⟨O,(1:Int).toNat * 2 + 1,none⟩),pq ag,pq R,.pointer (some ⟨R,1,none⟩),.pointer (some ⟨ak,(0:Int).toNat * 1,none⟩),.pointer (some ⟨aa,(1:Int).toNat * 1,none⟩),.pointer (some ⟨ab,(2:Int).toNat * 1,none⟩),pq ad,pq V,.pointer (some ⟨V,1,none⟩)]:List Value).map aEo) 44 1::.box ag [i6 (cond (H == 17) I 100)] 3::.box V [i6 (cond (H == 24) I 10),i6 (cond (H == 25) I 1)] 43::.box ad [i6 (cond (H == 23) I 9)] 3::.box R [i6 (cond (H == 18) I 15),i6 (cond (H == 19) I 4),.slice (some ⟨ak,0,none⟩) ((stI (H == 20) ([20,30,30,40,40,40]:List Int) (0:Int).toNat I).length) 6] 40::.row (some ⟨ab,0,none⟩) 3 ((stI (H == 22) ([6,3,0]:List Int) (2:Int).toNat I).map aD) 3 1::.row (some ⟨aa,0,none⟩) 3 ((stI (H == 21) ([60,30,10]:List Int) (1:Int).toNat I).map aD) 3 1::.row (some ⟨ak,0,none⟩) 6 ((stI (H == 20) ([20,30,30,40,40,40]:List Int) (0:Int).toNat I).map aD) 3 1::.box aj [i6 (cond (H == 10) I 150)] 3::.box U [i6 (cond (H == 11) I c6.Lo),i6 (cond (H == 12) I c6.Hi)] 28::.row (some ⟨O,0,none⟩) 3 ((stI (H == 16) (stI (H == 15) ([(⟨150,22⟩:aB),(⟨90,30⟩:aB),(⟨0,0⟩:aB)]:List aB) (0:Int).toNat (⟨I,dy.Delivered⟩:aB)) (1:Int).toNat (⟨dd.Index,I⟩:aB)).map aW) 37 2::.box y [.slice (some ⟨q,0,none⟩) ((stI (H == 8) (stI (H == 7) an.1.Table (0:Int).toNat (⟨I,it.Due⟩:aI)) (1:Int).toNat (⟨ic.Index,I⟩:aI)).length) dm,i6 (cond (H == 9) I an.1.Credit)] 32::.row (some ⟨q,0,none⟩) dm ((stI (H == 8) (stI (H == 7) an.1.Table (0:Int).toNat (⟨I,it.Due⟩:aI)) (1:Int).toNat (⟨ic.Index,I⟩:aI)).map aO) 48 2::.row (some ⟨Y,0,none⟩) cu ((stI (H == 14) (stI (H == 13) an.2 (0:Int).toNat (⟨(⟨I,bn.Index.Hi⟩:aE),bn.Delivered,bn.Spill⟩:aF)) (1:Int).toNat (⟨bq.Index,(⟨bq.Delivered.Lo,I⟩:aE),bq.Spill⟩:aF)).map aS) 50 5::.box X [i6 (cond (H == 5) I c5.Lo),i6 (cond (H == 6) I c5.Hi)] 28::.box af [i6 (cond (H == 4) I 120)] 3::.box t [i6 (cond (H == 0) I ca.States),.slice (some ⟨g,0,none⟩) ((stI (H == 3) (stI (H == 2) (stI (H == 1) ca.Rights (1:Int).toNat (⟨I,d3.Amount,d3.Loss⟩:aG)) (0:Int).toNat (⟨d4.State,I,d4.Loss⟩:aG)) (0:Int).toNat (⟨d5.State,d5.Amount,I⟩:aG)).length) dc] 25::.row (some ⟨g,0,none⟩) dc ((stI (H == 3) (stI (H == 2) (stI (H == 1) ca.Rights (1:Int).toNat (⟨I,d3.Amount,d3.Loss⟩:aG)) (0:Int).toNat (⟨d4.State,I,d4.Loss⟩:aG)) (0:Int).toNat (⟨d5.State,d5.Amount,I⟩:aG)).map aK) 46 3::.row (some ⟨cy,0,none⟩) 46 (([(-1000000001),(-1000000000),(-1),0,1,2,3,4,6,7,9,10,11,12,13,14,15,20,24,30,40,41,60,90,99,100,101,103,120,140,160,185,200,250,366,367,999,1000,1001,999999,1000000,1000001,1000000000,1000000001,9223372036854775807,(-9223372036854775808)]:List Int).map aD) 3 1::Lf) w:=by simp only [aG0] at hc ⊢; exact hc
    refine rt _ _ ?_
    refine wp_seq_k fun K83 q7=>bR ?_
    refine sp 3 hf rfl fun a hf=>?_
    obtain ⟨gb,kv,hF⟩:=aA hF
    refine cP 6 (fun a=>Has 516 a [(2,i6 I),(3,i6 H),(4,pq t),(5,pq af),(6,pq X),(7,pq y),(8,.slice (some ⟨Y,0,none⟩) ((stI (H == 14) (stI (H == 13) an.2 (0:Int).toNat (⟨(⟨I,bn.Index.Hi⟩:aE),bn.Delivered,bn.Spill⟩:aF)) (1:Int).toNat (⟨bq.Index,(⟨bq.Delivered.Lo,I⟩:aE),bq.Spill⟩:aF)).length) cu),(9,pq U),(10,pq aj),(11,.slice (some ⟨O,0,none⟩) ((stI (H == 16) (stI (H == 15) ([(⟨150,22⟩:aB),(⟨90,30⟩:aB),(⟨0,0⟩:aB)]:List aB) (0:Int).toNat (⟨I,dy.Delivered⟩:aB)) (1:Int).toNat (⟨dd.Index,I⟩:aB)).length) 3),(12,pq R),(13,.slice (some ⟨aa,0,none⟩) ((stI (H == 21) ([60,30,10]:List Int) (1:Int).toNat I).length) 3),(14,.slice (some ⟨ab,0,none⟩) ((stI (H == 22) ([6,3,0]:List Int) (2:Int).toNat I).length) 3),(15,pq ad),(16,i6 (H.tmod 3)),(17,pq V),(18,pq ag),(40,.slice (some ⟨cy,0,none⟩) 46 46),(41,i6 (46:Int)),(42,i6 x),(46,i6 H),(125,i6 H),(126,.bool (decide (H < 7))),(127,.bool (decide (H < 7))),(133,.bool gb)]) hc ?_ ?_
    ·cases hb:(decide (H < 7))
     ·rw [hb] at hf
      have hF:=fN hb kv
      obtain rfl:=sj hF
      refine stS hf rfl rfl rfl fun a hf=>stS hf rfl rfl rfl fun a hf=>stS hf rfl rfl rfl fun a hf=>stS hf rfl rfl rfl fun a hf=>stS hf rfl rfl rfl fun a hf=>sp 1 hf rfl fun a hf=>aP ⟨hf.kp rfl,hc⟩
     ·rw [hb] at hf
      have hF:=fO hb kv
      refine zN hf hc lN m16 rfl fun a w hf hc=>zL hf hc bB m15 rfl fun a w hf hc=>zN hf hc mL m14 rfl fun a w hf hc=>?_
      obtain ⟨pp,n8,hF⟩:=aA hF
      refine zQ (v:=.bool pp) hf hc aJg rfl (fun w hc=>by obtain ⟨G1,cj,aq,hc,ap⟩:=lend hc k17; exact (iC (⟨(cond (H == 0) I ca.States),(stI (H == 3) (stI (H == 2) (stI (H == 1) ca.Rights (1:Int).toNat (⟨I,d3.Amount,d3.Loss⟩:aG)) (0:Int).toNat (⟨d4.State,I,d4.Loss⟩:aG)) (0:Int).toNat (⟨d5.State,d5.Amount,I⟩:aG))⟩:aJ) (cond (H == 4) I 120) (⟨(cond (H == 5) I c5.Lo),(cond (H == 6) I c5.Hi)⟩:aE) aq hc n8).mono fun e w h=>⟨h.1,((ap _ _ h.2).unpick k17)⟩) fun a w hf hc=>sp 2 hf rfl fun a hf=>?_
      obtain rfl:=sj hF
      exact aP ⟨hf.kp rfl,hc⟩
    intro a w ⟨hf,hc⟩
    refine sp 1 hf rfl fun a hf=>?_
    obtain ⟨jf,kb,hF⟩:=aA hF
    refine cP 16 (fun a=>Has 516 a [(2,i6 I),(3,i6 H),(4,pq t),(5,pq af),(6,pq X),(7,pq y),(8,.slice (some ⟨Y,0,none⟩) ((stI (H == 14) (stI (H == 13) an.2 (0:Int).toNat (⟨(⟨I,bn.Index.Hi⟩:aE),bn.Delivered,bn.Spill⟩:aF)) (1:Int).toNat (⟨bq.Index,(⟨bq.Delivered.Lo,I⟩:aE),bq.Spill⟩:aF)).length) cu),(9,pq U),(10,pq aj),(11,.slice (some ⟨O,0,none⟩) ((stI (H == 16) (stI (H == 15) ([(⟨150,22⟩:aB),(⟨90,30⟩:aB),(⟨0,0⟩:aB)]:List aB) (0:Int).toNat (⟨I,dy.Delivered⟩:aB)) (1:Int).toNat (⟨dd.Index,I⟩:aB)).length) 3),(12,pq R),(13,.slice (some ⟨aa,0,none⟩) ((stI (H == 21) ([60,30,10]:List Int) (1:Int).toNat I).length) 3),(14,.slice (some ⟨ab,0,none⟩) ((stI (H == 22) ([6,3,0]:List Int) (2:Int).toNat I).length) 3),(15,pq ad),(16,i6 (H.tmod 3)),(17,pq V),(18,pq ag),(40,.slice (some ⟨cy,0,none⟩) 46 46),(41,i6 (46:Int)),(42,i6 x),(46,i6 H),(125,i6 H),(126,.bool (decide (H < 7))),(127,.bool (decide (H < 7))),(133,.bool gb),(134,.bool gb),(150,.bool jf)]) hc ?_ ?_
    ·cases hb:gb
     ·rw [hb] at hf
      try rw [hb] at hc
      have hF:=fN hb kb
      refine sp 3 hf rfl fun a hf=>cP 3 (fun a=>Has 516 a ((2,i6 I)::(3,i6 H)::(4,pq t)::(5,pq af)::(6,pq X)::(7,pq y)::(8,.slice (some ⟨Y,0,none⟩) ((stI (H == 14) (stI (H == 13) an.2 (0:Int).toNat (⟨(⟨I,bn.Index.Hi⟩:aE),bn.Delivered,bn.Spill⟩:aF)) (1:Int).toNat (⟨bq.Index,(⟨bq.Delivered.Lo,I⟩:aE),bq.Spill⟩:aF)).length) cu)::(9,pq U)::(10,pq aj)::(11,.slice (some ⟨O,0,none⟩) ((stI (H == 16) (stI (H == 15) ([(⟨150,22⟩:aB),(⟨90,30⟩:aB),(⟨0,0⟩:aB)]:List aB) (0:Int).toNat (⟨I,dy.Delivered⟩:aB)) (1:Int).toNat (⟨dd.Index,I⟩:aB)).length) 3)::(12,pq R)::(13,.slice (some ⟨aa,0,none⟩) ((stI (H == 21) ([60,30,10]:List Int) (1:Int).toNat I).length) 3)::(14,.slice (some ⟨ab,0,none⟩) ((stI (H == 22) ([6,3,0]:List Int) (2:Int).toNat I).length) 3)::(15,pq ad)::(16,i6 (H.tmod 3))::(17,pq V)::(18,pq ag)::(40,.slice (some ⟨cy,0,none⟩) 46 46)::(41,i6 (46:Int))::(42,i6 x)::(46,i6 H)::(125,i6 H)::(126,.bool (decide (H < 7)))::(127,.bool (decide (H < 7)))::(133,.bool false)::(134,.bool false)::(135,i6 H)::(136,.bool (decide (6 < H)))::(137,.bool (decide (6 < H)))::(140,.bool ((decide (6 < H)) && (decide (H < 17))))::[])) hc ?_ ?_
      ·cases hb:(decide (6 < H))
       ·rw [hb] at hf
        refine stS hf rfl rfl rfl fun a hf=>stS hf rfl rfl rfl fun a hf=>sp 1 hf rfl fun a hf=>aP ⟨hf.kp rfl,hc⟩
       ·rw [hb] at hf
        refine sp 3 hf rfl fun a hf=>aP ⟨hf.kp rfl,hc⟩
      intro a w ⟨hf,hc⟩
      refine sp 1 hf rfl fun a hf=>?_
      obtain ⟨q3,mi,hF⟩:=aA hF
      refine cP 8 (fun a=>Has 516 a ((2,i6 I)::(3,i6 H)::(4,pq t)::(5,pq af)::(6,pq X)::(7,pq y)::(8,.slice (some ⟨Y,0,none⟩) ((stI (H == 14) (stI (H == 13) an.2 (0:Int).toNat (⟨(⟨I,bn.Index.Hi⟩:aE),bn.Delivered,bn.Spill⟩:aF)) (1:Int).toNat (⟨bq.Index,(⟨bq.Delivered.Lo,I⟩:aE),bq.Spill⟩:aF)).length) cu)::(9,pq U)::(10,pq aj)::(11,.slice (some ⟨O,0,none⟩) ((stI (H == 16) (stI (H == 15) ([(⟨150,22⟩:aB),(⟨90,30⟩:aB),(⟨0,0⟩:aB)]:List aB) (0:Int).toNat (⟨I,dy.Delivered⟩:aB)) (1:Int).toNat (⟨dd.Index,I⟩:aB)).length) 3)::(12,pq R)::(13,.slice (some ⟨aa,0,none⟩) ((stI (H == 21) ([60,30,10]:List Int) (1:Int).toNat I).length) 3)::(14,.slice (some ⟨ab,0,none⟩) ((stI (H == 22) ([6,3,0]:List Int) (2:Int).toNat I).length) 3)::(15,pq ad)::(16,i6 (H.tmod 3))::(17,pq V)::(18,pq ag)::(40,.slice (some ⟨cy,0,none⟩) 46 46)::(41,i6 (46:Int))::(42,i6 x)::(46,i6 H)::(125,i6 H)::(126,.bool (decide (H < 7)))::(127,.bool (decide (H < 7)))::(133,.bool false)::(134,.bool false)::(135,i6 H)::(136,.bool (decide (6 < H)))::(137,.bool (decide (6 < H)))::(140,.bool ((decide (6 < H)) && (decide (H < 17))))::(141,.bool ((decide (6 < H)) && (decide (H < 17))))::(149,.bool q3)::[])) hc ?_ ?_
      ·cases hb:((decide (6 < H)) && (decide (H < 17)))
       ·rw [hb] at hf
        have hF:=fN hb mi
        obtain rfl:=sj hF
        refine stS hf rfl rfl rfl fun a hf=>stS hf rfl rfl rfl fun a hf=>stS hf rfl rfl rfl fun a hf=>stS hf rfl rfl rfl fun a hf=>stS hf rfl rfl rfl fun a hf=>stS hf rfl rfl rfl fun a hf=>stS hf rfl rfl rfl fun a hf=>sp 1 hf rfl fun a hf=>aP ⟨hf.kp rfl,hc⟩
       ·rw [hb] at hf
        have hF:=fO hb mi
        refine zN hf hc lE m11 rfl fun a w hf hc=>zL hf hc bB m8 rfl fun a w hf hc=>zN hf hc mL m9 rfl fun a w hf hc=>sp 2 hf rfl fun a hf=>?_
        obtain ⟨qs,nm,hF⟩:=aA hF
        refine zQ (v:=.bool qs) hf hc en_8 rfl (fun w hc=>by obtain ⟨G1,cj,aq,hc,ap⟩:=lend hc k12; obtain ⟨G2,cm,cq,hc,cn⟩:=lend hc k12; obtain ⟨G3,b8,c1,hc,c0⟩:=lend hc k10; exact (kY (⟨(stI (H == 8) (stI (H == 7) an.1.Table (0:Int).toNat (⟨I,it.Due⟩:aI)) (1:Int).toNat (⟨ic.Index,I⟩:aI)),(cond (H == 9) I an.1.Credit)⟩:aH) (cond (H == 10) I 150) (⟨(cond (H == 11) I c6.Lo),(cond (H == 12) I c6.Hi)⟩:aE) (stI (H == 14) (stI (H == 13) an.2 (0:Int).toNat (⟨(⟨I,bn.Index.Hi⟩:aE),bn.Delivered,bn.Spill⟩:aF)) (1:Int).toNat (⟨bq.Index,(⟨bq.Delivered.Lo,I⟩:aE),bq.Spill⟩:aF)) (stI (H == 16) (stI (H == 15) ([(⟨150,22⟩:aB),(⟨90,30⟩:aB),(⟨0,0⟩:aB)]:List aB) (0:Int).toNat (⟨I,dy.Delivered⟩:aB)) (1:Int).toNat (⟨dd.Index,I⟩:aB)) ((aq.mono cm).mono b8) (cq.mono b8) c1 hc nm).mono fun e w h=>⟨h.1,((ap _ _ ((cn _ _ ((c0 _ _ h.2).unpick k10)).unpick k12)).unpick k12)⟩) fun a w hf hc=>sp 2 hf rfl fun a hf=>?_
        obtain rfl:=sj hF
        exact aP ⟨hf.kp rfl,hc⟩
      intro a w ⟨hf,hc⟩
      refine sp 1 hf rfl fun a hf=>?_
      obtain rfl:=sj hF
      exact aP ⟨hf.kp rfl,hc⟩
     ·rw [hb] at hf
      try rw [hb] at hc
      have hF:=fO hb kb
      obtain rfl:=sj hF
      refine stS hf rfl rfl rfl fun a hf=>stS hf rfl rfl rfl fun a hf=>stS hf rfl rfl rfl fun a hf=>stS hf rfl rfl rfl fun a hf=>stS hf rfl rfl rfl fun a hf=>stS hf rfl rfl rfl fun a hf=>stS hf rfl rfl rfl fun a hf=>stS hf rfl rfl rfl fun a hf=>stS hf rfl rfl rfl fun a hf=>stS hf rfl rfl rfl fun a hf=>stS hf rfl rfl rfl fun a hf=>stS hf rfl rfl rfl fun a hf=>stS hf rfl rfl rfl fun a hf=>?_
      refine stS hf rfl rfl rfl fun a hf=>stS hf rfl rfl rfl fun a hf=>sp 1 hf rfl fun a hf=>aP ⟨hf.kp rfl,hc⟩
    intro a w ⟨hf,hc⟩
    refine sp 1 hf rfl fun a hf=>?_
    obtain ⟨p1,jq,hF⟩:=aA hF
    refine cP 14 (fun a=>Has 516 a [(2,i6 I),(3,i6 H),(4,pq t),(5,pq af),(6,pq X),(7,pq y),(8,.slice (some ⟨Y,0,none⟩) ((stI (H == 14) (stI (H == 13) an.2 (0:Int).toNat (⟨(⟨I,bn.Index.Hi⟩:aE),bn.Delivered,bn.Spill⟩:aF)) (1:Int).toNat (⟨bq.Index,(⟨bq.Delivered.Lo,I⟩:aE),bq.Spill⟩:aF)).length) cu),(9,pq U),(10,pq aj),(11,.slice (some ⟨O,0,none⟩) ((stI (H == 16) (stI (H == 15) ([(⟨150,22⟩:aB),(⟨90,30⟩:aB),(⟨0,0⟩:aB)]:List aB) (0:Int).toNat (⟨I,dy.Delivered⟩:aB)) (1:Int).toNat (⟨dd.Index,I⟩:aB)).length) 3),(12,pq R),(13,.slice (some ⟨aa,0,none⟩) ((stI (H == 21) ([60,30,10]:List Int) (1:Int).toNat I).length) 3),(14,.slice (some ⟨ab,0,none⟩) ((stI (H == 22) ([6,3,0]:List Int) (2:Int).toNat I).length) 3),(15,pq ad),(16,i6 (H.tmod 3)),(17,pq V),(18,pq ag),(40,.slice (some ⟨cy,0,none⟩) 46 46),(41,i6 (46:Int)),(42,i6 x),(46,i6 H),(125,i6 H),(126,.bool (decide (H < 7))),(127,.bool (decide (H < 7))),(133,.bool gb),(134,.bool gb),(150,.bool jf),(151,.bool jf),(165,.bool p1)]) hc ?_ ?_
    ·cases hb:jf
     ·rw [hb] at hf
      try rw [hb] at hc
      have hF:=fN hb jq
      refine sp 3 hf rfl fun a hf=>?_
      obtain ⟨si,mt,hF⟩:=aA hF
      refine cP 10 (fun a=>Has 516 a ((2,i6 I)::(3,i6 H)::(4,pq t)::(5,pq af)::(6,pq X)::(7,pq y)::(8,.slice (some ⟨Y,0,none⟩) ((stI (H == 14) (stI (H == 13) an.2 (0:Int).toNat (⟨(⟨I,bn.Index.Hi⟩:aE),bn.Delivered,bn.Spill⟩:aF)) (1:Int).toNat (⟨bq.Index,(⟨bq.Delivered.Lo,I⟩:aE),bq.Spill⟩:aF)).length) cu)::(9,pq U)::(10,pq aj)::(11,.slice (some ⟨O,0,none⟩) ((stI (H == 16) (stI (H == 15) ([(⟨150,22⟩:aB),(⟨90,30⟩:aB),(⟨0,0⟩:aB)]:List aB) (0:Int).toNat (⟨I,dy.Delivered⟩:aB)) (1:Int).toNat (⟨dd.Index,I⟩:aB)).length) 3)::(12,pq R)::(13,.slice (some ⟨aa,0,none⟩) ((stI (H == 21) ([60,30,10]:List Int) (1:Int).toNat I).length) 3)::(14,.slice (some ⟨ab,0,none⟩) ((stI (H == 22) ([6,3,0]:List Int) (2:Int).toNat I).length) 3)::(15,pq ad)::(16,i6 (H.tmod 3))::(17,pq V)::(18,pq ag)::(40,.slice (some ⟨cy,0,none⟩) 46 46)::(41,i6 (46:Int))::(42,i6 x)::(46,i6 H)::(125,i6 H)::(126,.bool (decide (H < 7)))::(127,.bool (decide (H < 7)))::(133,.bool gb)::(134,.bool gb)::(150,.bool false)::(151,.bool false)::(152,i6 H)::(153,.bool (decide (16 < H)))::(154,.bool (decide (16 < H)))::(164,.bool si)::[])) hc ?_ ?_
      ·cases hb:(decide (16 < H))
       ·rw [hb] at hf
        have hF:=fN hb mt
        obtain rfl:=sj hF
        refine stS hf rfl rfl rfl fun a hf=>stS hf rfl rfl rfl fun a hf=>stS hf rfl rfl rfl fun a hf=>stS hf rfl rfl rfl fun a hf=>stS hf rfl rfl rfl fun a hf=>stS hf rfl rfl rfl fun a hf=>stS hf rfl rfl rfl fun a hf=>stS hf rfl rfl rfl fun a hf=>stS hf rfl rfl rfl fun a hf=>sp 1 hf rfl fun a hf=>aP ⟨hf.kp rfl,hc⟩
       ·rw [hb] at hf
        have hF:=fO hb mt
        refine zL hf hc bB m1 rfl fun a w hf hc=>zN hf hc aIe m4 rfl fun a w hf hc=>sp 2 hf rfl fun a hf=>zL hf hc bB m3 rfl fun a w hf hc=>sp 1 hf rfl fun a hf=>zN hf hc jW m2 rfl fun a w hf hc=>?_
        obtain ⟨pi,n6,hF⟩:=aA hF
        refine zQ (v:=.bool pi) hf hc en_9 rfl (fun w hc=>by obtain ⟨G1,cj,aq,hc,ap⟩:=lend hc k7; obtain ⟨G2,cm,cq,hc,cn⟩:=lend hc k6; obtain ⟨G3,b8,c1,hc,c0⟩:=lend hc k5; exact (kX (cond (H == 17) I 100) (⟨(cond (H == 18) I 15),(cond (H == 19) I 4),(stI (H == 20) ([20,30,30,40,40,40]:List Int) (0:Int).toNat I)⟩:bU) (stI (H == 21) ([60,30,10]:List Int) (1:Int).toNat I) (stI (H == 22) ([6,3,0]:List Int) (2:Int).toNat I) (cond (H == 23) I 9) (H.tmod 3) (⟨(cond (H == 24) I 10),(cond (H == 25) I 1)⟩:aM) ((aq.mono cm).mono b8) (cq.mono b8) c1 hc n6).mono fun e w h=>⟨h.1,((ap _ _ ((cn _ _ ((c0 _ _ h.2).unpick k5)).unpick k6)).unpick k7)⟩) fun a w hf hc=>sp 2 hf rfl fun a hf=>?_
        obtain rfl:=sj hF
        exact aP ⟨hf.kp rfl,hc⟩
      intro a w ⟨hf,hc⟩
      refine sp 1 hf rfl fun a hf=>?_
      obtain rfl:=sj hF
      exact aP ⟨hf.kp rfl,hc⟩
     ·rw [hb] at hf
      try rw [hb] at hc
      have hF:=fO hb jq
      obtain rfl:=sj hF
      refine stS hf rfl rfl rfl fun a hf=>stS hf rfl rfl rfl fun a hf=>stS hf rfl rfl rfl fun a hf=>stS hf rfl rfl rfl fun a hf=>stS hf rfl rfl rfl fun a hf=>stS hf rfl rfl rfl fun a hf=>stS hf rfl rfl rfl fun a hf=>stS hf rfl rfl rfl fun a hf=>stS hf rfl rfl rfl fun a hf=>stS hf rfl rfl rfl fun a hf=>stS hf rfl rfl rfl fun a hf=>stS hf rfl rfl rfl fun a hf=>stS hf rfl rfl rfl fun a hf=>?_
      refine sp 1 hf rfl fun a hf=>aP ⟨hf.kp rfl,hc⟩
    intro a w ⟨hf,hc⟩
    refine aP ?_
    replace hc:=(((((((((((((((((hc.drop k17).drop k16).drop k15).drop k14).drop k13).drop k12).drop k11).drop k10).drop k9).drop k8).drop k7).drop k6).drop k5).drop k4).drop k3).drop k2).drop k1).drop k0
    refine q7 _ _ ?_
    refine zI hf rfl hF ?_ ?_ <;> clear hF <;> intro hF
    ·refine zS fun K h=>sp 1 hf rfl fun a hf=>zT h ?_
     refine wp_ret ?_
     refine bI ?_
     refine aN ?_
     refine aN ?_
     have he:=sj hF
     rw [← he] at d8
     replace hF:=o9 _ d8
     refine bI ?_
     refine aN ?_
     refine bI ?_
     refine aN ?_
     refine aN ?_
     have he:=hF
     rw [← he] at d2
     replace hF:=od _ d2
     refine bI ?_
     refine aN ?_
     obtain rfl:=hF
     replace hc:=hc.drop k0
     exact zO1 Tryz.results3 hf rfl ⟨rfl,hc⟩
    ·refine wp_skip ?_
     refine ry _ _ ?_
     refine bR ?_
     refine sp 2 hf rfl fun a hf=>aP ?_
     exact pn (W (H + 1)) _ _ (sj hF).symm ⟨hf.kp rfl,hc⟩
   have tt:=rH mb
   clear hF
   obtain rfl | rfl | rfl | rfl | rfl | rfl | rfl | rfl | rfl | rfl | rfl | rfl | rfl | rfl | rfl | rfl | rfl | rfl | rfl | rfl | rfl | rfl | rfl | rfl | rfl | rfl:H=0 ∨ H=1 ∨ H=2 ∨ H=3 ∨ H=4 ∨ H=5 ∨ H=6 ∨ H=7 ∨ H=8 ∨ H=9 ∨ H=10 ∨ H=11 ∨ H=12 ∨ H=13 ∨ H=14 ∨ H=15 ∨ H=16 ∨ H=17 ∨ H=18 ∨ H=19 ∨ H=20 ∨ H=21 ∨ H=22 ∨ H=23 ∨ H=24 ∨ H=25:=by omega
   ·refine bR ?_
    refine sp 2 hf rfl fun a hf=>?_
    obtain ⟨Z,d⟩:=cC hc m0 (show aZ ([pq t,.pointer (some ⟨g,(1:Int).toNat * 3 + 0,none⟩),.pointer (some ⟨g,(0:Int).toNat * 3 + 1,none⟩),.pointer (some ⟨g,(0:Int).toNat * 3 + 2,none⟩),pq af,pq X,.pointer (some ⟨X,1,none⟩),.pointer (some ⟨q,(0:Int).toNat * 2 + 0,none⟩),.pointer (some ⟨q,(1:Int).toNat * 2 + 1,none⟩),.pointer (some ⟨y,1,none⟩),pq aj,pq U,.pointer (some ⟨U,1,none⟩),.pointer (some ⟨Y,(0:Int).toNat * 5 + 0 + 0,none⟩),.pointer (some ⟨Y,(1:Int).toNat * 5 + 2 + 1,none⟩),.pointer (some ⟨O,(0:Int).toNat * 2 + 0,none⟩),.pointer (some ⟨O,(1:Int).toNat * 2 + 1,none⟩),pq ag,pq R,.pointer (some ⟨R,1,none⟩),.pointer (some ⟨ak,(0:Int).toNat * 1,none⟩),.pointer (some ⟨aa,(1:Int).toNat * 1,none⟩),.pointer (some ⟨ab,(2:Int).toNat * 1,none⟩),pq ad,pq V,.pointer (some ⟨V,1,none⟩)]:List Value) 0=some (pq t) from rfl)
    refine zP hf rfl (pIA Tryz.underlying51 lM rfl rfl Z) fun a hf=>zE hf hc rfl (bP lJ rfl (bX (sz:=1) (i:=(0:Int).toNat) (j:=0) m0 d rfl)) fun a w hf hc=>sp 2 hf rfl fun a hf=>zW hf hc cY u16 rfl fun w hc=>aP ?_
    exact au _ _ (hf.kp rfl) hc
   ·refine bR ?_
    refine sp 2 hf rfl fun a hf=>?_
    obtain ⟨Z,d⟩:=cC hc m0 (show aZ ([pq t,.pointer (some ⟨g,(1:Int).toNat * 3 + 0,none⟩),.pointer (some ⟨g,(0:Int).toNat * 3 + 1,none⟩),.pointer (some ⟨g,(0:Int).toNat * 3 + 2,none⟩),pq af,pq X,.pointer (some ⟨X,1,none⟩),.pointer (some ⟨q,(0:Int).toNat * 2 + 0,none⟩),.pointer (some ⟨q,(1:Int).toNat * 2 + 1,none⟩),.pointer (some ⟨y,1,none⟩),pq aj,pq U,.pointer (some ⟨U,1,none⟩),.pointer (some ⟨Y,(0:Int).toNat * 5 + 0 + 0,none⟩),.pointer (some ⟨Y,(1:Int).toNat * 5 + 2 + 1,none⟩),.pointer (some ⟨O,(0:Int).toNat * 2 + 0,none⟩),.pointer (some ⟨O,(1:Int).toNat * 2 + 1,none⟩),pq ag,pq R,.pointer (some ⟨R,1,none⟩),.pointer (some ⟨ak,(0:Int).toNat * 1,none⟩),.pointer (some ⟨aa,(1:Int).toNat * 1,none⟩),.pointer (some ⟨ab,(2:Int).toNat * 1,none⟩),pq ad,pq V,.pointer (some ⟨V,1,none⟩)]:List Value) 1=some (.pointer (some ⟨g,(1:Int).toNat * 3 + 0,none⟩)) from rfl)
    refine zP hf rfl (pIA Tryz.underlying51 lM rfl rfl Z) fun a hf=>zE hf hc rfl (bP lJ rfl (bX (sz:=1) (i:=(1:Int).toNat) (j:=0) m0 d rfl)) fun a w hf hc=>sp 2 hf rfl fun a hf=>wY (sz:=3) (vs:=[i6 I]) (o':=0) (z:=(⟨I,d3.Amount,d3.Loss⟩:aG)) (xs:=ca.Rights) hf hc rfl rfl rfl rfl cY rfl (fun x=>(gI x).1) (mK i5) (fun e' c2=>by cases (c2.symm.trans (gZ i5).2); rfl) rfl u17 fun w hc=>aP ?_
    exact au _ _ (hf.kp rfl) hc
   ·refine bR ?_
    refine sp 2 hf rfl fun a hf=>?_
    obtain ⟨Z,d⟩:=cC hc m0 (show aZ ([pq t,.pointer (some ⟨g,(1:Int).toNat * 3 + 0,none⟩),.pointer (some ⟨g,(0:Int).toNat * 3 + 1,none⟩),.pointer (some ⟨g,(0:Int).toNat * 3 + 2,none⟩),pq af,pq X,.pointer (some ⟨X,1,none⟩),.pointer (some ⟨q,(0:Int).toNat * 2 + 0,none⟩),.pointer (some ⟨q,(1:Int).toNat * 2 + 1,none⟩),.pointer (some ⟨y,1,none⟩),pq aj,pq U,.pointer (some ⟨U,1,none⟩),.pointer (some ⟨Y,(0:Int).toNat * 5 + 0 + 0,none⟩),.pointer (some ⟨Y,(1:Int).toNat * 5 + 2 + 1,none⟩),.pointer (some ⟨O,(0:Int).toNat * 2 + 0,none⟩),.pointer (some ⟨O,(1:Int).toNat * 2 + 1,none⟩),pq ag,pq R,.pointer (some ⟨R,1,none⟩),.pointer (some ⟨ak,(0:Int).toNat * 1,none⟩),.pointer (some ⟨aa,(1:Int).toNat * 1,none⟩),.pointer (some ⟨ab,(2:Int).toNat * 1,none⟩),pq ad,pq V,.pointer (some ⟨V,1,none⟩)]:List Value) 2=some (.pointer (some ⟨g,(0:Int).toNat * 3 + 1,none⟩)) from rfl)
    refine zP hf rfl (pIA Tryz.underlying51 lM rfl rfl Z) fun a hf=>zE hf hc rfl (bP lJ rfl (bX (sz:=1) (i:=(2:Int).toNat) (j:=0) m0 d rfl)) fun a w hf hc=>sp 2 hf rfl fun a hf=>wY (sz:=3) (vs:=[i6 I]) (o':=1) (z:=(⟨d4.State,I,d4.Loss⟩:aG)) (xs:=ca.Rights) hf hc rfl rfl rfl rfl cY rfl (fun x=>(gI x).1) (mK iz) (fun e' c2=>by cases (c2.symm.trans (gZ iz).2); rfl) rfl u17 fun w hc=>aP ?_
    exact au _ _ (hf.kp rfl) hc
   ·refine bR ?_
    refine sp 2 hf rfl fun a hf=>?_
    obtain ⟨Z,d⟩:=cC hc m0 (show aZ ([pq t,.pointer (some ⟨g,(1:Int).toNat * 3 + 0,none⟩),.pointer (some ⟨g,(0:Int).toNat * 3 + 1,none⟩),.pointer (some ⟨g,(0:Int).toNat * 3 + 2,none⟩),pq af,pq X,.pointer (some ⟨X,1,none⟩),.pointer (some ⟨q,(0:Int).toNat * 2 + 0,none⟩),.pointer (some ⟨q,(1:Int).toNat * 2 + 1,none⟩),.pointer (some ⟨y,1,none⟩),pq aj,pq U,.pointer (some ⟨U,1,none⟩),.pointer (some ⟨Y,(0:Int).toNat * 5 + 0 + 0,none⟩),.pointer (some ⟨Y,(1:Int).toNat * 5 + 2 + 1,none⟩),.pointer (some ⟨O,(0:Int).toNat * 2 + 0,none⟩),.pointer (some ⟨O,(1:Int).toNat * 2 + 1,none⟩),pq ag,pq R,.pointer (some ⟨R,1,none⟩),.pointer (some ⟨ak,(0:Int).toNat * 1,none⟩),.pointer (some ⟨aa,(1:Int).toNat * 1,none⟩),.pointer (some ⟨ab,(2:Int).toNat * 1,none⟩),pq ad,pq V,.pointer (some ⟨V,1,none⟩)]:List Value) 3=some (.pointer (some ⟨g,(0:Int).toNat * 3 + 2,none⟩)) from rfl)
    refine zP hf rfl (pIA Tryz.underlying51 lM rfl rfl Z) fun a hf=>zE hf hc rfl (bP lJ rfl (bX (sz:=1) (i:=(3:Int).toNat) (j:=0) m0 d rfl)) fun a w hf hc=>sp 2 hf rfl fun a hf=>wY (sz:=3) (vs:=[i6 I]) (o':=2) (z:=(⟨d5.State,d5.Amount,I⟩:aG)) (xs:=ca.Rights) hf hc rfl rfl rfl rfl cY rfl (fun x=>(gI x).1) (mK i9) (fun e' c2=>by cases (c2.symm.trans (gZ i9).2); rfl) rfl u17 fun w hc=>aP ?_
    exact au _ _ (hf.kp rfl) hc
   ·refine bR ?_
    refine sp 2 hf rfl fun a hf=>?_
    obtain ⟨Z,d⟩:=cC hc m0 (show aZ ([pq t,.pointer (some ⟨g,(1:Int).toNat * 3 + 0,none⟩),.pointer (some ⟨g,(0:Int).toNat * 3 + 1,none⟩),.pointer (some ⟨g,(0:Int).toNat * 3 + 2,none⟩),pq af,pq X,.pointer (some ⟨X,1,none⟩),.pointer (some ⟨q,(0:Int).toNat * 2 + 0,none⟩),.pointer (some ⟨q,(1:Int).toNat * 2 + 1,none⟩),.pointer (some ⟨y,1,none⟩),pq aj,pq U,.pointer (some ⟨U,1,none⟩),.pointer (some ⟨Y,(0:Int).toNat * 5 + 0 + 0,none⟩),.pointer (some ⟨Y,(1:Int).toNat * 5 + 2 + 1,none⟩),.pointer (some ⟨O,(0:Int).toNat * 2 + 0,none⟩),.pointer (some ⟨O,(1:Int).toNat * 2 + 1,none⟩),pq ag,pq R,.pointer (some ⟨R,1,none⟩),.pointer (some ⟨ak,(0:Int).toNat * 1,none⟩),.pointer (some ⟨aa,(1:Int).toNat * 1,none⟩),.pointer (some ⟨ab,(2:Int).toNat * 1,none⟩),pq ad,pq V,.pointer (some ⟨V,1,none⟩)]:List Value) 4=some (pq af) from rfl)
    refine zP hf rfl (pIA Tryz.underlying51 lM rfl rfl Z) fun a hf=>zE hf hc rfl (bP lJ rfl (bX (sz:=1) (i:=(4:Int).toNat) (j:=0) m0 d rfl)) fun a w hf hc=>sp 2 hf rfl fun a hf=>zW hf hc cY u15 rfl fun w hc=>aP ?_
    exact au _ _ (hf.kp rfl) hc
   ·refine bR ?_
    refine sp 2 hf rfl fun a hf=>?_
    obtain ⟨Z,d⟩:=cC hc m0 (show aZ ([pq t,.pointer (some ⟨g,(1:Int).toNat * 3 + 0,none⟩),.pointer (some ⟨g,(0:Int).toNat * 3 + 1,none⟩),.pointer (some ⟨g,(0:Int).toNat * 3 + 2,none⟩),pq af,pq X,.pointer (some ⟨X,1,none⟩),.pointer (some ⟨q,(0:Int).toNat * 2 + 0,none⟩),.pointer (some ⟨q,(1:Int).toNat * 2 + 1,none⟩),.pointer (some ⟨y,1,none⟩),pq aj,pq U,.pointer (some ⟨U,1,none⟩),.pointer (some ⟨Y,(0:Int).toNat * 5 + 0 + 0,none⟩),.pointer (some ⟨Y,(1:Int).toNat * 5 + 2 + 1,none⟩),.pointer (some ⟨O,(0:Int).toNat * 2 + 0,none⟩),.pointer (some ⟨O,(1:Int).toNat * 2 + 1,none⟩),pq ag,pq R,.pointer (some ⟨R,1,none⟩),.pointer (some ⟨ak,(0:Int).toNat * 1,none⟩),.pointer (some ⟨aa,(1:Int).toNat * 1,none⟩),.pointer (some ⟨ab,(2:Int).toNat * 1,none⟩),pq ad,pq V,.pointer (some ⟨V,1,none⟩)]:List Value) 5=some (pq X) from rfl)
    refine zP hf rfl (pIA Tryz.underlying51 lM rfl rfl Z) fun a hf=>zE hf hc rfl (bP lJ rfl (bX (sz:=1) (i:=(5:Int).toNat) (j:=0) m0 d rfl)) fun a w hf hc=>sp 2 hf rfl fun a hf=>zW hf hc cY u14 rfl fun w hc=>aP ?_
    exact au _ _ (hf.kp rfl) hc
   ·refine bR ?_
    refine sp 2 hf rfl fun a hf=>?_
    obtain ⟨Z,d⟩:=cC hc m0 (show aZ ([pq t,.pointer (some ⟨g,(1:Int).toNat * 3 + 0,none⟩),.pointer (some ⟨g,(0:Int).toNat * 3 + 1,none⟩),.pointer (some ⟨g,(0:Int).toNat * 3 + 2,none⟩),pq af,pq X,.pointer (some ⟨X,1,none⟩),.pointer (some ⟨q,(0:Int).toNat * 2 + 0,none⟩),.pointer (some ⟨q,(1:Int).toNat * 2 + 1,none⟩),.pointer (some ⟨y,1,none⟩),pq aj,pq U,.pointer (some ⟨U,1,none⟩),.pointer (some ⟨Y,(0:Int).toNat * 5 + 0 + 0,none⟩),.pointer (some ⟨Y,(1:Int).toNat * 5 + 2 + 1,none⟩),.pointer (some ⟨O,(0:Int).toNat * 2 + 0,none⟩),.pointer (some ⟨O,(1:Int).toNat * 2 + 1,none⟩),pq ag,pq R,.pointer (some ⟨R,1,none⟩),.pointer (some ⟨ak,(0:Int).toNat * 1,none⟩),.pointer (some ⟨aa,(1:Int).toNat * 1,none⟩),.pointer (some ⟨ab,(2:Int).toNat * 1,none⟩),pq ad,pq V,.pointer (some ⟨V,1,none⟩)]:List Value) 6=some (.pointer (some ⟨X,1,none⟩)) from rfl)
    refine zP hf rfl (pIA Tryz.underlying51 lM rfl rfl Z) fun a hf=>zE hf hc rfl (bP lJ rfl (bX (sz:=1) (i:=(6:Int).toNat) (j:=0) m0 d rfl)) fun a w hf hc=>sp 2 hf rfl fun a hf=>zW hf hc cY u14 rfl fun w hc=>aP ?_
    exact au _ _ (hf.kp rfl) hc
   ·refine bR ?_
    refine sp 2 hf rfl fun a hf=>?_
    obtain ⟨Z,d⟩:=cC hc m0 (show aZ ([pq t,.pointer (some ⟨g,(1:Int).toNat * 3 + 0,none⟩),.pointer (some ⟨g,(0:Int).toNat * 3 + 1,none⟩),.pointer (some ⟨g,(0:Int).toNat * 3 + 2,none⟩),pq af,pq X,.pointer (some ⟨X,1,none⟩),.pointer (some ⟨q,(0:Int).toNat * 2 + 0,none⟩),.pointer (some ⟨q,(1:Int).toNat * 2 + 1,none⟩),.pointer (some ⟨y,1,none⟩),pq aj,pq U,.pointer (some ⟨U,1,none⟩),.pointer (some ⟨Y,(0:Int).toNat * 5 + 0 + 0,none⟩),.pointer (some ⟨Y,(1:Int).toNat * 5 + 2 + 1,none⟩),.pointer (some ⟨O,(0:Int).toNat * 2 + 0,none⟩),.pointer (some ⟨O,(1:Int).toNat * 2 + 1,none⟩),pq ag,pq R,.pointer (some ⟨R,1,none⟩),.pointer (some ⟨ak,(0:Int).toNat * 1,none⟩),.pointer (some ⟨aa,(1:Int).toNat * 1,none⟩),.pointer (some ⟨ab,(2:Int).toNat * 1,none⟩),pq ad,pq V,.pointer (some ⟨V,1,none⟩)]:List Value) 7=some (.pointer (some ⟨q,(0:Int).toNat * 2 + 0,none⟩)) from rfl)
    refine zP hf rfl (pIA Tryz.underlying51 lM rfl rfl Z) fun a hf=>zE hf hc rfl (bP lJ rfl (bX (sz:=1) (i:=(7:Int).toNat) (j:=0) m0 d rfl)) fun a w hf hc=>sp 2 hf rfl fun a hf=>wY (sz:=2) (vs:=[i6 I]) (o':=0) (z:=(⟨I,it.Due⟩:aI)) (xs:=an.1.Table) hf hc rfl rfl rfl rfl cY rfl (fun x=>(iY x).1) (mK i1) (fun e' c2=>by cases (c2.symm.trans (gZ i1).2); rfl) rfl u12 fun w hc=>aP ?_
    exact au _ _ (hf.kp rfl) hc
   ·refine bR ?_
    refine sp 2 hf rfl fun a hf=>?_
    obtain ⟨Z,d⟩:=cC hc m0 (show aZ ([pq t,.pointer (some ⟨g,(1:Int).toNat * 3 + 0,none⟩),.pointer (some ⟨g,(0:Int).toNat * 3 + 1,none⟩),.pointer (some ⟨g,(0:Int).toNat * 3 + 2,none⟩),pq af,pq X,.pointer (some ⟨X,1,none⟩),.pointer (some ⟨q,(0:Int).toNat * 2 + 0,none⟩),.pointer (some ⟨q,(1:Int).toNat * 2 + 1,none⟩),.pointer (some ⟨y,1,none⟩),pq aj,pq U,.pointer (some ⟨U,1,none⟩),.pointer (some ⟨Y,(0:Int).toNat * 5 + 0 + 0,none⟩),.pointer (some ⟨Y,(1:Int).toNat * 5 + 2 + 1,none⟩),.pointer (some ⟨O,(0:Int).toNat * 2 + 0,none⟩),.pointer (some ⟨O,(1:Int).toNat * 2 + 1,none⟩),pq ag,pq R,.pointer (some ⟨R,1,none⟩),.pointer (some ⟨ak,(0:Int).toNat * 1,none⟩),.pointer (some ⟨aa,(1:Int).toNat * 1,none⟩),.pointer (some ⟨ab,(2:Int).toNat * 1,none⟩),pq ad,pq V,.pointer (some ⟨V,1,none⟩)]:List Value) 8=some (.pointer (some ⟨q,(1:Int).toNat * 2 + 1,none⟩)) from rfl)
    refine zP hf rfl (pIA Tryz.underlying51 lM rfl rfl Z) fun a hf=>zE hf hc rfl (bP lJ rfl (bX (sz:=1) (i:=(8:Int).toNat) (j:=0) m0 d rfl)) fun a w hf hc=>sp 2 hf rfl fun a hf=>wY (sz:=2) (vs:=[i6 I]) (o':=1) (z:=(⟨ic.Index,I⟩:aI)) (xs:=an.1.Table) hf hc rfl rfl rfl rfl cY rfl (fun x=>(iY x).1) (mK i7) (fun e' c2=>by cases (c2.symm.trans (gZ i7).2); rfl) rfl u12 fun w hc=>aP ?_
    exact au _ _ (hf.kp rfl) hc
   ·refine bR ?_
    refine sp 2 hf rfl fun a hf=>?_
    obtain ⟨Z,d⟩:=cC hc m0 (show aZ ([pq t,.pointer (some ⟨g,(1:Int).toNat * 3 + 0,none⟩),.pointer (some ⟨g,(0:Int).toNat * 3 + 1,none⟩),.pointer (some ⟨g,(0:Int).toNat * 3 + 2,none⟩),pq af,pq X,.pointer (some ⟨X,1,none⟩),.pointer (some ⟨q,(0:Int).toNat * 2 + 0,none⟩),.pointer (some ⟨q,(1:Int).toNat * 2 + 1,none⟩),.pointer (some ⟨y,1,none⟩),pq aj,pq U,.pointer (some ⟨U,1,none⟩),.pointer (some ⟨Y,(0:Int).toNat * 5 + 0 + 0,none⟩),.pointer (some ⟨Y,(1:Int).toNat * 5 + 2 + 1,none⟩),.pointer (some ⟨O,(0:Int).toNat * 2 + 0,none⟩),.pointer (some ⟨O,(1:Int).toNat * 2 + 1,none⟩),pq ag,pq R,.pointer (some ⟨R,1,none⟩),.pointer (some ⟨ak,(0:Int).toNat * 1,none⟩),.pointer (some ⟨aa,(1:Int).toNat * 1,none⟩),.pointer (some ⟨ab,(2:Int).toNat * 1,none⟩),pq ad,pq V,.pointer (some ⟨V,1,none⟩)]:List Value) 9=some (.pointer (some ⟨y,1,none⟩)) from rfl)
    refine zP hf rfl (pIA Tryz.underlying51 lM rfl rfl Z) fun a hf=>zE hf hc rfl (bP lJ rfl (bX (sz:=1) (i:=(9:Int).toNat) (j:=0) m0 d rfl)) fun a w hf hc=>sp 2 hf rfl fun a hf=>zW hf hc cY u11 rfl fun w hc=>aP ?_
    exact au _ _ (hf.kp rfl) hc
   ·refine bR ?_
    refine sp 2 hf rfl fun a hf=>?_
    obtain ⟨Z,d⟩:=cC hc m0 (show aZ ([pq t,.pointer (some ⟨g,(1:Int).toNat * 3 + 0,none⟩),.pointer (some ⟨g,(0:Int).toNat * 3 + 1,none⟩),.pointer (some ⟨g,(0:Int).toNat * 3 + 2,none⟩),pq af,pq X,.pointer (some ⟨X,1,none⟩),.pointer (some ⟨q,(0:Int).toNat * 2 + 0,none⟩),.pointer (some ⟨q,(1:Int).toNat * 2 + 1,none⟩),.pointer (some ⟨y,1,none⟩),pq aj,pq U,.pointer (some ⟨U,1,none⟩),.pointer (some ⟨Y,(0:Int).toNat * 5 + 0 + 0,none⟩),.pointer (some ⟨Y,(1:Int).toNat * 5 + 2 + 1,none⟩),.pointer (some ⟨O,(0:Int).toNat * 2 + 0,none⟩),.pointer (some ⟨O,(1:Int).toNat * 2 + 1,none⟩),pq ag,pq R,.pointer (some ⟨R,1,none⟩),.pointer (some ⟨ak,(0:Int).toNat * 1,none⟩),.pointer (some ⟨aa,(1:Int).toNat * 1,none⟩),.pointer (some ⟨ab,(2:Int).toNat * 1,none⟩),pq ad,pq V,.pointer (some ⟨V,1,none⟩)]:List Value) 10=some (pq aj) from rfl)
    refine zP hf rfl (pIA Tryz.underlying51 lM rfl rfl Z) fun a hf=>zE hf hc rfl (bP lJ rfl (bX (sz:=1) (i:=(10:Int).toNat) (j:=0) m0 d rfl)) fun a w hf hc=>sp 2 hf rfl fun a hf=>zW hf hc cY u8 rfl fun w hc=>aP ?_
    exact au _ _ (hf.kp rfl) hc
   ·refine bR ?_
    refine sp 2 hf rfl fun a hf=>?_
    obtain ⟨Z,d⟩:=cC hc m0 (show aZ ([pq t,.pointer (some ⟨g,(1:Int).toNat * 3 + 0,none⟩),.pointer (some ⟨g,(0:Int).toNat * 3 + 1,none⟩),.pointer (some ⟨g,(0:Int).toNat * 3 + 2,none⟩),pq af,pq X,.pointer (some ⟨X,1,none⟩),.pointer (some ⟨q,(0:Int).toNat * 2 + 0,none⟩),.pointer (some ⟨q,(1:Int).toNat * 2 + 1,none⟩),.pointer (some ⟨y,1,none⟩),pq aj,pq U,.pointer (some ⟨U,1,none⟩),.pointer (some ⟨Y,(0:Int).toNat * 5 + 0 + 0,none⟩),.pointer (some ⟨Y,(1:Int).toNat * 5 + 2 + 1,none⟩),.pointer (some ⟨O,(0:Int).toNat * 2 + 0,none⟩),.pointer (some ⟨O,(1:Int).toNat * 2 + 1,none⟩),pq ag,pq R,.pointer (some ⟨R,1,none⟩),.pointer (some ⟨ak,(0:Int).toNat * 1,none⟩),.pointer (some ⟨aa,(1:Int).toNat * 1,none⟩),.pointer (some ⟨ab,(2:Int).toNat * 1,none⟩),pq ad,pq V,.pointer (some ⟨V,1,none⟩)]:List Value) 11=some (pq U) from rfl)
    refine zP hf rfl (pIA Tryz.underlying51 lM rfl rfl Z) fun a hf=>zE hf hc rfl (bP lJ rfl (bX (sz:=1) (i:=(11:Int).toNat) (j:=0) m0 d rfl)) fun a w hf hc=>sp 2 hf rfl fun a hf=>zW hf hc cY u9 rfl fun w hc=>aP ?_
    exact au _ _ (hf.kp rfl) hc
   ·refine bR ?_
    refine sp 2 hf rfl fun a hf=>?_
    obtain ⟨Z,d⟩:=cC hc m0 (show aZ ([pq t,.pointer (some ⟨g,(1:Int).toNat * 3 + 0,none⟩),.pointer (some ⟨g,(0:Int).toNat * 3 + 1,none⟩),.pointer (some ⟨g,(0:Int).toNat * 3 + 2,none⟩),pq af,pq X,.pointer (some ⟨X,1,none⟩),.pointer (some ⟨q,(0:Int).toNat * 2 + 0,none⟩),.pointer (some ⟨q,(1:Int).toNat * 2 + 1,none⟩),.pointer (some ⟨y,1,none⟩),pq aj,pq U,.pointer (some ⟨U,1,none⟩),.pointer (some ⟨Y,(0:Int).toNat * 5 + 0 + 0,none⟩),.pointer (some ⟨Y,(1:Int).toNat * 5 + 2 + 1,none⟩),.pointer (some ⟨O,(0:Int).toNat * 2 + 0,none⟩),.pointer (some ⟨O,(1:Int).toNat * 2 + 1,none⟩),pq ag,pq R,.pointer (some ⟨R,1,none⟩),.pointer (some ⟨ak,(0:Int).toNat * 1,none⟩),.pointer (some ⟨aa,(1:Int).toNat * 1,none⟩),.pointer (some ⟨ab,(2:Int).toNat * 1,none⟩),pq ad,pq V,.pointer (some ⟨V,1,none⟩)]:List Value) 12=some (.pointer (some ⟨U,1,none⟩)) from rfl)
    refine zP hf rfl (pIA Tryz.underlying51 lM rfl rfl Z) fun a hf=>zE hf hc rfl (bP lJ rfl (bX (sz:=1) (i:=(12:Int).toNat) (j:=0) m0 d rfl)) fun a w hf hc=>sp 2 hf rfl fun a hf=>zW hf hc cY u9 rfl fun w hc=>aP ?_
    exact au _ _ (hf.kp rfl) hc
   ·refine bR ?_
    refine sp 2 hf rfl fun a hf=>?_
    obtain ⟨Z,d⟩:=cC hc m0 (show aZ ([pq t,.pointer (some ⟨g,(1:Int).toNat * 3 + 0,none⟩),.pointer (some ⟨g,(0:Int).toNat * 3 + 1,none⟩),.pointer (some ⟨g,(0:Int).toNat * 3 + 2,none⟩),pq af,pq X,.pointer (some ⟨X,1,none⟩),.pointer (some ⟨q,(0:Int).toNat * 2 + 0,none⟩),.pointer (some ⟨q,(1:Int).toNat * 2 + 1,none⟩),.pointer (some ⟨y,1,none⟩),pq aj,pq U,.pointer (some ⟨U,1,none⟩),.pointer (some ⟨Y,(0:Int).toNat * 5 + 0 + 0,none⟩),.pointer (some ⟨Y,(1:Int).toNat * 5 + 2 + 1,none⟩),.pointer (some ⟨O,(0:Int).toNat * 2 + 0,none⟩),.pointer (some ⟨O,(1:Int).toNat * 2 + 1,none⟩),pq ag,pq R,.pointer (some ⟨R,1,none⟩),.pointer (some ⟨ak,(0:Int).toNat * 1,none⟩),.pointer (some ⟨aa,(1:Int).toNat * 1,none⟩),.pointer (some ⟨ab,(2:Int).toNat * 1,none⟩),pq ad,pq V,.pointer (some ⟨V,1,none⟩)]:List Value) 13=some (.pointer (some ⟨Y,(0:Int).toNat * 5 + 0 + 0,none⟩)) from rfl)
    refine zP hf rfl (pIA Tryz.underlying51 lM rfl rfl Z) fun a hf=>zE hf hc rfl (bP lJ rfl (bX (sz:=1) (i:=(13:Int).toNat) (j:=0) m0 d rfl)) fun a w hf hc=>sp 2 hf rfl fun a hf=>wY (sz:=5) (vs:=[i6 I]) (o':=0) (z:=(⟨(⟨I,bn.Index.Hi⟩:aE),bn.Delivered,bn.Spill⟩:aF)) (xs:=an.2) hf hc rfl rfl rfl rfl cY rfl (fun x=>(jP x).1) (mK i3) (fun e' c2=>by cases (c2.symm.trans (gZ i3).2); rfl) rfl u13 fun w hc=>aP ?_
    exact au _ _ (hf.kp rfl) hc
   ·refine bR ?_
    refine sp 2 hf rfl fun a hf=>?_
    obtain ⟨Z,d⟩:=cC hc m0 (show aZ ([pq t,.pointer (some ⟨g,(1:Int).toNat * 3 + 0,none⟩),.pointer (some ⟨g,(0:Int).toNat * 3 + 1,none⟩),.pointer (some ⟨g,(0:Int).toNat * 3 + 2,none⟩),pq af,pq X,.pointer (some ⟨X,1,none⟩),.pointer (some ⟨q,(0:Int).toNat * 2 + 0,none⟩),.pointer (some ⟨q,(1:Int).toNat * 2 + 1,none⟩),.pointer (some ⟨y,1,none⟩),pq aj,pq U,.pointer (some ⟨U,1,none⟩),.pointer (some ⟨Y,(0:Int).toNat * 5 + 0 + 0,none⟩),.pointer (some ⟨Y,(1:Int).toNat * 5 + 2 + 1,none⟩),.pointer (some ⟨O,(0:Int).toNat * 2 + 0,none⟩),.pointer (some ⟨O,(1:Int).toNat * 2 + 1,none⟩),pq ag,pq R,.pointer (some ⟨R,1,none⟩),.pointer (some ⟨ak,(0:Int).toNat * 1,none⟩),.pointer (some ⟨aa,(1:Int).toNat * 1,none⟩),.pointer (some ⟨ab,(2:Int).toNat * 1,none⟩),pq ad,pq V,.pointer (some ⟨V,1,none⟩)]:List Value) 14=some (.pointer (some ⟨Y,(1:Int).toNat * 5 + 2 + 1,none⟩)) from rfl)
    refine zP hf rfl (pIA Tryz.underlying51 lM rfl rfl Z) fun a hf=>zE hf hc rfl (bP lJ rfl (bX (sz:=1) (i:=(14:Int).toNat) (j:=0) m0 d rfl)) fun a w hf hc=>sp 2 hf rfl fun a hf=>wY (sz:=5) (vs:=[i6 I]) (o':=3) (z:=(⟨bq.Index,(⟨bq.Delivered.Lo,I⟩:aE),bq.Spill⟩:aF)) (xs:=an.2) hf hc rfl rfl rfl rfl cY rfl (fun x=>(jP x).1) (mK jc) (fun e' c2=>by cases (c2.symm.trans (gZ jc).2); rfl) rfl u13 fun w hc=>aP ?_
    exact au _ _ (hf.kp rfl) hc
   ·refine bR ?_
    refine sp 2 hf rfl fun a hf=>?_
    obtain ⟨Z,d⟩:=cC hc m0 (show aZ ([pq t,.pointer (some ⟨g,(1:Int).toNat * 3 + 0,none⟩),.pointer (some ⟨g,(0:Int).toNat * 3 + 1,none⟩),.pointer (some ⟨g,(0:Int).toNat * 3 + 2,none⟩),pq af,pq X,.pointer (some ⟨X,1,none⟩),.pointer (some ⟨q,(0:Int).toNat * 2 + 0,none⟩),.pointer (some ⟨q,(1:Int).toNat * 2 + 1,none⟩),.pointer (some ⟨y,1,none⟩),pq aj,pq U,.pointer (some ⟨U,1,none⟩),.pointer (some ⟨Y,(0:Int).toNat * 5 + 0 + 0,none⟩),.pointer (some ⟨Y,(1:Int).toNat * 5 + 2 + 1,none⟩),.pointer (some ⟨O,(0:Int).toNat * 2 + 0,none⟩),.pointer (some ⟨O,(1:Int).toNat * 2 + 1,none⟩),pq ag,pq R,.pointer (some ⟨R,1,none⟩),.pointer (some ⟨ak,(0:Int).toNat * 1,none⟩),.pointer (some ⟨aa,(1:Int).toNat * 1,none⟩),.pointer (some ⟨ab,(2:Int).toNat * 1,none⟩),pq ad,pq V,.pointer (some ⟨V,1,none⟩)]:List Value) 15=some (.pointer (some ⟨O,(0:Int).toNat * 2 + 0,none⟩)) from rfl)
    refine zP hf rfl (pIA Tryz.underlying51 lM rfl rfl Z) fun a hf=>zE hf hc rfl (bP lJ rfl (bX (sz:=1) (i:=(15:Int).toNat) (j:=0) m0 d rfl)) fun a w hf hc=>sp 2 hf rfl fun a hf=>wY (sz:=2) (vs:=[i6 I]) (o':=0) (z:=(⟨I,dy.Delivered⟩:aB)) (xs:=([(⟨150,22⟩:aB),(⟨90,30⟩:aB),(⟨0,0⟩:aB)]:List aB)) hf hc rfl rfl rfl rfl cY rfl (fun x=>(kZ x).1) (mK i0) (fun e' c2=>by cases (c2.symm.trans (gZ i0).2); rfl) rfl u10 fun w hc=>aP ?_
    exact au _ _ (hf.kp rfl) hc
   ·refine bR ?_
    refine sp 2 hf rfl fun a hf=>?_
    obtain ⟨Z,d⟩:=cC hc m0 (show aZ ([pq t,.pointer (some ⟨g,(1:Int).toNat * 3 + 0,none⟩),.pointer (some ⟨g,(0:Int).toNat * 3 + 1,none⟩),.pointer (some ⟨g,(0:Int).toNat * 3 + 2,none⟩),pq af,pq X,.pointer (some ⟨X,1,none⟩),.pointer (some ⟨q,(0:Int).toNat * 2 + 0,none⟩),.pointer (some ⟨q,(1:Int).toNat * 2 + 1,none⟩),.pointer (some ⟨y,1,none⟩),pq aj,pq U,.pointer (some ⟨U,1,none⟩),.pointer (some ⟨Y,(0:Int).toNat * 5 + 0 + 0,none⟩),.pointer (some ⟨Y,(1:Int).toNat * 5 + 2 + 1,none⟩),.pointer (some ⟨O,(0:Int).toNat * 2 + 0,none⟩),.pointer (some ⟨O,(1:Int).toNat * 2 + 1,none⟩),pq ag,pq R,.pointer (some ⟨R,1,none⟩),.pointer (some ⟨ak,(0:Int).toNat * 1,none⟩),.pointer (some ⟨aa,(1:Int).toNat * 1,none⟩),.pointer (some ⟨ab,(2:Int).toNat * 1,none⟩),pq ad,pq V,.pointer (some ⟨V,1,none⟩)]:List Value) 16=some (.pointer (some ⟨O,(1:Int).toNat * 2 + 1,none⟩)) from rfl)
    refine zP hf rfl (pIA Tryz.underlying51 lM rfl rfl Z) fun a hf=>zE hf hc rfl (bP lJ rfl (bX (sz:=1) (i:=(16:Int).toNat) (j:=0) m0 d rfl)) fun a w hf hc=>sp 2 hf rfl fun a hf=>wY (sz:=2) (vs:=[i6 I]) (o':=1) (z:=(⟨dd.Index,I⟩:aB)) (xs:=([(⟨150,22⟩:aB),(⟨90,30⟩:aB),(⟨0,0⟩:aB)]:List aB)) hf hc rfl rfl rfl rfl cY rfl (fun x=>(kZ x).1) (mK g5) (fun e' c2=>by cases (c2.symm.trans (gZ g5).2); rfl) rfl u10 fun w hc=>aP ?_
    exact au _ _ (hf.kp rfl) hc
   ·refine bR ?_
    refine sp 2 hf rfl fun a hf=>?_
    obtain ⟨Z,d⟩:=cC hc m0 (show aZ ([pq t,.pointer (some ⟨g,(1:Int).toNat * 3 + 0,none⟩),.pointer (some ⟨g,(0:Int).toNat * 3 + 1,none⟩),.pointer (some ⟨g,(0:Int).toNat * 3 + 2,none⟩),pq af,pq X,.pointer (some ⟨X,1,none⟩),.pointer (some ⟨q,(0:Int).toNat * 2 + 0,none⟩),.pointer (some ⟨q,(1:Int).toNat * 2 + 1,none⟩),.pointer (some ⟨y,1,none⟩),pq aj,pq U,.pointer (some ⟨U,1,none⟩),.pointer (some ⟨Y,(0:Int).toNat * 5 + 0 + 0,none⟩),.pointer (some ⟨Y,(1:Int).toNat * 5 + 2 + 1,none⟩),.pointer (some ⟨O,(0:Int).toNat * 2 + 0,none⟩),.pointer (some ⟨O,(1:Int).toNat * 2 + 1,none⟩),pq ag,pq R,.pointer (some ⟨R,1,none⟩),.pointer (some ⟨ak,(0:Int).toNat * 1,none⟩),.pointer (some ⟨aa,(1:Int).toNat * 1,none⟩),.pointer (some ⟨ab,(2:Int).toNat * 1,none⟩),pq ad,pq V,.pointer (some ⟨V,1,none⟩)]:List Value) 17=some (pq ag) from rfl)
    refine zP hf rfl (pIA Tryz.underlying51 lM rfl rfl Z) fun a hf=>zE hf hc rfl (bP lJ rfl (bX (sz:=1) (i:=(17:Int).toNat) (j:=0) m0 d rfl)) fun a w hf hc=>sp 2 hf rfl fun a hf=>zW hf hc cY u1 rfl fun w hc=>aP ?_
    exact au _ _ (hf.kp rfl) hc
   ·refine bR ?_
    refine sp 2 hf rfl fun a hf=>?_
    obtain ⟨Z,d⟩:=cC hc m0 (show aZ ([pq t,.pointer (some ⟨g,(1:Int).toNat * 3 + 0,none⟩),.pointer (some ⟨g,(0:Int).toNat * 3 + 1,none⟩),.pointer (some ⟨g,(0:Int).toNat * 3 + 2,none⟩),pq af,pq X,.pointer (some ⟨X,1,none⟩),.pointer (some ⟨q,(0:Int).toNat * 2 + 0,none⟩),.pointer (some ⟨q,(1:Int).toNat * 2 + 1,none⟩),.pointer (some ⟨y,1,none⟩),pq aj,pq U,.pointer (some ⟨U,1,none⟩),.pointer (some ⟨Y,(0:Int).toNat * 5 + 0 + 0,none⟩),.pointer (some ⟨Y,(1:Int).toNat * 5 + 2 + 1,none⟩),.pointer (some ⟨O,(0:Int).toNat * 2 + 0,none⟩),.pointer (some ⟨O,(1:Int).toNat * 2 + 1,none⟩),pq ag,pq R,.pointer (some ⟨R,1,none⟩),.pointer (some ⟨ak,(0:Int).toNat * 1,none⟩),.pointer (some ⟨aa,(1:Int).toNat * 1,none⟩),.pointer (some ⟨ab,(2:Int).toNat * 1,none⟩),pq ad,pq V,.pointer (some ⟨V,1,none⟩)]:List Value) 18=some (pq R) from rfl)
    refine zP hf rfl (pIA Tryz.underlying51 lM rfl rfl Z) fun a hf=>zE hf hc rfl (bP lJ rfl (bX (sz:=1) (i:=(18:Int).toNat) (j:=0) m0 d rfl)) fun a w hf hc=>sp 2 hf rfl fun a hf=>zW hf hc cY u4 rfl fun w hc=>aP ?_
    exact au _ _ (hf.kp rfl) hc
   ·refine bR ?_
    refine sp 2 hf rfl fun a hf=>?_
    obtain ⟨Z,d⟩:=cC hc m0 (show aZ ([pq t,.pointer (some ⟨g,(1:Int).toNat * 3 + 0,none⟩),.pointer (some ⟨g,(0:Int).toNat * 3 + 1,none⟩),.pointer (some ⟨g,(0:Int).toNat * 3 + 2,none⟩),pq af,pq X,.pointer (some ⟨X,1,none⟩),.pointer (some ⟨q,(0:Int).toNat * 2 + 0,none⟩),.pointer (some ⟨q,(1:Int).toNat * 2 + 1,none⟩),.pointer (some ⟨y,1,none⟩),pq aj,pq U,.pointer (some ⟨U,1,none⟩),.pointer (some ⟨Y,(0:Int).toNat * 5 + 0 + 0,none⟩),.pointer (some ⟨Y,(1:Int).toNat * 5 + 2 + 1,none⟩),.pointer (some ⟨O,(0:Int).toNat * 2 + 0,none⟩),.pointer (some ⟨O,(1:Int).toNat * 2 + 1,none⟩),pq ag,pq R,.pointer (some ⟨R,1,none⟩),.pointer (some ⟨ak,(0:Int).toNat * 1,none⟩),.pointer (some ⟨aa,(1:Int).toNat * 1,none⟩),.pointer (some ⟨ab,(2:Int).toNat * 1,none⟩),pq ad,pq V,.pointer (some ⟨V,1,none⟩)]:List Value) 19=some (.pointer (some ⟨R,1,none⟩)) from rfl)
    refine zP hf rfl (pIA Tryz.underlying51 lM rfl rfl Z) fun a hf=>zE hf hc rfl (bP lJ rfl (bX (sz:=1) (i:=(19:Int).toNat) (j:=0) m0 d rfl)) fun a w hf hc=>sp 2 hf rfl fun a hf=>zW hf hc cY u4 rfl fun w hc=>aP ?_
    exact au _ _ (hf.kp rfl) hc
   ·refine bR ?_
    refine sp 2 hf rfl fun a hf=>?_
    obtain ⟨Z,d⟩:=cC hc m0 (show aZ ([pq t,.pointer (some ⟨g,(1:Int).toNat * 3 + 0,none⟩),.pointer (some ⟨g,(0:Int).toNat * 3 + 1,none⟩),.pointer (some ⟨g,(0:Int).toNat * 3 + 2,none⟩),pq af,pq X,.pointer (some ⟨X,1,none⟩),.pointer (some ⟨q,(0:Int).toNat * 2 + 0,none⟩),.pointer (some ⟨q,(1:Int).toNat * 2 + 1,none⟩),.pointer (some ⟨y,1,none⟩),pq aj,pq U,.pointer (some ⟨U,1,none⟩),.pointer (some ⟨Y,(0:Int).toNat * 5 + 0 + 0,none⟩),.pointer (some ⟨Y,(1:Int).toNat * 5 + 2 + 1,none⟩),.pointer (some ⟨O,(0:Int).toNat * 2 + 0,none⟩),.pointer (some ⟨O,(1:Int).toNat * 2 + 1,none⟩),pq ag,pq R,.pointer (some ⟨R,1,none⟩),.pointer (some ⟨ak,(0:Int).toNat * 1,none⟩),.pointer (some ⟨aa,(1:Int).toNat * 1,none⟩),.pointer (some ⟨ab,(2:Int).toNat * 1,none⟩),pq ad,pq V,.pointer (some ⟨V,1,none⟩)]:List Value) 20=some (.pointer (some ⟨ak,(0:Int).toNat * 1,none⟩)) from rfl)
    refine zP hf rfl (pIA Tryz.underlying51 lM rfl rfl Z) fun a hf=>zE hf hc rfl (bP lJ rfl (bX (sz:=1) (i:=(20:Int).toNat) (j:=0) m0 d rfl)) fun a w hf hc=>sp 2 hf rfl fun a hf=>wY (sz:=1) (vs:=[i6 I]) (o':=0) (z:=I) (xs:=([20,30,30,40,40,40]:List Int)) hf hc rfl rfl rfl rfl cY rfl (fun x=>(cM x).1) (mK jj) (fun _ _=>rfl) rfl u7 fun w hc=>aP ?_
    exact au _ _ (hf.kp rfl) hc
   ·refine bR ?_
    refine sp 2 hf rfl fun a hf=>?_
    obtain ⟨Z,d⟩:=cC hc m0 (show aZ ([pq t,.pointer (some ⟨g,(1:Int).toNat * 3 + 0,none⟩),.pointer (some ⟨g,(0:Int).toNat * 3 + 1,none⟩),.pointer (some ⟨g,(0:Int).toNat * 3 + 2,none⟩),pq af,pq X,.pointer (some ⟨X,1,none⟩),.pointer (some ⟨q,(0:Int).toNat * 2 + 0,none⟩),.pointer (some ⟨q,(1:Int).toNat * 2 + 1,none⟩),.pointer (some ⟨y,1,none⟩),pq aj,pq U,.pointer (some ⟨U,1,none⟩),.pointer (some ⟨Y,(0:Int).toNat * 5 + 0 + 0,none⟩),.pointer (some ⟨Y,(1:Int).toNat * 5 + 2 + 1,none⟩),.pointer (some ⟨O,(0:Int).toNat * 2 + 0,none⟩),.pointer (some ⟨O,(1:Int).toNat * 2 + 1,none⟩),pq ag,pq R,.pointer (some ⟨R,1,none⟩),.pointer (some ⟨ak,(0:Int).toNat * 1,none⟩),.pointer (some ⟨aa,(1:Int).toNat * 1,none⟩),.pointer (some ⟨ab,(2:Int).toNat * 1,none⟩),pq ad,pq V,.pointer (some ⟨V,1,none⟩)]:List Value) 21=some (.pointer (some ⟨aa,(1:Int).toNat * 1,none⟩)) from rfl)
    refine zP hf rfl (pIA Tryz.underlying51 lM rfl rfl Z) fun a hf=>zE hf hc rfl (bP lJ rfl (bX (sz:=1) (i:=(21:Int).toNat) (j:=0) m0 d rfl)) fun a w hf hc=>sp 2 hf rfl fun a hf=>wY (sz:=1) (vs:=[i6 I]) (o':=0) (z:=I) (xs:=([60,30,10]:List Int)) hf hc rfl rfl rfl rfl cY rfl (fun x=>(cM x).1) (mK jp) (fun _ _=>rfl) rfl u6 fun w hc=>aP ?_
    exact au _ _ (hf.kp rfl) hc
   ·refine bR ?_
    refine sp 2 hf rfl fun a hf=>?_
    obtain ⟨Z,d⟩:=cC hc m0 (show aZ ([pq t,.pointer (some ⟨g,(1:Int).toNat * 3 + 0,none⟩),.pointer (some ⟨g,(0:Int).toNat * 3 + 1,none⟩),.pointer (some ⟨g,(0:Int).toNat * 3 + 2,none⟩),pq af,pq X,.pointer (some ⟨X,1,none⟩),.pointer (some ⟨q,(0:Int).toNat * 2 + 0,none⟩),.pointer (some ⟨q,(1:Int).toNat * 2 + 1,none⟩),.pointer (some ⟨y,1,none⟩),pq aj,pq U,.pointer (some ⟨U,1,none⟩),.pointer (some ⟨Y,(0:Int).toNat * 5 + 0 + 0,none⟩),.pointer (some ⟨Y,(1:Int).toNat * 5 + 2 + 1,none⟩),.pointer (some ⟨O,(0:Int).toNat * 2 + 0,none⟩),.pointer (some ⟨O,(1:Int).toNat * 2 + 1,none⟩),pq ag,pq R,.pointer (some ⟨R,1,none⟩),.pointer (some ⟨ak,(0:Int).toNat * 1,none⟩),.pointer (some ⟨aa,(1:Int).toNat * 1,none⟩),.pointer (some ⟨ab,(2:Int).toNat * 1,none⟩),pq ad,pq V,.pointer (some ⟨V,1,none⟩)]:List Value) 22=some (.pointer (some ⟨ab,(2:Int).toNat * 1,none⟩)) from rfl)
    refine zP hf rfl (pIA Tryz.underlying51 lM rfl rfl Z) fun a hf=>zE hf hc rfl (bP lJ rfl (bX (sz:=1) (i:=(22:Int).toNat) (j:=0) m0 d rfl)) fun a w hf hc=>sp 2 hf rfl fun a hf=>wY (sz:=1) (vs:=[i6 I]) (o':=0) (z:=I) (xs:=([6,3,0]:List Int)) hf hc rfl rfl rfl rfl cY rfl (fun x=>(cM x).1) (mK js) (fun _ _=>rfl) rfl u5 fun w hc=>aP ?_
    exact au _ _ (hf.kp rfl) hc
   ·refine bR ?_
    refine sp 2 hf rfl fun a hf=>?_
    obtain ⟨Z,d⟩:=cC hc m0 (show aZ ([pq t,.pointer (some ⟨g,(1:Int).toNat * 3 + 0,none⟩),.pointer (some ⟨g,(0:Int).toNat * 3 + 1,none⟩),.pointer (some ⟨g,(0:Int).toNat * 3 + 2,none⟩),pq af,pq X,.pointer (some ⟨X,1,none⟩),.pointer (some ⟨q,(0:Int).toNat * 2 + 0,none⟩),.pointer (some ⟨q,(1:Int).toNat * 2 + 1,none⟩),.pointer (some ⟨y,1,none⟩),pq aj,pq U,.pointer (some ⟨U,1,none⟩),.pointer (some ⟨Y,(0:Int).toNat * 5 + 0 + 0,none⟩),.pointer (some ⟨Y,(1:Int).toNat * 5 + 2 + 1,none⟩),.pointer (some ⟨O,(0:Int).toNat * 2 + 0,none⟩),.pointer (some ⟨O,(1:Int).toNat * 2 + 1,none⟩),pq ag,pq R,.pointer (some ⟨R,1,none⟩),.pointer (some ⟨ak,(0:Int).toNat * 1,none⟩),.pointer (some ⟨aa,(1:Int).toNat * 1,none⟩),.pointer (some ⟨ab,(2:Int).toNat * 1,none⟩),pq ad,pq V,.pointer (some ⟨V,1,none⟩)]:List Value) 23=some (pq ad) from rfl)
    refine zP hf rfl (pIA Tryz.underlying51 lM rfl rfl Z) fun a hf=>zE hf hc rfl (bP lJ rfl (bX (sz:=1) (i:=(23:Int).toNat) (j:=0) m0 d rfl)) fun a w hf hc=>sp 2 hf rfl fun a hf=>zW hf hc cY u3 rfl fun w hc=>aP ?_
    exact au _ _ (hf.kp rfl) hc
   ·refine bR ?_
    refine sp 2 hf rfl fun a hf=>?_
    obtain ⟨Z,d⟩:=cC hc m0 (show aZ ([pq t,.pointer (some ⟨g,(1:Int).toNat * 3 + 0,none⟩),.pointer (some ⟨g,(0:Int).toNat * 3 + 1,none⟩),.pointer (some ⟨g,(0:Int).toNat * 3 + 2,none⟩),pq af,pq X,.pointer (some ⟨X,1,none⟩),.pointer (some ⟨q,(0:Int).toNat * 2 + 0,none⟩),.pointer (some ⟨q,(1:Int).toNat * 2 + 1,none⟩),.pointer (some ⟨y,1,none⟩),pq aj,pq U,.pointer (some ⟨U,1,none⟩),.pointer (some ⟨Y,(0:Int).toNat * 5 + 0 + 0,none⟩),.pointer (some ⟨Y,(1:Int).toNat * 5 + 2 + 1,none⟩),.pointer (some ⟨O,(0:Int).toNat * 2 + 0,none⟩),.pointer (some ⟨O,(1:Int).toNat * 2 + 1,none⟩),pq ag,pq R,.pointer (some ⟨R,1,none⟩),.pointer (some ⟨ak,(0:Int).toNat * 1,none⟩),.pointer (some ⟨aa,(1:Int).toNat * 1,none⟩),.pointer (some ⟨ab,(2:Int).toNat * 1,none⟩),pq ad,pq V,.pointer (some ⟨V,1,none⟩)]:List Value) 24=some (pq V) from rfl)
    refine zP hf rfl (pIA Tryz.underlying51 lM rfl rfl Z) fun a hf=>zE hf hc rfl (bP lJ rfl (bX (sz:=1) (i:=(24:Int).toNat) (j:=0) m0 d rfl)) fun a w hf hc=>sp 2 hf rfl fun a hf=>zW hf hc cY u2 rfl fun w hc=>aP ?_
    exact au _ _ (hf.kp rfl) hc
   ·refine bR ?_
    refine sp 2 hf rfl fun a hf=>?_
    obtain ⟨Z,d⟩:=cC hc m0 (show aZ ([pq t,.pointer (some ⟨g,(1:Int).toNat * 3 + 0,none⟩),.pointer (some ⟨g,(0:Int).toNat * 3 + 1,none⟩),.pointer (some ⟨g,(0:Int).toNat * 3 + 2,none⟩),pq af,pq X,.pointer (some ⟨X,1,none⟩),.pointer (some ⟨q,(0:Int).toNat * 2 + 0,none⟩),.pointer (some ⟨q,(1:Int).toNat * 2 + 1,none⟩),.pointer (some ⟨y,1,none⟩),pq aj,pq U,.pointer (some ⟨U,1,none⟩),.pointer (some ⟨Y,(0:Int).toNat * 5 + 0 + 0,none⟩),.pointer (some ⟨Y,(1:Int).toNat * 5 + 2 + 1,none⟩),.pointer (some ⟨O,(0:Int).toNat * 2 + 0,none⟩),.pointer (some ⟨O,(1:Int).toNat * 2 + 1,none⟩),pq ag,pq R,.pointer (some ⟨R,1,none⟩),.pointer (some ⟨ak,(0:Int).toNat * 1,none⟩),.pointer (some ⟨aa,(1:Int).toNat * 1,none⟩),.pointer (some ⟨ab,(2:Int).toNat * 1,none⟩),pq ad,pq V,.pointer (some ⟨V,1,none⟩)]:List Value) 25=some (.pointer (some ⟨V,1,none⟩)) from rfl)
    refine zP hf rfl (pIA Tryz.underlying51 lM rfl rfl Z) fun a hf=>zE hf hc rfl (bP lJ rfl (bX (sz:=1) (i:=(25:Int).toNat) (j:=0) m0 d rfl)) fun a w hf hc=>sp 2 hf rfl fun a hf=>zW hf hc cY u2 rfl fun w hc=>aP ?_
    exact au _ _ (hf.kp rfl) hc
  ·refine wp_exit ?_
   refine bE ?_
   refine bE ?_
   have he:=sj hF
   rw [← he] at d8
   refine eX ?_
   exact o8 _ _ _ d8 ⟨hf.kp rfl,hc⟩
 ·refine wp_exit ?_
  refine bE ?_
  refine bE ?_
  have he:=sj hF
  rw [← he] at d2
  refine eX ?_
  exact ri _ _ _ d2 ⟨hf.kp rfl,hc⟩

end Go.Nilo
