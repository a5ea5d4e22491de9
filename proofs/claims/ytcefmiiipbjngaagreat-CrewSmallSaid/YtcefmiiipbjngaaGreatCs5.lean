/-
  What functions of the Go text compute, as plain functions, and that they do, part 5 of 5. Conditions: what each theorem names.
-/
import Derived.Test.YtcefmiiipbjngaaGreatCs4
import Derived.Test.YtcefmiiipbjngaaGreatProg
set_option linter.unusedVariables false
set_option linter.unusedSimpArgs false
set_option maxRecDepth 100000
set_option maxHeartbeats 4000000
namespace Go.Nilo
open Go.Proofs


variable {N:Nat} {G:cJ} {Lf:List Ent} {w:World}

def tK (N:Nat) (D:List Int) (B:Int):Option (bC ((List Int) × Int) (Bool)) :=
 cond (decide (B < (((List.replicate (367:Int).toNat (0:Int)).length:Nat):Int)))
 (Option.bind (aQ D B) λH=>
 some (.cont ((D.set B.toNat 1440),W (B + 1))))
 (some (.brk (D,B)))
def pI (N:Nat) (B:Int) (D:List aC) (J:List (List Int)) (I:List aD) (M:List aG):Option (bC ((List aG) × Int × (List (List Int)) × (List aD) × (List aC)) (bC (Int) (Bool))) :=
 Option.bind (iJ N 0 1000) λH=>
 Option.bind (room ((D++[(⟨W (100000 - B),100000,H⟩:aC)])).length) λO=>
 some (.cont (M,W (B + 1),J,I,(D++[(⟨W (100000 - B),100000,H⟩:aC)])))
def pG (N:Nat) (l:List aG) (B:Int) (D:List aC) (I:List (List Int)) (H:List aD):Option (bC ((List aG) × Int × (List (List Int)) × (List aD) × (List aC)) (bC (Int) (Bool))) :=
 cond (decide (B < 25))
 (Option.bind (iJ N 0 100000) λJ=>
 Option.bind (room ((l++[(⟨(⟨0,0⟩:aE),J,0,100000⟩:aG)])).length) λM=>
 pI N B D I H (l++[(⟨(⟨0,0⟩:aE),J,0,100000⟩:aG)]))
 (pI N B D I H l)
def tI (N:Nat) (J:Int) (l:List aG) (B:Int) (H:List (List Int)) (D:List aD) (I:List aC):Option (bC ((List aG) × Int × (List (List Int)) × (List aD) × (List aC)) (bC (Int) (Bool))) :=
 cond (decide (B < J))
 (cond (decide (B < 15))
 (Option.bind (room ((H++[([0]:List Int)])).length) λM=>
 Option.bind (room ((D++[(⟨W (1 + (B.tmod 12)),([]:List Int)⟩:aD)])).length) λO=>
 pG N l B I (H++[([0]:List Int)]) (D++[(⟨W (1 + (B.tmod 12)),([]:List Int)⟩:aD)]))
 (pG N l B I H D))
 (some (.brk (l,B,H,D,I)))
def jJ (N:Nat) (D:Int):Option (bC (Int) (Bool)) :=
 cond (decide (D < 35))
 (Option.bind (aS (λB=>tI N D B.1 B.2.1 B.2.2.1 B.2.2.2.1 B.2.2.2.2) N (([]:List aG),0,([]:List (List Int)),([]:List aD),([]:List aC))) λS=>
 exK S (λB=>Option.bind (inM (min D 15)) λV=>
 Option.bind (inM (W (4 * D))) λU=>
 Option.bind (lT N (⟨B.2.2.1,B.2.2.2.1⟩:aB) (List.replicate (min D 15).toNat (0:Int)) (List.replicate (W (4 * D)).toNat (⟨0,0⟩:aA))) λH=>
 Option.bind (cond (!(!H)) (inM (W (11 * D))) (some ())) λX=>
 Option.bind (cond (!(!H)) (mW N 0 B.1 (⟨10000,0,1000⟩:dN) (List.replicate (W (11 * D)).toNat (0:Int))) (some false)) λI=>
 Option.bind (cond (!((!H) || (!I))) (mY N (⟨1000,1000,10000,10000000,B.2.2.2.2⟩:aJ) 200000) (some false)) λJ=>
 cond (((!H) || (!I)) || (!J))
 (some (.ret false))
 (Option.bind (nK N (⟨B.2.2.1,B.2.2.2.1⟩:aB)) λO=>
 Option.bind (cond ((O == 0) != ((decide (0 < D)) && (decide (D < 13)))) (some true) (Option.bind (fF N (⟨1000,1000,10000,10000000,B.2.2.2.2⟩:aJ)) λR=>
 some ((R == 0) != (decide (D < 31))))) λM=>
 cond M
 (some (.ret false))
 (some (.cont (W (D + 1)))))) some)
 (some (.brk D))
def mO (N:Nat) (D:Int) (B:Int) (H:List aC):Option (bC (Int × (List aC)) (bC (Int) (Bool))) :=
 cond (decide (B < (D.tmod 4)))
 (Option.bind (nz (W (B + 2))) λU=>
 Option.bind (nz (W (B + 3))) λS=>
 Option.bind (nz (W (B + 4))) λM=>
 Option.bind (nz (W (B + 4))) λJ=>
 Option.bind (nz (W (B + 5))) λR=>
 Option.bind (iJ N ((W (D.tdiv (W (B + 4)))).tmod 3) (W (((W (D.tdiv (W (B + 4)))).tmod 3) + ((W (D.tdiv (W (B + 5)))).tmod 3)))) λI=>
 Option.bind (room ((H++[(⟨(W (D.tdiv (W (B + 2)))).tmod 5,W (1 + ((W (D.tdiv (W (B + 3)))).tmod 4)),I⟩:aC)])).length) λO=>
 some (.cont (W (B + 1),(H++[(⟨(W (D.tdiv (W (B + 2)))).tmod 5,W (1 + ((W (D.tdiv (W (B + 3)))).tmod 4)),I⟩:aC)]))))
 (some (.brk (B,H)))
def kE (N:Nat) (B:Int):Option (bC (Int) (Bool)) :=
 cond (decide (B < 4000))
 (Option.bind (aQ ([([]:List Int),([0]:List Int),([1]:List Int),([2]:List Int),([0,1]:List Int),([1,0]:List Int),([2,0]:List Int),([0,2,1]:List Int),([2,1,0]:List Int),([1,2,0]:List Int)]:List (List Int)) (B.tmod 10)) λY=>
 Option.bind (aQ ([([]:List Int),([0]:List Int),([1]:List Int),([2]:List Int),([0,1]:List Int),([1,0]:List Int),([2,0]:List Int),([0,2,1]:List Int),([2,1,0]:List Int),([1,2,0]:List Int)]:List (List Int)) ((W (B.tdiv 3)).tmod 10)) λX=>
 Option.bind (aQ ([([]:List Int),([0]:List Int),([1]:List Int),([2]:List Int),([0,1]:List Int),([1,0]:List Int),([2,0]:List Int),([0,2,1]:List Int),([2,1,0]:List Int),([1,2,0]:List Int)]:List (List Int)) ((W (B.tdiv 7)).tmod 10)) λk=>
 Option.bind (aQ ([([]:List Int),([0]:List Int),([1]:List Int),([2]:List Int),([0,1]:List Int),([1,0]:List Int),([2,0]:List Int),([0,2,1]:List Int),([2,1,0]:List Int),([1,2,0]:List Int)]:List (List Int)) ((W (B.tdiv 11)).tmod 10)) λi=>
 Option.bind (aQ ([([]:List Int),([0]:List Int),([1]:List Int),([2]:List Int),([0,1]:List Int),([1,0]:List Int),([2,0]:List Int),([0,2,1]:List Int),([2,1,0]:List Int),([1,2,0]:List Int)]:List (List Int)) ((W (B.tdiv 13)).tmod 10)) λj=>
 Option.bind (aQ ([([]:List Int),([0]:List Int),([1]:List Int),([2]:List Int),([0,1]:List Int),([1,0]:List Int),([2,0]:List Int),([0,2,1]:List Int),([2,1,0]:List Int),([1,2,0]:List Int)]:List (List Int)) ((W (B.tdiv 17)).tmod 10)) λb=>
 Option.bind (yE ([(⟨B.tmod 3,(W (B.tdiv 3)).tmod 3⟩:aA),(⟨(W (B.tdiv 9)).tmod 3,(W (B.tdiv 5)).tmod 3⟩:aA),(⟨(W (B.tdiv 2)).tmod 3,(W (B.tdiv 7)).tmod 3⟩:aA)]:List aA) 0 (B.tmod 4)) λH=>
 Option.bind (lT N (⟨([Y,X,k]:List (List Int)),([(⟨W (1 + (B.tmod 2)),i⟩:aD),(⟨1,j⟩:aD),(⟨W (1 + ((W (B.tdiv 2)).tmod 2)),b⟩:aD)]:List aD)⟩:aB) ([W ((B.tmod 4) - 1),W (((W (B.tdiv 4)).tmod 4) - 1),W (((W (B.tdiv 16)).tmod 4) - 1)]:List Int) H) λU=>
 cond (!U)
 (some (.ret false))
 (Option.bind (iJ N (B.tmod 4) (W ((B.tmod 4) + ((W (B.tdiv 3)).tmod 3)))) λO=>
 Option.bind (iJ N ((W (B.tdiv 5)).tmod 3) (W (((W (B.tdiv 5)).tmod 3) + ((W (B.tdiv 7)).tmod 2)))) λJ=>
 Option.bind (iJ N 1 (W (1 + ((W (B.tdiv 9)).tmod 3)))) λS=>
 Option.bind (yE ([(⟨O,J,B.tmod 6,W ((B.tmod 6) + ((W (B.tdiv 4)).tmod 4))⟩:aG),(⟨S,(⟨0,0⟩:aE),(W (B.tdiv 2)).tmod 9,W (((W (B.tdiv 2)).tmod 9) + ((W (B.tdiv 6)).tmod 5))⟩:aG)]:List aG) 0 (W (1 + (B.tmod 2)))) λI=>
 Option.bind (aS (λD=>mO N B D.1 D.2) N (0,([]:List aC))) λg=>
 exK g (λD=>Option.bind (mW N (B.tmod 5) I (⟨B,B.tmod 60,W (B.tdiv 4)⟩:dN) ([B.tmod 100,(W (B.tdiv 9)).tmod 90]:List Int)) λM=>
 Option.bind (cond (!M) (some true) (Option.bind (mY N (⟨B.tmod 3,4,100,W (2 + ((W (B.tdiv 3)).tmod 9)),D.2⟩:aJ) (B.tmod 9)) λR=>
 some (!R))) λV=>
 cond V
 (some (.ret false))
 (some (.cont (W (B + 1))))) some))
 (some (.brk B))
def jI (N:Nat) (D:Int) (B:Int):Option (bC (Int) (bC (Int) (Bool))) :=
 cond (decide (B < 27))
 (Option.bind (yI N) λJ=>
 Option.bind (wI N 70) λI=>
 Option.bind (uE N) λH=>
 Option.bind (aQ J.People 0) λj=>
 Option.bind (aQ j 1) λy=>
 Option.bind (aQ J.People 1) λb=>
 Option.bind (aQ b 0) λac=>
 Option.bind (aQ J.Stations 0) λk=>
 Option.bind (aQ J.Stations 1) λX=>
 Option.bind (aQ X.Order 0) λad=>
 Option.bind (aQ ([0,1]:List Int) 0) λaa=>
 Option.bind (aQ ([0,1]:List Int) 1) λz=>
 Option.bind (aQ ([(⟨0,0⟩:aA),(⟨1,1⟩:aA)]:List aA) 0) λq=>
 Option.bind (aQ ([(⟨0,0⟩:aA),(⟨1,1⟩:aA)]:List aA) 1) λn=>
 Option.bind (aQ I 0) λR=>
 Option.bind (aQ I 0) λO=>
 Option.bind (aQ I 1) λM=>
 Option.bind (aQ I 0) λS=>
 Option.bind (aQ I 1) λU=>
 Option.bind (aQ ([481,90]:List Int) 0) λab=>
 Option.bind (aQ H.Rides 0) λi=>
 Option.bind (aQ H.Rides 0) λg=>
 Option.bind (aQ H.Rides 1) λY=>
 Option.bind (aQ H.Rides 1) λV=>
 Option.bind (inR B 27) λx=>
 Option.bind (cond (decide (B < 8)) (Option.bind (lT N (⟨(stI (B == 1) (stI (B == 0) J.People (0:Int).toNat (j.set (1:Int).toNat D)) (1:Int).toNat (b.set (0:Int).toNat D)),(stI (B == 3) (stI (B == 2) J.Stations (0:Int).toNat (⟨D,k.Order⟩:aD)) (1:Int).toNat (⟨X.Places,(X.Order.set (0:Int).toNat D)⟩:aD))⟩:aB) (stI (B == 5) (stI (B == 4) ([0,1]:List Int) (0:Int).toNat D) (1:Int).toNat D) (stI (B == 7) (stI (B == 6) ([(⟨0,0⟩:aA),(⟨1,1⟩:aA)]:List aA) (0:Int).toNat (⟨D,q.Station⟩:aA)) (1:Int).toNat (⟨n.Person,D⟩:aA))) λp=>
 some (!p)) (some false)) λu=>
 Option.bind (cond u (some true) (Option.bind (cond ((decide (7 < B)) && (decide (B < 18))) (Option.bind (mW N (cond (B == 8) D 0) (stI (B == 13) (stI (B == 12) (stI (B == 11) (stI (B == 10) (stI (B == 9) I (0:Int).toNat (⟨(⟨R.Way.Lo,D⟩:aE),R.Work,R.Open,R.Close⟩:aG)) (0:Int).toNat (⟨O.Way,(⟨D,O.Work.Hi⟩:aE),O.Open,O.Close⟩:aG)) (1:Int).toNat (⟨(⟨D,M.Way.Hi⟩:aE),M.Work,M.Open,M.Close⟩:aG)) (0:Int).toNat (⟨S.Way,S.Work,D,S.Close⟩:aG)) (1:Int).toNat (⟨U.Way,U.Work,U.Open,D⟩:aG)) (⟨(cond (B == 14) D 600),(cond (B == 15) D 480),(cond (B == 16) D 500)⟩:dN) (stI (B == 17) ([481,90]:List Int) (0:Int).toNat D)) λo=>
 some (!o)) (some false)) λs=>
 some s)) λt=>
 Option.bind (cond t (some true) (Option.bind (cond (decide (17 < B)) (Option.bind (mY N (⟨(cond (B == 18) D H.Car),(cond (B == 19) D H.Wide),(cond (B == 20) D H.Sag),(cond (B == 21) D H.Most),(stI (B == 25) (stI (B == 24) (stI (B == 23) (stI (B == 22) H.Rides (0:Int).toNat (⟨D,i.Long,i.Weight⟩:aC)) (0:Int).toNat (⟨g.From,D,g.Weight⟩:aC)) (1:Int).toNat (⟨Y.From,Y.Long,(⟨D,Y.Weight.Hi⟩:aE)⟩:aC)) (1:Int).toNat (⟨V.From,V.Long,(⟨V.Weight.Lo,D⟩:aE)⟩:aC))⟩:aJ) (cond (B == 26) D 5)) λm=>
 some (!m)) (some false)) λr=>
 some r)) λv=>
 cond v
 (some (.ret (.ret false)))
 (some (.cont (W (B + 1)))))
 (some (.brk B))
def kS (N:Nat) (x:Int):Option (bC (Int) (Bool)) :=
 cond (decide (x < (45:Int)))
 (Option.bind (aQ ([(-2),(-1),0,1,2,5,9,10,11,12,13,25,30,35,40,50,60,70,80,90,100,160,180,250,480,481,600,999,1000,1001,1440,1441,3000,9999,10000,10001,99999,100000,100001,200000,200001,10000000,10000001,9223372036854775807,(-9223372036854775808)]:List Int) x) λD=>
 Option.bind (aS (λB=>jI N D B) N 0) λH=>
 exK H (λB=>some (.cont (W (x + 1)))) some)
 (some (.brk x))
def xJ (N:Nat)  : Option (Bool) :=
 Option.bind (aS (λs4=>kS N s4) N 0) λx4=>
 exK x4 (λs4=>Option.bind (aS (λs8=>kE N s8) N 0) λx8=>
 exK x8 (λs8=>Option.bind (aS (λD=>jJ N D) N 0) λH=>
 exK H (λD=>Option.bind (inM 367) λun=>
 Option.bind (aS (λB=>tK N B.1 B.2) N ((List.replicate (367:Int).toNat (0:Int)),0)) λI=>
 exK I (λB=>Option.bind (yE B.1 0 366) λsub=>
 Option.bind (kI N (⟨10000,0,1000⟩:dN) sub) λr=>
 Option.bind (kI N (⟨0,0,0⟩:dN) B.1) λO=>
 Option.bind (cond (((r.2 == 0) && (O.2 == 3)) && (r.1 == 175680000)) (Option.bind (gC N) λM=>
 some M) (some false)) λJ=>
 some J) some) some) some) some
theorem aDo (d:Ctx G (Lf) w) {gu:Bool} (F:xJ N=some gu):Cz G 3 #[] w (.bool gu) (Lf):=by
 refine bY Tryz.func3 Z Tryz.ntmps3 Z λa f=>zS λK h=>sp 1 f Z λa f=>zT h (wp_seq_k λK2 h2=>zS λK h=>gN (rows:=([(-2),(-1),0,1,2,5,9,10,11,12,13,25,30,35,40,50,60,70,80,90,100,160,180,250,480,481,600,999,1000,1001,1440,1441,3000,9999,10000,10001,99999,100000,100001,200000,200001,10000000,10000001,9223372036854775807,(-9223372036854775808)]:List Int).map aF) (vs:=[(0,i6 (-2)),(1,i6 (-1)),(2,i6 0),(3,i6 1),(4,i6 2),(5,i6 5),(6,i6 9),(7,i6 10),(8,i6 11),(9,i6 12),(10,i6 13),(11,i6 25),(12,i6 30),(13,i6 35),(14,i6 40),(15,i6 50),(16,i6 60),(17,i6 70),(18,i6 80),(19,i6 90),(20,i6 100),(21,i6 160),(22,i6 180),(23,i6 250),(24,i6 480),(25,i6 481),(26,i6 600),(27,i6 999),(28,i6 1000),(29,i6 1001),(30,i6 1440),(31,i6 1441),(32,i6 3000),(33,i6 9999),(34,i6 10000),(35,i6 10001),(36,i6 99999),(37,i6 100000),(38,i6 100001),(39,i6 200000),(40,i6 200001),(41,i6 10000000),(42,i6 10000001),(43,i6 9223372036854775807),(44,i6 (-9223372036854775808))]) f d Z Z eV Z ⟨Z,Z,Z,Z,Z,Z,Z,Z,Z,Z,Z,Z,Z,Z,Z,Z,Z,Z,Z,Z,Z,Z,Z,Z,Z,Z,Z,Z,Z,Z,Z,Z,Z,Z,Z,Z,Z,Z,Z,Z,Z,Z,Z,Z,Z,Z,Z,Z,Z,Z,Z,Z,Z,Z,Z,Z,Z,Z,Z,Z,Z,Z,Z,Z,Z,Z,Z,Z,Z,Z,Z,Z,Z,Z,Z,Z,Z,Z,Z,Z,Z,Z,Z,Z,Z,Z,Z,Z,Z,Z,Z,Z,Z,Z,Z,Z,Z,Z,Z,Z,Z,Z,Z,Z,Z,Z,Z,Z,Z,Z,Z,Z,Z,Z,Z,Z,Z,Z,Z,Z,Z,Z,Z,Z,Z,Z,Z,Z,Z,Z,Z,Z,Z,Z,Z,trivial⟩ Z Z λbf a w f d=>zP f Z (bA Tryz.underlying22 Z) λa f=>sp 1 f Z λa f=>zT h (wp_block (aH F λx4 sd F=>?_)))
 let S4:Int→Act→World→Prop:=(λ(zz:Int) a w=>Has 515 a [(33,.slice (sa bf) 45 45),(34,i6 (45:Int)),(35,i6 zz)]∧Ctx G (.row (sa bf) 45 (([(-2),(-1),0,1,2,5,9,10,11,12,13,25,30,35,40,50,60,70,80,90,100,160,180,250,480,481,600,999,1000,1001,1440,1441,3000,9999,10000,10001,99999,100000,100001,200000,200001,10000000,10000001,9223372036854775807,(-9223372036854775808)]:List Int).map aF) 3 1::Lf) w)
 have s2:∀ (zz:Int) a w,x4=.go zz→S4 zz a w→K2 a w:=by
  rintro x a w rfl ⟨f,d⟩
  refine have F:=bI F;h2 _ _ (wp_seq_k λK5 h5=>bK (gN (rows:=([]:List Int).map aF) (vs:=[]) f d Z Z eV Z trivial Z Z λks a w f d=>gN (rows:=([0]:List Int).map aF) (vs:=[(0,i6 0)]) f d Z Z eV Z ⟨Z,Z,Z,trivial⟩ Z Z λma a w f d=>gN (rows:=([1]:List Int).map aF) (vs:=[(0,i6 1)]) f d Z Z eV Z ⟨Z,Z,Z,trivial⟩ Z Z λms a w f d=>gN (rows:=([2]:List Int).map aF) (vs:=[(0,i6 2)]) f d Z Z eV Z ⟨Z,Z,Z,trivial⟩ Z Z λj7 a w f d=>gN (rows:=([0,1]:List Int).map aF) (vs:=[(0,i6 0),(1,i6 1)]) f d Z Z eV Z ⟨Z,Z,Z,Z,Z,Z,trivial⟩ Z Z λmq a w f d=>gN (rows:=([1,0]:List Int).map aF) (vs:=[(0,i6 1),(1,i6 0)]) f d Z Z eV Z ⟨Z,Z,Z,Z,Z,Z,trivial⟩ Z Z λmi a w f d=>gN (rows:=([2,0]:List Int).map aF) (vs:=[(0,i6 2),(1,i6 0)]) f d Z Z eV Z ⟨Z,Z,Z,Z,Z,Z,trivial⟩ Z Z λkv a w f d=>gN (rows:=([0,2,1]:List Int).map aF) (vs:=[(0,i6 0),(1,i6 2),(2,i6 1)]) f d Z Z eV Z ⟨Z,Z,Z,Z,Z,Z,Z,Z,Z,trivial⟩ Z Z λkr a w f d=>gN (rows:=([2,1,0]:List Int).map aF) (vs:=[(0,i6 2),(1,i6 1),(2,i6 0)]) f d Z Z eV Z ⟨Z,Z,Z,Z,Z,Z,Z,Z,Z,trivial⟩ Z Z λi2 a w f d=>gN (rows:=([1,2,0]:List Int).map aF) (vs:=[(0,i6 1),(1,i6 2),(2,i6 0)]) f d Z Z eV Z ⟨Z,Z,Z,Z,Z,Z,Z,Z,Z,trivial⟩ Z Z λi5 a w f d=>?_))
  refine gN (rows:=([(((sa ks),0),([]:List Int)),(((sa ma),1),([0]:List Int)),(((sa ms),1),([1]:List Int)),(((sa j7),1),([2]:List Int)),(((sa mq),2),([0,1]:List Int)),(((sa mi),2),([1,0]:List Int)),(((sa kv),2),([2,0]:List Int)),(((sa kr),3),([0,2,1]:List Int)),(((sa i2),3),([2,1,0]:List Int)),(((sa i5),3),([1,2,0]:List Int))]:List (H2 × (List Int))).map (Kd.v aT)) (vs:=[(0,.slice (sa ks) 0 0),(1,.slice (sa ma) 1 1),(2,.slice (sa ms) 1 1),(3,.slice (sa j7) 1 1),(4,.slice (sa mq) 2 2),(5,.slice (sa mi) 2 2),(6,.slice (sa kv) 2 2),(7,.slice (sa kr) 3 3),(8,.slice (sa i2) 3 3),(9,.slice (sa i5) 3 3)]) f d Z Z aHx Z ⟨Z,Z,Z,Z,Z,Z,Z,Z,Z,Z,Z,Z,Z,Z,Z,Z,Z,Z,Z,Z,Z,Z,Z,Z,Z,Z,Z,Z,Z,Z,trivial⟩ Z Z λb0 a w f d=>sp 1 f Z λa f=>aN (have d:=((((((((((d.pick k1).pick k2).pick k3).pick k4).pick k5).pick k6).pick k7).pick k8).pick k9).pick k10).pick k10;?_)
  obtain ⟨ot,d⟩:=aMi (K:=aT) ([(((sa ks),0),([]:List Int)),(((sa ma),1),([0]:List Int)),(((sa ms),1),([1]:List Int)),(((sa j7),1),([2]:List Int)),(((sa mq),2),([0,1]:List Int)),(((sa mi),2),([1,0]:List Int)),(((sa kv),2),([2,0]:List Int)),(((sa kr),3),([0,2,1]:List Int)),(((sa i2),3),([2,1,0]:List Int)),(((sa i5),3),([1,2,0]:List Int))]:List (H2 × (List Int))) d
  replace d:Ctx G (.row (sa b0) 10 ((aO ot ([([]:List Int),([0]:List Int),([1]:List Int),([2]:List Int),([0,1]:List Int),([1,0]:List Int),([2,0]:List Int),([0,2,1]:List Int),([2,1,0]:List Int),([1,2,0]:List Int)]:List (List Int))).map (Kd.v aT)) 22 1::bX aT (aO ot ([([]:List Int),([0]:List Int),([1]:List Int),([2]:List Int),([0,1]:List Int),([1,0]:List Int),([2,0]:List Int),([0,2,1]:List Int),([2,1,0]:List Int),([1,2,0]:List Int)]:List (List Int)))::.row (sa bf) 45 (([(-2),(-1),0,1,2,5,9,10,11,12,13,25,30,35,40,50,60,70,80,90,100,160,180,250,480,481,600,999,1000,1001,1440,1441,3000,9999,10000,10001,99999,100000,100001,200000,200001,10000000,10000001,9223372036854775807,(-9223372036854775808)]:List Int).map aF) 3 1::Lf) w:=d
  obtain ⟨G,c4,c7,d,-⟩:=lE pS d k0 k0
  refine h5 _ _ (wp_seq_k λK6 h6=>zS λK h=>sp 1 f Z λa f=>zT h (wp_block (aH F λx8 sn F=>?_)))
  let S8:Int→Act→World→Prop:=(λ(zz:Int) a w=>Has 515 a [(14,.slice (sa b0) 10 10),(181,i6 zz)]∧Ctx G (Lf) w)
  have si:∀ (zz:Int) a w,x8=.go zz→S8 zz a w→K6 a w:=by
   rintro D a w rfl ⟨f,d⟩
   refine have F:=bI F;h6 _ _ (wp_seq_k λK9 h9=>zS λK h=>sp 1 f Z λa f=>zT h (wp_block (aH F λkf o7 F=>?_)))
   let S11:Int→Act→World→Prop:=(λ(zz:Int) a w=>Has 515 a [(395,i6 zz)]∧Ctx G (Lf) w)
   have q5:∀ (zz:Int) a w,kf=.go zz→S11 zz a w→K9 a w:=by
    rintro s a w rfl ⟨f,d⟩
    refine have F:=bI F;h9 _ _ (zS λK h=>aH F λun s3 F=>aKk (m:=(List.replicate (367:Int).toNat (0:Int)).length) (rows:=(List.replicate (367:Int).toNat (0:Int)).map aF) f d Z Z eV Z Z (xC s3) Z Z (by simp [List.map_replicate,Value.cells]) (by simp) λp2 a w f d=>sp 1 f Z λa f=>zT h (wp_seq_k λK13 r8=>zS λK h=>sp 1 f Z λa f=>zP f Z (bA Tryz.underlying22 Z) λa f=>sp 1 f Z λa f=>zT h (wp_block ?_)))
    obtain ⟨kj,q7,F⟩:=cU F
    let S15:((List Int) × Int)→Act→World→Prop:=(λ(zz:(List Int) × Int) a w=>∃ (iz:Option Addr) (d2:Nat),Has 515 a [(27,.slice iz zz.1.length d2),(481,i6 (((List.replicate (367:Int).toNat (0:Int)).length:Nat):Int)),(482,i6 zz.2)]∧Ctx G (.row iz d2 (zz.1.map aF) 3 1::Lf) w)
    have rb:∀ (zz:(List Int) × Int) a w,kj=.go zz→S15 zz a w→K13 a w:=by
     rintro ⟨gi,jd⟩ a w rfl ⟨iz,d2,f,d⟩
     refine have F:=bI F;r8 _ _ (zS λK h=>zP f Z (bS (cells:=[i6 10000,i6 0,i6 1000]) aJe Z Z) λa f=>sp 1 f Z λa f=>have qc:=aBe d m0;aH F λsub mf F=>zP f Z (pSl Tryz.underlying22 cS Z Z qc Z Z mf) λa f=>aH F λr hr F=>zQ (v:=.tuple #[i6 r.1,i6 r.2]) f d (eN 13) Z (λw d=>by obtain ⟨G1,bu,ax,d,az⟩:=lend d k0;exact (yB (⟨10000,0,1000⟩:dN) sub (Rd.sub ax mf) d hr).mono λe w h=>⟨h.1,((az _ _ h.2).unpick k0)⟩) λa w f d=>sp 5 f Z λa f=>zT h (zS λK h=>zP f Z (bS (cells:=[i6 0,i6 0,i6 0]) aJe Z Z) λa f=>?_))
     refine sp 1 f Z λa f=>aH F λgs pf F=>zQ (v:=.tuple #[i6 gs.1,i6 gs.2]) f d (eN 13) Z (λw d=>by obtain ⟨G1,bu,ax,d,az⟩:=lend d k0;exact (yB (⟨0,0,0⟩:dN) gi ax d pf).mono λe w h=>⟨h.1,((az _ _ h.2).unpick k0)⟩) λa w f d=>sp 5 f Z λa f=>zT h (zS λK h=>sp 3 f Z λa f=>cV 3 (λa=>Has 515 a [(29,i6 r.1),(507,.bool ((r.2 == 0) && (gs.2 == 3)))]) d ?_ ?_)
     ·cases hb:(r.2 == 0) <;> (rw [hb] at f;exact sp 3 f Z λa f=>aN ⟨f.kp Z,d⟩)
     intro a w ⟨f,d⟩
     refine sp 1 f Z λa f=>cV 3 (λa=>Has 515 a [(511,.bool (((r.2 == 0) && (gs.2 == 3)) && (r.1 == 175680000)))]) d ?_ ?_
     ·cases hb:((r.2 == 0) && (gs.2 == 3)) <;> (rw [hb] at f;exact sp 3 f Z λa f=>aN ⟨f.kp Z,d⟩)
     intro a w ⟨f,d⟩
     refine sp 1 f Z λa f=>aH F λtb kq F=>cV 2 (λa=>Has 515 a [(514,.bool tb)]) d ?_ ?_
     ·cases hb:(((r.2 == 0) && (gs.2 == 3)) && (r.1 == 175680000))
      ·rw [hb] at f
       have F:=eG hb kq
       obtain rfl:=sj F
       exact sp 2 f Z λa f=>aN ⟨f.kp Z,d⟩
      ·rw [hb] at f
       refine have F:=cO hb kq;aH F λtu py F=>zQ (v:=.bool tu) f d (eN 14) Z (λw d=>jH d py) λa w f d=>sp 1 f Z λa f=>?_
       obtain rfl:=sj F
       exact aN ⟨f.kp Z,d⟩
     intro a w ⟨f,d⟩
     refine sp 1 f Z λa f=>zT h (wp_ret ?_)
     obtain rfl:=sj F
     exact have d:=d.down c4;have d:=d.drop k0;zO1 Tryz.results3 f Z ⟨Z,d⟩
    have xa:∀ r,kj=.out r→r=gu:=by
     rintro r rfl
     exact sj F
    refine cF N (cE (S:=S15) (x:=kj) ?_ N ((List.replicate (367:Int).toNat (0:Int)),0) _ _ ⟨(sa p2),(367:Int).toNat,f.kp Z,d⟩ q7)
    clear F f d
    rintro ⟨gi,jd⟩ xi a w KB15 ⟨iz,d2,f,d⟩ F gc o8
    refine zS λK h=>sp 1 f Z λa f=>zT h (wp_seq_k λK20 s5=>zI f Z F ?_ ?_) <;> intro F
    ·refine wp_skip (s5 _ _ (wp_seq_k λK21 sr=>wp_block (zS λK h=>sp 2 f Z λa f=>zT h (bK (sp 2 f Z λa f=>aH F λxp j8 F=>have iv:=f;?_)))))
     obtain ⟨g,rfl,qa,qr⟩:=gW d m0 j8
     exact have f:=iv;zP f Z (pIA Tryz.underlying22 cS Z Z qa) λa f=>wA (sz:=1) (vs:=[i6 1440]) (o':=0) (z:=1440) (xs:=gi) f d Z Z Z Z cS Z (λx=>(bQ x).1) (fX j8) (λ_ _=>Z) Z u0 λw d=>aN (sr _ _ (bK (sp 2 f Z λa f=>aN (have f:=f.castAt 27 (v':=.slice (sa g) ((gi.set jd.toNat 1440).length) d2) Z (congrArg (λk=>Value.slice (sa g) k d2) (by simp));o8 ((gi.set jd.toNat 1440),W (jd + 1)) _ _ (sj F).symm ⟨(sa g),d2,f.kp Z,d⟩))))
    ·exact wp_exit (aP (aP (have gc:=cB F gc;cX (rb _ _ _ gc ⟨iz,d2,f.kp Z,d⟩))))
   have mt:∀ r,kf=.out r→r=gu:=by
    rintro r rfl
    exact sj F
   refine cF N (cE (S:=S11) (x:=kf) ?_ N 0 _ _ ⟨f.kp Z,d⟩ o7)
   clear F f d
   rintro s qj a w KB11 ⟨f,d⟩ F b3 q4
   refine zS λK h=>sp 1 f Z λa f=>zT h (wp_seq_k λK24 tt=>zI f Z F ?_ ?_) <;> intro F
   ·refine wp_skip (tt _ _ (wp_seq_k λK25 uj=>wp_block (zS λK h=>sp 2 f Z λa f=>zT h (zS λK h=>zA f d aId Z λau a w f d=>zT h (zS λK h=>sp 1 f Z λa f=>zT h (zS λK h=>?_))))))
    refine zP f Z (bS (cells:=[i6 1000,i6 1000,i6 10000,i6 10000000,.slice none 0 0]) aPz Z Z) λa f=>zA f d aE9 Z λa1 a w f d=>zW f d aDj u0 Z λw d=>zT h (wp_seq_k λK30 rx=>zS λK h=>sp 2 f Z λa f=>zT h (wp_block (aH F λky ps F=>?_)))
    let S32:((List aG) × Int × (List (List Int)) × (List aD) × (List aC))→Act→World→Prop:=(λ(zz:(List aG) × Int × (List (List Int)) × (List aD) × (List aC)) a w=>∃ (b1:Option Addr) (b2:Nat) (cq:Option Addr) (ba:aAf) (cg:Option Addr) (ac:aAf) (bd:Option Addr) (bg:Nat),Has 515 a [(22,i6 s),(23,pq au),(24,.slice b1 zz.1.length b2),(25,pq a1),(395,i6 s),(399,i6 s),(400,i6 zz.2.1)]∧Ctx G (.row bd bg (zz.2.2.2.2.map aI) 47 4::.row cg ac.1 ((aO ac.2 zz.2.2.2.1).map (Kd.v bD)) 41 2::bX bD (aO ac.2 zz.2.2.2.1)::.row cq ba.1 ((aO ba.2 zz.2.2.1).map (Kd.v aT)) 22 1::bX aT (aO ba.2 zz.2.2.1)::.row b1 b2 (zz.1.map aX) 45 6::.box a1 [i6 1000,i6 1000,i6 10000,i6 10000000,.slice bd zz.2.2.2.2.length bg] 37::.box au [.slice cq zz.2.2.1.length ba.1,.slice cg zz.2.2.2.1.length ac.1] 26::Lf) w)
    have p8:∀ (zz:(List aG) × Int × (List (List Int)) × (List aD) × (List aC)) a w,ky=.go zz→S32 zz a w→K30 a w:=by
     rintro ⟨l,ab,a4,a2,a0⟩ a w rfl ⟨b1,b2,cq,ba,cg,ac,bd,bg,f,d⟩
     refine have F:=bI F;rx _ _ (wp_seq_k λK33 tp=>wp_seq_k λK34 ug=>aH F λxc n8 F=>aH F λvv ng F=>aH F λar qv F=>aH F λxn nm F=>aH F λbx pb F=>aH F λdr q8 F=>have d:=d.nilRow 0 0;have d:=d.nilRow 0 0;have d:=d.nilRow 0 0;jV (λθ=>[f0 22 (i6 s),f0 23 (pq au),f0 24 (.slice b1 l.length b2),f0 25 (pq a1),f0 395 (i6 s),f1 0 437 (.agg #[.slice cq a4.length ba.1,.slice cg a2.length ac.1]),f1 1 438 (i6 s),f1 2 439 (i6 (min s 15)),f1 3 440 (.slice (some ⟨(θ 24).b,0,none⟩) ((List.replicate (min s 15).toNat (0:Int)).length) ((min s 15).toNat)),f1 4 441 (i6 s),f1 5 442 (i6 (W (4 * s))),f1 6 443 (.slice (some ⟨(θ 48).b,0,none⟩) ((List.replicate (W (4 * s)).toNat (⟨0,0⟩:aA)).length) ((W (4 * s)).toNat)),f1 7 444 (.bool ar),f1 8 445 (.bool (!ar)),f1 9 446 (.bool (!ar)),⟨some 10,none,447,(bif (!ar) then undef else .slice b1 l.length b2)⟩,⟨some 11,none,448,(bif (!ar) then undef else .agg #[i6 10000,i6 0,i6 1000])⟩,⟨some 12,none,449,(bif (!ar) then undef else i6 s)⟩,⟨some 13,none,450,(bif (!ar) then undef else i6 (W (11 * s)))⟩,⟨some 14,none,451,(bif (!ar) then undef else .slice (some ⟨(θ 112).b,0,none⟩) ((List.replicate (W (11 * s)).toNat (0:Int)).length) ((W (11 * s)).toNat))⟩,⟨some 15,none,452,(bif (!ar) then undef else .bool bx)⟩,⟨some 16,none,453,(bif (!ar) then undef else .bool (!bx))⟩,f1 17 454 (.bool ((!ar) || (!bx))),f1 18 455 (.bool ((!ar) || (!bx))),⟨some 19,none,456,(bif ((!ar) || (!bx)) then undef else .agg #[i6 1000,i6 1000,i6 10000,i6 10000000,.slice bd a0.length bg])⟩,⟨some 20,none,457,(bif ((!ar) || (!bx)) then undef else .bool dr)⟩,⟨some 21,none,458,(bif ((!ar) || (!bx)) then undef else .bool (!dr))⟩,f1 22 459 (.bool (((!ar) || (!bx)) || (!dr)))]) (λE θ=>(bif E 14 then (gE (!(!ar)) (.row (some ⟨(θ 112).b,0,none⟩) ((W (11 * s)).toNat) ((List.replicate (W (11 * s)).toNat (0:Int)).map aF) 3 1)) else .row none 0 [] 0 0)::(bif E 6 then .row (some ⟨(θ 48).b,0,none⟩) ((W (4 * s)).toNat) ((List.replicate (W (4 * s)).toNat (⟨0,0⟩:aA)).map aM) 29 2 else .row none 0 [] 0 0)::(bif E 3 then .row (some ⟨(θ 24).b,0,none⟩) ((min s 15).toNat) ((List.replicate (min s 15).toNat (0:Int)).map aF) 3 1 else .row none 0 [] 0 0)::.row bd bg (a0.map aI) 47 4::.row cg ac.1 ((aO ac.2 a2).map (Kd.v bD)) 41 2::bX bD (aO ac.2 a2)::.row cq ba.1 ((aO ba.2 a4).map (Kd.v aT)) 22 1::bX aT (aO ba.2 a4)::.row b1 b2 (l.map aX) 45 6::.box a1 [i6 1000,i6 1000,i6 10000,i6 10000000,.slice bd a0.length bg] 37::.box au [.slice cq a4.length ba.1,.slice cg a2.length ac.1] 26::Lf) [] (λa w=>∃ (mv:Nat) (mc:Nat),Has 515 a [(22,i6 s),(23,pq au),(25,pq a1),(395,i6 s),(459,.bool (((!ar) || (!bx)) || (!dr)))]∧Ctx G (.row (sa mv) ((W (4 * s)).toNat) ((List.replicate (W (4 * s)).toNat (⟨0,0⟩:aA)).map aM) 29 2::.row (sa mc) ((min s 15).toNat) ((List.replicate (min s 15).toNat (0:Int)).map aF) 3 1::.row bd bg (a0.map aI) 47 4::.row cg ac.1 ((aO ac.2 a2).map (Kd.v bD)) 41 2::bX bD (aO ac.2 a2)::.row cq ba.1 ((aO ba.2 a4).map (Kd.v aT)) 22 1::bX aT (aO ba.2 a4)::.row b1 b2 (l.map aX) 45 6::.box a1 [i6 1000,i6 1000,i6 10000,i6 10000000,.slice bd a0.length bg] 37::.box au [.slice cq a4.length ba.1,.slice cg a2.length ac.1] 26::Lf) w) aU (by kernel_rfl) (by kernel_rfl) (iW.of f ⟨Z,Z,Z,Z,Z,trivial,trivial,trivial,trivial,trivial,trivial,trivial,trivial,trivial,trivial,trivial,trivial,trivial,trivial,trivial,trivial,trivial,trivial,trivial,trivial,trivial,trivial,trivial,trivial⟩) d ⟨?_,?_,?_,?_,?_,?_,?_,?_,?_,?_,?_,?_,?_,?_,?_,?_,?_,?_,?_,?_,?_,?_,?_,trivial⟩ ?_ ?_)
     ·exact λE θ a w hD hi hp he d=>have f:=he.h0.mT he 1 Z;zN f d qC m10 Z λa w f d=>zD θ he hi f 5 Z Z Z d
     ·exact λE θ a w hD hi hp he d=>have f:=he.h0.mT he 0 Z;sp 1 f Z λa f=>zD θ he hi f 6 Z Z Z d
     ·exact λE θ a w hD hi hp he d=>have e1:=hp.o 1 Z;have f:=he.h0.mP he 6 Z e1;zP f Z (aSj Z Z) λa f=>zD θ he hi f 7 Z Z Z d
     ·refine λE θ a w hD hi hp he d=>have e2:=hp.o 2 Z;?_
      try dsimp only at d
      rw [hi] at d
      refine have f:=he.h0.mP he 7 Z e2;aKk (m:=(List.replicate (min s 15).toNat (0:Int)).length) (rows:=(List.replicate (min s 15).toNat (0:Int)).map aF) f d Z Z eV Z Z (xC n8) Z Z (by simp [List.map_replicate,Value.cells]) (by simp) λpr a w f d=>aN (eS (λds u a3=>have d:=(((d.drop k3).pick k0).pick k2).pick k2;?_))
      refine ⟨(qR θ 24 ⟨pr,none,0,(λ_=>(none,0))⟩),he.put hi a3 f Z [] trivial ⟨qq,qq,qq,qq,qq,qq,qq,qq,qq,qq,qq,qq,qq,qq,qq,qq,qq,qq,qq,qq,qq,qq,qq,qq,qq,qq,qq,qq,trivial⟩,?_⟩
      try dsimp only
      rw [bE E 3]
      exact d
     ·exact λE θ a w hD hi hp he d=>have f:=he.h0.mT he 0 Z;sp 1 f Z λa f=>zD θ he hi f 9 Z Z Z d
     ·exact λE θ a w hD hi hp he d=>have e4:=hp.o 4 Z;have f:=he.h0.mP he 9 Z e4;sp 1 f Z λa f=>zD θ he hi f 10 Z Z Z d
     ·refine λE θ a w hD hi hp he d=>have e5:=hp.o 5 Z;?_
      try dsimp only at d
      rw [hi] at d
      refine have f:=he.h0.mP he 10 Z e5;aKk (m:=(List.replicate (W (4 * s)).toNat (⟨0,0⟩:aA)).length) (rows:=(List.replicate (W (4 * s)).toNat (⟨0,0⟩:aA)).map aM) f d Z Z aHi Z Z (xC ng) Z Z (by simp [List.map_replicate,Value.cells]) (by simp) λrp a w f d=>aN (eS (λds u a3=>have d:=((d.drop k2).pick k0).pick k1;?_))
      refine ⟨(qR θ 48 ⟨rp,none,0,(λ_=>(none,0))⟩),he.put hi a3 f Z [] trivial ⟨qq,qq,qq,qq,qq,qq,qq,qq,qq,qq,qq,qq,qq,qq,qq,qq,qq,qq,qq,qq,qq,qq,qq,qq,qq,qq,qq,qq,trivial⟩,?_⟩
      try dsimp only
      rw [bE E 6]
      exact d
     ·refine λE θ a w hD hi hp he d=>have e0:=hp.o 0 Z;have e3:=hp.o 3 Z;have e6:=hp.o 6 Z;?_
      try dsimp only at d
      rw [e6,e3] at d
      refine have f:=((he.h0.mP he 5 Z e0).mP he 8 Z e3).mP he 11 Z e6;zQ (v:=.bool ar) f d (eN 7) Z (λw d=>by obtain ⟨G1,bu,ax,d,az⟩:=lE pS d k6 k6;obtain ⟨G2,b5,cf,d,cj⟩:=lE wH d k4 k4;obtain ⟨G3,gp,i8,d,ja⟩:=lend d k2;obtain ⟨G4,dj,i9,d,i3⟩:=lend d k1;exact (sO (⟨a4,a2⟩:aB) (List.replicate (min s 15).toNat (0:Int)) (List.replicate (W (4 * s)).toNat (⟨0,0⟩:aA)) (((ax.mono b5).mono gp).mono dj) ((cf.mono gp).mono dj) (i8.mono dj) i9 d qv).mono λe w h=>⟨h.1,(gV (az _ _ (gV (cj _ _ ((ja _ _ ((i3 _ _ h.2).unpick k1)).unpick k2)) k4 k4)) k6 k6)⟩) λa w f d=>zD θ he hi f 12 Z Z Z ?_
      try dsimp only
      rw [eD 7 e6,eD 7 e3]
      exact d
     ·exact λE θ a w hD hi hp he d=>have e7:=hp.o 7 Z;have f:=he.h0.mP he 12 Z e7;sp 1 f Z λa f=>zD θ he hi f 13 Z Z Z d
     ·exact λE θ a w hD hi hp he d=>have e8:=hp.o 8 Z;have f:=he.h0.mP he 13 Z e8;sp 1 f Z λa f=>zD θ he hi f 14 Z Z Z d
     ·refine λE θ a w hD hi hp he d=>have e9:=hp.o 9 Z;?_
      rcases cH (!ar) with hb | hb
      ·exact have f:=(he.h0.mT he 2 Z).mP he 14 Z e9;have f:=bH hb f;sp 1 f Z λa f=>have f:=eP (u:=.slice b1 l.length b2) hb f;zD θ he hi f 15 Z Z Z d
      ·exact have f:=(he.h0.mT he 2 Z).mP he 14 Z e9;have f:=bH hb f;sp 1 f Z λa f=>have f:=eQ (u:=undef) hb f;zD θ he hi f 15 Z Z Z d
     ·refine λE θ a w hD hi hp he d=>have e9:=hp.o 9 Z;?_
      rcases cH (!ar) with hb | hb
      ·exact have f:=he.h0.mP he 14 Z e9;have f:=bH hb f;sp 1 f Z λa f=>have f:=eP (u:=.agg #[i6 10000,i6 0,i6 1000]) hb f;zD θ he hi f 16 Z Z Z d
      ·exact have f:=he.h0.mP he 14 Z e9;have f:=bH hb f;zP f Z (bS (cells:=[i6 10000,i6 0,i6 1000]) aJe Z Z) λa f=>have f:=eQ (u:=undef) hb f;zD θ he hi f 16 Z Z Z d
     ·refine λE θ a w hD hi hp he d=>have e9:=hp.o 9 Z;?_
      rcases cH (!ar) with hb | hb
      ·exact have f:=(he.h0.mT he 0 Z).mP he 14 Z e9;have f:=bH hb f;sp 1 f Z λa f=>have f:=eP (u:=i6 s) hb f;zD θ he hi f 17 Z Z Z d
      ·exact have f:=(he.h0.mT he 0 Z).mP he 14 Z e9;have f:=bH hb f;sp 1 f Z λa f=>have f:=eQ (u:=undef) hb f;zD θ he hi f 17 Z Z Z d
     ·refine λE θ a w hD hi hp he d=>have e9:=hp.o 9 Z;have cy:=hp.o 12 Z;?_
      rcases cH (!ar) with hb | hb
      ·exact have f:=he.h0.mP he 14 Z e9;have f:=bH hb f;have f:=f.more he 17 Z (onP cy);have f:=dD hb f;sp 1 f Z λa f=>have f:=eP (u:=i6 (W (11 * s))) hb f;zD θ he hi f 18 Z Z Z d
      ·exact have f:=he.h0.mP he 14 Z e9;have f:=bH hb f;have f:=f.more he 17 Z (onP cy);have f:=dB hb f;sp 1 f Z λa f=>have f:=eQ (u:=undef) hb f;zD θ he hi f 18 Z Z Z d
     ·refine λE θ a w hD hi hp he d=>have e9:=hp.o 9 Z;have dc:=hp.o 13 Z;?_
      try dsimp only at d
      rw [hi] at d
      rcases cH (!ar) with hb | hb
      ·refine have f:=he.h0.mP he 14 Z e9;have f:=bH hb f;have f:=f.more he 18 Z (onP dc);have f:=dD hb f;sp 1 f Z λa f=>have f:=eP (u:=.slice (some ⟨(θ 112).b,0,none⟩) ((List.replicate (W (11 * s)).toNat (0:Int)).length) ((W (11 * s)).toNat)) hb f;zD θ he hi f 19 Z Z Z ?_
       try dsimp only
       rw [bE E 14]
       rw [aN6 (notF hb)]
       exact d
      ·refine have f:=he.h0.mP he 14 Z e9;have f:=bH hb f;have f:=f.more he 18 Z (onP dc);have f:=dB hb f;aKk (m:=(List.replicate (W (11 * s)).toNat (0:Int)).length) (rows:=(List.replicate (W (11 * s)).toNat (0:Int)).map aF) f d Z Z eV Z Z (xC (cO (aHt hb) nm)) Z Z (by simp [List.map_replicate,Value.cells]) (by simp) λpp a w f d=>have f:=eQ (u:=undef) hb f;aN (eS (λds u a3=>have d:=d.drop k1;?_))
       refine ⟨(qR θ 112 ⟨pp,none,0,(λ_=>(none,0))⟩),he.put hi a3 f Z [] trivial ⟨qq,qq,qq,qq,qq,qq,qq,qq,qq,qq,qq,qq,qq,qq,qq,qq,qq,qq,qq,qq,qq,qq,qq,qq,qq,qq,qq,qq,trivial⟩,?_⟩
       try dsimp only
       rw [bE E 14]
       rw [aOn (aHt hb)]
       exact d
     ·refine λE θ a w hD hi hp he d=>have e9:=hp.o 9 Z;have db:=hp.o 10 Z;have cn:=hp.o 11 Z;have bc:=hp.o 14 Z;?_
      try dsimp only at d
      rw [bc] at d
      rcases cH (!ar) with hb | hb
      ·refine have f:=he.h0.mP he 14 Z e9;have f:=bH hb f;have f:=f.more he 15 Z (onP db);have f:=dD hb f;have f:=f.more he 16 Z (onP cn);have f:=dD hb f;have f:=f.more he 19 Z (onP bc);have f:=dD hb f;?_
       rw [aN6 (notF hb)] at d
       refine sp 1 f Z λa f=>have f:=eP (u:=.bool bx) hb f;zD θ he hi f 20 Z Z Z ?_
       try dsimp only
       rw [eD 15 bc]
       rw [aN6 (notF hb)]
       exact d
      ·refine have f:=he.h0.mP he 14 Z e9;have f:=bH hb f;have f:=f.more he 15 Z (onP db);have f:=dB hb f;have f:=f.more he 16 Z (onP cn);have f:=dB hb f;have f:=f.more he 19 Z (onP bc);have f:=dB hb f;?_
       rw [aOn (aHt hb)] at d
       refine zQ (v:=.bool bx) f d (eN 8) Z (λw d=>by obtain ⟨G1,bu,ax,d,az⟩:=lend d k8;obtain ⟨G2,b5,cf,d,cj⟩:=lend d k0;exact (tE 0 l (⟨10000,0,1000⟩:dN) (List.replicate (W (11 * s)).toNat (0:Int)) (ax.mono b5) cf d (cO (aHt hb) pb)).mono λe w h=>⟨h.1,((az _ _ ((cj _ _ h.2).unpick k0)).unpick k8)⟩) λa w f d=>have f:=eQ (u:=undef) hb f;zD θ he hi f 20 Z Z Z ?_
       try dsimp only
       rw [eD 15 bc]
       rw [aOn (aHt hb)]
       exact d
     ·refine λE θ a w hD hi hp he d=>have e9:=hp.o 9 Z;have dg:=hp.o 15 Z;?_
      rcases cH (!ar) with hb | hb
      ·exact have f:=he.h0.mP he 14 Z e9;have f:=bH hb f;have f:=f.more he 20 Z (onP dg);have f:=dD hb f;sp 1 f Z λa f=>have f:=eP (u:=.bool (!bx)) hb f;zD θ he hi f 21 Z Z Z d
      ·exact have f:=he.h0.mP he 14 Z e9;have f:=bH hb f;have f:=f.more he 20 Z (onP dg);have f:=dB hb f;sp 1 f Z λa f=>have f:=eQ (u:=undef) hb f;zD θ he hi f 21 Z Z Z d
     ·refine λE θ a w hD hi hp he d=>have e9:=hp.o 9 Z;have bm:=hp.o 16 Z;?_
      rcases cH (!ar) with hb | hb
      ·exact have f:=he.h0.mP he 14 Z e9;have f:=bH hb f;have f:=f.more he 21 Z (onP bm);have f:=dD hb f;sp 1 f Z λa f=>have f:=mQ (v':=.bool ((!ar) || (!bx))) (congrArg Value.bool (orT hb)) f;zD θ he hi f 22 Z Z Z d
      ·exact have f:=he.h0.mP he 14 Z e9;have f:=bH hb f;have f:=f.more he 21 Z (onP bm);have f:=dB hb f;sp 1 f Z λa f=>have f:=mQ (v':=.bool ((!ar) || (!bx))) (congrArg Value.bool (orF hb)) f;zD θ he hi f 22 Z Z Z d
     ·exact λE θ a w hD hi hp he d=>have dv:=hp.o 17 Z;have f:=he.h0.mP he 22 Z dv;sp 1 f Z λa f=>zD θ he hi f 23 Z Z Z d
     ·refine λE θ a w hD hi hp he d=>have b6:=hp.o 18 Z;?_
      rcases cH ((!ar) || (!bx)) with hb | hb
      ·exact have f:=(he.h0.mT he 3 Z).mP he 23 Z b6;have f:=bH hb f;sp 1 f Z λa f=>have f:=eP (u:=.agg #[i6 1000,i6 1000,i6 10000,i6 10000000,.slice bd a0.length bg]) hb f;zD θ he hi f 24 Z Z Z d
      ·exact have f:=(he.h0.mT he 3 Z).mP he 23 Z b6;have f:=bH hb f;zN f d lC m9 Z λa w f d=>have f:=eQ (u:=undef) hb f;zD θ he hi f 24 Z Z Z d
     ·refine λE θ a w hD hi hp he d=>have b6:=hp.o 18 Z;have d5:=hp.o 19 Z;?_
      rcases cH ((!ar) || (!bx)) with hb | hb
      ·exact have f:=he.h0.mP he 23 Z b6;have f:=bH hb f;have f:=f.more he 24 Z (onP d5);have f:=dD hb f;sp 1 f Z λa f=>have f:=eP (u:=.bool dr) hb f;zD θ he hi f 25 Z Z Z d
      ·exact have f:=he.h0.mP he 23 Z b6;have f:=bH hb f;have f:=f.more he 24 Z (onP d5);have f:=dB hb f;zQ (v:=.bool dr) f d (eN 9) Z (λw d=>by obtain ⟨G1,bu,ax,d,az⟩:=lend d k3;exact (tM (⟨1000,1000,10000,10000000,a0⟩:aJ) 200000 ax d (cO (aHt hb) q8)).mono λe w h=>⟨h.1,((az _ _ h.2).unpick k3)⟩) λa w f d=>have f:=eQ (u:=undef) hb f;zD θ he hi f 25 Z Z Z d
     ·refine λE θ a w hD hi hp he d=>have b6:=hp.o 18 Z;have d1:=hp.o 20 Z;?_
      rcases cH ((!ar) || (!bx)) with hb | hb
      ·exact have f:=he.h0.mP he 23 Z b6;have f:=bH hb f;have f:=f.more he 25 Z (onP d1);have f:=dD hb f;sp 1 f Z λa f=>have f:=eP (u:=.bool (!dr)) hb f;zD θ he hi f 26 Z Z Z d
      ·exact have f:=he.h0.mP he 23 Z b6;have f:=bH hb f;have f:=f.more he 25 Z (onP d1);have f:=dB hb f;sp 1 f Z λa f=>have f:=eQ (u:=undef) hb f;zD θ he hi f 26 Z Z Z d
     ·refine λE θ a w hD hi hp he d=>have b6:=hp.o 18 Z;have d7:=hp.o 21 Z;?_
      rcases cH ((!ar) || (!bx)) with hb | hb
      ·exact have f:=he.h0.mP he 23 Z b6;have f:=bH hb f;have f:=f.more he 26 Z (onP d7);have f:=dD hb f;sp 1 f Z λa f=>have f:=mQ (v':=.bool (((!ar) || (!bx)) || (!dr))) (congrArg Value.bool (orT hb)) f;zD θ he hi f 27 Z Z Z d
      ·exact have f:=he.h0.mP he 23 Z b6;have f:=bH hb f;have f:=f.more he 26 Z (onP d7);have f:=dB hb f;sp 1 f Z λa f=>have f:=mQ (v':=.bool (((!ar) || (!bx)) || (!dr))) (congrArg Value.bool (orF hb)) f;zD θ he hi f 27 Z Z Z d
     ·refine λE θ a w ap he d=>have f:=he.h0;have e3:=ap 3 Z;have e6:=ap 6 Z;have bc:=ap 14 Z;have gg:=ap 22 Z;have f:=f.more he 27 Z (onP gg);have f:=f.more he 4 Z (onT);have f:=f.more he 3 Z (onT);have f:=f.more he 1 Z (onT);have f:=f.more he 0 Z (onT);?_
      try dsimp only at d
      rw [e3,e6,bc] at d
      exact have d:=d.drop k0;⟨(θ 48).b,(θ 24).b,f.kp Z,d⟩
     rintro a w ⟨mv,mc,f,d⟩
     refine have d:=((d.drop k7).drop k1).drop k0;ug _ _ (zI f Z F ?_ ?_) <;> intro F
     ·refine zS λK h=>sp 1 f Z λa f=>zT h (wp_ret (aL (bG (aL (aL (have b3:=cB F b3;have F:=mt _ b3;bG (aL ?_)))))))
      obtain rfl:=F
      exact have d:=d.down c4;have d:=((((((d.drop k6).drop k5).drop k4).drop k3).drop k2).drop k1).drop k0;zO1 Tryz.results3 f Z ⟨Z,d⟩
     ·refine wp_skip (tp _ _ (zS λK h=>zN f d qC m6 Z λa w f d=>aH F λj4 rc F=>zQ (v:=i6 j4) f d (eN 11) Z (λw d=>by obtain ⟨G1,bu,ax,d,az⟩:=lE pS d k3 k3;obtain ⟨G2,b5,cf,d,cj⟩:=lE wH d k1 k1;exact (aAl (⟨a4,a2⟩:aB) (ax.mono b5) cf d rc).mono λe w h=>⟨h.1,(gV (az _ _ (gV (cj _ _ h.2) k1 k1)) k3 k3)⟩) λa w f d=>sp 4 f Z λa f=>cV 3 (λa=>Has 515 a [(22,i6 s),(25,pq a1),(395,i6 s),(462,.bool (j4 == 0)),(468,.bool ((decide (0 < s)) && (decide (s < 13))))]) d ?_ ?_))
      ·cases hb:(decide (0 < s)) <;> (rw [hb] at f;exact sp 3 f Z λa f=>aN ⟨f.kp Z,d⟩)
      intro a w ⟨f,d⟩
      refine zP f Z (pNeB Tryz.underlying4 Z Z) λa f=>sp 1 f Z λa f=>aH F λtr kt F=>cV 7 (λa=>Has 515 a [(395,i6 s),(477,.bool tr)]) d ?_ ?_
      ·cases hb:((j4 == 0) != ((decide (0 < s)) && (decide (s < 13))))
       ·rw [hb] at f
        refine have F:=eG hb kt;zN f d lC m5 Z λa w f d=>aH F λs4 p6 F=>zQ (v:=i6 s4) f d (eN 12) Z (λw d=>by obtain ⟨G1,bu,ax,d,az⟩:=lend d k0;exact (nL (⟨1000,1000,10000,10000000,a0⟩:aJ) ax d p6).mono λe w h=>⟨h.1,((az _ _ h.2).unpick k0)⟩) λa w f d=>sp 3 f Z λa f=>zP f Z (pNeB Tryz.underlying4 Z Z) λa f=>sp 1 f Z λa f=>?_
        obtain rfl:=sj F
        exact aN ⟨f.kp Z,d⟩
       ·rw [hb] at f
        have F:=cO hb kt
        obtain rfl:=sj F
        exact sp 7 f Z λa f=>aN ⟨f.kp Z,d⟩
      intro a w ⟨f,d⟩
      refine zT h (zI f Z F ?_ ?_) <;> intro F
      ·refine zS λK h=>sp 1 f Z λa f=>zT h (wp_ret (bG (aL (aL (have b3:=cB F b3;have F:=mt _ b3;bG (aL ?_))))))
       obtain rfl:=F
       exact have d:=d.down c4;have d:=((((((d.drop k6).drop k5).drop k4).drop k3).drop k2).drop k1).drop k0;zO1 Tryz.results3 f Z ⟨Z,d⟩
      ·exact wp_skip (uj _ _ (bK (sp 2 f Z λa f=>aN (have d:=((((((d.drop k6).drop k5).drop k4).drop k3).drop k2).drop k1).drop k0;q4 (W (s + 1)) _ _ (sj F).symm ⟨f.kp Z,d⟩))))
    have vu:∀ r,ky=.out r→r=qj:=by
     rintro r rfl
     exact sj F
    refine have d:=d.nilRow 45 6;have d:=d.nilRow 47 4;have d:=d.nilRow 22 1;have d:=aEk (K:=aT) (hs:=(noH 2)) d;have d:=d.nilRow 41 2;have d:=aEk (K:=bD) (hs:=(noH 4)) d;have d:=((((d.pick k2).pick k3).pick k2).pick k3).pick k4;cF N (cE (S:=S32) (x:=ky) ?_ N (([]:List aG),0,([]:List (List Int)),([]:List aD),([]:List aC)) _ _ ⟨none,0,none,(0,(noH 2)),none,(0,(noH 4)),none,0,f.kp Z,d⟩ ps)
    clear F f d
    rintro ⟨l,ab,a4,a2,a0⟩ ju a w KB32 ⟨b1,b2,cq,ba,cg,ac,bd,bg,f,d⟩ F gf rf
    refine zS λK h=>sp 1 f Z λa f=>zT h (wp_seq_k λK39 t9=>zI f Z F ?_ ?_) <;> intro F
    ·refine wp_skip (t9 _ _ (wp_seq_k λK40 tv=>wp_block (zS λK h=>sp 2 f Z λa f=>zT h (wp_seq_k λK42 ub=>?_))))
     have ku:∀ (cb:List (List Int)) (cc:List aD) (di:Option Addr) (a5:aAf) (dd:Option Addr) (a6:aAf) a w,Has 515 a [(22,i6 s),(23,pq au),(24,.slice b1 l.length b2),(25,pq a1),(26,i6 ab),(395,i6 s),(399,i6 s),(400,i6 ab)]→Ctx G (.row di a5.1 ((aO a5.2 cb).map (Kd.v aT)) 22 1::bX aT (aO a5.2 cb)::.row dd a6.1 ((aO a6.2 cc).map (Kd.v bD)) 41 2::bX bD (aO a6.2 cc)::.row bd bg (a0.map aI) 47 4::.row b1 b2 (l.map aX) 45 6::.box a1 [i6 1000,i6 1000,i6 10000,i6 10000000,.slice bd a0.length bg] 37::.box au [.slice di cb.length a5.1,.slice dd cc.length a6.1] 26::Lf) w→pG N l ab a0 cb cc=some ju→K42 a w:=by
      repeat first | clear F | clear d | clear f
      intro cb cc di a5 dd a6 a w f d F
      unfold pG at F
      refine ub _ _ (wp_seq_k λK43 r1=>?_)
      have mk:∀ (dq:List aG) (d6:Option Addr) (d3:Nat) a w,Has 515 a [(22,i6 s),(23,pq au),(24,.slice d6 dq.length d3),(25,pq a1),(26,i6 ab),(395,i6 s),(399,i6 s),(400,i6 ab)]→Ctx G (.row di a5.1 ((aO a5.2 cb).map (Kd.v aT)) 22 1::bX aT (aO a5.2 cb)::.row dd a6.1 ((aO a6.2 cc).map (Kd.v bD)) 41 2::bX bD (aO a6.2 cc)::.row bd bg (a0.map aI) 47 4::.row d6 d3 (dq.map aX) 45 6::.box a1 [i6 1000,i6 1000,i6 10000,i6 10000000,.slice bd a0.length bg] 37::.box au [.slice di cb.length a5.1,.slice dd cc.length a6.1] 26::Lf) w→pI N ab a0 cb cc dq=some ju→K43 a w:=by
       repeat first | clear F | clear d | clear f
       intro dq d6 d3 a w f d F
       unfold pI at F
       refine r1 _ _ (aH F λbz o6 F=>aH F λxm od F=>have d:=d.nilRow 0 0;jV (λθ=>[f0 22 (i6 s),f0 23 (pq au),f0 24 (.slice d6 dq.length d3),f0 25 (pq a1),f0 26 (i6 ab),f0 395 (i6 s),f0 399 (i6 s),f0 400 (i6 ab),f1 0 427 (.pointer (some ⟨a1,4,none⟩)),f1 1 428 (.slice bd a0.length bg),f1 2 429 (i6 ab),f1 3 430 (i6 (W (100000 - ab))),f1 4 431 (.agg #[i6 bz.Lo,i6 bz.Hi]),f1 5 432 (.agg #[i6 (W (100000 - ab)),i6 100000,i6 bz.Lo,i6 bz.Hi]),f1 6 433 (.slice (some ⟨(θ 48).b,0,none⟩) 1 1),f1 7 434 (.slice ((θ 56).p) ((a0++[(⟨W (100000 - ab),100000,bz⟩:aC)]).length) ((θ 56).c)),f1 8 435 (.pointer (some ⟨a1,4,none⟩))]) (λE θ=>(bif E 6 then .row (some ⟨(θ 48).b,0,none⟩) 1 (([(⟨W (100000 - ab),100000,bz⟩:aC)]:List aC).map aI) 47 4 else .row none 0 [] 0 0)::.row di a5.1 ((aO a5.2 cb).map (Kd.v aT)) 22 1::bX aT (aO a5.2 cb)::.row dd a6.1 ((aO a6.2 cc).map (Kd.v bD)) 41 2::bX bD (aO a6.2 cc)::(bif E 7 then .row ((θ 56).p) ((θ 56).c) ((a0++[(⟨W (100000 - ab),100000,bz⟩:aC)]).map aI) 47 4 else .row bd bg (a0.map aI) 47 4)::.row d6 d3 (dq.map aX) 45 6::(bif E 9 then .box a1 [i6 1000,i6 1000,i6 10000,i6 10000000,.slice ((θ 56).p) ((a0++[(⟨W (100000 - ab),100000,bz⟩:aC)]).length) ((θ 56).c)] 37 else .box a1 [i6 1000,i6 1000,i6 10000,i6 10000000,.slice bd a0.length bg] 37)::.box au [.slice di cb.length a5.1,.slice dd cc.length a6.1] 26::Lf) [(9,1),(9,7)] (λa w=>∃ (jz:Nat) (ig:Option Addr) (jj:Nat),Has 515 a [(22,i6 s),(23,pq au),(24,.slice d6 dq.length d3),(25,pq a1),(395,i6 s),(399,i6 s),(400,i6 ab)]∧Ctx G (.row (sa jz) 1 (([(⟨W (100000 - ab),100000,bz⟩:aC)]:List aC).map aI) 47 4::.row di a5.1 ((aO a5.2 cb).map (Kd.v aT)) 22 1::bX aT (aO a5.2 cb)::.row dd a6.1 ((aO a6.2 cc).map (Kd.v bD)) 41 2::bX bD (aO a6.2 cc)::.row ig jj ((a0++[(⟨W (100000 - ab),100000,bz⟩:aC)]).map aI) 47 4::.row d6 d3 (dq.map aX) 45 6::.box a1 [i6 1000,i6 1000,i6 10000,i6 10000000,.slice ig ((a0++[(⟨W (100000 - ab),100000,bz⟩:aC)]).length) jj] 37::.box au [.slice di cb.length a5.1,.slice dd cc.length a6.1] 26::Lf) w) aU (by kernel_rfl) (by kernel_rfl) (iW.of f ⟨Z,Z,Z,Z,Z,Z,Z,Z,trivial,trivial,trivial,trivial,trivial,trivial,trivial,trivial,trivial,trivial⟩) d ⟨?_,?_,?_,?_,?_,?_,?_,?_,?_,?_,trivial⟩ ?_ ?_)
       ·exact λE θ a w hD hi hp he d=>have f:=he.h0.mT he 3 Z;zP f Z (pFA fR Z) λa f=>zD θ he hi f 8 Z Z Z d
       ·refine λE θ a w hD hi hp he d=>have e0:=hp.o 0 Z;have e9:=hD.f 0 Z hi;?_
        try dsimp only at d
        rw [e9] at d
        refine have f:=he.h0.mP he 8 Z e0;zL f d sL m7 Z λa w f d=>zD θ he hi f 9 Z Z Z ?_
        try dsimp only
        rw [cR 1 e9 Z]
        exact d
       ·exact λE θ a w hD hi hp he d=>have f:=he.h0.mT he 4 Z;sp 1 f Z λa f=>zD θ he hi f 10 Z Z Z d
       ·exact λE θ a w hD hi hp he d=>have e2:=hp.o 2 Z;have f:=he.h0.mP he 10 Z e2;sp 1 f Z λa f=>zD θ he hi f 11 Z Z Z d
       ·exact λE θ a w hD hi hp he d=>have f:=he.h0;zQ (v:=.agg #[i6 bz.Lo,i6 bz.Hi]) f d (eN 10) Z (λw d=>fJ 0 1000 d o6) λa w f d=>zD θ he hi f 12 Z Z Z d
       ·exact λE θ a w hD hi hp he d=>have e3:=hp.o 3 Z;have e4:=hp.o 4 Z;have f:=(he.h0.mP he 11 Z e3).mP he 12 Z e4;zP f Z (bS (cells:=[i6 (W (100000 - ab)),i6 100000,i6 bz.Lo,i6 bz.Hi]) aLe Z Z) λa f=>zD θ he hi f 13 Z Z Z d
       ·refine λE θ a w hD hi hp he d=>have e5:=hp.o 5 Z;?_
        try dsimp only at d
        rw [hi] at d
        refine have f:=he.h0.mP he 13 Z e5;gN (rows:=([(⟨W (100000 - ab),100000,bz⟩:aC)]:List aC).map aI) (vs:=[(0,.agg #[i6 (W (100000 - ab)),i6 100000,i6 bz.Lo,i6 bz.Hi])]) f d Z Z aBo Z ⟨Z,Z,Z,trivial⟩ Z Z λqz a w f d=>aN (eS (λds u a3=>have d:=d.drop k1;?_))
        refine ⟨(qR θ 48 ⟨qz,none,0,(λ_=>(none,0))⟩),he.put hi a3 f Z [] trivial ⟨qq,qq,qq,qq,qq,qq,qq,qq,qq,qq,qq,qq,qq,qq,qq,qq,qq,trivial⟩,?_⟩
        try dsimp only
        rw [bE E 6]
        exact d
       ·refine λE θ a w hD hi hp he d=>have e1:=hp.o 1 Z;have e6:=hp.o 6 Z;have e9:=hD.f 1 Z hi;?_
        try dsimp only at d
        rw [e6,hi,e9] at d
        refine have f:=(he.h0.mP he 9 Z e1).mP he 14 Z e6;mV (xs:=a0) (ys:=([(⟨W (100000 - ab),100000,bz⟩:aC)]:List aC)) f d Z Z aBo Z Z Z Z Z dX (gL d m0) (λ_ _=>u5) (by simpa using cZ od) λts t3 a w f d=>aN (eS (λds u a3=>?_))
        refine ⟨(qR θ 56 ⟨0,ts,t3,(λ_=>(none,0))⟩),he.put hi a3 f Z [] trivial ⟨qq,qq,qq,qq,qq,qq,qq,qq,qq,qq,qq,qq,qq,qq,qq,qq,qq,trivial⟩,?_⟩
        try dsimp only
        rw [eD 7 e6,bE E 7,cR 7 e9 Z]
        exact d
       ·exact λE θ a w hD hi hp he d=>have f:=he.h0.mT he 3 Z;zP f Z (pFA fR Z) λa f=>zD θ he hi f 16 Z Z Z d
       ·refine λE θ a w hD hi hp he d=>have e7:=hp.o 7 Z;have e8:=hp.o 8 Z;?_
        try dsimp only at d
        rw [hi] at d
        refine have f:=(he.h0.mP he 15 Z e7).mP he 16 Z e8;zW f d aJa u7 Z λw d=>zG θ he hi f Z ?_
        try dsimp only
        rw [bE E 9]
        exact d
       ·refine λE θ a w ap he d=>have f:=he.h0;have e6:=ap 6 Z;have e7:=ap 7 Z;have e9:=ap 9 Z;have f:=f.more he 7 Z (onT);have f:=f.more he 6 Z (onT);have f:=f.more he 5 Z (onT);have f:=f.more he 3 Z (onT);have f:=f.more he 2 Z (onT);have f:=f.more he 1 Z (onT);have f:=f.more he 0 Z (onT);?_
        try dsimp only at d
        rw [e6,e7,e9] at d
        exact ⟨(θ 48).b,(θ 56).p,(θ 56).c,f.kp Z,d⟩
       rintro a w ⟨jz,ig,jj,f,d⟩
       exact have d:=d.drop k0;tv _ _ (bK (sp 2 f Z λa f=>aN (have d:=((((d.pick k1).pick k1).pick k3).pick k3).pick k4;rf (dq,W (ab + 1),cb,cc,(a0++[(⟨W (100000 - ab),100000,bz⟩:aC)])) _ _ (sj F).symm ⟨d6,d3,di,a5,dd,a6,ig,jj,f.kp Z,d⟩)))
      refine zS λK h=>sp 2 f Z λa f=>zT h (zI f Z F ?_ ?_) <;> intro F
      ·exact bK (sp 1 f Z λa f=>aH F λdx pi F=>zQ (v:=.agg #[i6 dx.Lo,i6 dx.Hi]) f d (eN 10) Z (λw d=>fJ 0 100000 d pi) λa w f d=>zP f Z (bS (cells:=[i6 0,i6 0,i6 dx.Lo,i6 dx.Hi,i6 0,i6 100000]) aLl Z Z) λa f=>gN (rows:=([(⟨(⟨0,0⟩:aE),dx,0,100000⟩:aG)]:List aG).map aX) (vs:=[(0,.agg #[i6 0,i6 0,i6 dx.Lo,i6 dx.Hi,i6 0,i6 100000])]) f d Z Z aLk Z ⟨Z,Z,Z,trivial⟩ Z Z λv3 a w f d=>aH F λv6 nt F=>mV (xs:=l) (ys:=([(⟨(⟨0,0⟩:aE),dx,0,100000⟩:aG)]:List aG)) f d Z Z aLk Z Z Z Z Z iH (gL d m0) (λ_ _=>u6) (by simpa using cZ nt) λpt s7 a w f d=>sp 1 f Z λa f=>aN (have d:=d.drop k0;mk (l++[(⟨(⟨0,0⟩:aE),dx,0,100000⟩:aG)]) pt s7 _ _  (f.kp Z) d F))
      ·exact wp_skip (mk l b1 b2 _ _  (f.kp Z) d F)
     refine zS λK h=>sp 2 f Z λa f=>zT h (zI f Z F ?_ ?_) <;> intro F
     ·refine aH F λv5 n2 F=>aH F λv1 my F=>have d:=d.nilRow 0 0;have d:=d.nilRow 0 0;have d:=d.nilRow 0 0;have d:=d.nilRow 0 0;jV (λθ=>[f0 22 (i6 s),f0 23 (pq au),f0 24 (.slice b1 l.length b2),f0 25 (pq a1),f0 26 (i6 ab),f0 395 (i6 s),f0 399 (i6 s),f0 400 (i6 ab),f1 0 405 (pq au),f1 1 406 (.slice cq a4.length ba.1),f1 2 407 (.slice (some ⟨(θ 16).b,0,none⟩) 1 1),f1 3 408 (.slice (some ⟨(θ 24).b,0,none⟩) 1 1),f1 4 409 (.slice ((θ 32).p) ((a4++[([0]:List Int)]).length) ((θ 32).c)),f1 5 410 (.pointer (some ⟨au,1,none⟩)),f1 6 411 (.slice cg a2.length ac.1),f1 7 412 (i6 ab),f1 8 413 (i6 (ab.tmod 12)),f1 9 414 (i6 (W (1 + (ab.tmod 12)))),f1 10 415 (.agg #[i6 (W (1 + (ab.tmod 12))),.slice none 0 0]),f1 11 416 (.slice (some ⟨(θ 88).b,0,none⟩) 1 1),f1 12 417 (.slice ((θ 96).p) ((a2++[(⟨W (1 + (ab.tmod 12)),([]:List Int)⟩:aD)]).length) ((θ 96).c)),f1 13 418 (pq au),f1 15 419 (.pointer (some ⟨au,1,none⟩))]) (λE θ=>(bif E 11 then .row none 0 [] 3 1 else .row none 0 [] 0 0)::(bif E 11 then .row (some ⟨(θ 88).b,0,none⟩) 1 (([((none,0),(⟨W (1 + (ab.tmod 12)),([]:List Int)⟩:aD))]:List (H2 × aD)).map (Kd.v bD)) 41 2 else .row none 0 [] 0 0)::(bif E 3 then .row (some ⟨(θ 24).b,0,none⟩) 1 (([(((some ⟨(θ 16).b,0,none⟩),1),([0]:List Int))]:List (H2 × (List Int))).map (Kd.v aT)) 22 1 else .row none 0 [] 0 0)::(bif E 2 then .row (some ⟨(θ 16).b,0,none⟩) 1 (([0]:List Int).map aF) 3 1 else .row none 0 [] 0 0)::.row bd bg (a0.map aI) 47 4::(bif E 12 then .row ((θ 96).p) ((θ 96).c) (((aO ac.2 a2)++([((none,0),(⟨W (1 + (ab.tmod 12)),([]:List Int)⟩:aD))]:List (H2 × aD))).map (Kd.v bD)) 41 2 else .row cg ac.1 ((aO ac.2 a2).map (Kd.v bD)) 41 2)::bX bD (aO ac.2 a2)::(bif E 4 then .row ((θ 32).p) ((θ 32).c) (((aO ba.2 a4)++([(((some ⟨(θ 16).b,0,none⟩),1),([0]:List Int))]:List (H2 × (List Int)))).map (Kd.v aT)) 22 1 else .row cq ba.1 ((aO ba.2 a4).map (Kd.v aT)) 22 1)::bX aT (aO ba.2 a4)::.row b1 b2 (l.map aX) 45 6::.box a1 [i6 1000,i6 1000,i6 10000,i6 10000000,.slice bd a0.length bg] 37::(bif E 16 then .box au [.slice ((θ 32).p) ((a4++[([0]:List Int)]).length) ((θ 32).c),.slice ((θ 96).p) ((a2++[(⟨W (1 + (ab.tmod 12)),([]:List Int)⟩:aD)]).length) ((θ 96).c)] 26 else bif E 14 then .box au [.slice ((θ 32).p) ((a4++[([0]:List Int)]).length) ((θ 32).c),.slice cg a2.length ac.1] 26 else .box au [.slice cq a4.length ba.1,.slice cg a2.length ac.1] 26)::Lf) [(14,1),(16,1),(3,2),(4,3),(14,4),(16,4),(14,6),(16,6),(16,12),(16,14)] (λa w=>∃ (mj:Nat) (ki:Nat) (dk:Nat) (cz:Option Addr) (c2:Nat) (c6:Option Addr) (c3:Nat),Has 515 a [(22,i6 s),(23,pq au),(24,.slice b1 l.length b2),(25,pq a1),(26,i6 ab),(395,i6 s),(399,i6 s),(400,i6 ab)]∧Ctx G (.row none 0 [] 3 1::.row (sa mj) 1 (([((none,0),(⟨W (1 + (ab.tmod 12)),([]:List Int)⟩:aD))]:List (H2 × aD)).map (Kd.v bD)) 41 2::.row (sa ki) 1 (([(((sa dk),1),([0]:List Int))]:List (H2 × (List Int))).map (Kd.v aT)) 22 1::.row (sa dk) 1 (([0]:List Int).map aF) 3 1::.row bd bg (a0.map aI) 47 4::.row cz c2 (((aO ac.2 a2)++([((none,0),(⟨W (1 + (ab.tmod 12)),([]:List Int)⟩:aD))]:List (H2 × aD))).map (Kd.v bD)) 41 2::bX bD (aO ac.2 a2)::.row c6 c3 (((aO ba.2 a4)++([(((sa dk),1),([0]:List Int))]:List (H2 × (List Int)))).map (Kd.v aT)) 22 1::bX aT (aO ba.2 a4)::.row b1 b2 (l.map aX) 45 6::.box a1 [i6 1000,i6 1000,i6 10000,i6 10000000,.slice bd a0.length bg] 37::.box au [.slice c6 ((a4++[([0]:List Int)]).length) c3,.slice cz ((a2++[(⟨W (1 + (ab.tmod 12)),([]:List Int)⟩:aD)]).length) c2] 26::Lf) w) aU (by kernel_rfl) (by kernel_rfl) (iW.of f ⟨Z,Z,Z,Z,Z,Z,Z,Z,trivial,trivial,trivial,trivial,trivial,trivial,trivial,trivial,trivial,trivial,trivial,trivial,trivial,trivial,trivial,trivial⟩) d ⟨?_,?_,?_,?_,?_,?_,?_,?_,?_,?_,?_,?_,?_,?_,?_,?_,?_,trivial⟩ ?_ ?_
      ·exact λE θ a w hD hi hp he d=>have f:=he.h0.mT he 1 Z;zP f Z (pFA iG Z) λa f=>zD θ he hi f 8 Z Z Z d
      ·refine λE θ a w hD hi hp he d=>have e0:=hp.o 0 Z;have bc:=hD.f 0 Z hi;have bm:=hD.f 1 Z hi;?_
       try dsimp only at d
       rw [bc,bm] at d
       refine have f:=he.h0.mP he 8 Z e0;zL f d gR m11 Z λa w f d=>zD θ he hi f 9 Z Z Z ?_
       try dsimp only
       rw [cR 1 bc Z,cR 1 bm Z]
       exact d
      ·refine λE θ a w hD hi hp he d=>have e3:=hD.f 2 Z hi;have e4:=hD.f 3 Z e3;?_
       try dsimp only at d
       rw [hi,e3,e4] at d
       refine have f:=he.h0;gN (rows:=([0]:List Int).map aF) (vs:=[(0,i6 0)]) f d Z Z eV Z ⟨Z,Z,Z,trivial⟩ Z Z λrj a w f d=>aN (eS (λds u a3=>have d:=((((d.drop k4).pick k0).pick k3).pick k3).pick k3;?_))
       refine ⟨(qR θ 16 ⟨rj,none,0,(λ_=>(none,0))⟩),he.put hi a3 f Z [] trivial ⟨qq,qq,qq,qq,qq,qq,qq,qq,qq,qq,qq,qq,qq,qq,qq,qq,qq,qq,qq,qq,qq,qq,qq,trivial⟩,?_⟩
       try dsimp only
       rw [bE E 2,cR 2 e3 Z,cR 2 e4 Z]
       exact d
      ·refine λE θ a w hD hi hp he d=>have e2:=hp.o 2 Z;?_
       try dsimp only at d
       rw [hi,e2] at d
       refine have f:=he.h0.mP he 10 Z e2;gN (rows:=([(((some ⟨(θ 16).b,0,none⟩),1),([0]:List Int))]:List (H2 × (List Int))).map (Kd.v aT)) (vs:=[(0,.slice (some ⟨(θ 16).b,0,none⟩) 1 1)]) f d Z Z aHx Z ⟨Z,Z,Z,trivial⟩ Z Z λp7 a w f d=>aN (eS (λds u a3=>have d:=(((d.drop k3).pick k0).pick k2).pick k2;?_))
       refine ⟨(qR θ 24 ⟨p7,none,0,(λ_=>(none,0))⟩),he.put hi a3 f Z [] trivial ⟨qq,qq,qq,qq,qq,qq,qq,qq,qq,qq,qq,qq,qq,qq,qq,qq,qq,qq,qq,qq,qq,qq,qq,trivial⟩,?_⟩
       try dsimp only
       rw [bE E 3,eD 3 e2]
       exact d
      ·refine λE θ a w hD hi hp he d=>have e1:=hp.o 1 Z;have e3:=hp.o 3 Z;have bc:=hD.f 4 Z hi;have bm:=hD.f 5 Z hi;?_
       try dsimp only at d
       rw [e3,hi,bc,bm] at d
       refine have f:=(he.h0.mP he 9 Z e1).mP he 11 Z e3;mV (xs:=(aO ba.2 a4)) (ys:=([(((some ⟨(θ 16).b,0,none⟩),1),([0]:List Int))]:List (H2 × (List Int)))) f d Z Z aHx Z Z (eF _ _).symm Z Z kG (gL d m2) (λ_ _=>u7) (by simpa [eF] using cZ n2) λj1 ox a w f d=>have f:=mQ (v':=.slice j1 (a4++[([0]:List Int)]).length ox) (by simp [eF]) f;aN (eS (λds u a3=>?_))
       refine ⟨(qR θ 32 ⟨0,j1,ox,(λ_=>(none,0))⟩),he.put hi a3 f Z [] trivial ⟨qq,qq,qq,qq,qq,qq,qq,qq,qq,qq,qq,qq,qq,qq,qq,qq,qq,qq,qq,qq,qq,qq,qq,trivial⟩,?_⟩
       try dsimp only
       rw [eD 4 e3,bE E 4,cR 4 bc Z,cR 4 bm Z]
       exact d
      ·exact λE θ a w hD hi hp he d=>have f:=he.h0.mT he 1 Z;zP f Z (pFA fH Z) λa f=>zD θ he hi f 13 Z Z Z d
      ·refine λE θ a w hD hi hp he d=>have e5:=hp.o 5 Z;have bc:=hD.f 6 Z hi;have bm:=hD.f 7 Z hi;?_
       try dsimp only at d
       rw [bc,bm] at d
       refine have f:=he.h0.mP he 13 Z e5;zL f d pB m11 Z λa w f d=>zD θ he hi f 14 Z Z Z ?_
       try dsimp only
       rw [cR 6 bc Z,cR 6 bm Z]
       exact d
      ·exact λE θ a w hD hi hp he d=>have f:=he.h0.mT he 4 Z;sp 1 f Z λa f=>zD θ he hi f 15 Z Z Z d
      ·exact λE θ a w hD hi hp he d=>have e7:=hp.o 7 Z;have f:=he.h0.mP he 15 Z e7;zP f Z (nS Z Z (by decide)) λa f=>zD θ he hi f 16 Z Z Z d
      ·exact λE θ a w hD hi hp he d=>have e8:=hp.o 8 Z;have f:=he.h0.mP he 16 Z e8;sp 1 f Z λa f=>zD θ he hi f 17 Z Z Z d
      ·exact λE θ a w hD hi hp he d=>have e9:=hp.o 9 Z;have f:=he.h0.mP he 17 Z e9;zP f Z (bS (cells:=[i6 (W (1 + (ab.tmod 12))),.slice none 0 0]) aHm Z Z) λa f=>zD θ he hi f 18 Z Z Z d
      ·refine λE θ a w hD hi hp he d=>have db:=hp.o 10 Z;?_
       try dsimp only at d
       rw [hi] at d
       refine have f:=he.h0.mP he 18 Z db;have d:=d.nilRow 3 1;gN (rows:=([((none,0),(⟨W (1 + (ab.tmod 12)),([]:List Int)⟩:aD))]:List (H2 × aD)).map (Kd.v bD)) (vs:=[(0,.agg #[i6 (W (1 + (ab.tmod 12))),.slice none 0 0])]) f d Z Z aI6 Z ⟨Z,Z,Z,trivial⟩ Z Z λo9 a w f d=>aN (eS (λds u a3=>have d:=(((d.drop k3).drop k2).pick k0).pick k1;?_))
       refine ⟨(qR θ 88 ⟨o9,none,0,(λ_=>(none,0))⟩),he.put hi a3 f Z [] trivial ⟨qq,qq,qq,qq,qq,qq,qq,qq,qq,qq,qq,qq,qq,qq,qq,qq,qq,qq,qq,qq,qq,qq,qq,trivial⟩,?_⟩
       try dsimp only
       rw [bE E 11]
       exact d
      ·refine λE θ a w hD hi hp he d=>have e6:=hp.o 6 Z;have cn:=hp.o 11 Z;have bm:=hD.f 8 Z hi;?_
       try dsimp only at d
       rw [cn,hi,bm] at d
       refine have f:=(he.h0.mP he 14 Z e6).mP he 19 Z cn;mV (xs:=(aO ac.2 a2)) (ys:=([((none,0),(⟨W (1 + (ab.tmod 12)),([]:List Int)⟩:aD))]:List (H2 × aD))) f d Z Z aI6 Z Z (eF _ _).symm Z Z aFn (gL d m1) (λ_ _=>u5) (by simpa [eF] using cZ my) λkg ou a w f d=>have f:=mQ (v':=.slice kg (a2++[(⟨W (1 + (ab.tmod 12)),([]:List Int)⟩:aD)]).length ou) (by simp [eF]) f;aN (eS (λds u a3=>?_))
       refine ⟨(qR θ 96 ⟨0,kg,ou,(λ_=>(none,0))⟩),he.put hi a3 f Z [] trivial ⟨qq,qq,qq,qq,qq,qq,qq,qq,qq,qq,qq,qq,qq,qq,qq,qq,qq,qq,qq,qq,qq,qq,qq,trivial⟩,?_⟩
       try dsimp only
       rw [eD 12 cn,bE E 12,cR 12 bm Z]
       exact d
      ·exact λE θ a w hD hi hp he d=>have f:=he.h0.mT he 1 Z;zP f Z (pFA iG Z) λa f=>zD θ he hi f 21 Z Z Z d
      ·refine λE θ a w hD hi hp he d=>have e4:=hp.o 4 Z;have dc:=hp.o 13 Z;have bm:=hD.f 9 Z hi;?_
       try dsimp only at d
       rw [hi,bm] at d
       refine have f:=(he.h0.mP he 12 Z e4).mP he 21 Z dc;zW f d sz_23 u11 Z λw d=>zG θ he hi f Z ?_
       try dsimp only
       rw [bE E 14,cR 14 bm Z]
       exact d
      ·exact λE θ a w hD hi hp he d=>have f:=he.h0.mT he 1 Z;zP f Z (pFA fH Z) λa f=>zD θ he hi f 22 Z Z Z d
      ·refine λE θ a w hD hi hp he d=>have cy:=hp.o 12 Z;have dg:=hp.o 15 Z;have bc:=hp.o 14 Z;?_
       try dsimp only at d
       rw [bc,hi] at d
       refine have f:=(he.h0.mP he 20 Z cy).mP he 22 Z dg;zW f d aSo u11 Z λw d=>zG θ he hi f Z ?_
       try dsimp only
       rw [eD 16 bc,bE E 16]
       exact d
      ·refine λE θ a w ap he d=>have f:=he.h0;have e2:=ap 2 Z;have e3:=ap 3 Z;have e4:=ap 4 Z;have cn:=ap 11 Z;have cy:=ap 12 Z;have bc:=ap 14 Z;have bm:=ap 16 Z;have f:=f.more he 7 Z (onT);have f:=f.more he 6 Z (onT);have f:=f.more he 5 Z (onT);have f:=f.more he 4 Z (onT);have f:=f.more he 3 Z (onT);?_
       refine have f:=f.more he 2 Z (onT);have f:=f.more he 1 Z (onT);have f:=f.more he 0 Z (onT);?_
       try dsimp only at d
       rw [e2,e3,e4,cn,cy,bc,bm] at d
       exact ⟨(θ 88).b,(θ 24).b,(θ 16).b,(θ 96).p,(θ 96).c,(θ 32).p,(θ 32).c,f.kp Z,d⟩
      rintro a w ⟨mj,ki,dk,cz,c2,c6,c3,f,d⟩
      replace d:=((((((d.drop k2).drop k1).pick k2).pick k2).pick k2).pick k4).pick k4
      obtain ⟨dt,d⟩:=aA6 (K:=bD) ([((none,0),(⟨W (1 + (ab.tmod 12)),([]:List Int)⟩:aD))]:List (H2 × aD)) d
      refine have d:Ctx G (.row cz c2 ((aO dt (a2++[(⟨W (1 + (ab.tmod 12)),([]:List Int)⟩:aD)])).map (Kd.v bD)) 41 2::bX bD (aO dt (a2++[(⟨W (1 + (ab.tmod 12)),([]:List Int)⟩:aD)]))::.row (sa dk) 1 (([0]:List Int).map aF) 3 1::.row bd bg (a0.map aI) 47 4::.row c6 c3 (((aO ba.2 a4)++([(((sa dk),1),([0]:List Int))]:List (H2 × (List Int)))).map (Kd.v aT)) 22 1::bX aT (aO ba.2 a4)::.row b1 b2 (l.map aX) 45 6::.box a1 [i6 1000,i6 1000,i6 10000,i6 10000000,.slice bd a0.length bg] 37::.box au [.slice c6 ((a4++[([0]:List Int)]).length) c3,.slice cz ((a2++[(⟨W (1 + (ab.tmod 12)),([]:List Int)⟩:aD)]).length) c2] 26::Lf) w:=d;have d:=(((((d.pick k3).pick k2).pick k2).pick k3).pick k5).pick k5;?_
      obtain ⟨g9,d⟩:=aA6 (K:=aT) ([(((sa dk),1),([0]:List Int))]:List (H2 × (List Int))) d
      exact have d:Ctx G (.row c6 c3 ((aO g9 (a4++[([0]:List Int)])).map (Kd.v aT)) 22 1::bX aT (aO g9 (a4++[([0]:List Int)]))::.row cz c2 ((aO dt (a2++[(⟨W (1 + (ab.tmod 12)),([]:List Int)⟩:aD)])).map (Kd.v bD)) 41 2::bX bD (aO dt (a2++[(⟨W (1 + (ab.tmod 12)),([]:List Int)⟩:aD)]))::.row bd bg (a0.map aI) 47 4::.row b1 b2 (l.map aX) 45 6::.box a1 [i6 1000,i6 1000,i6 10000,i6 10000000,.slice bd a0.length bg] 37::.box au [.slice c6 ((a4++[([0]:List Int)]).length) c3,.slice cz ((a2++[(⟨W (1 + (ab.tmod 12)),([]:List Int)⟩:aD)]).length) c2] 26::Lf) w:=d;ku (a4++[([0]:List Int)]) (a2++[(⟨W (1 + (ab.tmod 12)),([]:List Int)⟩:aD)]) c6 (c3,g9) cz (c2,dt) _ _  (f.kp Z) d F
     ·exact wp_skip (have d:=((((d.pick k0).pick k2).pick k2).pick k4).pick k4;ku a4 a2 cq ba cg ac _ _  (f.kp Z) d F)
    ·exact wp_exit (aP (aP (have gf:=cB F gf;cX (p8 _ _ _ gf ⟨b1,b2,cq,ba,cg,ac,bd,bg,f.kp Z,d⟩))))
   ·exact wp_exit (aP (aP (have b3:=cB F b3;cX (q5 _ _ _ b3 ⟨f.kp Z,d⟩))))
  have ov:∀ r,x8=.out r→r=gu:=by
   rintro r rfl
   exact sj F
  refine have d:=d.drop k0;cF N (cE (S:=S8) (x:=x8) ?_ N 0 _ _ ⟨f.kp Z,d⟩ sn)
  clear F f d
  rintro D t6 a w KB8 ⟨f,d⟩ F cd ry
  refine zS λK h=>sp 1 f Z λa f=>zT h (wp_seq_k λK47 t7=>zI f Z F ?_ ?_) <;> intro F
  ·refine wp_skip (t7 _ _ (wp_seq_k λK48 r4=>wp_block (zS λK h=>sp 2 f Z λa f=>zT h (wp_seq_k λK50 ua=>aH F λd0 p1 F=>?_))))
   obtain ⟨qt,o,hd,rg,qp,oy⟩:=c7.atm p1
   obtain ⟨dz,o4,F⟩:=cU F
   obtain ⟨pv,uf,ca,pm,rn,pj⟩:=c7.atm o4
   obtain ⟨dy,qy,F⟩:=cU F
   obtain ⟨rv,ta,b7,pk,rt,q1⟩:=c7.atm qy
   obtain ⟨da,pu,F⟩:=cU F
   obtain ⟨pd,ui,br,o2,q0,pz⟩:=c7.atm pu
   obtain ⟨df,rr,F⟩:=cU F
   obtain ⟨o1,ud,bq,ri,q3,qf⟩:=c7.atm rr
   obtain ⟨c9,qn,F⟩:=cU F
   obtain ⟨q9,tm,bp,rm,pa,o5⟩:=c7.atm qn
   refine have d:=d.nilRow 0 0;have d:=d.nilRow 0 0;have d:=d.nilRow 0 0;jV (λθ=>(f0 14 (.slice (sa b0) 10 10)::f0 15 (i6 D)::f0 181 (i6 D)::f1 0 184 (.slice (sa b0) 10 10)::f1 1 185 (i6 D)::f1 2 186 (i6 (D.tmod 10))::f1 3 187 (.pointer (some ⟨qt,o,none⟩))::f1 4 188 (.slice hd.1 d0.length hd.2)::f1 5 189 (.slice (sa b0) 10 10)::f1 6 190 (i6 D)::f1 7 191 (i6 (W (D.tdiv 3)))::f1 8 192 (i6 ((W (D.tdiv 3)).tmod 10))::f1 9 193 (.pointer (some ⟨pv,uf,none⟩))::f1 10 194 (.slice ca.1 dz.length ca.2)::f1 11 195 (.slice (sa b0) 10 10)::f1 12 196 (i6 D)::f1 13 197 (i6 (W (D.tdiv 7)))::f1 14 198 (i6 ((W (D.tdiv 7)).tmod 10))::f1 15 199 (.pointer (some ⟨rv,ta,none⟩))::f1 16 200 (.slice b7.1 dy.length b7.2)::f1 17 201 (.slice (some ⟨(θ 136).b,0,none⟩) 3 3)::f1 18 202 (i6 D)::f1 19 203 (i6 (D.tmod 2))::f1 20 204 (i6 (W (1 + (D.tmod 2))))::f1 21 205 (.slice (sa b0) 10 10)::f1 22 206 (i6 D)::f1 23 207 (i6 (W (D.tdiv 11)))::f1 24 208 (i6 ((W (D.tdiv 11)).tmod 10))::f1 25 209 (.pointer (some ⟨pd,ui,none⟩))::f1 26 210 (.slice br.1 da.length br.2)::f1 27 211 (.agg #[i6 (W (1 + (D.tmod 2))),.slice br.1 da.length br.2])::f1 28 212 (.slice (sa b0) 10 10)::f1 29 213 (i6 D)::f1 30 214 (i6 (W (D.tdiv 13)))::f1 31 215 (i6 ((W (D.tdiv 13)).tmod 10))::f1 32 216 (.pointer (some ⟨o1,ud,none⟩))::f1 33 217 (.slice bq.1 df.length bq.2)::f1 34 218 (.agg #[i6 1,.slice bq.1 df.length bq.2])::f1 35 219 (i6 D)::f1 36 220 (i6 (W (D.tdiv 2)))::f1 37 221 (i6 ((W (D.tdiv 2)).tmod 2))::f1 38 222 (i6 (W (1 + ((W (D.tdiv 2)).tmod 2))))::f1 39 223 (.slice (sa b0) 10 10)::f1 40 224 (i6 D)::f1 41 225 (i6 (W (D.tdiv 17)))::f1 42 226 (i6 ((W (D.tdiv 17)).tmod 10))::f1 43 227 (.pointer (some ⟨q9,tm,none⟩))::f1 44 228 (.slice bp.1 c9.length bp.2)::f1 45 229 (.agg #[i6 (W (1 + ((W (D.tdiv 2)).tmod 2))),.slice bp.1 c9.length bp.2])::f1 46 230 (.slice (some ⟨(θ 368).b,0,none⟩) 3 3)::f1 47 231 (.agg #[.slice (some ⟨(θ 136).b,0,none⟩) 3 3,.slice (some ⟨(θ 368).b,0,none⟩) 3 3])::f1 48 16 (.pointer (some ⟨(θ 384).b,0,none⟩))::[])) (λE θ=>(bif E 49 then .box (θ 384).b [.slice (some ⟨(θ 136).b,0,none⟩) 3 3,.slice (some ⟨(θ 368).b,0,none⟩) 3 3] 26 else bif E 48 then .box (θ 384).b [.slice none 0 0,.slice none 0 0] 26 else .row none 0 [] 0 0)::(bif E 46 then .row (some ⟨(θ 368).b,0,none⟩) 3 (([((br.1,br.2),(⟨W (1 + (D.tmod 2)),da⟩:aD)),((bq.1,bq.2),(⟨1,df⟩:aD)),((bp.1,bp.2),(⟨W (1 + ((W (D.tdiv 2)).tmod 2)),c9⟩:aD))]:List (H2 × aD)).map (Kd.v bD)) 41 2 else .row none 0 [] 0 0)::(bif E 17 then .row (some ⟨(θ 136).b,0,none⟩) 3 (([((hd.1,hd.2),d0),((ca.1,ca.2),dz),((b7.1,b7.2),dy)]:List (H2 × (List Int))).map (Kd.v aT)) 22 1 else .row none 0 [] 0 0)::Lf) [(49,17),(47,17),(49,46),(47,46),(49,48)] (λa w=>∃ (i4:Nat) (gz:Nat) (ib:Nat),Has 515 a [(14,.slice (sa b0) 10 10),(15,i6 D),(181,i6 D),(16,pq i4)]∧Ctx G (.box i4 [.slice (sa gz) 3 3,.slice (sa ib) 3 3] 26::.row (sa ib) 3 (([((br.1,br.2),(⟨W (1 + (D.tmod 2)),da⟩:aD)),((bq.1,bq.2),(⟨1,df⟩:aD)),((bp.1,bp.2),(⟨W (1 + ((W (D.tdiv 2)).tmod 2)),c9⟩:aD))]:List (H2 × aD)).map (Kd.v bD)) 41 2::.row (sa gz) 3 (([((hd.1,hd.2),d0),((ca.1,ca.2),dz),((b7.1,b7.2),dy)]:List (H2 × (List Int))).map (Kd.v aT)) 22 1::Lf) w) aU (by kernel_rfl) (by kernel_rfl) (iW.of f ⟨Z,Z,Z,trivial,trivial,trivial,trivial,trivial,trivial,trivial,trivial,trivial,trivial,trivial,trivial,trivial,trivial,trivial,trivial,trivial,trivial,trivial,trivial,trivial,trivial,trivial,trivial,trivial,trivial,trivial,trivial,trivial,trivial,trivial,trivial,trivial,trivial,trivial,trivial,trivial,trivial,trivial,trivial,trivial,trivial,trivial,trivial,trivial,trivial,trivial,trivial,trivial,trivial⟩) d ⟨?_,?_,?_,?_,?_,?_,?_,?_,?_,?_,?_,?_,?_,?_,?_,?_,?_,?_,?_,?_,?_,?_,?_,?_,?_,?_,?_,?_,?_,?_,?_,?_,?_,?_,?_,?_,?_,?_,?_,?_,?_,?_,?_,?_,?_,?_,?_,?_,?_,?_,trivial⟩ ?_ ?_
   ·exact λE θ a w hD hi hp he d=>have f:=he.h0.mT he 0 Z;sp 1 f Z λa f=>zD θ he hi f 3 Z Z Z d
   ·exact λE θ a w hD hi hp he d=>have f:=he.h0.mT he 1 Z;sp 1 f Z λa f=>zD θ he hi f 4 Z Z Z d
   ·exact λE θ a w hD hi hp he d=>have e1:=hp.o 1 Z;have f:=he.h0.mP he 4 Z e1;zP f Z (nS Z Z (by decide)) λa f=>zD θ he hi f 5 Z Z Z d
   ·exact λE θ a w hD hi hp he d=>have e0:=hp.o 0 Z;have e2:=hp.o 2 Z;have f:=(he.h0.mP he 3 Z e0).mP he 5 Z e2;zP f Z (pIA Tryz.underlying23 lN Z Z rg) λa f=>zD θ he hi f 6 Z Z Z d
   ·exact λE θ a w hD hi hp he d=>have e3:=hp.o 3 Z;have f:=he.h0.mP he 6 Z e3;zE f d Z (bB eL Z (aV (j:=0) qp Z)) λa w f d=>zD θ he hi f 7 Z Z Z d
   ·exact λE θ a w hD hi hp he d=>have f:=he.h0.mT he 0 Z;sp 1 f Z λa f=>zD θ he hi f 8 Z Z Z d
   ·exact λE θ a w hD hi hp he d=>have f:=he.h0.mT he 1 Z;sp 1 f Z λa f=>zD θ he hi f 9 Z Z Z d
   ·exact λE θ a w hD hi hp he d=>have e6:=hp.o 6 Z;have f:=he.h0.mP he 9 Z e6;zP f Z (tL Z Z (by decide)) λa f=>zD θ he hi f 10 Z Z Z d
   ·exact λE θ a w hD hi hp he d=>have e7:=hp.o 7 Z;have f:=he.h0.mP he 10 Z e7;zP f Z (nS Z Z (by decide)) λa f=>zD θ he hi f 11 Z Z Z d
   ·exact λE θ a w hD hi hp he d=>have e5:=hp.o 5 Z;have e8:=hp.o 8 Z;have f:=(he.h0.mP he 8 Z e5).mP he 11 Z e8;zP f Z (pIA Tryz.underlying23 lN Z Z pm) λa f=>zD θ he hi f 12 Z Z Z d
   ·exact λE θ a w hD hi hp he d=>have e9:=hp.o 9 Z;have f:=he.h0.mP he 12 Z e9;zE f d Z (bB eL Z (aV (j:=0) rn Z)) λa w f d=>zD θ he hi f 13 Z Z Z d
   ·exact λE θ a w hD hi hp he d=>have f:=he.h0.mT he 0 Z;sp 1 f Z λa f=>zD θ he hi f 14 Z Z Z d
   ·exact λE θ a w hD hi hp he d=>have f:=he.h0.mT he 1 Z;sp 1 f Z λa f=>zD θ he hi f 15 Z Z Z d
   ·exact λE θ a w hD hi hp he d=>have cy:=hp.o 12 Z;have f:=he.h0.mP he 15 Z cy;zP f Z (tL Z Z (by decide)) λa f=>zD θ he hi f 16 Z Z Z d
   ·exact λE θ a w hD hi hp he d=>have dc:=hp.o 13 Z;have f:=he.h0.mP he 16 Z dc;zP f Z (nS Z Z (by decide)) λa f=>zD θ he hi f 17 Z Z Z d
   ·exact λE θ a w hD hi hp he d=>have cn:=hp.o 11 Z;have bc:=hp.o 14 Z;have f:=(he.h0.mP he 14 Z cn).mP he 17 Z bc;zP f Z (pIA Tryz.underlying23 lN Z Z pk) λa f=>zD θ he hi f 18 Z Z Z d
   ·exact λE θ a w hD hi hp he d=>have dg:=hp.o 15 Z;have f:=he.h0.mP he 18 Z dg;zE f d Z (bB eL Z (aV (j:=0) rt Z)) λa w f d=>zD θ he hi f 19 Z Z Z d
   ·refine λE θ a w hD hi hp he d=>have e4:=hp.o 4 Z;have db:=hp.o 10 Z;have bm:=hp.o 16 Z;have cx:=hD.f 0 Z hi;have gn:=hD.f 1 Z hi;?_
    try dsimp only at d
    rw [hi,cx] at d
    refine have f:=((he.h0.mP he 7 Z e4).mP he 13 Z db).mP he 19 Z bm;gN (rows:=([((hd.1,hd.2),d0),((ca.1,ca.2),dz),((b7.1,b7.2),dy)]:List (H2 × (List Int))).map (Kd.v aT)) (vs:=[(0,.slice hd.1 d0.length hd.2),(1,.slice ca.1 dz.length ca.2),(2,.slice b7.1 dy.length b7.2)]) f d Z Z aHx Z ⟨Z,Z,Z,Z,Z,Z,Z,Z,Z,trivial⟩ Z Z λo3 a w f d=>aN (eS (λds u a3=>have d:=(((d.drop k3).pick k0).pick k2).pick k2;?_))
    refine ⟨(qR θ 136 ⟨o3,none,0,(λ_=>(none,0))⟩),he.put hi a3 f Z [47] ⟨⟨gn,Z⟩,trivial⟩ ⟨qq,qq,qq,qq,qq,qq,qq,qq,qq,qq,qq,qq,qq,qq,qq,qq,qq,qq,qq,qq,qq,qq,qq,qq,qq,qq,qq,qq,qq,qq,qq,qq,qq,qq,qq,qq,qq,qq,qq,qq,qq,qq,qq,qq,qq,qq,qq,qq,qq,qq,trivial,qq,trivial⟩,?_⟩
    try dsimp only
    rw [bE E 17,cR 17 cx Z]
    exact d
   ·exact λE θ a w hD hi hp he d=>have f:=he.h0.mT he 1 Z;sp 1 f Z λa f=>zD θ he hi f 21 Z Z Z d
   ·exact λE θ a w hD hi hp he d=>have b6:=hp.o 18 Z;have f:=he.h0.mP he 21 Z b6;zP f Z (nS Z Z (by decide)) λa f=>zD θ he hi f 22 Z Z Z d
   ·exact λE θ a w hD hi hp he d=>have d5:=hp.o 19 Z;have f:=he.h0.mP he 22 Z d5;sp 1 f Z λa f=>zD θ he hi f 23 Z Z Z d
   ·exact λE θ a w hD hi hp he d=>have f:=he.h0.mT he 0 Z;sp 1 f Z λa f=>zD θ he hi f 24 Z Z Z d
   ·exact λE θ a w hD hi hp he d=>have f:=he.h0.mT he 1 Z;sp 1 f Z λa f=>zD θ he hi f 25 Z Z Z d
   ·exact λE θ a w hD hi hp he d=>have gg:=hp.o 22 Z;have f:=he.h0.mP he 25 Z gg;zP f Z (tL Z Z (by decide)) λa f=>zD θ he hi f 26 Z Z Z d
   ·exact λE θ a w hD hi hp he d=>have iq:=hp.o 23 Z;have f:=he.h0.mP he 26 Z iq;zP f Z (nS Z Z (by decide)) λa f=>zD θ he hi f 27 Z Z Z d
   ·exact λE θ a w hD hi hp he d=>have d7:=hp.o 21 Z;have ij:=hp.o 24 Z;have f:=(he.h0.mP he 24 Z d7).mP he 27 Z ij;zP f Z (pIA Tryz.underlying23 lN Z Z o2) λa f=>zD θ he hi f 28 Z Z Z d
   ·exact λE θ a w hD hi hp he d=>have ii:=hp.o 25 Z;have f:=he.h0.mP he 28 Z ii;zE f d Z (bB eL Z (aV (j:=0) q0 Z)) λa w f d=>zD θ he hi f 29 Z Z Z d
   ·exact λE θ a w hD hi hp he d=>have d1:=hp.o 20 Z;have it:=hp.o 26 Z;have f:=(he.h0.mP he 23 Z d1).mP he 29 Z it;zP f Z (bS (cells:=[i6 (W (1 + (D.tmod 2))),.slice br.1 da.length br.2]) aHm Z Z) λa f=>zD θ he hi f 30 Z Z Z d
   ·exact λE θ a w hD hi hp he d=>have f:=he.h0.mT he 0 Z;sp 1 f Z λa f=>zD θ he hi f 31 Z Z Z d
   ·exact λE θ a w hD hi hp he d=>have f:=he.h0.mT he 1 Z;sp 1 f Z λa f=>zD θ he hi f 32 Z Z Z d
   ·exact λE θ a w hD hi hp he d=>have ip:=hp.o 29 Z;have f:=he.h0.mP he 32 Z ip;zP f Z (tL Z Z (by decide)) λa f=>zD θ he hi f 33 Z Z Z d
   ·exact λE θ a w hD hi hp he d=>have iu:=hp.o 30 Z;have f:=he.h0.mP he 33 Z iu;zP f Z (nS Z Z (by decide)) λa f=>zD θ he hi f 34 Z Z Z d
   ·exact λE θ a w hD hi hp he d=>have ix:=hp.o 28 Z;have du:=hp.o 31 Z;have f:=(he.h0.mP he 31 Z ix).mP he 34 Z du;zP f Z (pIA Tryz.underlying23 lN Z Z ri) λa f=>zD θ he hi f 35 Z Z Z d
   ·exact λE θ a w hD hi hp he d=>have gj:=hp.o 32 Z;have f:=he.h0.mP he 35 Z gj;zE f d Z (bB eL Z (aV (j:=0) q3 Z)) λa w f d=>zD θ he hi f 36 Z Z Z d
   ·exact λE θ a w hD hi hp he d=>have i0:=hp.o 33 Z;have f:=he.h0.mP he 36 Z i0;zP f Z (bS (cells:=[i6 1,.slice bq.1 df.length bq.2]) aHm Z Z) λa f=>zD θ he hi f 37 Z Z Z d
   ·exact λE θ a w hD hi hp he d=>have f:=he.h0.mT he 1 Z;sp 1 f Z λa f=>zD θ he hi f 38 Z Z Z d
   ·exact λE θ a w hD hi hp he d=>have mr:=hp.o 35 Z;have f:=he.h0.mP he 38 Z mr;zP f Z (tL Z Z (by decide)) λa f=>zD θ he hi f 39 Z Z Z d
   ·exact λE θ a w hD hi hp he d=>have kk:=hp.o 36 Z;have f:=he.h0.mP he 39 Z kk;zP f Z (nS Z Z (by decide)) λa f=>zD θ he hi f 40 Z Z Z d
   ·exact λE θ a w hD hi hp he d=>have kc:=hp.o 37 Z;have f:=he.h0.mP he 40 Z kc;sp 1 f Z λa f=>zD θ he hi f 41 Z Z Z d
   ·exact λE θ a w hD hi hp he d=>have f:=he.h0.mT he 0 Z;sp 1 f Z λa f=>zD θ he hi f 42 Z Z Z d
   ·exact λE θ a w hD hi hp he d=>have f:=he.h0.mT he 1 Z;sp 1 f Z λa f=>zD θ he hi f 43 Z Z Z d
   ·exact λE θ a w hD hi hp he d=>have mx:=hp.o 40 Z;have f:=he.h0.mP he 43 Z mx;zP f Z (tL Z Z (by decide)) λa f=>zD θ he hi f 44 Z Z Z d
   ·exact λE θ a w hD hi hp he d=>have mn:=hp.o 41 Z;have f:=he.h0.mP he 44 Z mn;zP f Z (nS Z Z (by decide)) λa f=>zD θ he hi f 45 Z Z Z d
   ·exact λE θ a w hD hi hp he d=>have j3:=hp.o 39 Z;have mb:=hp.o 42 Z;have f:=(he.h0.mP he 42 Z j3).mP he 45 Z mb;zP f Z (pIA Tryz.underlying23 lN Z Z rm) λa f=>zD θ he hi f 46 Z Z Z d
   ·exact λE θ a w hD hi hp he d=>have mg:=hp.o 43 Z;have f:=he.h0.mP he 46 Z mg;zE f d Z (bB eL Z (aV (j:=0) pa Z)) λa w f d=>zD θ he hi f 47 Z Z Z d
   ·exact λE θ a w hD hi hp he d=>have ka:=hp.o 38 Z;have jr:=hp.o 44 Z;have f:=(he.h0.mP he 41 Z ka).mP he 47 Z jr;zP f Z (bS (cells:=[i6 (W (1 + ((W (D.tdiv 2)).tmod 2))),.slice bp.1 c9.length bp.2]) aHm Z Z) λa f=>zD θ he hi f 48 Z Z Z d
   ·refine λE θ a w hD hi hp he d=>have i1:=hp.o 27 Z;have c5:=hp.o 34 Z;have j9:=hp.o 45 Z;have cx:=hD.f 2 Z hi;have gn:=hD.f 3 Z hi;?_
    try dsimp only at d
    rw [hi,cx] at d
    refine have f:=((he.h0.mP he 30 Z i1).mP he 37 Z c5).mP he 48 Z j9;gN (rows:=([((br.1,br.2),(⟨W (1 + (D.tmod 2)),da⟩:aD)),((bq.1,bq.2),(⟨1,df⟩:aD)),((bp.1,bp.2),(⟨W (1 + ((W (D.tdiv 2)).tmod 2)),c9⟩:aD))]:List (H2 × aD)).map (Kd.v bD)) (vs:=[(0,.agg #[i6 (W (1 + (D.tmod 2))),.slice br.1 da.length br.2]),(1,.agg #[i6 1,.slice bq.1 df.length bq.2]),(2,.agg #[i6 (W (1 + ((W (D.tdiv 2)).tmod 2))),.slice bp.1 c9.length bp.2])]) f d Z Z aI6 Z ⟨Z,Z,Z,Z,Z,Z,Z,Z,Z,trivial⟩ Z Z λra a w f d=>aN (eS (λds u a3=>have d:=((d.drop k2).pick k0).pick k1;?_))
    refine ⟨(qR θ 368 ⟨ra,none,0,(λ_=>(none,0))⟩),he.put hi a3 f Z [47] ⟨⟨gn,Z⟩,trivial⟩ ⟨qq,qq,qq,qq,qq,qq,qq,qq,qq,qq,qq,qq,qq,qq,qq,qq,qq,qq,qq,qq,qq,qq,qq,qq,qq,qq,qq,qq,qq,qq,qq,qq,qq,qq,qq,qq,qq,qq,qq,qq,qq,qq,qq,qq,qq,qq,qq,qq,qq,qq,trivial,qq,trivial⟩,?_⟩
    try dsimp only
    rw [bE E 46,cR 46 cx Z]
    exact d
   ·exact λE θ a w hD hi hp he d=>have dv:=hp.o 17 Z;have ir:=hp.o 46 Z;have f:=(he.h0.mP he 20 Z dv).mP he 49 Z ir;zP f Z (bS (cells:=[.slice (some ⟨(θ 136).b,0,none⟩) 3 3,.slice (some ⟨(θ 368).b,0,none⟩) 3 3]) aQ6 Z Z) λa f=>zD θ he hi f 50 Z Z Z d
   ·refine λE θ a w hD hi hp he d=>have cx:=hD.f 4 Z hi;?_
    try dsimp only at d
    rw [hi,cx] at d
    refine have f:=he.h0;zA f d aId Z λqx a w f d=>aN (eS (λds u a3=>have d:=d.drop k1;?_))
    refine ⟨(qR θ 384 ⟨qx,none,0,(λ_=>(none,0))⟩),he.put hi a3 f Z [] trivial ⟨qq,qq,qq,qq,qq,qq,qq,qq,qq,qq,qq,qq,qq,qq,qq,qq,qq,qq,qq,qq,qq,qq,qq,qq,qq,qq,qq,qq,qq,qq,qq,qq,qq,qq,qq,qq,qq,qq,qq,qq,qq,qq,qq,qq,qq,qq,qq,qq,qq,qq,qq,qq,trivial⟩,?_⟩
    try dsimp only
    rw [bE E 48,cR 48 cx Z]
    exact d
   ·refine λE θ a w hD hi hp he d=>have gn:=hp.o 47 Z;have d4:=hp.o 48 Z;?_
    try dsimp only at d
    rw [d4,hi] at d
    refine have f:=(he.h0.mP he 50 Z gn).mP he 51 Z d4;zW f d aJc u0 Z λw d=>zG θ he hi f Z ?_
    try dsimp only
    rw [eD 49 d4,bE E 49]
    exact d
   ·refine λE θ a w ap he d=>have f:=he.h0;have dv:=ap 17 Z;have ir:=ap 46 Z;have d4:=ap 48 Z;have cx:=ap 49 Z;have f:=f.more he 51 Z (onP d4);have f:=f.more he 2 Z (onT);have f:=f.more he 1 Z (onT);have f:=f.more he 0 Z (onT);?_
    try dsimp only at d
    rw [dv,ir,d4,cx] at d
    exact ⟨(θ 384).b,(θ 136).b,(θ 368).b,f.kp Z,d⟩
   rintro a w ⟨i4,gz,ib,f,d⟩
   obtain ⟨G,bk,jp,d,-⟩:=lend d k1
   have s9:RdT bD G 2 (sa ib) 3 ([(⟨W (1 + (D.tmod 2)),da⟩:aD),(⟨1,df⟩:aD),(⟨W (1 + ((W (D.tdiv 2)).tmod 2)),c9⟩:aD)]:List aD):=RdT.mk' wH (rs:=([((br.1,br.2),(⟨W (1 + (D.tmod 2)),da⟩:aD)),((bq.1,bq.2),(⟨1,df⟩:aD)),((bp.1,bp.2),(⟨W (1 + ((W (D.tdiv 2)).tmod 2)),c9⟩:aD))]:List (H2 × aD))) jp (by rintro r hr;simp only [List.mem_cons,List.not_mem_nil,or_false] at hr;rcases hr with rfl | rfl | rfl;exact (pz.mono bk);exact (qf.mono bk);exact (o5.mono bk))
   obtain ⟨G,bs,jm,d,-⟩:=lend d k1
   refine have nc:RdT aT G 1 (sa gz) 3 ([d0,dz,dy]:List (List Int)):=RdT.mk' pS (rs:=([((hd.1,hd.2),d0),((ca.1,ca.2),dz),((b7.1,b7.2),dy)]:List (H2 × (List Int)))) jm (by rintro r hr;simp only [List.mem_cons,List.not_mem_nil,or_false] at hr;rcases hr with rfl | rfl | rfl;exact ((oy.mono bk).mono bs);exact ((pj.mono bk).mono bs);exact ((q1.mono bk).mono bs));ua _ _ (zS λK h=>sp 1 f Z λa f=>zP f Z (nS Z Z (by decide)) λa f=>sp 2 f Z λa f=>zP f Z (tL Z Z (by decide)) λa f=>zP f Z (nS Z Z (by decide)) λa f=>sp 2 f Z λa f=>zP f Z (tL Z Z (by decide)) λa f=>zP f Z (nS Z Z (by decide)) λa f=>sp 1 f Z λa f=>gN (rows:=([W ((D.tmod 4) - 1),W (((W (D.tdiv 4)).tmod 4) - 1),W (((W (D.tdiv 16)).tmod 4) - 1)]:List Int).map aF) (vs:=[(0,i6 (W ((D.tmod 4) - 1))),(1,i6 (W (((W (D.tdiv 4)).tmod 4) - 1))),(2,i6 (W (((W (D.tdiv 16)).tmod 4) - 1)))]) f d Z Z eV Z ⟨Z,Z,Z,Z,Z,Z,Z,Z,Z,trivial⟩ Z Z λvr a w f d=>sp 1 f Z λa f=>?_)
   refine zT h (zS λK h=>sp 1 f Z λa f=>zP f Z (nS Z Z (by decide)) λa f=>sp 1 f Z λa f=>zP f Z (tL Z Z (by decide)) λa f=>zP f Z (nS Z Z (by decide)) λa f=>zP f Z (bS (cells:=[i6 (D.tmod 3),i6 ((W (D.tdiv 3)).tmod 3)]) xR Z Z) λa f=>sp 1 f Z λa f=>zP f Z (tL Z Z (by decide)) λa f=>zP f Z (nS Z Z (by decide)) λa f=>sp 1 f Z λa f=>zP f Z (tL Z Z (by decide)) λa f=>zP f Z (nS Z Z (by decide)) λa f=>?_)
   refine zP f Z (bS (cells:=[i6 ((W (D.tdiv 9)).tmod 3),i6 ((W (D.tdiv 5)).tmod 3)]) xR Z Z) λa f=>sp 1 f Z λa f=>zP f Z (tL Z Z (by decide)) λa f=>zP f Z (nS Z Z (by decide)) λa f=>sp 1 f Z λa f=>zP f Z (tL Z Z (by decide)) λa f=>zP f Z (nS Z Z (by decide)) λa f=>zP f Z (bS (cells:=[i6 ((W (D.tdiv 2)).tmod 3),i6 ((W (D.tdiv 7)).tmod 3)]) xR Z Z) λa f=>gN (rows:=([(⟨D.tmod 3,(W (D.tdiv 3)).tmod 3⟩:aA),(⟨(W (D.tdiv 9)).tmod 3,(W (D.tdiv 5)).tmod 3⟩:aA),(⟨(W (D.tdiv 2)).tmod 3,(W (D.tdiv 7)).tmod 3⟩:aA)]:List aA).map aM) (vs:=[(0,.agg #[i6 (D.tmod 3),i6 ((W (D.tdiv 3)).tmod 3)]),(1,.agg #[i6 ((W (D.tdiv 9)).tmod 3),i6 ((W (D.tdiv 5)).tmod 3)]),(2,.agg #[i6 ((W (D.tdiv 2)).tmod 3),i6 ((W (D.tdiv 7)).tmod 3)])]) f d Z Z aHi Z ⟨Z,Z,Z,Z,Z,Z,Z,Z,Z,trivial⟩ Z Z λvp a w f d=>sp 1 f Z λa f=>zP f Z (nS Z Z (by decide)) λa f=>have p9:=aBe d m0;aH F λna ik F=>zP f Z (pSl Tryz.underlying30 pP Z Z p9 Z Z ik) λa f=>?_
   refine sp 1 f Z λa f=>zT h (wp_seq_k λK53 r0=>zS λK h=>zN f d qC m2 Z λa w f d=>sp 2 f Z λa f=>aH F λqd ok F=>zQ (v:=.bool qd) f d (eN 7) Z (λw d=>by obtain ⟨G1,bu,ax,d,az⟩:=lend d k1;obtain ⟨G2,b5,cf,d,cj⟩:=lend d k0;exact (sO (⟨([d0,dz,dy]:List (List Int)),([(⟨W (1 + (D.tmod 2)),da⟩:aD),(⟨1,df⟩:aD),(⟨W (1 + ((W (D.tdiv 2)).tmod 2)),c9⟩:aD)]:List aD)⟩:aB) ([W ((D.tmod 4) - 1),W (((W (D.tdiv 4)).tmod 4) - 1),W (((W (D.tdiv 16)).tmod 4) - 1)]:List Int) na ((nc.mono bu).mono b5) (((s9.mono bs).mono bu).mono b5) (ax.mono b5) (Rd.sub cf ik) d ok).mono λe w h=>⟨h.1,((az _ _ ((cj _ _ h.2).unpick k0)).unpick k1)⟩) λa w f d=>sp 1 f Z λa f=>zT h (zI f Z F ?_ ?_)) <;> intro F
   ·refine zS λK h=>sp 1 f Z λa f=>zT h (wp_ret (aL (bG (aL (aL (have cd:=cB F cd;have F:=ov _ cd;bG (aL ?_)))))))
    obtain rfl:=F
    exact have d:=d.down bs;have d:=d.down bk;have d:=d.down c4;have d:=((d.drop k2).drop k1).drop k0;zO1 Tryz.results3 f Z ⟨Z,d⟩
   ·refine wp_skip (r0 _ _ (wp_seq_k λK56 s1=>bK (sp 1 f Z λa f=>zP f Z (nS Z Z (by decide)) λa f=>sp 1 f Z λa f=>zP f Z (nS Z Z (by decide)) λa f=>sp 1 f Z λa f=>zP f Z (tL Z Z (by decide)) λa f=>zP f Z (nS Z Z (by decide)) λa f=>sp 1 f Z λa f=>aH F λdn m3 F=>zQ (v:=.agg #[i6 dn.Lo,i6 dn.Hi]) f d (eN 10) Z (λw d=>fJ (D.tmod 4) (W ((D.tmod 4) + ((W (D.tdiv 3)).tmod 3))) d m3) λa w f d=>?_)))
    refine sp 1 f Z λa f=>zP f Z (tL Z Z (by decide)) λa f=>zP f Z (nS Z Z (by decide)) λa f=>sp 1 f Z λa f=>zP f Z (tL Z Z (by decide)) λa f=>zP f Z (nS Z Z (by decide)) λa f=>sp 1 f Z λa f=>zP f Z (tL Z Z (by decide)) λa f=>zP f Z (nS Z Z (by decide)) λa f=>sp 1 f Z λa f=>aH F λdp n9 F=>zQ (v:=.agg #[i6 dp.Lo,i6 dp.Hi]) f d (eN 10) Z (λw d=>fJ ((W (D.tdiv 5)).tmod 3) (W (((W (D.tdiv 5)).tmod 3) + ((W (D.tdiv 7)).tmod 2))) d n9) λa w f d=>sp 1 f Z λa f=>zP f Z (nS Z Z (by decide)) λa f=>?_
    refine sp 1 f Z λa f=>zP f Z (nS Z Z (by decide)) λa f=>sp 1 f Z λa f=>zP f Z (tL Z Z (by decide)) λa f=>zP f Z (nS Z Z (by decide)) λa f=>sp 1 f Z λa f=>zP f Z (bS (cells:=[i6 dn.Lo,i6 dn.Hi,i6 dp.Lo,i6 dp.Hi,i6 (D.tmod 6),i6 (W ((D.tmod 6) + ((W (D.tdiv 4)).tmod 4)))]) aLl Z Z) λa f=>sp 1 f Z λa f=>zP f Z (tL Z Z (by decide)) λa f=>zP f Z (nS Z Z (by decide)) λa f=>sp 1 f Z λa f=>aH F λdm og F=>zQ (v:=.agg #[i6 dm.Lo,i6 dm.Hi]) f d (eN 10) Z (λw d=>fJ 1 (W (1 + ((W (D.tdiv 9)).tmod 3))) d og) λa w f d=>sp 1 f Z λa f=>?_
    refine zP f Z (tL Z Z (by decide)) λa f=>zP f Z (nS Z Z (by decide)) λa f=>sp 1 f Z λa f=>zP f Z (tL Z Z (by decide)) λa f=>zP f Z (nS Z Z (by decide)) λa f=>sp 1 f Z λa f=>zP f Z (tL Z Z (by decide)) λa f=>zP f Z (nS Z Z (by decide)) λa f=>sp 1 f Z λa f=>zP f Z (bS (cells:=[i6 dm.Lo,i6 dm.Hi,i6 0,i6 0,i6 ((W (D.tdiv 2)).tmod 9),i6 (W (((W (D.tdiv 2)).tmod 9) + ((W (D.tdiv 6)).tmod 5)))]) aLl Z Z) λa f=>gN (rows:=([(⟨dn,dp,D.tmod 6,W ((D.tmod 6) + ((W (D.tdiv 4)).tmod 4))⟩:aG),(⟨dm,(⟨0,0⟩:aE),(W (D.tdiv 2)).tmod 9,W (((W (D.tdiv 2)).tmod 9) + ((W (D.tdiv 6)).tmod 5))⟩:aG)]:List aG).map aX) (vs:=[(0,.agg #[i6 dn.Lo,i6 dn.Hi,i6 dp.Lo,i6 dp.Hi,i6 (D.tmod 6),i6 (W ((D.tmod 6) + ((W (D.tdiv 4)).tmod 4)))]),(1,.agg #[i6 dm.Lo,i6 dm.Hi,i6 0,i6 0,i6 ((W (D.tdiv 2)).tmod 9),i6 (W (((W (D.tdiv 2)).tmod 9) + ((W (D.tdiv 6)).tmod 5)))])]) f d Z Z aLk Z ⟨Z,Z,Z,Z,Z,Z,trivial⟩ Z Z λi7 a w f d=>sp 1 f Z λa f=>zP f Z (nS Z Z (by decide)) λa f=>sp 1 f Z λa f=>?_
    refine have p5:=aBe d m0;aH F λgb iy F=>zP f Z (pSl Tryz.underlying31 tT Z Z p5 Z Z iy) λa f=>sp 1 f Z λa f=>aN ?_
    obtain ⟨G,gq,jn,d,-⟩:=lend d k0
    refine s1 _ _ (zS λK h=>sp 1 f Z λa f=>zP f Z (nS Z Z (by decide)) λa f=>sp 1 f Z λa f=>zP f Z (tL Z Z (by decide)) λa f=>zP f Z (nS Z Z (by decide)) λa f=>sp 1 f Z λa f=>zP f Z (bS (cells:=[i6 (D.tmod 3),i6 4,i6 100,i6 (W (2 + ((W (D.tdiv 3)).tmod 9))),.slice none 0 0]) aPz Z Z) λa f=>zA f d aE9 Z λcv a w f d=>zW f d aDj u0 Z λw d=>zT h (wp_seq_k λK58 sx=>zS λK h=>?_))
    refine sp 1 f Z λa f=>zP f Z (nS Z Z (by decide)) λa f=>sp 1 f Z λa f=>zT h (wp_block (aH F λkx q6 F=>?_))
    let S60:(Int × (List aC))→Act→World→Prop:=(λ(zz:Int × (List aC)) a w=>∃ (c0:Option Addr) (c1:Nat),Has 515 a [(14,.slice (sa b0) 10 10),(15,i6 D),(19,.slice (aD4 (sa i7) 2 (0:Int).toNat 6) gb.length (2 - (0:Int).toNat)),(20,pq cv),(181,i6 D),(331,i6 (D.tmod 4)),(332,i6 zz.1)]∧Ctx G (.row c0 c1 (zz.2.map aI) 47 4::.box cv [i6 (D.tmod 3),i6 4,i6 100,i6 (W (2 + ((W (D.tdiv 3)).tmod 9))),.slice c0 zz.2.length c1] 37::Lf) w)
    have o0:∀ (zz:Int × (List aC)) a w,kx=.go zz→S60 zz a w→K58 a w:=by
     rintro ⟨q,b9⟩ a w rfl ⟨c0,c1,f,d⟩
     refine have F:=bI F;sx _ _ (zS λK h=>sp 1 f Z λa f=>zP f Z (nS Z Z (by decide)) λa f=>sp 3 f Z λa f=>zP f Z (nS Z Z (by decide)) λa f=>sp 1 f Z λa f=>zP f Z (tL Z Z (by decide)) λa f=>zP f Z (bS (cells:=[i6 D,i6 (D.tmod 60),i6 (W (D.tdiv 4))]) aJe Z Z) λa f=>sp 1 f Z λa f=>zP f Z (nS Z Z (by decide)) λa f=>sp 1 f Z λa f=>zP f Z (tL Z Z (by decide)) λa f=>?_)
     refine zP f Z (nS Z Z (by decide)) λa f=>gN (rows:=([D.tmod 100,(W (D.tdiv 9)).tmod 90]:List Int).map aF) (vs:=[(0,i6 (D.tmod 100)),(1,i6 ((W (D.tdiv 9)).tmod 90))]) f d Z Z eV Z ⟨Z,Z,Z,Z,Z,Z,trivial⟩ Z Z λxj a w f d=>aH F λj0 nk F=>zQ (v:=.bool j0) f d (eN 8) Z (λw d=>by obtain ⟨G1,bu,ax,d,az⟩:=lend d k0;exact (tE (D.tmod 5) gb (⟨D,D.tmod 60,W (D.tdiv 4)⟩:dN) ([D.tmod 100,(W (D.tdiv 9)).tmod 90]:List Int) ((jn.sub iy).mono bu) ax d nk).mono λe w h=>⟨h.1,((az _ _ h.2).unpick k0)⟩) λa w f d=>sp 2 f Z λa f=>aH F λt4 kz F=>cV 6 (λa=>Has 515 a [(14,.slice (sa b0) 10 10),(181,i6 D),(393,.bool t4)]) d ?_ ?_
     ·cases hb:(!j0)
      ·rw [hb] at f
       refine have F:=eG hb kz;zN f d lC m2 Z λa w f d=>sp 1 f Z λa f=>zP f Z (nS Z Z (by decide)) λa f=>aH F λp3 ni F=>zQ (v:=.bool p3) f d (eN 9) Z (λw d=>by obtain ⟨G1,bu,ax,d,az⟩:=lend d k1;exact (tM (⟨D.tmod 3,4,100,W (2 + ((W (D.tdiv 3)).tmod 9)),b9⟩:aJ) (D.tmod 9) ax d ni).mono λe w h=>⟨h.1,((az _ _ h.2).unpick k1)⟩) λa w f d=>sp 2 f Z λa f=>?_
       obtain rfl:=sj F
       exact aN ⟨f.kp Z,d⟩
      ·rw [hb] at f
       have F:=cO hb kz
       obtain rfl:=sj F
       exact sp 6 f Z λa f=>aN ⟨f.kp Z,d⟩
     intro a w ⟨f,d⟩
     refine zT h (zI f Z F ?_ ?_) <;> intro F
     ·refine zS λK h=>sp 1 f Z λa f=>zT h (wp_ret (bG (aL (aL (have cd:=cB F cd;have F:=ov _ cd;bG (aL ?_))))))
      obtain rfl:=F
      exact have d:=d.down gq;have d:=d.down bs;have d:=d.down bk;have d:=d.down c4;have d:=((d.drop k2).drop k1).drop k0;zO1 Tryz.results3 f Z ⟨Z,d⟩
     ·exact wp_skip (r4 _ _ (bK (sp 2 f Z λa f=>aN (have d:=((d.drop k2).drop k1).drop k0;have d:=d.down gq;have d:=d.down bs;have d:=d.down bk;ry (W (D + 1)) _ _ (sj F).symm ⟨f.kp Z,d⟩))))
    have v8:∀ r,kx=.out r→r=t6:=by
     rintro r rfl
     exact sj F
    refine have d:=d.nilRow 47 4;have d:=((d.drop k4).drop k3).drop k2;cF N (cE (S:=S60) (x:=kx) ?_ N (0,([]:List aC)) _ _ ⟨none,0,f.kp Z,d⟩ q6)
    clear F f d
    rintro ⟨q,b9⟩ vz a w KB60 ⟨c0,c1,f,d⟩ F gk pg
    refine zS λK h=>sp 1 f Z λa f=>zT h (wp_seq_k λK64 st=>zI f Z F ?_ ?_) <;> intro F
    ·refine wp_skip (st _ _ (wp_seq_k λK65 r6=>wp_block (zS λK h=>sp 2 f Z λa f=>zT h (aH F λxd ny F=>aH F λv7 n0 F=>aH F λup jt F=>aH F λus kd F=>aH F λvc js F=>aH F λbb ob F=>aH F λuq jy F=>?_))))
     refine have d:=d.nilRow 0 0;jV (λθ=>(f0 14 (.slice (sa b0) 10 10)::f0 15 (i6 D)::f0 19 (.slice (aD4 (sa i7) 2 (0:Int).toNat 6) gb.length (2 - (0:Int).toNat))::f0 20 (pq cv)::f0 21 (i6 q)::f0 181 (i6 D)::f0 331 (i6 (D.tmod 4))::f0 332 (i6 q)::f1 0 335 (.pointer (some ⟨cv,4,none⟩))::f1 1 336 (.slice c0 b9.length c1)::f1 2 337 (i6 D)::f1 3 338 (i6 q)::f1 4 339 (i6 (W (q + 2)))::f1 5 340 (i6 (W (D.tdiv (W (q + 2)))))::f1 6 341 (i6 ((W (D.tdiv (W (q + 2)))).tmod 5))::f1 7 342 (i6 D)::f1 8 343 (i6 q)::f1 9 344 (i6 (W (q + 3)))::f1 10 345 (i6 (W (D.tdiv (W (q + 3)))))::f1 11 346 (i6 ((W (D.tdiv (W (q + 3)))).tmod 4))::f1 12 347 (i6 (W (1 + ((W (D.tdiv (W (q + 3)))).tmod 4))))::f1 13 348 (i6 D)::f1 14 349 (i6 q)::f1 15 350 (i6 (W (q + 4)))::f1 16 351 (i6 (W (D.tdiv (W (q + 4)))))::f1 17 352 (i6 ((W (D.tdiv (W (q + 4)))).tmod 3))::f1 18 353 (i6 D)::f1 19 354 (i6 q)::f1 20 355 (i6 (W (q + 4)))::f1 21 356 (i6 (W (D.tdiv (W (q + 4)))))::f1 22 357 (i6 ((W (D.tdiv (W (q + 4)))).tmod 3))::f1 23 358 (i6 D)::f1 24 359 (i6 q)::f1 25 360 (i6 (W (q + 5)))::f1 26 361 (i6 (W (D.tdiv (W (q + 5)))))::f1 27 362 (i6 ((W (D.tdiv (W (q + 5)))).tmod 3))::f1 28 363 (i6 (W (((W (D.tdiv (W (q + 4)))).tmod 3) + ((W (D.tdiv (W (q + 5)))).tmod 3))))::f1 29 364 (.agg #[i6 bb.Lo,i6 bb.Hi])::f1 30 365 (.agg #[i6 ((W (D.tdiv (W (q + 2)))).tmod 5),i6 (W (1 + ((W (D.tdiv (W (q + 3)))).tmod 4))),i6 bb.Lo,i6 bb.Hi])::f1 31 366 (.slice (some ⟨(θ 248).b,0,none⟩) 1 1)::f1 32 367 (.slice ((θ 256).p) ((b9++[(⟨(W (D.tdiv (W (q + 2)))).tmod 5,W (1 + ((W (D.tdiv (W (q + 3)))).tmod 4)),bb⟩:aC)]).length) ((θ 256).c))::f1 33 368 (.pointer (some ⟨cv,4,none⟩))::[])) (λE θ=>(bif E 31 then .row (some ⟨(θ 248).b,0,none⟩) 1 (([(⟨(W (D.tdiv (W (q + 2)))).tmod 5,W (1 + ((W (D.tdiv (W (q + 3)))).tmod 4)),bb⟩:aC)]:List aC).map aI) 47 4 else .row none 0 [] 0 0)::(bif E 32 then .row ((θ 256).p) ((θ 256).c) ((b9++[(⟨(W (D.tdiv (W (q + 2)))).tmod 5,W (1 + ((W (D.tdiv (W (q + 3)))).tmod 4)),bb⟩:aC)]).map aI) 47 4 else .row c0 c1 (b9.map aI) 47 4)::(bif E 34 then .box cv [i6 (D.tmod 3),i6 4,i6 100,i6 (W (2 + ((W (D.tdiv 3)).tmod 9))),.slice ((θ 256).p) ((b9++[(⟨(W (D.tdiv (W (q + 2)))).tmod 5,W (1 + ((W (D.tdiv (W (q + 3)))).tmod 4)),bb⟩:aC)]).length) ((θ 256).c)] 37 else .box cv [i6 (D.tmod 3),i6 4,i6 100,i6 (W (2 + ((W (D.tdiv 3)).tmod 9))),.slice c0 b9.length c1] 37)::Lf) [(34,1),(34,32)] (λa w=>∃ (j6:Nat) (g2:Option Addr) (gx:Nat),Has 515 a [(14,.slice (sa b0) 10 10),(15,i6 D),(19,.slice (aD4 (sa i7) 2 (0:Int).toNat 6) gb.length (2 - (0:Int).toNat)),(20,pq cv),(181,i6 D),(331,i6 (D.tmod 4)),(332,i6 q)]∧Ctx G (.row (sa j6) 1 (([(⟨(W (D.tdiv (W (q + 2)))).tmod 5,W (1 + ((W (D.tdiv (W (q + 3)))).tmod 4)),bb⟩:aC)]:List aC).map aI) 47 4::.row g2 gx ((b9++[(⟨(W (D.tdiv (W (q + 2)))).tmod 5,W (1 + ((W (D.tdiv (W (q + 3)))).tmod 4)),bb⟩:aC)]).map aI) 47 4::.box cv [i6 (D.tmod 3),i6 4,i6 100,i6 (W (2 + ((W (D.tdiv 3)).tmod 9))),.slice g2 ((b9++[(⟨(W (D.tdiv (W (q + 2)))).tmod 5,W (1 + ((W (D.tdiv (W (q + 3)))).tmod 4)),bb⟩:aC)]).length) gx] 37::Lf) w) aU (by kernel_rfl) (by kernel_rfl) (iW.of f ⟨Z,Z,Z,Z,Z,Z,Z,Z,trivial,trivial,trivial,trivial,trivial,trivial,trivial,trivial,trivial,trivial,trivial,trivial,trivial,trivial,trivial,trivial,trivial,trivial,trivial,trivial,trivial,trivial,trivial,trivial,trivial,trivial,trivial,trivial,trivial,trivial,trivial,trivial,trivial,trivial,trivial⟩) d ⟨?_,?_,?_,?_,?_,?_,?_,?_,?_,?_,?_,?_,?_,?_,?_,?_,?_,?_,?_,?_,?_,?_,?_,?_,?_,?_,?_,?_,?_,?_,?_,?_,?_,?_,?_,trivial⟩ ?_ ?_
     ·exact λE θ a w hD hi hp he d=>have f:=he.h0.mT he 3 Z;zP f Z (pFA fR Z) λa f=>zD θ he hi f 8 Z Z Z d
     ·refine λE θ a w hD hi hp he d=>have e0:=hp.o 0 Z;have c5:=hD.f 0 Z hi;?_
      try dsimp only at d
      rw [c5] at d
      refine have f:=he.h0.mP he 8 Z e0;zL f d sL m2 Z λa w f d=>zD θ he hi f 9 Z Z Z ?_
      try dsimp only
      rw [cR 1 c5 Z]
      exact d
     ·exact λE θ a w hD hi hp he d=>have f:=he.h0.mT he 1 Z;sp 1 f Z λa f=>zD θ he hi f 10 Z Z Z d
     ·exact λE θ a w hD hi hp he d=>have f:=he.h0.mT he 4 Z;sp 1 f Z λa f=>zD θ he hi f 11 Z Z Z d
     ·exact λE θ a w hD hi hp he d=>have e3:=hp.o 3 Z;have f:=he.h0.mP he 11 Z e3;sp 1 f Z λa f=>zD θ he hi f 12 Z Z Z d
     ·exact λE θ a w hD hi hp he d=>have e2:=hp.o 2 Z;have e4:=hp.o 4 Z;have f:=(he.h0.mP he 10 Z e2).mP he 12 Z e4;zP f Z (tL Z Z (aEd ny)) λa f=>zD θ he hi f 13 Z Z Z d
     ·exact λE θ a w hD hi hp he d=>have e5:=hp.o 5 Z;have f:=he.h0.mP he 13 Z e5;zP f Z (nS Z Z (by decide)) λa f=>zD θ he hi f 14 Z Z Z d
     ·exact λE θ a w hD hi hp he d=>have f:=he.h0.mT he 1 Z;sp 1 f Z λa f=>zD θ he hi f 15 Z Z Z d
     ·exact λE θ a w hD hi hp he d=>have f:=he.h0.mT he 4 Z;sp 1 f Z λa f=>zD θ he hi f 16 Z Z Z d
     ·exact λE θ a w hD hi hp he d=>have e8:=hp.o 8 Z;have f:=he.h0.mP he 16 Z e8;sp 1 f Z λa f=>zD θ he hi f 17 Z Z Z d
     ·exact λE θ a w hD hi hp he d=>have e7:=hp.o 7 Z;have e9:=hp.o 9 Z;have f:=(he.h0.mP he 15 Z e7).mP he 17 Z e9;zP f Z (tL Z Z (aEd n0)) λa f=>zD θ he hi f 18 Z Z Z d
     ·exact λE θ a w hD hi hp he d=>have db:=hp.o 10 Z;have f:=he.h0.mP he 18 Z db;zP f Z (nS Z Z (by decide)) λa f=>zD θ he hi f 19 Z Z Z d
     ·exact λE θ a w hD hi hp he d=>have cn:=hp.o 11 Z;have f:=he.h0.mP he 19 Z cn;sp 1 f Z λa f=>zD θ he hi f 20 Z Z Z d
     ·exact λE θ a w hD hi hp he d=>have f:=he.h0.mT he 1 Z;sp 1 f Z λa f=>zD θ he hi f 21 Z Z Z d
     ·exact λE θ a w hD hi hp he d=>have f:=he.h0.mT he 4 Z;sp 1 f Z λa f=>zD θ he hi f 22 Z Z Z d
     ·exact λE θ a w hD hi hp he d=>have bc:=hp.o 14 Z;have f:=he.h0.mP he 22 Z bc;sp 1 f Z λa f=>zD θ he hi f 23 Z Z Z d
     ·exact λE θ a w hD hi hp he d=>have dc:=hp.o 13 Z;have dg:=hp.o 15 Z;have f:=(he.h0.mP he 21 Z dc).mP he 23 Z dg;zP f Z (tL Z Z (aEd jt)) λa f=>zD θ he hi f 24 Z Z Z d
     ·exact λE θ a w hD hi hp he d=>have bm:=hp.o 16 Z;have f:=he.h0.mP he 24 Z bm;zP f Z (nS Z Z (by decide)) λa f=>zD θ he hi f 25 Z Z Z d
     ·exact λE θ a w hD hi hp he d=>have f:=he.h0.mT he 1 Z;sp 1 f Z λa f=>zD θ he hi f 26 Z Z Z d
     ·exact λE θ a w hD hi hp he d=>have f:=he.h0.mT he 4 Z;sp 1 f Z λa f=>zD θ he hi f 27 Z Z Z d
     ·exact λE θ a w hD hi hp he d=>have d5:=hp.o 19 Z;have f:=he.h0.mP he 27 Z d5;sp 1 f Z λa f=>zD θ he hi f 28 Z Z Z d
     ·exact λE θ a w hD hi hp he d=>have b6:=hp.o 18 Z;have d1:=hp.o 20 Z;have f:=(he.h0.mP he 26 Z b6).mP he 28 Z d1;zP f Z (tL Z Z (aEd kd)) λa f=>zD θ he hi f 29 Z Z Z d
     ·exact λE θ a w hD hi hp he d=>have d7:=hp.o 21 Z;have f:=he.h0.mP he 29 Z d7;zP f Z (nS Z Z (by decide)) λa f=>zD θ he hi f 30 Z Z Z d
     ·exact λE θ a w hD hi hp he d=>have f:=he.h0.mT he 1 Z;sp 1 f Z λa f=>zD θ he hi f 31 Z Z Z d
     ·exact λE θ a w hD hi hp he d=>have f:=he.h0.mT he 4 Z;sp 1 f Z λa f=>zD θ he hi f 32 Z Z Z d
     ·exact λE θ a w hD hi hp he d=>have ij:=hp.o 24 Z;have f:=he.h0.mP he 32 Z ij;sp 1 f Z λa f=>zD θ he hi f 33 Z Z Z d
     ·exact λE θ a w hD hi hp he d=>have iq:=hp.o 23 Z;have ii:=hp.o 25 Z;have f:=(he.h0.mP he 31 Z iq).mP he 33 Z ii;zP f Z (tL Z Z (aEd js)) λa f=>zD θ he hi f 34 Z Z Z d
     ·exact λE θ a w hD hi hp he d=>have it:=hp.o 26 Z;have f:=he.h0.mP he 34 Z it;zP f Z (nS Z Z (by decide)) λa f=>zD θ he hi f 35 Z Z Z d
     ·exact λE θ a w hD hi hp he d=>have gg:=hp.o 22 Z;have i1:=hp.o 27 Z;have f:=(he.h0.mP he 30 Z gg).mP he 35 Z i1;sp 1 f Z λa f=>zD θ he hi f 36 Z Z Z d
     ·exact λE θ a w hD hi hp he d=>have dv:=hp.o 17 Z;have ix:=hp.o 28 Z;have f:=(he.h0.mP he 25 Z dv).mP he 36 Z ix;zQ (v:=.agg #[i6 bb.Lo,i6 bb.Hi]) f d (eN 10) Z (λw d=>fJ ((W (D.tdiv (W (q + 4)))).tmod 3) (W (((W (D.tdiv (W (q + 4)))).tmod 3) + ((W (D.tdiv (W (q + 5)))).tmod 3))) d ob) λa w f d=>zD θ he hi f 37 Z Z Z d
     ·exact λE θ a w hD hi hp he d=>have e6:=hp.o 6 Z;have cy:=hp.o 12 Z;have ip:=hp.o 29 Z;have f:=((he.h0.mP he 14 Z e6).mP he 20 Z cy).mP he 37 Z ip;zP f Z (bS (cells:=[i6 ((W (D.tdiv (W (q + 2)))).tmod 5),i6 (W (1 + ((W (D.tdiv (W (q + 3)))).tmod 4))),i6 bb.Lo,i6 bb.Hi]) aLe Z Z) λa f=>zD θ he hi f 38 Z Z Z d
     ·refine λE θ a w hD hi hp he d=>have iu:=hp.o 30 Z;?_
      try dsimp only at d
      rw [hi] at d
      refine have f:=he.h0.mP he 38 Z iu;gN (rows:=([(⟨(W (D.tdiv (W (q + 2)))).tmod 5,W (1 + ((W (D.tdiv (W (q + 3)))).tmod 4)),bb⟩:aC)]:List aC).map aI) (vs:=[(0,.agg #[i6 ((W (D.tdiv (W (q + 2)))).tmod 5),i6 (W (1 + ((W (D.tdiv (W (q + 3)))).tmod 4))),i6 bb.Lo,i6 bb.Hi])]) f d Z Z aBo Z ⟨Z,Z,Z,trivial⟩ Z Z λqs a w f d=>aN (eS (λds u a3=>have d:=d.drop k1;?_))
      refine ⟨(qR θ 248 ⟨qs,none,0,(λ_=>(none,0))⟩),he.put hi a3 f Z [] trivial ⟨qq,qq,qq,qq,qq,qq,qq,qq,qq,qq,qq,qq,qq,qq,qq,qq,qq,qq,qq,qq,qq,qq,qq,qq,qq,qq,qq,qq,qq,qq,qq,qq,qq,qq,qq,qq,qq,qq,qq,qq,qq,qq,trivial⟩,?_⟩
      try dsimp only
      rw [bE E 31]
      exact d
     ·refine λE θ a w hD hi hp he d=>have e1:=hp.o 1 Z;have du:=hp.o 31 Z;have c5:=hD.f 1 Z hi;?_
      try dsimp only at d
      rw [du,hi,c5] at d
      refine have f:=(he.h0.mP he 9 Z e1).mP he 39 Z du;mV (xs:=b9) (ys:=([(⟨(W (D.tdiv (W (q + 2)))).tmod 5,W (1 + ((W (D.tdiv (W (q + 3)))).tmod 4)),bb⟩:aC)]:List aC)) f d Z Z aBo Z Z Z Z Z dX (gL d m0) (λ_ _=>u1) (by simpa using cZ jy) λoz rd a w f d=>aN (eS (λds u a3=>?_))
      refine ⟨(qR θ 256 ⟨0,oz,rd,(λ_=>(none,0))⟩),he.put hi a3 f Z [] trivial ⟨qq,qq,qq,qq,qq,qq,qq,qq,qq,qq,qq,qq,qq,qq,qq,qq,qq,qq,qq,qq,qq,qq,qq,qq,qq,qq,qq,qq,qq,qq,qq,qq,qq,qq,qq,qq,qq,qq,qq,qq,qq,qq,trivial⟩,?_⟩
      try dsimp only
      rw [eD 32 du,bE E 32,cR 32 c5 Z]
      exact d
     ·exact λE θ a w hD hi hp he d=>have f:=he.h0.mT he 3 Z;zP f Z (pFA fR Z) λa f=>zD θ he hi f 41 Z Z Z d
     ·refine λE θ a w hD hi hp he d=>have gj:=hp.o 32 Z;have i0:=hp.o 33 Z;?_
      try dsimp only at d
      rw [hi] at d
      refine have f:=(he.h0.mP he 40 Z gj).mP he 41 Z i0;zW f d aJa u2 Z λw d=>zG θ he hi f Z ?_
      try dsimp only
      rw [bE E 34]
      exact d
     ·refine λE θ a w ap he d=>have f:=he.h0;have du:=ap 31 Z;have gj:=ap 32 Z;have c5:=ap 34 Z;have f:=f.more he 7 Z (onT);have f:=f.more he 6 Z (onT);have f:=f.more he 5 Z (onT);have f:=f.more he 3 Z (onT);have f:=f.more he 2 Z (onT);have f:=f.more he 1 Z (onT);have f:=f.more he 0 Z (onT);?_
      try dsimp only at d
      rw [du,gj,c5] at d
      exact ⟨(θ 248).b,(θ 256).p,(θ 256).c,f.kp Z,d⟩
     rintro a w ⟨j6,g2,gx,f,d⟩
     exact r6 _ _ (bK (sp 2 f Z λa f=>aN (have d:=d.drop k0;pg (W (q + 1),(b9++[(⟨(W (D.tdiv (W (q + 2)))).tmod 5,W (1 + ((W (D.tdiv (W (q + 3)))).tmod 4)),bb⟩:aC)])) _ _ (sj F).symm ⟨g2,gx,f.kp Z,d⟩)))
    ·exact wp_exit (aP (aP (have gk:=cB F gk;cX (o0 _ _ _ gk ⟨c0,c1,f.kp Z,d⟩))))
  ·exact wp_exit (aP (aP (have cd:=cB F cd;cX (si _ _ _ cd ⟨f.kp Z,d⟩))))
 have r5:∀ r,x4=.out r→r=gu:=by
  rintro r rfl
  exact sj F
 refine cF N (cE (S:=S4) (x:=x4) ?_ N 0 _ _ ⟨f.kp Z,d⟩ sd)
 clear F f d
 rintro x sg a w KB4 ⟨f,d⟩ F c8 ty
 refine zS λK h=>sp 1 f Z λa f=>zT h (wp_seq_k λK68 tx=>zI f Z F ?_ ?_) <;> intro F
 ·refine wp_skip (tx _ _ (wp_seq_k λK69 su=>wp_block (zS λK h=>aH F λH qi F=>?_)))
  obtain ⟨rq,p4⟩:=cK d m0 qi
  refine zP f Z (pIA Tryz.underlying22 cS Z Z rq) λa f=>zE f d Z (bB aZ Z (cA (sz:=1) (i:=x.toNat) (j:=0) m0 p4 Z)) λa w f d=>sp 1 f Z λa f=>zT h (zS λK h=>sp 1 f Z λa f=>zT h (sR λK72 t8=>wp_block (aH F λmu qm F=>?_)))
  let S73:Int→Act→World→Prop:=(λ(zz:Int) a w=>Has 515 a [(2,i6 H),(33,.slice (sa bf) 45 45),(34,i6 (45:Int)),(35,i6 x),(39,i6 zz)]∧Ctx G (.row (sa bf) 45 (([(-2),(-1),0,1,2,5,9,10,11,12,13,25,30,35,40,50,60,70,80,90,100,160,180,250,480,481,600,999,1000,1001,1440,1441,3000,9999,10000,10001,99999,100000,100001,200000,200001,10000000,10000001,9223372036854775807,(-9223372036854775808)]:List Int).map aF) 3 1::Lf) w)
  have qb:∀ (zz:Int) a w,mu=.go zz→S73 zz a w→K72 a w:=by
   rintro B a w rfl ⟨f,d⟩
   exact have F:=bI F;t8 _ _ (su _ _ (bK (sp 2 f Z λa f=>aN (ty (W (x + 1)) _ _ (sj F).symm ⟨f.kp Z,d⟩))))
  have qk:∀ r,mu=.out r→r=sg:=by
   rintro r rfl
   exact sj F
  refine cF N (cE (S:=S73) (x:=mu) ?_ N 0 _ _ ⟨f.kp Z,d⟩ qm)
  clear F f d
  rintro B vq a w KB73 ⟨f,d⟩ F cu rk
  refine zS λK h=>sp 1 f Z λa f=>zT h (wp_seq_k λK75 ti=>zI f Z F ?_ ?_) <;> intro F
  ·refine wp_skip (ti _ _ (wp_seq_k λK76 t5=>wp_block (zS λK h=>sp 2 f Z λa f=>zT h (zS λK h=>aH F λR nz F=>zC f (eN 4) Z (yH d nz) ?_))))
   rintro _ w ⟨v4,M,vy,U,rfl,d⟩
   refine ⟨_,Z,λa f=>gN (rows:=([0,1]:List Int).map aF) (vs:=[(0,i6 0),(1,i6 1)]) f d Z Z eV Z ⟨Z,Z,Z,Z,Z,Z,trivial⟩ Z Z λaa a w f d=>zP f Z (bS (cells:=[i6 0,i6 0]) xR Z Z) λa f=>zP f Z (bS (cells:=[i6 1,i6 1]) xR Z Z) λa f=>gN (rows:=([(⟨0,0⟩:aA),(⟨1,1⟩:aA)]:List aA).map aM) (vs:=[(0,.agg #[i6 0,i6 0]),(1,.agg #[i6 1,i6 1])]) f d Z Z aHi Z ⟨Z,Z,Z,Z,Z,Z,trivial⟩ Z Z λt a w f d=>zA f d aId Z λbj a w f d=>zW f d aJc u0 Z λw d=>sp 2 f Z λa f=>zT h (zS λK h=>aH F λan on F=>zC f (eN 5) Z (wR 70 d on) ?_)⟩
   rintro _ w ⟨vt,a7,rfl,d⟩
   refine ⟨_,Z,λa f=>zP f Z (bS (cells:=[i6 600,i6 480,i6 500]) aJe Z Z) λa f=>gN (rows:=([481,90]:List Int).map aF) (vs:=[(0,i6 481),(1,i6 90)]) f d Z Z eV Z ⟨Z,Z,Z,Z,Z,Z,trivial⟩ Z Z λaf a w f d=>zA f d aOh Z λaj a w f d=>zA f d zr_34 Z λn a w f d=>zW f d cS u1 Z λw d=>sp 1 f Z λa f=>zW f d sz_34 u0 Z λw d=>sp 1 f Z λa f=>zT h (zS λK h=>aH F λI nu F=>zC f (eN 6) Z (wK d nu) ?_)⟩
   rintro _ w ⟨xg,av,rfl,d⟩
   refine ⟨_,Z,λa f=>zA f d aE9 Z λJ a w f d=>zA f d aOh Z λag a w f d=>zW f d aDj u1 Z λw d=>zW f d cS u0 Z λw d=>zT h (wp_seq_k λK81 t0=>aH F λcp g1 F=>?_)⟩
   obtain ⟨bi,rfl,pc,pn⟩:=gW d m10 (kD g1)
   obtain ⟨xf,jb,F⟩:=cU F
   obtain ⟨cm,qg,px,v0⟩:=aPf d (tabS m11 g1) jb
   obtain ⟨b4,d9,F⟩:=cU F
   obtain ⟨nd,oa⟩:=cK d m10 (kD d9)
   obtain ⟨v2,jc,F⟩:=cU F
   obtain ⟨ci,jx,nq,vg⟩:=aPf d (tabS m11 d9) jc
   obtain ⟨cs,ga,F⟩:=cU F
   obtain ⟨ai,rfl,oi,vk⟩:=gW d m12 (kD ga)
   obtain ⟨ay,d8,F⟩:=cU F
   obtain ⟨oj,nf⟩:=cK d m12 (kD d8)
   obtain ⟨v9,jg,F⟩:=cU F
   obtain ⟨ck,km,nr,uz⟩:=aPf d (tabS m13 d8) jg
   obtain ⟨xb,jf,F⟩:=cU F
   obtain ⟨np,vd⟩:=cK d m9 jf
   obtain ⟨vx,ji,F⟩:=cU F
   obtain ⟨n3,ur⟩:=cK d m9 ji
   obtain ⟨gd,g6,F⟩:=cU F
   obtain ⟨nv,u8⟩:=cK d m8 g6
   obtain ⟨gr,gy,F⟩:=cU F
   obtain ⟨nx,um⟩:=cK d m8 gy
   refine aH F λak g8 F=>have iv:=f;?_
   obtain ⟨O,rfl,ns,uv⟩:=gW d m6 g8
   refine have f:=iv;aH F λaq g7 F=>?_
   obtain ⟨n6,vb⟩:=cK d m6 g7
   obtain ⟨am,g4,F⟩:=cU F
   obtain ⟨oc,uu⟩:=cK d m6 g4
   obtain ⟨a8,g3,F⟩:=cU F
   obtain ⟨op,vj⟩:=cK d m6 g3
   obtain ⟨a9,gv,F⟩:=cU F
   obtain ⟨nb,uy⟩:=cK d m6 gv
   obtain ⟨vn,jk,F⟩:=cU F
   obtain ⟨n4,vm⟩:=cK d m5 jk
   refine aH F λct g5 F=>have iv:=f;?_
   obtain ⟨Y,rfl,mz,ut⟩:=gW d m2 g5
   refine have f:=iv;aH F λcr g0 F=>?_
   obtain ⟨n1,ux⟩:=cK d m2 g0
   obtain ⟨bt,ic,F⟩:=cU F
   obtain ⟨nj,vi⟩:=cK d m2 ic
   obtain ⟨bv,ia,F⟩:=cU F
   obtain ⟨n7,vf⟩:=cK d m2 ia
   refine have d:=d.nilRow 0 0;jV (λθ=>(f0 2 (i6 H)::f0 3 (i6 B)::f0 4 (pq bj)::f0 5 (.slice (sa aa) 2 2)::f0 6 (.slice (sa t) 2 2)::f0 7 (pq aj)::f0 8 (.slice (sa O) an.length a7)::f0 9 (pq n)::f0 10 (.slice (sa af) 2 2)::f0 11 (pq J)::f0 12 (pq ag)::f0 33 (.slice (sa bf) 45 45)::f0 34 (i6 (45:Int))::f0 35 (i6 x)::f0 39 (i6 B)::f1 0 51 (pq bj)::f1 1 52 (.slice (sa bi) R.People.length M.1)::f1 2 53 (.pointer (some ⟨bi,(0:Int).toNat * 1,none⟩))::f1 3 54 (.slice ((M.2 (0:Int).toNat).1) cp.length ((M.2 (0:Int).toNat).2))::f1 4 55 (.pointer (some ⟨cm,(1:Int).toNat * 1,none⟩))::f1 5 56 (pq bj)::f1 6 57 (.slice (sa bi) R.People.length M.1)::f1 7 58 (.pointer (some ⟨bi,(1:Int).toNat * 1,none⟩))::f1 8 59 (.slice ((M.2 (1:Int).toNat).1) b4.length ((M.2 (1:Int).toNat).2))::f1 9 60 (.pointer (some ⟨ci,(0:Int).toNat * 1,none⟩))::f1 10 61 (.pointer (some ⟨bj,1,none⟩))::f1 11 62 (.slice (sa ai) R.Stations.length U.1)::f1 12 63 (.pointer (some ⟨ai,(0:Int).toNat * 2,none⟩))::f1 13 64 (.pointer (some ⟨ai,(0:Int).toNat * 2 + 0,none⟩))::f1 14 65 (.pointer (some ⟨bj,1,none⟩))::f1 15 66 (.slice (sa ai) R.Stations.length U.1)::f1 16 67 (.pointer (some ⟨ai,(1:Int).toNat * 2,none⟩))::f1 17 68 (.pointer (some ⟨ai,(1:Int).toNat * 2 + 1,none⟩))::f1 18 69 (.slice ((U.2 (1:Int).toNat).1) ay.Order.length ((U.2 (1:Int).toNat).2))::f1 19 70 (.pointer (some ⟨ck,(0:Int).toNat * 1,none⟩))::f1 20 71 (.slice (sa aa) 2 2)::f1 21 72 (.pointer (some ⟨aa,(0:Int).toNat * 1,none⟩))::f1 22 73 (.slice (sa aa) 2 2)::f1 23 74 (.pointer (some ⟨aa,(1:Int).toNat * 1,none⟩))::f1 24 75 (.slice (sa t) 2 2)::f1 25 76 (.pointer (some ⟨t,(0:Int).toNat * 2,none⟩))::f1 26 77 (.pointer (some ⟨t,(0:Int).toNat * 2 + 0,none⟩))::f1 27 78 (.slice (sa t) 2 2)::f1 28 79 (.pointer (some ⟨t,(1:Int).toNat * 2,none⟩))::f1 29 80 (.pointer (some ⟨t,(1:Int).toNat * 2 + 1,none⟩))::f1 30 81 (.slice (sa O) an.length a7)::f1 31 82 (.pointer (some ⟨O,(0:Int).toNat * 6,none⟩))::f1 32 83 (.pointer (some ⟨O,(0:Int).toNat * 6 + 0,none⟩))::f1 33 84 (.pointer (some ⟨O,(0:Int).toNat * 6 + 0 + 1,none⟩))::f1 34 85 (.slice (sa O) an.length a7)::f1 35 86 (.pointer (some ⟨O,(0:Int).toNat * 6,none⟩))::f1 36 87 (.pointer (some ⟨O,(0:Int).toNat * 6 + 2,none⟩))::f1 37 88 (.pointer (some ⟨O,(0:Int).toNat * 6 + 2 + 0,none⟩))::f1 38 89 (.slice (sa O) an.length a7)::f1 39 90 (.pointer (some ⟨O,(1:Int).toNat * 6,none⟩))::f1 40 91 (.pointer (some ⟨O,(1:Int).toNat * 6 + 0,none⟩))::f1 41 92 (.pointer (some ⟨O,(1:Int).toNat * 6 + 0 + 0,none⟩))::f1 42 93 (.slice (sa O) an.length a7)::f1 43 94 (.pointer (some ⟨O,(0:Int).toNat * 6,none⟩))::f1 44 95 (.pointer (some ⟨O,(0:Int).toNat * 6 + 4,none⟩))::f1 45 96 (.slice (sa O) an.length a7)::f1 46 97 (.pointer (some ⟨O,(1:Int).toNat * 6,none⟩))::f1 47 98 (.pointer (some ⟨O,(1:Int).toNat * 6 + 5,none⟩))::f1 48 99 (pq n)::f1 49 100 (.pointer (some ⟨n,1,none⟩))::f1 50 101 (.pointer (some ⟨n,2,none⟩))::f1 51 102 (.slice (sa af) 2 2)::f1 52 103 (.pointer (some ⟨af,(0:Int).toNat * 1,none⟩))::f1 53 104 (pq J)::f1 54 105 (.pointer (some ⟨J,1,none⟩))::f1 55 106 (.pointer (some ⟨J,2,none⟩))::f1 56 107 (.pointer (some ⟨J,3,none⟩))::f1 57 108 (.pointer (some ⟨J,4,none⟩))::f1 58 109 (.slice (sa Y) I.Rides.length av)::f1 59 110 (.pointer (some ⟨Y,(0:Int).toNat * 4,none⟩))::f1 60 111 (.pointer (some ⟨Y,(0:Int).toNat * 4 + 0,none⟩))::f1 61 112 (.pointer (some ⟨J,4,none⟩))::f1 62 113 (.slice (sa Y) I.Rides.length av)::f1 63 114 (.pointer (some ⟨Y,(0:Int).toNat * 4,none⟩))::f1 64 115 (.pointer (some ⟨Y,(0:Int).toNat * 4 + 1,none⟩))::f1 65 116 (.pointer (some ⟨J,4,none⟩))::f1 66 117 (.slice (sa Y) I.Rides.length av)::f1 67 118 (.pointer (some ⟨Y,(1:Int).toNat * 4,none⟩))::f1 68 119 (.pointer (some ⟨Y,(1:Int).toNat * 4 + 2,none⟩))::f1 69 120 (.pointer (some ⟨Y,(1:Int).toNat * 4 + 2 + 0,none⟩))::f1 70 121 (.pointer (some ⟨J,4,none⟩))::f1 71 122 (.slice (sa Y) I.Rides.length av)::f1 72 123 (.pointer (some ⟨Y,(1:Int).toNat * 4,none⟩))::f1 73 124 (.pointer (some ⟨Y,(1:Int).toNat * 4 + 2,none⟩))::f1 74 125 (.pointer (some ⟨Y,(1:Int).toNat * 4 + 2 + 1,none⟩))::f1 75 126 (.slice (some ⟨(θ 600).b,0,none⟩) 27 27)::f1 76 13 (.slice (some ⟨(θ 600).b,0,none⟩) 27 27)::[])) (λE θ=>(bif E 75 then .row (some ⟨(θ 600).b,0,none⟩) 27 (([.pointer (some ⟨cm,(1:Int).toNat * 1,none⟩),.pointer (some ⟨ci,(0:Int).toNat * 1,none⟩),.pointer (some ⟨ai,(0:Int).toNat * 2 + 0,none⟩),.pointer (some ⟨ck,(0:Int).toNat * 1,none⟩),.pointer (some ⟨aa,(0:Int).toNat * 1,none⟩),.pointer (some ⟨aa,(1:Int).toNat * 1,none⟩),.pointer (some ⟨t,(0:Int).toNat * 2 + 0,none⟩),.pointer (some ⟨t,(1:Int).toNat * 2 + 1,none⟩),pq aj,.pointer (some ⟨O,(0:Int).toNat * 6 + 0 + 1,none⟩),.pointer (some ⟨O,(0:Int).toNat * 6 + 2 + 0,none⟩),.pointer (some ⟨O,(1:Int).toNat * 6 + 0 + 0,none⟩),.pointer (some ⟨O,(0:Int).toNat * 6 + 4,none⟩),.pointer (some ⟨O,(1:Int).toNat * 6 + 5,none⟩),pq n,.pointer (some ⟨n,1,none⟩),.pointer (some ⟨n,2,none⟩),.pointer (some ⟨af,(0:Int).toNat * 1,none⟩),pq J,.pointer (some ⟨J,1,none⟩),.pointer (some ⟨J,2,none⟩),.pointer (some ⟨J,3,none⟩),.pointer (some ⟨Y,(0:Int).toNat * 4 + 0,none⟩),.pointer (some ⟨Y,(0:Int).toNat * 4 + 1,none⟩),.pointer (some ⟨Y,(1:Int).toNat * 4 + 2 + 0,none⟩),.pointer (some ⟨Y,(1:Int).toNat * 4 + 2 + 1,none⟩),pq ag]:List Value).map aBr) 39 1 else .row none 0 [] 0 0)::.box ag [i6 5] 3::.box J [i6 I.Car,i6 I.Wide,i6 I.Sag,i6 I.Most,.slice (sa Y) I.Rides.length av] 37::.row (sa Y) av (I.Rides.map aI) 47 4::.box n [i6 600,i6 480,i6 500] 34::.box aj [i6 0] 3::.row (sa af) 2 (([481,90]:List Int).map aF) 3 1::.row (sa O) a7 (an.map aX) 45 6::.box bj [.slice (sa bi) R.People.length M.1,.slice (sa ai) R.Stations.length U.1] 26::.row (sa t) 2 (([(⟨0,0⟩:aA),(⟨1,1⟩:aA)]:List aA).map aM) 29 2::.row (sa aa) 2 (([0,1]:List Int).map aF) 3 1::.row (sa bi) M.1 ((aO M.2 R.People).map (Kd.v aT)) 22 1::bX aT (aO M.2 R.People)::.row (sa ai) U.1 ((aO U.2 R.Stations).map (Kd.v bD)) 41 2::bX bD (aO U.2 R.Stations)::.row (sa bf) 45 (([(-2),(-1),0,1,2,5,9,10,11,12,13,25,30,35,40,50,60,70,80,90,100,160,180,250,480,481,600,999,1000,1001,1440,1441,3000,9999,10000,10001,99999,100000,100001,200000,200001,10000000,10000001,9223372036854775807,(-9223372036854775808)]:List Int).map aF) 3 1::Lf) [(76,75)] (λa w=>∃ (b8:Nat),Has 515 a [(2,i6 H),(3,i6 B),(4,pq bj),(5,.slice (sa aa) 2 2),(6,.slice (sa t) 2 2),(7,pq aj),(8,.slice (sa O) an.length a7),(9,pq n),(10,.slice (sa af) 2 2),(11,pq J),(12,pq ag),(33,.slice (sa bf) 45 45),(34,i6 (45:Int)),(35,i6 x),(39,i6 B),(13,.slice (sa b8) 27 27)]∧Ctx G (.row (sa b8) 27 (([.pointer (some ⟨cm,(1:Int).toNat * 1,none⟩),.pointer (some ⟨ci,(0:Int).toNat * 1,none⟩),.pointer (some ⟨ai,(0:Int).toNat * 2 + 0,none⟩),.pointer (some ⟨ck,(0:Int).toNat * 1,none⟩),.pointer (some ⟨aa,(0:Int).toNat * 1,none⟩),.pointer (some ⟨aa,(1:Int).toNat * 1,none⟩),.pointer (some ⟨t,(0:Int).toNat * 2 + 0,none⟩),.pointer (some ⟨t,(1:Int).toNat * 2 + 1,none⟩),pq aj,.pointer (some ⟨O,(0:Int).toNat * 6 + 0 + 1,none⟩),.pointer (some ⟨O,(0:Int).toNat * 6 + 2 + 0,none⟩),.pointer (some ⟨O,(1:Int).toNat * 6 + 0 + 0,none⟩),.pointer (some ⟨O,(0:Int).toNat * 6 + 4,none⟩),.pointer (some ⟨O,(1:Int).toNat * 6 + 5,none⟩),pq n,.pointer (some ⟨n,1,none⟩),.pointer (some ⟨n,2,none⟩),.pointer (some ⟨af,(0:Int).toNat * 1,none⟩),pq J,.pointer (some ⟨J,1,none⟩),.pointer (some ⟨J,2,none⟩),.pointer (some ⟨J,3,none⟩),.pointer (some ⟨Y,(0:Int).toNat * 4 + 0,none⟩),.pointer (some ⟨Y,(0:Int).toNat * 4 + 1,none⟩),.pointer (some ⟨Y,(1:Int).toNat * 4 + 2 + 0,none⟩),.pointer (some ⟨Y,(1:Int).toNat * 4 + 2 + 1,none⟩),pq ag]:List Value).map aBr) 39 1::.box ag [i6 5] 3::.box J [i6 I.Car,i6 I.Wide,i6 I.Sag,i6 I.Most,.slice (sa Y) I.Rides.length av] 37::.row (sa Y) av (I.Rides.map aI) 47 4::.box n [i6 600,i6 480,i6 500] 34::.box aj [i6 0] 3::.row (sa af) 2 (([481,90]:List Int).map aF) 3 1::.row (sa O) a7 (an.map aX) 45 6::.box bj [.slice (sa bi) R.People.length M.1,.slice (sa ai) R.Stations.length U.1] 26::.row (sa t) 2 (([(⟨0,0⟩:aA),(⟨1,1⟩:aA)]:List aA).map aM) 29 2::.row (sa aa) 2 (([0,1]:List Int).map aF) 3 1::.row (sa bi) M.1 ((aO M.2 R.People).map (Kd.v aT)) 22 1::bX aT (aO M.2 R.People)::.row (sa ai) U.1 ((aO U.2 R.Stations).map (Kd.v bD)) 41 2::bX bD (aO U.2 R.Stations)::.row (sa bf) 45 (([(-2),(-1),0,1,2,5,9,10,11,12,13,25,30,35,40,50,60,70,80,90,100,160,180,250,480,481,600,999,1000,1001,1440,1441,3000,9999,10000,10001,99999,100000,100001,200000,200001,10000000,10000001,9223372036854775807,(-9223372036854775808)]:List Int).map aF) 3 1::Lf) w) aU (by kernel_rfl) (by kernel_rfl) (iW.of f ⟨Z,Z,Z,Z,Z,Z,Z,Z,Z,Z,Z,Z,Z,Z,Z,trivial,trivial,trivial,trivial,trivial,trivial,trivial,trivial,trivial,trivial,trivial,trivial,trivial,trivial,trivial,trivial,trivial,trivial,trivial,trivial,trivial,trivial,trivial,trivial,trivial,trivial,trivial,trivial,trivial,trivial,trivial,trivial,trivial,trivial,trivial,trivial,trivial,trivial,trivial,trivial,trivial,trivial,trivial,trivial,trivial,trivial,trivial,trivial,trivial,trivial,trivial,trivial,trivial,trivial,trivial,trivial,trivial,trivial,trivial,trivial,trivial,trivial,trivial,trivial,trivial,trivial,trivial,trivial,trivial,trivial,trivial,trivial,trivial,trivial,trivial,trivial,trivial,trivial⟩) d ⟨?_,?_,?_,?_,?_,?_,?_,?_,?_,?_,?_,?_,?_,?_,?_,?_,?_,?_,?_,?_,?_,?_,?_,?_,?_,?_,?_,?_,?_,?_,?_,?_,?_,?_,?_,?_,?_,?_,?_,?_,?_,?_,?_,?_,?_,?_,?_,?_,?_,?_,?_,?_,?_,?_,?_,?_,?_,?_,?_,?_,?_,?_,?_,?_,?_,?_,?_,?_,?_,?_,?_,?_,?_,?_,?_,?_,?_,trivial⟩ ?_ ?_
   ·exact λE θ a w hD hi hp he d=>have f:=he.h0.mT he 2 Z;zP f Z (pFA iG Z) λa f=>zD θ he hi f 15 Z Z Z d
   ·exact λE θ a w hD hi hp he d=>have e0:=hp.o 0 Z;have f:=he.h0.mP he 15 Z e0;zL f d gR m8 Z λa w f d=>zD θ he hi f 16 Z Z Z d
   ·exact λE θ a w hD hi hp he d=>have e1:=hp.o 1 Z;have f:=he.h0.mP he 16 Z e1;zP f Z (pIA Tryz.underlying23 lN Z Z (At.len pc (by simp only [eF,List.length_set]))) λa f=>zD θ he hi f 17 Z Z Z d
   ·exact λE θ a w hD hi hp he d=>have e2:=hp.o 2 Z;have f:=he.h0.mP he 17 Z e2;zE f d Z (bB eL Z (cA (sz:=1) (i:=(0:Int).toNat) (j:=0) m11 pn Z)) λa w f d=>zD θ he hi f 18 Z Z Z d
   ·exact λE θ a w hD hi hp he d=>have e3:=hp.o 3 Z;have f:=he.h0.mP he 18 Z e3;zP f Z (pIA Tryz.underlying22 cS Z Z px) λa f=>zD θ he hi f 19 Z Z Z d
   ·exact λE θ a w hD hi hp he d=>have f:=he.h0.mT he 2 Z;zP f Z (pFA iG Z) λa f=>zD θ he hi f 20 Z Z Z d
   ·exact λE θ a w hD hi hp he d=>have e5:=hp.o 5 Z;have f:=he.h0.mP he 20 Z e5;zL f d gR m8 Z λa w f d=>zD θ he hi f 21 Z Z Z d
   ·exact λE θ a w hD hi hp he d=>have e6:=hp.o 6 Z;have f:=he.h0.mP he 21 Z e6;zP f Z (pIA Tryz.underlying23 lN Z Z (At.len nd (by simp only [eF,List.length_set]))) λa f=>zD θ he hi f 22 Z Z Z d
   ·exact λE θ a w hD hi hp he d=>have e7:=hp.o 7 Z;have f:=he.h0.mP he 22 Z e7;zE f d Z (bB eL Z (cA (sz:=1) (i:=(1:Int).toNat) (j:=0) m11 oa Z)) λa w f d=>zD θ he hi f 23 Z Z Z d
   ·exact λE θ a w hD hi hp he d=>have e8:=hp.o 8 Z;have f:=he.h0.mP he 23 Z e8;zP f Z (pIA Tryz.underlying22 cS Z Z nq) λa f=>zD θ he hi f 24 Z Z Z d
   ·exact λE θ a w hD hi hp he d=>have f:=he.h0.mT he 2 Z;zP f Z (pFA fH Z) λa f=>zD θ he hi f 25 Z Z Z d
   ·exact λE θ a w hD hi hp he d=>have db:=hp.o 10 Z;have f:=he.h0.mP he 25 Z db;zL f d pB m8 Z λa w f d=>zD θ he hi f 26 Z Z Z d
   ·exact λE θ a w hD hi hp he d=>have cn:=hp.o 11 Z;have f:=he.h0.mP he 26 Z cn;zP f Z (pIA Tryz.underlying24 tV Z Z (At.len oi (by simp only [eF,List.length_set]))) λa f=>zD θ he hi f 27 Z Z Z d
   ·exact λE θ a w hD hi hp he d=>have cy:=hp.o 12 Z;have f:=he.h0.mP he 27 Z cy;zP f Z (pFA wL Z) λa f=>zD θ he hi f 28 Z Z Z d
   ·exact λE θ a w hD hi hp he d=>have f:=he.h0.mT he 2 Z;zP f Z (pFA fH Z) λa f=>zD θ he hi f 29 Z Z Z d
   ·exact λE θ a w hD hi hp he d=>have bc:=hp.o 14 Z;have f:=he.h0.mP he 29 Z bc;zL f d pB m8 Z λa w f d=>zD θ he hi f 30 Z Z Z d
   ·exact λE θ a w hD hi hp he d=>have dg:=hp.o 15 Z;have f:=he.h0.mP he 30 Z dg;zP f Z (pIA Tryz.underlying24 tV Z Z (At.len oj (by simp only [eF,List.length_set]))) λa f=>zD θ he hi f 31 Z Z Z d
   ·exact λE θ a w hD hi hp he d=>have bm:=hp.o 16 Z;have f:=he.h0.mP he 31 Z bm;zP f Z (pFA wP Z) λa f=>zD θ he hi f 32 Z Z Z d
   ·exact λE θ a w hD hi hp he d=>have dv:=hp.o 17 Z;have f:=he.h0.mP he 32 Z dv;zE f d Z (bB eL Z (cA (sz:=2) (i:=(1:Int).toNat) (j:=1) m13 nf Z)) λa w f d=>zD θ he hi f 33 Z Z Z d
   ·exact λE θ a w hD hi hp he d=>have b6:=hp.o 18 Z;have f:=he.h0.mP he 33 Z b6;zP f Z (pIA Tryz.underlying22 cS Z Z nr) λa f=>zD θ he hi f 34 Z Z Z d
   ·exact λE θ a w hD hi hp he d=>have f:=he.h0.mT he 3 Z;sp 1 f Z λa f=>zD θ he hi f 35 Z Z Z d
   ·exact λE θ a w hD hi hp he d=>have d1:=hp.o 20 Z;have f:=he.h0.mP he 35 Z d1;zP f Z (pIA Tryz.underlying22 cS Z Z np) λa f=>zD θ he hi f 36 Z Z Z d
   ·exact λE θ a w hD hi hp he d=>have f:=he.h0.mT he 3 Z;sp 1 f Z λa f=>zD θ he hi f 37 Z Z Z d
   ·exact λE θ a w hD hi hp he d=>have gg:=hp.o 22 Z;have f:=he.h0.mP he 37 Z gg;zP f Z (pIA Tryz.underlying22 cS Z Z n3) λa f=>zD θ he hi f 38 Z Z Z d
   ·exact λE θ a w hD hi hp he d=>have f:=he.h0.mT he 4 Z;sp 1 f Z λa f=>zD θ he hi f 39 Z Z Z d
   ·exact λE θ a w hD hi hp he d=>have ij:=hp.o 24 Z;have f:=he.h0.mP he 39 Z ij;zP f Z (pIA Tryz.underlying30 pP Z Z nv) λa f=>zD θ he hi f 40 Z Z Z d
   ·exact λE θ a w hD hi hp he d=>have ii:=hp.o 25 Z;have f:=he.h0.mP he 40 Z ii;zP f Z (pFA aEg Z) λa f=>zD θ he hi f 41 Z Z Z d
   ·exact λE θ a w hD hi hp he d=>have f:=he.h0.mT he 4 Z;sp 1 f Z λa f=>zD θ he hi f 42 Z Z Z d
   ·exact λE θ a w hD hi hp he d=>have i1:=hp.o 27 Z;have f:=he.h0.mP he 42 Z i1;zP f Z (pIA Tryz.underlying30 pP Z Z nx) λa f=>zD θ he hi f 43 Z Z Z d
   ·exact λE θ a w hD hi hp he d=>have ix:=hp.o 28 Z;have f:=he.h0.mP he 43 Z ix;zP f Z (pFA xY Z) λa f=>zD θ he hi f 44 Z Z Z d
   ·exact λE θ a w hD hi hp he d=>have f:=he.h0.mT he 6 Z;sp 1 f Z λa f=>zD θ he hi f 45 Z Z Z d
   ·exact λE θ a w hD hi hp he d=>have iu:=hp.o 30 Z;have f:=he.h0.mP he 45 Z iu;zP f Z (pIA Tryz.underlying31 tT Z Z ns) λa f=>zD θ he hi f 46 Z Z Z d
   ·exact λE θ a w hD hi hp he d=>have du:=hp.o 31 Z;have f:=he.h0.mP he 46 Z du;zP f Z (pFA aC4 Z) λa f=>zD θ he hi f 47 Z Z Z d
   ·exact λE θ a w hD hi hp he d=>have gj:=hp.o 32 Z;have f:=he.h0.mP he 47 Z gj;zP f Z (pFA kY Z) λa f=>zD θ he hi f 48 Z Z Z d
   ·exact λE θ a w hD hi hp he d=>have f:=he.h0.mT he 6 Z;sp 1 f Z λa f=>zD θ he hi f 49 Z Z Z d
   ·exact λE θ a w hD hi hp he d=>have c5:=hp.o 34 Z;have f:=he.h0.mP he 49 Z c5;zP f Z (pIA Tryz.underlying31 tT Z Z n6) λa f=>zD θ he hi f 50 Z Z Z d
   ·exact λE θ a w hD hi hp he d=>have mr:=hp.o 35 Z;have f:=he.h0.mP he 50 Z mr;zP f Z (pFA aE4 Z) λa f=>zD θ he hi f 51 Z Z Z d
   ·exact λE θ a w hD hi hp he d=>have kk:=hp.o 36 Z;have f:=he.h0.mP he 51 Z kk;zP f Z (pFA rC Z) λa f=>zD θ he hi f 52 Z Z Z d
   ·exact λE θ a w hD hi hp he d=>have f:=he.h0.mT he 6 Z;sp 1 f Z λa f=>zD θ he hi f 53 Z Z Z d
   ·exact λE θ a w hD hi hp he d=>have ka:=hp.o 38 Z;have f:=he.h0.mP he 53 Z ka;zP f Z (pIA Tryz.underlying31 tT Z Z oc) λa f=>zD θ he hi f 54 Z Z Z d
   ·exact λE θ a w hD hi hp he d=>have j3:=hp.o 39 Z;have f:=he.h0.mP he 54 Z j3;zP f Z (pFA aC4 Z) λa f=>zD θ he hi f 55 Z Z Z d
   ·exact λE θ a w hD hi hp he d=>have mx:=hp.o 40 Z;have f:=he.h0.mP he 55 Z mx;zP f Z (pFA rC Z) λa f=>zD θ he hi f 56 Z Z Z d
   ·exact λE θ a w hD hi hp he d=>have f:=he.h0.mT he 6 Z;sp 1 f Z λa f=>zD θ he hi f 57 Z Z Z d
   ·exact λE θ a w hD hi hp he d=>have mb:=hp.o 42 Z;have f:=he.h0.mP he 57 Z mb;zP f Z (pIA Tryz.underlying31 tT Z Z op) λa f=>zD θ he hi f 58 Z Z Z d
   ·exact λE θ a w hD hi hp he d=>have mg:=hp.o 43 Z;have f:=he.h0.mP he 58 Z mg;zP f Z (pFA aEy Z) λa f=>zD θ he hi f 59 Z Z Z d
   ·exact λE θ a w hD hi hp he d=>have f:=he.h0.mT he 6 Z;sp 1 f Z λa f=>zD θ he hi f 60 Z Z Z d
   ·exact λE θ a w hD hi hp he d=>have j9:=hp.o 45 Z;have f:=he.h0.mP he 60 Z j9;zP f Z (pIA Tryz.underlying31 tT Z Z nb) λa f=>zD θ he hi f 61 Z Z Z d
   ·exact λE θ a w hD hi hp he d=>have ir:=hp.o 46 Z;have f:=he.h0.mP he 61 Z ir;zP f Z (pFA aC3 Z) λa f=>zD θ he hi f 62 Z Z Z d
   ·exact λE θ a w hD hi hp he d=>have f:=he.h0.mT he 7 Z;zP f Z (pFA aGv Z) λa f=>zD θ he hi f 63 Z Z Z d
   ·exact λE θ a w hD hi hp he d=>have f:=he.h0.mT he 7 Z;zP f Z (pFA aGp Z) λa f=>zD θ he hi f 64 Z Z Z d
   ·exact λE θ a w hD hi hp he d=>have f:=he.h0.mT he 7 Z;zP f Z (pFA aGs Z) λa f=>zD θ he hi f 65 Z Z Z d
   ·exact λE θ a w hD hi hp he d=>have f:=he.h0.mT he 8 Z;sp 1 f Z λa f=>zD θ he hi f 66 Z Z Z d
   ·exact λE θ a w hD hi hp he d=>have ss:=hp.o 51 Z;have f:=he.h0.mP he 66 Z ss;zP f Z (pIA Tryz.underlying22 cS Z Z n4) λa f=>zD θ he hi f 67 Z Z Z d
   ·exact λE θ a w hD hi hp he d=>have f:=he.h0.mT he 9 Z;zP f Z (pFA xX Z) λa f=>zD θ he hi f 68 Z Z Z d
   ·exact λE θ a w hD hi hp he d=>have f:=he.h0.mT he 9 Z;zP f Z (pFA aC6 Z) λa f=>zD θ he hi f 69 Z Z Z d
   ·exact λE θ a w hD hi hp he d=>have f:=he.h0.mT he 9 Z;zP f Z (pFA aDb Z) λa f=>zD θ he hi f 70 Z Z Z d
   ·exact λE θ a w hD hi hp he d=>have f:=he.h0.mT he 9 Z;zP f Z (pFA aC9 Z) λa f=>zD θ he hi f 71 Z Z Z d
   ·exact λE θ a w hD hi hp he d=>have f:=he.h0.mT he 9 Z;zP f Z (pFA fR Z) λa f=>zD θ he hi f 72 Z Z Z d
   ·exact λE θ a w hD hi hp he d=>have sb:=hp.o 57 Z;have f:=he.h0.mP he 72 Z sb;zL f d sL m2 Z λa w f d=>zD θ he hi f 73 Z Z Z d
   ·exact λE θ a w hD hi hp he d=>have tg:=hp.o 58 Z;have f:=he.h0.mP he 73 Z tg;zP f Z (pIA Tryz.underlying35 tD Z Z mz) λa f=>zD θ he hi f 74 Z Z Z d
   ·exact λE θ a w hD hi hp he d=>have sc:=hp.o 59 Z;have f:=he.h0.mP he 74 Z sc;zP f Z (pFA vH Z) λa f=>zD θ he hi f 75 Z Z Z d
   ·exact λE θ a w hD hi hp he d=>have f:=he.h0.mT he 9 Z;zP f Z (pFA fR Z) λa f=>zD θ he hi f 76 Z Z Z d
   ·exact λE θ a w hD hi hp he d=>have tk:=hp.o 61 Z;have f:=he.h0.mP he 76 Z tk;zL f d sL m2 Z λa w f d=>zD θ he hi f 77 Z Z Z d
   ·exact λE θ a w hD hi hp he d=>have sv:=hp.o 62 Z;have f:=he.h0.mP he 77 Z sv;zP f Z (pIA Tryz.underlying35 tD Z Z n1) λa f=>zD θ he hi f 78 Z Z Z d
   ·exact λE θ a w hD hi hp he d=>have tf:=hp.o 63 Z;have f:=he.h0.mP he 78 Z tf;zP f Z (pFA aEm Z) λa f=>zD θ he hi f 79 Z Z Z d
   ·exact λE θ a w hD hi hp he d=>have f:=he.h0.mT he 9 Z;zP f Z (pFA fR Z) λa f=>zD θ he hi f 80 Z Z Z d
   ·exact λE θ a w hD hi hp he d=>have sq:=hp.o 65 Z;have f:=he.h0.mP he 80 Z sq;zL f d sL m2 Z λa w f d=>zD θ he hi f 81 Z Z Z d
   ·exact λE θ a w hD hi hp he d=>have r3:=hp.o 66 Z;have f:=he.h0.mP he 81 Z r3;zP f Z (pIA Tryz.underlying35 tD Z Z nj) λa f=>zD θ he hi f 82 Z Z Z d
   ·exact λE θ a w hD hi hp he d=>have r9:=hp.o 67 Z;have f:=he.h0.mP he 82 Z r9;zP f Z (pFA zM Z) λa f=>zD θ he hi f 83 Z Z Z d
   ·exact λE θ a w hD hi hp he d=>have sm:=hp.o 68 Z;have f:=he.h0.mP he 83 Z sm;zP f Z (pFA rC Z) λa f=>zD θ he hi f 84 Z Z Z d
   ·exact λE θ a w hD hi hp he d=>have f:=he.h0.mT he 9 Z;zP f Z (pFA fR Z) λa f=>zD θ he hi f 85 Z Z Z d
   ·exact λE θ a w hD hi hp he d=>have tj:=hp.o 70 Z;have f:=he.h0.mP he 85 Z tj;zL f d sL m2 Z λa w f d=>zD θ he hi f 86 Z Z Z d
   ·exact λE θ a w hD hi hp he d=>have tn:=hp.o 71 Z;have f:=he.h0.mP he 86 Z tn;zP f Z (pIA Tryz.underlying35 tD Z Z n7) λa f=>zD θ he hi f 87 Z Z Z d
   ·exact λE θ a w hD hi hp he d=>have uk:=hp.o 72 Z;have f:=he.h0.mP he 87 Z uk;zP f Z (pFA zM Z) λa f=>zD θ he hi f 88 Z Z Z d
   ·exact λE θ a w hD hi hp he d=>have s0:=hp.o 73 Z;have f:=he.h0.mP he 88 Z s0;zP f Z (pFA kY Z) λa f=>zD θ he hi f 89 Z Z Z d
   ·refine λE θ a w hD hi hp he d=>have e4:=hp.o 4 Z;have e9:=hp.o 9 Z;have dc:=hp.o 13 Z;have d5:=hp.o 19 Z;have d7:=hp.o 21 Z;have iq:=hp.o 23 Z;have it:=hp.o 26 Z;have ip:=hp.o 29 Z;have i0:=hp.o 33 Z;have kc:=hp.o 37 Z;have mn:=hp.o 41 Z;have jr:=hp.o 44 Z;have gn:=hp.o 47 Z;?_
    refine have d4:=hp.o 48 Z;have cx:=hp.o 49 Z;have sf:=hp.o 50 Z;have uc:=hp.o 52 Z;have tq:=hp.o 53 Z;have sy:=hp.o 54 Z;have r2:=hp.o 55 Z;have rz:=hp.o 56 Z;have td:=hp.o 60 Z;have tc:=hp.o 64 Z;have tz:=hp.o 69 Z;have r7:=hp.o 74 Z;have kn:=hD.f 0 Z hi;?_
    try dsimp only at d
    rw [hi] at d
    refine have f:=((((((((((((((((((((((((((he.h0.mT he 5 Z).mT he 10 Z).mP he 19 Z e4).mP he 24 Z e9).mP he 28 Z dc).mP he 34 Z d5).mP he 36 Z d7).mP he 38 Z iq).mP he 41 Z it).mP he 44 Z ip).mP he 48 Z i0).mP he 52 Z kc).mP he 56 Z mn).mP he 59 Z jr).mP he 62 Z gn).mP he 63 Z d4).mP he 64 Z cx).mP he 65 Z sf).mP he 67 Z uc).mP he 68 Z tq).mP he 69 Z sy).mP he 70 Z r2).mP he 71 Z rz).mP he 75 Z td).mP he 79 Z tc).mP he 84 Z tz).mP he 89 Z r7;gN (rows:=([.pointer (some ⟨cm,(1:Int).toNat * 1,none⟩),.pointer (some ⟨ci,(0:Int).toNat * 1,none⟩),.pointer (some ⟨ai,(0:Int).toNat * 2 + 0,none⟩),.pointer (some ⟨ck,(0:Int).toNat * 1,none⟩),.pointer (some ⟨aa,(0:Int).toNat * 1,none⟩),.pointer (some ⟨aa,(1:Int).toNat * 1,none⟩),.pointer (some ⟨t,(0:Int).toNat * 2 + 0,none⟩),.pointer (some ⟨t,(1:Int).toNat * 2 + 1,none⟩),pq aj,.pointer (some ⟨O,(0:Int).toNat * 6 + 0 + 1,none⟩),.pointer (some ⟨O,(0:Int).toNat * 6 + 2 + 0,none⟩),.pointer (some ⟨O,(1:Int).toNat * 6 + 0 + 0,none⟩),.pointer (some ⟨O,(0:Int).toNat * 6 + 4,none⟩),.pointer (some ⟨O,(1:Int).toNat * 6 + 5,none⟩),pq n,.pointer (some ⟨n,1,none⟩),.pointer (some ⟨n,2,none⟩),.pointer (some ⟨af,(0:Int).toNat * 1,none⟩),pq J,.pointer (some ⟨J,1,none⟩),.pointer (some ⟨J,2,none⟩),.pointer (some ⟨J,3,none⟩),.pointer (some ⟨Y,(0:Int).toNat * 4 + 0,none⟩),.pointer (some ⟨Y,(0:Int).toNat * 4 + 1,none⟩),.pointer (some ⟨Y,(1:Int).toNat * 4 + 2 + 0,none⟩),.pointer (some ⟨Y,(1:Int).toNat * 4 + 2 + 1,none⟩),pq ag]:List Value).map aBr) (vs:=[(0,.pointer (some ⟨cm,(1:Int).toNat * 1,none⟩)),(1,.pointer (some ⟨ci,(0:Int).toNat * 1,none⟩)),(2,.pointer (some ⟨ai,(0:Int).toNat * 2 + 0,none⟩)),(3,.pointer (some ⟨ck,(0:Int).toNat * 1,none⟩)),(4,.pointer (some ⟨aa,(0:Int).toNat * 1,none⟩)),(5,.pointer (some ⟨aa,(1:Int).toNat * 1,none⟩)),(6,.pointer (some ⟨t,(0:Int).toNat * 2 + 0,none⟩)),(7,.pointer (some ⟨t,(1:Int).toNat * 2 + 1,none⟩)),(8,pq aj),(9,.pointer (some ⟨O,(0:Int).toNat * 6 + 0 + 1,none⟩)),(10,.pointer (some ⟨O,(0:Int).toNat * 6 + 2 + 0,none⟩)),(11,.pointer (some ⟨O,(1:Int).toNat * 6 + 0 + 0,none⟩)),(12,.pointer (some ⟨O,(0:Int).toNat * 6 + 4,none⟩)),(13,.pointer (some ⟨O,(1:Int).toNat * 6 + 5,none⟩)),(14,pq n),(15,.pointer (some ⟨n,1,none⟩)),(16,.pointer (some ⟨n,2,none⟩)),(17,.pointer (some ⟨af,(0:Int).toNat * 1,none⟩)),(18,pq J),(19,.pointer (some ⟨J,1,none⟩)),(20,.pointer (some ⟨J,2,none⟩)),(21,.pointer (some ⟨J,3,none⟩)),(22,.pointer (some ⟨Y,(0:Int).toNat * 4 + 0,none⟩)),(23,.pointer (some ⟨Y,(0:Int).toNat * 4 + 1,none⟩)),(24,.pointer (some ⟨Y,(1:Int).toNat * 4 + 2 + 0,none⟩)),(25,.pointer (some ⟨Y,(1:Int).toNat * 4 + 2 + 1,none⟩)),(26,pq ag)]) f d Z Z sl_48 Z ⟨Z,Z,Z,Z,Z,Z,Z,Z,Z,Z,Z,Z,Z,Z,Z,Z,Z,Z,Z,Z,Z,Z,Z,Z,Z,Z,Z,Z,Z,Z,Z,Z,Z,Z,Z,Z,Z,Z,Z,Z,Z,Z,Z,Z,Z,Z,Z,Z,Z,Z,Z,Z,Z,Z,Z,Z,Z,Z,Z,Z,Z,Z,Z,Z,Z,Z,Z,Z,Z,Z,Z,Z,Z,Z,Z,Z,Z,Z,Z,Z,Z,trivial⟩ Z Z λru a w f d=>aN (eS (λds u a3=>have d:=d.drop k1;?_))
    refine ⟨(qR θ 600 ⟨ru,none,0,(λ_=>(none,0))⟩),he.put hi a3 f Z [76] ⟨⟨kn,Z⟩,trivial⟩ ⟨qq,qq,qq,qq,qq,qq,qq,qq,qq,qq,qq,qq,qq,qq,qq,qq,qq,qq,qq,qq,qq,qq,qq,qq,qq,qq,qq,qq,qq,qq,qq,qq,qq,qq,qq,qq,qq,qq,qq,qq,qq,qq,qq,qq,qq,qq,qq,qq,qq,qq,qq,qq,qq,qq,qq,qq,qq,qq,qq,qq,qq,qq,qq,qq,qq,qq,qq,qq,qq,qq,qq,qq,qq,qq,qq,qq,qq,qq,qq,qq,qq,qq,qq,qq,qq,qq,qq,qq,qq,qq,qq,trivial,trivial⟩,?_⟩
    try dsimp only
    rw [bE E 75]
    exact d
   ·exact λE θ a w hD hi hp he d=>have j2:=hp.o 75 Z;have f:=he.h0.mP he 90 Z j2;sp 1 f Z λa f=>zD θ he hi f 91 Z Z Z d
   ·refine λE θ a w ap he d=>have f:=he.h0;have j2:=ap 75 Z;have kn:=ap 76 Z;have f:=f.more he 91 Z (onP kn);have f:=f.more he 14 Z (onT);have f:=f.more he 13 Z (onT);have f:=f.more he 12 Z (onT);have f:=f.more he 11 Z (onT);have f:=f.more he 10 Z (onT);have f:=f.more he 9 Z (onT);have f:=f.more he 8 Z (onT);have f:=f.more he 7 Z (onT);have f:=f.more he 6 Z (onT);?_
    refine have f:=f.more he 5 Z (onT);have f:=f.more he 4 Z (onT);have f:=f.more he 3 Z (onT);have f:=f.more he 2 Z (onT);have f:=f.more he 1 Z (onT);have f:=f.more he 0 Z (onT);?_
    try dsimp only at d
    rw [j2] at d
    exact ⟨(θ 600).b,f.kp Z,d⟩
   rintro a w ⟨b8,f,d⟩
   refine t0 _ _ (wp_seq_k λK82 t1=>aH F λva kb F=>?_)
   have ad:∀ a w,Has 515 a [(2,i6 H),(3,i6 B),(4,pq bj),(5,.slice (sa aa) 2 2),(6,.slice (sa t) 2 2),(7,pq aj),(8,.slice (sa O) an.length a7),(9,pq n),(10,.slice (sa af) 2 2),(11,pq J),(12,pq ag),(33,.slice (sa bf) 45 45),(34,i6 (45:Int)),(35,i6 x),(39,i6 B)]→Ctx G (.row (sa b8) 27 (([.pointer (some ⟨cm,(1:Int).toNat * 1,none⟩),.pointer (some ⟨ci,(0:Int).toNat * 1,none⟩),.pointer (some ⟨ai,(0:Int).toNat * 2 + 0,none⟩),.pointer (some ⟨ck,(0:Int).toNat * 1,none⟩),.pointer (some ⟨aa,(0:Int).toNat * 1,none⟩),.pointer (some ⟨aa,(1:Int).toNat * 1,none⟩),.pointer (some ⟨t,(0:Int).toNat * 2 + 0,none⟩),.pointer (some ⟨t,(1:Int).toNat * 2 + 1,none⟩),pq aj,.pointer (some ⟨O,(0:Int).toNat * 6 + 0 + 1,none⟩),.pointer (some ⟨O,(0:Int).toNat * 6 + 2 + 0,none⟩),.pointer (some ⟨O,(1:Int).toNat * 6 + 0 + 0,none⟩),.pointer (some ⟨O,(0:Int).toNat * 6 + 4,none⟩),.pointer (some ⟨O,(1:Int).toNat * 6 + 5,none⟩),pq n,.pointer (some ⟨n,1,none⟩),.pointer (some ⟨n,2,none⟩),.pointer (some ⟨af,(0:Int).toNat * 1,none⟩),pq J,.pointer (some ⟨J,1,none⟩),.pointer (some ⟨J,2,none⟩),.pointer (some ⟨J,3,none⟩),.pointer (some ⟨Y,(0:Int).toNat * 4 + 0,none⟩),.pointer (some ⟨Y,(0:Int).toNat * 4 + 1,none⟩),.pointer (some ⟨Y,(1:Int).toNat * 4 + 2 + 0,none⟩),.pointer (some ⟨Y,(1:Int).toNat * 4 + 2 + 1,none⟩),pq ag]:List Value).map aBr) 39 1::.box ag [i6 (cond (B == 26) H 5)] 3::.box J [i6 (cond (B == 18) H I.Car),i6 (cond (B == 19) H I.Wide),i6 (cond (B == 20) H I.Sag),i6 (cond (B == 21) H I.Most),.slice (sa Y) I.Rides.length av] 37::.row (sa Y) av ((stI (B == 25) (stI (B == 24) (stI (B == 23) (stI (B == 22) I.Rides (0:Int).toNat (⟨H,ct.Long,ct.Weight⟩:aC)) (0:Int).toNat (⟨cr.From,H,cr.Weight⟩:aC)) (1:Int).toNat (⟨bt.From,bt.Long,(⟨H,bt.Weight.Hi⟩:aE)⟩:aC)) (1:Int).toNat (⟨bv.From,bv.Long,(⟨bv.Weight.Lo,H⟩:aE)⟩:aC)).map aI) 47 4::.box n [i6 (cond (B == 14) H 600),i6 (cond (B == 15) H 480),i6 (cond (B == 16) H 500)] 34::.box aj [i6 (cond (B == 8) H 0)] 3::.row (sa af) 2 ((stI (B == 17) ([481,90]:List Int) (0:Int).toNat H).map aF) 3 1::.row (sa O) a7 ((stI (B == 13) (stI (B == 12) (stI (B == 11) (stI (B == 10) (stI (B == 9) an (0:Int).toNat (⟨(⟨ak.Way.Lo,H⟩:aE),ak.Work,ak.Open,ak.Close⟩:aG)) (0:Int).toNat (⟨aq.Way,(⟨H,aq.Work.Hi⟩:aE),aq.Open,aq.Close⟩:aG)) (1:Int).toNat (⟨(⟨H,am.Way.Hi⟩:aE),am.Work,am.Open,am.Close⟩:aG)) (0:Int).toNat (⟨a8.Way,a8.Work,H,a8.Close⟩:aG)) (1:Int).toNat (⟨a9.Way,a9.Work,a9.Open,H⟩:aG)).map aX) 45 6::.box bj [.slice (sa bi) R.People.length M.1,.slice (sa ai) R.Stations.length U.1] 26::.row (sa t) 2 ((stI (B == 7) (stI (B == 6) ([(⟨0,0⟩:aA),(⟨1,1⟩:aA)]:List aA) (0:Int).toNat (⟨H,gd.Station⟩:aA)) (1:Int).toNat (⟨gr.Person,H⟩:aA)).map aM) 29 2::.row (sa aa) 2 ((stI (B == 5) (stI (B == 4) ([0,1]:List Int) (0:Int).toNat H) (1:Int).toNat H).map aF) 3 1::.row (sa bi) M.1 ((aO M.2 (stI (B == 1) (stI (B == 0) R.People (0:Int).toNat (cp.set (1:Int).toNat H)) (1:Int).toNat (b4.set (0:Int).toNat H))).map (Kd.v aT)) 22 1::bX aT (aO M.2 (stI (B == 1) (stI (B == 0) R.People (0:Int).toNat (cp.set (1:Int).toNat H)) (1:Int).toNat (b4.set (0:Int).toNat H)))::.row (sa ai) U.1 ((aO U.2 (stI (B == 3) (stI (B == 2) R.Stations (0:Int).toNat (⟨H,cs.Order⟩:aD)) (1:Int).toNat (⟨ay.Places,(ay.Order.set (0:Int).toNat H)⟩:aD))).map (Kd.v bD)) 41 2::bX bD (aO U.2 (stI (B == 3) (stI (B == 2) R.Stations (0:Int).toNat (⟨H,cs.Order⟩:aD)) (1:Int).toNat (⟨ay.Places,(ay.Order.set (0:Int).toNat H)⟩:aD)))::.row (sa bf) 45 (([(-2),(-1),0,1,2,5,9,10,11,12,13,25,30,35,40,50,60,70,80,90,100,160,180,250,480,481,600,999,1000,1001,1440,1441,3000,9999,10000,10001,99999,100000,100001,200000,200001,10000000,10000001,9223372036854775807,(-9223372036854775808)]:List Int).map aF) 3 1::Lf) w→K82 a w:=by
    intro a w f d
    replace f:Has 515 a [(2,i6 H),(3,i6 B),(4,pq bj),(5,.slice (sa aa) ((stI (B == 5) (stI (B == 4) ([0,1]:List Int) (0:Int).toNat H) (1:Int).toNat H).length) 2),(6,.slice (sa t) ((stI (B == 7) (stI (B == 6) ([(⟨0,0⟩:aA),(⟨1,1⟩:aA)]:List aA) (0:Int).toNat (⟨H,gd.Station⟩:aA)) (1:Int).toNat (⟨gr.Person,H⟩:aA)).length) 2),(7,pq aj),(8,.slice (sa O) ((stI (B == 13) (stI (B == 12) (stI (B == 11) (stI (B == 10) (stI (B == 9) an (0:Int).toNat (⟨(⟨ak.Way.Lo,H⟩:aE),ak.Work,ak.Open,ak.Close⟩:aG)) (0:Int).toNat (⟨aq.Way,(⟨H,aq.Work.Hi⟩:aE),aq.Open,aq.Close⟩:aG)) (1:Int).toNat (⟨(⟨H,am.Way.Hi⟩:aE),am.Work,am.Open,am.Close⟩:aG)) (0:Int).toNat (⟨a8.Way,a8.Work,H,a8.Close⟩:aG)) (1:Int).toNat (⟨a9.Way,a9.Work,a9.Open,H⟩:aG)).length) a7),(9,pq n),(10,.slice (sa af) ((stI (B == 17) ([481,90]:List Int) (0:Int).toNat H).length) 2),(11,pq J),(12,pq ag),(33,.slice (sa bf) 45 45),(34,i6 (45:Int)),(35,i6 x),(39,i6 B)]:=by simp only [aMt] at f ⊢;exact f
    replace d:Ctx G (.row (sa b8) 27 (([.pointer (some ⟨cm,(1:Int).toNat * 1,none⟩),.pointer (some ⟨ci,(0:Int).toNat * 1,none⟩),.pointer (some ⟨ai,(0:Int).toNat * 2 + 0,none⟩),.pointer (some ⟨ck,(0:Int).toNat * 1,none⟩),.pointer (some ⟨aa,(0:Int).toNat * 1,none⟩),.pointer (some ⟨aa,(1:Int).toNat * 1,none⟩),.pointer (some ⟨t,(0:Int).toNat * 2 + 0,none⟩),.pointer (some ⟨t,(1:Int).toNat * 2 + 1,none⟩),pq aj,.pointer (some ⟨O,(0:Int).toNat * 6 + 0 + 1,none⟩),.pointer (some ⟨O,(0:Int).toNat * 6 + 2 + 0,none⟩),.pointer (some ⟨O,(1:Int).toNat * 6 + 0 + 0,none⟩),.pointer (some ⟨O,(0:Int).toNat * 6 + 4,none⟩),.pointer (some ⟨O,(1:Int).toNat * 6 + 5,none⟩),pq n,.pointer (some ⟨n,1,none⟩),.pointer (some ⟨n,2,none⟩),.pointer (some ⟨af,(0:Int).toNat * 1,none⟩),pq J,.pointer (some ⟨J,1,none⟩),.pointer (some ⟨J,2,none⟩),.pointer (some ⟨J,3,none⟩),.pointer (some ⟨Y,(0:Int).toNat * 4 + 0,none⟩),.pointer (some ⟨Y,(0:Int).toNat * 4 + 1,none⟩),.pointer (some ⟨Y,(1:Int).toNat * 4 + 2 + 0,none⟩),.pointer (some ⟨Y,(1:Int).toNat * 4 + 2 + 1,none⟩),pq ag]:List Value).map aBr) 39 1::.box ag [i6 (cond (B == 26) H 5)] 3::.box J [i6 (cond (B == 18) H I.Car),i6 (cond (B == 19) H I.Wide),i6 (cond (B == 20) H I.Sag),i6 (cond (B == 21) H I.Most),.slice (sa Y) ((stI (B == 25) (stI (B == 24) (stI (B == 23) (stI (B == 22) I.Rides (0:Int).toNat (⟨H,ct.Long,ct.Weight⟩:aC)) (0:Int).toNat (⟨cr.From,H,cr.Weight⟩:aC)) (1:Int).toNat (⟨bt.From,bt.Long,(⟨H,bt.Weight.Hi⟩:aE)⟩:aC)) (1:Int).toNat (⟨bv.From,bv.Long,(⟨bv.Weight.Lo,H⟩:aE)⟩:aC)).length) av] 37::.row (sa Y) av ((stI (B == 25) (stI (B == 24) (stI (B == 23) (stI (B == 22) I.Rides (0:Int).toNat (⟨H,ct.Long,ct.Weight⟩:aC)) (0:Int).toNat (⟨cr.From,H,cr.Weight⟩:aC)) (1:Int).toNat (⟨bt.From,bt.Long,(⟨H,bt.Weight.Hi⟩:aE)⟩:aC)) (1:Int).toNat (⟨bv.From,bv.Long,(⟨bv.Weight.Lo,H⟩:aE)⟩:aC)).map aI) 47 4::.box n [i6 (cond (B == 14) H 600),i6 (cond (B == 15) H 480),i6 (cond (B == 16) H 500)] 34::.box aj [i6 (cond (B == 8) H 0)] 3::.row (sa af) 2 ((stI (B == 17) ([481,90]:List Int) (0:Int).toNat H).map aF) 3 1::.row (sa O) a7 ((stI (B == 13) (stI (B == 12) (stI (B == 11) (stI (B == 10) (stI (B == 9) an (0:Int).toNat (⟨(⟨ak.Way.Lo,H⟩:aE),ak.Work,ak.Open,ak.Close⟩:aG)) (0:Int).toNat (⟨aq.Way,(⟨H,aq.Work.Hi⟩:aE),aq.Open,aq.Close⟩:aG)) (1:Int).toNat (⟨(⟨H,am.Way.Hi⟩:aE),am.Work,am.Open,am.Close⟩:aG)) (0:Int).toNat (⟨a8.Way,a8.Work,H,a8.Close⟩:aG)) (1:Int).toNat (⟨a9.Way,a9.Work,a9.Open,H⟩:aG)).map aX) 45 6::.box bj [.slice (sa bi) ((stI (B == 1) (stI (B == 0) R.People (0:Int).toNat (cp.set (1:Int).toNat H)) (1:Int).toNat (b4.set (0:Int).toNat H)).length) M.1,.slice (sa ai) ((stI (B == 3) (stI (B == 2) R.Stations (0:Int).toNat (⟨H,cs.Order⟩:aD)) (1:Int).toNat (⟨ay.Places,(ay.Order.set (0:Int).toNat H)⟩:aD)).length) U.1] 26::.row (sa t) 2 ((stI (B == 7) (stI (B == 6) ([(⟨0,0⟩:aA),(⟨1,1⟩:aA)]:List aA) (0:Int).toNat (⟨H,gd.Station⟩:aA)) (1:Int).toNat (⟨gr.Person,H⟩:aA)).map aM) 29 2::.row (sa aa) 2 ((stI (B == 5) (stI (B == 4) ([0,1]:List Int) (0:Int).toNat H) (1:Int).toNat H).map aF) 3 1::.row (sa bi) M.1 ((aO M.2 (stI (B == 1) (stI (B == 0) R.People (0:Int).toNat (cp.set (1:Int).toNat H)) (1:Int).toNat (b4.set (0:Int).toNat H))).map (Kd.v aT)) 22 1::bX aT (aO M.2 (stI (B == 1) (stI (B == 0) R.People (0:Int).toNat (cp.set (1:Int).toNat H)) (1:Int).toNat (b4.set (0:Int).toNat H)))::.row (sa ai) U.1 ((aO U.2 (stI (B == 3) (stI (B == 2) R.Stations (0:Int).toNat (⟨H,cs.Order⟩:aD)) (1:Int).toNat (⟨ay.Places,(ay.Order.set (0:Int).toNat H)⟩:aD))).map (Kd.v bD)) 41 2::bX bD (aO U.2 (stI (B == 3) (stI (B == 2) R.Stations (0:Int).toNat (⟨H,cs.Order⟩:aD)) (1:Int).toNat (⟨ay.Places,(ay.Order.set (0:Int).toNat H)⟩:aD)))::.row (sa bf) 45 (([(-2),(-1),0,1,2,5,9,10,11,12,13,25,30,35,40,50,60,70,80,90,100,160,180,250,480,481,600,999,1000,1001,1440,1441,3000,9999,10000,10001,99999,100000,100001,200000,200001,10000000,10000001,9223372036854775807,(-9223372036854775808)]:List Int).map aF) 3 1::Lf) w:=by simp only [aMt] at d ⊢;exact d
    refine t1 _ _ (wp_seq_k λK84 t2=>bK (sp 3 f Z λa f=>aH F λos jq F=>cV 6 (λa=>Has 515 a [(2,i6 H),(3,i6 B),(7,pq aj),(8,.slice (sa O) ((stI (B == 13) (stI (B == 12) (stI (B == 11) (stI (B == 10) (stI (B == 9) an (0:Int).toNat (⟨(⟨ak.Way.Lo,H⟩:aE),ak.Work,ak.Open,ak.Close⟩:aG)) (0:Int).toNat (⟨aq.Way,(⟨H,aq.Work.Hi⟩:aE),aq.Open,aq.Close⟩:aG)) (1:Int).toNat (⟨(⟨H,am.Way.Hi⟩:aE),am.Work,am.Open,am.Close⟩:aG)) (0:Int).toNat (⟨a8.Way,a8.Work,H,a8.Close⟩:aG)) (1:Int).toNat (⟨a9.Way,a9.Work,a9.Open,H⟩:aG)).length) a7),(9,pq n),(10,.slice (sa af) ((stI (B == 17) ([481,90]:List Int) (0:Int).toNat H).length) 2),(11,pq J),(12,pq ag),(33,.slice (sa bf) 45 45),(34,i6 (45:Int)),(35,i6 x),(39,i6 B),(141,.bool os)]) d ?_ ?_))
    ·cases hb:(decide (B < 8))
     ·rw [hb] at f
      have F:=eG hb jq
      obtain rfl:=sj F
      exact sp 6 f Z λa f=>aN ⟨f.kp Z,d⟩
     ·rw [hb] at f
      refine have F:=cO hb jq;zN f d qC m8 Z λa w f d=>sp 2 f Z λa f=>aH F λp0 n5 F=>zQ (v:=.bool p0) f d (eN 7) Z (λw d=>by obtain ⟨G1,bu,ax,d,az⟩:=lE pS d k11 k11;obtain ⟨G2,b5,cf,d,cj⟩:=lE wH d k11 k11;obtain ⟨G3,gp,i8,d,ja⟩:=lend d k10;obtain ⟨G4,dj,i9,d,i3⟩:=lend d k9;have hq:=sO (⟨(stI (B == 1) (stI (B == 0) R.People (0:Int).toNat (cp.set (1:Int).toNat H)) (1:Int).toNat (b4.set (0:Int).toNat H)),(stI (B == 3) (stI (B == 2) R.Stations (0:Int).toNat (⟨H,cs.Order⟩:aD)) (1:Int).toNat (⟨ay.Places,(ay.Order.set (0:Int).toNat H)⟩:aD))⟩:aB) (stI (B == 5) (stI (B == 4) ([0,1]:List Int) (0:Int).toNat H) (1:Int).toNat H) (stI (B == 7) (stI (B == 6) ([(⟨0,0⟩:aA),(⟨1,1⟩:aA)]:List aA) (0:Int).toNat (⟨H,gd.Station⟩:aA)) (1:Int).toNat (⟨gr.Person,H⟩:aA)) (((ax.mono b5).mono gp).mono dj) ((cf.mono gp).mono dj) (i8.mono dj) i9 d n5;simp only [List.length_set] at hq;exact (hq).mono λe w h=>⟨h.1,(gV (az _ _ (gV (cj _ _ ((ja _ _ ((i3 _ _ h.2).unpick k9)).unpick k10)) k11 k11)) k11 k11)⟩) λa w f d=>sp 2 f Z λa f=>?_
      obtain rfl:=sj F
      exact aN ⟨f.kp Z,d⟩
    intro a w ⟨f,d⟩
    refine sp 1 f Z λa f=>aH F λoq mm F=>cV 15 (λa=>Has 515 a [(2,i6 H),(3,i6 B),(11,pq J),(12,pq ag),(33,.slice (sa bf) 45 45),(34,i6 (45:Int)),(35,i6 x),(39,i6 B),(157,.bool oq)]) d ?_ ?_
    ·cases hb:os
     ·rw [hb] at f
      try rw [hb] at d
      refine have F:=eG hb mm;sp 3 f Z λa f=>cV 3 (λa=>Has 515 a [(2,i6 H),(3,i6 B),(7,pq aj),(8,.slice (sa O) ((stI (B == 13) (stI (B == 12) (stI (B == 11) (stI (B == 10) (stI (B == 9) an (0:Int).toNat (⟨(⟨ak.Way.Lo,H⟩:aE),ak.Work,ak.Open,ak.Close⟩:aG)) (0:Int).toNat (⟨aq.Way,(⟨H,aq.Work.Hi⟩:aE),aq.Open,aq.Close⟩:aG)) (1:Int).toNat (⟨(⟨H,am.Way.Hi⟩:aE),am.Work,am.Open,am.Close⟩:aG)) (0:Int).toNat (⟨a8.Way,a8.Work,H,a8.Close⟩:aG)) (1:Int).toNat (⟨a9.Way,a9.Work,a9.Open,H⟩:aG)).length) a7),(9,pq n),(10,.slice (sa af) ((stI (B == 17) ([481,90]:List Int) (0:Int).toNat H).length) 2),(11,pq J),(12,pq ag),(33,.slice (sa bf) 45 45),(34,i6 (45:Int)),(35,i6 x),(39,i6 B),(142,.bool false),(148,.bool ((decide (7 < B)) && (decide (B < 18))))]) d ?_ ?_
      ·cases hb:(decide (7 < B)) <;> (rw [hb] at f;exact sp 3 f Z λa f=>aN ⟨f.kp Z,d⟩)
      intro a w ⟨f,d⟩
      refine sp 1 f Z λa f=>aH F λsk j5 F=>cV 7 (λa=>Has 515 a [(2,i6 H),(3,i6 B),(11,pq J),(12,pq ag),(33,.slice (sa bf) 45 45),(34,i6 (45:Int)),(35,i6 x),(39,i6 B),(142,.bool false),(156,.bool sk)]) d ?_ ?_
      ·cases hb:((decide (7 < B)) && (decide (B < 18)))
       ·rw [hb] at f
        have F:=eG hb j5
        obtain rfl:=sj F
        exact sp 7 f Z λa f=>aN ⟨f.kp Z,d⟩
       ·rw [hb] at f
        refine have F:=cO hb j5;zL f d aZ m5 Z λa w f d=>sp 1 f Z λa f=>zN f d aSl m4 Z λa w f d=>sp 1 f Z λa f=>aH F λq2 om F=>zQ (v:=.bool q2) f d (eN 8) Z (λw d=>by obtain ⟨G1,bu,ax,d,az⟩:=lend d k7;obtain ⟨G2,b5,cf,d,cj⟩:=lend d k6;exact (tE (cond (B == 8) H 0) (stI (B == 13) (stI (B == 12) (stI (B == 11) (stI (B == 10) (stI (B == 9) an (0:Int).toNat (⟨(⟨ak.Way.Lo,H⟩:aE),ak.Work,ak.Open,ak.Close⟩:aG)) (0:Int).toNat (⟨aq.Way,(⟨H,aq.Work.Hi⟩:aE),aq.Open,aq.Close⟩:aG)) (1:Int).toNat (⟨(⟨H,am.Way.Hi⟩:aE),am.Work,am.Open,am.Close⟩:aG)) (0:Int).toNat (⟨a8.Way,a8.Work,H,a8.Close⟩:aG)) (1:Int).toNat (⟨a9.Way,a9.Work,a9.Open,H⟩:aG)) (⟨(cond (B == 14) H 600),(cond (B == 15) H 480),(cond (B == 16) H 500)⟩:dN) (stI (B == 17) ([481,90]:List Int) (0:Int).toNat H) (ax.mono b5) cf d om).mono λe w h=>⟨h.1,((az _ _ ((cj _ _ h.2).unpick k6)).unpick k7)⟩) λa w f d=>sp 2 f Z λa f=>?_
        obtain rfl:=sj F
        exact aN ⟨f.kp Z,d⟩
      intro a w ⟨f,d⟩
      refine sp 1 f Z λa f=>?_
      obtain rfl:=sj F
      exact aN ⟨f.kp Z,d⟩
     ·rw [hb] at f
      try rw [hb] at d
      have F:=cO hb mm
      obtain rfl:=sj F
      exact sp 15 f Z λa f=>aN ⟨f.kp Z,d⟩
    intro a w ⟨f,d⟩
    refine sp 1 f Z λa f=>aH F λs6 md F=>cV 9 (λa=>Has 515 a [(2,i6 H),(33,.slice (sa bf) 45 45),(34,i6 (45:Int)),(35,i6 x),(39,i6 B),(167,.bool s6)]) d ?_ ?_
    ·cases hb:oq
     ·rw [hb] at f
      try rw [hb] at d
      refine have F:=eG hb md;sp 3 f Z λa f=>aH F λs8 jv F=>cV 5 (λa=>Has 515 a [(2,i6 H),(33,.slice (sa bf) 45 45),(34,i6 (45:Int)),(35,i6 x),(39,i6 B),(158,.bool false),(166,.bool s8)]) d ?_ ?_
      ·cases hb:(decide (17 < B))
       ·rw [hb] at f
        have F:=eG hb jv
        obtain rfl:=sj F
        exact sp 5 f Z λa f=>aN ⟨f.kp Z,d⟩
       ·rw [hb] at f
        refine have F:=cO hb jv;zN f d lC m2 Z λa w f d=>zL f d aZ m1 Z λa w f d=>aH F λqu nn F=>zQ (v:=.bool qu) f d (eN 9) Z (λw d=>by obtain ⟨G1,bu,ax,d,az⟩:=lend d k3;exact (tM (⟨(cond (B == 18) H I.Car),(cond (B == 19) H I.Wide),(cond (B == 20) H I.Sag),(cond (B == 21) H I.Most),(stI (B == 25) (stI (B == 24) (stI (B == 23) (stI (B == 22) I.Rides (0:Int).toNat (⟨H,ct.Long,ct.Weight⟩:aC)) (0:Int).toNat (⟨cr.From,H,cr.Weight⟩:aC)) (1:Int).toNat (⟨bt.From,bt.Long,(⟨H,bt.Weight.Hi⟩:aE)⟩:aC)) (1:Int).toNat (⟨bv.From,bv.Long,(⟨bv.Weight.Lo,H⟩:aE)⟩:aC))⟩:aJ) (cond (B == 26) H 5) ax d nn).mono λe w h=>⟨h.1,((az _ _ h.2).unpick k3)⟩) λa w f d=>sp 2 f Z λa f=>?_
        obtain rfl:=sj F
        exact aN ⟨f.kp Z,d⟩
      intro a w ⟨f,d⟩
      refine sp 1 f Z λa f=>?_
      obtain rfl:=sj F
      exact aN ⟨f.kp Z,d⟩
     ·rw [hb] at f
      try rw [hb] at d
      have F:=cO hb md
      obtain rfl:=sj F
      exact sp 9 f Z λa f=>aN ⟨f.kp Z,d⟩
    intro a w ⟨f,d⟩
    refine aN (have d:=((((((((((((((d.drop k14).drop k13).drop k12).drop k11).drop k10).drop k9).drop k8).drop k7).drop k6).drop k5).drop k4).drop k3).drop k2).drop k1).drop k0;t2 _ _ (zI f Z F ?_ ?_)) <;> intro F
    ·refine zS λK h=>sp 1 f Z λa f=>zT h (wp_ret (bG (aL (aL (have cu:=cB F cu;have F:=qk _ cu;bG (aL (bG (aL (aL ?_)))))))))
     refine have c8:=finQ F c8;have F:=r5 _ c8;bG (aL ?_)
     obtain rfl:=F
     exact have d:=d.drop k0;zO1 Tryz.results3 f Z ⟨Z,d⟩
    ·exact wp_skip (t5 _ _ (bK (sp 2 f Z λa f=>aN (rk (W (B + 1)) _ _ (sj F).symm ⟨f.kp Z,d⟩))))
   have xk:=cG kb
   clear F
   obtain rfl | rfl | rfl | rfl | rfl | rfl | rfl | rfl | rfl | rfl | rfl | rfl | rfl | rfl | rfl | rfl | rfl | rfl | rfl | rfl | rfl | rfl | rfl | rfl | rfl | rfl | rfl:B=0 ∨ B=1 ∨ B=2 ∨ B=3 ∨ B=4 ∨ B=5 ∨ B=6 ∨ B=7 ∨ B=8 ∨ B=9 ∨ B=10 ∨ B=11 ∨ B=12 ∨ B=13 ∨ B=14 ∨ B=15 ∨ B=16 ∨ B=17 ∨ B=18 ∨ B=19 ∨ B=20 ∨ B=21 ∨ B=22 ∨ B=23 ∨ B=24 ∨ B=25 ∨ B=26:=by omega
   ·refine bK (sp 2 f Z λa f=>?_)
    obtain ⟨X,V⟩:=cK d m0 (show aQ _ 0=some _ from Z)
    exact zP f Z (pIA Tryz.underlying48 qF Z Z X) λa f=>zE f d Z (bB pU Z (cA (sz:=1) (i:=(0:Int).toNat) (j:=0) m0 V Z)) λa w f d=>sp 2 f Z λa f=>have d:=aHf (d.pick k12) g1 Z qg;have d:Ctx G (.row (sa cm) ((M.2 (0:Int).toNat).2) (cp.map aF) 3 1::bX aT ((aO M.2 R.People).eraseIdx (0:Int).toNat)::.row (sa b8) 27 (([.pointer (some ⟨cm,(1:Int).toNat * 1,none⟩),.pointer (some ⟨ci,(0:Int).toNat * 1,none⟩),.pointer (some ⟨ai,(0:Int).toNat * 2 + 0,none⟩),.pointer (some ⟨ck,(0:Int).toNat * 1,none⟩),.pointer (some ⟨aa,(0:Int).toNat * 1,none⟩),.pointer (some ⟨aa,(1:Int).toNat * 1,none⟩),.pointer (some ⟨t,(0:Int).toNat * 2 + 0,none⟩),.pointer (some ⟨t,(1:Int).toNat * 2 + 1,none⟩),pq aj,.pointer (some ⟨O,(0:Int).toNat * 6 + 0 + 1,none⟩),.pointer (some ⟨O,(0:Int).toNat * 6 + 2 + 0,none⟩),.pointer (some ⟨O,(1:Int).toNat * 6 + 0 + 0,none⟩),.pointer (some ⟨O,(0:Int).toNat * 6 + 4,none⟩),.pointer (some ⟨O,(1:Int).toNat * 6 + 5,none⟩),pq n,.pointer (some ⟨n,1,none⟩),.pointer (some ⟨n,2,none⟩),.pointer (some ⟨af,(0:Int).toNat * 1,none⟩),pq J,.pointer (some ⟨J,1,none⟩),.pointer (some ⟨J,2,none⟩),.pointer (some ⟨J,3,none⟩),.pointer (some ⟨Y,(0:Int).toNat * 4 + 0,none⟩),.pointer (some ⟨Y,(0:Int).toNat * 4 + 1,none⟩),.pointer (some ⟨Y,(1:Int).toNat * 4 + 2 + 0,none⟩),.pointer (some ⟨Y,(1:Int).toNat * 4 + 2 + 1,none⟩),pq ag]:List Value).map aBr) 39 1::.box ag [i6 5] 3::.box J [i6 I.Car,i6 I.Wide,i6 I.Sag,i6 I.Most,.slice (sa Y) I.Rides.length av] 37::.row (sa Y) av (I.Rides.map aI) 47 4::.box n [i6 600,i6 480,i6 500] 34::.box aj [i6 0] 3::.row (sa af) 2 (([481,90]:List Int).map aF) 3 1::.row (sa O) a7 (an.map aX) 45 6::.box bj [.slice (sa bi) R.People.length M.1,.slice (sa ai) R.Stations.length U.1] 26::.row (sa t) 2 (([(⟨0,0⟩:aA),(⟨1,1⟩:aA)]:List aA).map aM) 29 2::.row (sa aa) 2 (([0,1]:List Int).map aF) 3 1::.row (sa bi) M.1 ((aO M.2 R.People).map (Kd.v aT)) 22 1::.row (sa ai) U.1 ((aO U.2 R.Stations).map (Kd.v bD)) 41 2::bX bD (aO U.2 R.Stations)::.row (sa bf) 45 (([(-2),(-1),0,1,2,5,9,10,11,12,13,25,30,35,40,50,60,70,80,90,100,160,180,250,480,481,600,999,1000,1001,1440,1441,3000,9999,10000,10001,99999,100000,100001,200000,200001,10000000,10000001,9223372036854775807,(-9223372036854775808)]:List Int).map aF) 3 1::Lf) w:=d;wA (sz:=1) (vs:=[i6 H]) (o':=0) (z:=H) (xs:=cp) f d Z Z Z Z cS Z (λx=>(bQ x).1) (fX jb) (λ_ _=>Z) Z u0 λw d=>have d:=(((((((((((((d.pick k12).pick k12).pick k12).pick k12).pick k12).pick k12).pick k12).pick k12).pick k12).pick k12).pick k12).pick k12).pick k13).pick k13;have d:=aGz (K:=aT) (y:=(cp.set (1:Int).toNat H)) g1 qg Z (by show ([.slice ((M.2 (0:Int).toNat).1) cp.length ((M.2 (0:Int).toNat).2)]:List Value)=[.slice ((M.2 (0:Int).toNat).1) ((cp.set (1:Int).toNat H).length) ((M.2 (0:Int).toNat).2)];rw [List.length_set]) d;have d:Ctx G (.row (sa bi) M.1 ((aO M.2 (R.People.set (0:Int).toNat (cp.set (1:Int).toNat H))).map (Kd.v aT)) 22 1::bX aT (aO M.2 (R.People.set (0:Int).toNat (cp.set (1:Int).toNat H)))::.row (sa b8) 27 (([.pointer (some ⟨cm,(1:Int).toNat * 1,none⟩),.pointer (some ⟨ci,(0:Int).toNat * 1,none⟩),.pointer (some ⟨ai,(0:Int).toNat * 2 + 0,none⟩),.pointer (some ⟨ck,(0:Int).toNat * 1,none⟩),.pointer (some ⟨aa,(0:Int).toNat * 1,none⟩),.pointer (some ⟨aa,(1:Int).toNat * 1,none⟩),.pointer (some ⟨t,(0:Int).toNat * 2 + 0,none⟩),.pointer (some ⟨t,(1:Int).toNat * 2 + 1,none⟩),pq aj,.pointer (some ⟨O,(0:Int).toNat * 6 + 0 + 1,none⟩),.pointer (some ⟨O,(0:Int).toNat * 6 + 2 + 0,none⟩),.pointer (some ⟨O,(1:Int).toNat * 6 + 0 + 0,none⟩),.pointer (some ⟨O,(0:Int).toNat * 6 + 4,none⟩),.pointer (some ⟨O,(1:Int).toNat * 6 + 5,none⟩),pq n,.pointer (some ⟨n,1,none⟩),.pointer (some ⟨n,2,none⟩),.pointer (some ⟨af,(0:Int).toNat * 1,none⟩),pq J,.pointer (some ⟨J,1,none⟩),.pointer (some ⟨J,2,none⟩),.pointer (some ⟨J,3,none⟩),.pointer (some ⟨Y,(0:Int).toNat * 4 + 0,none⟩),.pointer (some ⟨Y,(0:Int).toNat * 4 + 1,none⟩),.pointer (some ⟨Y,(1:Int).toNat * 4 + 2 + 0,none⟩),.pointer (some ⟨Y,(1:Int).toNat * 4 + 2 + 1,none⟩),pq ag]:List Value).map aBr) 39 1::.box ag [i6 5] 3::.box J [i6 I.Car,i6 I.Wide,i6 I.Sag,i6 I.Most,.slice (sa Y) I.Rides.length av] 37::.row (sa Y) av (I.Rides.map aI) 47 4::.box n [i6 600,i6 480,i6 500] 34::.box aj [i6 0] 3::.row (sa af) 2 (([481,90]:List Int).map aF) 3 1::.row (sa O) a7 (an.map aX) 45 6::.box bj [.slice (sa bi) R.People.length M.1,.slice (sa ai) R.Stations.length U.1] 26::.row (sa t) 2 (([(⟨0,0⟩:aA),(⟨1,1⟩:aA)]:List aA).map aM) 29 2::.row (sa aa) 2 (([0,1]:List Int).map aF) 3 1::.row (sa ai) U.1 ((aO U.2 R.Stations).map (Kd.v bD)) 41 2::bX bD (aO U.2 R.Stations)::.row (sa bf) 45 (([(-2),(-1),0,1,2,5,9,10,11,12,13,25,30,35,40,50,60,70,80,90,100,160,180,250,480,481,600,999,1000,1001,1440,1441,3000,9999,10000,10001,99999,100000,100001,200000,200001,10000000,10000001,9223372036854775807,(-9223372036854775808)]:List Int).map aF) 3 1::Lf) w:=d;have d:=((((((((((((d.pick k1).pick k1).pick k12).pick k12).pick k12).pick k12).pick k12).pick k12).pick k12).pick k12).pick k12).pick k12).pick k12;aN (ad _ _ (f.kp Z) d)
   ·refine bK (sp 2 f Z λa f=>?_)
    obtain ⟨X,V⟩:=cK d m0 (show aQ _ 1=some _ from Z)
    exact zP f Z (pIA Tryz.underlying48 qF Z Z X) λa f=>zE f d Z (bB pU Z (cA (sz:=1) (i:=(1:Int).toNat) (j:=0) m0 V Z)) λa w f d=>sp 2 f Z λa f=>have d:=aHf (d.pick k12) d9 Z jx;have d:Ctx G (.row (sa ci) ((M.2 (1:Int).toNat).2) (b4.map aF) 3 1::bX aT ((aO M.2 R.People).eraseIdx (1:Int).toNat)::.row (sa b8) 27 (([.pointer (some ⟨cm,(1:Int).toNat * 1,none⟩),.pointer (some ⟨ci,(0:Int).toNat * 1,none⟩),.pointer (some ⟨ai,(0:Int).toNat * 2 + 0,none⟩),.pointer (some ⟨ck,(0:Int).toNat * 1,none⟩),.pointer (some ⟨aa,(0:Int).toNat * 1,none⟩),.pointer (some ⟨aa,(1:Int).toNat * 1,none⟩),.pointer (some ⟨t,(0:Int).toNat * 2 + 0,none⟩),.pointer (some ⟨t,(1:Int).toNat * 2 + 1,none⟩),pq aj,.pointer (some ⟨O,(0:Int).toNat * 6 + 0 + 1,none⟩),.pointer (some ⟨O,(0:Int).toNat * 6 + 2 + 0,none⟩),.pointer (some ⟨O,(1:Int).toNat * 6 + 0 + 0,none⟩),.pointer (some ⟨O,(0:Int).toNat * 6 + 4,none⟩),.pointer (some ⟨O,(1:Int).toNat * 6 + 5,none⟩),pq n,.pointer (some ⟨n,1,none⟩),.pointer (some ⟨n,2,none⟩),.pointer (some ⟨af,(0:Int).toNat * 1,none⟩),pq J,.pointer (some ⟨J,1,none⟩),.pointer (some ⟨J,2,none⟩),.pointer (some ⟨J,3,none⟩),.pointer (some ⟨Y,(0:Int).toNat * 4 + 0,none⟩),.pointer (some ⟨Y,(0:Int).toNat * 4 + 1,none⟩),.pointer (some ⟨Y,(1:Int).toNat * 4 + 2 + 0,none⟩),.pointer (some ⟨Y,(1:Int).toNat * 4 + 2 + 1,none⟩),pq ag]:List Value).map aBr) 39 1::.box ag [i6 5] 3::.box J [i6 I.Car,i6 I.Wide,i6 I.Sag,i6 I.Most,.slice (sa Y) I.Rides.length av] 37::.row (sa Y) av (I.Rides.map aI) 47 4::.box n [i6 600,i6 480,i6 500] 34::.box aj [i6 0] 3::.row (sa af) 2 (([481,90]:List Int).map aF) 3 1::.row (sa O) a7 (an.map aX) 45 6::.box bj [.slice (sa bi) R.People.length M.1,.slice (sa ai) R.Stations.length U.1] 26::.row (sa t) 2 (([(⟨0,0⟩:aA),(⟨1,1⟩:aA)]:List aA).map aM) 29 2::.row (sa aa) 2 (([0,1]:List Int).map aF) 3 1::.row (sa bi) M.1 ((aO M.2 R.People).map (Kd.v aT)) 22 1::.row (sa ai) U.1 ((aO U.2 R.Stations).map (Kd.v bD)) 41 2::bX bD (aO U.2 R.Stations)::.row (sa bf) 45 (([(-2),(-1),0,1,2,5,9,10,11,12,13,25,30,35,40,50,60,70,80,90,100,160,180,250,480,481,600,999,1000,1001,1440,1441,3000,9999,10000,10001,99999,100000,100001,200000,200001,10000000,10000001,9223372036854775807,(-9223372036854775808)]:List Int).map aF) 3 1::Lf) w:=d;wA (sz:=1) (vs:=[i6 H]) (o':=0) (z:=H) (xs:=b4) f d Z Z Z Z cS Z (λx=>(bQ x).1) (fX jc) (λ_ _=>Z) Z u0 λw d=>have d:=(((((((((((((d.pick k12).pick k12).pick k12).pick k12).pick k12).pick k12).pick k12).pick k12).pick k12).pick k12).pick k12).pick k12).pick k13).pick k13;have d:=aGz (K:=aT) (y:=(b4.set (0:Int).toNat H)) d9 jx Z (by show ([.slice ((M.2 (1:Int).toNat).1) b4.length ((M.2 (1:Int).toNat).2)]:List Value)=[.slice ((M.2 (1:Int).toNat).1) ((b4.set (0:Int).toNat H).length) ((M.2 (1:Int).toNat).2)];rw [List.length_set]) d;have d:Ctx G (.row (sa bi) M.1 ((aO M.2 (R.People.set (1:Int).toNat (b4.set (0:Int).toNat H))).map (Kd.v aT)) 22 1::bX aT (aO M.2 (R.People.set (1:Int).toNat (b4.set (0:Int).toNat H)))::.row (sa b8) 27 (([.pointer (some ⟨cm,(1:Int).toNat * 1,none⟩),.pointer (some ⟨ci,(0:Int).toNat * 1,none⟩),.pointer (some ⟨ai,(0:Int).toNat * 2 + 0,none⟩),.pointer (some ⟨ck,(0:Int).toNat * 1,none⟩),.pointer (some ⟨aa,(0:Int).toNat * 1,none⟩),.pointer (some ⟨aa,(1:Int).toNat * 1,none⟩),.pointer (some ⟨t,(0:Int).toNat * 2 + 0,none⟩),.pointer (some ⟨t,(1:Int).toNat * 2 + 1,none⟩),pq aj,.pointer (some ⟨O,(0:Int).toNat * 6 + 0 + 1,none⟩),.pointer (some ⟨O,(0:Int).toNat * 6 + 2 + 0,none⟩),.pointer (some ⟨O,(1:Int).toNat * 6 + 0 + 0,none⟩),.pointer (some ⟨O,(0:Int).toNat * 6 + 4,none⟩),.pointer (some ⟨O,(1:Int).toNat * 6 + 5,none⟩),pq n,.pointer (some ⟨n,1,none⟩),.pointer (some ⟨n,2,none⟩),.pointer (some ⟨af,(0:Int).toNat * 1,none⟩),pq J,.pointer (some ⟨J,1,none⟩),.pointer (some ⟨J,2,none⟩),.pointer (some ⟨J,3,none⟩),.pointer (some ⟨Y,(0:Int).toNat * 4 + 0,none⟩),.pointer (some ⟨Y,(0:Int).toNat * 4 + 1,none⟩),.pointer (some ⟨Y,(1:Int).toNat * 4 + 2 + 0,none⟩),.pointer (some ⟨Y,(1:Int).toNat * 4 + 2 + 1,none⟩),pq ag]:List Value).map aBr) 39 1::.box ag [i6 5] 3::.box J [i6 I.Car,i6 I.Wide,i6 I.Sag,i6 I.Most,.slice (sa Y) I.Rides.length av] 37::.row (sa Y) av (I.Rides.map aI) 47 4::.box n [i6 600,i6 480,i6 500] 34::.box aj [i6 0] 3::.row (sa af) 2 (([481,90]:List Int).map aF) 3 1::.row (sa O) a7 (an.map aX) 45 6::.box bj [.slice (sa bi) R.People.length M.1,.slice (sa ai) R.Stations.length U.1] 26::.row (sa t) 2 (([(⟨0,0⟩:aA),(⟨1,1⟩:aA)]:List aA).map aM) 29 2::.row (sa aa) 2 (([0,1]:List Int).map aF) 3 1::.row (sa ai) U.1 ((aO U.2 R.Stations).map (Kd.v bD)) 41 2::bX bD (aO U.2 R.Stations)::.row (sa bf) 45 (([(-2),(-1),0,1,2,5,9,10,11,12,13,25,30,35,40,50,60,70,80,90,100,160,180,250,480,481,600,999,1000,1001,1440,1441,3000,9999,10000,10001,99999,100000,100001,200000,200001,10000000,10000001,9223372036854775807,(-9223372036854775808)]:List Int).map aF) 3 1::Lf) w:=d;have d:=((((((((((((d.pick k1).pick k1).pick k12).pick k12).pick k12).pick k12).pick k12).pick k12).pick k12).pick k12).pick k12).pick k12).pick k12;aN (ad _ _ (f.kp Z) d)
   ·refine bK (sp 2 f Z λa f=>?_)
    obtain ⟨X,V⟩:=cK d m0 (show aQ _ 2=some _ from Z)
    exact zP f Z (pIA Tryz.underlying48 qF Z Z X) λa f=>zE f d Z (bB pU Z (cA (sz:=1) (i:=(2:Int).toNat) (j:=0) m0 V Z)) λa w f d=>sp 2 f Z λa f=>wA (vs:=[i6 H]) (o':=0) (z:=((U.2 (0:Int).toNat),(⟨H,cs.Order⟩:aD))) (xs:=(aO U.2 R.Stations)) f d Z Z Z Z cS Z (λx=>(aFn x).1) (fX (kD ga)) (λe' bn=>by obtain rfl:=sj ((qG (hs:=U.2) (dQ ga).2).symm.trans bn);rfl) Z u13 λw d=>have d:=((((((((((((((d.pick k12).pick k12).pick k12).pick k12).pick k12).pick k12).pick k12).pick k12).pick k12).pick k12).pick k12).pick k12).pick k12).pick k14).pick k14;have d:=aQu (K:=bD) (hs:=U.2) (y:=(⟨H,cs.Order⟩:aD)) ga Z d;have d:Ctx G (.row (sa ai) U.1 ((aO U.2 (R.Stations.set (0:Int).toNat (⟨H,cs.Order⟩:aD))).map (Kd.v bD)) 41 2::bX bD (aO U.2 (R.Stations.set (0:Int).toNat (⟨H,cs.Order⟩:aD)))::.row (sa b8) 27 (([.pointer (some ⟨cm,(1:Int).toNat * 1,none⟩),.pointer (some ⟨ci,(0:Int).toNat * 1,none⟩),.pointer (some ⟨ai,(0:Int).toNat * 2 + 0,none⟩),.pointer (some ⟨ck,(0:Int).toNat * 1,none⟩),.pointer (some ⟨aa,(0:Int).toNat * 1,none⟩),.pointer (some ⟨aa,(1:Int).toNat * 1,none⟩),.pointer (some ⟨t,(0:Int).toNat * 2 + 0,none⟩),.pointer (some ⟨t,(1:Int).toNat * 2 + 1,none⟩),pq aj,.pointer (some ⟨O,(0:Int).toNat * 6 + 0 + 1,none⟩),.pointer (some ⟨O,(0:Int).toNat * 6 + 2 + 0,none⟩),.pointer (some ⟨O,(1:Int).toNat * 6 + 0 + 0,none⟩),.pointer (some ⟨O,(0:Int).toNat * 6 + 4,none⟩),.pointer (some ⟨O,(1:Int).toNat * 6 + 5,none⟩),pq n,.pointer (some ⟨n,1,none⟩),.pointer (some ⟨n,2,none⟩),.pointer (some ⟨af,(0:Int).toNat * 1,none⟩),pq J,.pointer (some ⟨J,1,none⟩),.pointer (some ⟨J,2,none⟩),.pointer (some ⟨J,3,none⟩),.pointer (some ⟨Y,(0:Int).toNat * 4 + 0,none⟩),.pointer (some ⟨Y,(0:Int).toNat * 4 + 1,none⟩),.pointer (some ⟨Y,(1:Int).toNat * 4 + 2 + 0,none⟩),.pointer (some ⟨Y,(1:Int).toNat * 4 + 2 + 1,none⟩),pq ag]:List Value).map aBr) 39 1::.box ag [i6 5] 3::.box J [i6 I.Car,i6 I.Wide,i6 I.Sag,i6 I.Most,.slice (sa Y) I.Rides.length av] 37::.row (sa Y) av (I.Rides.map aI) 47 4::.box n [i6 600,i6 480,i6 500] 34::.box aj [i6 0] 3::.row (sa af) 2 (([481,90]:List Int).map aF) 3 1::.row (sa O) a7 (an.map aX) 45 6::.box bj [.slice (sa bi) R.People.length M.1,.slice (sa ai) R.Stations.length U.1] 26::.row (sa t) 2 (([(⟨0,0⟩:aA),(⟨1,1⟩:aA)]:List aA).map aM) 29 2::.row (sa aa) 2 (([0,1]:List Int).map aF) 3 1::.row (sa bi) M.1 ((aO M.2 R.People).map (Kd.v aT)) 22 1::bX aT (aO M.2 R.People)::.row (sa bf) 45 (([(-2),(-1),0,1,2,5,9,10,11,12,13,25,30,35,40,50,60,70,80,90,100,160,180,250,480,481,600,999,1000,1001,1440,1441,3000,9999,10000,10001,99999,100000,100001,200000,200001,10000000,10000001,9223372036854775807,(-9223372036854775808)]:List Int).map aF) 3 1::Lf) w:=d;have d:=((((((((((((((d.pick k1).pick k1).pick k14).pick k14).pick k14).pick k14).pick k14).pick k14).pick k14).pick k14).pick k14).pick k14).pick k14).pick k14).pick k14;aN (ad _ _ (f.kp Z) d)
   ·refine bK (sp 2 f Z λa f=>?_)
    obtain ⟨X,V⟩:=cK d m0 (show aQ _ 3=some _ from Z)
    exact zP f Z (pIA Tryz.underlying48 qF Z Z X) λa f=>zE f d Z (bB pU Z (cA (sz:=1) (i:=(3:Int).toNat) (j:=0) m0 V Z)) λa w f d=>sp 2 f Z λa f=>have d:=aHf (d.pick k14) d8 Z km;have d:Ctx G (.row (sa ck) ((U.2 (1:Int).toNat).2) (ay.Order.map aF) 3 1::bX bD ((aO U.2 R.Stations).eraseIdx (1:Int).toNat)::.row (sa b8) 27 (([.pointer (some ⟨cm,(1:Int).toNat * 1,none⟩),.pointer (some ⟨ci,(0:Int).toNat * 1,none⟩),.pointer (some ⟨ai,(0:Int).toNat * 2 + 0,none⟩),.pointer (some ⟨ck,(0:Int).toNat * 1,none⟩),.pointer (some ⟨aa,(0:Int).toNat * 1,none⟩),.pointer (some ⟨aa,(1:Int).toNat * 1,none⟩),.pointer (some ⟨t,(0:Int).toNat * 2 + 0,none⟩),.pointer (some ⟨t,(1:Int).toNat * 2 + 1,none⟩),pq aj,.pointer (some ⟨O,(0:Int).toNat * 6 + 0 + 1,none⟩),.pointer (some ⟨O,(0:Int).toNat * 6 + 2 + 0,none⟩),.pointer (some ⟨O,(1:Int).toNat * 6 + 0 + 0,none⟩),.pointer (some ⟨O,(0:Int).toNat * 6 + 4,none⟩),.pointer (some ⟨O,(1:Int).toNat * 6 + 5,none⟩),pq n,.pointer (some ⟨n,1,none⟩),.pointer (some ⟨n,2,none⟩),.pointer (some ⟨af,(0:Int).toNat * 1,none⟩),pq J,.pointer (some ⟨J,1,none⟩),.pointer (some ⟨J,2,none⟩),.pointer (some ⟨J,3,none⟩),.pointer (some ⟨Y,(0:Int).toNat * 4 + 0,none⟩),.pointer (some ⟨Y,(0:Int).toNat * 4 + 1,none⟩),.pointer (some ⟨Y,(1:Int).toNat * 4 + 2 + 0,none⟩),.pointer (some ⟨Y,(1:Int).toNat * 4 + 2 + 1,none⟩),pq ag]:List Value).map aBr) 39 1::.box ag [i6 5] 3::.box J [i6 I.Car,i6 I.Wide,i6 I.Sag,i6 I.Most,.slice (sa Y) I.Rides.length av] 37::.row (sa Y) av (I.Rides.map aI) 47 4::.box n [i6 600,i6 480,i6 500] 34::.box aj [i6 0] 3::.row (sa af) 2 (([481,90]:List Int).map aF) 3 1::.row (sa O) a7 (an.map aX) 45 6::.box bj [.slice (sa bi) R.People.length M.1,.slice (sa ai) R.Stations.length U.1] 26::.row (sa t) 2 (([(⟨0,0⟩:aA),(⟨1,1⟩:aA)]:List aA).map aM) 29 2::.row (sa aa) 2 (([0,1]:List Int).map aF) 3 1::.row (sa bi) M.1 ((aO M.2 R.People).map (Kd.v aT)) 22 1::bX aT (aO M.2 R.People)::.row (sa ai) U.1 ((aO U.2 R.Stations).map (Kd.v bD)) 41 2::.row (sa bf) 45 (([(-2),(-1),0,1,2,5,9,10,11,12,13,25,30,35,40,50,60,70,80,90,100,160,180,250,480,481,600,999,1000,1001,1440,1441,3000,9999,10000,10001,99999,100000,100001,200000,200001,10000000,10000001,9223372036854775807,(-9223372036854775808)]:List Int).map aF) 3 1::Lf) w:=d;wA (sz:=1) (vs:=[i6 H]) (o':=0) (z:=H) (xs:=ay.Order) f d Z Z Z Z cS Z (λx=>(bQ x).1) (fX jg) (λ_ _=>Z) Z u0 λw d=>have d:=(((((((((((((((d.pick k14).pick k14).pick k14).pick k14).pick k14).pick k14).pick k14).pick k14).pick k14).pick k14).pick k14).pick k14).pick k14).pick k14).pick k15).pick k15;have d:=aGz (K:=bD) (y:=(⟨ay.Places,(ay.Order.set (0:Int).toNat H)⟩:aD)) d8 km Z (by show ([i6 ay.Places,.slice ((U.2 (1:Int).toNat).1) ay.Order.length ((U.2 (1:Int).toNat).2)]:List Value)=[i6 ay.Places,.slice ((U.2 (1:Int).toNat).1) ((ay.Order.set (0:Int).toNat H).length) ((U.2 (1:Int).toNat).2)];rw [List.length_set]) d;have d:Ctx G (.row (sa ai) U.1 ((aO U.2 (R.Stations.set (1:Int).toNat (⟨ay.Places,(ay.Order.set (0:Int).toNat H)⟩:aD))).map (Kd.v bD)) 41 2::bX bD (aO U.2 (R.Stations.set (1:Int).toNat (⟨ay.Places,(ay.Order.set (0:Int).toNat H)⟩:aD)))::.row (sa b8) 27 (([.pointer (some ⟨cm,(1:Int).toNat * 1,none⟩),.pointer (some ⟨ci,(0:Int).toNat * 1,none⟩),.pointer (some ⟨ai,(0:Int).toNat * 2 + 0,none⟩),.pointer (some ⟨ck,(0:Int).toNat * 1,none⟩),.pointer (some ⟨aa,(0:Int).toNat * 1,none⟩),.pointer (some ⟨aa,(1:Int).toNat * 1,none⟩),.pointer (some ⟨t,(0:Int).toNat * 2 + 0,none⟩),.pointer (some ⟨t,(1:Int).toNat * 2 + 1,none⟩),pq aj,.pointer (some ⟨O,(0:Int).toNat * 6 + 0 + 1,none⟩),.pointer (some ⟨O,(0:Int).toNat * 6 + 2 + 0,none⟩),.pointer (some ⟨O,(1:Int).toNat * 6 + 0 + 0,none⟩),.pointer (some ⟨O,(0:Int).toNat * 6 + 4,none⟩),.pointer (some ⟨O,(1:Int).toNat * 6 + 5,none⟩),pq n,.pointer (some ⟨n,1,none⟩),.pointer (some ⟨n,2,none⟩),.pointer (some ⟨af,(0:Int).toNat * 1,none⟩),pq J,.pointer (some ⟨J,1,none⟩),.pointer (some ⟨J,2,none⟩),.pointer (some ⟨J,3,none⟩),.pointer (some ⟨Y,(0:Int).toNat * 4 + 0,none⟩),.pointer (some ⟨Y,(0:Int).toNat * 4 + 1,none⟩),.pointer (some ⟨Y,(1:Int).toNat * 4 + 2 + 0,none⟩),.pointer (some ⟨Y,(1:Int).toNat * 4 + 2 + 1,none⟩),pq ag]:List Value).map aBr) 39 1::.box ag [i6 5] 3::.box J [i6 I.Car,i6 I.Wide,i6 I.Sag,i6 I.Most,.slice (sa Y) I.Rides.length av] 37::.row (sa Y) av (I.Rides.map aI) 47 4::.box n [i6 600,i6 480,i6 500] 34::.box aj [i6 0] 3::.row (sa af) 2 (([481,90]:List Int).map aF) 3 1::.row (sa O) a7 (an.map aX) 45 6::.box bj [.slice (sa bi) R.People.length M.1,.slice (sa ai) R.Stations.length U.1] 26::.row (sa t) 2 (([(⟨0,0⟩:aA),(⟨1,1⟩:aA)]:List aA).map aM) 29 2::.row (sa aa) 2 (([0,1]:List Int).map aF) 3 1::.row (sa bi) M.1 ((aO M.2 R.People).map (Kd.v aT)) 22 1::bX aT (aO M.2 R.People)::.row (sa bf) 45 (([(-2),(-1),0,1,2,5,9,10,11,12,13,25,30,35,40,50,60,70,80,90,100,160,180,250,480,481,600,999,1000,1001,1440,1441,3000,9999,10000,10001,99999,100000,100001,200000,200001,10000000,10000001,9223372036854775807,(-9223372036854775808)]:List Int).map aF) 3 1::Lf) w:=d;have d:=((((((((((((((d.pick k1).pick k1).pick k14).pick k14).pick k14).pick k14).pick k14).pick k14).pick k14).pick k14).pick k14).pick k14).pick k14).pick k14).pick k14;aN (ad _ _ (f.kp Z) d)
   ·refine bK (sp 2 f Z λa f=>?_)
    obtain ⟨X,V⟩:=cK d m0 (show aQ _ 4=some _ from Z)
    exact zP f Z (pIA Tryz.underlying48 qF Z Z X) λa f=>zE f d Z (bB pU Z (cA (sz:=1) (i:=(4:Int).toNat) (j:=0) m0 V Z)) λa w f d=>sp 2 f Z λa f=>wA (sz:=1) (vs:=[i6 H]) (o':=0) (z:=H) (xs:=([0,1]:List Int)) f d Z Z Z Z cS Z (λx=>(bQ x).1) (fX jf) (λ_ _=>Z) Z u10 λw d=>aN (ad _ _ (f.kp Z) d)
   ·refine bK (sp 2 f Z λa f=>?_)
    obtain ⟨X,V⟩:=cK d m0 (show aQ _ 5=some _ from Z)
    exact zP f Z (pIA Tryz.underlying48 qF Z Z X) λa f=>zE f d Z (bB pU Z (cA (sz:=1) (i:=(5:Int).toNat) (j:=0) m0 V Z)) λa w f d=>sp 2 f Z λa f=>wA (sz:=1) (vs:=[i6 H]) (o':=0) (z:=H) (xs:=([0,1]:List Int)) f d Z Z Z Z cS Z (λx=>(bQ x).1) (fX ji) (λ_ _=>Z) Z u10 λw d=>aN (ad _ _ (f.kp Z) d)
   ·refine bK (sp 2 f Z λa f=>?_)
    obtain ⟨X,V⟩:=cK d m0 (show aQ _ 6=some _ from Z)
    exact zP f Z (pIA Tryz.underlying48 qF Z Z X) λa f=>zE f d Z (bB pU Z (cA (sz:=1) (i:=(6:Int).toNat) (j:=0) m0 V Z)) λa w f d=>sp 2 f Z λa f=>wA (sz:=2) (vs:=[i6 H]) (o':=0) (z:=(⟨H,gd.Station⟩:aA)) (xs:=([(⟨0,0⟩:aA),(⟨1,1⟩:aA)]:List aA)) f d Z Z Z Z cS Z (λx=>(oL x).1) (fX g6) (λe' bn=>by cases (bn.symm.trans (dQ g6).2);rfl) Z u9 λw d=>aN (ad _ _ (f.kp Z) d)
   ·refine bK (sp 2 f Z λa f=>?_)
    obtain ⟨X,V⟩:=cK d m0 (show aQ _ 7=some _ from Z)
    exact zP f Z (pIA Tryz.underlying48 qF Z Z X) λa f=>zE f d Z (bB pU Z (cA (sz:=1) (i:=(7:Int).toNat) (j:=0) m0 V Z)) λa w f d=>sp 2 f Z λa f=>wA (sz:=2) (vs:=[i6 H]) (o':=1) (z:=(⟨gr.Person,H⟩:aA)) (xs:=([(⟨0,0⟩:aA),(⟨1,1⟩:aA)]:List aA)) f d Z Z Z Z cS Z (λx=>(oL x).1) (fX gy) (λe' bn=>by cases (bn.symm.trans (dQ gy).2);rfl) Z u9 λw d=>aN (ad _ _ (f.kp Z) d)
   ·refine bK (sp 2 f Z λa f=>?_)
    obtain ⟨X,V⟩:=cK d m0 (show aQ _ 8=some _ from Z)
    exact zP f Z (pIA Tryz.underlying48 qF Z Z X) λa f=>zE f d Z (bB pU Z (cA (sz:=1) (i:=(8:Int).toNat) (j:=0) m0 V Z)) λa w f d=>sp 2 f Z λa f=>zW f d cS u5 Z λw d=>aN (ad _ _ (f.kp Z) d)
   ·refine bK (sp 2 f Z λa f=>?_)
    obtain ⟨X,V⟩:=cK d m0 (show aQ _ 9=some _ from Z)
    exact zP f Z (pIA Tryz.underlying48 qF Z Z X) λa f=>zE f d Z (bB pU Z (cA (sz:=1) (i:=(9:Int).toNat) (j:=0) m0 V Z)) λa w f d=>sp 2 f Z λa f=>wA (sz:=6) (vs:=[i6 H]) (o':=1) (z:=(⟨(⟨ak.Way.Lo,H⟩:aE),ak.Work,ak.Open,ak.Close⟩:aG)) (xs:=an) f d Z Z Z Z cS Z (λx=>(iH x).1) (fX g8) (λe' bn=>by cases (bn.symm.trans (dQ g8).2);rfl) Z u7 λw d=>aN (ad _ _ (f.kp Z) d)
   ·refine bK (sp 2 f Z λa f=>?_)
    obtain ⟨X,V⟩:=cK d m0 (show aQ _ 10=some _ from Z)
    exact zP f Z (pIA Tryz.underlying48 qF Z Z X) λa f=>zE f d Z (bB pU Z (cA (sz:=1) (i:=(10:Int).toNat) (j:=0) m0 V Z)) λa w f d=>sp 2 f Z λa f=>wA (sz:=6) (vs:=[i6 H]) (o':=2) (z:=(⟨aq.Way,(⟨H,aq.Work.Hi⟩:aE),aq.Open,aq.Close⟩:aG)) (xs:=an) f d Z Z Z Z cS Z (λx=>(iH x).1) (fX g7) (λe' bn=>by cases (bn.symm.trans (dQ g7).2);rfl) Z u7 λw d=>aN (ad _ _ (f.kp Z) d)
   ·refine bK (sp 2 f Z λa f=>?_)
    obtain ⟨X,V⟩:=cK d m0 (show aQ _ 11=some _ from Z)
    exact zP f Z (pIA Tryz.underlying48 qF Z Z X) λa f=>zE f d Z (bB pU Z (cA (sz:=1) (i:=(11:Int).toNat) (j:=0) m0 V Z)) λa w f d=>sp 2 f Z λa f=>wA (sz:=6) (vs:=[i6 H]) (o':=0) (z:=(⟨(⟨H,am.Way.Hi⟩:aE),am.Work,am.Open,am.Close⟩:aG)) (xs:=an) f d Z Z Z Z cS Z (λx=>(iH x).1) (fX g4) (λe' bn=>by cases (bn.symm.trans (dQ g4).2);rfl) Z u7 λw d=>aN (ad _ _ (f.kp Z) d)
   ·refine bK (sp 2 f Z λa f=>?_)
    obtain ⟨X,V⟩:=cK d m0 (show aQ _ 12=some _ from Z)
    exact zP f Z (pIA Tryz.underlying48 qF Z Z X) λa f=>zE f d Z (bB pU Z (cA (sz:=1) (i:=(12:Int).toNat) (j:=0) m0 V Z)) λa w f d=>sp 2 f Z λa f=>wA (sz:=6) (vs:=[i6 H]) (o':=4) (z:=(⟨a8.Way,a8.Work,H,a8.Close⟩:aG)) (xs:=an) f d Z Z Z Z cS Z (λx=>(iH x).1) (fX g3) (λe' bn=>by cases (bn.symm.trans (dQ g3).2);rfl) Z u7 λw d=>aN (ad _ _ (f.kp Z) d)
   ·refine bK (sp 2 f Z λa f=>?_)
    obtain ⟨X,V⟩:=cK d m0 (show aQ _ 13=some _ from Z)
    exact zP f Z (pIA Tryz.underlying48 qF Z Z X) λa f=>zE f d Z (bB pU Z (cA (sz:=1) (i:=(13:Int).toNat) (j:=0) m0 V Z)) λa w f d=>sp 2 f Z λa f=>wA (sz:=6) (vs:=[i6 H]) (o':=5) (z:=(⟨a9.Way,a9.Work,a9.Open,H⟩:aG)) (xs:=an) f d Z Z Z Z cS Z (λx=>(iH x).1) (fX gv) (λe' bn=>by cases (bn.symm.trans (dQ gv).2);rfl) Z u7 λw d=>aN (ad _ _ (f.kp Z) d)
   ·refine bK (sp 2 f Z λa f=>?_)
    obtain ⟨X,V⟩:=cK d m0 (show aQ _ 14=some _ from Z)
    exact zP f Z (pIA Tryz.underlying48 qF Z Z X) λa f=>zE f d Z (bB pU Z (cA (sz:=1) (i:=(14:Int).toNat) (j:=0) m0 V Z)) λa w f d=>sp 2 f Z λa f=>zW f d cS u4 Z λw d=>aN (ad _ _ (f.kp Z) d)
   ·refine bK (sp 2 f Z λa f=>?_)
    obtain ⟨X,V⟩:=cK d m0 (show aQ _ 15=some _ from Z)
    exact zP f Z (pIA Tryz.underlying48 qF Z Z X) λa f=>zE f d Z (bB pU Z (cA (sz:=1) (i:=(15:Int).toNat) (j:=0) m0 V Z)) λa w f d=>sp 2 f Z λa f=>zW f d cS u4 Z λw d=>aN (ad _ _ (f.kp Z) d)
   ·refine bK (sp 2 f Z λa f=>?_)
    obtain ⟨X,V⟩:=cK d m0 (show aQ _ 16=some _ from Z)
    exact zP f Z (pIA Tryz.underlying48 qF Z Z X) λa f=>zE f d Z (bB pU Z (cA (sz:=1) (i:=(16:Int).toNat) (j:=0) m0 V Z)) λa w f d=>sp 2 f Z λa f=>zW f d cS u4 Z λw d=>aN (ad _ _ (f.kp Z) d)
   ·refine bK (sp 2 f Z λa f=>?_)
    obtain ⟨X,V⟩:=cK d m0 (show aQ _ 17=some _ from Z)
    exact zP f Z (pIA Tryz.underlying48 qF Z Z X) λa f=>zE f d Z (bB pU Z (cA (sz:=1) (i:=(17:Int).toNat) (j:=0) m0 V Z)) λa w f d=>sp 2 f Z λa f=>wA (sz:=1) (vs:=[i6 H]) (o':=0) (z:=H) (xs:=([481,90]:List Int)) f d Z Z Z Z cS Z (λx=>(bQ x).1) (fX jk) (λ_ _=>Z) Z u6 λw d=>aN (ad _ _ (f.kp Z) d)
   ·refine bK (sp 2 f Z λa f=>?_)
    obtain ⟨X,V⟩:=cK d m0 (show aQ _ 18=some _ from Z)
    exact zP f Z (pIA Tryz.underlying48 qF Z Z X) λa f=>zE f d Z (bB pU Z (cA (sz:=1) (i:=(18:Int).toNat) (j:=0) m0 V Z)) λa w f d=>sp 2 f Z λa f=>zW f d cS u2 Z λw d=>aN (ad _ _ (f.kp Z) d)
   ·refine bK (sp 2 f Z λa f=>?_)
    obtain ⟨X,V⟩:=cK d m0 (show aQ _ 19=some _ from Z)
    exact zP f Z (pIA Tryz.underlying48 qF Z Z X) λa f=>zE f d Z (bB pU Z (cA (sz:=1) (i:=(19:Int).toNat) (j:=0) m0 V Z)) λa w f d=>sp 2 f Z λa f=>zW f d cS u2 Z λw d=>aN (ad _ _ (f.kp Z) d)
   ·refine bK (sp 2 f Z λa f=>?_)
    obtain ⟨X,V⟩:=cK d m0 (show aQ _ 20=some _ from Z)
    exact zP f Z (pIA Tryz.underlying48 qF Z Z X) λa f=>zE f d Z (bB pU Z (cA (sz:=1) (i:=(20:Int).toNat) (j:=0) m0 V Z)) λa w f d=>sp 2 f Z λa f=>zW f d cS u2 Z λw d=>aN (ad _ _ (f.kp Z) d)
   ·refine bK (sp 2 f Z λa f=>?_)
    obtain ⟨X,V⟩:=cK d m0 (show aQ _ 21=some _ from Z)
    exact zP f Z (pIA Tryz.underlying48 qF Z Z X) λa f=>zE f d Z (bB pU Z (cA (sz:=1) (i:=(21:Int).toNat) (j:=0) m0 V Z)) λa w f d=>sp 2 f Z λa f=>zW f d cS u2 Z λw d=>aN (ad _ _ (f.kp Z) d)
   ·refine bK (sp 2 f Z λa f=>?_)
    obtain ⟨X,V⟩:=cK d m0 (show aQ _ 22=some _ from Z)
    exact zP f Z (pIA Tryz.underlying48 qF Z Z X) λa f=>zE f d Z (bB pU Z (cA (sz:=1) (i:=(22:Int).toNat) (j:=0) m0 V Z)) λa w f d=>sp 2 f Z λa f=>wA (sz:=4) (vs:=[i6 H]) (o':=0) (z:=(⟨H,ct.Long,ct.Weight⟩:aC)) (xs:=I.Rides) f d Z Z Z Z cS Z (λx=>(dX x).1) (fX g5) (λe' bn=>by cases (bn.symm.trans (dQ g5).2);rfl) Z u3 λw d=>aN (ad _ _ (f.kp Z) d)
   ·refine bK (sp 2 f Z λa f=>?_)
    obtain ⟨X,V⟩:=cK d m0 (show aQ _ 23=some _ from Z)
    exact zP f Z (pIA Tryz.underlying48 qF Z Z X) λa f=>zE f d Z (bB pU Z (cA (sz:=1) (i:=(23:Int).toNat) (j:=0) m0 V Z)) λa w f d=>sp 2 f Z λa f=>wA (sz:=4) (vs:=[i6 H]) (o':=1) (z:=(⟨cr.From,H,cr.Weight⟩:aC)) (xs:=I.Rides) f d Z Z Z Z cS Z (λx=>(dX x).1) (fX g0) (λe' bn=>by cases (bn.symm.trans (dQ g0).2);rfl) Z u3 λw d=>aN (ad _ _ (f.kp Z) d)
   ·refine bK (sp 2 f Z λa f=>?_)
    obtain ⟨X,V⟩:=cK d m0 (show aQ _ 24=some _ from Z)
    exact zP f Z (pIA Tryz.underlying48 qF Z Z X) λa f=>zE f d Z (bB pU Z (cA (sz:=1) (i:=(24:Int).toNat) (j:=0) m0 V Z)) λa w f d=>sp 2 f Z λa f=>wA (sz:=4) (vs:=[i6 H]) (o':=2) (z:=(⟨bt.From,bt.Long,(⟨H,bt.Weight.Hi⟩:aE)⟩:aC)) (xs:=I.Rides) f d Z Z Z Z cS Z (λx=>(dX x).1) (fX ic) (λe' bn=>by cases (bn.symm.trans (dQ ic).2);rfl) Z u3 λw d=>aN (ad _ _ (f.kp Z) d)
   ·refine bK (sp 2 f Z λa f=>?_)
    obtain ⟨X,V⟩:=cK d m0 (show aQ _ 25=some _ from Z)
    exact zP f Z (pIA Tryz.underlying48 qF Z Z X) λa f=>zE f d Z (bB pU Z (cA (sz:=1) (i:=(25:Int).toNat) (j:=0) m0 V Z)) λa w f d=>sp 2 f Z λa f=>wA (sz:=4) (vs:=[i6 H]) (o':=3) (z:=(⟨bv.From,bv.Long,(⟨bv.Weight.Lo,H⟩:aE)⟩:aC)) (xs:=I.Rides) f d Z Z Z Z cS Z (λx=>(dX x).1) (fX ia) (λe' bn=>by cases (bn.symm.trans (dQ ia).2);rfl) Z u3 λw d=>aN (ad _ _ (f.kp Z) d)
   ·refine bK (sp 2 f Z λa f=>?_)
    obtain ⟨X,V⟩:=cK d m0 (show aQ _ 26=some _ from Z)
    exact zP f Z (pIA Tryz.underlying48 qF Z Z X) λa f=>zE f d Z (bB pU Z (cA (sz:=1) (i:=(26:Int).toNat) (j:=0) m0 V Z)) λa w f d=>sp 2 f Z λa f=>zW f d cS u1 Z λw d=>aN (ad _ _ (f.kp Z) d)
  ·exact wp_exit (aP (aP (have cu:=cB F cu;cX (qb _ _ _ cu ⟨f.kp Z,d⟩))))
 ·exact wp_exit (aP (aP (have c8:=cB F c8;cX (s2 _ _ _ c8 ⟨f.kp Z,d⟩))))

end Go.Nilo
