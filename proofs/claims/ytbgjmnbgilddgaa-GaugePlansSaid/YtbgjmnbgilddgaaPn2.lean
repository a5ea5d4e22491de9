/-
 What functions of the Go text compute, as plain functions, and that they do, part 2 of 3. Conditions: what each theorem names.
-/
import Derived.Test.YtbgjmnbgilddgaaPn1
import Derived.Test.YtbgjmnbgilddgaaProg
set_option linter.unusedVariables false
set_option linter.unusedSimpArgs false
set_option maxRecDepth 100000
set_option maxHeartbeats 4000000
namespace Go.Nilo
open Go.Proofs


def gauge_work_better_j2 (N : Nat) (w_ : gauge_work) (a_ : Int) (b__1 : Int) (x : Int) (x_1 : Int) : Option ((Nat → gauge_spent) × (Int → Option Int)) :=
 Option.bind (inR a_ 32) fun un_1 =>
 Option.bind (cmp_Or_int N ([(cmp_Compare_int x ((w_.least a_.toNat).cost)),(cmp_Compare_int x_1 ((w_.least a_.toNat).points))] : List Int)) fun r =>
 Option.bind (cond (decide (r < 0)) (some true) (Option.bind (gauge_far N) fun r_1 =>
 some (((w_.least a_.toNat).cost) == r_1.cost && ((w_.least a_.toNat).points) == r_1.points))) fun t_1 =>
 cond t_1
 (Option.bind (inR a_ 32) fun un_2 =>
 some ((setF w_.least a_.toNat (⟨x,x_1⟩ : gauge_spent)),(setM (setM w_.from_ a_ ((w_.from_ a_).getD 0)) a_ b__1)))
 (some (w_.least,w_.from_))
def gauge_work_better (N : Nat) (w_ : gauge_work) (a_ : Int) (b__1 : Int) : Option ((Nat → gauge_spent) × (Int → Option Int)) :=
 Option.bind (inR b__1 32) fun un =>
 cond (decide (b__1 ≤ ((w_.Site.Points.length : Nat) : Int)))
 (Option.bind (gauge_work_station N w_ b__1) fun r_2 =>
 gauge_work_better_j2 N w_ a_ b__1 (W (((w_.least b__1.toNat).cost) + r_2.Cost)) (W (((w_.least b__1.toNat).points) + 1)))
 (gauge_work_better_j2 N w_ a_ b__1 ((w_.least b__1.toNat).cost) ((w_.least b__1.toNat).points))
theorem gauge_work_better_ok {N : Nat} {G : Pers} {Lf : List Ent} {w : World} (w_ : gauge_work) (a_ : Int) (b__1 : Int) {b_ : Nat} {w__Site_Points_p : Option Addr} {w__Site_Points_c : Nat} {mb : Nat} (h_w__Site_Points : Rd G 3 w__Site_Points_p w__Site_Points_c (w_.Site.Points.map enc_gauge_Point)) (hc : Ctx G (.box b_ (catc [i6 w_.Site.Left,i6 w_.Site.Right,i6 w_.Site.Gap,i6 w_.Site.Step_,.slice w__Site_Points_p w_.Site.Points.length w__Site_Points_c] 32 enc_gauge_spent w_.least [.map (some mb)]) 130::.im mb (fun j => (w_.from_ j).map (Value.int .i64)) none::Lf) w) {res : (Nat → gauge_spent) × (Int → Option Int)} (hF : gauge_work_better N w_ a_ b__1 = some res) : Calls Try.prog 99 #[pq b_,i6 a_,i6 b__1] w (fun e w => e = .returned (.tuple #[]) ∧ Ctx G (.box b_ (catc [i6 w_.Site.Left,i6 w_.Site.Right,i6 w_.Site.Gap,i6 w_.Site.Step_,.slice w__Site_Points_p w_.Site.Points.length w__Site_Points_c] 32 enc_gauge_spent res.1 [.map (some mb)]) 130::.im mb (fun j => (res.2 j).map (Value.int .i64)) none::Lf) w) := by
 unfold gauge_work_better at hF
 refine fnIn Try.func99 rfl Try.ntmps99 rfl fun a hf => zS fun K h => sp 3 hf rfl fun a hf => zP hf rfl (pFA fa_130_1 rfl) fun a hf => ?_
 obtain ⟨un,hun,hF⟩ := bnd_some hF
 refine zP hf rfl (pIAA Try.underlying127 sz_126 rfl rfl (inR_spec hun).1 (inR_spec hun).2) fun a hf => zE hf hc rfl (eLdN (vs := [i6 ((w_.least b__1.toNat).cost),i6 ((w_.least b__1.toNat).points)]) ag_126 rfl rfl (cells_arr (o' := 0) (m := 2) m0 (fun x => (one_enc_gauge_spent x).1) rfl hun rfl)) fun a w hf hc => zA hf hc zr_126 rfl fun b_1 a w hf hc => zW hf hc sz_126 u0 rfl fun w hc => zT h ?_
 refine wp_seq_k fun K2 h2 => ?_
 have hj2 : ∀ (x : Int) (x_1 : Int) a w,Has 73 a [(0,pq b_),(1,i6 a_),(2,i6 b__1),(6,pq b_1)] → Ctx G (.box b_1 [i6 x,i6 x_1] 126::.box b_ (catc [i6 w_.Site.Left,i6 w_.Site.Right,i6 w_.Site.Gap,i6 w_.Site.Step_,.slice w__Site_Points_p w_.Site.Points.length w__Site_Points_c] 32 enc_gauge_spent w_.least [.map (some mb)]) 130::.im mb (fun j => (w_.from_ j).map (Value.int .i64)) none::Lf) w → gauge_work_better_j2 N w_ a_ b__1 x x_1 = some res → K2 a w := by
  repeat (clear hF)
  repeat (clear hc)
  repeat (clear hf)
  intro x x_1 a w hf hc hF
  unfold gauge_work_better_j2 at hF
  refine h2 _ _ ?_
  refine zS fun K h => sp 3 hf rfl fun a hf => zP hf rfl (pFA fa_130_1 rfl) fun a hf => ?_
  obtain ⟨un_1,hun_1,hF⟩ := bnd_some hF
  refine zP hf rfl (pIAA Try.underlying127 sz_126 rfl rfl (inR_spec hun_1).1 (inR_spec hun_1).2) fun a hf => zE hf hc rfl (eLdN (vs := [i6 ((w_.least a_.toNat).cost),i6 ((w_.least a_.toNat).points)]) ag_126 rfl rfl (cells_arr (o' := 0) (m := 2) m1 (fun x => (one_enc_gauge_spent x).1) rfl hun_1 rfl)) fun a w hf hc => zA hf hc zr_126 rfl fun b_2 a w hf hc => zW hf hc sz_126 u0 rfl fun w hc => zT h ?_
  refine wp_seq_k fun K4 h4 => ?_
  obtain ⟨r,hr,hF⟩ := bnd_some hF
  replace hc := hc.nilRow 0 0
  refine regionE (fun θ => [⟨none,none,0,pq b_⟩,⟨none,none,1,i6 a_⟩,⟨none,none,2,i6 b__1⟩,⟨none,none,6,pq b_1⟩,⟨none,none,7,pq b_2⟩,⟨some 0,none,40,pq b_1⟩,⟨some 1,none,41,i6 x⟩,⟨some 2,none,42,pq b_2⟩,⟨some 3,none,43,i6 ((w_.least a_.toNat).cost)⟩,⟨some 4,none,44,i6 (cmp_Compare_int x ((w_.least a_.toNat).cost))⟩,⟨some 5,none,45,.pointer (some ⟨b_1,1,none⟩)⟩,⟨some 6,none,46,i6 x_1⟩,⟨some 7,none,47,.pointer (some ⟨b_2,1,none⟩)⟩,⟨some 8,none,48,i6 ((w_.least a_.toNat).points)⟩,⟨some 9,none,49,i6 (cmp_Compare_int x_1 ((w_.least a_.toNat).points))⟩,⟨some 10,none,50,.slice (some ⟨(θ 80).b,0,none⟩) 2 2⟩,⟨some 11,none,51,i6 r⟩,⟨some 12,none,8,i6 r⟩]) (fun E θ => (bif E 10 then .row (some ⟨(θ 80).b,0,none⟩) 2 (([(cmp_Compare_int x ((w_.least a_.toNat).cost)),(cmp_Compare_int x_1 ((w_.least a_.toNat).points))] : List Int).map encI_i64) 3 1 else .row none 0 [] 0 0)::.box b_2 [i6 ((w_.least a_.toNat).cost),i6 ((w_.least a_.toNat).points)] 126::.box b_1 [i6 x,i6 x_1] 126::.box b_ (catc [i6 w_.Site.Left,i6 w_.Site.Right,i6 w_.Site.Gap,i6 w_.Site.Step_,.slice w__Site_Points_p w_.Site.Points.length w__Site_Points_c] 32 enc_gauge_spent w_.least [.map (some mb)]) 130::.im mb (fun j => (w_.from_ j).map (Value.int .i64)) none::Lf) [] (fun a w => ∃ (b_4 : Nat),Has 73 a [(0,pq b_),(1,i6 a_),(2,i6 b__1),(6,pq b_1),(7,pq b_2),(8,i6 r)] ∧ Ctx G (.row (some ⟨b_4,0,none⟩) 2 (([(cmp_Compare_int x ((w_.least a_.toNat).cost)),(cmp_Compare_int x_1 ((w_.least a_.toNat).points))] : List Int).map encI_i64) 3 1::.box b_2 [i6 ((w_.least a_.toNat).cost),i6 ((w_.least a_.toNat).points)] 126::.box b_1 [i6 x,i6 x_1] 126::.box b_ (catc [i6 w_.Site.Left,i6 w_.Site.Right,i6 w_.Site.Gap,i6 w_.Site.Step_,.slice w__Site_Points_p w_.Site.Points.length w__Site_Points_c] 32 enc_gauge_spent w_.least [.map (some mb)]) 130::.im mb (fun j => (w_.from_ j).map (Value.int .i64)) none::Lf) w) follows_mx (by kernel_rfl) (by kernel_rfl) (HasE.of hf ⟨rfl,rfl,rfl,rfl,rfl,trivial,trivial,trivial,trivial,trivial,trivial,trivial,trivial,trivial,trivial,trivial,trivial,trivial,trivial⟩) hc ⟨?_,?_,?_,?_,?_,?_,?_,?_,?_,?_,?_,?_,?_,trivial⟩ ?_ ?_
  ·intro E θ a w hD hi hp he hc
   have hf := he.h0.mT he 3 rfl
   refine zP hf rfl (pFA fa_126_0 rfl) fun a hf => zD θ he hi hf 5 rfl rfl rfl hc
  ·intro E θ a w hD hi hp he hc
   have e0 := hp.o 0 rfl
   have hf := he.h0.mP he 5 rfl e0
   refine zL hf hc sc_3 m2 rfl fun a w hf hc => zD θ he hi hf 6 rfl rfl rfl hc
  ·intro E θ a w hD hi hp he hc
   have hf := he.h0.mT he 4 rfl
   refine zP hf rfl (pFA fa_126_0 rfl) fun a hf => zD θ he hi hf 7 rfl rfl rfl hc
  ·intro E θ a w hD hi hp he hc
   have e2 := hp.o 2 rfl
   have hf := he.h0.mP he 7 rfl e2
   refine zL hf hc sc_3 m1 rfl fun a w hf hc => zD θ he hi hf 8 rfl rfl rfl hc
  ·intro E θ a w hD hi hp he hc
   have e1 := hp.o 1 rfl
   have e3 := hp.o 3 rfl
   have hf := (he.h0.mP he 6 rfl e1).mP he 8 rfl e3
   refine zQ (v := i6 (cmp_Compare_int x ((w_.least a_.toNat).cost))) hf hc en_114 rfl (fun w hc => cmp_Compare_int_ok x ((w_.least a_.toNat).cost) hc rfl) fun a w hf hc => zD θ he hi hf 9 rfl rfl rfl hc
  ·intro E θ a w hD hi hp he hc
   have hf := he.h0.mT he 3 rfl
   refine zP hf rfl (pFA fa_126_1 rfl) fun a hf => zD θ he hi hf 10 rfl rfl rfl hc
  ·intro E θ a w hD hi hp he hc
   have e5 := hp.o 5 rfl
   have hf := he.h0.mP he 10 rfl e5
   refine zL hf hc sc_3 m2 rfl fun a w hf hc => zD θ he hi hf 11 rfl rfl rfl hc
  ·intro E θ a w hD hi hp he hc
   have hf := he.h0.mT he 4 rfl
   refine zP hf rfl (pFA fa_126_1 rfl) fun a hf => zD θ he hi hf 12 rfl rfl rfl hc
  ·intro E θ a w hD hi hp he hc
   have e7 := hp.o 7 rfl
   have hf := he.h0.mP he 12 rfl e7
   refine zL hf hc sc_3 m1 rfl fun a w hf hc => zD θ he hi hf 13 rfl rfl rfl hc
  ·intro E θ a w hD hi hp he hc
   have e6 := hp.o 6 rfl
   have e8 := hp.o 8 rfl
   have hf := (he.h0.mP he 11 rfl e6).mP he 13 rfl e8
   refine zQ (v := i6 (cmp_Compare_int x_1 ((w_.least a_.toNat).points))) hf hc en_114 rfl (fun w hc => cmp_Compare_int_ok x_1 ((w_.least a_.toNat).points) hc rfl) fun a w hf hc => zD θ he hi hf 14 rfl rfl rfl hc
  ·intro E θ a w hD hi hp he hc
   have e4 := hp.o 4 rfl
   have e9 := hp.o 9 rfl
   try dsimp only at hc
   rw [hi] at hc
   have hf := (he.h0.mP he 9 rfl e4).mP he 14 rfl e9
   refine stBS (rows := ([(cmp_Compare_int x ((w_.least a_.toNat).cost)),(cmp_Compare_int x_1 ((w_.least a_.toNat).points))] : List Int).map encI_i64) (vs := [(0,i6 (cmp_Compare_int x ((w_.least a_.toNat).cost))),(1,i6 (cmp_Compare_int x_1 ((w_.least a_.toNat).points)))]) hf hc rfl rfl sl_43 rfl ⟨rfl,rfl,rfl,rfl,rfl,rfl,trivial⟩ rfl rfl fun b_3 a w hf hc => cNil ?_
   refine xThenN ?_
   intro ds u hau
   replace hc := hc.drop k1
   refine ⟨(setT θ 80 ⟨b_3,none,0,(fun _ => (none,0))⟩),he.put hi hau hf rfl [] trivial ⟨qq,qq,qq,qq,qq,qq,qq,qq,qq,qq,qq,qq,qq,qq,qq,qq,qq,qq,trivial⟩,?_⟩
   try dsimp only
   rw [updE_self E 10]
   exact hc
  ·intro E θ a w hD hi hp he hc
   have e10 := hp.o 10 rfl
   try dsimp only at hc
   rw [e10] at hc
   have hf := he.h0.mP he 15 rfl e10
   refine zQ (v := i6 r) hf hc en_113 rfl (fun w hc => by obtain ⟨G1,hle1,hrd1,hc,hth1⟩ := lend hc k0; exact (cmp_Or_int_ok ([(cmp_Compare_int x ((w_.least a_.toNat).cost)),(cmp_Compare_int x_1 ((w_.least a_.toNat).points))] : List Int) hrd1 hc hr).mono fun e w h => ⟨h.1,((hth1 _ _ h.2).unpick k0)⟩) fun a w hf hc => zD θ he hi hf 16 rfl rfl rfl ?_
   try dsimp only
   rw [updE_tru 11 e10]
   exact hc
  ·intro E θ a w hD hi hp he hc
   have e11 := hp.o 11 rfl
   have hf := he.h0.mP he 16 rfl e11
   refine sp 1 hf rfl fun a hf => zD θ he hi hf 17 rfl rfl rfl hc
  ·intro E θ a w hall he hc
   have hf := he.h0
   have e10 := hall 10 rfl
   have e12 := hall 12 rfl
   replace hf := hf.more he 17 rfl (onP e12)
   replace hf := hf.more he 4 rfl (onT)
   replace hf := hf.more he 3 rfl (onT)
   replace hf := hf.more he 2 rfl (onT)
   replace hf := hf.more he 1 rfl (onT)
   replace hf := hf.more he 0 rfl (onT)
   try dsimp only at hc
   rw [e10] at hc
   exact ⟨(θ 80).b,hf.kp rfl,hc⟩
  rintro a w ⟨b_4,hf,hc⟩
  refine h4 _ _ ?_
  refine wp_seq_k fun K5 h5 => ?_
  obtain ⟨t_1,ht_1,hF⟩ := bnd_some hF
  refine cQ hc follows_mx (by kernel_rfl) ?_
  refine qE hf rfl rfl rfl (Pu.ev (pM rfl)) fun a hf => qE hf rfl rfl rfl (Pu.ev (pLt rfl rfl)) fun a hf => qE hf rfl rfl rfl (Pu.ev (pM rfl)) fun a hf => qCut 4 (fun a => Has 73 a [(0,pq b_),(1,i6 a_),(2,i6 b__1),(6,pq b_1),(7,pq b_2),(8,i6 r),(52,i6 r),(53,.bool (decide (r < 0))),(54,.bool (decide (r < 0))),(58,.bool t_1)]) ?_ ?_
  ·cases hb : (decide (r < 0))
   ·rw [hb] at hf
    have hF := condF hb ht_1
    obtain ⟨r_1,hr_1,hF⟩ := bnd_some hF
    refine qE hf rfl rfl rfl (eLdN (vs := [i6 ((w_.least a_.toNat).cost),i6 ((w_.least a_.toNat).points)]) ag_126 rfl rfl (cells_box (n := 2) m1 rfl)) fun a hf => qE hf rfl rfl rfl (eC (v := .agg #[i6 r_1.cost,i6 r_1.points]) (vs := []) (caps := []) en_67 rfl rfl rfl rfl (fun w hc => gauge_far_ok hc hr_1)) fun a hf => qE hf rfl rfl rfl (Pu.ev (pEqA ge_126 rfl rfl (eqs_126 _ _ _ _))) fun a hf => qE hf rfl rfl rfl (Pu.ev (pPf rfl rfl)) fun a hf => ?_
    obtain rfl := sj hF
    exact qNil (hf.kp rfl)
   ·rw [hb] at hf
    have hF := condT hb ht_1
    obtain rfl := sj hF
    refine qS hf rfl rfl rfl fun a hf => qS hf rfl rfl rfl fun a hf => qS hf rfl rfl rfl fun a hf => qE hf rfl rfl rfl (Pu.ev (pPt rfl rfl)) fun a hf => qNil (hf.kp rfl)
  intro a hf
  intro w hc
  refine h5 _ _ ?_
  refine zI hf rfl hF ?_ ?_ <;> clear hF <;> intro hF
  ·obtain ⟨un_2,hun_2,hF⟩ := bnd_some hF
   refine regionE (fun θ => [⟨none,none,0,pq b_⟩,⟨none,none,1,i6 a_⟩,⟨none,none,2,i6 b__1⟩,⟨none,none,6,pq b_1⟩,⟨some 0,none,59,pq b_⟩,⟨some 1,none,60,i6 a_⟩,⟨some 2,none,61,pq b_⟩,⟨some 3,none,62,pq b_⟩,⟨some 4,none,63,.pointer (some ⟨b_,69,none⟩)⟩,⟨some 5,none,64,.map (some mb)⟩,⟨some 6,none,65,i6 a_⟩,⟨some 7,none,66,.agg #[i6 x,i6 x_1]⟩,⟨some 8,none,67,i6 b__1⟩,⟨some 9,none,68,pq b_⟩,⟨some 10,none,69,.pointer (some ⟨b_,5,none⟩)⟩,⟨some 11,none,70,.pointer (some ⟨b_,5 + a_.toNat * 2,none⟩)⟩,⟨some 13,none,71,.tuple #[i6 ((w_.from_ a_).getD 0),i6 (((θ 104).c : Nat) : Int)]⟩,⟨some 14,none,72,i6 (((θ 104).c : Nat) : Int)⟩]) (fun E θ => .row (some ⟨b_4,0,none⟩) 2 (([(cmp_Compare_int x ((w_.least a_.toNat).cost)),(cmp_Compare_int x_1 ((w_.least a_.toNat).points))] : List Int).map encI_i64) 3 1::.box b_2 [i6 ((w_.least a_.toNat).cost),i6 ((w_.least a_.toNat).points)] 126::.box b_1 [i6 x,i6 x_1] 126::(bif E 12 then .box b_ (catc [i6 w_.Site.Left,i6 w_.Site.Right,i6 w_.Site.Gap,i6 w_.Site.Step_,.slice w__Site_Points_p w_.Site.Points.length w__Site_Points_c] 32 enc_gauge_spent (setF w_.least a_.toNat (⟨x,x_1⟩ : gauge_spent)) [.map (some mb)]) 130 else .box b_ (catc [i6 w_.Site.Left,i6 w_.Site.Right,i6 w_.Site.Gap,i6 w_.Site.Step_,.slice w__Site_Points_p w_.Site.Points.length w__Site_Points_c] 32 enc_gauge_spent w_.least [.map (some mb)]) 130)::(bif E 15 then .im mb (fun j => ((setM (setM w_.from_ a_ ((w_.from_ a_).getD 0)) a_ b__1) j).map (Value.int .i64)) none else bif E 13 then .im mb (fun j => ((setM w_.from_ a_ ((w_.from_ a_).getD 0)) j).map (Value.int .i64)) (some ((θ 104).c,a_)) else .im mb (fun j => (w_.from_ j).map (Value.int .i64)) none)::Lf) [(12,5),(15,13),(14,13)] (fun a w => Has 73 a [] ∧ Ctx G (.row (some ⟨b_4,0,none⟩) 2 (([(cmp_Compare_int x ((w_.least a_.toNat).cost)),(cmp_Compare_int x_1 ((w_.least a_.toNat).points))] : List Int).map encI_i64) 3 1::.box b_2 [i6 ((w_.least a_.toNat).cost),i6 ((w_.least a_.toNat).points)] 126::.box b_1 [i6 x,i6 x_1] 126::.box b_ (catc [i6 w_.Site.Left,i6 w_.Site.Right,i6 w_.Site.Gap,i6 w_.Site.Step_,.slice w__Site_Points_p w_.Site.Points.length w__Site_Points_c] 32 enc_gauge_spent (setF w_.least a_.toNat (⟨x,x_1⟩ : gauge_spent)) [.map (some mb)]) 130::.im mb (fun j => ((setM (setM w_.from_ a_ ((w_.from_ a_).getD 0)) a_ b__1) j).map (Value.int .i64)) none::Lf) w) follows_mx (by kernel_rfl) (by kernel_rfl) (HasE.of hf ⟨rfl,rfl,rfl,rfl,trivial,trivial,trivial,trivial,trivial,trivial,trivial,trivial,trivial,trivial,trivial,trivial,trivial,trivial,trivial⟩) hc ⟨?_,?_,?_,?_,?_,?_,?_,?_,?_,?_,?_,?_,?_,?_,?_,?_,trivial⟩ ?_ ?_
   ·intro E θ a w hD hi hp he hc
    have hf := he.h0.mT he 0 rfl
    refine sp 1 hf rfl fun a hf => zD θ he hi hf 4 rfl rfl rfl hc
   ·intro E θ a w hD hi hp he hc
    have hf := he.h0.mT he 1 rfl
    refine sp 1 hf rfl fun a hf => zD θ he hi hf 5 rfl rfl rfl hc
   ·intro E θ a w hD hi hp he hc
    have hf := he.h0.mT he 0 rfl
    refine sp 1 hf rfl fun a hf => zD θ he hi hf 6 rfl rfl rfl hc
   ·intro E θ a w hD hi hp he hc
    have e2 := hp.o 2 rfl
    have hf := he.h0.mP he 6 rfl e2
    refine sp 1 hf rfl fun a hf => zD θ he hi hf 7 rfl rfl rfl hc
   ·intro E θ a w hD hi hp he hc
    have e3 := hp.o 3 rfl
    have hf := he.h0.mP he 7 rfl e3
    refine zP hf rfl (pFA fa_130_2 rfl) fun a hf => zD θ he hi hf 8 rfl rfl rfl hc
   ·intro E θ a w hD hi hp he hc
    have e4 := hp.o 4 rfl
    have e12 := hD.f 0 rfl hi
    try dsimp only at hc
    rw [e12] at hc
    have hf := he.h0.mP he 8 rfl e4
    refine zL hf hc sc_128 m3 rfl fun a w hf hc => zD θ he hi hf 9 rfl rfl rfl ?_
    try dsimp only
    rw [updE_fls 5 e12 rfl]
    exact hc
   ·intro E θ a w hD hi hp he hc
    have hf := he.h0.mT he 1 rfl
    refine sp 1 hf rfl fun a hf => zD θ he hi hf 10 rfl rfl rfl hc
   ·intro E θ a w hD hi hp he hc
    have hf := he.h0.mT he 3 rfl
    refine zN hf hc ag_126 m2 rfl fun a w hf hc => zD θ he hi hf 11 rfl rfl rfl hc
   ·intro E θ a w hD hi hp he hc
    have hf := he.h0.mT he 2 rfl
    refine sp 1 hf rfl fun a hf => zD θ he hi hf 12 rfl rfl rfl hc
   ·intro E θ a w hD hi hp he hc
    have e0 := hp.o 0 rfl
    have hf := he.h0.mP he 4 rfl e0
    refine sp 1 hf rfl fun a hf => zD θ he hi hf 13 rfl rfl rfl hc
   ·intro E θ a w hD hi hp he hc
    have e9 := hp.o 9 rfl
    have hf := he.h0.mP he 13 rfl e9
    refine zP hf rfl (pFA fa_130_1 rfl) fun a hf => zD θ he hi hf 14 rfl rfl rfl hc
   ·intro E θ a w hD hi hp he hc
    have e1 := hp.o 1 rfl
    have e10 := hp.o 10 rfl
    have hf := (he.h0.mP he 5 rfl e1).mP he 14 rfl e10
    refine zP hf rfl (pIAA Try.underlying127 sz_126 rfl rfl (inR_spec hun_2).1 (inR_spec hun_2).2) fun a hf => zD θ he hi hf 15 rfl rfl rfl hc
   ·intro E θ a w hD hi hp he hc
    have e7 := hp.o 7 rfl
    have e11 := hp.o 11 rfl
    try dsimp only at hc
    rw [hi] at hc
    have hf := (he.h0.mP he 11 rfl e7).mP he 15 rfl e11
    refine stAr (vs := [i6 x,i6 x_1]) (o' := 0) (z := (⟨x,x_1⟩ : gauge_spent)) hf hc rfl rfl rfl rfl sz_126 rfl (fun x => (one_enc_gauge_spent x).1) rfl hun_2 rfl rfl u3 fun w hc => zG θ he hi hf rfl ?_
    try dsimp only
    rw [updE_self E 12]
    exact hc
   ·intro E θ a w hD hi hp he hc
    have e5 := hp.o 5 rfl
    have e6 := hp.o 6 rfl
    have e15 := hD.f 1 rfl hi
    have e14 := hD.f 2 rfl hi
    try dsimp only at hc
    rw [hi,e15] at hc
    have hf := (he.h0.mP he 9 rfl e5).mP he 10 rfl e6
    refine stME (enc := (Value.int .i64)) (z0 := 0) (m := w_.from_) hf hc rfl rfl Try.underlying128 Try.underlying3 zr_3 rfl rfl (fun _ => u4) fun stp a w hf hc => cNil ?_
    refine xThenN ?_
    intro ds u hau
    refine ⟨(setT θ 104 ⟨0,none,stp,(fun _ => (none,0))⟩),he.put hi hau hf rfl [14] ⟨⟨e14,rfl⟩,trivial⟩ ⟨qq,qq,qq,qq,qq,qq,qq,qq,qq,qq,qq,qq,qq,qq,qq,qq,qq,trivial,trivial⟩,?_⟩
    try dsimp only
    rw [updE_self E 13,updE_fls 13 e15 rfl]
    exact hc
   ·intro E θ a w hD hi hp he hc
    have e13 := hp.o 13 rfl
    have hf := he.h0.mP he 16 rfl e13
    refine sp 1 hf rfl fun a hf => zD θ he hi hf 17 rfl rfl rfl hc
   ·intro E θ a w hD hi hp he hc
    have e5 := hp.o 5 rfl
    have e8 := hp.o 8 rfl
    have e14 := hp.o 14 rfl
    have e13 := hp.o 13 rfl
    try dsimp only at hc
    rw [e13,hi] at hc
    have hf := ((he.h0.mP he 9 rfl e5).mP he 12 rfl e8).mP he 17 rfl e14
    refine stES (enc := (Value.int .i64)) (m := (setM w_.from_ a_ ((w_.from_ a_).getD 0))) (v := b__1) hf hc rfl rfl rfl rfl u4 fun w hc => zG θ he hi hf rfl ?_
    try dsimp only
    rw [updE_tru 15 e13,updE_self E 15]
    exact hc
   ·intro E θ a w hall he hc
    have hf := he.h0
    have e12 := hall 12 rfl
    have e13 := hall 13 rfl
    have e15 := hall 15 rfl
    try dsimp only at hc
    rw [e12,e13,e15] at hc
    exact ⟨hf.keep trivial,hc⟩
   rintro a w ⟨hf,hc⟩
   obtain rfl := sj hF
   replace hc := ((hc.drop k2).drop k1).drop k0
   exact fnOut0 (by simp) rfl Try.results99 hf ⟨rfl,hc⟩
  ·refine wp_skip ?_
   obtain rfl := sj hF
   replace hc := ((hc.drop k2).drop k1).drop k0
   exact fnOut0 (by simp) rfl Try.results99 hf ⟨rfl,hc⟩
 refine zS fun K h => sp 3 hf rfl fun a hf => zP hf rfl (pFA fa_130_0 rfl) fun a hf => zP hf rfl (pFA fa_55_4 rfl) fun a hf => zL hf hc sc_53 m1 rfl fun a w hf hc => zP hf rfl (pLenS Try.underlying53 rfl) fun a hf => sp 1 hf rfl fun a hf => zT h ?_
 refine zI hf rfl hF ?_ ?_ <;> clear hF <;> intro hF
 ·obtain ⟨r_2,hr_2,hF⟩ := bnd_some hF
  refine regionE (fun θ => [⟨none,none,0,pq b_⟩,⟨none,none,1,i6 a_⟩,⟨none,none,2,i6 b__1⟩,⟨none,none,6,pq b_1⟩,⟨some 0,none,23,pq b_1⟩,⟨some 1,none,24,i6 ((w_.least b__1.toNat).cost)⟩,⟨some 2,none,25,pq b_⟩,⟨some 3,none,26,i6 b__1⟩,⟨some 4,none,27,.agg #[i6 r_2.At,i6 r_2.Depth,i6 r_2.Cost]⟩,⟨some 5,none,28,i6 r_2.Cost⟩,⟨some 6,none,29,i6 (W (((w_.least b__1.toNat).cost) + r_2.Cost))⟩,⟨some 7,none,30,.pointer (some ⟨b_1,1,none⟩)⟩,⟨some 8,none,31,i6 ((w_.least b__1.toNat).points)⟩,⟨some 9,none,32,i6 (W (((w_.least b__1.toNat).points) + 1))⟩,⟨some 10,none,33,.agg #[i6 (W (((w_.least b__1.toNat).cost) + r_2.Cost)),i6 (W (((w_.least b__1.toNat).points) + 1))]⟩]) (fun E θ => (bif E 11 then .box b_1 [i6 (W (((w_.least b__1.toNat).cost) + r_2.Cost)),i6 (W (((w_.least b__1.toNat).points) + 1))] 126 else .box b_1 [i6 ((w_.least b__1.toNat).cost),i6 ((w_.least b__1.toNat).points)] 126)::.box b_ (catc [i6 w_.Site.Left,i6 w_.Site.Right,i6 w_.Site.Gap,i6 w_.Site.Step_,.slice w__Site_Points_p w_.Site.Points.length w__Site_Points_c] 32 enc_gauge_spent w_.least [.map (some mb)]) 130::.im mb (fun j => (w_.from_ j).map (Value.int .i64)) none::Lf) [(11,1),(11,8)] (fun a w => Has 73 a [(0,pq b_),(1,i6 a_),(2,i6 b__1),(6,pq b_1)] ∧ Ctx G (.box b_1 [i6 (W (((w_.least b__1.toNat).cost) + r_2.Cost)),i6 (W (((w_.least b__1.toNat).points) + 1))] 126::.box b_ (catc [i6 w_.Site.Left,i6 w_.Site.Right,i6 w_.Site.Gap,i6 w_.Site.Step_,.slice w__Site_Points_p w_.Site.Points.length w__Site_Points_c] 32 enc_gauge_spent w_.least [.map (some mb)]) 130::.im mb (fun j => (w_.from_ j).map (Value.int .i64)) none::Lf) w) follows_mx (by kernel_rfl) (by kernel_rfl) (HasE.of hf ⟨rfl,rfl,rfl,rfl,trivial,trivial,trivial,trivial,trivial,trivial,trivial,trivial,trivial,trivial,trivial,trivial⟩) hc ⟨?_,?_,?_,?_,?_,?_,?_,?_,?_,?_,?_,?_,trivial⟩ ?_ ?_
  ·intro E θ a w hD hi hp he hc
   have hf := he.h0.mT he 3 rfl
   refine zP hf rfl (pFA fa_126_0 rfl) fun a hf => zD θ he hi hf 4 rfl rfl rfl hc
  ·intro E θ a w hD hi hp he hc
   have e0 := hp.o 0 rfl
   have e11 := hD.f 0 rfl hi
   try dsimp only at hc
   rw [e11] at hc
   have hf := he.h0.mP he 4 rfl e0
   refine zL hf hc sc_3 m0 rfl fun a w hf hc => zD θ he hi hf 5 rfl rfl rfl ?_
   try dsimp only
   rw [updE_fls 1 e11 rfl]
   exact hc
  ·intro E θ a w hD hi hp he hc
   have hf := he.h0.mT he 0 rfl
   refine sp 1 hf rfl fun a hf => zD θ he hi hf 6 rfl rfl rfl hc
  ·intro E θ a w hD hi hp he hc
   have hf := he.h0.mT he 2 rfl
   refine sp 1 hf rfl fun a hf => zD θ he hi hf 7 rfl rfl rfl hc
  ·intro E θ a w hD hi hp he hc
   have e2 := hp.o 2 rfl
   have e3 := hp.o 3 rfl
   have hf := (he.h0.mP he 6 rfl e2).mP he 7 rfl e3
   refine zQ (v := .agg #[i6 r_2.At,i6 r_2.Depth,i6 r_2.Cost]) hf hc en_84 rfl (fun w hc => (gauge_work_station_ok w_ b__1 h_w__Site_Points ((hc.pick k2).pick k2) hr_2).mono fun e w h => ⟨h.1,((h.2.unpick k2).unpick k2)⟩) fun a w hf hc => zD θ he hi hf 8 rfl rfl rfl hc
  ·intro E θ a w hD hi hp he hc
   have e4 := hp.o 4 rfl
   have hf := he.h0.mP he 8 rfl e4
   refine zP hf rfl (pField1 Try.underlying64 rfl sc_3 rfl rfl) fun a hf => zD θ he hi hf 9 rfl rfl rfl hc
  ·intro E θ a w hD hi hp he hc
   have e1 := hp.o 1 rfl
   have e5 := hp.o 5 rfl
   have hf := (he.h0.mP he 5 rfl e1).mP he 9 rfl e5
   refine sp 1 hf rfl fun a hf => zD θ he hi hf 10 rfl rfl rfl hc
  ·intro E θ a w hD hi hp he hc
   have hf := he.h0.mT he 3 rfl
   refine zP hf rfl (pFA fa_126_1 rfl) fun a hf => zD θ he hi hf 11 rfl rfl rfl hc
  ·intro E θ a w hD hi hp he hc
   have e7 := hp.o 7 rfl
   have e11 := hD.f 1 rfl hi
   try dsimp only at hc
   rw [e11] at hc
   have hf := he.h0.mP he 11 rfl e7
   refine zL hf hc sc_3 m0 rfl fun a w hf hc => zD θ he hi hf 12 rfl rfl rfl ?_
   try dsimp only
   rw [updE_fls 8 e11 rfl]
   exact hc
  ·intro E θ a w hD hi hp he hc
   have e8 := hp.o 8 rfl
   have hf := he.h0.mP he 12 rfl e8
   refine sp 1 hf rfl fun a hf => zD θ he hi hf 13 rfl rfl rfl hc
  ·intro E θ a w hD hi hp he hc
   have e6 := hp.o 6 rfl
   have e9 := hp.o 9 rfl
   have hf := (he.h0.mP he 10 rfl e6).mP he 13 rfl e9
   refine zP hf rfl (pBuildS (cells := [i6 (W (((w_.least b__1.toNat).cost) + r_2.Cost)),i6 (W (((w_.least b__1.toNat).points) + 1))]) bt_126 rfl rfl) fun a hf => zD θ he hi hf 14 rfl rfl rfl hc
  ·intro E θ a w hD hi hp he hc
   have e10 := hp.o 10 rfl
   try dsimp only at hc
   rw [hi] at hc
   have hf := (he.h0.mT he 3 rfl).mP he 14 rfl e10
   refine zW hf hc sz_126 u0 rfl fun w hc => zG θ he hi hf rfl ?_
   try dsimp only
   rw [updE_self E 11]
   exact hc
  ·intro E θ a w hall he hc
   have hf := he.h0
   have e11 := hall 11 rfl
   replace hf := hf.more he 3 rfl (onT)
   replace hf := hf.more he 2 rfl (onT)
   replace hf := hf.more he 1 rfl (onT)
   replace hf := hf.more he 0 rfl (onT)
   try dsimp only at hc
   rw [e11] at hc
   exact ⟨hf.kp rfl,hc⟩
  rintro a w ⟨hf,hc⟩
  exact hj2 (W (((w_.least b__1.toNat).cost) + r_2.Cost)) (W (((w_.least b__1.toNat).points) + 1)) _ _  (hf.kp rfl) hc hF
 ·refine wp_skip ?_
  exact hj2 ((w_.least b__1.toNat).cost) ((w_.least b__1.toNat).points) _ _  (hf.kp rfl) hc hF

def gauge_opened_j21 (N : Nat) (b_3 : Int) (x_2 : Nat → gauge_spent) (mp_2 : Int → Option Int) : Option (Step (Int × (Nat → gauge_spent) × (Int → Option Int)) (Step (Int × (Nat → gauge_spent) × (Int → Option Int)) ((Int) ⊕ (Int × Int × Int × Int × (Nat → gauge_spent) × (Int → Option Int) × Int)))) :=
 some (.cont (W (b_3 + 1),x_2,mp_2))
def gauge_opened_b18 (N : Nat) (s_ : gauge_Site) (a_1 : Int) (b_3 : Int) (x_1 : Nat → gauge_spent) (mp_1 : Int → Option Int) : Option (Step (Int × (Nat → gauge_spent) × (Int → Option Int)) (Step (Int × (Nat → gauge_spent) × (Int → Option Int)) ((Int) ⊕ (Int × Int × Int × Int × (Nat → gauge_spent) × (Int → Option Int) × Int)))) :=
 cond (decide (b_3 ≤ (W (((s_.Points.length : Nat) : Int) + 1))))
 (Option.bind (gauge_work_steps N (⟨s_,x_1,mp_1⟩ : gauge_work) a_1 b_3) fun r_2 =>
 Option.bind (cond r_2 (Option.bind (inR b_3 32) fun un_1 =>
 Option.bind (gauge_far N) fun r_3 =>
 some (!(((x_1 b_3.toNat).cost) == r_3.cost && ((x_1 b_3.toNat).points) == r_3.points))) (some false)) fun t_1 =>
 cond t_1
 (Option.bind (gauge_work_better N (⟨s_,x_1,mp_1⟩ : gauge_work) a_1 b_3) fun r_4 =>
 gauge_opened_j21 N b_3 r_4.1 r_4.2)
 (gauge_opened_j21 N b_3 x_1 mp_1))
 (some (.brk (b_3,x_1,mp_1)))
def gauge_opened_b10 (N : Nat) (s_ : gauge_Site) (a_1 : Int) (x : Nat → gauge_spent) (mp : Int → Option Int) : Option (Step (Int × (Nat → gauge_spent) × (Int → Option Int)) ((Int) ⊕ (Int × Int × Int × Int × (Nat → gauge_spent) × (Int → Option Int) × Int))) :=
 cond (decide (0 ≤ a_1))
 (Option.bind (gauge_far N) fun r_1 =>
 Option.bind (inR a_1 32) fun un =>
 Option.bind (loopO (fun s18 => gauge_opened_b18 N s_ a_1 s18.1 s18.2.1 s18.2.2) N (W (a_1 + 1),(setF x a_1.toNat r_1),mp)) fun x18 =>
 exK x18 (fun s18 => some (.cont (W (a_1 - 1),s18.2.1,s18.2.2))) some)
 (some (.brk (a_1,x,mp)))
def gauge_opened (N : Nat) (s_ : gauge_Site) : Option ((Int) ⊕ (Int × Int × Int × Int × (Nat → gauge_spent) × (Int → Option Int) × Int)) :=
 Option.bind (gauge_CheckSite N s_) fun r =>
 cond (r != 0)
 (some (.inl r))
 (Option.bind (loopO (fun s10 => gauge_opened_b10 N s_ s10.1 s10.2.1 s10.2.2) N (W ((W (((s_.Points.length : Nat) : Int) + 1)) - 1),(fun _ => (⟨0,0⟩ : gauge_spent)),(fun _ => none : Int → Option Int))) fun x10 =>
 exK x10 (fun s10 => some (.inr (s_.Left,s_.Right,s_.Gap,s_.Step_,s10.2.1,s10.2.2,0))) some)
theorem gauge_opened_ok {N : Nat} {G : Pers} {Lf : List Ent} {w : World} (s_ : gauge_Site) {s__Points_p : Option Addr} {s__Points_c : Nat} (h_s__Points : Rd G 3 s__Points_p s__Points_c (s_.Points.map enc_gauge_Point)) (hc : Ctx G (Lf) w) {res : (Int) ⊕ (Int × Int × Int × Int × (Nat → gauge_spent) × (Int → Option Int) × Int)} (hF : gauge_opened N s_ = some res) : Calls Try.prog 66 #[.agg #[i6 s_.Left,i6 s_.Right,i6 s_.Gap,i6 s_.Step_,.slice s__Points_p s_.Points.length s__Points_c]] w (fun e w => sumK (fun rr => e = .returned (.tuple #[.pointer none,i6 rr]) ∧ Ctx G (Lf) w) (fun rr => ∃ (b'1 : Nat) (b'2 : Nat),e = .returned (.tuple #[pq b'1,i6 rr.2.2.2.2.2.2]) ∧ Ctx G (.im b'2 (fun j => (rr.2.2.2.2.2.1 j).map (Value.int .i64)) none::.box b'1 (catc [i6 rr.1,i6 rr.2.1,i6 rr.2.2.1,i6 rr.2.2.2.1,.slice s__Points_p s_.Points.length s__Points_c] 32 enc_gauge_spent rr.2.2.2.2.1 [.map (some b'2)]) 130::Lf) w) res) := by
 unfold gauge_opened at hF
 refine fnIn Try.func66 rfl Try.ntmps66 rfl fun a hf => zS fun K h => zB hf hc rfl fun b_1 a w hf hc => sp 2 hf rfl fun a hf => zT h ?_
 refine wp_seq_k fun K2 h2 => zS fun K h => zN hf hc ag_55 m0 rfl fun a w hf hc => ?_
 obtain ⟨r,hr,hF⟩ := bnd_some hF
 refine zQ (v := i6 r) hf hc en_35 rfl (fun w hc => gauge_CheckSite_ok s_ h_s__Points hc hr) fun a w hf hc => sp 1 hf rfl fun a hf => zT h ?_
 refine zS fun K h => sp 2 hf rfl fun a hf => zT h ?_
 refine zI hf rfl hF ?_ ?_ <;> clear hF <;> intro hF
 ·refine zS fun K h => sp 3 hf rfl fun a hf => zT h ?_
  refine wp_ret ?_
  refine xThenR ?_
  obtain rfl := sj hF
  replace hc := hc.drop k0
  exact zO2 Try.results66 hf rfl rfl ⟨rfl,hc⟩
 ·refine wp_skip ?_
  refine h2 _ _ ?_
  refine zS fun K h => zN hf hc ag_55 m0 rfl fun a w hf hc => stMM hf hc rfl rfl fun mb a w hf hc => ?_
  replace hc : Ctx _ (.im mb (fun j => ((fun _ => none : Int → Option Int) j).map (Value.int .i64)) none::_) w := hc
  refine zP hf rfl (pBuildS (cells := (catc [i6 s_.Left,i6 s_.Right,i6 s_.Gap,i6 s_.Step_,.slice s__Points_p s_.Points.length s__Points_c] 32 enc_gauge_spent (fun _ => (⟨0,0⟩ : gauge_spent)) [.map (some mb)])) bt_130 rfl rfl) fun a hf => stBx (cs := (catc [i6 s_.Left,i6 s_.Right,i6 s_.Gap,i6 s_.Step_,.slice s__Points_p s_.Points.length s__Points_c] 32 enc_gauge_spent (fun _ => (⟨0,0⟩ : gauge_spent)) [.map (some mb)])) hf hc rfl rfl rfl rfl fun b_2 a w hf hc => sp 1 hf rfl fun a hf => zT h ?_
  refine zS fun K h => zP hf rfl (pFA fa_55_4 rfl) fun a hf => zL hf hc sc_53 m2 rfl fun a w hf hc => zP hf rfl (pLenS Try.underlying53 rfl) fun a hf => sp 2 hf rfl fun a hf => zT h ?_
  refine wp_seq_k fun K8 h8 => zS fun K h => sp 3 hf rfl fun a hf => zT h ?_
  refine wp_block ?_
  obtain ⟨x10,hx10,hF⟩ := bnd_some hF
  let S10 : (Int × (Nat → gauge_spent) × (Int → Option Int)) → Act → World → Prop := (fun (zz : Int × (Nat → gauge_spent) × (Int → Option Int)) a w => Has 60 a [(5,pq b_2),(6,i6 (W (((s_.Points.length : Nat) : Int) + 1))),(7,i6 zz.1)] ∧ Ctx G (.box b_2 (catc [i6 s_.Left,i6 s_.Right,i6 s_.Gap,i6 s_.Step_,.slice s__Points_p s_.Points.length s__Points_c] 32 enc_gauge_spent zz.2.1 [.map (some mb)]) 130::.im mb (fun j => (zz.2.2 j).map (Value.int .i64)) none::Lf) w)
  have hr10 : ∀ (zz : Int × (Nat → gauge_spent) × (Int → Option Int)) a w,x10 = .go zz → S10 zz a w → K8 a w := by
   rintro ⟨a_1,x,mp⟩ a w rfl ⟨hf,hc⟩
   replace hF := exK_go hF
   refine h8 _ _ ?_
   refine zS fun K h => sp 3 hf rfl fun a hf => zT h ?_
   refine wp_ret ?_
   obtain rfl := sj hF
   replace hc := (hc.pick k0).pick k1
   exact zO2 Try.results66 hf rfl rfl ⟨b_2,mb,rfl,hc⟩
  have ho10 : ∀ r,x10 = .out r → r = res := by
   rintro r rfl
   exact sj hF
  replace hc := hc.drop k2
  refine cLoop N (loopW (S := S10) (x := x10) ?_ N (W ((W (((s_.Points.length : Nat) : Int) + 1)) - 1),(fun _ => (⟨0,0⟩ : gauge_spent)),(fun _ => none : Int → Option Int)) _ _ ⟨hf.kp rfl,hc⟩ hx10)
  clear hF hf hc
  rintro ⟨a_1,x,mp⟩ st10 a w KB10 ⟨hf,hc⟩ hF hfin10 hK10
  unfold gauge_opened_b10 at hF
  refine wp_seq_k fun K12 h12 => zS fun K h => sp 2 hf rfl fun a hf => zT h ?_
  refine zI hf rfl hF ?_ ?_ <;> clear hF <;> intro hF
  ·refine wp_skip ?_
   refine h12 _ _ ?_
   refine wp_seq_k fun K14 h14 => wp_block ?_
   refine wp_seq_k fun K15 h15 => ?_
   obtain ⟨r_1,hr_1,hF⟩ := bnd_some hF
   obtain ⟨un,hun,hF⟩ := bnd_some hF
   refine regionE (fun θ => [⟨none,none,5,pq b_2⟩,⟨none,none,6,i6 (W (((s_.Points.length : Nat) : Int) + 1))⟩,⟨none,none,7,i6 a_1⟩,⟨some 0,none,28,pq b_2⟩,⟨some 1,none,29,i6 a_1⟩,⟨some 2,none,30,.agg #[i6 r_1.cost,i6 r_1.points]⟩,⟨some 3,none,31,pq b_2⟩,⟨some 4,none,32,.pointer (some ⟨b_2,5,none⟩)⟩,⟨some 5,none,33,.pointer (some ⟨b_2,5 + a_1.toNat * 2,none⟩)⟩]) (fun E θ => (bif E 6 then .box b_2 (catc [i6 s_.Left,i6 s_.Right,i6 s_.Gap,i6 s_.Step_,.slice s__Points_p s_.Points.length s__Points_c] 32 enc_gauge_spent (setF x a_1.toNat r_1) [.map (some mb)]) 130 else .box b_2 (catc [i6 s_.Left,i6 s_.Right,i6 s_.Gap,i6 s_.Step_,.slice s__Points_p s_.Points.length s__Points_c] 32 enc_gauge_spent x [.map (some mb)]) 130)::.im mb (fun j => (mp j).map (Value.int .i64)) none::Lf) [] (fun a w => Has 60 a [(5,pq b_2),(6,i6 (W (((s_.Points.length : Nat) : Int) + 1))),(7,i6 a_1)] ∧ Ctx G (.box b_2 (catc [i6 s_.Left,i6 s_.Right,i6 s_.Gap,i6 s_.Step_,.slice s__Points_p s_.Points.length s__Points_c] 32 enc_gauge_spent (setF x a_1.toNat r_1) [.map (some mb)]) 130::.im mb (fun j => (mp j).map (Value.int .i64)) none::Lf) w) follows_mx (by kernel_rfl) (by kernel_rfl) (HasE.of hf ⟨rfl,rfl,rfl,trivial,trivial,trivial,trivial,trivial,trivial,trivial⟩) hc ⟨?_,?_,?_,?_,?_,?_,?_,trivial⟩ ?_ ?_
   ·intro E θ a w hD hi hp he hc
    have hf := he.h0.mT he 0 rfl
    refine sp 1 hf rfl fun a hf => zD θ he hi hf 3 rfl rfl rfl hc
   ·intro E θ a w hD hi hp he hc
    have hf := he.h0.mT he 2 rfl
    refine sp 1 hf rfl fun a hf => zD θ he hi hf 4 rfl rfl rfl hc
   ·intro E θ a w hD hi hp he hc
    have hf := he.h0
    refine zQ (v := .agg #[i6 r_1.cost,i6 r_1.points]) hf hc en_67 rfl (fun w hc => gauge_far_ok hc hr_1) fun a w hf hc => zD θ he hi hf 5 rfl rfl rfl hc
   ·intro E θ a w hD hi hp he hc
    have e0 := hp.o 0 rfl
    have hf := he.h0.mP he 3 rfl e0
    refine sp 1 hf rfl fun a hf => zD θ he hi hf 6 rfl rfl rfl hc
   ·intro E θ a w hD hi hp he hc
    have e3 := hp.o 3 rfl
    have hf := he.h0.mP he 6 rfl e3
    refine zP hf rfl (pFA fa_130_1 rfl) fun a hf => zD θ he hi hf 7 rfl rfl rfl hc
   ·intro E θ a w hD hi hp he hc
    have e1 := hp.o 1 rfl
    have e4 := hp.o 4 rfl
    have hf := (he.h0.mP he 4 rfl e1).mP he 7 rfl e4
    refine zP hf rfl (pIAA Try.underlying127 sz_126 rfl rfl (inR_spec hun).1 (inR_spec hun).2) fun a hf => zD θ he hi hf 8 rfl rfl rfl hc
   ·intro E θ a w hD hi hp he hc
    have e2 := hp.o 2 rfl
    have e5 := hp.o 5 rfl
    try dsimp only at hc
    rw [hi] at hc
    have hf := (he.h0.mP he 5 rfl e2).mP he 8 rfl e5
    refine stAr (vs := [i6 r_1.cost,i6 r_1.points]) (o' := 0) (z := r_1) hf hc rfl rfl rfl rfl sz_126 rfl (fun x => (one_enc_gauge_spent x).1) rfl hun rfl rfl u0 fun w hc => zG θ he hi hf rfl ?_
    try dsimp only
    rw [updE_self E 6]
    exact hc
   ·intro E θ a w hall he hc
    have hf := he.h0
    have e6 := hall 6 rfl
    replace hf := hf.more he 2 rfl (onT)
    replace hf := hf.more he 1 rfl (onT)
    replace hf := hf.more he 0 rfl (onT)
    try dsimp only at hc
    rw [e6] at hc
    exact ⟨hf.kp rfl,hc⟩
   rintro a w ⟨hf,hc⟩
   refine h15 _ _ ?_
   refine zS fun K h => sp 3 hf rfl fun a hf => zT h ?_
   refine wp_thenK fun K17 h17 => wp_block ?_
   obtain ⟨x18,hx18,hF⟩ := bnd_some hF
   let S18 : (Int × (Nat → gauge_spent) × (Int → Option Int)) → Act → World → Prop := (fun (zz : Int × (Nat → gauge_spent) × (Int → Option Int)) a w => Has 60 a [(5,pq b_2),(6,i6 (W (((s_.Points.length : Nat) : Int) + 1))),(7,i6 a_1),(8,i6 zz.1)] ∧ Ctx G (.box b_2 (catc [i6 s_.Left,i6 s_.Right,i6 s_.Gap,i6 s_.Step_,.slice s__Points_p s_.Points.length s__Points_c] 32 enc_gauge_spent zz.2.1 [.map (some mb)]) 130::.im mb (fun j => (zz.2.2 j).map (Value.int .i64)) none::Lf) w)
   have hr18 : ∀ (zz : Int × (Nat → gauge_spent) × (Int → Option Int)) a w,x18 = .go zz → S18 zz a w → K17 a w := by
    rintro ⟨b_3,x_1,mp_1⟩ a w rfl ⟨hf,hc⟩
    replace hF := exK_go hF
    refine h17 _ _ ?_
    refine h14 _ _ ?_
    refine cReg ?_
    refine sp 3 hf rfl fun a hf => cNil ?_
    exact hK10 (W (a_1 - 1),x_1,mp_1) _ _ (sj hF).symm ⟨hf.kp rfl,hc⟩
   have ho18 : ∀ r,x18 = .out r → r = st10 := by
    rintro r rfl
    exact sj hF
   refine cLoop N (loopW (S := S18) (x := x18) ?_ N (W (a_1 + 1),(setF x a_1.toNat r_1),mp) _ _ ⟨hf.kp rfl,hc⟩ hx18)
   clear hF hf hc
   rintro ⟨b_3,x_1,mp_1⟩ st18 a w KB18 ⟨hf,hc⟩ hF hfin18 hK18
   unfold gauge_opened_b18 at hF
   refine wp_seq_k fun K19 h19 => zS fun K h => sp 3 hf rfl fun a hf => zT h ?_
   refine zI hf rfl hF ?_ ?_ <;> clear hF <;> intro hF
   ·refine wp_skip ?_
    refine h19 _ _ ?_
    refine wp_seq_k fun K21 h21 => ?_
    have hj21 : ∀ (x_2 : Nat → gauge_spent) (mp_2 : Int → Option Int) a w,Has 60 a [(5,pq b_2),(6,i6 (W (((s_.Points.length : Nat) : Int) + 1))),(7,i6 a_1),(8,i6 b_3)] → Ctx G (.box b_2 (catc [i6 s_.Left,i6 s_.Right,i6 s_.Gap,i6 s_.Step_,.slice s__Points_p s_.Points.length s__Points_c] 32 enc_gauge_spent x_2 [.map (some mb)]) 130::.im mb (fun j => (mp_2 j).map (Value.int .i64)) none::Lf) w → gauge_opened_j21 N b_3 x_2 mp_2 = some st18 → K21 a w := by
     repeat (clear hF)
     repeat (clear hc)
     repeat (clear hf)
     intro x_2 mp_2 a w hf hc hF
     unfold gauge_opened_j21 at hF
     refine h21 _ _ ?_
     refine cReg ?_
     refine sp 3 hf rfl fun a hf => cNil ?_
     exact hK18 (W (b_3 + 1),x_2,mp_2) _ _ (sj hF).symm ⟨hf.kp rfl,hc⟩
    refine wp_block ?_
    refine wp_seq_k fun K22 h22 => ?_
    obtain ⟨r_2,hr_2,hF⟩ := bnd_some hF
    obtain ⟨t_1,ht_1,hF⟩ := bnd_some hF
    refine cQ hc follows_mx (by kernel_rfl) ?_
    refine qE hf rfl rfl rfl (Pu.ev (pM rfl)) fun a hf => qE hf rfl rfl rfl (Pu.ev (pM rfl)) fun a hf => qE hf rfl rfl rfl (Pu.ev (pM rfl)) fun a hf => qE hf rfl rfl rfl (eC (v := .bool r_2) (vs := [pq b_2,i6 a_1,i6 b_3]) (caps := []) en_82 rfl rfl rfl rfl (fun w hc => (gauge_work_steps_ok (⟨s_,x_1,mp_1⟩ : gauge_work) a_1 b_3 h_s__Points ((hc.pick k1).pick k1) hr_2).mono fun e w h => ⟨h.1,((h.2.unpick k1).unpick k1)⟩)) fun a hf => qE hf rfl rfl rfl (Pu.ev (pM rfl)) fun a hf => qCut 9 (fun a => Has 60 a [(5,pq b_2),(6,i6 (W (((s_.Points.length : Nat) : Int) + 1))),(7,i6 a_1),(8,i6 b_3),(41,pq b_2),(42,i6 a_1),(43,i6 b_3),(44,.bool r_2),(45,.bool r_2),(54,.bool t_1)]) ?_ ?_
    ·cases hb : r_2
     ·rw [hb] at hf
      have hF := condF hb ht_1
      obtain rfl := sj hF
      refine qS hf rfl rfl rfl fun a hf => qS hf rfl rfl rfl fun a hf => qS hf rfl rfl rfl fun a hf => qS hf rfl rfl rfl fun a hf => qS hf rfl rfl rfl fun a hf => qS hf rfl rfl rfl fun a hf => qS hf rfl rfl rfl fun a hf => qS hf rfl rfl rfl fun a hf => qE hf rfl rfl rfl (Pu.ev (pPf rfl rfl)) fun a hf => qNil (hf.kp rfl)
     ·rw [hb] at hf
      have hF := condT hb ht_1
      obtain ⟨un_1,hun_1,hF⟩ := bnd_some hF
      obtain ⟨r_3,hr_3,hF⟩ := bnd_some hF
      refine qE hf rfl rfl rfl (Pu.ev (pM rfl)) fun a hf => qE hf rfl rfl rfl (Pu.ev (pM rfl)) fun a hf => qE hf rfl rfl rfl (Pu.ev (pNC rfl)) fun a hf => qE hf rfl rfl rfl (Pu.ev (pFA fa_130_1 rfl)) fun a hf => qE hf rfl rfl rfl (Pu.ev (pIAA Try.underlying127 sz_126 rfl rfl (inR_spec hun_1).1 (inR_spec hun_1).2)) fun a hf => qE hf rfl rfl rfl (eLdN (vs := [i6 ((x_1 b_3.toNat).cost),i6 ((x_1 b_3.toNat).points)]) ag_126 rfl rfl (cells_arr (o' := 0) (m := 2) m0 (fun x => (one_enc_gauge_spent x).1) rfl hun_1 rfl)) fun a hf => qE hf rfl rfl rfl (eC (v := .agg #[i6 r_3.cost,i6 r_3.points]) (vs := []) (caps := []) en_67 rfl rfl rfl rfl (fun w hc => gauge_far_ok hc hr_3)) fun a hf => qE hf rfl rfl rfl (Pu.ev (pNeA ge_126 rfl rfl (eqs_126 _ _ _ _))) fun a hf => qE hf rfl rfl rfl (Pu.ev (pPt rfl rfl)) fun a hf => ?_
      obtain rfl := sj hF
      exact qNil (hf.kp rfl)
    intro a hf
    intro w hc
    refine h22 _ _ ?_
    refine zI hf rfl hF ?_ ?_ <;> clear hF <;> intro hF
    ·refine cReg ?_
     refine sp 3 hf rfl fun a hf => ?_
     obtain ⟨r_4,hr_4,hF⟩ := bnd_some hF
     refine zC hf en_99 rfl (gauge_work_better_ok (⟨s_,x_1,mp_1⟩ : gauge_work) a_1 b_3 h_s__Points ((hc.pick k1).pick k1) hr_4) ?_
     rintro _ w ⟨rfl,hc⟩
     refine ⟨_,rfl,fun a hf => ?_⟩
     refine cNil ?_
     exact hj21 r_4.1 r_4.2 _ _  (hf.kp rfl) hc hF
    ·refine wp_skip ?_
     exact hj21 x_1 mp_1 _ _  (hf.kp rfl) hc hF
   ·refine wp_exit ?_
    refine xThen ?_
    refine xThen ?_
    have he := sj hF
    rw [← he] at hfin18
    refine cHit ?_
    exact hr18 _ _ _ hfin18 ⟨hf.kp rfl,hc⟩
  ·refine wp_exit ?_
   refine xThen ?_
   refine xThen ?_
   have he := sj hF
   rw [← he] at hfin10
   refine cHit ?_
   exact hr10 _ _ _ hfin10 ⟨hf.kp rfl,hc⟩

def gauge_Plan_1 : Nat → Int → gauge_work → gauge_Site → (List Int) → Option ((List Int))
| 0,_,_,_,_ => none
| N + 1,at_,x,x_1,x_2 =>
 cond (decide (((x.from_ at_).getD 0) ≤ ((x_1.Points.length : Nat) : Int)))
 (Option.bind (room ((x_2 ++ [((x.from_ at_).getD 0)])).length) fun un =>
 Option.bind (gauge_Plan_1 N ((x.from_ at_).getD 0) (⟨x.Site,x.least,x.from_⟩ : gauge_work) x_1 (x_2 ++ [((x.from_ at_).getD 0)])) fun r =>
 some r)
 (some x_2)
theorem gauge_Plan_1_ok {N : Nat} : ∀ {G : Pers} {Lf : List Ent} {w : World} (at_ : Int) (x : gauge_work) (x_1 : gauge_Site) (x_2 : List Int) {b_ : Nat} {b__1 : Nat} {x_Site_Points_p : Option Addr} {x_Site_Points_c : Nat} {mb : Nat} {b__2 : Nat} {x_1_Points_p : Option Addr} {x_1_Points_c : Nat} {b__3 : Nat} {x_2_p : Option Addr} {x_2_c : Nat} {b__4 : Nat} (h_x_Site_Points : Rd G 3 x_Site_Points_p x_Site_Points_c (x.Site.Points.map enc_gauge_Point)) (h_x_1_Points : Rd G 3 x_1_Points_p x_1_Points_c (x_1.Points.map enc_gauge_Point)) (hc : Ctx G (.box b_ [pq b__1] 122::.box b__1 (catc [i6 x.Site.Left,i6 x.Site.Right,i6 x.Site.Gap,i6 x.Site.Step_,.slice x_Site_Points_p x.Site.Points.length x_Site_Points_c] 32 enc_gauge_spent x.least [.map (some mb)]) 130::.im mb (fun j => (x.from_ j).map (Value.int .i64)) none::.box b__2 [i6 x_1.Left,i6 x_1.Right,i6 x_1.Gap,i6 x_1.Step_,.slice x_1_Points_p x_1.Points.length x_1_Points_c] 55::.box b__3 [.slice x_2_p x_2.length x_2_c] 43::.row x_2_p x_2_c (x_2.map encI_i64) 3 1::.box b__4 [.func (.func 68) #[] #[pq b_,pq b__2,pq b__3,pq b__4]] 132::Lf) w) {res : (List Int)} (hF : gauge_Plan_1 N at_ x x_1 x_2 = some res),Calls Try.prog 68 #[i6 at_,pq b_,pq b__2,pq b__3,pq b__4] w (fun e w => ∃ (p'1 : Option Addr) (c'1 : Nat),e = .returned (.tuple #[]) ∧ Ctx G (.row p'1 c'1 (res.map encI_i64) 3 1::.box b_ [pq b__1] 122::.box b__1 (catc [i6 x.Site.Left,i6 x.Site.Right,i6 x.Site.Gap,i6 x.Site.Step_,.slice x_Site_Points_p x.Site.Points.length x_Site_Points_c] 32 enc_gauge_spent x.least [.map (some mb)]) 130::.im mb (fun j => (x.from_ j).map (Value.int .i64)) none::.box b__2 [i6 x_1.Left,i6 x_1.Right,i6 x_1.Gap,i6 x_1.Step_,.slice x_1_Points_p x_1.Points.length x_1_Points_c] 55::.box b__3 [.slice p'1 res.length c'1] 43::.box b__4 [.func (.func 68) #[] #[pq b_,pq b__2,pq b__3,pq b__4]] 132::Lf) w) := by
 induction N with
 | zero =>
  intro G Lf w at_ x x_1 x_2 b_ b__1 x_Site_Points_p x_Site_Points_c mb b__2 x_1_Points_p x_1_Points_c b__3 x_2_p x_2_c b__4 h_x_Site_Points h_x_1_Points hc res hF
  exact noneO hF
 | succ N ih =>
 intro G Lf w at_ x x_1 x_2 b_ b__1 x_Site_Points_p x_Site_Points_c mb b__2 x_1_Points_p x_1_Points_c b__3 x_2_p x_2_c b__4 h_x_Site_Points h_x_1_Points hc res hF
 rw [gauge_Plan_1] at hF
 refine fnIn Try.func68 rfl Try.ntmps68 rfl fun a hf => zS fun K h => zL hf hc sc_122 m0 rfl fun a w hf hc => sp 1 hf rfl fun a hf => zP hf rfl (pFA fa_130_2 rfl) fun a hf => zL hf hc sc_128 m1 rfl fun a w hf hc => sp 1 hf rfl fun a hf => zE hf hc rfl (eLk (enc := (Value.int .i64)) (z0 := 0) (m := x.from_) m2 Try.underlying128 Try.underlying3 zr_3 rfl rfl) fun a w hf hc => sp 1 hf rfl fun a hf => zT h ?_
 refine zS fun K h => sp 1 hf rfl fun a hf => zP hf rfl (pFA fa_55_4 rfl) fun a hf => zL hf hc sc_53 m3 rfl fun a w hf hc => zP hf rfl (pLenS Try.underlying53 rfl) fun a hf => sp 1 hf rfl fun a hf => zT h ?_
 refine zI hf rfl hF ?_ ?_ <;> clear hF <;> intro hF
 ·refine zS fun K h => zL hf hc sc_43 m4 rfl fun a w hf hc => sp 1 hf rfl fun a hf => stBS (rows := ([((x.from_ at_).getD 0)] : List Int).map encI_i64) (vs := [(0,i6 ((x.from_ at_).getD 0))]) hf hc rfl rfl sl_43 rfl ⟨rfl,rfl,rfl,trivial⟩ rfl rfl fun b_1 a w hf hc => ?_
  obtain ⟨un,hun,hF⟩ := bnd_some hF
  refine stApm (xs := x_2) (ys := ([((x.from_ at_).getD 0)] : List Int)) hf hc rfl rfl sl_43 rfl rfl rfl rfl rfl one_encI_i64 (src_row hc m0) (fun _ _ => u6) (by simpa using room_spec hun) fun p_1 c_1 a w hf hc => zW hf hc sz_43 u5 rfl fun w hc => zT h ?_
  refine cReg ?_
  refine zL hf hc sc_132 m7 rfl fun a w hf hc => sp 1 hf rfl fun a hf => ?_
  obtain ⟨r,hr,hF⟩ := bnd_some hF
  refine zC hf en_68 rfl (ih ((x.from_ at_).getD 0) (⟨x.Site,x.least,x.from_⟩ : gauge_work) x_1 (x_2 ++ [((x.from_ at_).getD 0)]) h_x_Site_Points h_x_1_Points (((((((hc.pick k7).pick k7).pick k7).pick k7).pick k7).pick k7).pick k7) hr) ?_
  rintro _ w ⟨p_2,c_2,rfl,hc⟩
  refine ⟨_,rfl,fun a hf => ?_⟩
  refine cNil ?_
  obtain rfl := sj hF
  replace hc := hc.drop k7
  exact fnOut0 (by simp) rfl Try.results68 hf ⟨p_2,c_2,rfl,hc⟩
 ·refine wp_skip ?_
  obtain rfl := sj hF
  replace hc := (((((hc.pick k4).pick k4).pick k4).pick k4).pick k4).pick k5
  exact fnOut0 (by simp) rfl Try.results68 hf ⟨x_2_p,x_2_c,rfl,hc⟩

def gauge_Plan (N : Nat) (s_ : gauge_Site) : Option ((List Int) × Int × Int) :=
 Option.bind (gauge_opened N s_) (sumK (fun r => cond (r != 0)
 (some (([] : List Int),0,r))
 (none))
 (fun r_1 => cond (r_1.2.2.2.2.2.2 != 0)
 (some (([] : List Int),0,r_1.2.2.2.2.2.2))
 (Option.bind (inR 0 32) fun un =>
 Option.bind (gauge_far N) fun r_2 =>
 cond (((r_1.2.2.2.2.1 (0 : Int).toNat).cost) == r_2.cost && ((r_1.2.2.2.2.1 (0 : Int).toNat).points) == r_2.points)
 (some (([] : List Int),0,5))
 (Option.bind (gauge_Plan_1 N 0 (⟨(⟨r_1.1,r_1.2.1,r_1.2.2.1,r_1.2.2.2.1,s_.Points⟩ : gauge_Site),r_1.2.2.2.2.1,r_1.2.2.2.2.2.1⟩ : gauge_work) s_ ([] : List Int)) fun r_3 =>
 Option.bind (inR 0 32) fun un_1 =>
 some (r_3,(r_1.2.2.2.2.1 (0 : Int).toNat).cost,0)))))
theorem gauge_Plan_ok {N : Nat} {G : Pers} {Lf : List Ent} {w : World} (s_ : gauge_Site) {s__Points_p : Option Addr} {s__Points_c : Nat} (h_s__Points : Rd G 3 s__Points_p s__Points_c (s_.Points.map enc_gauge_Point)) (hc : Ctx G (Lf) w) {res : (List Int) × Int × Int} (hF : gauge_Plan N s_ = some res) : Calls Try.prog 29 #[.agg #[i6 s_.Left,i6 s_.Right,i6 s_.Gap,i6 s_.Step_,.slice s__Points_p s_.Points.length s__Points_c]] w (fun e w => ∃ (p'1 : Option Addr) (c'1 : Nat),e = .returned (.tuple #[.slice p'1 res.1.length c'1,i6 res.2.1,i6 res.2.2]) ∧ Ctx G (.row p'1 c'1 (res.1.map encI_i64) 3 1::Lf) w) := by
 unfold gauge_Plan at hF
 refine fnIn Try.func29 rfl Try.ntmps29 rfl fun a hf => zS fun K h => zB hf hc rfl fun b_1 a w hf hc => sp 3 hf rfl fun a hf => zT h ?_
 refine zS fun K h => zN hf hc ag_55 m0 rfl fun a w hf hc => ?_
 obtain ⟨r,hr,hF⟩ := bnd_some hF
 cases r with
 | inl r =>
  replace hF := sumKl hF
  refine zC hf en_66 rfl (gauge_opened_ok s_ h_s__Points hc hr) ?_
  rintro _ w ⟨rfl,hc⟩
  refine ⟨_,rfl,fun a hf => ?_⟩
  refine sp 3 hf rfl fun a hf => zA hf hc zr_122 rfl fun b_2 a w hf hc => zW hf hc sz_122 u0 rfl fun w hc => sp 1 hf rfl fun a hf => zT h ?_
  refine wp_seq_k fun K3 h3 => wp_block ?_
  refine zS fun K h => sp 3 hf rfl fun a hf => zT h ?_
  refine zI hf rfl hF ?_ ?_ <;> clear hF <;> intro hF
  ·refine zS fun K h => sp 4 hf rfl fun a hf => zT h ?_
   refine wp_ret ?_
   refine xBlkR ?_
   refine xThenR ?_
   obtain rfl := sj hF
   replace hc := hc.nilRow 3 1
   replace hc := (hc.drop k2).drop k1
   exact zO3 Try.results29 hf rfl rfl rfl ⟨none,0,rfl,hc⟩
  ·refine wp_seq_k fun K6 h6 => noneO hF
 | inr r_1 =>
  replace hF := sumKr hF
  have hr_1 := hr
  refine zC hf en_66 rfl (gauge_opened_ok s_ h_s__Points hc hr_1) ?_
  rintro _ w ⟨b_3,b_4,rfl,hc⟩
  refine ⟨_,rfl,fun a hf => ?_⟩
  refine sp 3 hf rfl fun a hf => zA hf hc zr_122 rfl fun b_5 a w hf hc => zW hf hc sz_122 u0 rfl fun w hc => sp 1 hf rfl fun a hf => zT h ?_
  refine wp_seq_k fun K7 h7 => wp_block ?_
  refine zS fun K h => sp 3 hf rfl fun a hf => zT h ?_
  refine zI hf rfl hF ?_ ?_ <;> clear hF <;> intro hF
  ·refine zS fun K h => sp 4 hf rfl fun a hf => zT h ?_
   refine wp_ret ?_
   refine xBlkR ?_
   refine xThenR ?_
   obtain rfl := sj hF
   replace hc := hc.nilRow 3 1
   replace hc := (((hc.drop k4).drop k3).drop k2).drop k1
   exact zO3 Try.results29 hf rfl rfl rfl ⟨none,0,rfl,hc⟩
  ·refine wp_seq_k fun K10 h10 => ?_
   obtain ⟨un,hun,hF⟩ := bnd_some hF
   obtain ⟨r_2,hr_2,hF⟩ := bnd_some hF
   refine cQ hc follows_mx (by kernel_rfl) ?_
   refine qE hf rfl rfl rfl (eLd1 sc_122 rfl (cell_box m0 rfl)) fun a hf => qE hf rfl rfl rfl (Pu.ev (pNC rfl)) fun a hf => qE hf rfl rfl rfl (Pu.ev (pFA fa_130_1 rfl)) fun a hf => qE hf rfl rfl rfl (Pu.ev (pIAA Try.underlying127 sz_126 rfl rfl (inR_spec hun).1 (inR_spec hun).2)) fun a hf => qE hf rfl rfl rfl (eLdN (vs := [i6 ((r_1.2.2.2.2.1 (0 : Int).toNat).cost),i6 ((r_1.2.2.2.2.1 (0 : Int).toNat).points)]) ag_126 rfl rfl (cells_arr (o' := 0) (m := 2) m2 (fun x => (one_enc_gauge_spent x).1) rfl hun rfl)) fun a hf => qE hf rfl rfl rfl (eC (v := .agg #[i6 r_2.cost,i6 r_2.points]) (vs := []) (caps := []) en_67 rfl rfl rfl rfl (fun w hc => gauge_far_ok hc hr_2)) fun a hf => qE hf rfl rfl rfl (Pu.ev (pEqA ge_126 rfl rfl (eqs_126 _ _ _ _))) fun a hf => qE hf rfl rfl rfl (Pu.ev (pA rfl)) fun a hf => ?_
   intro w hc
   refine h10 _ _ ?_
   refine zI hf rfl hF ?_ ?_ <;> clear hF <;> intro hF
   ·refine zS fun K h => sp 3 hf rfl fun a hf => zT h ?_
    refine wp_ret ?_
    refine xBlkR ?_
    refine xThenR ?_
    obtain rfl := sj hF
    replace hc := hc.nilRow 3 1
    replace hc := (((hc.drop k4).drop k3).drop k2).drop k1
    exact zO3 Try.results29 hf rfl rfl rfl ⟨none,0,rfl,hc⟩
   ·refine wp_skip ?_
    refine h7 _ _ ?_
    refine zS fun K h => zA hf hc zr_43 rfl fun b_6 a w hf hc => zT h ?_
    refine zS fun K h => zA hf hc zr_132 rfl fun b_7 a w hf hc => zT h ?_
    refine zS fun K h => zP hf rfl (pMF (us := [pq b_5,pq b_1,pq b_6,pq b_7]) rfl rfl) fun a hf => zW hf hc sz_132 u0 rfl fun w hc => zT h ?_
    refine zS fun K h => zL hf hc sc_132 m0 rfl fun a w hf hc => ?_
    replace hc := hc.nilRow 3 1
    obtain ⟨r_3,hr_3,hF⟩ := bnd_some hF
    refine zC hf en_68 rfl (gauge_Plan_1_ok 0 (⟨(⟨r_1.1,r_1.2.1,r_1.2.2.1,r_1.2.2.2.1,s_.Points⟩ : gauge_Site),r_1.2.2.2.2.1,r_1.2.2.2.2.2.1⟩ : gauge_work) s_ ([] : List Int) h_s__Points h_s__Points (((((((hc.pick k1).pick k1).pick k2).pick k6).pick k5).pick k6).pick k6) hr_3) ?_
    rintro _ w ⟨p_1,c_1,rfl,hc⟩
    refine ⟨_,rfl,fun a hf => ?_⟩
    refine zT h ?_
    refine wp_seq_k fun K16 h16 => ?_
    obtain ⟨un_1,hun_1,hF⟩ := bnd_some hF
    refine cQ hc follows_mx (by kernel_rfl) ?_
    refine qE hf rfl rfl rfl (eLd1 sc_43 rfl (cell_box m5 rfl)) fun a hf => qE hf rfl rfl rfl (eLd1 sc_122 rfl (cell_box m1 rfl)) fun a hf => qE hf rfl rfl rfl (Pu.ev (pNC rfl)) fun a hf => qE hf rfl rfl rfl (Pu.ev (pFA fa_130_1 rfl)) fun a hf => qE hf rfl rfl rfl (Pu.ev (pIAA Try.underlying127 sz_126 rfl rfl (inR_spec hun_1).1 (inR_spec hun_1).2)) fun a hf => qE hf rfl rfl rfl (Pu.ev (pFA fa_126_0 rfl)) fun a hf => qE hf rfl rfl rfl (eLd1 sc_3 rfl (cell_arr (j := 0) m2 (fun x => (one_enc_gauge_spent x).1) rfl hun_1 rfl)) fun a hf => qE hf rfl rfl rfl (Pu.ev (pA rfl)) fun a hf => qE hf rfl rfl rfl (Pu.ev (pA rfl)) fun a hf => qE hf rfl rfl rfl (Pu.ev (pA rfl)) fun a hf => ?_
    intro w hc
    refine h16 _ _ ?_
    refine wp_ret ?_
    obtain rfl := sj hF
    replace hc := (((((hc.drop k6).drop k5).drop k4).drop k3).drop k2).drop k1
    exact zO3 Try.results29 hf rfl rfl rfl ⟨p_1,c_1,rfl,hc⟩

def gauge_Proves_1 (n : Int) : Bool :=
 (gauge_in n (-1000000000) 1000000000)
theorem gauge_Proves_1_ok {G : Pers} {Lf : List Ent} {w : World} (n : Int)   (hc : Ctx G (Lf) w) {res : Bool} (hF : gauge_Proves_1 n = res) : Calls Try.prog 88 #[i6 n] w (fun e w => e = .returned (.bool res) ∧ Ctx G (Lf) w) := by
 unfold gauge_Proves_1 at hF
 refine fnIn Try.func88 rfl Try.ntmps88 rfl fun a hf => zS fun K h => sp 1 hf rfl fun a hf => zT h ?_
 refine zS fun K h => sp 1 hf rfl fun a hf => zQ (v := .bool (gauge_in n (-1000000000) 1000000000)) hf hc en_55 rfl (fun w hc => gauge_in_ok n (-1000000000) 1000000000 hc rfl) fun a w hf hc => sp 1 hf rfl fun a hf => zT h ?_
 refine wp_ret ?_
 obtain rfl := hF
 exact zO1 Try.results88 hf rfl ⟨rfl,hc⟩

def gauge_every_int_1 (x : Int) : Bool :=
 (!(gauge_Proves_1 x))
theorem gauge_every_int_1_ok {G : Pers} {Lf : List Ent} {w : World} (x : Int) {b_ : Nat}  (hc : Ctx G (.box b_ [.func (.func 88) #[] #[]] 145::Lf) w) {res : Bool} (hF : gauge_every_int_1 x = res) : Calls Try.prog 108 #[i6 x,pq b_] w (fun e w => e = .returned (.bool res) ∧ Ctx G (.box b_ [.func (.func 88) #[] #[]] 145::Lf) w) := by
 unfold gauge_every_int_1 at hF
 refine fnIn Try.func108 rfl Try.ntmps108 rfl fun a hf => zS fun K h => sp 1 hf rfl fun a hf => zT h ?_
 refine zS fun K h => zL hf hc sc_145 m0 rfl fun a w hf hc => sp 1 hf rfl fun a hf => zQ (v := .bool (gauge_Proves_1 x)) hf hc en_88 rfl (fun w hc => gauge_Proves_1_ok x hc rfl) fun a w hf hc => sp 2 hf rfl fun a hf => zT h ?_
 refine wp_ret ?_
 obtain rfl := hF
 exact zO1 Try.results108 hf rfl ⟨rfl,hc⟩

def slices_IndexFunc_Lint_int_b4 (N : Nat) (s_ : List Int) (x : Int) : Option (Step (Int) (Int)) :=
 cond (decide (x < ((s_.length : Nat) : Int)))
 (Option.bind (getI s_ x) fun e_1 =>
 cond (gauge_every_int_1 e_1)
 (some (.ret x))
 (some (.cont (W (x + 1)))))
 (some (.brk x))
def slices_IndexFunc_Lint_int (N : Nat) (s_ : List Int) : Option (Int) :=
 Option.bind (loopO (fun s4 => slices_IndexFunc_Lint_int_b4 N s_ s4) N 0) fun x4 =>
 exK x4 (fun s4 => some (-1)) some
theorem slices_IndexFunc_Lint_int_ok {N : Nat} {G : Pers} {Lf : List Ent} {w : World} (s_ : List Int) {s__p : Option Addr} {s__c : Nat} {b_ : Nat} (h_s_ : Rd G 1 s__p s__c (s_.map encI_i64)) (hc : Ctx G (.box b_ [.func (.func 88) #[] #[]] 145::Lf) w) {res : Int} (hF : slices_IndexFunc_Lint_int N s_ = some res) : Calls Try.prog 118 #[.slice s__p s_.length s__c,.func (.func 108) #[] #[pq b_]] w (fun e w => e = .returned (i6 res) ∧ Ctx G (.box b_ [.func (.func 88) #[] #[]] 145::Lf) w) := by
 unfold slices_IndexFunc_Lint_int at hF
 refine fnIn Try.func118 rfl Try.ntmps118 rfl fun a hf => zS fun K h => sp 1 hf rfl fun a hf => zT h ?_
 refine wp_seq_k fun K2 h2 => zS fun K h => sp 1 hf rfl fun a hf => zP hf rfl (pLenS Try.underlying43 rfl) fun a hf => sp 1 hf rfl fun a hf => zT h ?_
 refine wp_block ?_
 obtain ⟨x4,hx4,hF⟩ := bnd_some hF
 let S4 : Int → Act → World → Prop := (fun (zz : Int) a w => Has 19 a [(0,.slice s__p s_.length s__c),(1,.func (.func 108) #[] #[pq b_]),(7,i6 ((s_.length : Nat) : Int)),(8,i6 zz)] ∧ Ctx G (.box b_ [.func (.func 88) #[] #[]] 145::Lf) w)
 have hr4 : ∀ (zz : Int) a w,x4 = .go zz → S4 zz a w → K2 a w := by
  rintro x a w rfl ⟨hf,hc⟩
  replace hF := exK_go hF
  refine h2 _ _ ?_
  refine zS fun K h => sp 1 hf rfl fun a hf => zT h ?_
  refine wp_ret ?_
  obtain rfl := sj hF
  exact zO1 Try.results118 hf rfl ⟨rfl,hc⟩
 have ho4 : ∀ r,x4 = .out r → r = res := by
  rintro r rfl
  exact sj hF
 refine cLoop N (loopW (S := S4) (x := x4) ?_ N 0 _ _ ⟨hf.kp rfl,hc⟩ hx4)
 clear hF hf hc
 rintro x st4 a w KB4 ⟨hf,hc⟩ hF hfin4 hK4
 unfold slices_IndexFunc_Lint_int_b4 at hF
 refine zS fun K h => sp 1 hf rfl fun a hf => zT h ?_
 refine wp_seq_k fun K7 h7 => zI hf rfl hF ?_ ?_ <;> clear hF <;> intro hF
 ·refine wp_skip ?_
  refine h7 _ _ ?_
  refine wp_seq_k fun K8 h8 => wp_block ?_
  refine zS fun K h => sp 2 hf rfl fun a hf => zT h ?_
  refine zS fun K h => sp 3 hf rfl fun a hf => ?_
  obtain ⟨e_1,he_1,hF⟩ := bnd_some hF
  obtain ⟨b_1,o,qa,qp⟩ := h_s_.atm he_1
  refine zP hf rfl (pIA Try.underlying43 sz_3 rfl rfl qa) fun a hf => zE hf hc rfl (eLd1 sc_3 rfl (cell_pc (j := 0) qp rfl)) fun a w hf hc => zQ (v := .bool (gauge_every_int_1 e_1)) hf hc en_108 rfl (fun w hc => (gauge_every_int_1_ok e_1 (hc.pick k0) rfl).mono fun e w h => ⟨h.1,(h.2.unpick k0)⟩) fun a w hf hc => zT h ?_
  refine zI hf rfl hF ?_ ?_ <;> clear hF <;> intro hF
  ·refine zS fun K h => sp 2 hf rfl fun a hf => zT h ?_
   refine wp_ret ?_
   refine xBlkR ?_
   refine xThenR ?_
   refine xThenR ?_
   have he := sj hF
   rw [← he] at hfin4
   replace hF := ho4 _ hfin4
   refine xBlkR ?_
   refine xThenR ?_
   obtain rfl := hF
   exact zO1 Try.results118 hf rfl ⟨rfl,hc⟩
  ·refine wp_skip ?_
   refine h8 _ _ ?_
   refine cReg ?_
   refine sp 2 hf rfl fun a hf => cNil ?_
   exact hK4 (W (x + 1)) _ _ (sj hF).symm ⟨hf.kp rfl,hc⟩
 ·refine wp_exit ?_
  refine xThen ?_
  refine xThen ?_
  have he := sj hF
  rw [← he] at hfin4
  refine cHit ?_
  exact hr4 _ _ _ hfin4 ⟨hf.kp rfl,hc⟩

def slices_ContainsFunc_Lint_int (N : Nat) (s_ : List Int) : Option (Bool) :=
 Option.bind (slices_IndexFunc_Lint_int N s_) fun r =>
 some (decide (0 ≤ r))
theorem slices_ContainsFunc_Lint_int_ok {N : Nat} {G : Pers} {Lf : List Ent} {w : World} (s_ : List Int) {s__p : Option Addr} {s__c : Nat} {b_ : Nat} (h_s_ : Rd G 1 s__p s__c (s_.map encI_i64)) (hc : Ctx G (.box b_ [.func (.func 88) #[] #[]] 145::Lf) w) {res : Bool} (hF : slices_ContainsFunc_Lint_int N s_ = some res) : Calls Try.prog 107 #[.slice s__p s_.length s__c,.func (.func 108) #[] #[pq b_]] w (fun e w => e = .returned (.bool res) ∧ Ctx G (.box b_ [.func (.func 88) #[] #[]] 145::Lf) w) := by
 unfold slices_ContainsFunc_Lint_int at hF
 refine fnIn Try.func107 rfl Try.ntmps107 rfl fun a hf => zS fun K h => sp 1 hf rfl fun a hf => zT h ?_
 refine zS fun K h => sp 2 hf rfl fun a hf => ?_
 obtain ⟨r,hr,hF⟩ := bnd_some hF
 refine zQ (v := i6 r) hf hc en_118 rfl (fun w hc => (slices_IndexFunc_Lint_int_ok s_ h_s_ (hc.pick k0) hr).mono fun e w h => ⟨h.1,(h.2.unpick k0)⟩) fun a w hf hc => sp 2 hf rfl fun a hf => zT h ?_
 refine wp_ret ?_
 obtain rfl := sj hF
 exact zO1 Try.results107 hf rfl ⟨rfl,hc⟩

def gauge_every_int (N : Nat) (l : List Int) : Option (Bool) :=
 Option.bind (slices_ContainsFunc_Lint_int N l) fun r =>
 some (!r)
theorem gauge_every_int_ok {N : Nat} {G : Pers} {Lf : List Ent} {w : World} (l : List Int) {l_p : Option Addr} {l_c : Nat} (h_l : Rd G 1 l_p l_c (l.map encI_i64)) (hc : Ctx G (Lf) w) {res : Bool} (hF : gauge_every_int N l = some res) : Calls Try.prog 79 #[.slice l_p l.length l_c,.func (.func 88) #[] #[]] w (fun e w => e = .returned (.bool res) ∧ Ctx G (Lf) w) := by
 unfold gauge_every_int at hF
 refine fnIn Try.func79 rfl Try.ntmps79 rfl fun a hf => zS fun K h => zB hf hc rfl fun b_1 a w hf hc => sp 1 hf rfl fun a hf => zT h ?_
 refine zS fun K h => sp 1 hf rfl fun a hf => zP hf rfl (pMF (us := [pq b_1]) rfl rfl) fun a hf => ?_
 obtain ⟨r,hr,hF⟩ := bnd_some hF
 refine zQ (v := .bool r) hf hc en_107 rfl (fun w hc => (slices_ContainsFunc_Lint_int_ok l h_l (hc.pick k0) hr).mono fun e w h => ⟨h.1,(h.2.unpick k0)⟩) fun a w hf hc => sp 2 hf rfl fun a hf => zT h ?_
 refine wp_ret ?_
 obtain rfl := sj hF
 replace hc := hc.drop k0
 exact zO1 Try.results79 hf rfl ⟨rfl,hc⟩

def gauge_work_station_s2 (N : Nat) (w_ : Int) (w__1 : Int) (w__2 : Int) (w__3 : Int) (w__4 : List gauge_Point) (w__5 : Nat → gauge_spent) (i_ : Int) : Option (gauge_Point) :=
 cond (i_ == 0)
 (some (⟨w_,0,0⟩ : gauge_Point))
 (cond (i_ == (W (((w__4.length : Nat) : Int) + 1)))
 (some (⟨w__1,0,0⟩ : gauge_Point))
 (Option.bind (getI w__4 (W (i_ - 1))) fun e_1 =>
 some e_1))
theorem gauge_work_station_s2_ok {N : Nat} {G : Pers} {Lf : List Ent} {w : World} (w_ : Int) (w__1 : Int) (w__2 : Int) (w__3 : Int) (w__4 : List gauge_Point) (w__5 : Nat → gauge_spent) (i_ : Int) {b_ : Nat} {w__4_p : Option Addr} {w__4_c : Nat} (h_w__4 : Rd G 3 w__4_p w__4_c (w__4.map enc_gauge_Point)) (hc : Ctx G (.box b_ (catc [i6 w_,i6 w__1,i6 w__2,i6 w__3,.slice w__4_p w__4.length w__4_c] 32 enc_gauge_spent w__5 [.map none]) 130::Lf) w) {res : gauge_Point} (hF : gauge_work_station_s2 N w_ w__1 w__2 w__3 w__4 w__5 i_ = some res) : Calls Try.prog 84 #[pq b_,i6 i_] w (fun e w => e = .returned (.agg #[i6 res.At,i6 res.Depth,i6 res.Cost]) ∧ Ctx G (.box b_ (catc [i6 w_,i6 w__1,i6 w__2,i6 w__3,.slice w__4_p w__4.length w__4_c] 32 enc_gauge_spent w__5 [.map none]) 130::Lf) w) := by
 unfold gauge_work_station_s2 at hF
 refine fnIn Try.func84 rfl Try.ntmps84 rfl fun a hf => zS fun K h => zA hf hc zr_64 rfl fun b_1 a w hf hc => zT h ?_
 refine wp_seq_k fun K2 h2 => zS fun K h => sp 1 hf rfl fun a hf => zT h ?_
 refine wp_block ?_
 refine zS fun K h => sp 2 hf rfl fun a hf => zT h ?_
 refine zI hf rfl hF ?_ ?_ <;> clear hF <;> intro hF
 ·refine zS fun K h => sp 2 hf rfl fun a hf => zP hf rfl (pFA fa_130_0 rfl) fun a hf => zP hf rfl (pFA fa_55_0 rfl) fun a hf => zL hf hc sc_3 m1 rfl fun a w hf hc => zP hf rfl (pBuildS (cells := [i6 w_,i6 0,i6 0]) bt_64 rfl rfl) fun a hf => zW hf hc sz_64 u0 rfl fun w hc => zT h ?_
  refine wp_ret ?_
  refine xBlkR ?_
  refine xThenR ?_
  obtain rfl := sj hF
  replace hc := (hc.pick k0).pick k1
  exact fnOut1 (by simp) rfl Try.results84 hf hc (rv_cellN (vs := [i6 w_,i6 0,i6 0]) ag_64 rfl rfl (cells_box (n := 3) m1 rfl)) ⟨rfl,(hc.drop k1)⟩
 ·refine zS fun K h => sp 2 hf rfl fun a hf => zP hf rfl (pFA fa_130_0 rfl) fun a hf => zP hf rfl (pFA fa_55_4 rfl) fun a hf => zL hf hc sc_53 m1 rfl fun a w hf hc => zP hf rfl (pLenS Try.underlying53 rfl) fun a hf => sp 3 hf rfl fun a hf => zT h ?_
  refine zI hf rfl hF ?_ ?_ <;> clear hF <;> intro hF
  ·refine zS fun K h => sp 2 hf rfl fun a hf => zP hf rfl (pFA fa_130_0 rfl) fun a hf => zP hf rfl (pFA fa_55_1 rfl) fun a hf => zL hf hc sc_3 m1 rfl fun a w hf hc => zP hf rfl (pBuildS (cells := [i6 w__1,i6 0,i6 0]) bt_64 rfl rfl) fun a hf => zW hf hc sz_64 u0 rfl fun w hc => zT h ?_
   refine wp_ret ?_
   refine xBlkR ?_
   refine xThenR ?_
   obtain rfl := sj hF
   replace hc := (hc.pick k0).pick k1
   exact fnOut1 (by simp) rfl Try.results84 hf hc (rv_cellN (vs := [i6 w__1,i6 0,i6 0]) ag_64 rfl rfl (cells_box (n := 3) m1 rfl)) ⟨rfl,(hc.drop k1)⟩
  ·refine wp_skip ?_
   refine h2 _ _ ?_
   refine zS fun K h => sp 2 hf rfl fun a hf => zP hf rfl (pFA fa_130_0 rfl) fun a hf => zP hf rfl (pFA fa_55_4 rfl) fun a hf => zL hf hc sc_53 m1 rfl fun a w hf hc => sp 2 hf rfl fun a hf => ?_
   obtain ⟨e_1,he_1,hF⟩ := bnd_some hF
   obtain ⟨b_2,o,qa,qp⟩ := h_w__4.atm he_1
   refine zP hf rfl (pIA Try.underlying53 sz_64 rfl rfl qa) fun a hf => zE hf hc rfl (eLdN (vs := [i6 e_1.At,i6 e_1.Depth,i6 e_1.Cost]) ag_64 rfl rfl (cells_pc qp (n := 3) (o' := 0) rfl)) fun a w hf hc => zW hf hc sz_64 u0 rfl fun w hc => zT h ?_
   refine wp_ret ?_
   obtain rfl := sj hF
   replace hc := (hc.pick k0).pick k1
   exact fnOut1 (by simp) rfl Try.results84 hf hc (rv_cellN (vs := [i6 e_1.At,i6 e_1.Depth,i6 e_1.Cost]) ag_64 rfl rfl (cells_box (n := 3) m1 rfl)) ⟨rfl,(hc.drop k1)⟩

def gauge_work_steps_s2 (N : Nat) (w_ : Int) (w__1 : Int) (w__2 : Int) (w__3 : Int) (w__4 : List gauge_Point) (w__5 : Nat → gauge_spent) (a_ : Int) (b__1 : Int) : Option (Bool) :=
 Option.bind (gauge_work_station_s2 N w_ w__1 w__2 w__3 w__4 w__5 a_) fun r =>
 Option.bind (gauge_work_station_s2 N w_ w__1 w__2 w__3 w__4 w__5 b__1) fun r_1 =>
 some ((decide ((W (r_1.At - r.At)) ≤ w__2)) && (decide ((max (W (r.Depth - r_1.Depth)) (W (r_1.Depth - r.Depth))) ≤ w__3)))
theorem gauge_work_steps_s2_ok {N : Nat} {G : Pers} {Lf : List Ent} {w : World} (w_ : Int) (w__1 : Int) (w__2 : Int) (w__3 : Int) (w__4 : List gauge_Point) (w__5 : Nat → gauge_spent) (a_ : Int) (b__1 : Int) {b_ : Nat} {w__4_p : Option Addr} {w__4_c : Nat} (h_w__4 : Rd G 3 w__4_p w__4_c (w__4.map enc_gauge_Point)) (hc : Ctx G (.box b_ (catc [i6 w_,i6 w__1,i6 w__2,i6 w__3,.slice w__4_p w__4.length w__4_c] 32 enc_gauge_spent w__5 [.map none]) 130::Lf) w) {res : Bool} (hF : gauge_work_steps_s2 N w_ w__1 w__2 w__3 w__4 w__5 a_ b__1 = some res) : Calls Try.prog 82 #[pq b_,i6 a_,i6 b__1] w (fun e w => e = .returned (.bool res) ∧ Ctx G (.box b_ (catc [i6 w_,i6 w__1,i6 w__2,i6 w__3,.slice w__4_p w__4.length w__4_c] 32 enc_gauge_spent w__5 [.map none]) 130::Lf) w) := by
 unfold gauge_work_steps_s2 at hF
 refine fnIn Try.func82 rfl Try.ntmps82 rfl fun a hf => zS fun K h => sp 1 hf rfl fun a hf => zT h ?_
 refine zS fun K h => sp 2 hf rfl fun a hf => ?_
 obtain ⟨r,hr,hF⟩ := bnd_some hF
 refine zQ (v := .agg #[i6 r.At,i6 r.Depth,i6 r.Cost]) hf hc en_84 rfl (fun w hc => (gauge_work_station_s2_ok w_ w__1 w__2 w__3 w__4 w__5 a_ h_w__4 (hc.pick k0) hr).mono fun e w h => ⟨h.1,(h.2.unpick k0)⟩) fun a w hf hc => sp 2 hf rfl fun a hf => ?_
 obtain ⟨r_1,hr_1,hF⟩ := bnd_some hF
 refine zQ (v := .agg #[i6 r_1.At,i6 r_1.Depth,i6 r_1.Cost]) hf hc en_84 rfl (fun w hc => (gauge_work_station_s2_ok w_ w__1 w__2 w__3 w__4 w__5 b__1 h_w__4 (hc.pick k0) hr_1).mono fun e w h => ⟨h.1,(h.2.unpick k0)⟩) fun a w hf hc => zA hf hc zr_64 rfl fun b_1 a w hf hc => zA hf hc zr_64 rfl fun b_2 a w hf hc => zW hf hc sz_64 u1 rfl fun w hc => zW hf hc sz_64 u0 rfl fun w hc => zT h ?_
 refine wp_seq_k fun K3 h3 => cQ hc follows_mx (by kernel_rfl) ?_
 refine qE hf rfl rfl rfl (Pu.ev (pFA fa_64_0 rfl)) fun a hf => qE hf rfl rfl rfl (eLd1 sc_3 rfl (cell_box m0 rfl)) fun a hf => qE hf rfl rfl rfl (Pu.ev (pFA fa_64_0 rfl)) fun a hf => qE hf rfl rfl rfl (eLd1 sc_3 rfl (cell_box m1 rfl)) fun a hf => qE hf rfl rfl rfl (Pu.ev (pSub rfl rfl)) fun a hf => qE hf rfl rfl rfl (Pu.ev (pM rfl)) fun a hf => qE hf rfl rfl rfl (Pu.ev (pNC rfl)) fun a hf => qE hf rfl rfl rfl (Pu.ev (pFA fa_130_0 rfl)) fun a hf => qE hf rfl rfl rfl (Pu.ev (pFA fa_55_2 rfl)) fun a hf => qE hf rfl rfl rfl (eLd1 sc_3 rfl (cell_box m2 rfl)) fun a hf => qE hf rfl rfl rfl (Pu.ev (pLe rfl rfl)) fun a hf => qE hf rfl rfl rfl (Pu.ev (pM rfl)) fun a hf => qCut 18 (fun a => Has 45 a [(0,pq b_),(6,.bool false),(7,pq b_1),(8,pq b_2),(15,pq b_2),(16,i6 r_1.At),(17,pq b_1),(18,i6 r.At),(19,i6 (W (r_1.At - r.At))),(20,pq b_),(21,pq b_),(22,pq b_),(23,.pointer (some ⟨b_,2,none⟩)),(24,i6 w__2),(25,.bool (decide ((W (r_1.At - r.At)) ≤ w__2))),(26,.bool (decide ((W (r_1.At - r.At)) ≤ w__2))),(44,.bool ((decide ((W (r_1.At - r.At)) ≤ w__2)) && (decide ((max (W (r.Depth - r_1.Depth)) (W (r_1.Depth - r.Depth))) ≤ w__3))))]) ?_ ?_
 ·cases hb : (decide ((W (r_1.At - r.At)) ≤ w__2))
  ·rw [hb] at hf
   refine qS hf rfl rfl rfl fun a hf => qS hf rfl rfl rfl fun a hf => qS hf rfl rfl rfl fun a hf => qS hf rfl rfl rfl fun a hf => qS hf rfl rfl rfl fun a hf => qS hf rfl rfl rfl fun a hf => qS hf rfl rfl rfl fun a hf => qS hf rfl rfl rfl fun a hf => qS hf rfl rfl rfl fun a hf => qS hf rfl rfl rfl fun a hf => qS hf rfl rfl rfl fun a hf => qS hf rfl rfl rfl fun a hf => qS hf rfl rfl rfl fun a hf => ?_
   refine qS hf rfl rfl rfl fun a hf => qS hf rfl rfl rfl fun a hf => qS hf rfl rfl rfl fun a hf => qS hf rfl rfl rfl fun a hf => qE hf rfl rfl rfl (Pu.ev (pPf rfl rfl)) fun a hf => qNil (hf.kp rfl)
  ·rw [hb] at hf
   refine qE hf rfl rfl rfl (Pu.ev (pFA fa_64_1 rfl)) fun a hf => qE hf rfl rfl rfl (eLd1 sc_3 rfl (cell_box m1 rfl)) fun a hf => qE hf rfl rfl rfl (Pu.ev (pFA fa_64_1 rfl)) fun a hf => qE hf rfl rfl rfl (eLd1 sc_3 rfl (cell_box m0 rfl)) fun a hf => qE hf rfl rfl rfl (Pu.ev (pSub rfl rfl)) fun a hf => qE hf rfl rfl rfl (Pu.ev (pFA fa_64_1 rfl)) fun a hf => qE hf rfl rfl rfl (eLd1 sc_3 rfl (cell_box m0 rfl)) fun a hf => qE hf rfl rfl rfl (Pu.ev (pFA fa_64_1 rfl)) fun a hf => qE hf rfl rfl rfl (eLd1 sc_3 rfl (cell_box m1 rfl)) fun a hf => qE hf rfl rfl rfl (Pu.ev (pSub rfl rfl)) fun a hf => qE hf rfl rfl rfl (Pu.ev (pMax2 rfl rfl)) fun a hf => qE hf rfl rfl rfl (Pu.ev (pM rfl)) fun a hf => qE hf rfl rfl rfl (Pu.ev (pNC rfl)) fun a hf => ?_
   refine qE hf rfl rfl rfl (Pu.ev (pFA fa_130_0 rfl)) fun a hf => qE hf rfl rfl rfl (Pu.ev (pFA fa_55_3 rfl)) fun a hf => qE hf rfl rfl rfl (eLd1 sc_3 rfl (cell_box m2 rfl)) fun a hf => qE hf rfl rfl rfl (Pu.ev (pLe rfl rfl)) fun a hf => qE hf rfl rfl rfl (Pu.ev (pPt rfl rfl)) fun a hf => qNil (hf.kp rfl)
 intro a hf
 refine qE hf rfl rfl rfl (Pu.ev (pA rfl)) fun a hf => ?_
 intro w hc
 refine h3 _ _ ?_
 refine wp_ret ?_
 obtain rfl := sj hF
 replace hc := (hc.drop k1).drop k0
 exact zO1 Try.results82 hf rfl ⟨rfl,hc⟩

def gauge_Proves_b22 (N : Nat) (s_ : gauge_Site) (tolls : List Int) (x : Int) (x_1 : Int) : Option (Step (Int) (Step (Int) (Bool × Int))) :=
 cond (decide (x_1 < x))
 (Option.bind (gauge_work_steps_s2 N s_.Left s_.Right s_.Gap s_.Step_ s_.Points (fun _ => (⟨0,0⟩ : gauge_spent)) x_1 x) fun r_2 =>
 Option.bind (cond r_2 (Option.bind (getI tolls x) fun e_3 =>
 Option.bind (getI tolls x_1) fun e_4 =>
 Option.bind (gauge_work_station_s2 N s_.Left s_.Right s_.Gap s_.Step_ s_.Points (fun _ => (⟨0,0⟩ : gauge_spent)) x) fun r_3 =>
 some (decide (r_3.Cost < (W (e_3 - e_4))))) (some false)) fun t_1 =>
 cond t_1
 (some (.ret (.ret (false,0))))
 (some (.cont (W (x_1 + 1)))))
 (some (.brk x_1))
def gauge_Proves_b14 (N : Nat) (s_ : gauge_Site) (tolls : List Int) (x : Int) : Option (Step (Int) (Bool × Int)) :=
 cond (decide (x < (W ((W (((s_.Points.length : Nat) : Int) + 1)) + 1))))
 (Option.bind (loopO (fun s22 => gauge_Proves_b22 N s_ tolls x s22) N 0) fun x22 =>
 exK x22 (fun s22 => some (.cont (W (x + 1)))) some)
 (some (.brk x))
def gauge_Proves (N : Nat) (s_ : gauge_Site) (tolls : List Int) (cost : Int) : Option (Bool × Int) :=
 Option.bind (gauge_CheckSite N s_) fun r =>
 cond (r != 0)
 (some (false,r))
 (cond (((tolls.length : Nat) : Int) != (W ((W (((s_.Points.length : Nat) : Int) + 1)) + 1)))
 (some (false,2))
 (Option.bind (gauge_every_int N tolls) fun r_1 =>
 cond ((!r_1) || (!(gauge_in cost 0 1000000000)))
 (some (false,4))
 (Option.bind (loopO (fun s14 => gauge_Proves_b14 N s_ tolls s14) N 0) fun x14 =>
 exK x14 (fun s14 => Option.bind (getI tolls (W (((s_.Points.length : Nat) : Int) + 1))) fun e_1 =>
 Option.bind (getI tolls 0) fun e_2 =>
 some ((decide (cost ≤ (W (e_1 - e_2)))),0)) some)))
theorem gauge_Proves_ok {N : Nat} {G : Pers} {Lf : List Ent} {w : World} (s_ : gauge_Site) (tolls : List Int) (cost : Int) {s__Points_p : Option Addr} {s__Points_c : Nat} {tolls_p : Option Addr} {tolls_c : Nat} (h_s__Points : Rd G 3 s__Points_p s__Points_c (s_.Points.map enc_gauge_Point)) (h_tolls : Rd G 1 tolls_p tolls_c (tolls.map encI_i64)) (hc : Ctx G (Lf) w) {res : Bool × Int} (hF : gauge_Proves N s_ tolls cost = some res) : Calls Try.prog 44 #[.agg #[i6 s_.Left,i6 s_.Right,i6 s_.Gap,i6 s_.Step_,.slice s__Points_p s_.Points.length s__Points_c],.slice tolls_p tolls.length tolls_c,i6 cost] w (fun e w => e = .returned (.tuple #[.bool res.1,i6 res.2]) ∧ Ctx G (Lf) w) := by
 unfold gauge_Proves at hF
 refine fnIn Try.func44 rfl Try.ntmps44 rfl fun a hf => zS fun K h => zB hf hc rfl fun b_1 a w hf hc => sp 2 hf rfl fun a hf => zT h ?_
 refine zS fun K h => zN hf hc ag_55 m0 rfl fun a w hf hc => ?_
 obtain ⟨r,hr,hF⟩ := bnd_some hF
 refine zQ (v := i6 r) hf hc en_35 rfl (fun w hc => gauge_CheckSite_ok s_ h_s__Points hc hr) fun a w hf hc => sp 1 hf rfl fun a hf => zT h ?_
 refine zS fun K h => zP hf rfl (pFA fa_55_4 rfl) fun a hf => zL hf hc sc_53 m0 rfl fun a w hf hc => zP hf rfl (pLenS Try.underlying53 rfl) fun a hf => sp 2 hf rfl fun a hf => zT h ?_
 refine wp_seq_k fun K4 h4 => wp_block ?_
 refine zS fun K h => sp 3 hf rfl fun a hf => zT h ?_
 refine zI hf rfl hF ?_ ?_ <;> clear hF <;> intro hF
 ·refine zS fun K h => sp 3 hf rfl fun a hf => zT h ?_
  refine wp_ret ?_
  refine xBlkR ?_
  refine xThenR ?_
  obtain rfl := sj hF
  replace hc := hc.drop k0
  exact zO2 Try.results44 hf rfl rfl ⟨rfl,hc⟩
 ·refine zS fun K h => sp 1 hf rfl fun a hf => zP hf rfl (pLenS Try.underlying43 rfl) fun a hf => sp 4 hf rfl fun a hf => zT h ?_
  refine zI hf rfl hF ?_ ?_ <;> clear hF <;> intro hF
  ·refine zS fun K h => sp 2 hf rfl fun a hf => zT h ?_
   refine wp_ret ?_
   refine xBlkR ?_
   refine xThenR ?_
   obtain rfl := sj hF
   replace hc := hc.drop k0
   exact zO2 Try.results44 hf rfl rfl ⟨rfl,hc⟩
  ·refine zS fun K h => sp 1 hf rfl fun a hf => ?_
   obtain ⟨r_1,hr_1,hF⟩ := bnd_some hF
   refine zQ (v := .bool r_1) hf hc en_79 rfl (fun w hc => gauge_every_int_ok tolls h_tolls hc hr_1) fun a w hf hc => sp 2 hf rfl fun a hf => stCc 4 (fun a => Has 82 a [(1,.slice tolls_p tolls.length tolls_c),(2,i6 cost),(3,pq b_1),(9,i6 (W (((s_.Points.length : Nat) : Int) + 1))),(30,.slice tolls_p tolls.length tolls_c),(31,.bool r_1),(32,.bool (!r_1)),(33,.bool (!r_1)),(37,.bool ((!r_1) || (!(gauge_in cost 0 1000000000))))]) hc ?_ ?_
   ·cases hb : (!r_1)
    ·rw [hb] at hf
     refine sp 1 hf rfl fun a hf => zQ (v := .bool (gauge_in cost 0 1000000000)) hf hc en_55 rfl (fun w hc => gauge_in_ok cost 0 1000000000 hc rfl) fun a w hf hc => sp 2 hf rfl fun a hf => cNil ⟨hf.kp rfl,hc⟩
    ·rw [hb] at hf
     refine stS hf rfl rfl rfl fun a hf => stS hf rfl rfl rfl fun a hf => stS hf rfl rfl rfl fun a hf => sp 1 hf rfl fun a hf => cNil ⟨hf.kp rfl,hc⟩
   intro a w ⟨hf,hc⟩
   refine sp 1 hf rfl fun a hf => zT h ?_
   refine zI hf rfl hF ?_ ?_ <;> clear hF <;> intro hF
   ·refine zS fun K h => sp 2 hf rfl fun a hf => zT h ?_
    refine wp_ret ?_
    refine xBlkR ?_
    refine xThenR ?_
    obtain rfl := sj hF
    replace hc := hc.drop k0
    exact zO2 Try.results44 hf rfl rfl ⟨rfl,hc⟩
   ·refine wp_skip ?_
    refine h4 _ _ ?_
    refine zS fun K h => zN hf hc ag_55 m0 rfl fun a w hf hc => zP hf rfl (pBuildS (cells := (catc [i6 s_.Left,i6 s_.Right,i6 s_.Gap,i6 s_.Step_,.slice s__Points_p s_.Points.length s__Points_c] 32 enc_gauge_spent (fun _ => (⟨0,0⟩ : gauge_spent)) [.map none])) bt_130 rfl rfl) fun a hf => stBx (cs := (catc [i6 s_.Left,i6 s_.Right,i6 s_.Gap,i6 s_.Step_,.slice s__Points_p s_.Points.length s__Points_c] 32 enc_gauge_spent (fun _ => (⟨0,0⟩ : gauge_spent)) [.map none])) hf hc rfl rfl rfl rfl fun b_2 a w hf hc => sp 1 hf rfl fun a hf => zT h ?_
    refine wp_seq_k fun K12 h12 => zS fun K h => sp 3 hf rfl fun a hf => zT h ?_
    refine wp_block ?_
    obtain ⟨x14,hx14,hF⟩ := bnd_some hF
    let S14 : Int → Act → World → Prop := (fun (zz : Int) a w => Has 82 a [(1,.slice tolls_p tolls.length tolls_c),(2,i6 cost),(9,i6 (W (((s_.Points.length : Nat) : Int) + 1))),(10,pq b_2),(42,i6 (W ((W (((s_.Points.length : Nat) : Int) + 1)) + 1))),(43,i6 zz)] ∧ Ctx G (.box b_2 (catc [i6 s_.Left,i6 s_.Right,i6 s_.Gap,i6 s_.Step_,.slice s__Points_p s_.Points.length s__Points_c] 32 enc_gauge_spent (fun _ => (⟨0,0⟩ : gauge_spent)) [.map none]) 130::Lf) w)
    have hr14 : ∀ (zz : Int) a w,x14 = .go zz → S14 zz a w → K12 a w := by
     rintro x a w rfl ⟨hf,hc⟩
     replace hF := exK_go hF
     refine h12 _ _ ?_
     refine wp_seq_k fun K15 h15 => ?_
     obtain ⟨e_1,he_1,hF⟩ := bnd_some hF
     obtain ⟨b_3,o,qa,qp⟩ := h_tolls.atm he_1
     obtain ⟨e_2,he_2,hF⟩ := bnd_some hF
     obtain ⟨b_4,o_1,qa_1,qp_1⟩ := h_tolls.atm he_2
     refine cQ hc follows_mx (by kernel_rfl) ?_
     refine qE hf rfl rfl rfl (Pu.ev (pM rfl)) fun a hf => qE hf rfl rfl rfl (Pu.ev (pM rfl)) fun a hf => qE hf rfl rfl rfl (Pu.ev (pIA Try.underlying43 sz_3 rfl rfl qa)) fun a hf => qE hf rfl rfl rfl (eLd1 sc_3 rfl (cell_pc (j := 0) qp rfl)) fun a hf => qE hf rfl rfl rfl (Pu.ev (pM rfl)) fun a hf => qE hf rfl rfl rfl (Pu.ev (pIA Try.underlying43 sz_3 rfl rfl qa_1)) fun a hf => qE hf rfl rfl rfl (eLd1 sc_3 rfl (cell_pc (j := 0) qp_1 rfl)) fun a hf => qE hf rfl rfl rfl (Pu.ev (pSub rfl rfl)) fun a hf => qE hf rfl rfl rfl (Pu.ev (pM rfl)) fun a hf => qE hf rfl rfl rfl (Pu.ev (pGe rfl rfl)) fun a hf => qE hf rfl rfl rfl (Pu.ev (pA rfl)) fun a hf => qE hf rfl rfl rfl (Pu.ev (pA rfl)) fun a hf => ?_
     intro w hc
     refine h15 _ _ ?_
     refine wp_ret ?_
     obtain rfl := sj hF
     replace hc := hc.drop k0
     exact zO2 Try.results44 hf rfl rfl ⟨rfl,hc⟩
    have ho14 : ∀ r,x14 = .out r → r = res := by
     rintro r rfl
     exact sj hF
    replace hc := hc.drop k1
    refine cLoop N (loopW (S := S14) (x := x14) ?_ N 0 _ _ ⟨hf.kp rfl,hc⟩ hx14)
    clear hF hf hc
    rintro x st14 a w KB14 ⟨hf,hc⟩ hF hfin14 hK14
    unfold gauge_Proves_b14 at hF
    refine zS fun K h => sp 1 hf rfl fun a hf => zT h ?_
    refine wp_seq_k fun K17 h17 => zI hf rfl hF ?_ ?_ <;> clear hF <;> intro hF
    ·refine wp_skip ?_
     refine h17 _ _ ?_
     refine wp_seq_k fun K18 h18 => wp_block ?_
     refine zS fun K h => sp 2 hf rfl fun a hf => zT h ?_
     refine zS fun K h => sp 2 hf rfl fun a hf => zT h ?_
     refine wp_thenK fun K21 h21 => wp_block ?_
     obtain ⟨x22,hx22,hF⟩ := bnd_some hF
     let S22 : Int → Act → World → Prop := (fun (zz : Int) a w => Has 82 a [(1,.slice tolls_p tolls.length tolls_c),(2,i6 cost),(9,i6 (W (((s_.Points.length : Nat) : Int) + 1))),(10,pq b_2),(11,i6 x),(42,i6 (W ((W (((s_.Points.length : Nat) : Int) + 1)) + 1))),(43,i6 x),(46,i6 x),(47,i6 zz)] ∧ Ctx G (.box b_2 (catc [i6 s_.Left,i6 s_.Right,i6 s_.Gap,i6 s_.Step_,.slice s__Points_p s_.Points.length s__Points_c] 32 enc_gauge_spent (fun _ => (⟨0,0⟩ : gauge_spent)) [.map none]) 130::Lf) w)
     have hr22 : ∀ (zz : Int) a w,x22 = .go zz → S22 zz a w → K21 a w := by
      rintro x_1 a w rfl ⟨hf,hc⟩
      replace hF := exK_go hF
      refine h21 _ _ ?_
      refine h18 _ _ ?_
      refine cReg ?_
      refine sp 2 hf rfl fun a hf => cNil ?_
      exact hK14 (W (x + 1)) _ _ (sj hF).symm ⟨hf.kp rfl,hc⟩
     have ho22 : ∀ r,x22 = .out r → r = st14 := by
      rintro r rfl
      exact sj hF
     refine cLoop N (loopW (S := S22) (x := x22) ?_ N 0 _ _ ⟨hf.kp rfl,hc⟩ hx22)
     clear hF hf hc
     rintro x_1 st22 a w KB22 ⟨hf,hc⟩ hF hfin22 hK22
     unfold gauge_Proves_b22 at hF
     refine zS fun K h => sp 1 hf rfl fun a hf => zT h ?_
     refine wp_seq_k fun K24 h24 => zI hf rfl hF ?_ ?_ <;> clear hF <;> intro hF
     ·refine wp_skip ?_
      refine h24 _ _ ?_
      refine wp_seq_k fun K25 h25 => wp_block ?_
      refine zS fun K h => sp 2 hf rfl fun a hf => zT h ?_
      refine wp_seq_k fun K27 h27 => ?_
      obtain ⟨r_2,hr_2,hF⟩ := bnd_some hF
      obtain ⟨t_1,ht_1,hF⟩ := bnd_some hF
      refine cQ hc follows_mx (by kernel_rfl) ?_
      refine qE hf rfl rfl rfl (Pu.ev (pM rfl)) fun a hf => qE hf rfl rfl rfl (Pu.ev (pM rfl)) fun a hf => qE hf rfl rfl rfl (Pu.ev (pM rfl)) fun a hf => qE hf rfl rfl rfl (eC (v := .bool r_2) (vs := [pq b_2,i6 x_1,i6 x]) (caps := []) en_82 rfl rfl rfl rfl (fun w hc => (gauge_work_steps_s2_ok s_.Left s_.Right s_.Gap s_.Step_ s_.Points (fun _ => (⟨0,0⟩ : gauge_spent)) x_1 x h_s__Points (hc.pick k0) hr_2).mono fun e w h => ⟨h.1,(h.2.unpick k0)⟩)) fun a hf => qE hf rfl rfl rfl (Pu.ev (pM rfl)) fun a hf => qCut 15 (fun a => Has 82 a [(1,.slice tolls_p tolls.length tolls_c),(2,i6 cost),(9,i6 (W (((s_.Points.length : Nat) : Int) + 1))),(10,pq b_2),(11,i6 x),(42,i6 (W ((W (((s_.Points.length : Nat) : Int) + 1)) + 1))),(43,i6 x),(46,i6 x),(47,i6 x_1),(12,i6 x_1),(50,pq b_2),(51,i6 x_1),(52,i6 x),(53,.bool r_2),(54,.bool r_2),(69,.bool t_1)]) ?_ ?_
      ·cases hb : r_2
       ·rw [hb] at hf
        have hF := condF hb ht_1
        obtain rfl := sj hF
        refine qS hf rfl rfl rfl fun a hf => qS hf rfl rfl rfl fun a hf => qS hf rfl rfl rfl fun a hf => qS hf rfl rfl rfl fun a hf => qS hf rfl rfl rfl fun a hf => qS hf rfl rfl rfl fun a hf => qS hf rfl rfl rfl fun a hf => qS hf rfl rfl rfl fun a hf => qS hf rfl rfl rfl fun a hf => qS hf rfl rfl rfl fun a hf => qS hf rfl rfl rfl fun a hf => qS hf rfl rfl rfl fun a hf => qS hf rfl rfl rfl fun a hf => ?_
        refine qS hf rfl rfl rfl fun a hf => qE hf rfl rfl rfl (Pu.ev (pPf rfl rfl)) fun a hf => qNil (hf.kp rfl)
       ·rw [hb] at hf
        have hF := condT hb ht_1
        obtain ⟨e_3,he_3,hF⟩ := bnd_some hF
        obtain ⟨b_5,o_2,qa_2,qp_2⟩ := h_tolls.atm he_3
        obtain ⟨e_4,he_4,hF⟩ := bnd_some hF
        obtain ⟨b_6,o_3,qa_3,qp_3⟩ := h_tolls.atm he_4
        obtain ⟨r_3,hr_3,hF⟩ := bnd_some hF
        refine qE hf rfl rfl rfl (Pu.ev (pM rfl)) fun a hf => qE hf rfl rfl rfl (Pu.ev (pM rfl)) fun a hf => qE hf rfl rfl rfl (Pu.ev (pIA Try.underlying43 sz_3 rfl rfl qa_2)) fun a hf => qE hf rfl rfl rfl (eLd1 sc_3 rfl (cell_pc (j := 0) qp_2 rfl)) fun a hf => qE hf rfl rfl rfl (Pu.ev (pM rfl)) fun a hf => qE hf rfl rfl rfl (Pu.ev (pM rfl)) fun a hf => qE hf rfl rfl rfl (Pu.ev (pIA Try.underlying43 sz_3 rfl rfl qa_3)) fun a hf => qE hf rfl rfl rfl (eLd1 sc_3 rfl (cell_pc (j := 0) qp_3 rfl)) fun a hf => qE hf rfl rfl rfl (Pu.ev (pSub rfl rfl)) fun a hf => qE hf rfl rfl rfl (Pu.ev (pM rfl)) fun a hf => qE hf rfl rfl rfl (Pu.ev (pM rfl)) fun a hf => qE hf rfl rfl rfl (eC (v := .agg #[i6 r_3.At,i6 r_3.Depth,i6 r_3.Cost]) (vs := [pq b_2,i6 x]) (caps := []) en_84 rfl rfl rfl rfl (fun w hc => (gauge_work_station_s2_ok s_.Left s_.Right s_.Gap s_.Step_ s_.Points (fun _ => (⟨0,0⟩ : gauge_spent)) x h_s__Points (hc.pick k0) hr_3).mono fun e w h => ⟨h.1,(h.2.unpick k0)⟩)) fun a hf => qE hf rfl rfl rfl (Pu.ev (pField1 Try.underlying64 rfl sc_3 rfl rfl)) fun a hf => ?_
        refine qE hf rfl rfl rfl (Pu.ev (pGt rfl rfl)) fun a hf => qE hf rfl rfl rfl (Pu.ev (pPt rfl rfl)) fun a hf => ?_
        obtain rfl := sj hF
        exact qNil (hf.kp rfl)
      intro a hf
      intro w hc
      refine h27 _ _ ?_
      refine zI hf rfl hF ?_ ?_ <;> clear hF <;> intro hF
      ·refine zS fun K h => sp 2 hf rfl fun a hf => zT h ?_
       refine wp_ret ?_
       refine xBlkR ?_
       refine xThenR ?_
       refine xThenR ?_
       have he := sj hF
       rw [← he] at hfin22
       replace hF := ho22 _ hfin22
       refine xBlkR ?_
       refine xThenR ?_
       refine xBlkR ?_
       refine xThenR ?_
       refine xThenR ?_
       have he := hF
       rw [← he] at hfin14
       replace hF := ho14 _ hfin14
       refine xBlkR ?_
       refine xThenR ?_
       obtain rfl := hF
       replace hc := hc.drop k0
       exact zO2 Try.results44 hf rfl rfl ⟨rfl,hc⟩
      ·refine wp_skip ?_
       refine h25 _ _ ?_
       refine cReg ?_
       refine sp 2 hf rfl fun a hf => cNil ?_
       exact hK22 (W (x_1 + 1)) _ _ (sj hF).symm ⟨hf.kp rfl,hc⟩
     ·refine wp_exit ?_
      refine xThen ?_
      refine xThen ?_
      have he := sj hF
      rw [← he] at hfin22
      refine cHit ?_
      exact hr22 _ _ _ hfin22 ⟨hf.kp rfl,hc⟩
    ·refine wp_exit ?_
     refine xThen ?_
     refine xThen ?_
     have he := sj hF
     rw [← he] at hfin14
     refine cHit ?_
     exact hr14 _ _ _ hfin14 ⟨hf.kp rfl,hc⟩

def law03_awake (N : Nat)  : Option (Bool) :=
 Option.bind (law03_Two N) fun r =>
 Option.bind (gauge_Flow N r) fun r_1 =>
 Option.bind (law03_Two N) fun r_2 =>
 Option.bind (gauge_Heavy N r_2 500) fun r_3 =>
 Option.bind (law03_span N 10 10) fun r_4 =>
 Option.bind (law03_span N 100 100) fun r_5 =>
 Option.bind (law03_span N 30 40) fun r_6 =>
 Option.bind (law03_span N 5 9) fun r_7 =>
 Option.bind (gauge_Cross N ([(⟨(⟨0,0⟩ : api_Span),r_4,r_5,r_6,r_7⟩ : gauge_Leg)] : List gauge_Leg)) fun r_8 =>
 Option.bind (law03_span N 5 5) fun r_9 =>
 Option.bind (law03_span N 1000 1000) fun r_10 =>
 Option.bind (law03_span N 10 11) fun r_11 =>
 Option.bind (law03_span N 0 1) fun r_12 =>
 Option.bind (gauge_Thinned N (⟨r_9,r_10,r_11,r_12⟩ : gauge_Dye)) fun r_13 =>
 Option.bind (cond (!((((r_1.2 != 0) || (r_3.2.2 != 0)) || (r_8.2 != 0)) || (r_13.2 != 0))) (law03_span N 51600 402000) (some (⟨0,0⟩ : api_Span))) fun r_14 =>
 Option.bind (cond (!(((((r_1.2 != 0) || (r_3.2.2 != 0)) || (r_8.2 != 0)) || (r_13.2 != 0)) || (!(r_1.1.Lo == r_14.Lo && r_1.1.Hi == r_14.Hi)))) (kit_Same_int N r_3.1 ([0,1] : List Int)) (some false)) fun r_15 =>
 Option.bind (cond (!(((((((r_1.2 != 0) || (r_3.2.2 != 0)) || (r_8.2 != 0)) || (r_13.2 != 0)) || (!(r_1.1.Lo == r_14.Lo && r_1.1.Hi == r_14.Hi))) || (!r_15)) || (((r_3.2.1.length : Nat) : Int) != 0))) (law03_span N 30000 40000) (some (⟨0,0⟩ : api_Span))) fun r_16 =>
 Option.bind (cond (!((((((((r_1.2 != 0) || (r_3.2.2 != 0)) || (r_8.2 != 0)) || (r_13.2 != 0)) || (!(r_1.1.Lo == r_14.Lo && r_1.1.Hi == r_14.Hi))) || (!r_15)) || (((r_3.2.1.length : Nat) : Int) != 0)) || (!(r_8.1.Lo == r_16.Lo && r_8.1.Hi == r_16.Hi)))) (law03_span N 449 550) (some (⟨0,0⟩ : api_Span))) fun r_17 =>
 cond (((((((((r_1.2 != 0) || (r_3.2.2 != 0)) || (r_8.2 != 0)) || (r_13.2 != 0)) || (!(r_1.1.Lo == r_14.Lo && r_1.1.Hi == r_14.Hi))) || (!r_15)) || (((r_3.2.1.length : Nat) : Int) != 0)) || (!(r_8.1.Lo == r_16.Lo && r_8.1.Hi == r_16.Hi))) || (!(r_13.1.Lo == r_17.Lo && r_13.1.Hi == r_17.Hi)))
 (some false)
 (Option.bind (gauge_Apart N ([(⟨5,9⟩ : api_Span),(⟨7,12⟩ : api_Span),(⟨10,11⟩ : api_Span)] : List api_Span)) fun r_18 =>
 Option.bind (subO ([(⟨5,9⟩ : api_Span),(⟨7,12⟩ : api_Span),(⟨10,11⟩ : api_Span)] : List api_Span) 0 2) fun sub =>
 Option.bind (gauge_Common N sub) fun r_19 =>
 Option.bind (law03_Three N) fun r_20 =>
 Option.bind (gauge_Plan N r_20) fun r_21 =>
 Option.bind (law03_Three N) fun r_22 =>
 Option.bind (gauge_Proves N r_22 ([0,2,3,6,6] : List Int) 6) fun r_23 =>
 Option.bind (cond ((((((r_18.2.2 == 0) && (r_19.2 == 0)) && (r_21.2.2 == 0)) && (r_23.2 == 0)) && (r_18.1 == 0)) && (r_18.2.1 == 2)) (law03_span N 7 9) (some (⟨0,0⟩ : api_Span))) fun r_24 =>
 Option.bind (cond (((((((r_18.2.2 == 0) && (r_19.2 == 0)) && (r_21.2.2 == 0)) && (r_23.2 == 0)) && (r_18.1 == 0)) && (r_18.2.1 == 2)) && (r_19.1.Lo == r_24.Lo && r_19.1.Hi == r_24.Hi)) (kit_Same_int N r_21.1 ([1,3] : List Int)) (some false)) fun r_25 =>
 some ((((((((((r_18.2.2 == 0) && (r_19.2 == 0)) && (r_21.2.2 == 0)) && (r_23.2 == 0)) && (r_18.1 == 0)) && (r_18.2.1 == 2)) && (r_19.1.Lo == r_24.Lo && r_19.1.Hi == r_24.Hi)) && r_25) && (r_21.2.1 == 6)) && r_23.1))
theorem law03_awake_ok {N : Nat} {G : Pers} {Lf : List Ent} {w : World}    (hc : Ctx G (Lf) w) {res : Bool} (hF : law03_awake N = some res) : Calls Try.prog 15 #[] w (fun e w => e = .returned (.bool res) ∧ Ctx G (Lf) w) := by
 unfold law03_awake at hF
 refine fnIn Try.func15 rfl Try.ntmps15 rfl fun a hf => zS fun K h => sp 1 hf rfl fun a hf => zT h ?_
 refine zS fun K h => ?_
 obtain ⟨r,hr,hF⟩ := bnd_some hF
 refine zC hf en_53 rfl (law03_Two_ok hc hr) ?_
 rintro _ w ⟨p_1,c_1,rfl,hc⟩
 refine ⟨_,rfl,fun a hf => ?_⟩
 obtain ⟨r_1,hr_1,hF⟩ := bnd_some hF
 refine zQ (v := .tuple #[.agg #[i6 r_1.1.Lo,i6 r_1.1.Hi],i6 r_1.2]) hf hc en_27 rfl (fun w hc => by obtain ⟨G1,hle1,hrd1,hc,hth1⟩ := lend hc k0; exact (gauge_Flow_ok r hrd1 hc hr_1).mono fun e w h => ⟨h.1,((hth1 _ _ h.2).unpick k0)⟩) fun a w hf hc => sp 3 hf rfl fun a hf => zA hf hc zr_24 rfl fun b_1 a w hf hc => zW hf hc sz_24 u0 rfl fun w hc => sp 1 hf rfl fun a hf => zT h ?_
 refine zS fun K h => ?_
 obtain ⟨r_2,hr_2,hF⟩ := bnd_some hF
 refine zC hf en_53 rfl (law03_Two_ok hc hr_2) ?_
 rintro _ w ⟨p_2,c_2,rfl,hc⟩
 refine ⟨_,rfl,fun a hf => ?_⟩
 obtain ⟨r_3,hr_3,hF⟩ := bnd_some hF
 obtain ⟨G1,hle1,hrd1,hc,hth1⟩ := lend hc k0
 refine zC hf en_28 rfl (gauge_Heavy_ok r_2 500 hrd1 hc hr_3) ?_
 rintro _ w ⟨p_3,c_3,p_4,c_4,rfl,hc⟩
 refine ⟨_,rfl,fun a hf => ?_⟩
 replace hc := hth1 _ _ hc
 refine sp 7 hf rfl fun a hf => zT h ?_
 refine zS fun K h => ?_
 obtain ⟨r_4,hr_4,hF⟩ := bnd_some hF
 refine zQ (v := .agg #[i6 r_4.Lo,i6 r_4.Hi]) hf hc en_14 rfl (fun w hc => law03_span_ok 10 10 hc hr_4) fun a w hf hc => ?_
 obtain ⟨r_5,hr_5,hF⟩ := bnd_some hF
 refine zQ (v := .agg #[i6 r_5.Lo,i6 r_5.Hi]) hf hc en_14 rfl (fun w hc => law03_span_ok 100 100 hc hr_5) fun a w hf hc => ?_
 obtain ⟨r_6,hr_6,hF⟩ := bnd_some hF
 refine zQ (v := .agg #[i6 r_6.Lo,i6 r_6.Hi]) hf hc en_14 rfl (fun w hc => law03_span_ok 30 40 hc hr_6) fun a w hf hc => ?_
 obtain ⟨r_7,hr_7,hF⟩ := bnd_some hF
 refine zQ (v := .agg #[i6 r_7.Lo,i6 r_7.Hi]) hf hc en_14 rfl (fun w hc => law03_span_ok 5 9 hc hr_7) fun a w hf hc => zP hf rfl (pBuildS (cells := [i6 0,i6 0,i6 r_4.Lo,i6 r_4.Hi,i6 r_5.Lo,i6 r_5.Hi,i6 r_6.Lo,i6 r_6.Hi,i6 r_7.Lo,i6 r_7.Hi]) bt_40 rfl rfl) fun a hf => zA hf hc zr_40 rfl fun b_2 a w hf hc => zW hf hc sz_40 u0 rfl fun w hc => zT h ?_
 refine zS fun K h => zN hf hc ag_40 m0 rfl fun a w hf hc => stBS (rows := ([(⟨(⟨0,0⟩ : api_Span),r_4,r_5,r_6,r_7⟩ : gauge_Leg)] : List gauge_Leg).map enc_gauge_Leg) (vs := [(0,.agg #[i6 0,i6 0,i6 r_4.Lo,i6 r_4.Hi,i6 r_5.Lo,i6 r_5.Hi,i6 r_6.Lo,i6 r_6.Hi,i6 r_7.Lo,i6 r_7.Hi])]) hf hc rfl rfl sl_38 rfl ⟨rfl,rfl,rfl,trivial⟩ rfl rfl fun b_3 a w hf hc => ?_
 obtain ⟨r_8,hr_8,hF⟩ := bnd_some hF
 refine zQ (v := .tuple #[.agg #[i6 r_8.1.Lo,i6 r_8.1.Hi],i6 r_8.2]) hf hc en_18 rfl (fun w hc => by obtain ⟨G1,hle1,hrd1,hc,hth1⟩ := lend hc k0; exact (gauge_Cross_ok ([(⟨(⟨0,0⟩ : api_Span),r_4,r_5,r_6,r_7⟩ : gauge_Leg)] : List gauge_Leg) hrd1 hc hr_8).mono fun e w h => ⟨h.1,((hth1 _ _ h.2).unpick k0)⟩) fun a w hf hc => sp 3 hf rfl fun a hf => zA hf hc zr_24 rfl fun b_4 a w hf hc => zW hf hc sz_24 u0 rfl fun w hc => sp 1 hf rfl fun a hf => zT h ?_
 refine wp_seq_k fun K6 h6 => cReg ?_
 obtain ⟨r_9,hr_9,hF⟩ := bnd_some hF
 refine zQ (v := .agg #[i6 r_9.Lo,i6 r_9.Hi]) hf hc en_14 rfl (fun w hc => law03_span_ok 5 5 hc hr_9) fun a w hf hc => ?_
 obtain ⟨r_10,hr_10,hF⟩ := bnd_some hF
 refine zQ (v := .agg #[i6 r_10.Lo,i6 r_10.Hi]) hf hc en_14 rfl (fun w hc => law03_span_ok 1000 1000 hc hr_10) fun a w hf hc => ?_
 obtain ⟨r_11,hr_11,hF⟩ := bnd_some hF
 refine zQ (v := .agg #[i6 r_11.Lo,i6 r_11.Hi]) hf hc en_14 rfl (fun w hc => law03_span_ok 10 11 hc hr_11) fun a w hf hc => ?_
 obtain ⟨r_12,hr_12,hF⟩ := bnd_some hF
 refine zQ (v := .agg #[i6 r_12.Lo,i6 r_12.Hi]) hf hc en_14 rfl (fun w hc => law03_span_ok 0 1 hc hr_12) fun a w hf hc => zP hf rfl (pBuildS (cells := [i6 r_9.Lo,i6 r_9.Hi,i6 r_10.Lo,i6 r_10.Hi,i6 r_11.Lo,i6 r_11.Hi,i6 r_12.Lo,i6 r_12.Hi]) bt_26 rfl rfl) fun a hf => ?_
 obtain ⟨r_13,hr_13,hF⟩ := bnd_some hF
 refine zQ (v := .tuple #[.agg #[i6 r_13.1.Lo,i6 r_13.1.Hi],i6 r_13.2]) hf hc en_13 rfl (fun w hc => gauge_Thinned_ok (⟨r_9,r_10,r_11,r_12⟩ : gauge_Dye) hc hr_13) fun a w hf hc => sp 3 hf rfl fun a hf => zA hf hc zr_24 rfl fun b_5 a w hf hc => zW hf hc sz_24 u0 rfl fun w hc => sp 1 hf rfl fun a hf => cNil ?_
 replace hc := (((hc.drop k8).drop k4).drop k3).drop k2
 refine h6 _ _ ?_
 refine wp_seq_k fun K7 h7 => wp_seq_k fun K8 h8 => ?_
 obtain ⟨r_14,hr_14,hF⟩ := bnd_some hF
 obtain ⟨r_15,hr_15,hF⟩ := bnd_some hF
 obtain ⟨r_16,hr_16,hF⟩ := bnd_some hF
 obtain ⟨r_17,hr_17,hF⟩ := bnd_some hF
 replace hc := hc.nilRow 0 0
 refine regionE (fun θ => (⟨none,none,1,pq b_1⟩::⟨none,none,2,i6 r_1.2⟩::⟨none,none,3,.slice p_3 r_3.1.length c_3⟩::⟨none,none,4,.slice p_4 r_3.2.1.length c_4⟩::⟨none,none,5,i6 r_3.2.2⟩::⟨none,none,7,pq b_4⟩::⟨none,none,8,i6 r_8.2⟩::⟨none,none,9,pq b_5⟩::⟨none,none,10,i6 r_13.2⟩::⟨some 0,none,49,i6 r_1.2⟩::⟨some 1,none,50,.bool (r_1.2 != 0)⟩::⟨some 2,none,51,.bool (r_1.2 != 0)⟩::⟨some 3,none,52,(bif (r_1.2 != 0) then undef else i6 r_3.2.2)⟩::⟨some 4,none,53,(bif (r_1.2 != 0) then undef else .bool (r_3.2.2 != 0))⟩::⟨some 5,none,54,.bool ((r_1.2 != 0) || (r_3.2.2 != 0))⟩::⟨some 6,none,55,.bool ((r_1.2 != 0) || (r_3.2.2 != 0))⟩::⟨some 7,none,56,(bif ((r_1.2 != 0) || (r_3.2.2 != 0)) then undef else i6 r_8.2)⟩::⟨some 8,none,57,(bif ((r_1.2 != 0) || (r_3.2.2 != 0)) then undef else .bool (r_8.2 != 0))⟩::⟨some 9,none,58,.bool (((r_1.2 != 0) || (r_3.2.2 != 0)) || (r_8.2 != 0))⟩::⟨some 10,none,59,.bool (((r_1.2 != 0) || (r_3.2.2 != 0)) || (r_8.2 != 0))⟩::⟨some 11,none,60,(bif (((r_1.2 != 0) || (r_3.2.2 != 0)) || (r_8.2 != 0)) then undef else i6 r_13.2)⟩::⟨some 12,none,61,(bif (((r_1.2 != 0) || (r_3.2.2 != 0)) || (r_8.2 != 0)) then undef else .bool (r_13.2 != 0))⟩::⟨some 13,none,62,.bool ((((r_1.2 != 0) || (r_3.2.2 != 0)) || (r_8.2 != 0)) || (r_13.2 != 0))⟩::⟨some 14,none,63,.bool ((((r_1.2 != 0) || (r_3.2.2 != 0)) || (r_8.2 != 0)) || (r_13.2 != 0))⟩::⟨some 15,none,64,(bif ((((r_1.2 != 0) || (r_3.2.2 != 0)) || (r_8.2 != 0)) || (r_13.2 != 0)) then undef else .agg #[i6 r_1.1.Lo,i6 r_1.1.Hi])⟩::⟨some 16,none,65,(bif ((((r_1.2 != 0) || (r_3.2.2 != 0)) || (r_8.2 != 0)) || (r_13.2 != 0)) then undef else .agg #[i6 r_14.Lo,i6 r_14.Hi])⟩::⟨some 17,none,66,(bif ((((r_1.2 != 0) || (r_3.2.2 != 0)) || (r_8.2 != 0)) || (r_13.2 != 0)) then undef else .bool (!(r_1.1.Lo == r_14.Lo && r_1.1.Hi == r_14.Hi)))⟩::⟨some 18,none,67,.bool (((((r_1.2 != 0) || (r_3.2.2 != 0)) || (r_8.2 != 0)) || (r_13.2 != 0)) || (!(r_1.1.Lo == r_14.Lo && r_1.1.Hi == r_14.Hi)))⟩::⟨some 19,none,68,.bool (((((r_1.2 != 0) || (r_3.2.2 != 0)) || (r_8.2 != 0)) || (r_13.2 != 0)) || (!(r_1.1.Lo == r_14.Lo && r_1.1.Hi == r_14.Hi)))⟩::⟨some 20,none,69,(bif (((((r_1.2 != 0) || (r_3.2.2 != 0)) || (r_8.2 != 0)) || (r_13.2 != 0)) || (!(r_1.1.Lo == r_14.Lo && r_1.1.Hi == r_14.Hi))) then undef else .slice p_3 r_3.1.length c_3)⟩::⟨some 21,none,70,(bif (((((r_1.2 != 0) || (r_3.2.2 != 0)) || (r_8.2 != 0)) || (r_13.2 != 0)) || (!(r_1.1.Lo == r_14.Lo && r_1.1.Hi == r_14.Hi))) then undef else .slice (some ⟨(θ 168).b,0,none⟩) 2 2)⟩::⟨some 22,none,71,(bif (((((r_1.2 != 0) || (r_3.2.2 != 0)) || (r_8.2 != 0)) || (r_13.2 != 0)) || (!(r_1.1.Lo == r_14.Lo && r_1.1.Hi == r_14.Hi))) then undef else .bool r_15)⟩::⟨some 23,none,72,(bif (((((r_1.2 != 0) || (r_3.2.2 != 0)) || (r_8.2 != 0)) || (r_13.2 != 0)) || (!(r_1.1.Lo == r_14.Lo && r_1.1.Hi == r_14.Hi))) then undef else .bool (!r_15))⟩::⟨some 24,none,73,.bool ((((((r_1.2 != 0) || (r_3.2.2 != 0)) || (r_8.2 != 0)) || (r_13.2 != 0)) || (!(r_1.1.Lo == r_14.Lo && r_1.1.Hi == r_14.Hi))) || (!r_15))⟩::⟨some 25,none,74,.bool ((((((r_1.2 != 0) || (r_3.2.2 != 0)) || (r_8.2 != 0)) || (r_13.2 != 0)) || (!(r_1.1.Lo == r_14.Lo && r_1.1.Hi == r_14.Hi))) || (!r_15))⟩::⟨some 26,none,75,(bif ((((((r_1.2 != 0) || (r_3.2.2 != 0)) || (r_8.2 != 0)) || (r_13.2 != 0)) || (!(r_1.1.Lo == r_14.Lo && r_1.1.Hi == r_14.Hi))) || (!r_15)) then undef else .slice p_4 r_3.2.1.length c_4)⟩::⟨some 27,none,76,(bif ((((((r_1.2 != 0) || (r_3.2.2 != 0)) || (r_8.2 != 0)) || (r_13.2 != 0)) || (!(r_1.1.Lo == r_14.Lo && r_1.1.Hi == r_14.Hi))) || (!r_15)) then undef else i6 ((r_3.2.1.length : Nat) : Int))⟩::⟨some 28,none,77,(bif ((((((r_1.2 != 0) || (r_3.2.2 != 0)) || (r_8.2 != 0)) || (r_13.2 != 0)) || (!(r_1.1.Lo == r_14.Lo && r_1.1.Hi == r_14.Hi))) || (!r_15)) then undef else .bool (((r_3.2.1.length : Nat) : Int) != 0))⟩::⟨some 29,none,78,.bool (((((((r_1.2 != 0) || (r_3.2.2 != 0)) || (r_8.2 != 0)) || (r_13.2 != 0)) || (!(r_1.1.Lo == r_14.Lo && r_1.1.Hi == r_14.Hi))) || (!r_15)) || (((r_3.2.1.length : Nat) : Int) != 0))⟩::⟨some 30,none,79,.bool (((((((r_1.2 != 0) || (r_3.2.2 != 0)) || (r_8.2 != 0)) || (r_13.2 != 0)) || (!(r_1.1.Lo == r_14.Lo && r_1.1.Hi == r_14.Hi))) || (!r_15)) || (((r_3.2.1.length : Nat) : Int) != 0))⟩::⟨some 31,none,80,(bif (((((((r_1.2 != 0) || (r_3.2.2 != 0)) || (r_8.2 != 0)) || (r_13.2 != 0)) || (!(r_1.1.Lo == r_14.Lo && r_1.1.Hi == r_14.Hi))) || (!r_15)) || (((r_3.2.1.length : Nat) : Int) != 0)) then undef else .agg #[i6 r_8.1.Lo,i6 r_8.1.Hi])⟩::⟨some 32,none,81,(bif (((((((r_1.2 != 0) || (r_3.2.2 != 0)) || (r_8.2 != 0)) || (r_13.2 != 0)) || (!(r_1.1.Lo == r_14.Lo && r_1.1.Hi == r_14.Hi))) || (!r_15)) || (((r_3.2.1.length : Nat) : Int) != 0)) then undef else .agg #[i6 r_16.Lo,i6 r_16.Hi])⟩::⟨some 33,none,82,(bif (((((((r_1.2 != 0) || (r_3.2.2 != 0)) || (r_8.2 != 0)) || (r_13.2 != 0)) || (!(r_1.1.Lo == r_14.Lo && r_1.1.Hi == r_14.Hi))) || (!r_15)) || (((r_3.2.1.length : Nat) : Int) != 0)) then undef else .bool (!(r_8.1.Lo == r_16.Lo && r_8.1.Hi == r_16.Hi)))⟩::⟨some 34,none,83,.bool ((((((((r_1.2 != 0) || (r_3.2.2 != 0)) || (r_8.2 != 0)) || (r_13.2 != 0)) || (!(r_1.1.Lo == r_14.Lo && r_1.1.Hi == r_14.Hi))) || (!r_15)) || (((r_3.2.1.length : Nat) : Int) != 0)) || (!(r_8.1.Lo == r_16.Lo && r_8.1.Hi == r_16.Hi)))⟩::⟨some 35,none,84,.bool ((((((((r_1.2 != 0) || (r_3.2.2 != 0)) || (r_8.2 != 0)) || (r_13.2 != 0)) || (!(r_1.1.Lo == r_14.Lo && r_1.1.Hi == r_14.Hi))) || (!r_15)) || (((r_3.2.1.length : Nat) : Int) != 0)) || (!(r_8.1.Lo == r_16.Lo && r_8.1.Hi == r_16.Hi)))⟩::⟨some 36,none,85,(bif ((((((((r_1.2 != 0) || (r_3.2.2 != 0)) || (r_8.2 != 0)) || (r_13.2 != 0)) || (!(r_1.1.Lo == r_14.Lo && r_1.1.Hi == r_14.Hi))) || (!r_15)) || (((r_3.2.1.length : Nat) : Int) != 0)) || (!(r_8.1.Lo == r_16.Lo && r_8.1.Hi == r_16.Hi))) then undef else .agg #[i6 r_13.1.Lo,i6 r_13.1.Hi])⟩::⟨some 37,none,86,(bif ((((((((r_1.2 != 0) || (r_3.2.2 != 0)) || (r_8.2 != 0)) || (r_13.2 != 0)) || (!(r_1.1.Lo == r_14.Lo && r_1.1.Hi == r_14.Hi))) || (!r_15)) || (((r_3.2.1.length : Nat) : Int) != 0)) || (!(r_8.1.Lo == r_16.Lo && r_8.1.Hi == r_16.Hi))) then undef else .agg #[i6 r_17.Lo,i6 r_17.Hi])⟩::⟨some 38,none,87,(bif ((((((((r_1.2 != 0) || (r_3.2.2 != 0)) || (r_8.2 != 0)) || (r_13.2 != 0)) || (!(r_1.1.Lo == r_14.Lo && r_1.1.Hi == r_14.Hi))) || (!r_15)) || (((r_3.2.1.length : Nat) : Int) != 0)) || (!(r_8.1.Lo == r_16.Lo && r_8.1.Hi == r_16.Hi))) then undef else .bool (!(r_13.1.Lo == r_17.Lo && r_13.1.Hi == r_17.Hi)))⟩::⟨some 39,none,88,.bool (((((((((r_1.2 != 0) || (r_3.2.2 != 0)) || (r_8.2 != 0)) || (r_13.2 != 0)) || (!(r_1.1.Lo == r_14.Lo && r_1.1.Hi == r_14.Hi))) || (!r_15)) || (((r_3.2.1.length : Nat) : Int) != 0)) || (!(r_8.1.Lo == r_16.Lo && r_8.1.Hi == r_16.Hi))) || (!(r_13.1.Lo == r_17.Lo && r_13.1.Hi == r_17.Hi)))⟩::[])) (fun E θ => (bif E 21 then (gE (!(((((r_1.2 != 0) || (r_3.2.2 != 0)) || (r_8.2 != 0)) || (r_13.2 != 0)) || (!(r_1.1.Lo == r_14.Lo && r_1.1.Hi == r_14.Hi)))) (.row (some ⟨(θ 168).b,0,none⟩) 2 (([0,1] : List Int).map encI_i64) 3 1)) else .row none 0 [] 0 0)::.box b_5 [i6 r_13.1.Lo,i6 r_13.1.Hi] 24::.box b_4 [i6 r_8.1.Lo,i6 r_8.1.Hi] 24::.row p_3 c_3 (r_3.1.map encI_i64) 3 1::.row p_4 c_4 (r_3.2.1.map encI_i64) 3 1::.box b_1 [i6 r_1.1.Lo,i6 r_1.1.Hi] 24::Lf) [] (fun a w => Has 156 a [(88,.bool (((((((((r_1.2 != 0) || (r_3.2.2 != 0)) || (r_8.2 != 0)) || (r_13.2 != 0)) || (!(r_1.1.Lo == r_14.Lo && r_1.1.Hi == r_14.Hi))) || (!r_15)) || (((r_3.2.1.length : Nat) : Int) != 0)) || (!(r_8.1.Lo == r_16.Lo && r_8.1.Hi == r_16.Hi))) || (!(r_13.1.Lo == r_17.Lo && r_13.1.Hi == r_17.Hi))))] ∧ Ctx G (.box b_5 [i6 r_13.1.Lo,i6 r_13.1.Hi] 24::.box b_4 [i6 r_8.1.Lo,i6 r_8.1.Hi] 24::.row p_3 c_3 (r_3.1.map encI_i64) 3 1::.row p_4 c_4 (r_3.2.1.map encI_i64) 3 1::.box b_1 [i6 r_1.1.Lo,i6 r_1.1.Hi] 24::Lf) w) follows_mx (by kernel_rfl) (by kernel_rfl) (HasE.of hf ⟨rfl,rfl,rfl,rfl,rfl,rfl,rfl,rfl,rfl,trivial,trivial,trivial,trivial,trivial,trivial,trivial,trivial,trivial,trivial,trivial,trivial,trivial,trivial,trivial,trivial,trivial,trivial,trivial,trivial,trivial,trivial,trivial,trivial,trivial,trivial,trivial,trivial,trivial,trivial,trivial,trivial,trivial,trivial,trivial,trivial,trivial,trivial,trivial,trivial,trivial⟩) hc ⟨?_,?_,?_,?_,?_,?_,?_,?_,?_,?_,?_,?_,?_,?_,?_,?_,?_,?_,?_,?_,?_,?_,?_,?_,?_,?_,?_,?_,?_,?_,?_,?_,?_,?_,?_,?_,?_,?_,?_,?_,trivial⟩ ?_ ?_
 ·intro E θ a w hD hi hp he hc
  have hf := he.h0.mT he 1 rfl
  refine sp 1 hf rfl fun a hf => zD θ he hi hf 9 rfl rfl rfl hc
 ·intro E θ a w hD hi hp he hc
  have e0 := hp.o 0 rfl
  have hf := he.h0.mP he 9 rfl e0
  refine sp 1 hf rfl fun a hf => zD θ he hi hf 10 rfl rfl rfl hc
 ·intro E θ a w hD hi hp he hc
  have e1 := hp.o 1 rfl
  have hf := he.h0.mP he 10 rfl e1
  refine sp 1 hf rfl fun a hf => zD θ he hi hf 11 rfl rfl rfl hc
 ·intro E θ a w hD hi hp he hc
  have e2 := hp.o 2 rfl
  rcases boolEq (r_1.2 != 0) with hb | hb
  ·have hf := (he.h0.mT he 4 rfl).mP he 11 rfl e2
   replace hf := castB hb hf
   refine stS hf rfl rfl rfl fun a hf => ?_
   replace hf := castI (u := i6 r_3.2.2) hb hf
   exact zD θ he hi hf 12 rfl rfl rfl hc
  ·have hf := (he.h0.mT he 4 rfl).mP he 11 rfl e2
   replace hf := castB hb hf
   refine sp 1 hf rfl fun a hf => ?_
   replace hf := castJ (u := undef) hb hf
   exact zD θ he hi hf 12 rfl rfl rfl hc
 ·intro E θ a w hD hi hp he hc
  have e2 := hp.o 2 rfl
  have e3 := hp.o 3 rfl
  rcases boolEq (r_1.2 != 0) with hb | hb
  ·have hf := he.h0.mP he 11 rfl e2
   replace hf := castB hb hf
   replace hf := hf.more he 12 rfl (onP e3)
   replace hf := castCT hb hf
   refine stS hf rfl rfl rfl fun a hf => ?_
   replace hf := castI (u := .bool (r_3.2.2 != 0)) hb hf
   exact zD θ he hi hf 13 rfl rfl rfl hc
  ·have hf := he.h0.mP he 11 rfl e2
   replace hf := castB hb hf
   replace hf := hf.more he 12 rfl (onP e3)
   replace hf := castCF hb hf
   refine sp 1 hf rfl fun a hf => ?_
   replace hf := castJ (u := undef) hb hf
   exact zD θ he hi hf 13 rfl rfl rfl hc
 ·intro E θ a w hD hi hp he hc
  have e2 := hp.o 2 rfl
  have e4 := hp.o 4 rfl
  rcases boolEq (r_1.2 != 0) with hb | hb
  ·have hf := he.h0.mP he 11 rfl e2
   replace hf := castB hb hf
   replace hf := hf.more he 13 rfl (onP e4)
   replace hf := castCT hb hf
   refine sp 1 hf rfl fun a hf => ?_
   replace hf := castV (v' := .bool ((r_1.2 != 0) || (r_3.2.2 != 0))) (congrArg Value.bool (orT hb)) hf
   exact zD θ he hi hf 14 rfl rfl rfl hc
  ·have hf := he.h0.mP he 11 rfl e2
   replace hf := castB hb hf
   replace hf := hf.more he 13 rfl (onP e4)
   replace hf := castCF hb hf
   refine sp 1 hf rfl fun a hf => ?_
   replace hf := castV (v' := .bool ((r_1.2 != 0) || (r_3.2.2 != 0))) (congrArg Value.bool (orF hb)) hf
   exact zD θ he hi hf 14 rfl rfl rfl hc
 ·intro E θ a w hD hi hp he hc
  have e5 := hp.o 5 rfl
  have hf := he.h0.mP he 14 rfl e5
  refine sp 1 hf rfl fun a hf => zD θ he hi hf 15 rfl rfl rfl hc
 ·intro E θ a w hD hi hp he hc
  have e6 := hp.o 6 rfl
  rcases boolEq ((r_1.2 != 0) || (r_3.2.2 != 0)) with hb | hb
  ·have hf := (he.h0.mT he 6 rfl).mP he 15 rfl e6
   replace hf := castB hb hf
   refine stS hf rfl rfl rfl fun a hf => ?_
   replace hf := castI (u := i6 r_8.2) hb hf
   exact zD θ he hi hf 16 rfl rfl rfl hc
  ·have hf := (he.h0.mT he 6 rfl).mP he 15 rfl e6
   replace hf := castB hb hf
   refine sp 1 hf rfl fun a hf => ?_
   replace hf := castJ (u := undef) hb hf
   exact zD θ he hi hf 16 rfl rfl rfl hc
 ·intro E θ a w hD hi hp he hc
  have e6 := hp.o 6 rfl
  have e7 := hp.o 7 rfl
  rcases boolEq ((r_1.2 != 0) || (r_3.2.2 != 0)) with hb | hb
  ·have hf := he.h0.mP he 15 rfl e6
   replace hf := castB hb hf
   replace hf := hf.more he 16 rfl (onP e7)
   replace hf := castCT hb hf
   refine stS hf rfl rfl rfl fun a hf => ?_
   replace hf := castI (u := .bool (r_8.2 != 0)) hb hf
   exact zD θ he hi hf 17 rfl rfl rfl hc
  ·have hf := he.h0.mP he 15 rfl e6
   replace hf := castB hb hf
   replace hf := hf.more he 16 rfl (onP e7)
   replace hf := castCF hb hf
   refine sp 1 hf rfl fun a hf => ?_
   replace hf := castJ (u := undef) hb hf
   exact zD θ he hi hf 17 rfl rfl rfl hc
 ·intro E θ a w hD hi hp he hc
  have e6 := hp.o 6 rfl
  have e8 := hp.o 8 rfl
  rcases boolEq ((r_1.2 != 0) || (r_3.2.2 != 0)) with hb | hb
  ·have hf := he.h0.mP he 15 rfl e6
   replace hf := castB hb hf
   replace hf := hf.more he 17 rfl (onP e8)
   replace hf := castCT hb hf
   refine sp 1 hf rfl fun a hf => ?_
   replace hf := castV (v' := .bool (((r_1.2 != 0) || (r_3.2.2 != 0)) || (r_8.2 != 0))) (congrArg Value.bool (orT hb)) hf
   exact zD θ he hi hf 18 rfl rfl rfl hc
  ·have hf := he.h0.mP he 15 rfl e6
   replace hf := castB hb hf
   replace hf := hf.more he 17 rfl (onP e8)
   replace hf := castCF hb hf
   refine sp 1 hf rfl fun a hf => ?_
   replace hf := castV (v' := .bool (((r_1.2 != 0) || (r_3.2.2 != 0)) || (r_8.2 != 0))) (congrArg Value.bool (orF hb)) hf
   exact zD θ he hi hf 18 rfl rfl rfl hc
 ·intro E θ a w hD hi hp he hc
  have e9 := hp.o 9 rfl
  have hf := he.h0.mP he 18 rfl e9
  refine sp 1 hf rfl fun a hf => zD θ he hi hf 19 rfl rfl rfl hc
 ·intro E θ a w hD hi hp he hc
  have e10 := hp.o 10 rfl
  rcases boolEq (((r_1.2 != 0) || (r_3.2.2 != 0)) || (r_8.2 != 0)) with hb | hb
  ·have hf := (he.h0.mT he 8 rfl).mP he 19 rfl e10
   replace hf := castB hb hf
   refine stS hf rfl rfl rfl fun a hf => ?_
   replace hf := castI (u := i6 r_13.2) hb hf
   exact zD θ he hi hf 20 rfl rfl rfl hc
  ·have hf := (he.h0.mT he 8 rfl).mP he 19 rfl e10
   replace hf := castB hb hf
   refine sp 1 hf rfl fun a hf => ?_
   replace hf := castJ (u := undef) hb hf
   exact zD θ he hi hf 20 rfl rfl rfl hc
 ·intro E θ a w hD hi hp he hc
  have e10 := hp.o 10 rfl
  have e11 := hp.o 11 rfl
  rcases boolEq (((r_1.2 != 0) || (r_3.2.2 != 0)) || (r_8.2 != 0)) with hb | hb
  ·have hf := he.h0.mP he 19 rfl e10
   replace hf := castB hb hf
   replace hf := hf.more he 20 rfl (onP e11)
   replace hf := castCT hb hf
   refine stS hf rfl rfl rfl fun a hf => ?_
   replace hf := castI (u := .bool (r_13.2 != 0)) hb hf
   exact zD θ he hi hf 21 rfl rfl rfl hc
  ·have hf := he.h0.mP he 19 rfl e10
   replace hf := castB hb hf
   replace hf := hf.more he 20 rfl (onP e11)
   replace hf := castCF hb hf
   refine sp 1 hf rfl fun a hf => ?_
   replace hf := castJ (u := undef) hb hf
   exact zD θ he hi hf 21 rfl rfl rfl hc
 ·intro E θ a w hD hi hp he hc
  have e10 := hp.o 10 rfl
  have e12 := hp.o 12 rfl
  rcases boolEq (((r_1.2 != 0) || (r_3.2.2 != 0)) || (r_8.2 != 0)) with hb | hb
  ·have hf := he.h0.mP he 19 rfl e10
   replace hf := castB hb hf
   replace hf := hf.more he 21 rfl (onP e12)
   replace hf := castCT hb hf
   refine sp 1 hf rfl fun a hf => ?_
   replace hf := castV (v' := .bool ((((r_1.2 != 0) || (r_3.2.2 != 0)) || (r_8.2 != 0)) || (r_13.2 != 0))) (congrArg Value.bool (orT hb)) hf
   exact zD θ he hi hf 22 rfl rfl rfl hc
  ·have hf := he.h0.mP he 19 rfl e10
   replace hf := castB hb hf
   replace hf := hf.more he 21 rfl (onP e12)
   replace hf := castCF hb hf
   refine sp 1 hf rfl fun a hf => ?_
   replace hf := castV (v' := .bool ((((r_1.2 != 0) || (r_3.2.2 != 0)) || (r_8.2 != 0)) || (r_13.2 != 0))) (congrArg Value.bool (orF hb)) hf
   exact zD θ he hi hf 22 rfl rfl rfl hc
 ·intro E θ a w hD hi hp he hc
  have e13 := hp.o 13 rfl
  have hf := he.h0.mP he 22 rfl e13
  refine sp 1 hf rfl fun a hf => zD θ he hi hf 23 rfl rfl rfl hc
 ·intro E θ a w hD hi hp he hc
  have e14 := hp.o 14 rfl
  rcases boolEq ((((r_1.2 != 0) || (r_3.2.2 != 0)) || (r_8.2 != 0)) || (r_13.2 != 0)) with hb | hb
  ·have hf := (he.h0.mT he 0 rfl).mP he 23 rfl e14
   replace hf := castB hb hf
   refine stS hf rfl rfl rfl fun a hf => ?_
   replace hf := castI (u := .agg #[i6 r_1.1.Lo,i6 r_1.1.Hi]) hb hf
   exact zD θ he hi hf 24 rfl rfl rfl hc
  ·have hf := (he.h0.mT he 0 rfl).mP he 23 rfl e14
   replace hf := castB hb hf
   refine zN hf hc ag_24 m5 rfl fun a w hf hc => ?_
   replace hf := castJ (u := undef) hb hf
   exact zD θ he hi hf 24 rfl rfl rfl hc
 ·intro E θ a w hD hi hp he hc
  have e14 := hp.o 14 rfl
  rcases boolEq ((((r_1.2 != 0) || (r_3.2.2 != 0)) || (r_8.2 != 0)) || (r_13.2 != 0)) with hb | hb
  ·have hf := he.h0.mP he 23 rfl e14
   replace hf := castB hb hf
   refine stS hf rfl rfl rfl fun a hf => ?_
   replace hf := castI (u := .agg #[i6 r_14.Lo,i6 r_14.Hi]) hb hf
   exact zD θ he hi hf 25 rfl rfl rfl hc
  ·have hf := he.h0.mP he 23 rfl e14
   replace hf := castB hb hf
   refine zQ (v := .agg #[i6 r_14.Lo,i6 r_14.Hi]) hf hc en_14 rfl (fun w hc => law03_span_ok 51600 402000 hc (condT (notT hb) hr_14)) fun a w hf hc => ?_
   replace hf := castJ (u := undef) hb hf
   exact zD θ he hi hf 25 rfl rfl rfl hc
 ·intro E θ a w hD hi hp he hc
  have e14 := hp.o 14 rfl
  have e15 := hp.o 15 rfl
  have e16 := hp.o 16 rfl
  rcases boolEq ((((r_1.2 != 0) || (r_3.2.2 != 0)) || (r_8.2 != 0)) || (r_13.2 != 0)) with hb | hb
  ·have hf := he.h0.mP he 23 rfl e14
   replace hf := castB hb hf
   replace hf := hf.more he 24 rfl (onP e15)
   replace hf := castCT hb hf
   replace hf := hf.more he 25 rfl (onP e16)
   replace hf := castCT hb hf
   refine stS hf rfl rfl rfl fun a hf => ?_
   replace hf := castI (u := .bool (!(r_1.1.Lo == r_14.Lo && r_1.1.Hi == r_14.Hi))) hb hf
   exact zD θ he hi hf 26 rfl rfl rfl hc
  ·have hf := he.h0.mP he 23 rfl e14
   replace hf := castB hb hf
   replace hf := hf.more he 24 rfl (onP e15)
   replace hf := castCF hb hf
   replace hf := hf.more he 25 rfl (onP e16)
   replace hf := castCF hb hf
   refine zP hf rfl (pNeA ge_24 rfl rfl (eqs_24 _ _ _ _)) fun a hf => ?_
   replace hf := castJ (u := undef) hb hf
   exact zD θ he hi hf 26 rfl rfl rfl hc
 ·intro E θ a w hD hi hp he hc
  have e14 := hp.o 14 rfl
  have e17 := hp.o 17 rfl
  rcases boolEq ((((r_1.2 != 0) || (r_3.2.2 != 0)) || (r_8.2 != 0)) || (r_13.2 != 0)) with hb | hb
  ·have hf := he.h0.mP he 23 rfl e14
   replace hf := castB hb hf
   replace hf := hf.more he 26 rfl (onP e17)
   replace hf := castCT hb hf
   refine sp 1 hf rfl fun a hf => ?_
   replace hf := castV (v' := .bool (((((r_1.2 != 0) || (r_3.2.2 != 0)) || (r_8.2 != 0)) || (r_13.2 != 0)) || (!(r_1.1.Lo == r_14.Lo && r_1.1.Hi == r_14.Hi)))) (congrArg Value.bool (orT hb)) hf
   exact zD θ he hi hf 27 rfl rfl rfl hc
  ·have hf := he.h0.mP he 23 rfl e14
   replace hf := castB hb hf
   replace hf := hf.more he 26 rfl (onP e17)
   replace hf := castCF hb hf
   refine sp 1 hf rfl fun a hf => ?_
   replace hf := castV (v' := .bool (((((r_1.2 != 0) || (r_3.2.2 != 0)) || (r_8.2 != 0)) || (r_13.2 != 0)) || (!(r_1.1.Lo == r_14.Lo && r_1.1.Hi == r_14.Hi)))) (congrArg Value.bool (orF hb)) hf
   exact zD θ he hi hf 27 rfl rfl rfl hc
 ·intro E θ a w hD hi hp he hc
  have e18 := hp.o 18 rfl
  have hf := he.h0.mP he 27 rfl e18
  refine sp 1 hf rfl fun a hf => zD θ he hi hf 28 rfl rfl rfl hc
 ·intro E θ a w hD hi hp he hc
  have e19 := hp.o 19 rfl
  rcases boolEq (((((r_1.2 != 0) || (r_3.2.2 != 0)) || (r_8.2 != 0)) || (r_13.2 != 0)) || (!(r_1.1.Lo == r_14.Lo && r_1.1.Hi == r_14.Hi))) with hb | hb
  ·have hf := (he.h0.mT he 2 rfl).mP he 28 rfl e19
   replace hf := castB hb hf
   refine stS hf rfl rfl rfl fun a hf => ?_
   replace hf := castI (u := .slice p_3 r_3.1.length c_3) hb hf
   exact zD θ he hi hf 29 rfl rfl rfl hc
  ·have hf := (he.h0.mT he 2 rfl).mP he 28 rfl e19
   replace hf := castB hb hf
   refine sp 1 hf rfl fun a hf => ?_
   replace hf := castJ (u := undef) hb hf
   exact zD θ he hi hf 29 rfl rfl rfl hc
 ·intro E θ a w hD hi hp he hc
  have e19 := hp.o 19 rfl
  try dsimp only at hc
  rw [hi] at hc
  rcases boolEq (((((r_1.2 != 0) || (r_3.2.2 != 0)) || (r_8.2 != 0)) || (r_13.2 != 0)) || (!(r_1.1.Lo == r_14.Lo && r_1.1.Hi == r_14.Hi))) with hb | hb
  ·have hf := he.h0.mP he 28 rfl e19
   replace hf := castB hb hf
   refine stS hf rfl rfl rfl fun a hf => ?_
   replace hf := castI (u := .slice (some ⟨(θ 168).b,0,none⟩) 2 2) hb hf
   refine zD θ he hi hf 30 rfl rfl rfl ?_
   try dsimp only
   rw [updE_self E 21]
   rw [gE_F (notF hb)]
   exact hc
  ·have hf := he.h0.mP he 28 rfl e19
   replace hf := castB hb hf
   refine stBS (rows := ([0,1] : List Int).map encI_i64) (vs := [(0,i6 0),(1,i6 1)]) hf hc rfl rfl sl_43 rfl ⟨rfl,rfl,rfl,rfl,rfl,rfl,trivial⟩ rfl rfl fun b_6 a w hf hc => ?_
   replace hf := castJ (u := undef) hb hf
   refine cNil ?_
   refine xThenN ?_
   intro ds u hau
   replace hc := hc.drop k1
   refine ⟨(setT θ 168 ⟨b_6,none,0,(fun _ => (none,0))⟩),he.put hi hau hf rfl [] trivial ⟨qq,qq,qq,qq,qq,qq,qq,qq,qq,qq,qq,qq,qq,qq,qq,qq,qq,qq,qq,qq,qq,qq,qq,qq,qq,qq,qq,qq,qq,qq,qq,qq,qq,qq,qq,qq,qq,qq,qq,qq,qq,qq,qq,qq,qq,qq,qq,qq,qq,trivial⟩,?_⟩
   try dsimp only
   rw [updE_self E 21]
   rw [gE_T (notT hb)]
   exact hc
 ·intro E θ a w hD hi hp he hc
  have e19 := hp.o 19 rfl
  have e20 := hp.o 20 rfl
  have e21 := hp.o 21 rfl
  try dsimp only at hc
  rw [e21] at hc
  rcases boolEq (((((r_1.2 != 0) || (r_3.2.2 != 0)) || (r_8.2 != 0)) || (r_13.2 != 0)) || (!(r_1.1.Lo == r_14.Lo && r_1.1.Hi == r_14.Hi))) with hb | hb
  ·have hf := he.h0.mP he 28 rfl e19
   replace hf := castB hb hf
   replace hf := hf.more he 29 rfl (onP e20)
   replace hf := castCT hb hf
   replace hf := hf.more he 30 rfl (onP e21)
   replace hf := castCT hb hf
   rw [gE_F (notF hb)] at hc
   refine stS hf rfl rfl rfl fun a hf => ?_
   replace hf := castI (u := .bool r_15) hb hf
   refine zD θ he hi hf 31 rfl rfl rfl ?_
   try dsimp only
   rw [updE_tru 22 e21]
   rw [gE_F (notF hb)]
   exact hc
  ·have hf := he.h0.mP he 28 rfl e19
   replace hf := castB hb hf
   replace hf := hf.more he 29 rfl (onP e20)
   replace hf := castCF hb hf
   replace hf := hf.more he 30 rfl (onP e21)
   replace hf := castCF hb hf
   rw [gE_T (notT hb)] at hc
   refine zQ (v := .bool r_15) hf hc en_41 rfl (fun w hc => by obtain ⟨G1,hle1,hrd1,hc,hth1⟩ := lend hc k3; obtain ⟨G2,hle2,hrd2,hc,hth2⟩ := lend hc k0; exact (kit_Same_int_ok r_3.1 ([0,1] : List Int) (hrd1.mono hle2) hrd2 hc (condT (notT hb) hr_15)).mono fun e w h => ⟨h.1,((hth1 _ _ ((hth2 _ _ h.2).unpick k0)).unpick k3)⟩) fun a w hf hc => ?_
   replace hf := castJ (u := undef) hb hf
   refine zD θ he hi hf 31 rfl rfl rfl ?_
   try dsimp only
   rw [updE_tru 22 e21]
   rw [gE_T (notT hb)]
   exact hc
 ·intro E θ a w hD hi hp he hc
  have e19 := hp.o 19 rfl
  have e22 := hp.o 22 rfl
  rcases boolEq (((((r_1.2 != 0) || (r_3.2.2 != 0)) || (r_8.2 != 0)) || (r_13.2 != 0)) || (!(r_1.1.Lo == r_14.Lo && r_1.1.Hi == r_14.Hi))) with hb | hb
  ·have hf := he.h0.mP he 28 rfl e19
   replace hf := castB hb hf
   replace hf := hf.more he 31 rfl (onP e22)
   replace hf := castCT hb hf
   refine stS hf rfl rfl rfl fun a hf => ?_
   replace hf := castI (u := .bool (!r_15)) hb hf
   exact zD θ he hi hf 32 rfl rfl rfl hc
  ·have hf := he.h0.mP he 28 rfl e19
   replace hf := castB hb hf
   replace hf := hf.more he 31 rfl (onP e22)
   replace hf := castCF hb hf
   refine sp 1 hf rfl fun a hf => ?_
   replace hf := castJ (u := undef) hb hf
   exact zD θ he hi hf 32 rfl rfl rfl hc
 ·intro E θ a w hD hi hp he hc
  have e19 := hp.o 19 rfl
  have e23 := hp.o 23 rfl
  rcases boolEq (((((r_1.2 != 0) || (r_3.2.2 != 0)) || (r_8.2 != 0)) || (r_13.2 != 0)) || (!(r_1.1.Lo == r_14.Lo && r_1.1.Hi == r_14.Hi))) with hb | hb
  ·have hf := he.h0.mP he 28 rfl e19
   replace hf := castB hb hf
   replace hf := hf.more he 32 rfl (onP e23)
   replace hf := castCT hb hf
   refine sp 1 hf rfl fun a hf => ?_
   replace hf := castV (v' := .bool ((((((r_1.2 != 0) || (r_3.2.2 != 0)) || (r_8.2 != 0)) || (r_13.2 != 0)) || (!(r_1.1.Lo == r_14.Lo && r_1.1.Hi == r_14.Hi))) || (!r_15))) (congrArg Value.bool (orT hb)) hf
   exact zD θ he hi hf 33 rfl rfl rfl hc
  ·have hf := he.h0.mP he 28 rfl e19
   replace hf := castB hb hf
   replace hf := hf.more he 32 rfl (onP e23)
   replace hf := castCF hb hf
   refine sp 1 hf rfl fun a hf => ?_
   replace hf := castV (v' := .bool ((((((r_1.2 != 0) || (r_3.2.2 != 0)) || (r_8.2 != 0)) || (r_13.2 != 0)) || (!(r_1.1.Lo == r_14.Lo && r_1.1.Hi == r_14.Hi))) || (!r_15))) (congrArg Value.bool (orF hb)) hf
   exact zD θ he hi hf 33 rfl rfl rfl hc
 ·intro E θ a w hD hi hp he hc
  have e24 := hp.o 24 rfl
  have hf := he.h0.mP he 33 rfl e24
  refine sp 1 hf rfl fun a hf => zD θ he hi hf 34 rfl rfl rfl hc
 ·intro E θ a w hD hi hp he hc
  have e25 := hp.o 25 rfl
  rcases boolEq ((((((r_1.2 != 0) || (r_3.2.2 != 0)) || (r_8.2 != 0)) || (r_13.2 != 0)) || (!(r_1.1.Lo == r_14.Lo && r_1.1.Hi == r_14.Hi))) || (!r_15)) with hb | hb
  ·have hf := (he.h0.mT he 3 rfl).mP he 34 rfl e25
   replace hf := castB hb hf
   refine stS hf rfl rfl rfl fun a hf => ?_
   replace hf := castI (u := .slice p_4 r_3.2.1.length c_4) hb hf
   exact zD θ he hi hf 35 rfl rfl rfl hc
  ·have hf := (he.h0.mT he 3 rfl).mP he 34 rfl e25
   replace hf := castB hb hf
   refine sp 1 hf rfl fun a hf => ?_
   replace hf := castJ (u := undef) hb hf
   exact zD θ he hi hf 35 rfl rfl rfl hc
 ·intro E θ a w hD hi hp he hc
  have e25 := hp.o 25 rfl
  have e26 := hp.o 26 rfl
  rcases boolEq ((((((r_1.2 != 0) || (r_3.2.2 != 0)) || (r_8.2 != 0)) || (r_13.2 != 0)) || (!(r_1.1.Lo == r_14.Lo && r_1.1.Hi == r_14.Hi))) || (!r_15)) with hb | hb
  ·have hf := he.h0.mP he 34 rfl e25
   replace hf := castB hb hf
   replace hf := hf.more he 35 rfl (onP e26)
   replace hf := castCT hb hf
   refine stS hf rfl rfl rfl fun a hf => ?_
   replace hf := castI (u := i6 ((r_3.2.1.length : Nat) : Int)) hb hf
   exact zD θ he hi hf 36 rfl rfl rfl hc
  ·have hf := he.h0.mP he 34 rfl e25
   replace hf := castB hb hf
   replace hf := hf.more he 35 rfl (onP e26)
   replace hf := castCF hb hf
   refine zP hf rfl (pLenS Try.underlying43 rfl) fun a hf => ?_
   replace hf := castJ (u := undef) hb hf
   exact zD θ he hi hf 36 rfl rfl rfl hc
 ·intro E θ a w hD hi hp he hc
  have e25 := hp.o 25 rfl
  have e27 := hp.o 27 rfl
  rcases boolEq ((((((r_1.2 != 0) || (r_3.2.2 != 0)) || (r_8.2 != 0)) || (r_13.2 != 0)) || (!(r_1.1.Lo == r_14.Lo && r_1.1.Hi == r_14.Hi))) || (!r_15)) with hb | hb
  ·have hf := he.h0.mP he 34 rfl e25
   replace hf := castB hb hf
   replace hf := hf.more he 36 rfl (onP e27)
   replace hf := castCT hb hf
   refine stS hf rfl rfl rfl fun a hf => ?_
   replace hf := castI (u := .bool (((r_3.2.1.length : Nat) : Int) != 0)) hb hf
   exact zD θ he hi hf 37 rfl rfl rfl hc
  ·have hf := he.h0.mP he 34 rfl e25
   replace hf := castB hb hf
   replace hf := hf.more he 36 rfl (onP e27)
   replace hf := castCF hb hf
   refine sp 1 hf rfl fun a hf => ?_
   replace hf := castJ (u := undef) hb hf
   exact zD θ he hi hf 37 rfl rfl rfl hc
 ·intro E θ a w hD hi hp he hc
  have e25 := hp.o 25 rfl
  have e28 := hp.o 28 rfl
  rcases boolEq ((((((r_1.2 != 0) || (r_3.2.2 != 0)) || (r_8.2 != 0)) || (r_13.2 != 0)) || (!(r_1.1.Lo == r_14.Lo && r_1.1.Hi == r_14.Hi))) || (!r_15)) with hb | hb
  ·have hf := he.h0.mP he 34 rfl e25
   replace hf := castB hb hf
   replace hf := hf.more he 37 rfl (onP e28)
   replace hf := castCT hb hf
   refine sp 1 hf rfl fun a hf => ?_
   replace hf := castV (v' := .bool (((((((r_1.2 != 0) || (r_3.2.2 != 0)) || (r_8.2 != 0)) || (r_13.2 != 0)) || (!(r_1.1.Lo == r_14.Lo && r_1.1.Hi == r_14.Hi))) || (!r_15)) || (((r_3.2.1.length : Nat) : Int) != 0))) (congrArg Value.bool (orT hb)) hf
   exact zD θ he hi hf 38 rfl rfl rfl hc
  ·have hf := he.h0.mP he 34 rfl e25
   replace hf := castB hb hf
   replace hf := hf.more he 37 rfl (onP e28)
   replace hf := castCF hb hf
   refine sp 1 hf rfl fun a hf => ?_
   replace hf := castV (v' := .bool (((((((r_1.2 != 0) || (r_3.2.2 != 0)) || (r_8.2 != 0)) || (r_13.2 != 0)) || (!(r_1.1.Lo == r_14.Lo && r_1.1.Hi == r_14.Hi))) || (!r_15)) || (((r_3.2.1.length : Nat) : Int) != 0))) (congrArg Value.bool (orF hb)) hf
   exact zD θ he hi hf 38 rfl rfl rfl hc
 ·intro E θ a w hD hi hp he hc
  have e29 := hp.o 29 rfl
  have hf := he.h0.mP he 38 rfl e29
  refine sp 1 hf rfl fun a hf => zD θ he hi hf 39 rfl rfl rfl hc
 ·intro E θ a w hD hi hp he hc
  have e30 := hp.o 30 rfl
  rcases boolEq (((((((r_1.2 != 0) || (r_3.2.2 != 0)) || (r_8.2 != 0)) || (r_13.2 != 0)) || (!(r_1.1.Lo == r_14.Lo && r_1.1.Hi == r_14.Hi))) || (!r_15)) || (((r_3.2.1.length : Nat) : Int) != 0)) with hb | hb
  ·have hf := (he.h0.mT he 5 rfl).mP he 39 rfl e30
   replace hf := castB hb hf
   refine stS hf rfl rfl rfl fun a hf => ?_
   replace hf := castI (u := .agg #[i6 r_8.1.Lo,i6 r_8.1.Hi]) hb hf
   exact zD θ he hi hf 40 rfl rfl rfl hc
  ·have hf := (he.h0.mT he 5 rfl).mP he 39 rfl e30
   replace hf := castB hb hf
   refine zN hf hc ag_24 m2 rfl fun a w hf hc => ?_
   replace hf := castJ (u := undef) hb hf
   exact zD θ he hi hf 40 rfl rfl rfl hc
 ·intro E θ a w hD hi hp he hc
  have e30 := hp.o 30 rfl
  rcases boolEq (((((((r_1.2 != 0) || (r_3.2.2 != 0)) || (r_8.2 != 0)) || (r_13.2 != 0)) || (!(r_1.1.Lo == r_14.Lo && r_1.1.Hi == r_14.Hi))) || (!r_15)) || (((r_3.2.1.length : Nat) : Int) != 0)) with hb | hb
  ·have hf := he.h0.mP he 39 rfl e30
   replace hf := castB hb hf
   refine stS hf rfl rfl rfl fun a hf => ?_
   replace hf := castI (u := .agg #[i6 r_16.Lo,i6 r_16.Hi]) hb hf
   exact zD θ he hi hf 41 rfl rfl rfl hc
  ·have hf := he.h0.mP he 39 rfl e30
   replace hf := castB hb hf
   refine zQ (v := .agg #[i6 r_16.Lo,i6 r_16.Hi]) hf hc en_14 rfl (fun w hc => law03_span_ok 30000 40000 hc (condT (notT hb) hr_16)) fun a w hf hc => ?_
   replace hf := castJ (u := undef) hb hf
   exact zD θ he hi hf 41 rfl rfl rfl hc
 ·intro E θ a w hD hi hp he hc
  have e30 := hp.o 30 rfl
  have e31 := hp.o 31 rfl
  have e32 := hp.o 32 rfl
  rcases boolEq (((((((r_1.2 != 0) || (r_3.2.2 != 0)) || (r_8.2 != 0)) || (r_13.2 != 0)) || (!(r_1.1.Lo == r_14.Lo && r_1.1.Hi == r_14.Hi))) || (!r_15)) || (((r_3.2.1.length : Nat) : Int) != 0)) with hb | hb
  ·have hf := he.h0.mP he 39 rfl e30
   replace hf := castB hb hf
   replace hf := hf.more he 40 rfl (onP e31)
   replace hf := castCT hb hf
   replace hf := hf.more he 41 rfl (onP e32)
   replace hf := castCT hb hf
   refine stS hf rfl rfl rfl fun a hf => ?_
   replace hf := castI (u := .bool (!(r_8.1.Lo == r_16.Lo && r_8.1.Hi == r_16.Hi))) hb hf
   exact zD θ he hi hf 42 rfl rfl rfl hc
  ·have hf := he.h0.mP he 39 rfl e30
   replace hf := castB hb hf
   replace hf := hf.more he 40 rfl (onP e31)
   replace hf := castCF hb hf
   replace hf := hf.more he 41 rfl (onP e32)
   replace hf := castCF hb hf
   refine zP hf rfl (pNeA ge_24 rfl rfl (eqs_24 _ _ _ _)) fun a hf => ?_
   replace hf := castJ (u := undef) hb hf
   exact zD θ he hi hf 42 rfl rfl rfl hc
 ·intro E θ a w hD hi hp he hc
  have e30 := hp.o 30 rfl
  have e33 := hp.o 33 rfl
  rcases boolEq (((((((r_1.2 != 0) || (r_3.2.2 != 0)) || (r_8.2 != 0)) || (r_13.2 != 0)) || (!(r_1.1.Lo == r_14.Lo && r_1.1.Hi == r_14.Hi))) || (!r_15)) || (((r_3.2.1.length : Nat) : Int) != 0)) with hb | hb
  ·have hf := he.h0.mP he 39 rfl e30
   replace hf := castB hb hf
   replace hf := hf.more he 42 rfl (onP e33)
   replace hf := castCT hb hf
   refine sp 1 hf rfl fun a hf => ?_
   replace hf := castV (v' := .bool ((((((((r_1.2 != 0) || (r_3.2.2 != 0)) || (r_8.2 != 0)) || (r_13.2 != 0)) || (!(r_1.1.Lo == r_14.Lo && r_1.1.Hi == r_14.Hi))) || (!r_15)) || (((r_3.2.1.length : Nat) : Int) != 0)) || (!(r_8.1.Lo == r_16.Lo && r_8.1.Hi == r_16.Hi)))) (congrArg Value.bool (orT hb)) hf
   exact zD θ he hi hf 43 rfl rfl rfl hc
  ·have hf := he.h0.mP he 39 rfl e30
   replace hf := castB hb hf
   replace hf := hf.more he 42 rfl (onP e33)
   replace hf := castCF hb hf
   refine sp 1 hf rfl fun a hf => ?_
   replace hf := castV (v' := .bool ((((((((r_1.2 != 0) || (r_3.2.2 != 0)) || (r_8.2 != 0)) || (r_13.2 != 0)) || (!(r_1.1.Lo == r_14.Lo && r_1.1.Hi == r_14.Hi))) || (!r_15)) || (((r_3.2.1.length : Nat) : Int) != 0)) || (!(r_8.1.Lo == r_16.Lo && r_8.1.Hi == r_16.Hi)))) (congrArg Value.bool (orF hb)) hf
   exact zD θ he hi hf 43 rfl rfl rfl hc
 ·intro E θ a w hD hi hp he hc
  have e34 := hp.o 34 rfl
  have hf := he.h0.mP he 43 rfl e34
  refine sp 1 hf rfl fun a hf => zD θ he hi hf 44 rfl rfl rfl hc
 ·intro E θ a w hD hi hp he hc
  have e35 := hp.o 35 rfl
  rcases boolEq ((((((((r_1.2 != 0) || (r_3.2.2 != 0)) || (r_8.2 != 0)) || (r_13.2 != 0)) || (!(r_1.1.Lo == r_14.Lo && r_1.1.Hi == r_14.Hi))) || (!r_15)) || (((r_3.2.1.length : Nat) : Int) != 0)) || (!(r_8.1.Lo == r_16.Lo && r_8.1.Hi == r_16.Hi))) with hb | hb
  ·have hf := (he.h0.mT he 7 rfl).mP he 44 rfl e35
   replace hf := castB hb hf
   refine stS hf rfl rfl rfl fun a hf => ?_
   replace hf := castI (u := .agg #[i6 r_13.1.Lo,i6 r_13.1.Hi]) hb hf
   exact zD θ he hi hf 45 rfl rfl rfl hc
  ·have hf := (he.h0.mT he 7 rfl).mP he 44 rfl e35
   replace hf := castB hb hf
   refine zN hf hc ag_24 m1 rfl fun a w hf hc => ?_
   replace hf := castJ (u := undef) hb hf
   exact zD θ he hi hf 45 rfl rfl rfl hc
 ·intro E θ a w hD hi hp he hc
  have e35 := hp.o 35 rfl
  rcases boolEq ((((((((r_1.2 != 0) || (r_3.2.2 != 0)) || (r_8.2 != 0)) || (r_13.2 != 0)) || (!(r_1.1.Lo == r_14.Lo && r_1.1.Hi == r_14.Hi))) || (!r_15)) || (((r_3.2.1.length : Nat) : Int) != 0)) || (!(r_8.1.Lo == r_16.Lo && r_8.1.Hi == r_16.Hi))) with hb | hb
  ·have hf := he.h0.mP he 44 rfl e35
   replace hf := castB hb hf
   refine stS hf rfl rfl rfl fun a hf => ?_
   replace hf := castI (u := .agg #[i6 r_17.Lo,i6 r_17.Hi]) hb hf
   exact zD θ he hi hf 46 rfl rfl rfl hc
  ·have hf := he.h0.mP he 44 rfl e35
   replace hf := castB hb hf
   refine zQ (v := .agg #[i6 r_17.Lo,i6 r_17.Hi]) hf hc en_14 rfl (fun w hc => law03_span_ok 449 550 hc (condT (notT hb) hr_17)) fun a w hf hc => ?_
   replace hf := castJ (u := undef) hb hf
   exact zD θ he hi hf 46 rfl rfl rfl hc
 ·intro E θ a w hD hi hp he hc
  have e35 := hp.o 35 rfl
  have e36 := hp.o 36 rfl
  have e37 := hp.o 37 rfl
  rcases boolEq ((((((((r_1.2 != 0) || (r_3.2.2 != 0)) || (r_8.2 != 0)) || (r_13.2 != 0)) || (!(r_1.1.Lo == r_14.Lo && r_1.1.Hi == r_14.Hi))) || (!r_15)) || (((r_3.2.1.length : Nat) : Int) != 0)) || (!(r_8.1.Lo == r_16.Lo && r_8.1.Hi == r_16.Hi))) with hb | hb
  ·have hf := he.h0.mP he 44 rfl e35
   replace hf := castB hb hf
   replace hf := hf.more he 45 rfl (onP e36)
   replace hf := castCT hb hf
   replace hf := hf.more he 46 rfl (onP e37)
   replace hf := castCT hb hf
   refine stS hf rfl rfl rfl fun a hf => ?_
   replace hf := castI (u := .bool (!(r_13.1.Lo == r_17.Lo && r_13.1.Hi == r_17.Hi))) hb hf
   exact zD θ he hi hf 47 rfl rfl rfl hc
  ·have hf := he.h0.mP he 44 rfl e35
   replace hf := castB hb hf
   replace hf := hf.more he 45 rfl (onP e36)
   replace hf := castCF hb hf
   replace hf := hf.more he 46 rfl (onP e37)
   replace hf := castCF hb hf
   refine zP hf rfl (pNeA ge_24 rfl rfl (eqs_24 _ _ _ _)) fun a hf => ?_
   replace hf := castJ (u := undef) hb hf
   exact zD θ he hi hf 47 rfl rfl rfl hc
 ·intro E θ a w hD hi hp he hc
  have e35 := hp.o 35 rfl
  have e38 := hp.o 38 rfl
  rcases boolEq ((((((((r_1.2 != 0) || (r_3.2.2 != 0)) || (r_8.2 != 0)) || (r_13.2 != 0)) || (!(r_1.1.Lo == r_14.Lo && r_1.1.Hi == r_14.Hi))) || (!r_15)) || (((r_3.2.1.length : Nat) : Int) != 0)) || (!(r_8.1.Lo == r_16.Lo && r_8.1.Hi == r_16.Hi))) with hb | hb
  ·have hf := he.h0.mP he 44 rfl e35
   replace hf := castB hb hf
   replace hf := hf.more he 47 rfl (onP e38)
   replace hf := castCT hb hf
   refine sp 1 hf rfl fun a hf => ?_
   replace hf := castV (v' := .bool (((((((((r_1.2 != 0) || (r_3.2.2 != 0)) || (r_8.2 != 0)) || (r_13.2 != 0)) || (!(r_1.1.Lo == r_14.Lo && r_1.1.Hi == r_14.Hi))) || (!r_15)) || (((r_3.2.1.length : Nat) : Int) != 0)) || (!(r_8.1.Lo == r_16.Lo && r_8.1.Hi == r_16.Hi))) || (!(r_13.1.Lo == r_17.Lo && r_13.1.Hi == r_17.Hi)))) (congrArg Value.bool (orT hb)) hf
   exact zD θ he hi hf 48 rfl rfl rfl hc
  ·have hf := he.h0.mP he 44 rfl e35
   replace hf := castB hb hf
   replace hf := hf.more he 47 rfl (onP e38)
   replace hf := castCF hb hf
   refine sp 1 hf rfl fun a hf => ?_
   replace hf := castV (v' := .bool (((((((((r_1.2 != 0) || (r_3.2.2 != 0)) || (r_8.2 != 0)) || (r_13.2 != 0)) || (!(r_1.1.Lo == r_14.Lo && r_1.1.Hi == r_14.Hi))) || (!r_15)) || (((r_3.2.1.length : Nat) : Int) != 0)) || (!(r_8.1.Lo == r_16.Lo && r_8.1.Hi == r_16.Hi))) || (!(r_13.1.Lo == r_17.Lo && r_13.1.Hi == r_17.Hi)))) (congrArg Value.bool (orF hb)) hf
   exact zD θ he hi hf 48 rfl rfl rfl hc
 ·intro E θ a w hall he hc
  have hf := he.h0
  have e21 := hall 21 rfl
  have e39 := hall 39 rfl
  replace hf := hf.more he 48 rfl (onP e39)
  try dsimp only at hc
  rw [e21] at hc
  replace hc := hc.drop k0
  exact ⟨hf.kp rfl,hc⟩
 rintro a w ⟨hf,hc⟩
 refine h8 _ _ ?_
 refine zI hf rfl hF ?_ ?_ <;> clear hF <;> intro hF
 ·refine zS fun K h => sp 1 hf rfl fun a hf => zT h ?_
  refine wp_ret ?_
  refine xThenR ?_
  obtain rfl := sj hF
  replace hc := ((((hc.drop k4).drop k3).drop k2).drop k1).drop k0
  exact zO1 Try.results15 hf rfl ⟨rfl,hc⟩
 ·refine wp_skip ?_
  refine h7 _ _ ?_
  refine zS fun K h => zP hf rfl (pBuildS (cells := [i6 5,i6 9]) bt_24 rfl rfl) fun a hf => zP hf rfl (pBuildS (cells := [i6 7,i6 12]) bt_24 rfl rfl) fun a hf => zP hf rfl (pBuildS (cells := [i6 10,i6 11]) bt_24 rfl rfl) fun a hf => stBS (rows := ([(⟨5,9⟩ : api_Span),(⟨7,12⟩ : api_Span),(⟨10,11⟩ : api_Span)] : List api_Span).map enc_api_Span) (vs := [(0,.agg #[i6 5,i6 9]),(1,.agg #[i6 7,i6 12]),(2,.agg #[i6 10,i6 11])]) hf hc rfl rfl sl_72 rfl ⟨rfl,rfl,rfl,rfl,rfl,rfl,rfl,rfl,rfl,trivial⟩ rfl rfl fun b_7 a w hf hc => sp 1 hf rfl fun a hf => zT h ?_
  refine zS fun K h => sp 1 hf rfl fun a hf => ?_
  obtain ⟨r_18,hr_18,hF⟩ := bnd_some hF
  refine zQ (v := .tuple #[i6 r_18.1,i6 r_18.2.1,i6 r_18.2.2]) hf hc en_47 rfl (fun w hc => by obtain ⟨G1,hle1,hrd1,hc,hth1⟩ := lend hc k0; exact (gauge_Apart_ok ([(⟨5,9⟩ : api_Span),(⟨7,12⟩ : api_Span),(⟨10,11⟩ : api_Span)] : List api_Span) hrd1 hc hr_18).mono fun e w h => ⟨h.1,((hth1 _ _ h.2).unpick k0)⟩) fun a w hf hc => sp 7 hf rfl fun a hf => zT h ?_
  refine zS fun K h => sp 1 hf rfl fun a hf => ?_
  have qc := row_cap hc m0
  obtain ⟨sub,hsub,hF⟩ := bnd_some hF
  refine zP hf rfl (pSl Try.underlying72 sz_24 rfl rfl qc rfl rfl hsub) fun a hf => ?_
  obtain ⟨r_19,hr_19,hF⟩ := bnd_some hF
  refine zQ (v := .tuple #[.agg #[i6 r_19.1.Lo,i6 r_19.1.Hi],i6 r_19.2]) hf hc en_46 rfl (fun w hc => by obtain ⟨G1,hle1,hrd1,hc,hth1⟩ := lend hc k0; exact (gauge_Common_ok sub (Rd.sub hrd1 hsub) hc hr_19).mono fun e w h => ⟨h.1,((hth1 _ _ h.2).unpick k0)⟩) fun a w hf hc => sp 3 hf rfl fun a hf => zA hf hc zr_24 rfl fun b_8 a w hf hc => zW hf hc sz_24 u0 rfl fun w hc => sp 1 hf rfl fun a hf => zT h ?_
  refine wp_seq_k fun K13 h13 => cReg ?_
  obtain ⟨r_20,hr_20,hF⟩ := bnd_some hF
  refine zC hf en_54 rfl (law03_Three_ok hc hr_20) ?_
  rintro _ w ⟨p_5,c_5,rfl,hc⟩
  refine ⟨_,rfl,fun a hf => ?_⟩
  obtain ⟨r_21,hr_21,hF⟩ := bnd_some hF
  obtain ⟨G1,hle1,hrd1,hc,hth1⟩ := lend hc k0
  refine zC hf en_29 rfl (gauge_Plan_ok r_20 hrd1 hc hr_21) ?_
  rintro _ w ⟨p_6,c_6,rfl,hc⟩
  refine ⟨_,rfl,fun a hf => ?_⟩
  replace hc := hth1 _ _ hc
  refine sp 7 hf rfl fun a hf => cNil ?_
  replace hc := ((((((hc.drop k8).drop k7).drop k6).drop k5).drop k4).drop k3).drop k0
  refine h13 _ _ ?_
  refine zS fun K h => ?_
  obtain ⟨r_22,hr_22,hF⟩ := bnd_some hF
  refine zC hf en_54 rfl (law03_Three_ok hc hr_22) ?_
  rintro _ w ⟨p_7,c_7,rfl,hc⟩
  refine ⟨_,rfl,fun a hf => ?_⟩
  refine stBS (rows := ([0,2,3,6,6] : List Int).map encI_i64) (vs := [(0,i6 0),(1,i6 2),(2,i6 3),(3,i6 6),(4,i6 6)]) hf hc rfl rfl sl_43 rfl ⟨rfl,rfl,rfl,rfl,rfl,rfl,rfl,rfl,rfl,rfl,rfl,rfl,rfl,rfl,rfl,trivial⟩ rfl rfl fun b_9 a w hf hc => ?_
  obtain ⟨r_23,hr_23,hF⟩ := bnd_some hF
  refine zQ (v := .tuple #[.bool r_23.1,i6 r_23.2]) hf hc en_44 rfl (fun w hc => by obtain ⟨G1,hle1,hrd1,hc,hth1⟩ := lend hc k1; obtain ⟨G2,hle2,hrd2,hc,hth2⟩ := lend hc k0; exact (gauge_Proves_ok r_22 ([0,2,3,6,6] : List Int) 6 (hrd1.mono hle2) hrd2 hc hr_23).mono fun e w h => ⟨h.1,((hth1 _ _ ((hth2 _ _ h.2).unpick k0)).unpick k1)⟩) fun a w hf hc => sp 5 hf rfl fun a hf => zT h ?_
  refine wp_seq_k fun K15 h15 => ?_
  obtain ⟨r_24,hr_24,hF⟩ := bnd_some hF
  obtain ⟨r_25,hr_25,hF⟩ := bnd_some hF
  replace hc := hc.nilRow 0 0
  refine regionE (fun θ => (⟨none,none,2,i6 r_18.2.2⟩::⟨none,none,5,i6 r_19.2⟩::⟨none,none,8,i6 r_21.2.2⟩::⟨none,none,10,i6 r_23.2⟩::⟨none,none,12,i6 r_18.1⟩::⟨none,none,13,i6 r_18.2.1⟩::⟨none,none,14,pq b_8⟩::⟨none,none,15,.slice p_6 r_21.1.length c_6⟩::⟨none,none,16,i6 r_21.2.1⟩::⟨none,none,17,.bool r_23.1⟩::⟨some 0,none,117,i6 r_18.2.2⟩::⟨some 1,none,118,.bool (r_18.2.2 == 0)⟩::⟨some 2,none,119,.bool (r_18.2.2 == 0)⟩::⟨some 3,none,120,(bif (r_18.2.2 == 0) then i6 r_19.2 else undef)⟩::⟨some 4,none,121,(bif (r_18.2.2 == 0) then .bool (r_19.2 == 0) else undef)⟩::⟨some 5,none,122,.bool ((r_18.2.2 == 0) && (r_19.2 == 0))⟩::⟨some 6,none,123,.bool ((r_18.2.2 == 0) && (r_19.2 == 0))⟩::⟨some 7,none,124,(bif ((r_18.2.2 == 0) && (r_19.2 == 0)) then i6 r_21.2.2 else undef)⟩::⟨some 8,none,125,(bif ((r_18.2.2 == 0) && (r_19.2 == 0)) then .bool (r_21.2.2 == 0) else undef)⟩::⟨some 9,none,126,.bool (((r_18.2.2 == 0) && (r_19.2 == 0)) && (r_21.2.2 == 0))⟩::⟨some 10,none,127,.bool (((r_18.2.2 == 0) && (r_19.2 == 0)) && (r_21.2.2 == 0))⟩::⟨some 11,none,128,(bif (((r_18.2.2 == 0) && (r_19.2 == 0)) && (r_21.2.2 == 0)) then i6 r_23.2 else undef)⟩::⟨some 12,none,129,(bif (((r_18.2.2 == 0) && (r_19.2 == 0)) && (r_21.2.2 == 0)) then .bool (r_23.2 == 0) else undef)⟩::⟨some 13,none,130,.bool ((((r_18.2.2 == 0) && (r_19.2 == 0)) && (r_21.2.2 == 0)) && (r_23.2 == 0))⟩::⟨some 14,none,131,.bool ((((r_18.2.2 == 0) && (r_19.2 == 0)) && (r_21.2.2 == 0)) && (r_23.2 == 0))⟩::⟨some 15,none,132,(bif ((((r_18.2.2 == 0) && (r_19.2 == 0)) && (r_21.2.2 == 0)) && (r_23.2 == 0)) then i6 r_18.1 else undef)⟩::⟨some 16,none,133,(bif ((((r_18.2.2 == 0) && (r_19.2 == 0)) && (r_21.2.2 == 0)) && (r_23.2 == 0)) then .bool (r_18.1 == 0) else undef)⟩::⟨some 17,none,134,.bool (((((r_18.2.2 == 0) && (r_19.2 == 0)) && (r_21.2.2 == 0)) && (r_23.2 == 0)) && (r_18.1 == 0))⟩::⟨some 18,none,135,.bool (((((r_18.2.2 == 0) && (r_19.2 == 0)) && (r_21.2.2 == 0)) && (r_23.2 == 0)) && (r_18.1 == 0))⟩::⟨some 19,none,136,(bif (((((r_18.2.2 == 0) && (r_19.2 == 0)) && (r_21.2.2 == 0)) && (r_23.2 == 0)) && (r_18.1 == 0)) then i6 r_18.2.1 else undef)⟩::⟨some 20,none,137,(bif (((((r_18.2.2 == 0) && (r_19.2 == 0)) && (r_21.2.2 == 0)) && (r_23.2 == 0)) && (r_18.1 == 0)) then .bool (r_18.2.1 == 2) else undef)⟩::⟨some 21,none,138,.bool ((((((r_18.2.2 == 0) && (r_19.2 == 0)) && (r_21.2.2 == 0)) && (r_23.2 == 0)) && (r_18.1 == 0)) && (r_18.2.1 == 2))⟩::⟨some 22,none,139,.bool ((((((r_18.2.2 == 0) && (r_19.2 == 0)) && (r_21.2.2 == 0)) && (r_23.2 == 0)) && (r_18.1 == 0)) && (r_18.2.1 == 2))⟩::⟨some 23,none,140,(bif ((((((r_18.2.2 == 0) && (r_19.2 == 0)) && (r_21.2.2 == 0)) && (r_23.2 == 0)) && (r_18.1 == 0)) && (r_18.2.1 == 2)) then .agg #[i6 r_19.1.Lo,i6 r_19.1.Hi] else undef)⟩::⟨some 24,none,141,(bif ((((((r_18.2.2 == 0) && (r_19.2 == 0)) && (r_21.2.2 == 0)) && (r_23.2 == 0)) && (r_18.1 == 0)) && (r_18.2.1 == 2)) then .agg #[i6 r_24.Lo,i6 r_24.Hi] else undef)⟩::⟨some 25,none,142,(bif ((((((r_18.2.2 == 0) && (r_19.2 == 0)) && (r_21.2.2 == 0)) && (r_23.2 == 0)) && (r_18.1 == 0)) && (r_18.2.1 == 2)) then .bool (r_19.1.Lo == r_24.Lo && r_19.1.Hi == r_24.Hi) else undef)⟩::⟨some 26,none,143,.bool (((((((r_18.2.2 == 0) && (r_19.2 == 0)) && (r_21.2.2 == 0)) && (r_23.2 == 0)) && (r_18.1 == 0)) && (r_18.2.1 == 2)) && (r_19.1.Lo == r_24.Lo && r_19.1.Hi == r_24.Hi))⟩::⟨some 27,none,144,.bool (((((((r_18.2.2 == 0) && (r_19.2 == 0)) && (r_21.2.2 == 0)) && (r_23.2 == 0)) && (r_18.1 == 0)) && (r_18.2.1 == 2)) && (r_19.1.Lo == r_24.Lo && r_19.1.Hi == r_24.Hi))⟩::⟨some 28,none,145,(bif (((((((r_18.2.2 == 0) && (r_19.2 == 0)) && (r_21.2.2 == 0)) && (r_23.2 == 0)) && (r_18.1 == 0)) && (r_18.2.1 == 2)) && (r_19.1.Lo == r_24.Lo && r_19.1.Hi == r_24.Hi)) then .slice p_6 r_21.1.length c_6 else undef)⟩::⟨some 29,none,146,(bif (((((((r_18.2.2 == 0) && (r_19.2 == 0)) && (r_21.2.2 == 0)) && (r_23.2 == 0)) && (r_18.1 == 0)) && (r_18.2.1 == 2)) && (r_19.1.Lo == r_24.Lo && r_19.1.Hi == r_24.Hi)) then .slice (some ⟨(θ 232).b,0,none⟩) 2 2 else undef)⟩::⟨some 30,none,147,(bif (((((((r_18.2.2 == 0) && (r_19.2 == 0)) && (r_21.2.2 == 0)) && (r_23.2 == 0)) && (r_18.1 == 0)) && (r_18.2.1 == 2)) && (r_19.1.Lo == r_24.Lo && r_19.1.Hi == r_24.Hi)) then .bool r_25 else undef)⟩::⟨some 31,none,148,.bool ((((((((r_18.2.2 == 0) && (r_19.2 == 0)) && (r_21.2.2 == 0)) && (r_23.2 == 0)) && (r_18.1 == 0)) && (r_18.2.1 == 2)) && (r_19.1.Lo == r_24.Lo && r_19.1.Hi == r_24.Hi)) && r_25)⟩::⟨some 32,none,149,.bool ((((((((r_18.2.2 == 0) && (r_19.2 == 0)) && (r_21.2.2 == 0)) && (r_23.2 == 0)) && (r_18.1 == 0)) && (r_18.2.1 == 2)) && (r_19.1.Lo == r_24.Lo && r_19.1.Hi == r_24.Hi)) && r_25)⟩::⟨some 33,none,150,(bif ((((((((r_18.2.2 == 0) && (r_19.2 == 0)) && (r_21.2.2 == 0)) && (r_23.2 == 0)) && (r_18.1 == 0)) && (r_18.2.1 == 2)) && (r_19.1.Lo == r_24.Lo && r_19.1.Hi == r_24.Hi)) && r_25) then i6 r_21.2.1 else undef)⟩::⟨some 34,none,151,(bif ((((((((r_18.2.2 == 0) && (r_19.2 == 0)) && (r_21.2.2 == 0)) && (r_23.2 == 0)) && (r_18.1 == 0)) && (r_18.2.1 == 2)) && (r_19.1.Lo == r_24.Lo && r_19.1.Hi == r_24.Hi)) && r_25) then .bool (r_21.2.1 == 6) else undef)⟩::⟨some 35,none,152,.bool (((((((((r_18.2.2 == 0) && (r_19.2 == 0)) && (r_21.2.2 == 0)) && (r_23.2 == 0)) && (r_18.1 == 0)) && (r_18.2.1 == 2)) && (r_19.1.Lo == r_24.Lo && r_19.1.Hi == r_24.Hi)) && r_25) && (r_21.2.1 == 6))⟩::⟨some 36,none,153,.bool (((((((((r_18.2.2 == 0) && (r_19.2 == 0)) && (r_21.2.2 == 0)) && (r_23.2 == 0)) && (r_18.1 == 0)) && (r_18.2.1 == 2)) && (r_19.1.Lo == r_24.Lo && r_19.1.Hi == r_24.Hi)) && r_25) && (r_21.2.1 == 6))⟩::⟨some 37,none,154,(bif (((((((((r_18.2.2 == 0) && (r_19.2 == 0)) && (r_21.2.2 == 0)) && (r_23.2 == 0)) && (r_18.1 == 0)) && (r_18.2.1 == 2)) && (r_19.1.Lo == r_24.Lo && r_19.1.Hi == r_24.Hi)) && r_25) && (r_21.2.1 == 6)) then .bool r_23.1 else undef)⟩::⟨some 38,none,155,.bool ((((((((((r_18.2.2 == 0) && (r_19.2 == 0)) && (r_21.2.2 == 0)) && (r_23.2 == 0)) && (r_18.1 == 0)) && (r_18.2.1 == 2)) && (r_19.1.Lo == r_24.Lo && r_19.1.Hi == r_24.Hi)) && r_25) && (r_21.2.1 == 6)) && r_23.1)⟩::⟨some 39,none,0,.bool ((((((((((r_18.2.2 == 0) && (r_19.2 == 0)) && (r_21.2.2 == 0)) && (r_23.2 == 0)) && (r_18.1 == 0)) && (r_18.2.1 == 2)) && (r_19.1.Lo == r_24.Lo && r_19.1.Hi == r_24.Hi)) && r_25) && (r_21.2.1 == 6)) && r_23.1)⟩::[])) (fun E θ => (bif E 29 then (gE (((((((r_18.2.2 == 0) && (r_19.2 == 0)) && (r_21.2.2 == 0)) && (r_23.2 == 0)) && (r_18.1 == 0)) && (r_18.2.1 == 2)) && (r_19.1.Lo == r_24.Lo && r_19.1.Hi == r_24.Hi)) (.row (some ⟨(θ 232).b,0,none⟩) 2 (([1,3] : List Int).map encI_i64) 3 1)) else .row none 0 [] 0 0)::.row (some ⟨b_9,0,none⟩) 5 (([0,2,3,6,6] : List Int).map encI_i64) 3 1::.row p_7 c_7 (r_22.Points.map enc_gauge_Point) 64 3::.row p_6 c_6 (r_21.1.map encI_i64) 3 1::.box b_8 [i6 r_19.1.Lo,i6 r_19.1.Hi] 24::Lf) [] (fun a w => Has 156 a [(0,.bool ((((((((((r_18.2.2 == 0) && (r_19.2 == 0)) && (r_21.2.2 == 0)) && (r_23.2 == 0)) && (r_18.1 == 0)) && (r_18.2.1 == 2)) && (r_19.1.Lo == r_24.Lo && r_19.1.Hi == r_24.Hi)) && r_25) && (r_21.2.1 == 6)) && r_23.1))] ∧ Ctx G (.row (some ⟨b_9,0,none⟩) 5 (([0,2,3,6,6] : List Int).map encI_i64) 3 1::.row p_7 c_7 (r_22.Points.map enc_gauge_Point) 64 3::.row p_6 c_6 (r_21.1.map encI_i64) 3 1::.box b_8 [i6 r_19.1.Lo,i6 r_19.1.Hi] 24::Lf) w) follows_mx (by kernel_rfl) (by kernel_rfl) (HasE.of hf ⟨rfl,rfl,rfl,rfl,rfl,rfl,rfl,rfl,rfl,rfl,trivial,trivial,trivial,trivial,trivial,trivial,trivial,trivial,trivial,trivial,trivial,trivial,trivial,trivial,trivial,trivial,trivial,trivial,trivial,trivial,trivial,trivial,trivial,trivial,trivial,trivial,trivial,trivial,trivial,trivial,trivial,trivial,trivial,trivial,trivial,trivial,trivial,trivial,trivial,trivial,trivial⟩) hc ⟨?_,?_,?_,?_,?_,?_,?_,?_,?_,?_,?_,?_,?_,?_,?_,?_,?_,?_,?_,?_,?_,?_,?_,?_,?_,?_,?_,?_,?_,?_,?_,?_,?_,?_,?_,?_,?_,?_,?_,?_,trivial⟩ ?_ ?_
  ·intro E θ a w hD hi hp he hc
   have hf := he.h0.mT he 0 rfl
   refine sp 1 hf rfl fun a hf => zD θ he hi hf 10 rfl rfl rfl hc
  ·intro E θ a w hD hi hp he hc
   have e0 := hp.o 0 rfl
   have hf := he.h0.mP he 10 rfl e0
   refine sp 1 hf rfl fun a hf => zD θ he hi hf 11 rfl rfl rfl hc
  ·intro E θ a w hD hi hp he hc
   have e1 := hp.o 1 rfl
   have hf := he.h0.mP he 11 rfl e1
   refine sp 1 hf rfl fun a hf => zD θ he hi hf 12 rfl rfl rfl hc
  ·intro E θ a w hD hi hp he hc
   have e2 := hp.o 2 rfl
   rcases boolEq (r_18.2.2 == 0) with hb | hb
   ·have hf := (he.h0.mT he 1 rfl).mP he 12 rfl e2
    replace hf := castB hb hf
    refine sp 1 hf rfl fun a hf => ?_
    replace hf := castI (u := undef) hb hf
    exact zD θ he hi hf 13 rfl rfl rfl hc
   ·have hf := (he.h0.mT he 1 rfl).mP he 12 rfl e2
    replace hf := castB hb hf
    refine stS hf rfl rfl rfl fun a hf => ?_
    replace hf := castJ (u := i6 r_19.2) hb hf
    exact zD θ he hi hf 13 rfl rfl rfl hc
  ·intro E θ a w hD hi hp he hc
   have e2 := hp.o 2 rfl
   have e3 := hp.o 3 rfl
   rcases boolEq (r_18.2.2 == 0) with hb | hb
   ·have hf := he.h0.mP he 12 rfl e2
    replace hf := castB hb hf
    replace hf := hf.more he 13 rfl (onP e3)
    replace hf := castCT hb hf
    refine sp 1 hf rfl fun a hf => ?_
    replace hf := castI (u := undef) hb hf
    exact zD θ he hi hf 14 rfl rfl rfl hc
   ·have hf := he.h0.mP he 12 rfl e2
    replace hf := castB hb hf
    replace hf := hf.more he 13 rfl (onP e3)
    replace hf := castCF hb hf
    refine stS hf rfl rfl rfl fun a hf => ?_
    replace hf := castJ (u := .bool (r_19.2 == 0)) hb hf
    exact zD θ he hi hf 14 rfl rfl rfl hc
  ·intro E θ a w hD hi hp he hc
   have e2 := hp.o 2 rfl
   have e4 := hp.o 4 rfl
   rcases boolEq (r_18.2.2 == 0) with hb | hb
   ·have hf := he.h0.mP he 12 rfl e2
    replace hf := castB hb hf
    replace hf := hf.more he 14 rfl (onP e4)
    replace hf := castCT hb hf
    refine sp 1 hf rfl fun a hf => ?_
    replace hf := castV (v' := .bool ((r_18.2.2 == 0) && (r_19.2 == 0))) (congrArg Value.bool (andT hb)) hf
    exact zD θ he hi hf 15 rfl rfl rfl hc
   ·have hf := he.h0.mP he 12 rfl e2
    replace hf := castB hb hf
    replace hf := hf.more he 14 rfl (onP e4)
    replace hf := castCF hb hf
    refine sp 1 hf rfl fun a hf => ?_
    replace hf := castV (v' := .bool ((r_18.2.2 == 0) && (r_19.2 == 0))) (congrArg Value.bool (andF hb)) hf
    exact zD θ he hi hf 15 rfl rfl rfl hc
  ·intro E θ a w hD hi hp he hc
   have e5 := hp.o 5 rfl
   have hf := he.h0.mP he 15 rfl e5
   refine sp 1 hf rfl fun a hf => zD θ he hi hf 16 rfl rfl rfl hc
  ·intro E θ a w hD hi hp he hc
   have e6 := hp.o 6 rfl
   rcases boolEq ((r_18.2.2 == 0) && (r_19.2 == 0)) with hb | hb
   ·have hf := (he.h0.mT he 2 rfl).mP he 16 rfl e6
    replace hf := castB hb hf
    refine sp 1 hf rfl fun a hf => ?_
    replace hf := castI (u := undef) hb hf
    exact zD θ he hi hf 17 rfl rfl rfl hc
   ·have hf := (he.h0.mT he 2 rfl).mP he 16 rfl e6
    replace hf := castB hb hf
    refine stS hf rfl rfl rfl fun a hf => ?_
    replace hf := castJ (u := i6 r_21.2.2) hb hf
    exact zD θ he hi hf 17 rfl rfl rfl hc
  ·intro E θ a w hD hi hp he hc
   have e6 := hp.o 6 rfl
   have e7 := hp.o 7 rfl
   rcases boolEq ((r_18.2.2 == 0) && (r_19.2 == 0)) with hb | hb
   ·have hf := he.h0.mP he 16 rfl e6
    replace hf := castB hb hf
    replace hf := hf.more he 17 rfl (onP e7)
    replace hf := castCT hb hf
    refine sp 1 hf rfl fun a hf => ?_
    replace hf := castI (u := undef) hb hf
    exact zD θ he hi hf 18 rfl rfl rfl hc
   ·have hf := he.h0.mP he 16 rfl e6
    replace hf := castB hb hf
    replace hf := hf.more he 17 rfl (onP e7)
    replace hf := castCF hb hf
    refine stS hf rfl rfl rfl fun a hf => ?_
    replace hf := castJ (u := .bool (r_21.2.2 == 0)) hb hf
    exact zD θ he hi hf 18 rfl rfl rfl hc
  ·intro E θ a w hD hi hp he hc
   have e6 := hp.o 6 rfl
   have e8 := hp.o 8 rfl
   rcases boolEq ((r_18.2.2 == 0) && (r_19.2 == 0)) with hb | hb
   ·have hf := he.h0.mP he 16 rfl e6
    replace hf := castB hb hf
    replace hf := hf.more he 18 rfl (onP e8)
    replace hf := castCT hb hf
    refine sp 1 hf rfl fun a hf => ?_
    replace hf := castV (v' := .bool (((r_18.2.2 == 0) && (r_19.2 == 0)) && (r_21.2.2 == 0))) (congrArg Value.bool (andT hb)) hf
    exact zD θ he hi hf 19 rfl rfl rfl hc
   ·have hf := he.h0.mP he 16 rfl e6
    replace hf := castB hb hf
    replace hf := hf.more he 18 rfl (onP e8)
    replace hf := castCF hb hf
    refine sp 1 hf rfl fun a hf => ?_
    replace hf := castV (v' := .bool (((r_18.2.2 == 0) && (r_19.2 == 0)) && (r_21.2.2 == 0))) (congrArg Value.bool (andF hb)) hf
    exact zD θ he hi hf 19 rfl rfl rfl hc
  ·intro E θ a w hD hi hp he hc
   have e9 := hp.o 9 rfl
   have hf := he.h0.mP he 19 rfl e9
   refine sp 1 hf rfl fun a hf => zD θ he hi hf 20 rfl rfl rfl hc
  ·intro E θ a w hD hi hp he hc
   have e10 := hp.o 10 rfl
   rcases boolEq (((r_18.2.2 == 0) && (r_19.2 == 0)) && (r_21.2.2 == 0)) with hb | hb
   ·have hf := (he.h0.mT he 3 rfl).mP he 20 rfl e10
    replace hf := castB hb hf
    refine sp 1 hf rfl fun a hf => ?_
    replace hf := castI (u := undef) hb hf
    exact zD θ he hi hf 21 rfl rfl rfl hc
   ·have hf := (he.h0.mT he 3 rfl).mP he 20 rfl e10
    replace hf := castB hb hf
    refine stS hf rfl rfl rfl fun a hf => ?_
    replace hf := castJ (u := i6 r_23.2) hb hf
    exact zD θ he hi hf 21 rfl rfl rfl hc
  ·intro E θ a w hD hi hp he hc
   have e10 := hp.o 10 rfl
   have e11 := hp.o 11 rfl
   rcases boolEq (((r_18.2.2 == 0) && (r_19.2 == 0)) && (r_21.2.2 == 0)) with hb | hb
   ·have hf := he.h0.mP he 20 rfl e10
    replace hf := castB hb hf
    replace hf := hf.more he 21 rfl (onP e11)
    replace hf := castCT hb hf
    refine sp 1 hf rfl fun a hf => ?_
    replace hf := castI (u := undef) hb hf
    exact zD θ he hi hf 22 rfl rfl rfl hc
   ·have hf := he.h0.mP he 20 rfl e10
    replace hf := castB hb hf
    replace hf := hf.more he 21 rfl (onP e11)
    replace hf := castCF hb hf
    refine stS hf rfl rfl rfl fun a hf => ?_
    replace hf := castJ (u := .bool (r_23.2 == 0)) hb hf
    exact zD θ he hi hf 22 rfl rfl rfl hc
  ·intro E θ a w hD hi hp he hc
   have e10 := hp.o 10 rfl
   have e12 := hp.o 12 rfl
   rcases boolEq (((r_18.2.2 == 0) && (r_19.2 == 0)) && (r_21.2.2 == 0)) with hb | hb
   ·have hf := he.h0.mP he 20 rfl e10
    replace hf := castB hb hf
    replace hf := hf.more he 22 rfl (onP e12)
    replace hf := castCT hb hf
    refine sp 1 hf rfl fun a hf => ?_
    replace hf := castV (v' := .bool ((((r_18.2.2 == 0) && (r_19.2 == 0)) && (r_21.2.2 == 0)) && (r_23.2 == 0))) (congrArg Value.bool (andT hb)) hf
    exact zD θ he hi hf 23 rfl rfl rfl hc
   ·have hf := he.h0.mP he 20 rfl e10
    replace hf := castB hb hf
    replace hf := hf.more he 22 rfl (onP e12)
    replace hf := castCF hb hf
    refine sp 1 hf rfl fun a hf => ?_
    replace hf := castV (v' := .bool ((((r_18.2.2 == 0) && (r_19.2 == 0)) && (r_21.2.2 == 0)) && (r_23.2 == 0))) (congrArg Value.bool (andF hb)) hf
    exact zD θ he hi hf 23 rfl rfl rfl hc
  ·intro E θ a w hD hi hp he hc
   have e13 := hp.o 13 rfl
   have hf := he.h0.mP he 23 rfl e13
   refine sp 1 hf rfl fun a hf => zD θ he hi hf 24 rfl rfl rfl hc
  ·intro E θ a w hD hi hp he hc
   have e14 := hp.o 14 rfl
   rcases boolEq ((((r_18.2.2 == 0) && (r_19.2 == 0)) && (r_21.2.2 == 0)) && (r_23.2 == 0)) with hb | hb
   ·have hf := (he.h0.mT he 4 rfl).mP he 24 rfl e14
    replace hf := castB hb hf
    refine sp 1 hf rfl fun a hf => ?_
    replace hf := castI (u := undef) hb hf
    exact zD θ he hi hf 25 rfl rfl rfl hc
   ·have hf := (he.h0.mT he 4 rfl).mP he 24 rfl e14
    replace hf := castB hb hf
    refine stS hf rfl rfl rfl fun a hf => ?_
    replace hf := castJ (u := i6 r_18.1) hb hf
    exact zD θ he hi hf 25 rfl rfl rfl hc
  ·intro E θ a w hD hi hp he hc
   have e14 := hp.o 14 rfl
   have e15 := hp.o 15 rfl
   rcases boolEq ((((r_18.2.2 == 0) && (r_19.2 == 0)) && (r_21.2.2 == 0)) && (r_23.2 == 0)) with hb | hb
   ·have hf := he.h0.mP he 24 rfl e14
    replace hf := castB hb hf
    replace hf := hf.more he 25 rfl (onP e15)
    replace hf := castCT hb hf
    refine sp 1 hf rfl fun a hf => ?_
    replace hf := castI (u := undef) hb hf
    exact zD θ he hi hf 26 rfl rfl rfl hc
   ·have hf := he.h0.mP he 24 rfl e14
    replace hf := castB hb hf
    replace hf := hf.more he 25 rfl (onP e15)
    replace hf := castCF hb hf
    refine stS hf rfl rfl rfl fun a hf => ?_
    replace hf := castJ (u := .bool (r_18.1 == 0)) hb hf
    exact zD θ he hi hf 26 rfl rfl rfl hc
  ·intro E θ a w hD hi hp he hc
   have e14 := hp.o 14 rfl
   have e16 := hp.o 16 rfl
   rcases boolEq ((((r_18.2.2 == 0) && (r_19.2 == 0)) && (r_21.2.2 == 0)) && (r_23.2 == 0)) with hb | hb
   ·have hf := he.h0.mP he 24 rfl e14
    replace hf := castB hb hf
    replace hf := hf.more he 26 rfl (onP e16)
    replace hf := castCT hb hf
    refine sp 1 hf rfl fun a hf => ?_
    replace hf := castV (v' := .bool (((((r_18.2.2 == 0) && (r_19.2 == 0)) && (r_21.2.2 == 0)) && (r_23.2 == 0)) && (r_18.1 == 0))) (congrArg Value.bool (andT hb)) hf
    exact zD θ he hi hf 27 rfl rfl rfl hc
   ·have hf := he.h0.mP he 24 rfl e14
    replace hf := castB hb hf
    replace hf := hf.more he 26 rfl (onP e16)
    replace hf := castCF hb hf
    refine sp 1 hf rfl fun a hf => ?_
    replace hf := castV (v' := .bool (((((r_18.2.2 == 0) && (r_19.2 == 0)) && (r_21.2.2 == 0)) && (r_23.2 == 0)) && (r_18.1 == 0))) (congrArg Value.bool (andF hb)) hf
    exact zD θ he hi hf 27 rfl rfl rfl hc
  ·intro E θ a w hD hi hp he hc
   have e17 := hp.o 17 rfl
   have hf := he.h0.mP he 27 rfl e17
   refine sp 1 hf rfl fun a hf => zD θ he hi hf 28 rfl rfl rfl hc
  ·intro E θ a w hD hi hp he hc
   have e18 := hp.o 18 rfl
   rcases boolEq (((((r_18.2.2 == 0) && (r_19.2 == 0)) && (r_21.2.2 == 0)) && (r_23.2 == 0)) && (r_18.1 == 0)) with hb | hb
   ·have hf := (he.h0.mT he 5 rfl).mP he 28 rfl e18
    replace hf := castB hb hf
    refine sp 1 hf rfl fun a hf => ?_
    replace hf := castI (u := undef) hb hf
    exact zD θ he hi hf 29 rfl rfl rfl hc
   ·have hf := (he.h0.mT he 5 rfl).mP he 28 rfl e18
    replace hf := castB hb hf
    refine stS hf rfl rfl rfl fun a hf => ?_
    replace hf := castJ (u := i6 r_18.2.1) hb hf
    exact zD θ he hi hf 29 rfl rfl rfl hc
  ·intro E θ a w hD hi hp he hc
   have e18 := hp.o 18 rfl
   have e19 := hp.o 19 rfl
   rcases boolEq (((((r_18.2.2 == 0) && (r_19.2 == 0)) && (r_21.2.2 == 0)) && (r_23.2 == 0)) && (r_18.1 == 0)) with hb | hb
   ·have hf := he.h0.mP he 28 rfl e18
    replace hf := castB hb hf
    replace hf := hf.more he 29 rfl (onP e19)
    replace hf := castCT hb hf
    refine sp 1 hf rfl fun a hf => ?_
    replace hf := castI (u := undef) hb hf
    exact zD θ he hi hf 30 rfl rfl rfl hc
   ·have hf := he.h0.mP he 28 rfl e18
    replace hf := castB hb hf
    replace hf := hf.more he 29 rfl (onP e19)
    replace hf := castCF hb hf
    refine stS hf rfl rfl rfl fun a hf => ?_
    replace hf := castJ (u := .bool (r_18.2.1 == 2)) hb hf
    exact zD θ he hi hf 30 rfl rfl rfl hc
  ·intro E θ a w hD hi hp he hc
   have e18 := hp.o 18 rfl
   have e20 := hp.o 20 rfl
   rcases boolEq (((((r_18.2.2 == 0) && (r_19.2 == 0)) && (r_21.2.2 == 0)) && (r_23.2 == 0)) && (r_18.1 == 0)) with hb | hb
   ·have hf := he.h0.mP he 28 rfl e18
    replace hf := castB hb hf
    replace hf := hf.more he 30 rfl (onP e20)
    replace hf := castCT hb hf
    refine sp 1 hf rfl fun a hf => ?_
    replace hf := castV (v' := .bool ((((((r_18.2.2 == 0) && (r_19.2 == 0)) && (r_21.2.2 == 0)) && (r_23.2 == 0)) && (r_18.1 == 0)) && (r_18.2.1 == 2))) (congrArg Value.bool (andT hb)) hf
    exact zD θ he hi hf 31 rfl rfl rfl hc
   ·have hf := he.h0.mP he 28 rfl e18
    replace hf := castB hb hf
    replace hf := hf.more he 30 rfl (onP e20)
    replace hf := castCF hb hf
    refine sp 1 hf rfl fun a hf => ?_
    replace hf := castV (v' := .bool ((((((r_18.2.2 == 0) && (r_19.2 == 0)) && (r_21.2.2 == 0)) && (r_23.2 == 0)) && (r_18.1 == 0)) && (r_18.2.1 == 2))) (congrArg Value.bool (andF hb)) hf
    exact zD θ he hi hf 31 rfl rfl rfl hc
  ·intro E θ a w hD hi hp he hc
   have e21 := hp.o 21 rfl
   have hf := he.h0.mP he 31 rfl e21
   refine sp 1 hf rfl fun a hf => zD θ he hi hf 32 rfl rfl rfl hc
  ·intro E θ a w hD hi hp he hc
   have e22 := hp.o 22 rfl
   rcases boolEq ((((((r_18.2.2 == 0) && (r_19.2 == 0)) && (r_21.2.2 == 0)) && (r_23.2 == 0)) && (r_18.1 == 0)) && (r_18.2.1 == 2)) with hb | hb
   ·have hf := (he.h0.mT he 6 rfl).mP he 32 rfl e22
    replace hf := castB hb hf
    refine zN hf hc ag_24 m4 rfl fun a w hf hc => ?_
    replace hf := castI (u := undef) hb hf
    exact zD θ he hi hf 33 rfl rfl rfl hc
   ·have hf := (he.h0.mT he 6 rfl).mP he 32 rfl e22
    replace hf := castB hb hf
    refine stS hf rfl rfl rfl fun a hf => ?_
    replace hf := castJ (u := .agg #[i6 r_19.1.Lo,i6 r_19.1.Hi]) hb hf
    exact zD θ he hi hf 33 rfl rfl rfl hc
  ·intro E θ a w hD hi hp he hc
   have e22 := hp.o 22 rfl
   rcases boolEq ((((((r_18.2.2 == 0) && (r_19.2 == 0)) && (r_21.2.2 == 0)) && (r_23.2 == 0)) && (r_18.1 == 0)) && (r_18.2.1 == 2)) with hb | hb
   ·have hf := he.h0.mP he 32 rfl e22
    replace hf := castB hb hf
    refine zQ (v := .agg #[i6 r_24.Lo,i6 r_24.Hi]) hf hc en_14 rfl (fun w hc => law03_span_ok 7 9 hc (condT hb hr_24)) fun a w hf hc => ?_
    replace hf := castI (u := undef) hb hf
    exact zD θ he hi hf 34 rfl rfl rfl hc
   ·have hf := he.h0.mP he 32 rfl e22
    replace hf := castB hb hf
    refine stS hf rfl rfl rfl fun a hf => ?_
    replace hf := castJ (u := .agg #[i6 r_24.Lo,i6 r_24.Hi]) hb hf
    exact zD θ he hi hf 34 rfl rfl rfl hc
  ·intro E θ a w hD hi hp he hc
   have e22 := hp.o 22 rfl
   have e23 := hp.o 23 rfl
   have e24 := hp.o 24 rfl
   rcases boolEq ((((((r_18.2.2 == 0) && (r_19.2 == 0)) && (r_21.2.2 == 0)) && (r_23.2 == 0)) && (r_18.1 == 0)) && (r_18.2.1 == 2)) with hb | hb
   ·have hf := he.h0.mP he 32 rfl e22
    replace hf := castB hb hf
    replace hf := hf.more he 33 rfl (onP e23)
    replace hf := castCT hb hf
    replace hf := hf.more he 34 rfl (onP e24)
    replace hf := castCT hb hf
    refine zP hf rfl (pEqA ge_24 rfl rfl (eqs_24 _ _ _ _)) fun a hf => ?_
    replace hf := castI (u := undef) hb hf
    exact zD θ he hi hf 35 rfl rfl rfl hc
   ·have hf := he.h0.mP he 32 rfl e22
    replace hf := castB hb hf
    replace hf := hf.more he 33 rfl (onP e23)
    replace hf := castCF hb hf
    replace hf := hf.more he 34 rfl (onP e24)
    replace hf := castCF hb hf
    refine stS hf rfl rfl rfl fun a hf => ?_
    replace hf := castJ (u := .bool (r_19.1.Lo == r_24.Lo && r_19.1.Hi == r_24.Hi)) hb hf
    exact zD θ he hi hf 35 rfl rfl rfl hc
  ·intro E θ a w hD hi hp he hc
   have e22 := hp.o 22 rfl
   have e25 := hp.o 25 rfl
   rcases boolEq ((((((r_18.2.2 == 0) && (r_19.2 == 0)) && (r_21.2.2 == 0)) && (r_23.2 == 0)) && (r_18.1 == 0)) && (r_18.2.1 == 2)) with hb | hb
   ·have hf := he.h0.mP he 32 rfl e22
    replace hf := castB hb hf
    replace hf := hf.more he 35 rfl (onP e25)
    replace hf := castCT hb hf
    refine sp 1 hf rfl fun a hf => ?_
    replace hf := castV (v' := .bool (((((((r_18.2.2 == 0) && (r_19.2 == 0)) && (r_21.2.2 == 0)) && (r_23.2 == 0)) && (r_18.1 == 0)) && (r_18.2.1 == 2)) && (r_19.1.Lo == r_24.Lo && r_19.1.Hi == r_24.Hi))) (congrArg Value.bool (andT hb)) hf
    exact zD θ he hi hf 36 rfl rfl rfl hc
   ·have hf := he.h0.mP he 32 rfl e22
    replace hf := castB hb hf
    replace hf := hf.more he 35 rfl (onP e25)
    replace hf := castCF hb hf
    refine sp 1 hf rfl fun a hf => ?_
    replace hf := castV (v' := .bool (((((((r_18.2.2 == 0) && (r_19.2 == 0)) && (r_21.2.2 == 0)) && (r_23.2 == 0)) && (r_18.1 == 0)) && (r_18.2.1 == 2)) && (r_19.1.Lo == r_24.Lo && r_19.1.Hi == r_24.Hi))) (congrArg Value.bool (andF hb)) hf
    exact zD θ he hi hf 36 rfl rfl rfl hc
  ·intro E θ a w hD hi hp he hc
   have e26 := hp.o 26 rfl
   have hf := he.h0.mP he 36 rfl e26
   refine sp 1 hf rfl fun a hf => zD θ he hi hf 37 rfl rfl rfl hc
  ·intro E θ a w hD hi hp he hc
   have e27 := hp.o 27 rfl
   rcases boolEq (((((((r_18.2.2 == 0) && (r_19.2 == 0)) && (r_21.2.2 == 0)) && (r_23.2 == 0)) && (r_18.1 == 0)) && (r_18.2.1 == 2)) && (r_19.1.Lo == r_24.Lo && r_19.1.Hi == r_24.Hi)) with hb | hb
   ·have hf := (he.h0.mT he 7 rfl).mP he 37 rfl e27
    replace hf := castB hb hf
    refine sp 1 hf rfl fun a hf => ?_
    replace hf := castI (u := undef) hb hf
    exact zD θ he hi hf 38 rfl rfl rfl hc
   ·have hf := (he.h0.mT he 7 rfl).mP he 37 rfl e27
    replace hf := castB hb hf
    refine stS hf rfl rfl rfl fun a hf => ?_
    replace hf := castJ (u := .slice p_6 r_21.1.length c_6) hb hf
    exact zD θ he hi hf 38 rfl rfl rfl hc
  ·intro E θ a w hD hi hp he hc
   have e27 := hp.o 27 rfl
   try dsimp only at hc
   rw [hi] at hc
   rcases boolEq (((((((r_18.2.2 == 0) && (r_19.2 == 0)) && (r_21.2.2 == 0)) && (r_23.2 == 0)) && (r_18.1 == 0)) && (r_18.2.1 == 2)) && (r_19.1.Lo == r_24.Lo && r_19.1.Hi == r_24.Hi)) with hb | hb
   ·have hf := he.h0.mP he 37 rfl e27
    replace hf := castB hb hf
    refine stBS (rows := ([1,3] : List Int).map encI_i64) (vs := [(0,i6 1),(1,i6 3)]) hf hc rfl rfl sl_43 rfl ⟨rfl,rfl,rfl,rfl,rfl,rfl,trivial⟩ rfl rfl fun b_10 a w hf hc => ?_
    replace hf := castI (u := undef) hb hf
    refine cNil ?_
    refine xThenN ?_
    intro ds u hau
    replace hc := hc.drop k1
    refine ⟨(setT θ 232 ⟨b_10,none,0,(fun _ => (none,0))⟩),he.put hi hau hf rfl [] trivial ⟨qq,qq,qq,qq,qq,qq,qq,qq,qq,qq,qq,qq,qq,qq,qq,qq,qq,qq,qq,qq,qq,qq,qq,qq,qq,qq,qq,qq,qq,qq,qq,qq,qq,qq,qq,qq,qq,qq,qq,qq,qq,qq,qq,qq,qq,qq,qq,qq,qq,qq,trivial⟩,?_⟩
    try dsimp only
    rw [updE_self E 29]
    rw [gE_T hb]
    exact hc
   ·have hf := he.h0.mP he 37 rfl e27
    replace hf := castB hb hf
    refine stS hf rfl rfl rfl fun a hf => ?_
    replace hf := castJ (u := .slice (some ⟨(θ 232).b,0,none⟩) 2 2) hb hf
    refine zD θ he hi hf 39 rfl rfl rfl ?_
    try dsimp only
    rw [updE_self E 29]
    rw [gE_F hb]
    exact hc
  ·intro E θ a w hD hi hp he hc
   have e27 := hp.o 27 rfl
   have e28 := hp.o 28 rfl
   have e29 := hp.o 29 rfl
   try dsimp only at hc
   rw [e29] at hc
   rcases boolEq (((((((r_18.2.2 == 0) && (r_19.2 == 0)) && (r_21.2.2 == 0)) && (r_23.2 == 0)) && (r_18.1 == 0)) && (r_18.2.1 == 2)) && (r_19.1.Lo == r_24.Lo && r_19.1.Hi == r_24.Hi)) with hb | hb
   ·have hf := he.h0.mP he 37 rfl e27
    replace hf := castB hb hf
    replace hf := hf.more he 38 rfl (onP e28)
    replace hf := castCT hb hf
    replace hf := hf.more he 39 rfl (onP e29)
    replace hf := castCT hb hf
    rw [gE_T hb] at hc
    refine zQ (v := .bool r_25) hf hc en_41 rfl (fun w hc => by obtain ⟨G1,hle1,hrd1,hc,hth1⟩ := lend hc k3; obtain ⟨G2,hle2,hrd2,hc,hth2⟩ := lend hc k0; exact (kit_Same_int_ok r_21.1 ([1,3] : List Int) (hrd1.mono hle2) hrd2 hc (condT hb hr_25)).mono fun e w h => ⟨h.1,((hth1 _ _ ((hth2 _ _ h.2).unpick k0)).unpick k3)⟩) fun a w hf hc => ?_
    replace hf := castI (u := undef) hb hf
    refine zD θ he hi hf 40 rfl rfl rfl ?_
    try dsimp only
    rw [updE_tru 30 e29]
    rw [gE_T hb]
    exact hc
   ·have hf := he.h0.mP he 37 rfl e27
    replace hf := castB hb hf
    replace hf := hf.more he 38 rfl (onP e28)
    replace hf := castCF hb hf
    replace hf := hf.more he 39 rfl (onP e29)
    replace hf := castCF hb hf
    rw [gE_F hb] at hc
    refine stS hf rfl rfl rfl fun a hf => ?_
    replace hf := castJ (u := .bool r_25) hb hf
    refine zD θ he hi hf 40 rfl rfl rfl ?_
    try dsimp only
    rw [updE_tru 30 e29]
    rw [gE_F hb]
    exact hc
  ·intro E θ a w hD hi hp he hc
   have e27 := hp.o 27 rfl
   have e30 := hp.o 30 rfl
   rcases boolEq (((((((r_18.2.2 == 0) && (r_19.2 == 0)) && (r_21.2.2 == 0)) && (r_23.2 == 0)) && (r_18.1 == 0)) && (r_18.2.1 == 2)) && (r_19.1.Lo == r_24.Lo && r_19.1.Hi == r_24.Hi)) with hb | hb
   ·have hf := he.h0.mP he 37 rfl e27
    replace hf := castB hb hf
    replace hf := hf.more he 40 rfl (onP e30)
    replace hf := castCT hb hf
    refine sp 1 hf rfl fun a hf => ?_
    replace hf := castV (v' := .bool ((((((((r_18.2.2 == 0) && (r_19.2 == 0)) && (r_21.2.2 == 0)) && (r_23.2 == 0)) && (r_18.1 == 0)) && (r_18.2.1 == 2)) && (r_19.1.Lo == r_24.Lo && r_19.1.Hi == r_24.Hi)) && r_25)) (congrArg Value.bool (andT hb)) hf
    exact zD θ he hi hf 41 rfl rfl rfl hc
   ·have hf := he.h0.mP he 37 rfl e27
    replace hf := castB hb hf
    replace hf := hf.more he 40 rfl (onP e30)
    replace hf := castCF hb hf
    refine sp 1 hf rfl fun a hf => ?_
    replace hf := castV (v' := .bool ((((((((r_18.2.2 == 0) && (r_19.2 == 0)) && (r_21.2.2 == 0)) && (r_23.2 == 0)) && (r_18.1 == 0)) && (r_18.2.1 == 2)) && (r_19.1.Lo == r_24.Lo && r_19.1.Hi == r_24.Hi)) && r_25)) (congrArg Value.bool (andF hb)) hf
    exact zD θ he hi hf 41 rfl rfl rfl hc
  ·intro E θ a w hD hi hp he hc
   have e31 := hp.o 31 rfl
   have hf := he.h0.mP he 41 rfl e31
   refine sp 1 hf rfl fun a hf => zD θ he hi hf 42 rfl rfl rfl hc
  ·intro E θ a w hD hi hp he hc
   have e32 := hp.o 32 rfl
   rcases boolEq ((((((((r_18.2.2 == 0) && (r_19.2 == 0)) && (r_21.2.2 == 0)) && (r_23.2 == 0)) && (r_18.1 == 0)) && (r_18.2.1 == 2)) && (r_19.1.Lo == r_24.Lo && r_19.1.Hi == r_24.Hi)) && r_25) with hb | hb
   ·have hf := (he.h0.mT he 8 rfl).mP he 42 rfl e32
    replace hf := castB hb hf
    refine sp 1 hf rfl fun a hf => ?_
    replace hf := castI (u := undef) hb hf
    exact zD θ he hi hf 43 rfl rfl rfl hc
   ·have hf := (he.h0.mT he 8 rfl).mP he 42 rfl e32
    replace hf := castB hb hf
    refine stS hf rfl rfl rfl fun a hf => ?_
    replace hf := castJ (u := i6 r_21.2.1) hb hf
    exact zD θ he hi hf 43 rfl rfl rfl hc
  ·intro E θ a w hD hi hp he hc
   have e32 := hp.o 32 rfl
   have e33 := hp.o 33 rfl
   rcases boolEq ((((((((r_18.2.2 == 0) && (r_19.2 == 0)) && (r_21.2.2 == 0)) && (r_23.2 == 0)) && (r_18.1 == 0)) && (r_18.2.1 == 2)) && (r_19.1.Lo == r_24.Lo && r_19.1.Hi == r_24.Hi)) && r_25) with hb | hb
   ·have hf := he.h0.mP he 42 rfl e32
    replace hf := castB hb hf
    replace hf := hf.more he 43 rfl (onP e33)
    replace hf := castCT hb hf
    refine sp 1 hf rfl fun a hf => ?_
    replace hf := castI (u := undef) hb hf
    exact zD θ he hi hf 44 rfl rfl rfl hc
   ·have hf := he.h0.mP he 42 rfl e32
    replace hf := castB hb hf
    replace hf := hf.more he 43 rfl (onP e33)
    replace hf := castCF hb hf
    refine stS hf rfl rfl rfl fun a hf => ?_
    replace hf := castJ (u := .bool (r_21.2.1 == 6)) hb hf
    exact zD θ he hi hf 44 rfl rfl rfl hc
  ·intro E θ a w hD hi hp he hc
   have e32 := hp.o 32 rfl
   have e34 := hp.o 34 rfl
   rcases boolEq ((((((((r_18.2.2 == 0) && (r_19.2 == 0)) && (r_21.2.2 == 0)) && (r_23.2 == 0)) && (r_18.1 == 0)) && (r_18.2.1 == 2)) && (r_19.1.Lo == r_24.Lo && r_19.1.Hi == r_24.Hi)) && r_25) with hb | hb
   ·have hf := he.h0.mP he 42 rfl e32
    replace hf := castB hb hf
    replace hf := hf.more he 44 rfl (onP e34)
    replace hf := castCT hb hf
    refine sp 1 hf rfl fun a hf => ?_
    replace hf := castV (v' := .bool (((((((((r_18.2.2 == 0) && (r_19.2 == 0)) && (r_21.2.2 == 0)) && (r_23.2 == 0)) && (r_18.1 == 0)) && (r_18.2.1 == 2)) && (r_19.1.Lo == r_24.Lo && r_19.1.Hi == r_24.Hi)) && r_25) && (r_21.2.1 == 6))) (congrArg Value.bool (andT hb)) hf
    exact zD θ he hi hf 45 rfl rfl rfl hc
   ·have hf := he.h0.mP he 42 rfl e32
    replace hf := castB hb hf
    replace hf := hf.more he 44 rfl (onP e34)
    replace hf := castCF hb hf
    refine sp 1 hf rfl fun a hf => ?_
    replace hf := castV (v' := .bool (((((((((r_18.2.2 == 0) && (r_19.2 == 0)) && (r_21.2.2 == 0)) && (r_23.2 == 0)) && (r_18.1 == 0)) && (r_18.2.1 == 2)) && (r_19.1.Lo == r_24.Lo && r_19.1.Hi == r_24.Hi)) && r_25) && (r_21.2.1 == 6))) (congrArg Value.bool (andF hb)) hf
    exact zD θ he hi hf 45 rfl rfl rfl hc
  ·intro E θ a w hD hi hp he hc
   have e35 := hp.o 35 rfl
   have hf := he.h0.mP he 45 rfl e35
   refine sp 1 hf rfl fun a hf => zD θ he hi hf 46 rfl rfl rfl hc
  ·intro E θ a w hD hi hp he hc
   have e36 := hp.o 36 rfl
   rcases boolEq (((((((((r_18.2.2 == 0) && (r_19.2 == 0)) && (r_21.2.2 == 0)) && (r_23.2 == 0)) && (r_18.1 == 0)) && (r_18.2.1 == 2)) && (r_19.1.Lo == r_24.Lo && r_19.1.Hi == r_24.Hi)) && r_25) && (r_21.2.1 == 6)) with hb | hb
   ·have hf := (he.h0.mT he 9 rfl).mP he 46 rfl e36
    replace hf := castB hb hf
    refine sp 1 hf rfl fun a hf => ?_
    replace hf := castI (u := undef) hb hf
    exact zD θ he hi hf 47 rfl rfl rfl hc
   ·have hf := (he.h0.mT he 9 rfl).mP he 46 rfl e36
    replace hf := castB hb hf
    refine stS hf rfl rfl rfl fun a hf => ?_
    replace hf := castJ (u := .bool r_23.1) hb hf
    exact zD θ he hi hf 47 rfl rfl rfl hc
  ·intro E θ a w hD hi hp he hc
   have e36 := hp.o 36 rfl
   have e37 := hp.o 37 rfl
   rcases boolEq (((((((((r_18.2.2 == 0) && (r_19.2 == 0)) && (r_21.2.2 == 0)) && (r_23.2 == 0)) && (r_18.1 == 0)) && (r_18.2.1 == 2)) && (r_19.1.Lo == r_24.Lo && r_19.1.Hi == r_24.Hi)) && r_25) && (r_21.2.1 == 6)) with hb | hb
   ·have hf := he.h0.mP he 46 rfl e36
    replace hf := castB hb hf
    replace hf := hf.more he 47 rfl (onP e37)
    replace hf := castCT hb hf
    refine sp 1 hf rfl fun a hf => ?_
    replace hf := castV (v' := .bool ((((((((((r_18.2.2 == 0) && (r_19.2 == 0)) && (r_21.2.2 == 0)) && (r_23.2 == 0)) && (r_18.1 == 0)) && (r_18.2.1 == 2)) && (r_19.1.Lo == r_24.Lo && r_19.1.Hi == r_24.Hi)) && r_25) && (r_21.2.1 == 6)) && r_23.1)) (congrArg Value.bool (andT hb)) hf
    exact zD θ he hi hf 48 rfl rfl rfl hc
   ·have hf := he.h0.mP he 46 rfl e36
    replace hf := castB hb hf
    replace hf := hf.more he 47 rfl (onP e37)
    replace hf := castCF hb hf
    refine sp 1 hf rfl fun a hf => ?_
    replace hf := castV (v' := .bool ((((((((((r_18.2.2 == 0) && (r_19.2 == 0)) && (r_21.2.2 == 0)) && (r_23.2 == 0)) && (r_18.1 == 0)) && (r_18.2.1 == 2)) && (r_19.1.Lo == r_24.Lo && r_19.1.Hi == r_24.Hi)) && r_25) && (r_21.2.1 == 6)) && r_23.1)) (congrArg Value.bool (andF hb)) hf
    exact zD θ he hi hf 48 rfl rfl rfl hc
  ·intro E θ a w hD hi hp he hc
   have e38 := hp.o 38 rfl
   have hf := he.h0.mP he 48 rfl e38
   refine sp 1 hf rfl fun a hf => zD θ he hi hf 49 rfl rfl rfl hc
  ·intro E θ a w hall he hc
   have hf := he.h0
   have e29 := hall 29 rfl
   have e39 := hall 39 rfl
   replace hf := hf.more he 49 rfl (onP e39)
   try dsimp only at hc
   rw [e29] at hc
   replace hc := hc.drop k0
   exact ⟨hf.kp rfl,hc⟩
  rintro a w ⟨hf,hc⟩
  refine h15 _ _ ?_
  refine wp_ret ?_
  obtain rfl := sj hF
  replace hc := (((hc.drop k3).drop k2).drop k1).drop k0
  exact zO1 Try.results15 hf rfl ⟨rfl,hc⟩

def kit_Copy_gauge_Point (N : Nat) (l : List gauge_Point) : Option ((List gauge_Point)) :=
 Option.bind (room (l).length) fun un =>
 some l
theorem kit_Copy_gauge_Point_ok {N : Nat} {G : Pers} {Lf : List Ent} {w : World} (l : List gauge_Point) {l_p : Option Addr} {l_c : Nat} (h_l : Rd G 3 l_p l_c (l.map enc_gauge_Point)) (hc : Ctx G (Lf) w) {res : (List gauge_Point)} (hF : kit_Copy_gauge_Point N l = some res) : Calls Try.prog 62 #[.slice l_p l.length l_c] w (fun e w => ∃ (p'1 : Option Addr) (c'1 : Nat),e = .returned (.slice p'1 res.length c'1) ∧ Ctx G (.row p'1 c'1 (res.map enc_gauge_Point) 64 3::Lf) w) := by
 unfold kit_Copy_gauge_Point at hF
 refine fnIn Try.func62 rfl Try.ntmps62 rfl fun a hf => zS fun K h => sp 1 hf rfl fun a hf => zT h ?_
 refine zS fun K h => sp 1 hf rfl fun a hf => zT h ?_
 refine zS fun K h => sp 2 hf rfl fun a hf => ?_
 replace hc := hc.nilRow 64 3
 obtain ⟨un,hun,hF⟩ := bnd_some hF
 refine stApm (xs := ([] : List gauge_Point)) (ys := l) hf hc rfl rfl sl_53 rfl rfl rfl rfl rfl one_enc_gauge_Point (src_rd hc h_l) (fun _ _ => u0) (by simpa using room_spec hun) fun p_1 c_1 a w hf hc => sp 1 hf rfl fun a hf => zT h ?_
 refine wp_ret ?_
 obtain rfl := sj hF
 exact zO1 Try.results62 hf rfl ⟨p_1,c_1,rfl,hc⟩

def law03_CopySite (N : Nat) (s_ : gauge_Site) : Option (gauge_Site) :=
 Option.bind (kit_Copy_gauge_Point N s_.Points) fun r =>
 some (⟨s_.Left,s_.Right,s_.Gap,s_.Step_,r⟩ : gauge_Site)
theorem law03_CopySite_ok {N : Nat} {G : Pers} {Lf : List Ent} {w : World} (s_ : gauge_Site) {s__Points_p : Option Addr} {s__Points_c : Nat} (h_s__Points : Rd G 3 s__Points_p s__Points_c (s_.Points.map enc_gauge_Point)) (hc : Ctx G (Lf) w) {res : gauge_Site} (hF : law03_CopySite N s_ = some res) : Calls Try.prog 24 #[.agg #[i6 s_.Left,i6 s_.Right,i6 s_.Gap,i6 s_.Step_,.slice s__Points_p s_.Points.length s__Points_c]] w (fun e w => ∃ (p'1 : Option Addr) (c'1 : Nat),e = .returned (.agg #[i6 res.Left,i6 res.Right,i6 res.Gap,i6 res.Step_,.slice p'1 res.Points.length c'1]) ∧ Ctx G (.row p'1 c'1 (res.Points.map enc_gauge_Point) 64 3::Lf) w) := by
 unfold law03_CopySite at hF
 refine fnIn Try.func24 rfl Try.ntmps24 rfl fun a hf => zS fun K h => zB hf hc rfl fun b_1 a w hf hc => zA hf hc zr_55 rfl fun b_2 a w hf hc => zT h ?_
 refine zS fun K h => zP hf rfl (pFA fa_55_4 rfl) fun a hf => zL hf hc sc_53 m1 rfl fun a w hf hc => ?_
 obtain ⟨r,hr,hF⟩ := bnd_some hF
 refine zC hf en_62 rfl (kit_Copy_gauge_Point_ok s_.Points h_s__Points hc hr) ?_
 rintro _ w ⟨p_1,c_1,rfl,hc⟩
 refine ⟨_,rfl,fun a hf => ?_⟩
 refine zP hf rfl (pFA fa_55_4 rfl) fun a hf => zW hf hc sz_53 u2 rfl fun w hc => zT h ?_
 refine zS fun K h => zN hf hc ag_55 m2 rfl fun a w hf hc => zW hf hc sz_55 u1 rfl fun w hc => zT h ?_
 refine wp_ret ?_
 obtain rfl := sj hF
 replace hc := hc.drop k2
 exact fnOut1 (by simp) rfl Try.results24 hf hc (rv_cellN (vs := [i6 s_.Left,i6 s_.Right,i6 s_.Gap,i6 s_.Step_,.slice p_1 r.length c_1]) ag_55 rfl rfl (cells_box (n := 5) m1 rfl)) ⟨p_1,c_1,rfl,(hc.drop k1)⟩

def kit_Copy_int (N : Nat) (l : List Int) : Option ((List Int)) :=
 Option.bind (room (l).length) fun un =>
 some l
theorem kit_Copy_int_ok {N : Nat} {G : Pers} {Lf : List Ent} {w : World} (l : List Int) {l_p : Option Addr} {l_c : Nat} (h_l : Rd G 1 l_p l_c (l.map encI_i64)) (hc : Ctx G (Lf) w) {res : (List Int)} (hF : kit_Copy_int N l = some res) : Calls Try.prog 34 #[.slice l_p l.length l_c] w (fun e w => ∃ (p'1 : Option Addr) (c'1 : Nat),e = .returned (.slice p'1 res.length c'1) ∧ Ctx G (.row p'1 c'1 (res.map encI_i64) 3 1::Lf) w) := by
 unfold kit_Copy_int at hF
 refine fnIn Try.func34 rfl Try.ntmps34 rfl fun a hf => zS fun K h => sp 1 hf rfl fun a hf => zT h ?_
 refine zS fun K h => sp 1 hf rfl fun a hf => zT h ?_
 refine zS fun K h => sp 2 hf rfl fun a hf => ?_
 replace hc := hc.nilRow 3 1
 obtain ⟨un,hun,hF⟩ := bnd_some hF
 refine stApm (xs := ([] : List Int)) (ys := l) hf hc rfl rfl sl_43 rfl rfl rfl rfl rfl one_encI_i64 (src_rd hc h_l) (fun _ _ => u0) (by simpa using room_spec hun) fun p_1 c_1 a w hf hc => sp 1 hf rfl fun a hf => zT h ?_
 refine wp_ret ?_
 obtain rfl := sj hF
 exact zO1 Try.results34 hf rfl ⟨p_1,c_1,rfl,hc⟩

def law03_Site_b5 (N : Nat) (s_ : gauge_Site) (x : Int) (x_1 : List ref03_Point) : Option (Step (Int × (List ref03_Point)) (ref03_Site)) :=
 cond (decide (x < ((s_.Points.length : Nat) : Int)))
 (Option.bind (getI s_.Points x) fun e_1 =>
 Option.bind (room ((x_1 ++ [(⟨e_1.At,e_1.Depth,e_1.Cost⟩ : ref03_Point)])).length) fun un =>
 some (.cont (W (x + 1),(x_1 ++ [(⟨e_1.At,e_1.Depth,e_1.Cost⟩ : ref03_Point)]))))
 (some (.brk (x,x_1)))
def law03_Site (N : Nat) (s_ : gauge_Site) : Option (ref03_Site) :=
 Option.bind (loopO (fun s5 => law03_Site_b5 N s_ s5.1 s5.2) N (0,([] : List ref03_Point))) fun x5 =>
 exK x5 (fun s5 => some (⟨s_.Left,s_.Right,s_.Gap,s_.Step_,s5.2⟩ : ref03_Site)) some
theorem law03_Site_ok {N : Nat} {G : Pers} {Lf : List Ent} {w : World} (s_ : gauge_Site) {s__Points_p : Option Addr} {s__Points_c : Nat} (h_s__Points : Rd G 3 s__Points_p s__Points_c (s_.Points.map enc_gauge_Point)) (hc : Ctx G (Lf) w) {res : ref03_Site} (hF : law03_Site N s_ = some res) : Calls Try.prog 37 #[.agg #[i6 s_.Left,i6 s_.Right,i6 s_.Gap,i6 s_.Step_,.slice s__Points_p s_.Points.length s__Points_c]] w (fun e w => ∃ (p'1 : Option Addr) (c'1 : Nat),e = .returned (.agg #[i6 res.Left,i6 res.Right,i6 res.Gap,i6 res.Step_,.slice p'1 res.Points.length c'1]) ∧ Ctx G (.row p'1 c'1 (res.Points.map enc_ref03_Point) 143 3::Lf) w) := by
 unfold law03_Site at hF
 refine fnIn Try.func37 rfl Try.ntmps37 rfl fun a hf => zS fun K h => zB hf hc rfl fun b_1 a w hf hc => zA hf hc zr_85 rfl fun b_2 a w hf hc => zT h ?_
 refine zS fun K h => zP hf rfl (pFA fa_55_0 rfl) fun a hf => zL hf hc sc_3 m1 rfl fun a w hf hc => zP hf rfl (pFA fa_55_1 rfl) fun a hf => zL hf hc sc_3 m1 rfl fun a w hf hc => zP hf rfl (pFA fa_55_2 rfl) fun a hf => zL hf hc sc_3 m1 rfl fun a w hf hc => zP hf rfl (pFA fa_55_3 rfl) fun a hf => zL hf hc sc_3 m1 rfl fun a w hf hc => zP hf rfl (pBuildS (cells := [i6 s_.Left,i6 s_.Right,i6 s_.Gap,i6 s_.Step_,.slice none 0 0]) bt_85 rfl rfl) fun a hf => zA hf hc zr_85 rfl fun b_3 a w hf hc => zW hf hc sz_85 u0 rfl fun w hc => zT h ?_
 refine wp_seq_k fun K3 h3 => zS fun K h => zP hf rfl (pFA fa_55_4 rfl) fun a hf => zL hf hc sc_53 m2 rfl fun a w hf hc => zP hf rfl (pLenS Try.underlying53 rfl) fun a hf => sp 1 hf rfl fun a hf => zT h ?_
 refine wp_block ?_
 obtain ⟨x5,hx5,hF⟩ := bnd_some hF
 let S5 : (Int × (List ref03_Point)) → Act → World → Prop := (fun (zz : Int × (List ref03_Point)) a w => ∃ (p_1 : Option Addr) (c_1 : Nat),Has 30 a [(2,pq b_2),(3,pq b_3),(16,.slice s__Points_p s_.Points.length s__Points_c),(17,i6 ((s_.Points.length : Nat) : Int)),(18,i6 zz.1)] ∧ Ctx G (.row p_1 c_1 (zz.2.map enc_ref03_Point) 143 3::.box b_3 [i6 s_.Left,i6 s_.Right,i6 s_.Gap,i6 s_.Step_,.slice p_1 zz.2.length c_1] 85::.box b_2 [i6 0,i6 0,i6 0,i6 0,.slice none 0 0] 85::Lf) w)
 have hr5 : ∀ (zz : Int × (List ref03_Point)) a w,x5 = .go zz → S5 zz a w → K3 a w := by
  rintro ⟨x,x_1⟩ a w rfl ⟨p_1,c_1,hf,hc⟩
  replace hF := exK_go hF
  refine h3 _ _ ?_
  refine zS fun K h => zN hf hc ag_85 m1 rfl fun a w hf hc => zW hf hc sz_85 u2 rfl fun w hc => zT h ?_
  refine wp_ret ?_
  obtain rfl := sj hF
  replace hc := hc.drop k1
  exact fnOut1 (by simp) rfl Try.results37 hf hc (rv_cellN (vs := [i6 s_.Left,i6 s_.Right,i6 s_.Gap,i6 s_.Step_,.slice p_1 x_1.length c_1]) ag_85 rfl rfl (cells_box (n := 5) m1 rfl)) ⟨p_1,c_1,rfl,(hc.drop k1)⟩
 have ho5 : ∀ r,x5 = .out r → r = res := by
  rintro r rfl
  exact sj hF
 replace hc := hc.nilRow 143 3
 replace hc := hc.drop k3
 refine cLoop N (loopW (S := S5) (x := x5) ?_ N (0,([] : List ref03_Point)) _ _ ⟨none,0,hf.kp rfl,hc⟩ hx5)
 clear hF hf hc
 rintro ⟨x,x_1⟩ st5 a w KB5 ⟨p_1,c_1,hf,hc⟩ hF hfin5 hK5
 unfold law03_Site_b5 at hF
 refine zS fun K h => sp 1 hf rfl fun a hf => zT h ?_
 refine wp_seq_k fun K8 h8 => zI hf rfl hF ?_ ?_ <;> clear hF <;> intro hF
 ·refine wp_skip ?_
  refine h8 _ _ ?_
  refine wp_seq_k fun K9 h9 => wp_block ?_
  refine zS fun K h => ?_
  obtain ⟨e_1,he_1,hF⟩ := bnd_some hF
  obtain ⟨b_4,o,qa,qp⟩ := h_s__Points.atm he_1
  refine zP hf rfl (pIA Try.underlying53 sz_64 rfl rfl qa) fun a hf => zE hf hc rfl (eLdN (vs := [i6 e_1.At,i6 e_1.Depth,i6 e_1.Cost]) ag_64 rfl rfl (cells_pc qp (n := 3) (o' := 0) rfl)) fun a w hf hc => zA hf hc zr_64 rfl fun b_5 a w hf hc => zW hf hc sz_64 u0 rfl fun w hc => zT h ?_
  refine cReg ?_
  refine zP hf rfl (pFA fa_85_4 rfl) fun a hf => zL hf hc sc_83 m2 rfl fun a w hf hc => zN hf hc ag_64 m0 rfl fun a w hf hc => stBS (rows := ([(⟨e_1.At,e_1.Depth,e_1.Cost⟩ : ref03_Point)] : List ref03_Point).map enc_ref03_Point) (vs := [(0,.agg #[i6 e_1.At,i6 e_1.Depth,i6 e_1.Cost])]) hf hc rfl rfl sl_83 rfl ⟨rfl,rfl,rfl,trivial⟩ rfl rfl fun b_6 a w hf hc => ?_
  obtain ⟨un,hun,hF⟩ := bnd_some hF
  refine stApm (xs := x_1) (ys := ([(⟨e_1.At,e_1.Depth,e_1.Cost⟩ : ref03_Point)] : List ref03_Point)) hf hc rfl rfl sl_83 rfl rfl rfl rfl rfl one_enc_ref03_Point (src_row hc m0) (fun _ _ => u2) (by simpa using room_spec hun) fun p_2 c_2 a w hf hc => zP hf rfl (pFA fa_85_4 rfl) fun a hf => zW hf hc sz_83 u3 rfl fun w hc => cNil ?_
  refine h9 _ _ ?_
  refine cReg ?_
  refine sp 2 hf rfl fun a hf => cNil ?_
  replace hc := (hc.drop k1).drop k0
  exact hK5 (W (x + 1),(x_1 ++ [(⟨e_1.At,e_1.Depth,e_1.Cost⟩ : ref03_Point)])) _ _ (sj hF).symm ⟨p_2,c_2,hf.kp rfl,hc⟩
 ·refine wp_exit ?_
  refine xThen ?_
  refine xThen ?_
  have he := sj hF
  rw [← he] at hfin5
  refine cHit ?_
  exact hr5 _ _ _ hfin5 ⟨p_1,c_1,hf.kp rfl,hc⟩

def ref03_outside (n : Int) (a_ : Int) (b_ : Int) : Bool :=
 ((decide (n < a_)) || (decide (b_ < n)))
theorem ref03_outside_ok {G : Pers} {Lf : List Ent} {w : World} (n : Int) (a_ : Int) (b_ : Int)   (hc : Ctx G (Lf) w) {res : Bool} (hF : ref03_outside n a_ b_ = res) : Calls Try.prog 78 #[i6 n,i6 a_,i6 b_] w (fun e w => e = .returned (.bool res) ∧ Ctx G (Lf) w) := by
 unfold ref03_outside at hF
 refine fnIn Try.func78 rfl Try.ntmps78 rfl fun a hf => zS fun K h => sp 1 hf rfl fun a hf => zT h ?_
 refine zS fun K h => sp 4 hf rfl fun a hf => stCc 4 (fun a => Has 15 a [(0,i6 n),(1,i6 a_),(2,i6 b_),(6,.bool false),(7,i6 n),(8,i6 a_),(9,.bool (decide (n < a_))),(10,.bool (decide (n < a_))),(14,.bool ((decide (n < a_)) || (decide (b_ < n))))]) hc ?_ ?_
 ·cases hb : (decide (n < a_))
  ·rw [hb] at hf
   refine sp 4 hf rfl fun a hf => cNil ⟨hf.kp rfl,hc⟩
  ·rw [hb] at hf
   refine stS hf rfl rfl rfl fun a hf => stS hf rfl rfl rfl fun a hf => stS hf rfl rfl rfl fun a hf => sp 1 hf rfl fun a hf => cNil ⟨hf.kp rfl,hc⟩
 intro a w ⟨hf,hc⟩
 refine sp 1 hf rfl fun a hf => zT h ?_
 refine wp_ret ?_
 obtain rfl := hF
 exact zO1 Try.results78 hf rfl ⟨rfl,hc⟩

def ref03_CheckSite_b14 (N : Nat) (s_ : ref03_Site) (i_2 : Int) : Option (Step (Int) (Int)) :=
 cond (decide (i_2 < ((s_.Points.length : Nat) : Int)))
 (Option.bind (getI s_.Points i_2) fun e_1 =>
 Option.bind (getI s_.Points (W (i_2 - 1))) fun e_2 =>
 cond (decide (e_1.At ≤ e_2.At))
 (some (.ret 9))
 (some (.cont (W (i_2 + 1)))))
 (some (.brk i_2))
def ref03_CheckSite_b8 (N : Nat) (s_ : ref03_Site) (bad : Bool) (i_1 : Int) : Option (Step (Bool × Int) (Int)) :=
 cond (decide (i_1 < ((s_.Points.length : Nat) : Int)))
 (Option.bind (getI s_.Points i_1) fun e_3 =>
 some (.cont (((((bad || (decide (e_3.At ≤ s_.Left))) || (decide (s_.Right ≤ e_3.At))) || (ref03_outside e_3.Depth 0 2000)) || (ref03_outside e_3.Cost 0 1000000)),W (i_1 + 1))))
 (some (.brk (bad,i_1)))
def ref03_CheckSite (N : Nat) (s_ : ref03_Site) : Option (Int) :=
 cond (decide (30 < ((s_.Points.length : Nat) : Int)))
 (some 3)
 (Option.bind (loopO (fun s8 => ref03_CheckSite_b8 N s_ s8.1 s8.2) N ((((((ref03_outside s_.Left 0 10000) || (ref03_outside s_.Right 0 10000)) || (decide (s_.Right ≤ s_.Left))) || (ref03_outside s_.Gap 1 10000)) || (ref03_outside s_.Step_ 0 2000)),0)) fun x8 =>
 exK x8 (fun s8 => cond s8.1
 (some 40)
 (Option.bind (loopO (fun s14 => ref03_CheckSite_b14 N s_ s14) N 1) fun x14 =>
 exK x14 (fun s14 => some 0) some)) some)
theorem ref03_CheckSite_ok {N : Nat} {G : Pers} {Lf : List Ent} {w : World} (s_ : ref03_Site) {s__Points_p : Option Addr} {s__Points_c : Nat} (h_s__Points : Rd G 3 s__Points_p s__Points_c (s_.Points.map enc_ref03_Point)) (hc : Ctx G (Lf) w) {res : Int} (hF : ref03_CheckSite N s_ = some res) : Calls Try.prog 36 #[.agg #[i6 s_.Left,i6 s_.Right,i6 s_.Gap,i6 s_.Step_,.slice s__Points_p s_.Points.length s__Points_c]] w (fun e w => e = .returned (i6 res) ∧ Ctx G (Lf) w) := by
 unfold ref03_CheckSite at hF
 refine fnIn Try.func36 rfl Try.ntmps36 rfl fun a hf => zS fun K h => zB hf hc rfl fun b_1 a w hf hc => sp 1 hf rfl fun a hf => zT h ?_
 refine wp_seq_k fun K2 h2 => zS fun K h => zP hf rfl (pFA fa_85_4 rfl) fun a hf => zL hf hc sc_83 m0 rfl fun a w hf hc => zP hf rfl (pLenS Try.underlying83 rfl) fun a hf => sp 1 hf rfl fun a hf => zT h ?_
 refine zI hf rfl hF ?_ ?_ <;> clear hF <;> intro hF
 ·refine zS fun K h => sp 1 hf rfl fun a hf => zT h ?_
  refine wp_ret ?_
  refine xThenR ?_
  obtain rfl := sj hF
  replace hc := hc.drop k0
  exact zO1 Try.results36 hf rfl ⟨rfl,hc⟩
 ·refine wp_skip ?_
  refine h2 _ _ ?_
  refine zS fun K h => zP hf rfl (pFA fa_85_0 rfl) fun a hf => zL hf hc sc_3 m0 rfl fun a w hf hc => zQ (v := .bool (ref03_outside s_.Left 0 10000)) hf hc en_78 rfl (fun w hc => ref03_outside_ok s_.Left 0 10000 hc rfl) fun a w hf hc => sp 1 hf rfl fun a hf => stCc 4 (fun a => Has 95 a [(1,pq b_1),(11,pq b_1),(12,i6 s_.Left),(13,.bool (ref03_outside s_.Left 0 10000)),(14,.bool (ref03_outside s_.Left 0 10000)),(18,.bool ((ref03_outside s_.Left 0 10000) || (ref03_outside s_.Right 0 10000)))]) hc ?_ ?_
  ·cases hb : (ref03_outside s_.Left 0 10000)
   ·rw [hb] at hf
    refine zP hf rfl (pFA fa_85_1 rfl) fun a hf => zL hf hc sc_3 m0 rfl fun a w hf hc => zQ (v := .bool (ref03_outside s_.Right 0 10000)) hf hc en_78 rfl (fun w hc => ref03_outside_ok s_.Right 0 10000 hc rfl) fun a w hf hc => sp 1 hf rfl fun a hf => cNil ⟨hf.kp rfl,hc⟩
   ·rw [hb] at hf
    refine stS hf rfl rfl rfl fun a hf => stS hf rfl rfl rfl fun a hf => stS hf rfl rfl rfl fun a hf => sp 1 hf rfl fun a hf => cNil ⟨hf.kp rfl,hc⟩
  intro a w ⟨hf,hc⟩
  refine sp 1 hf rfl fun a hf => stCc 6 (fun a => Has 95 a [(1,pq b_1),(11,pq b_1),(12,i6 s_.Left),(13,.bool (ref03_outside s_.Left 0 10000)),(14,.bool (ref03_outside s_.Left 0 10000)),(18,.bool ((ref03_outside s_.Left 0 10000) || (ref03_outside s_.Right 0 10000))),(19,.bool ((ref03_outside s_.Left 0 10000) || (ref03_outside s_.Right 0 10000))),(25,.bool (((ref03_outside s_.Left 0 10000) || (ref03_outside s_.Right 0 10000)) || (decide (s_.Right ≤ s_.Left))))]) hc ?_ ?_
  ·cases hb : ((ref03_outside s_.Left 0 10000) || (ref03_outside s_.Right 0 10000))
   ·rw [hb] at hf
    refine zP hf rfl (pFA fa_85_0 rfl) fun a hf => zL hf hc sc_3 m0 rfl fun a w hf hc => zP hf rfl (pFA fa_85_1 rfl) fun a hf => zL hf hc sc_3 m0 rfl fun a w hf hc => sp 2 hf rfl fun a hf => cNil ⟨hf.kp rfl,hc⟩
   ·rw [hb] at hf
    refine stS hf rfl rfl rfl fun a hf => stS hf rfl rfl rfl fun a hf => stS hf rfl rfl rfl fun a hf => stS hf rfl rfl rfl fun a hf => stS hf rfl rfl rfl fun a hf => sp 1 hf rfl fun a hf => cNil ⟨hf.kp rfl,hc⟩
  intro a w ⟨hf,hc⟩
  refine sp 1 hf rfl fun a hf => stCc 4 (fun a => Has 95 a [(1,pq b_1),(11,pq b_1),(12,i6 s_.Left),(13,.bool (ref03_outside s_.Left 0 10000)),(14,.bool (ref03_outside s_.Left 0 10000)),(18,.bool ((ref03_outside s_.Left 0 10000) || (ref03_outside s_.Right 0 10000))),(19,.bool ((ref03_outside s_.Left 0 10000) || (ref03_outside s_.Right 0 10000))),(25,.bool (((ref03_outside s_.Left 0 10000) || (ref03_outside s_.Right 0 10000)) || (decide (s_.Right ≤ s_.Left)))),(26,.bool (((ref03_outside s_.Left 0 10000) || (ref03_outside s_.Right 0 10000)) || (decide (s_.Right ≤ s_.Left)))),(30,.bool ((((ref03_outside s_.Left 0 10000) || (ref03_outside s_.Right 0 10000)) || (decide (s_.Right ≤ s_.Left))) || (ref03_outside s_.Gap 1 10000)))]) hc ?_ ?_
  ·cases hb : (((ref03_outside s_.Left 0 10000) || (ref03_outside s_.Right 0 10000)) || (decide (s_.Right ≤ s_.Left)))
   ·rw [hb] at hf
    refine zP hf rfl (pFA fa_85_2 rfl) fun a hf => zL hf hc sc_3 m0 rfl fun a w hf hc => zQ (v := .bool (ref03_outside s_.Gap 1 10000)) hf hc en_78 rfl (fun w hc => ref03_outside_ok s_.Gap 1 10000 hc rfl) fun a w hf hc => sp 1 hf rfl fun a hf => cNil ⟨hf.kp rfl,hc⟩
   ·rw [hb] at hf
    refine stS hf rfl rfl rfl fun a hf => stS hf rfl rfl rfl fun a hf => stS hf rfl rfl rfl fun a hf => sp 1 hf rfl fun a hf => cNil ⟨hf.kp rfl,hc⟩
  intro a w ⟨hf,hc⟩
  refine sp 1 hf rfl fun a hf => stCc 4 (fun a => Has 95 a [(1,pq b_1),(11,pq b_1),(12,i6 s_.Left),(13,.bool (ref03_outside s_.Left 0 10000)),(14,.bool (ref03_outside s_.Left 0 10000)),(18,.bool ((ref03_outside s_.Left 0 10000) || (ref03_outside s_.Right 0 10000))),(19,.bool ((ref03_outside s_.Left 0 10000) || (ref03_outside s_.Right 0 10000))),(25,.bool (((ref03_outside s_.Left 0 10000) || (ref03_outside s_.Right 0 10000)) || (decide (s_.Right ≤ s_.Left)))),(26,.bool (((ref03_outside s_.Left 0 10000) || (ref03_outside s_.Right 0 10000)) || (decide (s_.Right ≤ s_.Left)))),(30,.bool ((((ref03_outside s_.Left 0 10000) || (ref03_outside s_.Right 0 10000)) || (decide (s_.Right ≤ s_.Left))) || (ref03_outside s_.Gap 1 10000))),(31,.bool ((((ref03_outside s_.Left 0 10000) || (ref03_outside s_.Right 0 10000)) || (decide (s_.Right ≤ s_.Left))) || (ref03_outside s_.Gap 1 10000))),(35,.bool (((((ref03_outside s_.Left 0 10000) || (ref03_outside s_.Right 0 10000)) || (decide (s_.Right ≤ s_.Left))) || (ref03_outside s_.Gap 1 10000)) || (ref03_outside s_.Step_ 0 2000)))]) hc ?_ ?_
  ·cases hb : ((((ref03_outside s_.Left 0 10000) || (ref03_outside s_.Right 0 10000)) || (decide (s_.Right ≤ s_.Left))) || (ref03_outside s_.Gap 1 10000))
   ·rw [hb] at hf
    refine zP hf rfl (pFA fa_85_3 rfl) fun a hf => zL hf hc sc_3 m0 rfl fun a w hf hc => zQ (v := .bool (ref03_outside s_.Step_ 0 2000)) hf hc en_78 rfl (fun w hc => ref03_outside_ok s_.Step_ 0 2000 hc rfl) fun a w hf hc => sp 1 hf rfl fun a hf => cNil ⟨hf.kp rfl,hc⟩
   ·rw [hb] at hf
    refine stS hf rfl rfl rfl fun a hf => stS hf rfl rfl rfl fun a hf => stS hf rfl rfl rfl fun a hf => sp 1 hf rfl fun a hf => cNil ⟨hf.kp rfl,hc⟩
  intro a w ⟨hf,hc⟩
  refine sp 1 hf rfl fun a hf => zT h ?_
  refine wp_seq_k fun K6 h6 => zS fun K h => sp 1 hf rfl fun a hf => zT h ?_
  refine wp_block ?_
  obtain ⟨x8,hx8,hF⟩ := bnd_some hF
  let S8 : (Bool × Int) → Act → World → Prop := (fun (zz : Bool × Int) a w => Has 95 a [(1,pq b_1),(3,.bool zz.1),(4,i6 zz.2)] ∧ Ctx G (.box b_1 [i6 s_.Left,i6 s_.Right,i6 s_.Gap,i6 s_.Step_,.slice s__Points_p s_.Points.length s__Points_c] 85::Lf) w)
  have hr8 : ∀ (zz : Bool × Int) a w,x8 = .go zz → S8 zz a w → K6 a w := by
   rintro ⟨bad,i_1⟩ a w rfl ⟨hf,hc⟩
   replace hF := exK_go hF
   refine h6 _ _ ?_
   refine wp_seq_k fun K9 h9 => zS fun K h => sp 1 hf rfl fun a hf => zT h ?_
   refine zI hf rfl hF ?_ ?_ <;> clear hF <;> intro hF
   ·refine zS fun K h => sp 1 hf rfl fun a hf => zT h ?_
    refine wp_ret ?_
    refine xThenR ?_
    obtain rfl := sj hF
    replace hc := hc.drop k0
    exact zO1 Try.results36 hf rfl ⟨rfl,hc⟩
   ·refine wp_skip ?_
    refine h9 _ _ ?_
    refine wp_seq_k fun K12 h12 => zS fun K h => sp 1 hf rfl fun a hf => zT h ?_
    refine wp_block ?_
    obtain ⟨x14,hx14,hF⟩ := bnd_some hF
    let S14 : Int → Act → World → Prop := (fun (zz : Int) a w => Has 95 a [(1,pq b_1),(6,i6 zz)] ∧ Ctx G (.box b_1 [i6 s_.Left,i6 s_.Right,i6 s_.Gap,i6 s_.Step_,.slice s__Points_p s_.Points.length s__Points_c] 85::Lf) w)
    have hr14 : ∀ (zz : Int) a w,x14 = .go zz → S14 zz a w → K12 a w := by
     rintro i_2 a w rfl ⟨hf,hc⟩
     replace hF := exK_go hF
     refine h12 _ _ ?_
     refine zS fun K h => sp 1 hf rfl fun a hf => zT h ?_
     refine wp_ret ?_
     obtain rfl := sj hF
     replace hc := hc.drop k0
     exact zO1 Try.results36 hf rfl ⟨rfl,hc⟩
    have ho14 : ∀ r,x14 = .out r → r = res := by
     rintro r rfl
     exact sj hF
    refine cLoop N (loopW (S := S14) (x := x14) ?_ N 1 _ _ ⟨hf.kp rfl,hc⟩ hx14)
    clear hF hf hc
    rintro i_2 st14 a w KB14 ⟨hf,hc⟩ hF hfin14 hK14
    unfold ref03_CheckSite_b14 at hF
    refine wp_seq_k fun K16 h16 => zS fun K h => sp 1 hf rfl fun a hf => zP hf rfl (pFA fa_85_4 rfl) fun a hf => zL hf hc sc_83 m0 rfl fun a w hf hc => zP hf rfl (pLenS Try.underlying83 rfl) fun a hf => sp 1 hf rfl fun a hf => zT h ?_
    refine zI hf rfl hF ?_ ?_ <;> clear hF <;> intro hF
    ·refine wp_skip ?_
     refine h16 _ _ ?_
     refine wp_seq_k fun K18 h18 => wp_block ?_
     refine wp_seq_k fun K19 h19 => ?_
     obtain ⟨e_1,he_1,hF⟩ := bnd_some hF
     obtain ⟨b_2,o,qa,qp⟩ := h_s__Points.atm he_1
     obtain ⟨e_2,he_2,hF⟩ := bnd_some hF
     obtain ⟨b_3,o_1,qa_1,qp_1⟩ := h_s__Points.atm he_2
     refine cQ hc follows_mx (by kernel_rfl) ?_
     refine qE hf rfl rfl rfl (Pu.ev (pFA fa_85_4 rfl)) fun a hf => qE hf rfl rfl rfl (eLd1 sc_83 rfl (cell_box m0 rfl)) fun a hf => qE hf rfl rfl rfl (Pu.ev (pM rfl)) fun a hf => qE hf rfl rfl rfl (Pu.ev (pIA Try.underlying83 sz_143 rfl rfl qa)) fun a hf => qE hf rfl rfl rfl (Pu.ev (pFA fa_143_0 rfl)) fun a hf => qE hf rfl rfl rfl (eLd1 sc_3 rfl (cell_pc (j := 0) qp rfl)) fun a hf => qE hf rfl rfl rfl (Pu.ev (pFA fa_85_4 rfl)) fun a hf => qE hf rfl rfl rfl (eLd1 sc_83 rfl (cell_box m0 rfl)) fun a hf => qE hf rfl rfl rfl (Pu.ev (pM rfl)) fun a hf => qE hf rfl rfl rfl (Pu.ev (pSub rfl rfl)) fun a hf => qE hf rfl rfl rfl (Pu.ev (pIA Try.underlying83 sz_143 rfl rfl qa_1)) fun a hf => qE hf rfl rfl rfl (Pu.ev (pFA fa_143_0 rfl)) fun a hf => qE hf rfl rfl rfl (eLd1 sc_3 rfl (cell_pc (j := 0) qp_1 rfl)) fun a hf => ?_
     refine qE hf rfl rfl rfl (Pu.ev (pLe rfl rfl)) fun a hf => ?_
     intro w hc
     refine h19 _ _ ?_
     refine zI hf rfl hF ?_ ?_ <;> clear hF <;> intro hF
     ·refine zS fun K h => sp 1 hf rfl fun a hf => zT h ?_
      refine wp_ret ?_
      refine xBlkR ?_
      refine xThenR ?_
      refine xThenR ?_
      have he := sj hF
      rw [← he] at hfin14
      replace hF := ho14 _ hfin14
      refine xBlkR ?_
      refine xThenR ?_
      obtain rfl := hF
      replace hc := hc.drop k0
      exact zO1 Try.results36 hf rfl ⟨rfl,hc⟩
     ·refine wp_skip ?_
      refine h18 _ _ ?_
      refine cReg ?_
      refine sp 3 hf rfl fun a hf => cNil ?_
      exact hK14 (W (i_2 + 1)) _ _ (sj hF).symm ⟨hf.kp rfl,hc⟩
    ·refine wp_exit ?_
     refine xThen ?_
     refine xThen ?_
     have he := sj hF
     rw [← he] at hfin14
     refine cHit ?_
     exact hr14 _ _ _ hfin14 ⟨hf.kp rfl,hc⟩
  have ho8 : ∀ r,x8 = .out r → r = res := by
   rintro r rfl
   exact sj hF
  refine cLoop N (loopW (S := S8) (x := x8) ?_ N ((((((ref03_outside s_.Left 0 10000) || (ref03_outside s_.Right 0 10000)) || (decide (s_.Right ≤ s_.Left))) || (ref03_outside s_.Gap 1 10000)) || (ref03_outside s_.Step_ 0 2000)),0) _ _ ⟨hf.kp rfl,hc⟩ hx8)
  clear hF hf hc
  rintro ⟨bad,i_1⟩ st8 a w KB8 ⟨hf,hc⟩ hF hfin8 hK8
  unfold ref03_CheckSite_b8 at hF
  refine wp_seq_k fun K21 h21 => zS fun K h => sp 1 hf rfl fun a hf => zP hf rfl (pFA fa_85_4 rfl) fun a hf => zL hf hc sc_83 m0 rfl fun a w hf hc => zP hf rfl (pLenS Try.underlying83 rfl) fun a hf => sp 1 hf rfl fun a hf => zT h ?_
  refine zI hf rfl hF ?_ ?_ <;> clear hF <;> intro hF
  ·refine wp_skip ?_
   refine h21 _ _ ?_
   refine wp_seq_k fun K23 h23 => wp_block ?_
   refine zS fun K h => zP hf rfl (pFA fa_85_4 rfl) fun a hf => zL hf hc sc_83 m0 rfl fun a w hf hc => sp 1 hf rfl fun a hf => ?_
   obtain ⟨e_3,he_3,hF⟩ := bnd_some hF
   obtain ⟨b_4,o_2,qa_2,qp_2⟩ := h_s__Points.atm he_3
   refine zP hf rfl (pIA Try.underlying83 sz_143 rfl rfl qa_2) fun a hf => zE hf hc rfl (eLdN (vs := [i6 e_3.At,i6 e_3.Depth,i6 e_3.Cost]) ag_143 rfl rfl (cells_pc qp_2 (n := 3) (o' := 0) rfl)) fun a w hf hc => zA hf hc zr_143 rfl fun b_5 a w hf hc => zW hf hc sz_143 u0 rfl fun w hc => zT h ?_
   refine cReg ?_
   refine sp 2 hf rfl fun a hf => stCc 6 (fun a => Has 95 a [(1,pq b_1),(3,.bool bad),(4,i6 i_1),(5,pq b_5),(48,.bool bad),(49,.bool bad),(55,.bool (bad || (decide (e_3.At ≤ s_.Left))))]) hc ?_ ?_
   ·cases hb : bad
    ·rw [hb] at hf
     try rw [hb] at hc
     refine zP hf rfl (pFA fa_143_0 rfl) fun a hf => zL hf hc sc_3 m0 rfl fun a w hf hc => zP hf rfl (pFA fa_85_0 rfl) fun a hf => zL hf hc sc_3 m1 rfl fun a w hf hc => sp 2 hf rfl fun a hf => cNil ⟨hf.kp rfl,hc⟩
    ·rw [hb] at hf
     try rw [hb] at hc
     refine stS hf rfl rfl rfl fun a hf => stS hf rfl rfl rfl fun a hf => stS hf rfl rfl rfl fun a hf => stS hf rfl rfl rfl fun a hf => stS hf rfl rfl rfl fun a hf => sp 1 hf rfl fun a hf => cNil ⟨hf.kp rfl,hc⟩
   intro a w ⟨hf,hc⟩
   refine sp 1 hf rfl fun a hf => stCc 6 (fun a => Has 95 a [(1,pq b_1),(3,.bool bad),(4,i6 i_1),(5,pq b_5),(48,.bool bad),(49,.bool bad),(55,.bool (bad || (decide (e_3.At ≤ s_.Left)))),(56,.bool (bad || (decide (e_3.At ≤ s_.Left)))),(62,.bool ((bad || (decide (e_3.At ≤ s_.Left))) || (decide (s_.Right ≤ e_3.At))))]) hc ?_ ?_
   ·cases hb : (bad || (decide (e_3.At ≤ s_.Left)))
    ·rw [hb] at hf
     refine zP hf rfl (pFA fa_143_0 rfl) fun a hf => zL hf hc sc_3 m0 rfl fun a w hf hc => zP hf rfl (pFA fa_85_1 rfl) fun a hf => zL hf hc sc_3 m1 rfl fun a w hf hc => sp 2 hf rfl fun a hf => cNil ⟨hf.kp rfl,hc⟩
    ·rw [hb] at hf
     refine stS hf rfl rfl rfl fun a hf => stS hf rfl rfl rfl fun a hf => stS hf rfl rfl rfl fun a hf => stS hf rfl rfl rfl fun a hf => stS hf rfl rfl rfl fun a hf => sp 1 hf rfl fun a hf => cNil ⟨hf.kp rfl,hc⟩
   intro a w ⟨hf,hc⟩
   refine sp 1 hf rfl fun a hf => stCc 4 (fun a => Has 95 a [(1,pq b_1),(3,.bool bad),(4,i6 i_1),(5,pq b_5),(48,.bool bad),(49,.bool bad),(55,.bool (bad || (decide (e_3.At ≤ s_.Left)))),(56,.bool (bad || (decide (e_3.At ≤ s_.Left)))),(62,.bool ((bad || (decide (e_3.At ≤ s_.Left))) || (decide (s_.Right ≤ e_3.At)))),(63,.bool ((bad || (decide (e_3.At ≤ s_.Left))) || (decide (s_.Right ≤ e_3.At)))),(67,.bool (((bad || (decide (e_3.At ≤ s_.Left))) || (decide (s_.Right ≤ e_3.At))) || (ref03_outside e_3.Depth 0 2000)))]) hc ?_ ?_
   ·cases hb : ((bad || (decide (e_3.At ≤ s_.Left))) || (decide (s_.Right ≤ e_3.At)))
    ·rw [hb] at hf
     refine zP hf rfl (pFA fa_143_1 rfl) fun a hf => zL hf hc sc_3 m0 rfl fun a w hf hc => zQ (v := .bool (ref03_outside e_3.Depth 0 2000)) hf hc en_78 rfl (fun w hc => ref03_outside_ok e_3.Depth 0 2000 hc rfl) fun a w hf hc => sp 1 hf rfl fun a hf => cNil ⟨hf.kp rfl,hc⟩
    ·rw [hb] at hf
     refine stS hf rfl rfl rfl fun a hf => stS hf rfl rfl rfl fun a hf => stS hf rfl rfl rfl fun a hf => sp 1 hf rfl fun a hf => cNil ⟨hf.kp rfl,hc⟩
   intro a w ⟨hf,hc⟩
   refine sp 1 hf rfl fun a hf => stCc 4 (fun a => Has 95 a [(1,pq b_1),(3,.bool bad),(4,i6 i_1),(5,pq b_5),(48,.bool bad),(49,.bool bad),(55,.bool (bad || (decide (e_3.At ≤ s_.Left)))),(56,.bool (bad || (decide (e_3.At ≤ s_.Left)))),(62,.bool ((bad || (decide (e_3.At ≤ s_.Left))) || (decide (s_.Right ≤ e_3.At)))),(63,.bool ((bad || (decide (e_3.At ≤ s_.Left))) || (decide (s_.Right ≤ e_3.At)))),(67,.bool (((bad || (decide (e_3.At ≤ s_.Left))) || (decide (s_.Right ≤ e_3.At))) || (ref03_outside e_3.Depth 0 2000))),(68,.bool (((bad || (decide (e_3.At ≤ s_.Left))) || (decide (s_.Right ≤ e_3.At))) || (ref03_outside e_3.Depth 0 2000))),(72,.bool ((((bad || (decide (e_3.At ≤ s_.Left))) || (decide (s_.Right ≤ e_3.At))) || (ref03_outside e_3.Depth 0 2000)) || (ref03_outside e_3.Cost 0 1000000)))]) hc ?_ ?_
   ·cases hb : (((bad || (decide (e_3.At ≤ s_.Left))) || (decide (s_.Right ≤ e_3.At))) || (ref03_outside e_3.Depth 0 2000))
    ·rw [hb] at hf
     refine zP hf rfl (pFA fa_143_2 rfl) fun a hf => zL hf hc sc_3 m0 rfl fun a w hf hc => zQ (v := .bool (ref03_outside e_3.Cost 0 1000000)) hf hc en_78 rfl (fun w hc => ref03_outside_ok e_3.Cost 0 1000000 hc rfl) fun a w hf hc => sp 1 hf rfl fun a hf => cNil ⟨hf.kp rfl,hc⟩
    ·rw [hb] at hf
     refine stS hf rfl rfl rfl fun a hf => stS hf rfl rfl rfl fun a hf => stS hf rfl rfl rfl fun a hf => sp 1 hf rfl fun a hf => cNil ⟨hf.kp rfl,hc⟩
   intro a w ⟨hf,hc⟩
   refine sp 1 hf rfl fun a hf => cNil ?_
   refine h23 _ _ ?_
   refine cReg ?_
   refine sp 3 hf rfl fun a hf => cNil ?_
   replace hc := hc.drop k0
   exact hK8 (((((bad || (decide (e_3.At ≤ s_.Left))) || (decide (s_.Right ≤ e_3.At))) || (ref03_outside e_3.Depth 0 2000)) || (ref03_outside e_3.Cost 0 1000000)),W (i_1 + 1)) _ _ (sj hF).symm ⟨hf.kp rfl,hc⟩
  ·refine wp_exit ?_
   refine xThen ?_
   refine xThen ?_
   have he := sj hF
   rw [← he] at hfin8
   refine cHit ?_
   exact hr8 _ _ _ hfin8 ⟨hf.kp rfl,hc⟩

def gauge_Cost_1 (i_ : Int) (x : gauge_Site) : Bool :=
 (gauge_in i_ 1 ((x.Points.length : Nat) : Int))
theorem gauge_Cost_1_ok {G : Pers} {Lf : List Ent} {w : World} (i_ : Int) (x : gauge_Site) {b_ : Nat} {x_Points_p : Option Addr} {x_Points_c : Nat} (h_x_Points : Rd G 3 x_Points_p x_Points_c (x.Points.map enc_gauge_Point)) (hc : Ctx G (.box b_ [i6 x.Left,i6 x.Right,i6 x.Gap,i6 x.Step_,.slice x_Points_p x.Points.length x_Points_c] 55::Lf) w) {res : Bool} (hF : gauge_Cost_1 i_ x = res) : Calls Try.prog 80 #[i6 i_,pq b_] w (fun e w => e = .returned (.bool res) ∧ Ctx G (.box b_ [i6 x.Left,i6 x.Right,i6 x.Gap,i6 x.Step_,.slice x_Points_p x.Points.length x_Points_c] 55::Lf) w) := by
 unfold gauge_Cost_1 at hF
 refine fnIn Try.func80 rfl Try.ntmps80 rfl fun a hf => zS fun K h => sp 1 hf rfl fun a hf => zT h ?_
 refine zS fun K h => sp 1 hf rfl fun a hf => zP hf rfl (pFA fa_55_4 rfl) fun a hf => zL hf hc sc_53 m0 rfl fun a w hf hc => zP hf rfl (pLenS Try.underlying53 rfl) fun a hf => zQ (v := .bool (gauge_in i_ 1 ((x.Points.length : Nat) : Int))) hf hc en_55 rfl (fun w hc => gauge_in_ok i_ 1 ((x.Points.length : Nat) : Int) hc rfl) fun a w hf hc => sp 1 hf rfl fun a hf => zT h ?_
 refine wp_ret ?_
 obtain rfl := hF
 exact zO1 Try.results80 hf rfl ⟨rfl,hc⟩

def gauge_every_int_1_s2 (x : Int) (x_1 : gauge_Site) : Bool :=
 (!(gauge_Cost_1 x x_1))
theorem gauge_every_int_1_s2_ok {G : Pers} {Lf : List Ent} {w : World} (x : Int) (x_1 : gauge_Site) {b_ : Nat} {b__1 : Nat} {x_1_Points_p : Option Addr} {x_1_Points_c : Nat} (h_x_1_Points : Rd G 3 x_1_Points_p x_1_Points_c (x_1.Points.map enc_gauge_Point)) (hc : Ctx G (.box b_ [.func (.func 80) #[] #[pq b__1]] 145::.box b__1 [i6 x_1.Left,i6 x_1.Right,i6 x_1.Gap,i6 x_1.Step_,.slice x_1_Points_p x_1.Points.length x_1_Points_c] 55::Lf) w) {res : Bool} (hF : gauge_every_int_1_s2 x x_1 = res) : Calls Try.prog 108 #[i6 x,pq b_] w (fun e w => e = .returned (.bool res) ∧ Ctx G (.box b_ [.func (.func 80) #[] #[pq b__1]] 145::.box b__1 [i6 x_1.Left,i6 x_1.Right,i6 x_1.Gap,i6 x_1.Step_,.slice x_1_Points_p x_1.Points.length x_1_Points_c] 55::Lf) w) := by
 unfold gauge_every_int_1_s2 at hF
 refine fnIn Try.func108 rfl Try.ntmps108 rfl fun a hf => zS fun K h => sp 1 hf rfl fun a hf => zT h ?_
 refine zS fun K h => zL hf hc sc_145 m0 rfl fun a w hf hc => sp 1 hf rfl fun a hf => zQ (v := .bool (gauge_Cost_1 x x_1)) hf hc en_80 rfl (fun w hc => (gauge_Cost_1_ok x x_1 h_x_1_Points (hc.pick k1) rfl).mono fun e w h => ⟨h.1,(h.2.unpick k1)⟩) fun a w hf hc => sp 2 hf rfl fun a hf => zT h ?_
 refine wp_ret ?_
 obtain rfl := hF
 exact zO1 Try.results108 hf rfl ⟨rfl,hc⟩

def slices_IndexFunc_Lint_int_s2_b4 (N : Nat) (s_ : List Int) (f_ : gauge_Site) (x : Int) : Option (Step (Int) (Int)) :=
 cond (decide (x < ((s_.length : Nat) : Int)))
 (Option.bind (getI s_ x) fun e_1 =>
 cond (gauge_every_int_1_s2 e_1 f_)
 (some (.ret x))
 (some (.cont (W (x + 1)))))
 (some (.brk x))
def slices_IndexFunc_Lint_int_s2 (N : Nat) (s_ : List Int) (f_ : gauge_Site) : Option (Int) :=
 Option.bind (loopO (fun s4 => slices_IndexFunc_Lint_int_s2_b4 N s_ f_ s4) N 0) fun x4 =>
 exK x4 (fun s4 => some (-1)) some
theorem slices_IndexFunc_Lint_int_s2_ok {N : Nat} {G : Pers} {Lf : List Ent} {w : World} (s_ : List Int) (f_ : gauge_Site) {s__p : Option Addr} {s__c : Nat} {b_ : Nat} {b__1 : Nat} {f__Points_p : Option Addr} {f__Points_c : Nat} (h_s_ : Rd G 1 s__p s__c (s_.map encI_i64)) (h_f__Points : Rd G 3 f__Points_p f__Points_c (f_.Points.map enc_gauge_Point)) (hc : Ctx G (.box b_ [.func (.func 80) #[] #[pq b__1]] 145::.box b__1 [i6 f_.Left,i6 f_.Right,i6 f_.Gap,i6 f_.Step_,.slice f__Points_p f_.Points.length f__Points_c] 55::Lf) w) {res : Int} (hF : slices_IndexFunc_Lint_int_s2 N s_ f_ = some res) : Calls Try.prog 118 #[.slice s__p s_.length s__c,.func (.func 108) #[] #[pq b_]] w (fun e w => e = .returned (i6 res) ∧ Ctx G (.box b_ [.func (.func 80) #[] #[pq b__1]] 145::.box b__1 [i6 f_.Left,i6 f_.Right,i6 f_.Gap,i6 f_.Step_,.slice f__Points_p f_.Points.length f__Points_c] 55::Lf) w) := by
 unfold slices_IndexFunc_Lint_int_s2 at hF
 refine fnIn Try.func118 rfl Try.ntmps118 rfl fun a hf => zS fun K h => sp 1 hf rfl fun a hf => zT h ?_
 refine wp_seq_k fun K2 h2 => zS fun K h => sp 1 hf rfl fun a hf => zP hf rfl (pLenS Try.underlying43 rfl) fun a hf => sp 1 hf rfl fun a hf => zT h ?_
 refine wp_block ?_
 obtain ⟨x4,hx4,hF⟩ := bnd_some hF
 let S4 : Int → Act → World → Prop := (fun (zz : Int) a w => Has 19 a [(0,.slice s__p s_.length s__c),(1,.func (.func 108) #[] #[pq b_]),(7,i6 ((s_.length : Nat) : Int)),(8,i6 zz)] ∧ Ctx G (.box b_ [.func (.func 80) #[] #[pq b__1]] 145::.box b__1 [i6 f_.Left,i6 f_.Right,i6 f_.Gap,i6 f_.Step_,.slice f__Points_p f_.Points.length f__Points_c] 55::Lf) w)
 have hr4 : ∀ (zz : Int) a w,x4 = .go zz → S4 zz a w → K2 a w := by
  rintro x a w rfl ⟨hf,hc⟩
  replace hF := exK_go hF
  refine h2 _ _ ?_
  refine zS fun K h => sp 1 hf rfl fun a hf => zT h ?_
  refine wp_ret ?_
  obtain rfl := sj hF
  exact zO1 Try.results118 hf rfl ⟨rfl,hc⟩
 have ho4 : ∀ r,x4 = .out r → r = res := by
  rintro r rfl
  exact sj hF
 refine cLoop N (loopW (S := S4) (x := x4) ?_ N 0 _ _ ⟨hf.kp rfl,hc⟩ hx4)
 clear hF hf hc
 rintro x st4 a w KB4 ⟨hf,hc⟩ hF hfin4 hK4
 unfold slices_IndexFunc_Lint_int_s2_b4 at hF
 refine zS fun K h => sp 1 hf rfl fun a hf => zT h ?_
 refine wp_seq_k fun K7 h7 => zI hf rfl hF ?_ ?_ <;> clear hF <;> intro hF
 ·refine wp_skip ?_
  refine h7 _ _ ?_
  refine wp_seq_k fun K8 h8 => wp_block ?_
  refine zS fun K h => sp 2 hf rfl fun a hf => zT h ?_
  refine zS fun K h => sp 3 hf rfl fun a hf => ?_
  obtain ⟨e_1,he_1,hF⟩ := bnd_some hF
  obtain ⟨b_1,o,qa,qp⟩ := h_s_.atm he_1
  refine zP hf rfl (pIA Try.underlying43 sz_3 rfl rfl qa) fun a hf => zE hf hc rfl (eLd1 sc_3 rfl (cell_pc (j := 0) qp rfl)) fun a w hf hc => zQ (v := .bool (gauge_every_int_1_s2 e_1 f_)) hf hc en_108 rfl (fun w hc => (gauge_every_int_1_s2_ok e_1 f_ h_f__Points ((hc.pick k1).pick k1) rfl).mono fun e w h => ⟨h.1,((h.2.unpick k1).unpick k1)⟩) fun a w hf hc => zT h ?_
  refine zI hf rfl hF ?_ ?_ <;> clear hF <;> intro hF
  ·refine zS fun K h => sp 2 hf rfl fun a hf => zT h ?_
   refine wp_ret ?_
   refine xBlkR ?_
   refine xThenR ?_
   refine xThenR ?_
   have he := sj hF
   rw [← he] at hfin4
   replace hF := ho4 _ hfin4
   refine xBlkR ?_
   refine xThenR ?_
   obtain rfl := hF
   exact zO1 Try.results118 hf rfl ⟨rfl,hc⟩
  ·refine wp_skip ?_
   refine h8 _ _ ?_
   refine cReg ?_
   refine sp 2 hf rfl fun a hf => cNil ?_
   exact hK4 (W (x + 1)) _ _ (sj hF).symm ⟨hf.kp rfl,hc⟩
 ·refine wp_exit ?_
  refine xThen ?_
  refine xThen ?_
  have he := sj hF
  rw [← he] at hfin4
  refine cHit ?_
  exact hr4 _ _ _ hfin4 ⟨hf.kp rfl,hc⟩

def slices_ContainsFunc_Lint_int_s2 (N : Nat) (s_ : List Int) (f_ : gauge_Site) : Option (Bool) :=
 Option.bind (slices_IndexFunc_Lint_int_s2 N s_ f_) fun r =>
 some (decide (0 ≤ r))
theorem slices_ContainsFunc_Lint_int_s2_ok {N : Nat} {G : Pers} {Lf : List Ent} {w : World} (s_ : List Int) (f_ : gauge_Site) {s__p : Option Addr} {s__c : Nat} {b_ : Nat} {b__1 : Nat} {f__Points_p : Option Addr} {f__Points_c : Nat} (h_s_ : Rd G 1 s__p s__c (s_.map encI_i64)) (h_f__Points : Rd G 3 f__Points_p f__Points_c (f_.Points.map enc_gauge_Point)) (hc : Ctx G (.box b_ [.func (.func 80) #[] #[pq b__1]] 145::.box b__1 [i6 f_.Left,i6 f_.Right,i6 f_.Gap,i6 f_.Step_,.slice f__Points_p f_.Points.length f__Points_c] 55::Lf) w) {res : Bool} (hF : slices_ContainsFunc_Lint_int_s2 N s_ f_ = some res) : Calls Try.prog 107 #[.slice s__p s_.length s__c,.func (.func 108) #[] #[pq b_]] w (fun e w => e = .returned (.bool res) ∧ Ctx G (.box b_ [.func (.func 80) #[] #[pq b__1]] 145::.box b__1 [i6 f_.Left,i6 f_.Right,i6 f_.Gap,i6 f_.Step_,.slice f__Points_p f_.Points.length f__Points_c] 55::Lf) w) := by
 unfold slices_ContainsFunc_Lint_int_s2 at hF
 refine fnIn Try.func107 rfl Try.ntmps107 rfl fun a hf => zS fun K h => sp 1 hf rfl fun a hf => zT h ?_
 refine zS fun K h => sp 2 hf rfl fun a hf => ?_
 obtain ⟨r,hr,hF⟩ := bnd_some hF
 refine zQ (v := i6 r) hf hc en_118 rfl (fun w hc => (slices_IndexFunc_Lint_int_s2_ok s_ f_ h_s_ h_f__Points ((hc.pick k1).pick k1) hr).mono fun e w h => ⟨h.1,((h.2.unpick k1).unpick k1)⟩) fun a w hf hc => sp 2 hf rfl fun a hf => zT h ?_
 refine wp_ret ?_
 obtain rfl := sj hF
 exact zO1 Try.results107 hf rfl ⟨rfl,hc⟩

def gauge_every_int_s2 (N : Nat) (l : List Int) (so : gauge_Site) : Option (Bool) :=
 Option.bind (slices_ContainsFunc_Lint_int_s2 N l so) fun r =>
 some (!r)
theorem gauge_every_int_s2_ok {N : Nat} {G : Pers} {Lf : List Ent} {w : World} (l : List Int) (so : gauge_Site) {l_p : Option Addr} {l_c : Nat} {b_ : Nat} {so_Points_p : Option Addr} {so_Points_c : Nat} (h_l : Rd G 1 l_p l_c (l.map encI_i64)) (h_so_Points : Rd G 3 so_Points_p so_Points_c (so.Points.map enc_gauge_Point)) (hc : Ctx G (.box b_ [i6 so.Left,i6 so.Right,i6 so.Gap,i6 so.Step_,.slice so_Points_p so.Points.length so_Points_c] 55::Lf) w) {res : Bool} (hF : gauge_every_int_s2 N l so = some res) : Calls Try.prog 79 #[.slice l_p l.length l_c,.func (.func 80) #[] #[pq b_]] w (fun e w => e = .returned (.bool res) ∧ Ctx G (.box b_ [i6 so.Left,i6 so.Right,i6 so.Gap,i6 so.Step_,.slice so_Points_p so.Points.length so_Points_c] 55::Lf) w) := by
 unfold gauge_every_int_s2 at hF
 refine fnIn Try.func79 rfl Try.ntmps79 rfl fun a hf => zS fun K h => zB hf hc rfl fun b_1 a w hf hc => sp 1 hf rfl fun a hf => zT h ?_
 refine zS fun K h => sp 1 hf rfl fun a hf => zP hf rfl (pMF (us := [pq b_1]) rfl rfl) fun a hf => ?_
 obtain ⟨r,hr,hF⟩ := bnd_some hF
 refine zQ (v := .bool r) hf hc en_107 rfl (fun w hc => (slices_ContainsFunc_Lint_int_s2_ok l so h_l h_so_Points ((hc.pick k1).pick k1) hr).mono fun e w h => ⟨h.1,((h.2.unpick k1).unpick k1)⟩) fun a w hf hc => sp 2 hf rfl fun a hf => zT h ?_
 refine wp_ret ?_
 obtain rfl := sj hF
 replace hc := hc.drop k0
 exact zO1 Try.results79 hf rfl ⟨rfl,hc⟩

def gauge_Cost_2 (N : Nat) (i_ : Int) (x : List Int) : Option (Int) :=
 Option.bind (getI x i_) fun e_1 =>
 some e_1
theorem gauge_Cost_2_ok {N : Nat} {G : Pers} {Lf : List Ent} {w : World} (i_ : Int) (x : List Int) {b_ : Nat} {x_p : Option Addr} {x_c : Nat} (h_x : Rd G 1 x_p x_c (x.map encI_i64)) (hc : Ctx G (.box b_ [.slice x_p x.length x_c] 43::Lf) w) {res : Int} (hF : gauge_Cost_2 N i_ x = some res) : Calls Try.prog 81 #[i6 i_,pq b_] w (fun e w => e = .returned (i6 res) ∧ Ctx G (.box b_ [.slice x_p x.length x_c] 43::Lf) w) := by
 unfold gauge_Cost_2 at hF
 refine fnIn Try.func81 rfl Try.ntmps81 rfl fun a hf => zS fun K h => sp 1 hf rfl fun a hf => zT h ?_
 refine zS fun K h => zL hf hc sc_43 m0 rfl fun a w hf hc => sp 1 hf rfl fun a hf => ?_
 obtain ⟨e_1,he_1,hF⟩ := bnd_some hF
 obtain ⟨b_1,o,qa,qp⟩ := h_x.atm he_1
 refine zP hf rfl (pIA Try.underlying43 sz_3 rfl rfl qa) fun a hf => zE hf hc rfl (eLd1 sc_3 rfl (cell_pc (j := 0) qp rfl)) fun a w hf hc => sp 1 hf rfl fun a hf => zT h ?_
 refine wp_ret ?_
 obtain rfl := sj hF
 exact zO1 Try.results81 hf rfl ⟨rfl,hc⟩

def gauge_rising_s3_b4 (N : Nat) (many : Int) (at_ : List Int) (i_1 : Int) : Option (Step (Int) (Bool)) :=
 cond (decide (i_1 < many))
 (Option.bind (gauge_Cost_2 N i_1 at_) fun r =>
 Option.bind (gauge_Cost_2 N (W (i_1 - 1)) at_) fun r_1 =>
 cond (decide (r ≤ r_1))
 (some (.ret false))
 (some (.cont (W (i_1 + 1)))))
 (some (.brk i_1))
def gauge_rising_s3 (N : Nat) (many : Int) (at_ : List Int) : Option (Bool) :=
 Option.bind (loopO (fun s4 => gauge_rising_s3_b4 N many at_ s4) N 1) fun x4 =>
 exK x4 (fun s4 => some true) some
theorem gauge_rising_s3_ok {N : Nat} {G : Pers} {Lf : List Ent} {w : World} (many : Int) (at_ : List Int) {b_ : Nat} {at__p : Option Addr} {at__c : Nat} (h_at_ : Rd G 1 at__p at__c (at_.map encI_i64)) (hc : Ctx G (.box b_ [.slice at__p at_.length at__c] 43::Lf) w) {res : Bool} (hF : gauge_rising_s3 N many at_ = some res) : Calls Try.prog 76 #[i6 many,.func (.func 81) #[] #[pq b_]] w (fun e w => e = .returned (.bool res) ∧ Ctx G (.box b_ [.slice at__p at_.length at__c] 43::Lf) w) := by
 unfold gauge_rising_s3 at hF
 refine fnIn Try.func76 rfl Try.ntmps76 rfl fun a hf => zS fun K h => sp 1 hf rfl fun a hf => zT h ?_
 refine wp_seq_k fun K2 h2 => zS fun K h => sp 1 hf rfl fun a hf => zT h ?_
 refine wp_block ?_
 obtain ⟨x4,hx4,hF⟩ := bnd_some hF
 let S4 : Int → Act → World → Prop := (fun (zz : Int) a w => Has 19 a [(0,i6 many),(1,.func (.func 81) #[] #[pq b_]),(5,i6 zz)] ∧ Ctx G (.box b_ [.slice at__p at_.length at__c] 43::Lf) w)
 have hr4 : ∀ (zz : Int) a w,x4 = .go zz → S4 zz a w → K2 a w := by
  rintro i_1 a w rfl ⟨hf,hc⟩
  replace hF := exK_go hF
  refine h2 _ _ ?_
  refine zS fun K h => sp 1 hf rfl fun a hf => zT h ?_
  refine wp_ret ?_
  obtain rfl := sj hF
  exact zO1 Try.results76 hf rfl ⟨rfl,hc⟩
 have ho4 : ∀ r,x4 = .out r → r = res := by
  rintro r rfl
  exact sj hF
 refine cLoop N (loopW (S := S4) (x := x4) ?_ N 1 _ _ ⟨hf.kp rfl,hc⟩ hx4)
 clear hF hf hc
 rintro i_1 st4 a w KB4 ⟨hf,hc⟩ hF hfin4 hK4
 unfold gauge_rising_s3_b4 at hF
 refine wp_seq_k fun K6 h6 => zS fun K h => sp 3 hf rfl fun a hf => zT h ?_
 refine zI hf rfl hF ?_ ?_ <;> clear hF <;> intro hF
 ·refine wp_skip ?_
  refine h6 _ _ ?_
  refine wp_seq_k fun K8 h8 => wp_block ?_
  refine zS fun K h => sp 2 hf rfl fun a hf => ?_
  obtain ⟨r,hr,hF⟩ := bnd_some hF
  refine zQ (v := i6 r) hf hc en_81 rfl (fun w hc => (gauge_Cost_2_ok i_1 at_ h_at_ (hc.pick k0) hr).mono fun e w h => ⟨h.1,(h.2.unpick k0)⟩) fun a w hf hc => sp 3 hf rfl fun a hf => ?_
  obtain ⟨r_1,hr_1,hF⟩ := bnd_some hF
  refine zQ (v := i6 r_1) hf hc en_81 rfl (fun w hc => (gauge_Cost_2_ok (W (i_1 - 1)) at_ h_at_ (hc.pick k0) hr_1).mono fun e w h => ⟨h.1,(h.2.unpick k0)⟩) fun a w hf hc => sp 1 hf rfl fun a hf => zT h ?_
  refine zI hf rfl hF ?_ ?_ <;> clear hF <;> intro hF
  ·refine zS fun K h => sp 1 hf rfl fun a hf => zT h ?_
   refine wp_ret ?_
   refine xBlkR ?_
   refine xThenR ?_
   refine xThenR ?_
   have he := sj hF
   rw [← he] at hfin4
   replace hF := ho4 _ hfin4
   refine xBlkR ?_
   refine xThenR ?_
   obtain rfl := hF
   exact zO1 Try.results76 hf rfl ⟨rfl,hc⟩
  ·refine wp_skip ?_
   refine h8 _ _ ?_
   refine cReg ?_
   refine sp 3 hf rfl fun a hf => cNil ?_
   exact hK4 (W (i_1 + 1)) _ _ (sj hF).symm ⟨hf.kp rfl,hc⟩
 ·refine wp_exit ?_
  refine xThen ?_
  refine xThen ?_
  have he := sj hF
  rw [← he] at hfin4
  refine cHit ?_
  exact hr4 _ _ _ hfin4 ⟨hf.kp rfl,hc⟩

def slices_Clone_Lint_int (N : Nat) (s_ : List Int) : Option ((List Int)) :=
 Option.bind (room (s_).length) fun un =>
 some s_
theorem slices_Clone_Lint_int_ok {N : Nat} {G : Pers} {Lf : List Ent} {w : World} (s_ : List Int) {s__p : Option Addr} {s__c : Nat} (h_s_ : Rd G 1 s__p s__c (s_.map encI_i64)) (hc : Ctx G (Lf) w) {res : (List Int)} (hF : slices_Clone_Lint_int N s_ = some res) : Calls Try.prog 83 #[.slice s__p s_.length s__c] w (fun e w => ∃ (p'1 : Option Addr) (c'1 : Nat),e = .returned (.slice p'1 res.length c'1) ∧ Ctx G (.row p'1 c'1 (res.map encI_i64) 3 1::Lf) w) := by
 unfold slices_Clone_Lint_int at hF
 refine fnIn Try.func83 rfl Try.ntmps83 rfl fun a hf => zS fun K h => sp 1 hf rfl fun a hf => zT h ?_
 refine wp_seq_k fun K2 h2 => zS fun K h => sp 1 hf rfl fun a hf => zP hf rfl (pEqN Try.underlying43 rfl rfl) fun a hf => zT h ?_
 rcases rd_nilq h_s_ with ⟨hp,hx⟩ | hp
 ·rw [hp] at hf
  replace hF : (some ([] : List Int)) = some res := by
   try rw [hx] at hF
   exact hF
  refine cCondT hf rfl ?_
  refine zS fun K h => sp 1 hf rfl fun a hf => zT h ?_
  refine wp_ret ?_
  refine xThenR ?_
  obtain rfl := sj hF
  replace hc := hc.nilRow 3 1
  exact zO1 Try.results83 hf rfl ⟨none,0,rfl,hc⟩
 ·rw [hp] at hf
  refine cCondF hf rfl ?_
  refine wp_skip ?_
  refine h2 _ _ ?_
  refine zS fun K h => stBS (rows := ([] : List Int).map encI_i64) (vs := []) hf hc rfl rfl sl_43 rfl trivial rfl rfl fun b_1 a w hf hc => sp 1 hf rfl fun a hf => ?_
  obtain ⟨un,hun,hF⟩ := bnd_some hF
  refine stApm (xs := ([] : List Int)) (ys := s_) hf hc rfl rfl sl_43 rfl rfl rfl rfl rfl one_encI_i64 (src_rd hc h_s_) (fun _ _ => u0) (by simpa using room_spec hun) fun p_1 c_1 a w hf hc => sp 1 hf rfl fun a hf => zT h ?_
  refine wp_ret ?_
  obtain rfl := sj hF
  exact zO1 Try.results83 hf rfl ⟨p_1,c_1,rfl,hc⟩

def gauge_Cost_b15 (N : Nat) (s_ : gauge_Site) (r_3 : (List Int)) (sum : Int) (at_ : Int) (x : Int) : Option (Step (Int × Int × Int) (Int × Int)) :=
 cond (decide (x < (((r_3 ++ [W (((s_.Points.length : Nat) : Int) + 1)]).length : Nat) : Int)))
 (Option.bind (getI (r_3 ++ [W (((s_.Points.length : Nat) : Int) + 1)]) x) fun e_1 =>
 Option.bind (gauge_work_steps_s2 N s_.Left s_.Right s_.Gap s_.Step_ s_.Points (fun _ => (⟨0,0⟩ : gauge_spent)) at_ e_1) fun r_4 =>
 cond (!r_4)
 (some (.ret (0,7)))
 (Option.bind (gauge_work_station_s2 N s_.Left s_.Right s_.Gap s_.Step_ s_.Points (fun _ => (⟨0,0⟩ : gauge_spent)) e_1) fun r_5 =>
 some (.cont (W (sum + r_5.Cost),e_1,W (x + 1)))))
 (some (.brk (sum,at_,x)))
def gauge_Cost (N : Nat) (s_ : gauge_Site) (plan : List Int) : Option (Int × Int) :=
 Option.bind (gauge_CheckSite N s_) fun r =>
 cond (r != 0)
 (some (0,r))
 (Option.bind (gauge_every_int_s2 N plan s_) fun r_1 =>
 cond (!r_1)
 (some (0,2))
 (Option.bind (gauge_rising_s3 N ((plan.length : Nat) : Int) plan) fun r_2 =>
 cond (!r_2)
 (some (0,9))
 (Option.bind (slices_Clone_Lint_int N plan) fun r_3 =>
 Option.bind (room ((r_3 ++ [W (((s_.Points.length : Nat) : Int) + 1)])).length) fun un =>
 Option.bind (loopO (fun s15 => gauge_Cost_b15 N s_ r_3 s15.1 s15.2.1 s15.2.2) N (0,0,0)) fun x15 =>
 exK x15 (fun s15 => some (s15.1,0)) some)))
theorem gauge_Cost_ok {N : Nat} {G : Pers} {Lf : List Ent} {w : World} (s_ : gauge_Site) (plan : List Int) {s__Points_p : Option Addr} {s__Points_c : Nat} {plan_p : Option Addr} {plan_c : Nat} (h_s__Points : Rd G 3 s__Points_p s__Points_c (s_.Points.map enc_gauge_Point)) (h_plan : Rd G 1 plan_p plan_c (plan.map encI_i64)) (hc : Ctx G (Lf) w) {res : Int × Int} (hF : gauge_Cost N s_ plan = some res) : Calls Try.prog 38 #[.agg #[i6 s_.Left,i6 s_.Right,i6 s_.Gap,i6 s_.Step_,.slice s__Points_p s_.Points.length s__Points_c],.slice plan_p plan.length plan_c] w (fun e w => e = .returned (.tuple #[i6 res.1,i6 res.2]) ∧ Ctx G (Lf) w) := by
 unfold gauge_Cost at hF
 refine fnIn Try.func38 rfl Try.ntmps38 rfl fun a hf => zS fun K h => zB hf hc rfl fun b_1 a w hf hc => zB hf hc rfl fun b_2 a w hf hc => sp 2 hf rfl fun a hf => zT h ?_
 refine wp_seq_k fun K2 h2 => zS fun K h => zN hf hc ag_55 m1 rfl fun a w hf hc => ?_
 obtain ⟨r,hr,hF⟩ := bnd_some hF
 refine zQ (v := i6 r) hf hc en_35 rfl (fun w hc => gauge_CheckSite_ok s_ h_s__Points hc hr) fun a w hf hc => sp 1 hf rfl fun a hf => zT h ?_
 refine zS fun K h => sp 2 hf rfl fun a hf => zT h ?_
 refine zI hf rfl hF ?_ ?_ <;> clear hF <;> intro hF
 ·refine zS fun K h => sp 3 hf rfl fun a hf => zT h ?_
  refine wp_ret ?_
  refine xThenR ?_
  obtain rfl := sj hF
  replace hc := (hc.drop k1).drop k0
  exact zO2 Try.results38 hf rfl rfl ⟨rfl,hc⟩
 ·refine wp_skip ?_
  refine h2 _ _ ?_
  refine zS fun K h => zN hf hc ag_55 m1 rfl fun a w hf hc => zP hf rfl (pBuildS (cells := (catc [i6 s_.Left,i6 s_.Right,i6 s_.Gap,i6 s_.Step_,.slice s__Points_p s_.Points.length s__Points_c] 32 enc_gauge_spent (fun _ => (⟨0,0⟩ : gauge_spent)) [.map none])) bt_130 rfl rfl) fun a hf => stBx (cs := (catc [i6 s_.Left,i6 s_.Right,i6 s_.Gap,i6 s_.Step_,.slice s__Points_p s_.Points.length s__Points_c] 32 enc_gauge_spent (fun _ => (⟨0,0⟩ : gauge_spent)) [.map none])) hf hc rfl rfl rfl rfl fun b_3 a w hf hc => sp 1 hf rfl fun a hf => zT h ?_
  refine wp_seq_k fun K7 h7 => wp_block ?_
  refine zS fun K h => zL hf hc sc_43 m1 rfl fun a w hf hc => zP hf rfl (pMF (us := [pq b_1]) rfl rfl) fun a hf => ?_
  obtain ⟨r_1,hr_1,hF⟩ := bnd_some hF
  refine zQ (v := .bool r_1) hf hc en_79 rfl (fun w hc => (gauge_every_int_s2_ok plan s_ h_plan h_s__Points (hc.pick k2) hr_1).mono fun e w h => ⟨h.1,(h.2.unpick k2)⟩) fun a w hf hc => sp 2 hf rfl fun a hf => zT h ?_
  refine zI hf rfl hF ?_ ?_ <;> clear hF <;> intro hF
  ·refine zS fun K h => sp 2 hf rfl fun a hf => zT h ?_
   refine wp_ret ?_
   refine xBlkR ?_
   refine xThenR ?_
   obtain rfl := sj hF
   replace hc := ((hc.drop k2).drop k1).drop k0
   exact zO2 Try.results38 hf rfl rfl ⟨rfl,hc⟩
  ·refine zS fun K h => zL hf hc sc_43 m1 rfl fun a w hf hc => zP hf rfl (pLenS Try.underlying43 rfl) fun a hf => zP hf rfl (pMF (us := [pq b_2]) rfl rfl) fun a hf => ?_
   obtain ⟨r_2,hr_2,hF⟩ := bnd_some hF
   refine zQ (v := .bool r_2) hf hc en_76 rfl (fun w hc => (gauge_rising_s3_ok ((plan.length : Nat) : Int) plan h_plan (hc.pick k1) hr_2).mono fun e w h => ⟨h.1,(h.2.unpick k1)⟩) fun a w hf hc => sp 2 hf rfl fun a hf => zT h ?_
   refine zI hf rfl hF ?_ ?_ <;> clear hF <;> intro hF
   ·refine zS fun K h => sp 2 hf rfl fun a hf => zT h ?_
    refine wp_ret ?_
    refine xBlkR ?_
    refine xThenR ?_
    obtain rfl := sj hF
    replace hc := ((hc.drop k2).drop k1).drop k0
    exact zO2 Try.results38 hf rfl rfl ⟨rfl,hc⟩
   ·refine wp_skip ?_
    refine h7 _ _ ?_
    refine zS fun K h => sp 1 hf rfl fun a hf => zP hf rfl (pMF (vs := [pq b_3]) (us := []) rfl rfl) fun a hf => sp 3 hf rfl fun a hf => zT h ?_
    refine wp_seq_k fun K13 h13 => wp_seq_k fun K14 h14 => ?_
    obtain ⟨r_3,hr_3,hF⟩ := bnd_some hF
    obtain ⟨un,hun,hF⟩ := bnd_some hF
    replace hc := hc.nilRow 0 0
    replace hc := hc.nilRow 0 0
    refine regionE (fun θ => [⟨none,none,2,pq b_1⟩,⟨none,none,3,pq b_2⟩,⟨none,none,7,pq b_3⟩,⟨none,none,8,i6 0⟩,⟨none,none,9,i6 0⟩,⟨none,none,10,.func (.func 82) #[pq b_3] #[]⟩,⟨some 0,none,34,.slice plan_p plan.length plan_c⟩,⟨some 1,none,35,.slice ((θ 8).p) r_3.length ((θ 8).c)⟩,⟨some 2,none,36,.pointer (some ⟨b_1,4,none⟩)⟩,⟨some 3,none,37,.slice s__Points_p s_.Points.length s__Points_c⟩,⟨some 4,none,38,i6 ((s_.Points.length : Nat) : Int)⟩,⟨some 5,none,39,i6 (W (((s_.Points.length : Nat) : Int) + 1))⟩,⟨some 6,none,40,.slice (some ⟨(θ 48).b,0,none⟩) 1 1⟩,⟨some 7,none,41,.slice ((θ 56).p) ((r_3 ++ [W (((s_.Points.length : Nat) : Int) + 1)]).length) ((θ 56).c)⟩,⟨some 8,none,42,i6 (((r_3 ++ [W (((s_.Points.length : Nat) : Int) + 1)]).length : Nat) : Int)⟩,⟨some 9,none,43,i6 0⟩]) (fun E θ => (bif E 6 then .row (some ⟨(θ 48).b,0,none⟩) 1 (([W (((s_.Points.length : Nat) : Int) + 1)] : List Int).map encI_i64) 3 1 else .row none 0 [] 0 0)::(bif E 7 then .row ((θ 56).p) ((θ 56).c) ((r_3 ++ [W (((s_.Points.length : Nat) : Int) + 1)]).map encI_i64) 3 1 else bif E 1 then .row ((θ 8).p) ((θ 8).c) (r_3.map encI_i64) 3 1 else .row none 0 [] 0 0)::.box b_3 (catc [i6 s_.Left,i6 s_.Right,i6 s_.Gap,i6 s_.Step_,.slice s__Points_p s_.Points.length s__Points_c] 32 enc_gauge_spent (fun _ => (⟨0,0⟩ : gauge_spent)) [.map none]) 130::.box b_2 [.slice plan_p plan.length plan_c] 43::.box b_1 [i6 s_.Left,i6 s_.Right,i6 s_.Gap,i6 s_.Step_,.slice s__Points_p s_.Points.length s__Points_c] 55::Lf) [(7,1)] (fun a w => ∃ (p_3 : Option Addr) (c_3 : Nat) (b_5 : Nat),Has 61 a [(7,pq b_3),(8,i6 0),(9,i6 0),(10,.func (.func 82) #[pq b_3] #[]),(41,.slice p_3 ((r_3 ++ [W (((s_.Points.length : Nat) : Int) + 1)]).length) c_3),(42,i6 (((r_3 ++ [W (((s_.Points.length : Nat) : Int) + 1)]).length : Nat) : Int)),(43,i6 0)] ∧ Ctx G (.row (some ⟨b_5,0,none⟩) 1 (([W (((s_.Points.length : Nat) : Int) + 1)] : List Int).map encI_i64) 3 1::.row p_3 c_3 ((r_3 ++ [W (((s_.Points.length : Nat) : Int) + 1)]).map encI_i64) 3 1::.box b_3 (catc [i6 s_.Left,i6 s_.Right,i6 s_.Gap,i6 s_.Step_,.slice s__Points_p s_.Points.length s__Points_c] 32 enc_gauge_spent (fun _ => (⟨0,0⟩ : gauge_spent)) [.map none]) 130::.box b_2 [.slice plan_p plan.length plan_c] 43::.box b_1 [i6 s_.Left,i6 s_.Right,i6 s_.Gap,i6 s_.Step_,.slice s__Points_p s_.Points.length s__Points_c] 55::Lf) w) follows_mx (by kernel_rfl) (by kernel_rfl) (HasE.of hf ⟨rfl,rfl,rfl,rfl,rfl,rfl,trivial,trivial,trivial,trivial,trivial,trivial,trivial,trivial,trivial,trivial,trivial⟩) hc ⟨?_,?_,?_,?_,?_,?_,?_,?_,?_,?_,trivial⟩ ?_ ?_
    ·intro E θ a w hD hi hp he hc
     have hf := he.h0.mT he 1 rfl
     refine zL hf hc sc_43 m3 rfl fun a w hf hc => zD θ he hi hf 6 rfl rfl rfl hc
    ·intro E θ a w hD hi hp he hc
     have e0 := hp.o 0 rfl
     have e7 := hD.f 0 rfl hi
     try dsimp only at hc
     rw [hi,e7] at hc
     have hf := he.h0.mP he 6 rfl e0
     refine zC hf en_83 rfl (slices_Clone_Lint_int_ok plan h_plan hc hr_3) ?_
     rintro _ w ⟨p_1,c_1,rfl,hc⟩
     refine ⟨_,rfl,fun a hf => ?_⟩
     refine cNil ?_
     refine xThenN ?_
     intro ds u hau
     replace hc := ((hc.drop k2).pick k0).pick k1
     refine ⟨(setT θ 8 ⟨0,p_1,c_1,(fun _ => (none,0))⟩),he.put hi hau hf rfl [] trivial ⟨qq,qq,qq,qq,qq,qq,qq,qq,qq,qq,qq,qq,qq,qq,qq,qq,trivial⟩,?_⟩
     try dsimp only
     rw [updE_self E 1,updE_fls 1 e7 rfl]
     exact hc
    ·intro E θ a w hD hi hp he hc
     have hf := he.h0.mT he 0 rfl
     refine zP hf rfl (pFA fa_55_4 rfl) fun a hf => zD θ he hi hf 8 rfl rfl rfl hc
    ·intro E θ a w hD hi hp he hc
     have e2 := hp.o 2 rfl
     have hf := he.h0.mP he 8 rfl e2
     refine zL hf hc sc_53 m4 rfl fun a w hf hc => zD θ he hi hf 9 rfl rfl rfl hc
    ·intro E θ a w hD hi hp he hc
     have e3 := hp.o 3 rfl
     have hf := he.h0.mP he 9 rfl e3
     refine zP hf rfl (pLenS Try.underlying53 rfl) fun a hf => zD θ he hi hf 10 rfl rfl rfl hc
    ·intro E θ a w hD hi hp he hc
     have e4 := hp.o 4 rfl
     have hf := he.h0.mP he 10 rfl e4
     refine sp 1 hf rfl fun a hf => zD θ he hi hf 11 rfl rfl rfl hc
    ·intro E θ a w hD hi hp he hc
     have e5 := hp.o 5 rfl
     try dsimp only at hc
     rw [hi] at hc
     have hf := he.h0.mP he 11 rfl e5
     refine stBS (rows := ([W (((s_.Points.length : Nat) : Int) + 1)] : List Int).map encI_i64) (vs := [(0,i6 (W (((s_.Points.length : Nat) : Int) + 1)))]) hf hc rfl rfl sl_43 rfl ⟨rfl,rfl,rfl,trivial⟩ rfl rfl fun b_4 a w hf hc => cNil ?_
     refine xThenN ?_
     intro ds u hau
     replace hc := hc.drop k1
     refine ⟨(setT θ 48 ⟨b_4,none,0,(fun _ => (none,0))⟩),he.put hi hau hf rfl [] trivial ⟨qq,qq,qq,qq,qq,qq,qq,qq,qq,qq,qq,qq,qq,qq,qq,qq,trivial⟩,?_⟩
     try dsimp only
     rw [updE_self E 6]
     exact hc
    ·intro E θ a w hD hi hp he hc
     have e1 := hp.o 1 rfl
     have e6 := hp.o 6 rfl
     try dsimp only at hc
     rw [e6,e1,hi] at hc
     have hf := (he.h0.mP he 7 rfl e1).mP he 12 rfl e6
     refine stApm (xs := r_3) (ys := ([W (((s_.Points.length : Nat) : Int) + 1)] : List Int)) hf hc rfl rfl sl_43 rfl rfl rfl rfl rfl one_encI_i64 (src_row hc m0) (fun _ _ => u1) (by simpa using room_spec hun) fun p_2 c_2 a w hf hc => cNil ?_
     refine xThenN ?_
     intro ds u hau
     refine ⟨(setT θ 56 ⟨0,p_2,c_2,(fun _ => (none,0))⟩),he.put hi hau hf rfl [] trivial ⟨qq,qq,qq,qq,qq,qq,qq,qq,qq,qq,qq,qq,qq,qq,qq,qq,trivial⟩,?_⟩
     try dsimp only
     rw [updE_tru 7 e6,updE_tru 7 e1,updE_self E 7]
     exact hc
    ·intro E θ a w hD hi hp he hc
     have e7 := hp.o 7 rfl
     have hf := he.h0.mP he 13 rfl e7
     refine zP hf rfl (pLenS Try.underlying43 rfl) fun a hf => zD θ he hi hf 14 rfl rfl rfl hc
    ·intro E θ a w hD hi hp he hc
     have hf := he.h0
     refine sp 1 hf rfl fun a hf => zD θ he hi hf 15 rfl rfl rfl hc
    ·intro E θ a w hall he hc
     have hf := he.h0
     have e1 := hall 1 rfl
     have e6 := hall 6 rfl
     have e7 := hall 7 rfl
     have e8 := hall 8 rfl
     have e9 := hall 9 rfl
     replace hf := hf.more he 15 rfl (onP e9)
     replace hf := hf.more he 14 rfl (onP e8)
     replace hf := hf.more he 13 rfl (onP e7)
     replace hf := hf.more he 5 rfl (onT)
     replace hf := hf.more he 4 rfl (onT)
     replace hf := hf.more he 3 rfl (onT)
     replace hf := hf.more he 2 rfl (onT)
     try dsimp only at hc
     rw [e1,e6,e7] at hc
     exact ⟨(θ 56).p,(θ 56).c,(θ 48).b,hf.kp rfl,hc⟩
    rintro a w ⟨p_3,c_3,b_5,hf,hc⟩
    refine h14 _ _ ?_
    refine wp_block ?_
    obtain ⟨x15,hx15,hF⟩ := bnd_some hF
    let S15 : (Int × Int × Int) → Act → World → Prop := (fun (zz : Int × Int × Int) a w => ∃ (p_4 : Option Addr) (c_4 : Nat),Has 61 a [(7,pq b_3),(8,i6 zz.1),(9,i6 zz.2.1),(10,.func (.func 82) #[pq b_3] #[]),(41,.slice p_4 ((r_3 ++ [W (((s_.Points.length : Nat) : Int) + 1)]).length) c_4),(42,i6 (((r_3 ++ [W (((s_.Points.length : Nat) : Int) + 1)]).length : Nat) : Int)),(43,i6 zz.2.2)] ∧ Ctx G (.row p_4 c_4 ((r_3 ++ [W (((s_.Points.length : Nat) : Int) + 1)]).map encI_i64) 3 1::.box b_3 (catc [i6 s_.Left,i6 s_.Right,i6 s_.Gap,i6 s_.Step_,.slice s__Points_p s_.Points.length s__Points_c] 32 enc_gauge_spent (fun _ => (⟨0,0⟩ : gauge_spent)) [.map none]) 130::Lf) w)
    have hr15 : ∀ (zz : Int × Int × Int) a w,x15 = .go zz → S15 zz a w → K13 a w := by
     rintro ⟨sum,at_,x⟩ a w rfl ⟨p_4,c_4,hf,hc⟩
     replace hF := exK_go hF
     refine h13 _ _ ?_
     refine zS fun K h => sp 3 hf rfl fun a hf => zT h ?_
     refine wp_ret ?_
     obtain rfl := sj hF
     replace hc := (hc.drop k1).drop k0
     exact zO2 Try.results38 hf rfl rfl ⟨rfl,hc⟩
    have ho15 : ∀ r,x15 = .out r → r = res := by
     rintro r rfl
     exact sj hF
    replace hc := ((hc.drop k4).drop k3).drop k0
    refine cLoop N (loopW (S := S15) (x := x15) ?_ N (0,0,0) _ _ ⟨p_3,c_3,hf.kp rfl,hc⟩ hx15)
    clear hF hf hc
    rintro ⟨sum,at_,x⟩ st15 a w KB15 ⟨p_4,c_4,hf,hc⟩ hF hfin15 hK15
    unfold gauge_Cost_b15 at hF
    refine zS fun K h => sp 1 hf rfl fun a hf => zT h ?_
    refine wp_seq_k fun K18 h18 => zI hf rfl hF ?_ ?_ <;> clear hF <;> intro hF
    ·refine wp_skip ?_
     refine h18 _ _ ?_
     refine wp_seq_k fun K19 h19 => wp_block ?_
     refine zS fun K h => ?_
     obtain ⟨e_1,he_1,hF⟩ := bnd_some hF
     obtain ⟨g,rfl,qa,qr⟩ := row_atm hc m0 he_1
     refine zP hf rfl (pIA Try.underlying43 sz_3 rfl rfl qa) fun a hf => zE hf hc rfl (eLd1 sc_3 rfl (cell_row (sz := 1) (i := x.toNat) (j := 0) m0 qr rfl)) fun a w hf hc => sp 1 hf rfl fun a hf => zT h ?_
     refine wp_seq_k fun K21 h21 => zS fun K h => sp 3 hf rfl fun a hf => ?_
     obtain ⟨r_4,hr_4,hF⟩ := bnd_some hF
     refine zQ (v := .bool r_4) hf hc en_82 rfl (fun w hc => (gauge_work_steps_s2_ok s_.Left s_.Right s_.Gap s_.Step_ s_.Points (fun _ => (⟨0,0⟩ : gauge_spent)) at_ e_1 h_s__Points (hc.pick k1) hr_4).mono fun e w h => ⟨h.1,(h.2.unpick k1)⟩) fun a w hf hc => sp 1 hf rfl fun a hf => zT h ?_
     refine zI hf rfl hF ?_ ?_ <;> clear hF <;> intro hF
     ·refine zS fun K h => sp 2 hf rfl fun a hf => zT h ?_
      refine wp_ret ?_
      refine xThenR ?_
      refine xBlkR ?_
      refine xThenR ?_
      refine xThenR ?_
      have he := sj hF
      rw [← he] at hfin15
      replace hF := ho15 _ hfin15
      refine xBlkR ?_
      refine xThenR ?_
      obtain rfl := hF
      replace hc := (hc.drop k1).drop k0
      exact zO2 Try.results38 hf rfl rfl ⟨rfl,hc⟩
     ·refine wp_skip ?_
      refine h21 _ _ ?_
      refine cReg ?_
      refine sp 3 hf rfl fun a hf => ?_
      obtain ⟨r_5,hr_5,hF⟩ := bnd_some hF
      refine zQ (v := .agg #[i6 r_5.At,i6 r_5.Depth,i6 r_5.Cost]) hf hc en_84 rfl (fun w hc => (gauge_work_station_s2_ok s_.Left s_.Right s_.Gap s_.Step_ s_.Points (fun _ => (⟨0,0⟩ : gauge_spent)) e_1 h_s__Points (hc.pick k1) hr_5).mono fun e w h => ⟨h.1,(h.2.unpick k1)⟩) fun a w hf hc => zP hf rfl (pField1 Try.underlying64 rfl sc_3 rfl rfl) fun a hf => sp 4 hf rfl fun a hf => cNil ?_
      refine h19 _ _ ?_
      refine cReg ?_
      refine sp 2 hf rfl fun a hf => cNil ?_
      exact hK15 (W (sum + r_5.Cost),e_1,W (x + 1)) _ _ (sj hF).symm ⟨(some ⟨g,0,none⟩),c_4,hf.kp rfl,hc⟩
    ·refine wp_exit ?_
     refine xThen ?_
     refine xThen ?_
     have he := sj hF
     rw [← he] at hfin15
     refine cHit ?_
     exact hr15 _ _ _ hfin15 ⟨p_4,c_4,hf.kp rfl,hc⟩

def ref03_stations (N : Nat) (s_ : ref03_Site) : Option ((List ref03_Point)) :=
 Option.bind (room ((([(⟨s_.Left,0,0⟩ : ref03_Point)] : List ref03_Point) ++ s_.Points)).length) fun un =>
 Option.bind (room (((([(⟨s_.Left,0,0⟩ : ref03_Point)] : List ref03_Point) ++ s_.Points) ++ [(⟨s_.Right,0,0⟩ : ref03_Point)])).length) fun un_1 =>
 some ((([(⟨s_.Left,0,0⟩ : ref03_Point)] : List ref03_Point) ++ s_.Points) ++ [(⟨s_.Right,0,0⟩ : ref03_Point)])
theorem ref03_stations_ok {N : Nat} {G : Pers} {Lf : List Ent} {w : World} (s_ : ref03_Site) {s__Points_p : Option Addr} {s__Points_c : Nat} (h_s__Points : Rd G 3 s__Points_p s__Points_c (s_.Points.map enc_ref03_Point)) (hc : Ctx G (Lf) w) {res : (List ref03_Point)} (hF : ref03_stations N s_ = some res) : Calls Try.prog 85 #[.agg #[i6 s_.Left,i6 s_.Right,i6 s_.Gap,i6 s_.Step_,.slice s__Points_p s_.Points.length s__Points_c]] w (fun e w => ∃ (p'1 : Option Addr) (c'1 : Nat),e = .returned (.slice p'1 res.length c'1) ∧ Ctx G (.row p'1 c'1 (res.map enc_ref03_Point) 143 3::Lf) w) := by
 unfold ref03_stations at hF
 refine fnIn Try.func85 rfl Try.ntmps85 rfl fun a hf => zS fun K h => zB hf hc rfl fun b_1 a w hf hc => sp 1 hf rfl fun a hf => zT h ?_
 refine zS fun K h => zP hf rfl (pFA fa_85_0 rfl) fun a hf => zL hf hc sc_3 m0 rfl fun a w hf hc => zP hf rfl (pBuildS (cells := [i6 s_.Left,i6 0,i6 0]) bt_143 rfl rfl) fun a hf => stBS (rows := ([(⟨s_.Left,0,0⟩ : ref03_Point)] : List ref03_Point).map enc_ref03_Point) (vs := [(0,.agg #[i6 s_.Left,i6 0,i6 0])]) hf hc rfl rfl sl_83 rfl ⟨rfl,rfl,rfl,trivial⟩ rfl rfl fun b_2 a w hf hc => sp 1 hf rfl fun a hf => zT h ?_
 refine zS fun K h => sp 1 hf rfl fun a hf => zP hf rfl (pFA fa_85_4 rfl) fun a hf => zL hf hc sc_83 m1 rfl fun a w hf hc => ?_
 obtain ⟨un,hun,hF⟩ := bnd_some hF
 refine stApm (xs := ([(⟨s_.Left,0,0⟩ : ref03_Point)] : List ref03_Point)) (ys := s_.Points) hf hc rfl rfl sl_83 rfl rfl rfl rfl rfl one_enc_ref03_Point (src_rd hc h_s__Points) (fun _ _ => u0) (by simpa using room_spec hun) fun p_1 c_1 a w hf hc => sp 1 hf rfl fun a hf => zT h ?_
 refine zS fun K h => sp 1 hf rfl fun a hf => zP hf rfl (pFA fa_85_1 rfl) fun a hf => zL hf hc sc_3 m1 rfl fun a w hf hc => zP hf rfl (pBuildS (cells := [i6 s_.Right,i6 0,i6 0]) bt_143 rfl rfl) fun a hf => stBS (rows := ([(⟨s_.Right,0,0⟩ : ref03_Point)] : List ref03_Point).map enc_ref03_Point) (vs := [(0,.agg #[i6 s_.Right,i6 0,i6 0])]) hf hc rfl rfl sl_83 rfl ⟨rfl,rfl,rfl,trivial⟩ rfl rfl fun b_3 a w hf hc => ?_
 obtain ⟨un_1,hun_1,hF⟩ := bnd_some hF
 refine stApm (xs := (([(⟨s_.Left,0,0⟩ : ref03_Point)] : List ref03_Point) ++ s_.Points)) (ys := ([(⟨s_.Right,0,0⟩ : ref03_Point)] : List ref03_Point)) hf hc rfl rfl sl_83 rfl rfl rfl rfl rfl one_enc_ref03_Point (src_row hc m0) (fun _ _ => u1) (by simpa using room_spec hun_1) fun p_2 c_2 a w hf hc => sp 1 hf rfl fun a hf => zT h ?_
 refine wp_ret ?_
 obtain rfl := sj hF
 replace hc := (hc.drop k2).drop k0
 exact zO1 Try.results85 hf rfl ⟨p_2,c_2,rfl,hc⟩

def ref03_goes_j3 (N : Nat) (s_ : ref03_Site) (a_ : ref03_Point) (b_ : ref03_Point) (deep : Int) : Option (Bool) :=
 some ((decide ((W (b_.At - a_.At)) ≤ s_.Gap)) && (decide (deep ≤ s_.Step_)))
def ref03_goes (N : Nat) (s_ : ref03_Site) (a_ : ref03_Point) (b_ : ref03_Point) : Option (Bool) :=
 cond (decide ((W (a_.Depth - b_.Depth)) < 0))
 (ref03_goes_j3 N s_ a_ b_ (W (0 - (W (a_.Depth - b_.Depth)))))
 (ref03_goes_j3 N s_ a_ b_ (W (a_.Depth - b_.Depth)))
theorem ref03_goes_ok {N : Nat} {G : Pers} {Lf : List Ent} {w : World} (s_ : ref03_Site) (a_ : ref03_Point) (b_ : ref03_Point) {s__Points_p : Option Addr} {s__Points_c : Nat} (h_s__Points : Rd G 3 s__Points_p s__Points_c (s_.Points.map enc_ref03_Point)) (hc : Ctx G (Lf) w) {res : Bool} (hF : ref03_goes N s_ a_ b_ = some res) : Calls Try.prog 86 #[.agg #[i6 s_.Left,i6 s_.Right,i6 s_.Gap,i6 s_.Step_,.slice s__Points_p s_.Points.length s__Points_c],.agg #[i6 a_.At,i6 a_.Depth,i6 a_.Cost],.agg #[i6 b_.At,i6 b_.Depth,i6 b_.Cost]] w (fun e w => e = .returned (.bool res) ∧ Ctx G (Lf) w) := by
 unfold ref03_goes at hF
 refine fnIn Try.func86 rfl Try.ntmps86 rfl fun a hf => zS fun K h => zB hf hc rfl fun b_1 a w hf hc => zB hf hc rfl fun b_2 a w hf hc => zB hf hc rfl fun b_3 a w hf hc => sp 1 hf rfl fun a hf => zT h ?_
 refine zS fun K h => zP hf rfl (pFA fa_143_1 rfl) fun a hf => zL hf hc sc_3 m1 rfl fun a w hf hc => zP hf rfl (pFA fa_143_1 rfl) fun a hf => zL hf hc sc_3 m0 rfl fun a w hf hc => sp 2 hf rfl fun a hf => zT h ?_
 refine wp_seq_k fun K3 h3 => ?_
 have hj3 : ∀ (deep : Int) a w,Has 31 a [(3,pq b_1),(4,pq b_2),(5,pq b_3),(7,i6 deep)] → Ctx G (.box b_3 [i6 b_.At,i6 b_.Depth,i6 b_.Cost] 143::.box b_2 [i6 a_.At,i6 a_.Depth,i6 a_.Cost] 143::.box b_1 [i6 s_.Left,i6 s_.Right,i6 s_.Gap,i6 s_.Step_,.slice s__Points_p s_.Points.length s__Points_c] 85::Lf) w → ref03_goes_j3 N s_ a_ b_ deep = some res → K3 a w := by
  repeat (clear hF)
  repeat (clear hc)
  repeat (clear hf)
  intro deep a w hf hc hF
  unfold ref03_goes_j3 at hF
  refine h3 _ _ ?_
  refine zS fun K h => zP hf rfl (pFA fa_143_0 rfl) fun a hf => zL hf hc sc_3 m0 rfl fun a w hf hc => zP hf rfl (pFA fa_143_0 rfl) fun a hf => zL hf hc sc_3 m1 rfl fun a w hf hc => sp 1 hf rfl fun a hf => zP hf rfl (pFA fa_85_2 rfl) fun a hf => zL hf hc sc_3 m2 rfl fun a w hf hc => sp 2 hf rfl fun a hf => stCc 5 (fun a => Has 31 a [(3,pq b_1),(4,pq b_2),(5,pq b_3),(7,i6 deep),(17,pq b_3),(18,i6 b_.At),(19,pq b_2),(20,i6 a_.At),(21,i6 (W (b_.At - a_.At))),(22,.pointer (some ⟨b_1,2,none⟩)),(23,i6 s_.Gap),(24,.bool (decide ((W (b_.At - a_.At)) ≤ s_.Gap))),(25,.bool (decide ((W (b_.At - a_.At)) ≤ s_.Gap))),(30,.bool ((decide ((W (b_.At - a_.At)) ≤ s_.Gap)) && (decide (deep ≤ s_.Step_))))]) hc ?_ ?_
  ·cases hb : (decide ((W (b_.At - a_.At)) ≤ s_.Gap))
   ·rw [hb] at hf
    refine stS hf rfl rfl rfl fun a hf => stS hf rfl rfl rfl fun a hf => stS hf rfl rfl rfl fun a hf => stS hf rfl rfl rfl fun a hf => sp 1 hf rfl fun a hf => cNil ⟨hf.kp rfl,hc⟩
   ·rw [hb] at hf
    refine sp 1 hf rfl fun a hf => zP hf rfl (pFA fa_85_3 rfl) fun a hf => zL hf hc sc_3 m2 rfl fun a w hf hc => sp 2 hf rfl fun a hf => cNil ⟨hf.kp rfl,hc⟩
  intro a w ⟨hf,hc⟩
  refine sp 1 hf rfl fun a hf => zT h ?_
  refine wp_ret ?_
  obtain rfl := sj hF
  replace hc := ((hc.drop k2).drop k1).drop k0
  exact zO1 Try.results86 hf rfl ⟨rfl,hc⟩
 refine zS fun K h => sp 2 hf rfl fun a hf => zT h ?_
 refine zI hf rfl hF ?_ ?_ <;> clear hF <;> intro hF
 ·refine cReg ?_
  refine sp 3 hf rfl fun a hf => cNil ?_
  exact hj3 (W (0 - (W (a_.Depth - b_.Depth)))) _ _  (hf.kp rfl) hc hF
 ·refine wp_skip ?_
  exact hj3 (W (a_.Depth - b_.Depth)) _ _  (hf.kp rfl) hc hF

def ref03_Cost_b17 (N : Nat) (s_ : ref03_Site) (plan : List Int) (r_1 : (List ref03_Point)) (sum : Int) (i_3 : Int) (x : Int) (x_1 : Int) (x_2 : Int) : Option (Step (Int × Int × Int × Int × Int) (Int × Int)) :=
 cond (decide (i_3 < ((plan.length : Nat) : Int)))
 (Option.bind (getI plan i_3) fun e_3 =>
 Option.bind (getI r_1 e_3) fun e_4 =>
 Option.bind (ref03_goes N s_ (⟨x,x_1,x_2⟩ : ref03_Point) e_4) fun r_3 =>
 cond (!r_3)
 (some (.ret (0,7)))
 (Option.bind (getI plan i_3) fun e_5 =>
 Option.bind (getI r_1 e_5) fun e_6 =>
 some (.cont (W (sum + e_6.Cost),W (i_3 + 1),e_6.At,e_6.Depth,e_6.Cost))))
 (some (.brk (sum,i_3,x,x_1,x_2)))
def ref03_Cost_b11 (N : Nat) (plan : List Int) (i_2 : Int) : Option (Step (Int) (Int × Int)) :=
 cond (decide (i_2 < ((plan.length : Nat) : Int)))
 (Option.bind (getI plan i_2) fun e_7 =>
 Option.bind (getI plan (W (i_2 - 1))) fun e_8 =>
 cond (decide (e_7 ≤ e_8))
 (some (.ret (0,9)))
 (some (.cont (W (i_2 + 1)))))
 (some (.brk i_2))
def ref03_Cost_b8 (N : Nat) (s_ : ref03_Site) (plan : List Int) (i_1 : Int) : Option (Step (Int) (Int × Int)) :=
 cond (decide (i_1 < ((plan.length : Nat) : Int)))
 (Option.bind (getI plan i_1) fun e_9 =>
 cond (ref03_outside e_9 1 ((s_.Points.length : Nat) : Int))
 (some (.ret (0,2)))
 (some (.cont (W (i_1 + 1)))))
 (some (.brk i_1))
def ref03_Cost (N : Nat) (s_ : ref03_Site) (plan : List Int) : Option (Int × Int) :=
 Option.bind (ref03_CheckSite N s_) fun r =>
 cond (r != 0)
 (some (0,r))
 (Option.bind (loopO (fun s8 => ref03_Cost_b8 N s_ plan s8) N 0) fun x8 =>
 exK x8 (fun s8 => Option.bind (loopO (fun s11 => ref03_Cost_b11 N plan s11) N 1) fun x11 =>
 exK x11 (fun s11 => Option.bind (ref03_stations N s_) fun r_1 =>
 Option.bind (getI r_1 0) fun e_1 =>
 Option.bind (loopO (fun s17 => ref03_Cost_b17 N s_ plan r_1 s17.1 s17.2.1 s17.2.2.1 s17.2.2.2.1 s17.2.2.2.2) N (0,0,e_1.At,e_1.Depth,e_1.Cost)) fun x17 =>
 exK x17 (fun s17 => Option.bind (getI r_1 (W (((r_1.length : Nat) : Int) - 1))) fun e_2 =>
 Option.bind (ref03_goes N s_ (⟨s17.2.2.1,s17.2.2.2.1,s17.2.2.2.2⟩ : ref03_Point) e_2) fun r_2 =>
 cond (!r_2)
 (some (0,7))
 (some (s17.1,0))) some) some) some)
theorem ref03_Cost_ok {N : Nat} {G : Pers} {Lf : List Ent} {w : World} (s_ : ref03_Site) (plan : List Int) {s__Points_p : Option Addr} {s__Points_c : Nat} {plan_p : Option Addr} {plan_c : Nat} (h_s__Points : Rd G 3 s__Points_p s__Points_c (s_.Points.map enc_ref03_Point)) (h_plan : Rd G 1 plan_p plan_c (plan.map encI_i64)) (hc : Ctx G (Lf) w) {res : Int × Int} (hF : ref03_Cost N s_ plan = some res) : Calls Try.prog 39 #[.agg #[i6 s_.Left,i6 s_.Right,i6 s_.Gap,i6 s_.Step_,.slice s__Points_p s_.Points.length s__Points_c],.slice plan_p plan.length plan_c] w (fun e w => e = .returned (.tuple #[i6 res.1,i6 res.2]) ∧ Ctx G (Lf) w) := by
 unfold ref03_Cost at hF
 refine fnIn Try.func39 rfl Try.ntmps39 rfl fun a hf => zS fun K h => zB hf hc rfl fun b_1 a w hf hc => sp 2 hf rfl fun a hf => zT h ?_
 refine wp_seq_k fun K2 h2 => zS fun K h => zN hf hc ag_85 m0 rfl fun a w hf hc => ?_
 obtain ⟨r,hr,hF⟩ := bnd_some hF
 refine zQ (v := i6 r) hf hc en_36 rfl (fun w hc => ref03_CheckSite_ok s_ h_s__Points hc hr) fun a w hf hc => sp 1 hf rfl fun a hf => zT h ?_
 refine zS fun K h => sp 2 hf rfl fun a hf => zT h ?_
 refine zI hf rfl hF ?_ ?_ <;> clear hF <;> intro hF
 ·refine zS fun K h => sp 3 hf rfl fun a hf => zT h ?_
  refine wp_ret ?_
  refine xThenR ?_
  obtain rfl := sj hF
  replace hc := hc.drop k0
  exact zO2 Try.results39 hf rfl rfl ⟨rfl,hc⟩
 ·refine wp_skip ?_
  refine h2 _ _ ?_
  refine wp_seq_k fun K6 h6 => zS fun K h => sp 1 hf rfl fun a hf => zT h ?_
  refine wp_block ?_
  obtain ⟨x8,hx8,hF⟩ := bnd_some hF
  let S8 : Int → Act → World → Prop := (fun (zz : Int) a w => Has 92 a [(1,.slice plan_p plan.length plan_c),(2,pq b_1),(7,i6 zz)] ∧ Ctx G (.box b_1 [i6 s_.Left,i6 s_.Right,i6 s_.Gap,i6 s_.Step_,.slice s__Points_p s_.Points.length s__Points_c] 85::Lf) w)
  have hr8 : ∀ (zz : Int) a w,x8 = .go zz → S8 zz a w → K6 a w := by
   rintro i_1 a w rfl ⟨hf,hc⟩
   replace hF := exK_go hF
   refine h6 _ _ ?_
   refine wp_seq_k fun K9 h9 => zS fun K h => sp 1 hf rfl fun a hf => zT h ?_
   refine wp_block ?_
   obtain ⟨x11,hx11,hF⟩ := bnd_some hF
   let S11 : Int → Act → World → Prop := (fun (zz : Int) a w => Has 92 a [(1,.slice plan_p plan.length plan_c),(2,pq b_1),(8,i6 zz)] ∧ Ctx G (.box b_1 [i6 s_.Left,i6 s_.Right,i6 s_.Gap,i6 s_.Step_,.slice s__Points_p s_.Points.length s__Points_c] 85::Lf) w)
   have hr11 : ∀ (zz : Int) a w,x11 = .go zz → S11 zz a w → K9 a w := by
    rintro i_2 a w rfl ⟨hf,hc⟩
    replace hF := exK_go hF
    refine h9 _ _ ?_
    refine zS fun K h => zN hf hc ag_85 m0 rfl fun a w hf hc => ?_
    obtain ⟨r_1,hr_1,hF⟩ := bnd_some hF
    refine zC hf en_85 rfl (ref03_stations_ok s_ h_s__Points hc hr_1) ?_
    rintro _ w ⟨p_1,c_1,rfl,hc⟩
    refine ⟨_,rfl,fun a hf => ?_⟩
    refine sp 1 hf rfl fun a hf => zT h ?_
    refine zS fun K h => sp 1 hf rfl fun a hf => ?_
    obtain ⟨e_1,he_1,hF⟩ := bnd_some hF
    obtain ⟨g,rfl,qa,qr⟩ := row_atm hc m0 he_1
    refine zP hf rfl (pIA Try.underlying83 sz_143 rfl rfl qa) fun a hf => zE hf hc rfl (eLdN (vs := [i6 e_1.At,i6 e_1.Depth,i6 e_1.Cost]) ag_143 rfl rfl (cells_rw (sz := 3) (i := (0 : Int).toNat) m0 qr (n := 3) (o' := 0) rfl)) fun a w hf hc => zA hf hc zr_143 rfl fun b_2 a w hf hc => zW hf hc sz_143 u0 rfl fun w hc => zT h ?_
    refine zS fun K h => sp 1 hf rfl fun a hf => zT h ?_
    refine wp_seq_k fun K15 h15 => zS fun K h => sp 1 hf rfl fun a hf => zT h ?_
    refine wp_block ?_
    obtain ⟨x17,hx17,hF⟩ := bnd_some hF
    let S17 : (Int × Int × Int × Int × Int) → Act → World → Prop := (fun (zz : Int × Int × Int × Int × Int) a w => Has 92 a [(1,.slice plan_p plan.length plan_c),(2,pq b_1),(9,.slice (some ⟨g,0,none⟩) r_1.length c_1),(10,pq b_2),(11,i6 zz.1),(12,i6 zz.2.1)] ∧ Ctx G (.box b_2 [i6 zz.2.2.1,i6 zz.2.2.2.1,i6 zz.2.2.2.2] 143::.row (some ⟨g,0,none⟩) c_1 (r_1.map enc_ref03_Point) 143 3::.box b_1 [i6 s_.Left,i6 s_.Right,i6 s_.Gap,i6 s_.Step_,.slice s__Points_p s_.Points.length s__Points_c] 85::Lf) w)
    have hr17 : ∀ (zz : Int × Int × Int × Int × Int) a w,x17 = .go zz → S17 zz a w → K15 a w := by
     rintro ⟨sum,i_3,x,x_1,x_2⟩ a w rfl ⟨hf,hc⟩
     replace hF := exK_go hF
     refine h15 _ _ ?_
     refine wp_seq_k fun K18 h18 => wp_seq_k fun K19 h19 => ?_
     obtain ⟨e_2,he_2,hF⟩ := bnd_some hF
     obtain ⟨qa_1,qr_1⟩ := row_atk hc m1 he_2
     obtain ⟨r_2,hr_2,hF⟩ := bnd_some hF
     refine cQ hc follows_mx (by kernel_rfl) ?_
     refine qE hf rfl rfl rfl (eLdN (vs := [i6 s_.Left,i6 s_.Right,i6 s_.Gap,i6 s_.Step_,.slice s__Points_p s_.Points.length s__Points_c]) ag_85 rfl rfl (cells_box (n := 5) m2 rfl)) fun a hf => qE hf rfl rfl rfl (eLdN (vs := [i6 x,i6 x_1,i6 x_2]) ag_143 rfl rfl (cells_box (n := 3) m0 rfl)) fun a hf => qE hf rfl rfl rfl (Pu.ev (pM rfl)) fun a hf => qE hf rfl rfl rfl (Pu.ev (pM rfl)) fun a hf => qE hf rfl rfl rfl (Pu.ev (pLenS Try.underlying83 rfl)) fun a hf => qE hf rfl rfl rfl (Pu.ev (pSub rfl rfl)) fun a hf => qE hf rfl rfl rfl (Pu.ev (pIA Try.underlying83 sz_143 rfl rfl qa_1)) fun a hf => qE hf rfl rfl rfl (eLdN (vs := [i6 e_2.At,i6 e_2.Depth,i6 e_2.Cost]) ag_143 rfl rfl (cells_rw (sz := 3) (i := (W (((r_1.length : Nat) : Int) - 1)).toNat) m1 qr_1 (n := 3) (o' := 0) rfl)) fun a hf => qE hf rfl rfl rfl (eC (v := .bool r_2) (vs := [.agg #[i6 s_.Left,i6 s_.Right,i6 s_.Gap,i6 s_.Step_,.slice s__Points_p s_.Points.length s__Points_c],.agg #[i6 x,i6 x_1,i6 x_2],.agg #[i6 e_2.At,i6 e_2.Depth,i6 e_2.Cost]]) (caps := []) en_86 rfl rfl rfl rfl (fun w hc => ref03_goes_ok s_ (⟨x,x_1,x_2⟩ : ref03_Point) e_2 h_s__Points hc hr_2)) fun a hf => qE hf rfl rfl rfl (Pu.ev (pNot rfl)) fun a hf => ?_
     intro w hc
     refine h19 _ _ ?_
     refine zI hf rfl hF ?_ ?_ <;> clear hF <;> intro hF
     ·refine zS fun K h => sp 2 hf rfl fun a hf => zT h ?_
      refine wp_ret ?_
      refine xThenR ?_
      obtain rfl := sj hF
      replace hc := ((hc.drop k2).drop k1).drop k0
      exact zO2 Try.results39 hf rfl rfl ⟨rfl,hc⟩
     ·refine wp_skip ?_
      refine h18 _ _ ?_
      refine zS fun K h => sp 3 hf rfl fun a hf => zT h ?_
      refine wp_ret ?_
      obtain rfl := sj hF
      replace hc := ((hc.drop k2).drop k1).drop k0
      exact zO2 Try.results39 hf rfl rfl ⟨rfl,hc⟩
    have ho17 : ∀ r,x17 = .out r → r = res := by
     rintro r rfl
     exact sj hF
    refine cLoop N (loopW (S := S17) (x := x17) ?_ N (0,0,e_1.At,e_1.Depth,e_1.Cost) _ _ ⟨hf.kp rfl,hc⟩ hx17)
    clear hF hf hc
    rintro ⟨sum,i_3,x,x_1,x_2⟩ st17 a w KB17 ⟨hf,hc⟩ hF hfin17 hK17
    unfold ref03_Cost_b17 at hF
    refine wp_seq_k fun K22 h22 => zS fun K h => sp 2 hf rfl fun a hf => zP hf rfl (pLenS Try.underlying43 rfl) fun a hf => sp 1 hf rfl fun a hf => zT h ?_
    refine zI hf rfl hF ?_ ?_ <;> clear hF <;> intro hF
    ·refine wp_skip ?_
     refine h22 _ _ ?_
     refine wp_seq_k fun K24 h24 => wp_block ?_
     refine wp_seq_k fun K25 h25 => wp_seq_k fun K26 h26 => ?_
     obtain ⟨e_3,he_3,hF⟩ := bnd_some hF
     obtain ⟨b_3,o,qa_2,qp⟩ := h_plan.atm he_3
     obtain ⟨e_4,he_4,hF⟩ := bnd_some hF
     obtain ⟨qa_3,qr_2⟩ := row_atk hc m1 he_4
     obtain ⟨r_3,hr_3,hF⟩ := bnd_some hF
     refine cQ hc follows_mx (by kernel_rfl) ?_
     refine qE hf rfl rfl rfl (eLdN (vs := [i6 s_.Left,i6 s_.Right,i6 s_.Gap,i6 s_.Step_,.slice s__Points_p s_.Points.length s__Points_c]) ag_85 rfl rfl (cells_box (n := 5) m2 rfl)) fun a hf => qE hf rfl rfl rfl (eLdN (vs := [i6 x,i6 x_1,i6 x_2]) ag_143 rfl rfl (cells_box (n := 3) m0 rfl)) fun a hf => qE hf rfl rfl rfl (Pu.ev (pM rfl)) fun a hf => qE hf rfl rfl rfl (Pu.ev (pM rfl)) fun a hf => qE hf rfl rfl rfl (Pu.ev (pM rfl)) fun a hf => qE hf rfl rfl rfl (Pu.ev (pIA Try.underlying43 sz_3 rfl rfl qa_2)) fun a hf => qE hf rfl rfl rfl (eLd1 sc_3 rfl (cell_pc (j := 0) qp rfl)) fun a hf => qE hf rfl rfl rfl (Pu.ev (pIA Try.underlying83 sz_143 rfl rfl qa_3)) fun a hf => qE hf rfl rfl rfl (eLdN (vs := [i6 e_4.At,i6 e_4.Depth,i6 e_4.Cost]) ag_143 rfl rfl (cells_rw (sz := 3) (i := e_3.toNat) m1 qr_2 (n := 3) (o' := 0) rfl)) fun a hf => qE hf rfl rfl rfl (eC (v := .bool r_3) (vs := [.agg #[i6 s_.Left,i6 s_.Right,i6 s_.Gap,i6 s_.Step_,.slice s__Points_p s_.Points.length s__Points_c],.agg #[i6 x,i6 x_1,i6 x_2],.agg #[i6 e_4.At,i6 e_4.Depth,i6 e_4.Cost]]) (caps := []) en_86 rfl rfl rfl rfl (fun w hc => ref03_goes_ok s_ (⟨x,x_1,x_2⟩ : ref03_Point) e_4 h_s__Points hc hr_3)) fun a hf => qE hf rfl rfl rfl (Pu.ev (pNot rfl)) fun a hf => ?_
     intro w hc
     refine h26 _ _ ?_
     refine zI hf rfl hF ?_ ?_ <;> clear hF <;> intro hF
     ·refine zS fun K h => sp 2 hf rfl fun a hf => zT h ?_
      refine wp_ret ?_
      refine xThenR ?_
      refine xBlkR ?_
      refine xThenR ?_
      refine xThenR ?_
      have he := sj hF
      rw [← he] at hfin17
      replace hF := ho17 _ hfin17
      refine xBlkR ?_
      refine xThenR ?_
      obtain rfl := hF
      replace hc := ((hc.drop k2).drop k1).drop k0
      exact zO2 Try.results39 hf rfl rfl ⟨rfl,hc⟩
     ·refine wp_skip ?_
      refine h25 _ _ ?_
      refine zS fun K h => sp 3 hf rfl fun a hf => ?_
      obtain ⟨e_5,he_5,hF⟩ := bnd_some hF
      obtain ⟨b_4,o_1,qa_4,qp_1⟩ := h_plan.atm he_5
      refine zP hf rfl (pIA Try.underlying43 sz_3 rfl rfl qa_4) fun a hf => zE hf hc rfl (eLd1 sc_3 rfl (cell_pc (j := 0) qp_1 rfl)) fun a w hf hc => ?_
      obtain ⟨e_6,he_6,hF⟩ := bnd_some hF
      obtain ⟨qa_5,qr_3⟩ := row_atk hc m1 he_6
      refine zP hf rfl (pIA Try.underlying83 sz_143 rfl rfl qa_5) fun a hf => zE hf hc rfl (eLdN (vs := [i6 e_6.At,i6 e_6.Depth,i6 e_6.Cost]) ag_143 rfl rfl (cells_rw (sz := 3) (i := e_5.toNat) m1 qr_3 (n := 3) (o' := 0) rfl)) fun a w hf hc => zW hf hc sz_143 u0 rfl fun w hc => zT h ?_
      refine cReg ?_
      refine sp 1 hf rfl fun a hf => zP hf rfl (pFA fa_143_2 rfl) fun a hf => zL hf hc sc_3 m0 rfl fun a w hf hc => sp 2 hf rfl fun a hf => cNil ?_
      refine h24 _ _ ?_
      refine cReg ?_
      refine sp 3 hf rfl fun a hf => cNil ?_
      exact hK17 (W (sum + e_6.Cost),W (i_3 + 1),e_6.At,e_6.Depth,e_6.Cost) _ _ (sj hF).symm ⟨hf.kp rfl,hc⟩
    ·refine wp_exit ?_
     refine xThen ?_
     refine xThen ?_
     have he := sj hF
     rw [← he] at hfin17
     refine cHit ?_
     exact hr17 _ _ _ hfin17 ⟨hf.kp rfl,hc⟩
   have ho11 : ∀ r,x11 = .out r → r = res := by
    rintro r rfl
    exact sj hF
   refine cLoop N (loopW (S := S11) (x := x11) ?_ N 1 _ _ ⟨hf.kp rfl,hc⟩ hx11)
   clear hF hf hc
   rintro i_2 st11 a w KB11 ⟨hf,hc⟩ hF hfin11 hK11
   unfold ref03_Cost_b11 at hF
   refine wp_seq_k fun K29 h29 => zS fun K h => sp 2 hf rfl fun a hf => zP hf rfl (pLenS Try.underlying43 rfl) fun a hf => sp 1 hf rfl fun a hf => zT h ?_
   refine zI hf rfl hF ?_ ?_ <;> clear hF <;> intro hF
   ·refine wp_skip ?_
    refine h29 _ _ ?_
    refine wp_seq_k fun K31 h31 => wp_block ?_
    refine wp_seq_k fun K32 h32 => ?_
    obtain ⟨e_7,he_7,hF⟩ := bnd_some hF
    obtain ⟨b_5,o_2,qa_6,qp_2⟩ := h_plan.atm he_7
    obtain ⟨e_8,he_8,hF⟩ := bnd_some hF
    obtain ⟨b_6,o_3,qa_7,qp_3⟩ := h_plan.atm he_8
    refine cQ hc follows_mx (by kernel_rfl) ?_
    refine qE hf rfl rfl rfl (Pu.ev (pM rfl)) fun a hf => qE hf rfl rfl rfl (Pu.ev (pM rfl)) fun a hf => qE hf rfl rfl rfl (Pu.ev (pIA Try.underlying43 sz_3 rfl rfl qa_6)) fun a hf => qE hf rfl rfl rfl (eLd1 sc_3 rfl (cell_pc (j := 0) qp_2 rfl)) fun a hf => qE hf rfl rfl rfl (Pu.ev (pM rfl)) fun a hf => qE hf rfl rfl rfl (Pu.ev (pM rfl)) fun a hf => qE hf rfl rfl rfl (Pu.ev (pSub rfl rfl)) fun a hf => qE hf rfl rfl rfl (Pu.ev (pIA Try.underlying43 sz_3 rfl rfl qa_7)) fun a hf => qE hf rfl rfl rfl (eLd1 sc_3 rfl (cell_pc (j := 0) qp_3 rfl)) fun a hf => qE hf rfl rfl rfl (Pu.ev (pLe rfl rfl)) fun a hf => ?_
    intro w hc
    refine h32 _ _ ?_
    refine zI hf rfl hF ?_ ?_ <;> clear hF <;> intro hF
    ·refine zS fun K h => sp 2 hf rfl fun a hf => zT h ?_
     refine wp_ret ?_
     refine xBlkR ?_
     refine xThenR ?_
     refine xThenR ?_
     have he := sj hF
     rw [← he] at hfin11
     replace hF := ho11 _ hfin11
     refine xBlkR ?_
     refine xThenR ?_
     obtain rfl := hF
     replace hc := hc.drop k0
     exact zO2 Try.results39 hf rfl rfl ⟨rfl,hc⟩
    ·refine wp_skip ?_
     refine h31 _ _ ?_
     refine cReg ?_
     refine sp 3 hf rfl fun a hf => cNil ?_
     exact hK11 (W (i_2 + 1)) _ _ (sj hF).symm ⟨hf.kp rfl,hc⟩
   ·refine wp_exit ?_
    refine xThen ?_
    refine xThen ?_
    have he := sj hF
    rw [← he] at hfin11
    refine cHit ?_
    exact hr11 _ _ _ hfin11 ⟨hf.kp rfl,hc⟩
  have ho8 : ∀ r,x8 = .out r → r = res := by
   rintro r rfl
   exact sj hF
  refine cLoop N (loopW (S := S8) (x := x8) ?_ N 0 _ _ ⟨hf.kp rfl,hc⟩ hx8)
  clear hF hf hc
  rintro i_1 st8 a w KB8 ⟨hf,hc⟩ hF hfin8 hK8
  unfold ref03_Cost_b8 at hF
  refine wp_seq_k fun K34 h34 => zS fun K h => sp 2 hf rfl fun a hf => zP hf rfl (pLenS Try.underlying43 rfl) fun a hf => sp 1 hf rfl fun a hf => zT h ?_
  refine zI hf rfl hF ?_ ?_ <;> clear hF <;> intro hF
  ·refine wp_skip ?_
   refine h34 _ _ ?_
   refine wp_seq_k fun K36 h36 => wp_block ?_
   refine wp_seq_k fun K37 h37 => ?_
   obtain ⟨e_9,he_9,hF⟩ := bnd_some hF
   obtain ⟨b_7,o_4,qa_8,qp_4⟩ := h_plan.atm he_9
   refine cQ hc follows_mx (by kernel_rfl) ?_
   refine qE hf rfl rfl rfl (Pu.ev (pM rfl)) fun a hf => qE hf rfl rfl rfl (Pu.ev (pM rfl)) fun a hf => qE hf rfl rfl rfl (Pu.ev (pIA Try.underlying43 sz_3 rfl rfl qa_8)) fun a hf => qE hf rfl rfl rfl (eLd1 sc_3 rfl (cell_pc (j := 0) qp_4 rfl)) fun a hf => qE hf rfl rfl rfl (Pu.ev (pFA fa_85_4 rfl)) fun a hf => qE hf rfl rfl rfl (eLd1 sc_83 rfl (cell_box m0 rfl)) fun a hf => qE hf rfl rfl rfl (Pu.ev (pLenS Try.underlying83 rfl)) fun a hf => qE hf rfl rfl rfl (eC (v := .bool (ref03_outside e_9 1 ((s_.Points.length : Nat) : Int))) (vs := [i6 e_9,i6 1,i6 ((s_.Points.length : Nat) : Int)]) (caps := []) en_78 rfl rfl rfl rfl (fun w hc => ref03_outside_ok e_9 1 ((s_.Points.length : Nat) : Int) hc rfl)) fun a hf => ?_
   intro w hc
   refine h37 _ _ ?_
   refine zI hf rfl hF ?_ ?_ <;> clear hF <;> intro hF
   ·refine zS fun K h => sp 2 hf rfl fun a hf => zT h ?_
    refine wp_ret ?_
    refine xBlkR ?_
    refine xThenR ?_
    refine xThenR ?_
    have he := sj hF
    rw [← he] at hfin8
    replace hF := ho8 _ hfin8
    refine xBlkR ?_
    refine xThenR ?_
    obtain rfl := hF
    replace hc := hc.drop k0
    exact zO2 Try.results39 hf rfl rfl ⟨rfl,hc⟩
   ·refine wp_skip ?_
    refine h36 _ _ ?_
    refine cReg ?_
    refine sp 3 hf rfl fun a hf => cNil ?_
    exact hK8 (W (i_1 + 1)) _ _ (sj hF).symm ⟨hf.kp rfl,hc⟩
  ·refine wp_exit ?_
   refine xThen ?_
   refine xThen ?_
   have he := sj hF
   rw [← he] at hfin8
   refine cHit ?_
   exact hr8 _ _ _ hfin8 ⟨hf.kp rfl,hc⟩

def ref03_better_b10 (N : Nat) (a_ : ref03_route) (b_ : ref03_route) (i_1 : Int) : Option (Step (Int) (Bool)) :=
 cond (decide (i_1 < ((a_.plan.length : Nat) : Int)))
 (Option.bind (getI a_.plan i_1) fun e_1 =>
 Option.bind (getI b_.plan i_1) fun e_2 =>
 cond (e_1 != e_2)
 (Option.bind (getI a_.plan i_1) fun e_3 =>
 Option.bind (getI b_.plan i_1) fun e_4 =>
 some (.ret (decide (e_3 < e_4))))
 (some (.cont (W (i_1 + 1)))))
 (some (.brk i_1))
def ref03_better (N : Nat) (a_ : ref03_route) (b_ : ref03_route) : Option (Bool) :=
 cond ((!b_.there) || (a_.cost != b_.cost))
 (some ((!b_.there) || (decide (a_.cost < b_.cost))))
 (cond (((a_.plan.length : Nat) : Int) != ((b_.plan.length : Nat) : Int))
 (some (decide (((a_.plan.length : Nat) : Int) < ((b_.plan.length : Nat) : Int))))
 (Option.bind (loopO (fun s10 => ref03_better_b10 N a_ b_ s10) N 0) fun x10 =>
 exK x10 (fun s10 => some false) some))
theorem ref03_better_ok {N : Nat} {G : Pers} {Lf : List Ent} {w : World} (a_ : ref03_route) (b_ : ref03_route) {a__plan_p : Option Addr} {a__plan_c : Nat} {b__plan_p : Option Addr} {b__plan_c : Nat} (h_a__plan : Rd G 1 a__plan_p a__plan_c (a_.plan.map encI_i64)) (h_b__plan : Rd G 1 b__plan_p b__plan_c (b_.plan.map encI_i64)) (hc : Ctx G (Lf) w) {res : Bool} (hF : ref03_better N a_ b_ = some res) : Calls Try.prog 87 #[.agg #[.bool a_.there,i6 a_.cost,.slice a__plan_p a_.plan.length a__plan_c],.agg #[.bool b_.there,i6 b_.cost,.slice b__plan_p b_.plan.length b__plan_c]] w (fun e w => e = .returned (.bool res) ∧ Ctx G (Lf) w) := by
 unfold ref03_better at hF
 refine fnIn Try.func87 rfl Try.ntmps87 rfl fun a hf => zS fun K h => zB hf hc rfl fun b_1 a w hf hc => zB hf hc rfl fun b_2 a w hf hc => sp 1 hf rfl fun a hf => zT h ?_
 refine wp_seq_k fun K2 h2 => zS fun K h => zP hf rfl (pFA fa_151_0 rfl) fun a hf => zL hf hc sc_4 m0 rfl fun a w hf hc => sp 2 hf rfl fun a hf => stCc 6 (fun a => Has 69 a [(2,pq b_1),(3,pq b_2),(6,pq b_2),(7,.bool b_.there),(8,.bool (!b_.there)),(9,.bool (!b_.there)),(15,.bool ((!b_.there) || (a_.cost != b_.cost)))]) hc ?_ ?_
 ·cases hb : (!b_.there)
  ·rw [hb] at hf
   refine zP hf rfl (pFA fa_151_1 rfl) fun a hf => zL hf hc sc_3 m1 rfl fun a w hf hc => zP hf rfl (pFA fa_151_1 rfl) fun a hf => zL hf hc sc_3 m0 rfl fun a w hf hc => sp 2 hf rfl fun a hf => cNil ⟨hf.kp rfl,hc⟩
  ·rw [hb] at hf
   refine stS hf rfl rfl rfl fun a hf => stS hf rfl rfl rfl fun a hf => stS hf rfl rfl rfl fun a hf => stS hf rfl rfl rfl fun a hf => stS hf rfl rfl rfl fun a hf => sp 1 hf rfl fun a hf => cNil ⟨hf.kp rfl,hc⟩
 intro a w ⟨hf,hc⟩
 refine zT h ?_
 refine zI hf rfl hF ?_ ?_ <;> clear hF <;> intro hF
 ·refine zS fun K h => zP hf rfl (pFA fa_151_0 rfl) fun a hf => zL hf hc sc_4 m0 rfl fun a w hf hc => sp 2 hf rfl fun a hf => stCc 6 (fun a => Has 69 a [(2,pq b_1),(3,pq b_2),(16,pq b_2),(17,.bool b_.there),(18,.bool (!b_.there)),(19,.bool (!b_.there)),(25,.bool ((!b_.there) || (decide (a_.cost < b_.cost))))]) hc ?_ ?_
  ·cases hb : (!b_.there)
   ·rw [hb] at hf
    refine zP hf rfl (pFA fa_151_1 rfl) fun a hf => zL hf hc sc_3 m1 rfl fun a w hf hc => zP hf rfl (pFA fa_151_1 rfl) fun a hf => zL hf hc sc_3 m0 rfl fun a w hf hc => sp 2 hf rfl fun a hf => cNil ⟨hf.kp rfl,hc⟩
   ·rw [hb] at hf
    refine stS hf rfl rfl rfl fun a hf => stS hf rfl rfl rfl fun a hf => stS hf rfl rfl rfl fun a hf => stS hf rfl rfl rfl fun a hf => stS hf rfl rfl rfl fun a hf => sp 1 hf rfl fun a hf => cNil ⟨hf.kp rfl,hc⟩
  intro a w ⟨hf,hc⟩
  refine sp 1 hf rfl fun a hf => zT h ?_
  refine wp_ret ?_
  refine xThenR ?_
  obtain rfl := sj hF
  replace hc := (hc.drop k1).drop k0
  exact zO1 Try.results87 hf rfl ⟨rfl,hc⟩
 ·refine wp_skip ?_
  refine h2 _ _ ?_
  refine wp_seq_k fun K5 h5 => zS fun K h => zP hf rfl (pFA fa_151_2 rfl) fun a hf => zL hf hc sc_43 m1 rfl fun a w hf hc => zP hf rfl (pLenS Try.underlying43 rfl) fun a hf => zP hf rfl (pFA fa_151_2 rfl) fun a hf => zL hf hc sc_43 m0 rfl fun a w hf hc => zP hf rfl (pLenS Try.underlying43 rfl) fun a hf => sp 1 hf rfl fun a hf => zT h ?_
  refine zI hf rfl hF ?_ ?_ <;> clear hF <;> intro hF
  ·refine zS fun K h => zP hf rfl (pFA fa_151_2 rfl) fun a hf => zL hf hc sc_43 m1 rfl fun a w hf hc => zP hf rfl (pLenS Try.underlying43 rfl) fun a hf => zP hf rfl (pFA fa_151_2 rfl) fun a hf => zL hf hc sc_43 m0 rfl fun a w hf hc => zP hf rfl (pLenS Try.underlying43 rfl) fun a hf => sp 2 hf rfl fun a hf => zT h ?_
   refine wp_ret ?_
   refine xThenR ?_
   obtain rfl := sj hF
   replace hc := (hc.drop k1).drop k0
   exact zO1 Try.results87 hf rfl ⟨rfl,hc⟩
  ·refine wp_skip ?_
   refine h5 _ _ ?_
   refine wp_seq_k fun K8 h8 => zS fun K h => sp 1 hf rfl fun a hf => zT h ?_
   refine wp_block ?_
   obtain ⟨x10,hx10,hF⟩ := bnd_some hF
   let S10 : Int → Act → World → Prop := (fun (zz : Int) a w => Has 69 a [(2,pq b_1),(3,pq b_2),(5,i6 zz)] ∧ Ctx G (.box b_2 [.bool b_.there,i6 b_.cost,.slice b__plan_p b_.plan.length b__plan_c] 151::.box b_1 [.bool a_.there,i6 a_.cost,.slice a__plan_p a_.plan.length a__plan_c] 151::Lf) w)
   have hr10 : ∀ (zz : Int) a w,x10 = .go zz → S10 zz a w → K8 a w := by
    rintro i_1 a w rfl ⟨hf,hc⟩
    replace hF := exK_go hF
    refine h8 _ _ ?_
    refine zS fun K h => sp 1 hf rfl fun a hf => zT h ?_
    refine wp_ret ?_
    obtain rfl := sj hF
    replace hc := (hc.drop k1).drop k0
    exact zO1 Try.results87 hf rfl ⟨rfl,hc⟩
   have ho10 : ∀ r,x10 = .out r → r = res := by
    rintro r rfl
    exact sj hF
   refine cLoop N (loopW (S := S10) (x := x10) ?_ N 0 _ _ ⟨hf.kp rfl,hc⟩ hx10)
   clear hF hf hc
   rintro i_1 st10 a w KB10 ⟨hf,hc⟩ hF hfin10 hK10
   unfold ref03_better_b10 at hF
   refine wp_seq_k fun K12 h12 => zS fun K h => sp 1 hf rfl fun a hf => zP hf rfl (pFA fa_151_2 rfl) fun a hf => zL hf hc sc_43 m1 rfl fun a w hf hc => zP hf rfl (pLenS Try.underlying43 rfl) fun a hf => sp 1 hf rfl fun a hf => zT h ?_
   refine zI hf rfl hF ?_ ?_ <;> clear hF <;> intro hF
   ·refine wp_skip ?_
    refine h12 _ _ ?_
    refine wp_seq_k fun K14 h14 => wp_block ?_
    refine wp_seq_k fun K15 h15 => ?_
    obtain ⟨e_1,he_1,hF⟩ := bnd_some hF
    obtain ⟨b_3,o,qa,qp⟩ := h_a__plan.atm he_1
    obtain ⟨e_2,he_2,hF⟩ := bnd_some hF
    obtain ⟨b_4,o_1,qa_1,qp_1⟩ := h_b__plan.atm he_2
    refine cQ hc follows_mx (by kernel_rfl) ?_
    refine qE hf rfl rfl rfl (Pu.ev (pFA fa_151_2 rfl)) fun a hf => qE hf rfl rfl rfl (eLd1 sc_43 rfl (cell_box m1 rfl)) fun a hf => qE hf rfl rfl rfl (Pu.ev (pM rfl)) fun a hf => qE hf rfl rfl rfl (Pu.ev (pIA Try.underlying43 sz_3 rfl rfl qa)) fun a hf => qE hf rfl rfl rfl (eLd1 sc_3 rfl (cell_pc (j := 0) qp rfl)) fun a hf => qE hf rfl rfl rfl (Pu.ev (pFA fa_151_2 rfl)) fun a hf => qE hf rfl rfl rfl (eLd1 sc_43 rfl (cell_box m0 rfl)) fun a hf => qE hf rfl rfl rfl (Pu.ev (pM rfl)) fun a hf => qE hf rfl rfl rfl (Pu.ev (pIA Try.underlying43 sz_3 rfl rfl qa_1)) fun a hf => qE hf rfl rfl rfl (eLd1 sc_3 rfl (cell_pc (j := 0) qp_1 rfl)) fun a hf => qE hf rfl rfl rfl (Pu.ev (pNe rfl rfl)) fun a hf => ?_
    intro w hc
    refine h15 _ _ ?_
    refine zI hf rfl hF ?_ ?_ <;> clear hF <;> intro hF
    ·refine wp_seq_k fun K16 h16 => ?_
     obtain ⟨e_3,he_3,hF⟩ := bnd_some hF
     obtain ⟨b_5,o_2,qa_2,qp_2⟩ := h_a__plan.atm he_3
     obtain ⟨e_4,he_4,hF⟩ := bnd_some hF
     obtain ⟨b_6,o_3,qa_3,qp_3⟩ := h_b__plan.atm he_4
     refine cQ hc follows_mx (by kernel_rfl) ?_
     refine qE hf rfl rfl rfl (Pu.ev (pFA fa_151_2 rfl)) fun a hf => qE hf rfl rfl rfl (eLd1 sc_43 rfl (cell_box m1 rfl)) fun a hf => qE hf rfl rfl rfl (Pu.ev (pM rfl)) fun a hf => qE hf rfl rfl rfl (Pu.ev (pIA Try.underlying43 sz_3 rfl rfl qa_2)) fun a hf => qE hf rfl rfl rfl (eLd1 sc_3 rfl (cell_pc (j := 0) qp_2 rfl)) fun a hf => qE hf rfl rfl rfl (Pu.ev (pFA fa_151_2 rfl)) fun a hf => qE hf rfl rfl rfl (eLd1 sc_43 rfl (cell_box m0 rfl)) fun a hf => qE hf rfl rfl rfl (Pu.ev (pM rfl)) fun a hf => qE hf rfl rfl rfl (Pu.ev (pIA Try.underlying43 sz_3 rfl rfl qa_3)) fun a hf => qE hf rfl rfl rfl (eLd1 sc_3 rfl (cell_pc (j := 0) qp_3 rfl)) fun a hf => qE hf rfl rfl rfl (Pu.ev (pLt rfl rfl)) fun a hf => qE hf rfl rfl rfl (Pu.ev (pA rfl)) fun a hf => ?_
     intro w hc
     refine h16 _ _ ?_
     refine wp_ret ?_
     refine xBlkR ?_
     refine xThenR ?_
     refine xThenR ?_
     have he := sj hF
     rw [← he] at hfin10
     replace hF := ho10 _ hfin10
     refine xBlkR ?_
     refine xThenR ?_
     obtain rfl := hF
     replace hc := (hc.drop k1).drop k0
     exact zO1 Try.results87 hf rfl ⟨rfl,hc⟩
    ·refine wp_skip ?_
     refine h14 _ _ ?_
     refine cReg ?_
     refine sp 3 hf rfl fun a hf => cNil ?_
     exact hK10 (W (i_1 + 1)) _ _ (sj hF).symm ⟨hf.kp rfl,hc⟩
   ·refine wp_exit ?_
    refine xThen ?_
    refine xThen ?_
    have he := sj hF
    rw [← he] at hfin10
    refine cHit ?_
    exact hr10 _ _ _ hfin10 ⟨hf.kp rfl,hc⟩

end Go.Nilo
