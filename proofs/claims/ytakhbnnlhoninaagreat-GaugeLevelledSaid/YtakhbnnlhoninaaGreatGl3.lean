/-
 What functions of the Go text compute, as plain functions, and that they do, part 3 of 3. Conditions: what each theorem names.
-/
import Derived.Test.YtakhbnnlhoninaaGreatGl2
import Derived.Test.YtakhbnnlhoninaaGreatProg
set_option linter.unusedVariables false
set_option linter.unusedSimpArgs false
set_option maxRecDepth 100000
set_option maxHeartbeats 4000000
namespace Go.Nilo
open Go.Proofs


def gauge_CheckSite (N : Nat) (s_ : gauge_Site) : Option (Int) :=
 cond (decide (30 < ((s_.Points.length : Nat) : Int)))
 (some 3)
 (Option.bind (cond (((!(gauge_shore s_.Left s_.Right)) || (!(gauge_in s_.Gap 1 10000))) || (!(gauge_in s_.Step_ 0 2000))) (some true) (Option.bind (gauge_every_gauge_Point N s_.Points s_) fun r =>
 some (!r))) fun t_1 =>
 cond t_1
 (some 40)
 (Option.bind (gauge_rising_s2 N ((s_.Points.length : Nat) : Int) s_) fun r_1 =>
 cond (!r_1)
 (some 9)
 (some 0)))
theorem gauge_CheckSite_ok {N : Nat} {G : Pers} {Lf : List Ent} {w : World} (s_ : gauge_Site) {s__Points_p : Option Addr} {s__Points_c : Nat} (h_s__Points : Rd G 3 s__Points_p s__Points_c (s_.Points.map enc_gauge_Point)) (hc : Ctx G (Lf) w) {res : Int} (hF : gauge_CheckSite N s_ = some res) : Calls Tryz.prog 56 #[.agg #[i6 s_.Left,i6 s_.Right,i6 s_.Gap,i6 s_.Step_,.slice s__Points_p s_.Points.length s__Points_c]] w (fun e w => e = .returned (i6 res) ∧ Ctx G (Lf) w) := by
 unfold gauge_CheckSite at hF
 refine fnIn Tryz.func56 rfl Tryz.ntmps56 rfl fun a hf => zS fun K h => zB hf hc rfl fun b_1 a w hf hc => sp 1 hf rfl fun a hf => zT h ?_
 refine wp_seq_k fun K2 h2 => wp_block ?_
 refine zS fun K h => zP hf rfl (pFA fa_97_4 rfl) fun a hf => zL hf hc sc_95 m0 rfl fun a w hf hc => zP hf rfl (pLenS Tryz.underlying95 rfl) fun a hf => sp 2 hf rfl fun a hf => zT h ?_
 refine zI hf rfl hF ?_ ?_ <;> clear hF <;> intro hF
 ·refine zS fun K h => sp 1 hf rfl fun a hf => zT h ?_
  refine wp_ret ?_
  refine xBlkR ?_
  refine xThenR ?_
  obtain rfl := sj hF
  replace hc := hc.drop k0
  exact zO1 Tryz.results56 hf rfl ⟨rfl,hc⟩
 ·refine zS fun K h => zP hf rfl (pFA fa_97_0 rfl) fun a hf => zL hf hc sc_3 m0 rfl fun a w hf hc => zP hf rfl (pFA fa_97_1 rfl) fun a hf => zL hf hc sc_3 m0 rfl fun a w hf hc => zQ (v := .bool (gauge_shore s_.Left s_.Right)) hf hc en_37 rfl (fun w hc => gauge_shore_ok s_.Left s_.Right hc rfl) fun a w hf hc => sp 2 hf rfl fun a hf => stCc 5 (fun a => Has 41 a [(1,pq b_1),(9,pq b_1),(10,i6 s_.Left),(11,.pointer (some ⟨b_1,1,none⟩)),(12,i6 s_.Right),(13,.bool (gauge_shore s_.Left s_.Right)),(14,.bool (!(gauge_shore s_.Left s_.Right))),(15,.bool (!(gauge_shore s_.Left s_.Right))),(20,.bool ((!(gauge_shore s_.Left s_.Right)) || (!(gauge_in s_.Gap 1 10000))))]) hc ?_ ?_
  ·cases hb : (!(gauge_shore s_.Left s_.Right))
   ·rw [hb] at hf
    refine zP hf rfl (pFA fa_97_2 rfl) fun a hf => zL hf hc sc_3 m0 rfl fun a w hf hc => zQ (v := .bool (gauge_in s_.Gap 1 10000)) hf hc en_21 rfl (fun w hc => gauge_in_ok s_.Gap 1 10000 hc rfl) fun a w hf hc => sp 2 hf rfl fun a hf => cNil ⟨hf.kp rfl,hc⟩
   ·rw [hb] at hf
    refine stS hf rfl rfl rfl fun a hf => stS hf rfl rfl rfl fun a hf => stS hf rfl rfl rfl fun a hf => stS hf rfl rfl rfl fun a hf => sp 1 hf rfl fun a hf => cNil ⟨hf.kp rfl,hc⟩
  intro a w ⟨hf,hc⟩
  refine sp 1 hf rfl fun a hf => stCc 5 (fun a => Has 41 a [(1,pq b_1),(9,pq b_1),(10,i6 s_.Left),(11,.pointer (some ⟨b_1,1,none⟩)),(12,i6 s_.Right),(13,.bool (gauge_shore s_.Left s_.Right)),(14,.bool (!(gauge_shore s_.Left s_.Right))),(15,.bool (!(gauge_shore s_.Left s_.Right))),(20,.bool ((!(gauge_shore s_.Left s_.Right)) || (!(gauge_in s_.Gap 1 10000)))),(21,.bool ((!(gauge_shore s_.Left s_.Right)) || (!(gauge_in s_.Gap 1 10000)))),(26,.bool (((!(gauge_shore s_.Left s_.Right)) || (!(gauge_in s_.Gap 1 10000))) || (!(gauge_in s_.Step_ 0 2000))))]) hc ?_ ?_
  ·cases hb : ((!(gauge_shore s_.Left s_.Right)) || (!(gauge_in s_.Gap 1 10000)))
   ·rw [hb] at hf
    refine zP hf rfl (pFA fa_97_3 rfl) fun a hf => zL hf hc sc_3 m0 rfl fun a w hf hc => zQ (v := .bool (gauge_in s_.Step_ 0 2000)) hf hc en_21 rfl (fun w hc => gauge_in_ok s_.Step_ 0 2000 hc rfl) fun a w hf hc => sp 2 hf rfl fun a hf => cNil ⟨hf.kp rfl,hc⟩
   ·rw [hb] at hf
    refine stS hf rfl rfl rfl fun a hf => stS hf rfl rfl rfl fun a hf => stS hf rfl rfl rfl fun a hf => stS hf rfl rfl rfl fun a hf => sp 1 hf rfl fun a hf => cNil ⟨hf.kp rfl,hc⟩
  intro a w ⟨hf,hc⟩
  refine sp 1 hf rfl fun a hf => ?_
  obtain ⟨t_1,ht_1,hF⟩ := bnd_some hF
  refine stCc 6 (fun a => Has 41 a [(1,pq b_1),(9,pq b_1),(10,i6 s_.Left),(11,.pointer (some ⟨b_1,1,none⟩)),(12,i6 s_.Right),(13,.bool (gauge_shore s_.Left s_.Right)),(14,.bool (!(gauge_shore s_.Left s_.Right))),(15,.bool (!(gauge_shore s_.Left s_.Right))),(20,.bool ((!(gauge_shore s_.Left s_.Right)) || (!(gauge_in s_.Gap 1 10000)))),(21,.bool ((!(gauge_shore s_.Left s_.Right)) || (!(gauge_in s_.Gap 1 10000)))),(26,.bool (((!(gauge_shore s_.Left s_.Right)) || (!(gauge_in s_.Gap 1 10000))) || (!(gauge_in s_.Step_ 0 2000)))),(27,.bool (((!(gauge_shore s_.Left s_.Right)) || (!(gauge_in s_.Gap 1 10000))) || (!(gauge_in s_.Step_ 0 2000)))),(33,.bool t_1)]) hc ?_ ?_
  ·cases hb : (((!(gauge_shore s_.Left s_.Right)) || (!(gauge_in s_.Gap 1 10000))) || (!(gauge_in s_.Step_ 0 2000)))
   ·rw [hb] at hf
    have hF := condF hb ht_1
    refine zP hf rfl (pFA fa_97_4 rfl) fun a hf => zL hf hc sc_95 m0 rfl fun a w hf hc => zP hf rfl (pMF (us := [pq b_1]) rfl rfl) fun a hf => ?_
    obtain ⟨r,hr,hF⟩ := bnd_some hF
    refine zQ (v := .bool r) hf hc en_76 rfl (fun w hc => (gauge_every_gauge_Point_ok s_.Points s_ h_s__Points h_s__Points (hc.pick k0) hr).mono fun e w h => ⟨h.1,(h.2.unpick k0)⟩) fun a w hf hc => sp 2 hf rfl fun a hf => ?_
    obtain rfl := sj hF
    exact cNil ⟨hf.kp rfl,hc⟩
   ·rw [hb] at hf
    have hF := condT hb ht_1
    obtain rfl := sj hF
    refine stS hf rfl rfl rfl fun a hf => stS hf rfl rfl rfl fun a hf => stS hf rfl rfl rfl fun a hf => stS hf rfl rfl rfl fun a hf => stS hf rfl rfl rfl fun a hf => sp 1 hf rfl fun a hf => cNil ⟨hf.kp rfl,hc⟩
  intro a w ⟨hf,hc⟩
  refine sp 1 hf rfl fun a hf => zT h ?_
  refine zI hf rfl hF ?_ ?_ <;> clear hF <;> intro hF
  ·refine zS fun K h => sp 1 hf rfl fun a hf => zT h ?_
   refine wp_ret ?_
   refine xBlkR ?_
   refine xThenR ?_
   obtain rfl := sj hF
   replace hc := hc.drop k0
   exact zO1 Tryz.results56 hf rfl ⟨rfl,hc⟩
  ·refine zS fun K h => zP hf rfl (pFA fa_97_4 rfl) fun a hf => zL hf hc sc_95 m0 rfl fun a w hf hc => zP hf rfl (pLenS Tryz.underlying95 rfl) fun a hf => zP hf rfl (pMF (us := [pq b_1]) rfl rfl) fun a hf => ?_
   obtain ⟨r_1,hr_1,hF⟩ := bnd_some hF
   refine zQ (v := .bool r_1) hf hc en_41 rfl (fun w hc => (gauge_rising_s2_ok ((s_.Points.length : Nat) : Int) s_ h_s__Points (hc.pick k0) hr_1).mono fun e w h => ⟨h.1,(h.2.unpick k0)⟩) fun a w hf hc => sp 2 hf rfl fun a hf => zT h ?_
   refine zI hf rfl hF ?_ ?_ <;> clear hF <;> intro hF
   ·refine zS fun K h => sp 1 hf rfl fun a hf => zT h ?_
    refine wp_ret ?_
    refine xBlkR ?_
    refine xThenR ?_
    obtain rfl := sj hF
    replace hc := hc.drop k0
    exact zO1 Tryz.results56 hf rfl ⟨rfl,hc⟩
   ·refine wp_skip ?_
    refine h2 _ _ ?_
    refine zS fun K h => sp 1 hf rfl fun a hf => zT h ?_
    refine wp_ret ?_
    obtain rfl := sj hF
    replace hc := hc.drop k0
    exact zO1 Tryz.results56 hf rfl ⟨rfl,hc⟩

def gauge_far (N : Nat)  : Option (gauge_spent) :=
 some (⟨1000000000,0⟩ : gauge_spent)
theorem gauge_far_ok {N : Nat} {G : Pers} {Lf : List Ent} {w : World}    (hc : Ctx G (Lf) w) {res : gauge_spent} (hF : gauge_far N = some res) : Calls Tryz.prog 54 #[] w (fun e w => e = .returned (.agg #[i6 res.cost,i6 res.points]) ∧ Ctx G (Lf) w) := by
 unfold gauge_far at hF
 refine fnIn Tryz.func54 rfl Tryz.ntmps54 rfl fun a hf => zS fun K h => zA hf hc zr_125 rfl fun b_1 a w hf hc => zT h ?_
 refine zS fun K h => zP hf rfl (pBuildS (cells := [i6 1000000000,i6 0]) bt_125 rfl rfl) fun a hf => zW hf hc sz_125 u0 rfl fun w hc => zT h ?_
 refine wp_ret ?_
 obtain rfl := sj hF
 exact fnOut1 (by simp) rfl Tryz.results54 hf hc (rv_cellN (vs := [i6 1000000000,i6 0]) ag_125 rfl rfl (cells_box (n := 2) m0 rfl)) ⟨rfl,(hc.drop k0)⟩

def gauge_work_station (N : Nat) (w_ : gauge_work) (i_ : Int) : Option (gauge_Point) :=
 cond (i_ == 0)
 (some (⟨w_.Site.Left,0,0⟩ : gauge_Point))
 (cond (i_ == (W (((w_.Site.Points.length : Nat) : Int) + 1)))
 (some (⟨w_.Site.Right,0,0⟩ : gauge_Point))
 (Option.bind (getI w_.Site.Points (W (i_ - 1))) fun e_1 =>
 some e_1))
theorem gauge_work_station_ok {N : Nat} {G : Pers} {Lf : List Ent} {w : World} (w_ : gauge_work) (i_ : Int) {b_ : Nat} {w__Site_Points_p : Option Addr} {w__Site_Points_c : Nat} {mb : Nat} (h_w__Site_Points : Rd G 3 w__Site_Points_p w__Site_Points_c (w_.Site.Points.map enc_gauge_Point)) (hc : Ctx G (.box b_ (catc [i6 w_.Site.Left,i6 w_.Site.Right,i6 w_.Site.Gap,i6 w_.Site.Step_,.slice w__Site_Points_p w_.Site.Points.length w__Site_Points_c] 32 enc_gauge_spent w_.least [.map (some mb)]) 129::.im mb (fun j => (w_.from_ j).map (Value.int .i64)) none::Lf) w) {res : gauge_Point} (hF : gauge_work_station N w_ i_ = some res) : Calls Tryz.prog 60 #[pq b_,i6 i_] w (fun e w => e = .returned (.agg #[i6 res.At,i6 res.Depth,i6 res.Cost]) ∧ Ctx G (.box b_ (catc [i6 w_.Site.Left,i6 w_.Site.Right,i6 w_.Site.Gap,i6 w_.Site.Step_,.slice w__Site_Points_p w_.Site.Points.length w__Site_Points_c] 32 enc_gauge_spent w_.least [.map (some mb)]) 129::.im mb (fun j => (w_.from_ j).map (Value.int .i64)) none::Lf) w) := by
 unfold gauge_work_station at hF
 refine fnIn Tryz.func60 rfl Tryz.ntmps60 rfl fun a hf => zS fun K h => zA hf hc zr_133 rfl fun b_1 a w hf hc => zT h ?_
 refine wp_seq_k fun K2 h2 => zS fun K h => sp 1 hf rfl fun a hf => zT h ?_
 refine wp_block ?_
 refine zS fun K h => sp 2 hf rfl fun a hf => zT h ?_
 refine zI hf rfl hF ?_ ?_ <;> clear hF <;> intro hF
 ·refine zS fun K h => sp 2 hf rfl fun a hf => zP hf rfl (pFA fa_129_0 rfl) fun a hf => zP hf rfl (pFA fa_97_0 rfl) fun a hf => zL hf hc sc_3 m1 rfl fun a w hf hc => zP hf rfl (pBuildS (cells := [i6 w_.Site.Left,i6 0,i6 0]) bt_133 rfl rfl) fun a hf => zW hf hc sz_133 u0 rfl fun w hc => zT h ?_
  refine wp_ret ?_
  refine xBlkR ?_
  refine xThenR ?_
  obtain rfl := sj hF
  replace hc := ((hc.pick k0).pick k2).pick k2
  exact fnOut1 (by simp) rfl Tryz.results60 hf hc (rv_cellN (vs := [i6 w_.Site.Left,i6 0,i6 0]) ag_133 rfl rfl (cells_box (n := 3) m2 rfl)) ⟨rfl,(hc.drop k2)⟩
 ·refine zS fun K h => sp 2 hf rfl fun a hf => zP hf rfl (pFA fa_129_0 rfl) fun a hf => zP hf rfl (pFA fa_97_4 rfl) fun a hf => zL hf hc sc_95 m1 rfl fun a w hf hc => zP hf rfl (pLenS Tryz.underlying95 rfl) fun a hf => sp 3 hf rfl fun a hf => zT h ?_
  refine zI hf rfl hF ?_ ?_ <;> clear hF <;> intro hF
  ·refine zS fun K h => sp 2 hf rfl fun a hf => zP hf rfl (pFA fa_129_0 rfl) fun a hf => zP hf rfl (pFA fa_97_1 rfl) fun a hf => zL hf hc sc_3 m1 rfl fun a w hf hc => zP hf rfl (pBuildS (cells := [i6 w_.Site.Right,i6 0,i6 0]) bt_133 rfl rfl) fun a hf => zW hf hc sz_133 u0 rfl fun w hc => zT h ?_
   refine wp_ret ?_
   refine xBlkR ?_
   refine xThenR ?_
   obtain rfl := sj hF
   replace hc := ((hc.pick k0).pick k2).pick k2
   exact fnOut1 (by simp) rfl Tryz.results60 hf hc (rv_cellN (vs := [i6 w_.Site.Right,i6 0,i6 0]) ag_133 rfl rfl (cells_box (n := 3) m2 rfl)) ⟨rfl,(hc.drop k2)⟩
  ·refine wp_skip ?_
   refine h2 _ _ ?_
   refine zS fun K h => sp 2 hf rfl fun a hf => zP hf rfl (pFA fa_129_0 rfl) fun a hf => zP hf rfl (pFA fa_97_4 rfl) fun a hf => zL hf hc sc_95 m1 rfl fun a w hf hc => sp 2 hf rfl fun a hf => ?_
   obtain ⟨e_1,he_1,hF⟩ := bnd_some hF
   obtain ⟨b_2,o,qa,qp⟩ := h_w__Site_Points.atm he_1
   refine zP hf rfl (pIA Tryz.underlying95 sz_133 rfl rfl qa) fun a hf => zE hf hc rfl (eLdN (vs := [i6 e_1.At,i6 e_1.Depth,i6 e_1.Cost]) ag_133 rfl rfl (cells_pc qp (n := 3) (o' := 0) rfl)) fun a w hf hc => zW hf hc sz_133 u0 rfl fun w hc => zT h ?_
   refine wp_ret ?_
   obtain rfl := sj hF
   replace hc := ((hc.pick k0).pick k2).pick k2
   exact fnOut1 (by simp) rfl Tryz.results60 hf hc (rv_cellN (vs := [i6 e_1.At,i6 e_1.Depth,i6 e_1.Cost]) ag_133 rfl rfl (cells_box (n := 3) m2 rfl)) ⟨rfl,(hc.drop k2)⟩

def gauge_work_steps (N : Nat) (w_ : gauge_work) (a_ : Int) (b__1 : Int) : Option (Bool) :=
 Option.bind (gauge_work_station N w_ a_) fun r =>
 Option.bind (gauge_work_station N w_ b__1) fun r_1 =>
 some ((decide ((W (r_1.At - r.At)) ≤ w_.Site.Gap)) && (decide ((max (W (r.Depth - r_1.Depth)) (W (r_1.Depth - r.Depth))) ≤ w_.Site.Step_)))
theorem gauge_work_steps_ok {N : Nat} {G : Pers} {Lf : List Ent} {w : World} (w_ : gauge_work) (a_ : Int) (b__1 : Int) {b_ : Nat} {w__Site_Points_p : Option Addr} {w__Site_Points_c : Nat} {mb : Nat} (h_w__Site_Points : Rd G 3 w__Site_Points_p w__Site_Points_c (w_.Site.Points.map enc_gauge_Point)) (hc : Ctx G (.box b_ (catc [i6 w_.Site.Left,i6 w_.Site.Right,i6 w_.Site.Gap,i6 w_.Site.Step_,.slice w__Site_Points_p w_.Site.Points.length w__Site_Points_c] 32 enc_gauge_spent w_.least [.map (some mb)]) 129::.im mb (fun j => (w_.from_ j).map (Value.int .i64)) none::Lf) w) {res : Bool} (hF : gauge_work_steps N w_ a_ b__1 = some res) : Calls Tryz.prog 59 #[pq b_,i6 a_,i6 b__1] w (fun e w => e = .returned (.bool res) ∧ Ctx G (.box b_ (catc [i6 w_.Site.Left,i6 w_.Site.Right,i6 w_.Site.Gap,i6 w_.Site.Step_,.slice w__Site_Points_p w_.Site.Points.length w__Site_Points_c] 32 enc_gauge_spent w_.least [.map (some mb)]) 129::.im mb (fun j => (w_.from_ j).map (Value.int .i64)) none::Lf) w) := by
 unfold gauge_work_steps at hF
 refine fnIn Tryz.func59 rfl Tryz.ntmps59 rfl fun a hf => zS fun K h => sp 1 hf rfl fun a hf => zT h ?_
 refine zS fun K h => sp 2 hf rfl fun a hf => ?_
 obtain ⟨r,hr,hF⟩ := bnd_some hF
 refine zQ (v := .agg #[i6 r.At,i6 r.Depth,i6 r.Cost]) hf hc en_60 rfl (fun w hc => (gauge_work_station_ok w_ a_ h_w__Site_Points ((hc.pick k1).pick k1) hr).mono fun e w h => ⟨h.1,((h.2.unpick k1).unpick k1)⟩) fun a w hf hc => sp 2 hf rfl fun a hf => ?_
 obtain ⟨r_1,hr_1,hF⟩ := bnd_some hF
 refine zQ (v := .agg #[i6 r_1.At,i6 r_1.Depth,i6 r_1.Cost]) hf hc en_60 rfl (fun w hc => (gauge_work_station_ok w_ b__1 h_w__Site_Points ((hc.pick k1).pick k1) hr_1).mono fun e w h => ⟨h.1,((h.2.unpick k1).unpick k1)⟩) fun a w hf hc => zA hf hc zr_133 rfl fun b_1 a w hf hc => zA hf hc zr_133 rfl fun b_2 a w hf hc => zW hf hc sz_133 u1 rfl fun w hc => zW hf hc sz_133 u0 rfl fun w hc => zT h ?_
 refine wp_seq_k fun K3 h3 => cQ hc follows_mx (by kernel_rfl) ?_
 refine qE hf rfl rfl rfl (Pu.ev (pFA fa_133_0 rfl)) fun a hf => qE hf rfl rfl rfl (eLd1 sc_3 rfl (cell_box m0 rfl)) fun a hf => qE hf rfl rfl rfl (Pu.ev (pFA fa_133_0 rfl)) fun a hf => qE hf rfl rfl rfl (eLd1 sc_3 rfl (cell_box m1 rfl)) fun a hf => qE hf rfl rfl rfl (Pu.ev (pSub rfl rfl)) fun a hf => qE hf rfl rfl rfl (Pu.ev (pM rfl)) fun a hf => qE hf rfl rfl rfl (Pu.ev (pNC rfl)) fun a hf => qE hf rfl rfl rfl (Pu.ev (pFA fa_129_0 rfl)) fun a hf => qE hf rfl rfl rfl (Pu.ev (pFA fa_97_2 rfl)) fun a hf => qE hf rfl rfl rfl (eLd1 sc_3 rfl (cell_box m2 rfl)) fun a hf => qE hf rfl rfl rfl (Pu.ev (pLe rfl rfl)) fun a hf => qE hf rfl rfl rfl (Pu.ev (pM rfl)) fun a hf => qCut 18 (fun a => Has 45 a [(0,pq b_),(6,.bool false),(7,pq b_1),(8,pq b_2),(15,pq b_2),(16,i6 r_1.At),(17,pq b_1),(18,i6 r.At),(19,i6 (W (r_1.At - r.At))),(20,pq b_),(21,pq b_),(22,pq b_),(23,.pointer (some ⟨b_,2,none⟩)),(24,i6 w_.Site.Gap),(25,.bool (decide ((W (r_1.At - r.At)) ≤ w_.Site.Gap))),(26,.bool (decide ((W (r_1.At - r.At)) ≤ w_.Site.Gap))),(44,.bool ((decide ((W (r_1.At - r.At)) ≤ w_.Site.Gap)) && (decide ((max (W (r.Depth - r_1.Depth)) (W (r_1.Depth - r.Depth))) ≤ w_.Site.Step_))))]) ?_ ?_
 ·cases hb : (decide ((W (r_1.At - r.At)) ≤ w_.Site.Gap))
  ·rw [hb] at hf
   refine qS hf rfl rfl rfl fun a hf => qS hf rfl rfl rfl fun a hf => qS hf rfl rfl rfl fun a hf => qS hf rfl rfl rfl fun a hf => qS hf rfl rfl rfl fun a hf => qS hf rfl rfl rfl fun a hf => qS hf rfl rfl rfl fun a hf => qS hf rfl rfl rfl fun a hf => qS hf rfl rfl rfl fun a hf => qS hf rfl rfl rfl fun a hf => qS hf rfl rfl rfl fun a hf => qS hf rfl rfl rfl fun a hf => qS hf rfl rfl rfl fun a hf => ?_
   refine qS hf rfl rfl rfl fun a hf => qS hf rfl rfl rfl fun a hf => qS hf rfl rfl rfl fun a hf => qS hf rfl rfl rfl fun a hf => qE hf rfl rfl rfl (Pu.ev (pPf rfl rfl)) fun a hf => qNil (hf.kp rfl)
  ·rw [hb] at hf
   refine qE hf rfl rfl rfl (Pu.ev (pFA fa_133_1 rfl)) fun a hf => qE hf rfl rfl rfl (eLd1 sc_3 rfl (cell_box m1 rfl)) fun a hf => qE hf rfl rfl rfl (Pu.ev (pFA fa_133_1 rfl)) fun a hf => qE hf rfl rfl rfl (eLd1 sc_3 rfl (cell_box m0 rfl)) fun a hf => qE hf rfl rfl rfl (Pu.ev (pSub rfl rfl)) fun a hf => qE hf rfl rfl rfl (Pu.ev (pFA fa_133_1 rfl)) fun a hf => qE hf rfl rfl rfl (eLd1 sc_3 rfl (cell_box m0 rfl)) fun a hf => qE hf rfl rfl rfl (Pu.ev (pFA fa_133_1 rfl)) fun a hf => qE hf rfl rfl rfl (eLd1 sc_3 rfl (cell_box m1 rfl)) fun a hf => qE hf rfl rfl rfl (Pu.ev (pSub rfl rfl)) fun a hf => qE hf rfl rfl rfl (Pu.ev (pMax2 rfl rfl)) fun a hf => qE hf rfl rfl rfl (Pu.ev (pM rfl)) fun a hf => qE hf rfl rfl rfl (Pu.ev (pNC rfl)) fun a hf => ?_
   refine qE hf rfl rfl rfl (Pu.ev (pFA fa_129_0 rfl)) fun a hf => qE hf rfl rfl rfl (Pu.ev (pFA fa_97_3 rfl)) fun a hf => qE hf rfl rfl rfl (eLd1 sc_3 rfl (cell_box m2 rfl)) fun a hf => qE hf rfl rfl rfl (Pu.ev (pLe rfl rfl)) fun a hf => qE hf rfl rfl rfl (Pu.ev (pPt rfl rfl)) fun a hf => qNil (hf.kp rfl)
 intro a hf
 refine qE hf rfl rfl rfl (Pu.ev (pA rfl)) fun a hf => ?_
 intro w hc
 refine h3 _ _ ?_
 refine wp_ret ?_
 obtain rfl := sj hF
 replace hc := (hc.drop k1).drop k0
 exact zO1 Tryz.results59 hf rfl ⟨rfl,hc⟩

def cmp_isNaN_int (x : Int) : Bool :=
 (x != x)
theorem cmp_isNaN_int_ok {G : Pers} {Lf : List Ent} {w : World} (x : Int)   (hc : Ctx G (Lf) w) {res : Bool} (hF : cmp_isNaN_int x = res) : Calls Tryz.prog 100 #[i6 x] w (fun e w => e = .returned (.bool res) ∧ Ctx G (Lf) w) := by
 unfold cmp_isNaN_int at hF
 refine fnIn Tryz.func100 rfl Tryz.ntmps100 rfl fun a hf => zS fun K h => sp 1 hf rfl fun a hf => zT h ?_
 refine zS fun K h => sp 4 hf rfl fun a hf => zT h ?_
 refine wp_ret ?_
 obtain rfl := hF
 exact zO1 Tryz.results100 hf rfl ⟨rfl,hc⟩

def cmp_Compare_int (x : Int) (y : Int) : Int :=
 cond (cmp_isNaN_int x)
 (cond (cmp_isNaN_int y)
 (0)
 ((-1)))
 (cond (cmp_isNaN_int y)
 (1)
 (cond (decide (x < y))
 ((-1))
 (cond (decide (y < x))
 (1)
 (0))))
theorem cmp_Compare_int_ok {G : Pers} {Lf : List Ent} {w : World} (x : Int) (y : Int)   (hc : Ctx G (Lf) w) {res : Int} (hF : cmp_Compare_int x y = res) : Calls Tryz.prog 91 #[i6 x,i6 y] w (fun e w => e = .returned (i6 res) ∧ Ctx G (Lf) w) := by
 unfold cmp_Compare_int at hF
 refine fnIn Tryz.func91 rfl Tryz.ntmps91 rfl fun a hf => zS fun K h => sp 1 hf rfl fun a hf => zT h ?_
 refine zS fun K h => sp 1 hf rfl fun a hf => zQ (v := .bool (cmp_isNaN_int x)) hf hc en_100 rfl (fun w hc => cmp_isNaN_int_ok x hc rfl) fun a w hf hc => sp 1 hf rfl fun a hf => zT h ?_
 refine zS fun K h => sp 1 hf rfl fun a hf => zQ (v := .bool (cmp_isNaN_int y)) hf hc en_100 rfl (fun w hc => cmp_isNaN_int_ok y hc rfl) fun a w hf hc => sp 1 hf rfl fun a hf => zT h ?_
 refine wp_seq_k fun K4 h4 => zS fun K h => sp 1 hf rfl fun a hf => zT h ?_
 refine zI hf rfl hF ?_ ?_ <;> clear hF <;> intro hF
 ·refine wp_seq_k fun K6 h6 => zS fun K h => sp 1 hf rfl fun a hf => zT h ?_
  refine zI hf rfl hF ?_ ?_ <;> clear hF <;> intro hF
  ·refine zS fun K h => sp 1 hf rfl fun a hf => zT h ?_
   refine wp_ret ?_
   refine xThenR ?_
   refine xThenR ?_
   obtain rfl := hF
   exact zO1 Tryz.results91 hf rfl ⟨rfl,hc⟩
  ·refine wp_skip ?_
   refine h6 _ _ ?_
   refine zS fun K h => sp 1 hf rfl fun a hf => zT h ?_
   refine wp_ret ?_
   refine xThenR ?_
   obtain rfl := hF
   exact zO1 Tryz.results91 hf rfl ⟨rfl,hc⟩
 ·refine wp_skip ?_
  refine h4 _ _ ?_
  refine wp_seq_k fun K10 h10 => zS fun K h => sp 1 hf rfl fun a hf => zT h ?_
  refine zI hf rfl hF ?_ ?_ <;> clear hF <;> intro hF
  ·refine zS fun K h => sp 1 hf rfl fun a hf => zT h ?_
   refine wp_ret ?_
   refine xThenR ?_
   obtain rfl := hF
   exact zO1 Tryz.results91 hf rfl ⟨rfl,hc⟩
  ·refine wp_skip ?_
   refine h10 _ _ ?_
   refine wp_seq_k fun K13 h13 => zS fun K h => sp 3 hf rfl fun a hf => zT h ?_
   refine zI hf rfl hF ?_ ?_ <;> clear hF <;> intro hF
   ·refine zS fun K h => sp 1 hf rfl fun a hf => zT h ?_
    refine wp_ret ?_
    refine xThenR ?_
    obtain rfl := hF
    exact zO1 Tryz.results91 hf rfl ⟨rfl,hc⟩
   ·refine wp_skip ?_
    refine h13 _ _ ?_
    refine wp_seq_k fun K16 h16 => zS fun K h => sp 3 hf rfl fun a hf => zT h ?_
    refine zI hf rfl hF ?_ ?_ <;> clear hF <;> intro hF
    ·refine zS fun K h => sp 1 hf rfl fun a hf => zT h ?_
     refine wp_ret ?_
     refine xThenR ?_
     obtain rfl := hF
     exact zO1 Tryz.results91 hf rfl ⟨rfl,hc⟩
    ·refine wp_skip ?_
     refine h16 _ _ ?_
     refine zS fun K h => sp 1 hf rfl fun a hf => zT h ?_
     refine wp_ret ?_
     obtain rfl := hF
     exact zO1 Tryz.results91 hf rfl ⟨rfl,hc⟩

def cmp_Or_int_b5 (N : Nat) (vals : List Int) (x : Int) : Option (Step (Int) (Int)) :=
 cond (decide (x < ((vals.length : Nat) : Int)))
 (Option.bind (getI vals x) fun e_1 =>
 cond (e_1 != 0)
 (some (.ret e_1))
 (some (.cont (W (x + 1)))))
 (some (.brk x))
def cmp_Or_int (N : Nat) (vals : List Int) : Option (Int) :=
 Option.bind (loopO (fun s5 => cmp_Or_int_b5 N vals s5) N 0) fun x5 =>
 exK x5 (fun s5 => some 0) some
theorem cmp_Or_int_ok {N : Nat} {G : Pers} {Lf : List Ent} {w : World} (vals : List Int) {vals_p : Option Addr} {vals_c : Nat} (h_vals : Rd G 1 vals_p vals_c (vals.map encI_i64)) (hc : Ctx G (Lf) w) {res : Int} (hF : cmp_Or_int N vals = some res) : Calls Tryz.prog 90 #[.slice vals_p vals.length vals_c] w (fun e w => e = .returned (i6 res) ∧ Ctx G (Lf) w) := by
 unfold cmp_Or_int at hF
 refine fnIn Tryz.func90 rfl Tryz.ntmps90 rfl fun a hf => zS fun K h => sp 1 hf rfl fun a hf => zT h ?_
 refine zS fun K h => sp 1 hf rfl fun a hf => zT h ?_
 refine wp_seq_k fun K3 h3 => zS fun K h => sp 1 hf rfl fun a hf => zP hf rfl (pLenS Tryz.underlying23 rfl) fun a hf => sp 1 hf rfl fun a hf => zT h ?_
 refine wp_block ?_
 obtain ⟨x5,hx5,hF⟩ := bnd_some hF
 let S5 : Int → Act → World → Prop := (fun (zz : Int) a w => Has 18 a [(3,i6 0),(6,.slice vals_p vals.length vals_c),(7,i6 ((vals.length : Nat) : Int)),(8,i6 zz)] ∧ Ctx G (Lf) w)
 have hr5 : ∀ (zz : Int) a w,x5 = .go zz → S5 zz a w → K3 a w := by
  rintro x a w rfl ⟨hf,hc⟩
  replace hF := exK_go hF
  refine h3 _ _ ?_
  refine zS fun K h => sp 2 hf rfl fun a hf => zT h ?_
  refine wp_ret ?_
  obtain rfl := sj hF
  exact zO1 Tryz.results90 hf rfl ⟨rfl,hc⟩
 have ho5 : ∀ r,x5 = .out r → r = res := by
  rintro r rfl
  exact sj hF
 refine cLoop N (loopW (S := S5) (x := x5) ?_ N 0 _ _ ⟨hf.kp rfl,hc⟩ hx5)
 clear hF hf hc
 rintro x st5 a w KB5 ⟨hf,hc⟩ hF hfin5 hK5
 unfold cmp_Or_int_b5 at hF
 refine zS fun K h => sp 1 hf rfl fun a hf => zT h ?_
 refine wp_seq_k fun K8 h8 => zI hf rfl hF ?_ ?_ <;> clear hF <;> intro hF
 ·refine wp_skip ?_
  refine h8 _ _ ?_
  refine wp_seq_k fun K9 h9 => wp_block ?_
  refine zS fun K h => ?_
  obtain ⟨e_1,he_1,hF⟩ := bnd_some hF
  obtain ⟨b_1,o,qa,qp⟩ := h_vals.atm he_1
  refine zP hf rfl (pIA Tryz.underlying23 sz_3 rfl rfl qa) fun a hf => zE hf hc rfl (eLd1 sc_3 rfl (cell_pc (j := 0) qp rfl)) fun a w hf hc => sp 1 hf rfl fun a hf => zT h ?_
  refine zS fun K h => sp 3 hf rfl fun a hf => zT h ?_
  refine zI hf rfl hF ?_ ?_ <;> clear hF <;> intro hF
  ·refine zS fun K h => sp 2 hf rfl fun a hf => zT h ?_
   refine wp_ret ?_
   refine xBlkR ?_
   refine xThenR ?_
   refine xThenR ?_
   have he := sj hF
   rw [← he] at hfin5
   replace hF := ho5 _ hfin5
   refine xBlkR ?_
   refine xThenR ?_
   obtain rfl := hF
   exact zO1 Tryz.results90 hf rfl ⟨rfl,hc⟩
  ·refine wp_skip ?_
   refine h9 _ _ ?_
   refine cReg ?_
   refine sp 2 hf rfl fun a hf => cNil ?_
   exact hK5 (W (x + 1)) _ _ (sj hF).symm ⟨hf.kp rfl,hc⟩
 ·refine wp_exit ?_
  refine xThen ?_
  refine xThen ?_
  have he := sj hF
  rw [← he] at hfin5
  refine cHit ?_
  exact hr5 _ _ _ hfin5 ⟨hf.kp rfl,hc⟩

def gauge_work_better_j2 (N : Nat) (w_ : gauge_work) (a_ : Int) (b__1 : Int) (x : Int) (x_1 : Int) : Option ((Nat → gauge_spent) × (Int → Option Int)) :=
 Option.bind (inR a_ 32) fun un_1 =>
 Option.bind (cmp_Or_int N ([(cmp_Compare_int x ((w_.least a_.toNat).cost)),(cmp_Compare_int x_1 ((w_.least a_.toNat).points))] : List Int)) fun r =>
 Option.bind (cond (decide (r < 0)) (some true) (Option.bind (gauge_far N) fun r_1 =>
 some (((w_.least a_.toNat).cost) == r_1.cost && ((w_.least a_.toNat).points) == r_1.points))) fun t_1 =>
 cond t_1
 (Option.bind (inR a_ 32) fun un_2 =>
 some ((setF w_.least a_.toNat (⟨x,x_1⟩ : gauge_spent)),(setM (setM w_.from_ a_ ((w_.from_ a_).getD 0)) a_ b__1)))
 (some (w_.least,w_.from_))
def gauge_work_better (N : Nat) (w_ : gauge_work) (a_ : Int) (b__1 : Int) : Option ((Nat → gauge_spent) × (Int → Option Int)) :=
 Option.bind (inR b__1 32) fun un =>
 cond (decide (b__1 ≤ ((w_.Site.Points.length : Nat) : Int)))
 (Option.bind (gauge_work_station N w_ b__1) fun r_2 =>
 gauge_work_better_j2 N w_ a_ b__1 (W (((w_.least b__1.toNat).cost) + r_2.Cost)) (W (((w_.least b__1.toNat).points) + 1)))
 (gauge_work_better_j2 N w_ a_ b__1 ((w_.least b__1.toNat).cost) ((w_.least b__1.toNat).points))
theorem gauge_work_better_ok {N : Nat} {G : Pers} {Lf : List Ent} {w : World} (w_ : gauge_work) (a_ : Int) (b__1 : Int) {b_ : Nat} {w__Site_Points_p : Option Addr} {w__Site_Points_c : Nat} {mb : Nat} (h_w__Site_Points : Rd G 3 w__Site_Points_p w__Site_Points_c (w_.Site.Points.map enc_gauge_Point)) (hc : Ctx G (.box b_ (catc [i6 w_.Site.Left,i6 w_.Site.Right,i6 w_.Site.Gap,i6 w_.Site.Step_,.slice w__Site_Points_p w_.Site.Points.length w__Site_Points_c] 32 enc_gauge_spent w_.least [.map (some mb)]) 129::.im mb (fun j => (w_.from_ j).map (Value.int .i64)) none::Lf) w) {res : (Nat → gauge_spent) × (Int → Option Int)} (hF : gauge_work_better N w_ a_ b__1 = some res) : Calls Tryz.prog 75 #[pq b_,i6 a_,i6 b__1] w (fun e w => e = .returned (.tuple #[]) ∧ Ctx G (.box b_ (catc [i6 w_.Site.Left,i6 w_.Site.Right,i6 w_.Site.Gap,i6 w_.Site.Step_,.slice w__Site_Points_p w_.Site.Points.length w__Site_Points_c] 32 enc_gauge_spent res.1 [.map (some mb)]) 129::.im mb (fun j => (res.2 j).map (Value.int .i64)) none::Lf) w) := by
 unfold gauge_work_better at hF
 refine fnIn Tryz.func75 rfl Tryz.ntmps75 rfl fun a hf => zS fun K h => sp 3 hf rfl fun a hf => zP hf rfl (pFA fa_129_1 rfl) fun a hf => ?_
 obtain ⟨un,hun,hF⟩ := bnd_some hF
 refine zP hf rfl (pIAA Tryz.underlying126 sz_125 rfl rfl (inR_spec hun).1 (inR_spec hun).2) fun a hf => zE hf hc rfl (eLdN (vs := [i6 ((w_.least b__1.toNat).cost),i6 ((w_.least b__1.toNat).points)]) ag_125 rfl rfl (cells_arr (o' := 0) (m := 2) m0 (fun x => (one_enc_gauge_spent x).1) rfl hun rfl)) fun a w hf hc => zA hf hc zr_125 rfl fun b_1 a w hf hc => zW hf hc sz_125 u0 rfl fun w hc => zT h ?_
 refine wp_seq_k fun K2 h2 => ?_
 have hj2 : ∀ (x : Int) (x_1 : Int) a w,Has 73 a [(0,pq b_),(1,i6 a_),(2,i6 b__1),(6,pq b_1)] → Ctx G (.box b_1 [i6 x,i6 x_1] 125::.box b_ (catc [i6 w_.Site.Left,i6 w_.Site.Right,i6 w_.Site.Gap,i6 w_.Site.Step_,.slice w__Site_Points_p w_.Site.Points.length w__Site_Points_c] 32 enc_gauge_spent w_.least [.map (some mb)]) 129::.im mb (fun j => (w_.from_ j).map (Value.int .i64)) none::Lf) w → gauge_work_better_j2 N w_ a_ b__1 x x_1 = some res → K2 a w := by
  repeat (clear hF)
  repeat (clear hc)
  repeat (clear hf)
  intro x x_1 a w hf hc hF
  unfold gauge_work_better_j2 at hF
  refine h2 _ _ ?_
  refine zS fun K h => sp 3 hf rfl fun a hf => zP hf rfl (pFA fa_129_1 rfl) fun a hf => ?_
  obtain ⟨un_1,hun_1,hF⟩ := bnd_some hF
  refine zP hf rfl (pIAA Tryz.underlying126 sz_125 rfl rfl (inR_spec hun_1).1 (inR_spec hun_1).2) fun a hf => zE hf hc rfl (eLdN (vs := [i6 ((w_.least a_.toNat).cost),i6 ((w_.least a_.toNat).points)]) ag_125 rfl rfl (cells_arr (o' := 0) (m := 2) m1 (fun x => (one_enc_gauge_spent x).1) rfl hun_1 rfl)) fun a w hf hc => zA hf hc zr_125 rfl fun b_2 a w hf hc => zW hf hc sz_125 u0 rfl fun w hc => zT h ?_
  refine wp_seq_k fun K4 h4 => ?_
  obtain ⟨r,hr,hF⟩ := bnd_some hF
  replace hc := hc.nilRow 0 0
  refine regionE (fun θ => [⟨none,none,0,pq b_⟩,⟨none,none,1,i6 a_⟩,⟨none,none,2,i6 b__1⟩,⟨none,none,6,pq b_1⟩,⟨none,none,7,pq b_2⟩,⟨some 0,none,40,pq b_1⟩,⟨some 1,none,41,i6 x⟩,⟨some 2,none,42,pq b_2⟩,⟨some 3,none,43,i6 ((w_.least a_.toNat).cost)⟩,⟨some 4,none,44,i6 (cmp_Compare_int x ((w_.least a_.toNat).cost))⟩,⟨some 5,none,45,.pointer (some ⟨b_1,1,none⟩)⟩,⟨some 6,none,46,i6 x_1⟩,⟨some 7,none,47,.pointer (some ⟨b_2,1,none⟩)⟩,⟨some 8,none,48,i6 ((w_.least a_.toNat).points)⟩,⟨some 9,none,49,i6 (cmp_Compare_int x_1 ((w_.least a_.toNat).points))⟩,⟨some 10,none,50,.slice (some ⟨(θ 80).b,0,none⟩) 2 2⟩,⟨some 11,none,51,i6 r⟩,⟨some 12,none,8,i6 r⟩]) (fun E θ => (bif E 10 then .row (some ⟨(θ 80).b,0,none⟩) 2 (([(cmp_Compare_int x ((w_.least a_.toNat).cost)),(cmp_Compare_int x_1 ((w_.least a_.toNat).points))] : List Int).map encI_i64) 3 1 else .row none 0 [] 0 0)::.box b_2 [i6 ((w_.least a_.toNat).cost),i6 ((w_.least a_.toNat).points)] 125::.box b_1 [i6 x,i6 x_1] 125::.box b_ (catc [i6 w_.Site.Left,i6 w_.Site.Right,i6 w_.Site.Gap,i6 w_.Site.Step_,.slice w__Site_Points_p w_.Site.Points.length w__Site_Points_c] 32 enc_gauge_spent w_.least [.map (some mb)]) 129::.im mb (fun j => (w_.from_ j).map (Value.int .i64)) none::Lf) [] (fun a w => ∃ (b_4 : Nat),Has 73 a [(0,pq b_),(1,i6 a_),(2,i6 b__1),(6,pq b_1),(7,pq b_2),(8,i6 r)] ∧ Ctx G (.row (some ⟨b_4,0,none⟩) 2 (([(cmp_Compare_int x ((w_.least a_.toNat).cost)),(cmp_Compare_int x_1 ((w_.least a_.toNat).points))] : List Int).map encI_i64) 3 1::.box b_2 [i6 ((w_.least a_.toNat).cost),i6 ((w_.least a_.toNat).points)] 125::.box b_1 [i6 x,i6 x_1] 125::.box b_ (catc [i6 w_.Site.Left,i6 w_.Site.Right,i6 w_.Site.Gap,i6 w_.Site.Step_,.slice w__Site_Points_p w_.Site.Points.length w__Site_Points_c] 32 enc_gauge_spent w_.least [.map (some mb)]) 129::.im mb (fun j => (w_.from_ j).map (Value.int .i64)) none::Lf) w) follows_mx (by kernel_rfl) (by kernel_rfl) (HasE.of hf ⟨rfl,rfl,rfl,rfl,rfl,trivial,trivial,trivial,trivial,trivial,trivial,trivial,trivial,trivial,trivial,trivial,trivial,trivial,trivial⟩) hc ⟨?_,?_,?_,?_,?_,?_,?_,?_,?_,?_,?_,?_,?_,trivial⟩ ?_ ?_
  ·intro E θ a w hD hi hp he hc
   have hf := he.h0.mT he 3 rfl
   refine zP hf rfl (pFA fa_125_0 rfl) fun a hf => zD θ he hi hf 5 rfl rfl rfl hc
  ·intro E θ a w hD hi hp he hc
   have e0 := hp.o 0 rfl
   have hf := he.h0.mP he 5 rfl e0
   refine zL hf hc sc_3 m2 rfl fun a w hf hc => zD θ he hi hf 6 rfl rfl rfl hc
  ·intro E θ a w hD hi hp he hc
   have hf := he.h0.mT he 4 rfl
   refine zP hf rfl (pFA fa_125_0 rfl) fun a hf => zD θ he hi hf 7 rfl rfl rfl hc
  ·intro E θ a w hD hi hp he hc
   have e2 := hp.o 2 rfl
   have hf := he.h0.mP he 7 rfl e2
   refine zL hf hc sc_3 m1 rfl fun a w hf hc => zD θ he hi hf 8 rfl rfl rfl hc
  ·intro E θ a w hD hi hp he hc
   have e1 := hp.o 1 rfl
   have e3 := hp.o 3 rfl
   have hf := (he.h0.mP he 6 rfl e1).mP he 8 rfl e3
   refine zQ (v := i6 (cmp_Compare_int x ((w_.least a_.toNat).cost))) hf hc en_91 rfl (fun w hc => cmp_Compare_int_ok x ((w_.least a_.toNat).cost) hc rfl) fun a w hf hc => zD θ he hi hf 9 rfl rfl rfl hc
  ·intro E θ a w hD hi hp he hc
   have hf := he.h0.mT he 3 rfl
   refine zP hf rfl (pFA fa_125_1 rfl) fun a hf => zD θ he hi hf 10 rfl rfl rfl hc
  ·intro E θ a w hD hi hp he hc
   have e5 := hp.o 5 rfl
   have hf := he.h0.mP he 10 rfl e5
   refine zL hf hc sc_3 m2 rfl fun a w hf hc => zD θ he hi hf 11 rfl rfl rfl hc
  ·intro E θ a w hD hi hp he hc
   have hf := he.h0.mT he 4 rfl
   refine zP hf rfl (pFA fa_125_1 rfl) fun a hf => zD θ he hi hf 12 rfl rfl rfl hc
  ·intro E θ a w hD hi hp he hc
   have e7 := hp.o 7 rfl
   have hf := he.h0.mP he 12 rfl e7
   refine zL hf hc sc_3 m1 rfl fun a w hf hc => zD θ he hi hf 13 rfl rfl rfl hc
  ·intro E θ a w hD hi hp he hc
   have e6 := hp.o 6 rfl
   have e8 := hp.o 8 rfl
   have hf := (he.h0.mP he 11 rfl e6).mP he 13 rfl e8
   refine zQ (v := i6 (cmp_Compare_int x_1 ((w_.least a_.toNat).points))) hf hc en_91 rfl (fun w hc => cmp_Compare_int_ok x_1 ((w_.least a_.toNat).points) hc rfl) fun a w hf hc => zD θ he hi hf 14 rfl rfl rfl hc
  ·intro E θ a w hD hi hp he hc
   have e4 := hp.o 4 rfl
   have e9 := hp.o 9 rfl
   try dsimp only at hc
   rw [hi] at hc
   have hf := (he.h0.mP he 9 rfl e4).mP he 14 rfl e9
   refine stBS (rows := ([(cmp_Compare_int x ((w_.least a_.toNat).cost)),(cmp_Compare_int x_1 ((w_.least a_.toNat).points))] : List Int).map encI_i64) (vs := [(0,i6 (cmp_Compare_int x ((w_.least a_.toNat).cost))),(1,i6 (cmp_Compare_int x_1 ((w_.least a_.toNat).points)))]) hf hc rfl rfl sl_23 rfl ⟨rfl,rfl,rfl,rfl,rfl,rfl,trivial⟩ rfl rfl fun b_3 a w hf hc => cNil ?_
   refine xThenN ?_
   intro ds u hau
   replace hc := hc.drop k1
   refine ⟨(setT θ 80 ⟨b_3,none,0,(fun _ => (none,0))⟩),he.put hi hau hf rfl [] trivial ⟨qq,qq,qq,qq,qq,qq,qq,qq,qq,qq,qq,qq,qq,qq,qq,qq,qq,qq,trivial⟩,?_⟩
   try dsimp only
   rw [updE_self E 10]
   exact hc
  ·intro E θ a w hD hi hp he hc
   have e10 := hp.o 10 rfl
   try dsimp only at hc
   rw [e10] at hc
   have hf := he.h0.mP he 15 rfl e10
   refine zQ (v := i6 r) hf hc en_90 rfl (fun w hc => by obtain ⟨G1,hle1,hrd1,hc,hth1⟩ := lend hc k0; exact (cmp_Or_int_ok ([(cmp_Compare_int x ((w_.least a_.toNat).cost)),(cmp_Compare_int x_1 ((w_.least a_.toNat).points))] : List Int) hrd1 hc hr).mono fun e w h => ⟨h.1,((hth1 _ _ h.2).unpick k0)⟩) fun a w hf hc => zD θ he hi hf 16 rfl rfl rfl ?_
   try dsimp only
   rw [updE_tru 11 e10]
   exact hc
  ·intro E θ a w hD hi hp he hc
   have e11 := hp.o 11 rfl
   have hf := he.h0.mP he 16 rfl e11
   refine sp 1 hf rfl fun a hf => zD θ he hi hf 17 rfl rfl rfl hc
  ·intro E θ a w hall he hc
   have hf := he.h0
   have e10 := hall 10 rfl
   have e12 := hall 12 rfl
   replace hf := hf.more he 17 rfl (onP e12)
   replace hf := hf.more he 4 rfl (onT)
   replace hf := hf.more he 3 rfl (onT)
   replace hf := hf.more he 2 rfl (onT)
   replace hf := hf.more he 1 rfl (onT)
   replace hf := hf.more he 0 rfl (onT)
   try dsimp only at hc
   rw [e10] at hc
   exact ⟨(θ 80).b,hf.kp rfl,hc⟩
  rintro a w ⟨b_4,hf,hc⟩
  refine h4 _ _ ?_
  refine wp_seq_k fun K5 h5 => ?_
  obtain ⟨t_1,ht_1,hF⟩ := bnd_some hF
  refine cQ hc follows_mx (by kernel_rfl) ?_
  refine qE hf rfl rfl rfl (Pu.ev (pM rfl)) fun a hf => qE hf rfl rfl rfl (Pu.ev (pLt rfl rfl)) fun a hf => qE hf rfl rfl rfl (Pu.ev (pM rfl)) fun a hf => qCut 4 (fun a => Has 73 a [(0,pq b_),(1,i6 a_),(2,i6 b__1),(6,pq b_1),(7,pq b_2),(8,i6 r),(52,i6 r),(53,.bool (decide (r < 0))),(54,.bool (decide (r < 0))),(58,.bool t_1)]) ?_ ?_
  ·cases hb : (decide (r < 0))
   ·rw [hb] at hf
    have hF := condF hb ht_1
    obtain ⟨r_1,hr_1,hF⟩ := bnd_some hF
    refine qE hf rfl rfl rfl (eLdN (vs := [i6 ((w_.least a_.toNat).cost),i6 ((w_.least a_.toNat).points)]) ag_125 rfl rfl (cells_box (n := 2) m1 rfl)) fun a hf => qE hf rfl rfl rfl (eC (v := .agg #[i6 r_1.cost,i6 r_1.points]) (vs := []) (caps := []) en_54 rfl rfl rfl rfl (fun w hc => gauge_far_ok hc hr_1)) fun a hf => qE hf rfl rfl rfl (Pu.ev (pEqA ge_125 rfl rfl (eqs_125 _ _ _ _))) fun a hf => qE hf rfl rfl rfl (Pu.ev (pPf rfl rfl)) fun a hf => ?_
    obtain rfl := sj hF
    exact qNil (hf.kp rfl)
   ·rw [hb] at hf
    have hF := condT hb ht_1
    obtain rfl := sj hF
    refine qS hf rfl rfl rfl fun a hf => qS hf rfl rfl rfl fun a hf => qS hf rfl rfl rfl fun a hf => qE hf rfl rfl rfl (Pu.ev (pPt rfl rfl)) fun a hf => qNil (hf.kp rfl)
  intro a hf
  intro w hc
  refine h5 _ _ ?_
  refine zI hf rfl hF ?_ ?_ <;> clear hF <;> intro hF
  ·obtain ⟨un_2,hun_2,hF⟩ := bnd_some hF
   refine regionE (fun θ => [⟨none,none,0,pq b_⟩,⟨none,none,1,i6 a_⟩,⟨none,none,2,i6 b__1⟩,⟨none,none,6,pq b_1⟩,⟨some 0,none,59,pq b_⟩,⟨some 1,none,60,i6 a_⟩,⟨some 2,none,61,pq b_⟩,⟨some 3,none,62,pq b_⟩,⟨some 4,none,63,.pointer (some ⟨b_,69,none⟩)⟩,⟨some 5,none,64,.map (some mb)⟩,⟨some 6,none,65,i6 a_⟩,⟨some 7,none,66,.agg #[i6 x,i6 x_1]⟩,⟨some 8,none,67,i6 b__1⟩,⟨some 9,none,68,pq b_⟩,⟨some 10,none,69,.pointer (some ⟨b_,5,none⟩)⟩,⟨some 11,none,70,.pointer (some ⟨b_,5 + a_.toNat * 2,none⟩)⟩,⟨some 13,none,71,.tuple #[i6 ((w_.from_ a_).getD 0),i6 (((θ 104).c : Nat) : Int)]⟩,⟨some 14,none,72,i6 (((θ 104).c : Nat) : Int)⟩]) (fun E θ => .row (some ⟨b_4,0,none⟩) 2 (([(cmp_Compare_int x ((w_.least a_.toNat).cost)),(cmp_Compare_int x_1 ((w_.least a_.toNat).points))] : List Int).map encI_i64) 3 1::.box b_2 [i6 ((w_.least a_.toNat).cost),i6 ((w_.least a_.toNat).points)] 125::.box b_1 [i6 x,i6 x_1] 125::(bif E 12 then .box b_ (catc [i6 w_.Site.Left,i6 w_.Site.Right,i6 w_.Site.Gap,i6 w_.Site.Step_,.slice w__Site_Points_p w_.Site.Points.length w__Site_Points_c] 32 enc_gauge_spent (setF w_.least a_.toNat (⟨x,x_1⟩ : gauge_spent)) [.map (some mb)]) 129 else .box b_ (catc [i6 w_.Site.Left,i6 w_.Site.Right,i6 w_.Site.Gap,i6 w_.Site.Step_,.slice w__Site_Points_p w_.Site.Points.length w__Site_Points_c] 32 enc_gauge_spent w_.least [.map (some mb)]) 129)::(bif E 15 then .im mb (fun j => ((setM (setM w_.from_ a_ ((w_.from_ a_).getD 0)) a_ b__1) j).map (Value.int .i64)) none else bif E 13 then .im mb (fun j => ((setM w_.from_ a_ ((w_.from_ a_).getD 0)) j).map (Value.int .i64)) (some ((θ 104).c,a_)) else .im mb (fun j => (w_.from_ j).map (Value.int .i64)) none)::Lf) [(12,5),(15,13),(14,13)] (fun a w => Has 73 a [] ∧ Ctx G (.row (some ⟨b_4,0,none⟩) 2 (([(cmp_Compare_int x ((w_.least a_.toNat).cost)),(cmp_Compare_int x_1 ((w_.least a_.toNat).points))] : List Int).map encI_i64) 3 1::.box b_2 [i6 ((w_.least a_.toNat).cost),i6 ((w_.least a_.toNat).points)] 125::.box b_1 [i6 x,i6 x_1] 125::.box b_ (catc [i6 w_.Site.Left,i6 w_.Site.Right,i6 w_.Site.Gap,i6 w_.Site.Step_,.slice w__Site_Points_p w_.Site.Points.length w__Site_Points_c] 32 enc_gauge_spent (setF w_.least a_.toNat (⟨x,x_1⟩ : gauge_spent)) [.map (some mb)]) 129::.im mb (fun j => ((setM (setM w_.from_ a_ ((w_.from_ a_).getD 0)) a_ b__1) j).map (Value.int .i64)) none::Lf) w) follows_mx (by kernel_rfl) (by kernel_rfl) (HasE.of hf ⟨rfl,rfl,rfl,rfl,trivial,trivial,trivial,trivial,trivial,trivial,trivial,trivial,trivial,trivial,trivial,trivial,trivial,trivial,trivial⟩) hc ⟨?_,?_,?_,?_,?_,?_,?_,?_,?_,?_,?_,?_,?_,?_,?_,?_,trivial⟩ ?_ ?_
   ·intro E θ a w hD hi hp he hc
    have hf := he.h0.mT he 0 rfl
    refine sp 1 hf rfl fun a hf => zD θ he hi hf 4 rfl rfl rfl hc
   ·intro E θ a w hD hi hp he hc
    have hf := he.h0.mT he 1 rfl
    refine sp 1 hf rfl fun a hf => zD θ he hi hf 5 rfl rfl rfl hc
   ·intro E θ a w hD hi hp he hc
    have hf := he.h0.mT he 0 rfl
    refine sp 1 hf rfl fun a hf => zD θ he hi hf 6 rfl rfl rfl hc
   ·intro E θ a w hD hi hp he hc
    have e2 := hp.o 2 rfl
    have hf := he.h0.mP he 6 rfl e2
    refine sp 1 hf rfl fun a hf => zD θ he hi hf 7 rfl rfl rfl hc
   ·intro E θ a w hD hi hp he hc
    have e3 := hp.o 3 rfl
    have hf := he.h0.mP he 7 rfl e3
    refine zP hf rfl (pFA fa_129_2 rfl) fun a hf => zD θ he hi hf 8 rfl rfl rfl hc
   ·intro E θ a w hD hi hp he hc
    have e4 := hp.o 4 rfl
    have e12 := hD.f 0 rfl hi
    try dsimp only at hc
    rw [e12] at hc
    have hf := he.h0.mP he 8 rfl e4
    refine zL hf hc sc_127 m3 rfl fun a w hf hc => zD θ he hi hf 9 rfl rfl rfl ?_
    try dsimp only
    rw [updE_fls 5 e12 rfl]
    exact hc
   ·intro E θ a w hD hi hp he hc
    have hf := he.h0.mT he 1 rfl
    refine sp 1 hf rfl fun a hf => zD θ he hi hf 10 rfl rfl rfl hc
   ·intro E θ a w hD hi hp he hc
    have hf := he.h0.mT he 3 rfl
    refine zN hf hc ag_125 m2 rfl fun a w hf hc => zD θ he hi hf 11 rfl rfl rfl hc
   ·intro E θ a w hD hi hp he hc
    have hf := he.h0.mT he 2 rfl
    refine sp 1 hf rfl fun a hf => zD θ he hi hf 12 rfl rfl rfl hc
   ·intro E θ a w hD hi hp he hc
    have e0 := hp.o 0 rfl
    have hf := he.h0.mP he 4 rfl e0
    refine sp 1 hf rfl fun a hf => zD θ he hi hf 13 rfl rfl rfl hc
   ·intro E θ a w hD hi hp he hc
    have e9 := hp.o 9 rfl
    have hf := he.h0.mP he 13 rfl e9
    refine zP hf rfl (pFA fa_129_1 rfl) fun a hf => zD θ he hi hf 14 rfl rfl rfl hc
   ·intro E θ a w hD hi hp he hc
    have e1 := hp.o 1 rfl
    have e10 := hp.o 10 rfl
    have hf := (he.h0.mP he 5 rfl e1).mP he 14 rfl e10
    refine zP hf rfl (pIAA Tryz.underlying126 sz_125 rfl rfl (inR_spec hun_2).1 (inR_spec hun_2).2) fun a hf => zD θ he hi hf 15 rfl rfl rfl hc
   ·intro E θ a w hD hi hp he hc
    have e7 := hp.o 7 rfl
    have e11 := hp.o 11 rfl
    try dsimp only at hc
    rw [hi] at hc
    have hf := (he.h0.mP he 11 rfl e7).mP he 15 rfl e11
    refine stAr (vs := [i6 x,i6 x_1]) (o' := 0) (z := (⟨x,x_1⟩ : gauge_spent)) hf hc rfl rfl rfl rfl sz_125 rfl (fun x => (one_enc_gauge_spent x).1) rfl hun_2 rfl rfl u3 fun w hc => zG θ he hi hf rfl ?_
    try dsimp only
    rw [updE_self E 12]
    exact hc
   ·intro E θ a w hD hi hp he hc
    have e5 := hp.o 5 rfl
    have e6 := hp.o 6 rfl
    have e15 := hD.f 1 rfl hi
    have e14 := hD.f 2 rfl hi
    try dsimp only at hc
    rw [hi,e15] at hc
    have hf := (he.h0.mP he 9 rfl e5).mP he 10 rfl e6
    refine stME (enc := (Value.int .i64)) (z0 := 0) (m := w_.from_) hf hc rfl rfl Tryz.underlying127 Tryz.underlying3 zr_3 rfl rfl (fun _ => u4) fun stp a w hf hc => cNil ?_
    refine xThenN ?_
    intro ds u hau
    refine ⟨(setT θ 104 ⟨0,none,stp,(fun _ => (none,0))⟩),he.put hi hau hf rfl [14] ⟨⟨e14,rfl⟩,trivial⟩ ⟨qq,qq,qq,qq,qq,qq,qq,qq,qq,qq,qq,qq,qq,qq,qq,qq,qq,trivial,trivial⟩,?_⟩
    try dsimp only
    rw [updE_self E 13,updE_fls 13 e15 rfl]
    exact hc
   ·intro E θ a w hD hi hp he hc
    have e13 := hp.o 13 rfl
    have hf := he.h0.mP he 16 rfl e13
    refine sp 1 hf rfl fun a hf => zD θ he hi hf 17 rfl rfl rfl hc
   ·intro E θ a w hD hi hp he hc
    have e5 := hp.o 5 rfl
    have e8 := hp.o 8 rfl
    have e14 := hp.o 14 rfl
    have e13 := hp.o 13 rfl
    try dsimp only at hc
    rw [e13,hi] at hc
    have hf := ((he.h0.mP he 9 rfl e5).mP he 12 rfl e8).mP he 17 rfl e14
    refine stES (enc := (Value.int .i64)) (m := (setM w_.from_ a_ ((w_.from_ a_).getD 0))) (v := b__1) hf hc rfl rfl rfl rfl u4 fun w hc => zG θ he hi hf rfl ?_
    try dsimp only
    rw [updE_tru 15 e13,updE_self E 15]
    exact hc
   ·intro E θ a w hall he hc
    have hf := he.h0
    have e12 := hall 12 rfl
    have e13 := hall 13 rfl
    have e15 := hall 15 rfl
    try dsimp only at hc
    rw [e12,e13,e15] at hc
    exact ⟨hf.keep trivial,hc⟩
   rintro a w ⟨hf,hc⟩
   obtain rfl := sj hF
   replace hc := ((hc.drop k2).drop k1).drop k0
   exact fnOut0 (by simp) rfl Tryz.results75 hf ⟨rfl,hc⟩
  ·refine wp_skip ?_
   obtain rfl := sj hF
   replace hc := ((hc.drop k2).drop k1).drop k0
   exact fnOut0 (by simp) rfl Tryz.results75 hf ⟨rfl,hc⟩
 refine zS fun K h => sp 3 hf rfl fun a hf => zP hf rfl (pFA fa_129_0 rfl) fun a hf => zP hf rfl (pFA fa_97_4 rfl) fun a hf => zL hf hc sc_95 m1 rfl fun a w hf hc => zP hf rfl (pLenS Tryz.underlying95 rfl) fun a hf => sp 1 hf rfl fun a hf => zT h ?_
 refine zI hf rfl hF ?_ ?_ <;> clear hF <;> intro hF
 ·obtain ⟨r_2,hr_2,hF⟩ := bnd_some hF
  refine regionE (fun θ => [⟨none,none,0,pq b_⟩,⟨none,none,1,i6 a_⟩,⟨none,none,2,i6 b__1⟩,⟨none,none,6,pq b_1⟩,⟨some 0,none,23,pq b_1⟩,⟨some 1,none,24,i6 ((w_.least b__1.toNat).cost)⟩,⟨some 2,none,25,pq b_⟩,⟨some 3,none,26,i6 b__1⟩,⟨some 4,none,27,.agg #[i6 r_2.At,i6 r_2.Depth,i6 r_2.Cost]⟩,⟨some 5,none,28,i6 r_2.Cost⟩,⟨some 6,none,29,i6 (W (((w_.least b__1.toNat).cost) + r_2.Cost))⟩,⟨some 7,none,30,.pointer (some ⟨b_1,1,none⟩)⟩,⟨some 8,none,31,i6 ((w_.least b__1.toNat).points)⟩,⟨some 9,none,32,i6 (W (((w_.least b__1.toNat).points) + 1))⟩,⟨some 10,none,33,.agg #[i6 (W (((w_.least b__1.toNat).cost) + r_2.Cost)),i6 (W (((w_.least b__1.toNat).points) + 1))]⟩]) (fun E θ => (bif E 11 then .box b_1 [i6 (W (((w_.least b__1.toNat).cost) + r_2.Cost)),i6 (W (((w_.least b__1.toNat).points) + 1))] 125 else .box b_1 [i6 ((w_.least b__1.toNat).cost),i6 ((w_.least b__1.toNat).points)] 125)::.box b_ (catc [i6 w_.Site.Left,i6 w_.Site.Right,i6 w_.Site.Gap,i6 w_.Site.Step_,.slice w__Site_Points_p w_.Site.Points.length w__Site_Points_c] 32 enc_gauge_spent w_.least [.map (some mb)]) 129::.im mb (fun j => (w_.from_ j).map (Value.int .i64)) none::Lf) [(11,1),(11,8)] (fun a w => Has 73 a [(0,pq b_),(1,i6 a_),(2,i6 b__1),(6,pq b_1)] ∧ Ctx G (.box b_1 [i6 (W (((w_.least b__1.toNat).cost) + r_2.Cost)),i6 (W (((w_.least b__1.toNat).points) + 1))] 125::.box b_ (catc [i6 w_.Site.Left,i6 w_.Site.Right,i6 w_.Site.Gap,i6 w_.Site.Step_,.slice w__Site_Points_p w_.Site.Points.length w__Site_Points_c] 32 enc_gauge_spent w_.least [.map (some mb)]) 129::.im mb (fun j => (w_.from_ j).map (Value.int .i64)) none::Lf) w) follows_mx (by kernel_rfl) (by kernel_rfl) (HasE.of hf ⟨rfl,rfl,rfl,rfl,trivial,trivial,trivial,trivial,trivial,trivial,trivial,trivial,trivial,trivial,trivial,trivial⟩) hc ⟨?_,?_,?_,?_,?_,?_,?_,?_,?_,?_,?_,?_,trivial⟩ ?_ ?_
  ·intro E θ a w hD hi hp he hc
   have hf := he.h0.mT he 3 rfl
   refine zP hf rfl (pFA fa_125_0 rfl) fun a hf => zD θ he hi hf 4 rfl rfl rfl hc
  ·intro E θ a w hD hi hp he hc
   have e0 := hp.o 0 rfl
   have e11 := hD.f 0 rfl hi
   try dsimp only at hc
   rw [e11] at hc
   have hf := he.h0.mP he 4 rfl e0
   refine zL hf hc sc_3 m0 rfl fun a w hf hc => zD θ he hi hf 5 rfl rfl rfl ?_
   try dsimp only
   rw [updE_fls 1 e11 rfl]
   exact hc
  ·intro E θ a w hD hi hp he hc
   have hf := he.h0.mT he 0 rfl
   refine sp 1 hf rfl fun a hf => zD θ he hi hf 6 rfl rfl rfl hc
  ·intro E θ a w hD hi hp he hc
   have hf := he.h0.mT he 2 rfl
   refine sp 1 hf rfl fun a hf => zD θ he hi hf 7 rfl rfl rfl hc
  ·intro E θ a w hD hi hp he hc
   have e2 := hp.o 2 rfl
   have e3 := hp.o 3 rfl
   have hf := (he.h0.mP he 6 rfl e2).mP he 7 rfl e3
   refine zQ (v := .agg #[i6 r_2.At,i6 r_2.Depth,i6 r_2.Cost]) hf hc en_60 rfl (fun w hc => (gauge_work_station_ok w_ b__1 h_w__Site_Points ((hc.pick k2).pick k2) hr_2).mono fun e w h => ⟨h.1,((h.2.unpick k2).unpick k2)⟩) fun a w hf hc => zD θ he hi hf 8 rfl rfl rfl hc
  ·intro E θ a w hD hi hp he hc
   have e4 := hp.o 4 rfl
   have hf := he.h0.mP he 8 rfl e4
   refine zP hf rfl (pField1 Tryz.underlying133 rfl sc_3 rfl rfl) fun a hf => zD θ he hi hf 9 rfl rfl rfl hc
  ·intro E θ a w hD hi hp he hc
   have e1 := hp.o 1 rfl
   have e5 := hp.o 5 rfl
   have hf := (he.h0.mP he 5 rfl e1).mP he 9 rfl e5
   refine sp 1 hf rfl fun a hf => zD θ he hi hf 10 rfl rfl rfl hc
  ·intro E θ a w hD hi hp he hc
   have hf := he.h0.mT he 3 rfl
   refine zP hf rfl (pFA fa_125_1 rfl) fun a hf => zD θ he hi hf 11 rfl rfl rfl hc
  ·intro E θ a w hD hi hp he hc
   have e7 := hp.o 7 rfl
   have e11 := hD.f 1 rfl hi
   try dsimp only at hc
   rw [e11] at hc
   have hf := he.h0.mP he 11 rfl e7
   refine zL hf hc sc_3 m0 rfl fun a w hf hc => zD θ he hi hf 12 rfl rfl rfl ?_
   try dsimp only
   rw [updE_fls 8 e11 rfl]
   exact hc
  ·intro E θ a w hD hi hp he hc
   have e8 := hp.o 8 rfl
   have hf := he.h0.mP he 12 rfl e8
   refine sp 1 hf rfl fun a hf => zD θ he hi hf 13 rfl rfl rfl hc
  ·intro E θ a w hD hi hp he hc
   have e6 := hp.o 6 rfl
   have e9 := hp.o 9 rfl
   have hf := (he.h0.mP he 10 rfl e6).mP he 13 rfl e9
   refine zP hf rfl (pBuildS (cells := [i6 (W (((w_.least b__1.toNat).cost) + r_2.Cost)),i6 (W (((w_.least b__1.toNat).points) + 1))]) bt_125 rfl rfl) fun a hf => zD θ he hi hf 14 rfl rfl rfl hc
  ·intro E θ a w hD hi hp he hc
   have e10 := hp.o 10 rfl
   try dsimp only at hc
   rw [hi] at hc
   have hf := (he.h0.mT he 3 rfl).mP he 14 rfl e10
   refine zW hf hc sz_125 u0 rfl fun w hc => zG θ he hi hf rfl ?_
   try dsimp only
   rw [updE_self E 11]
   exact hc
  ·intro E θ a w hall he hc
   have hf := he.h0
   have e11 := hall 11 rfl
   replace hf := hf.more he 3 rfl (onT)
   replace hf := hf.more he 2 rfl (onT)
   replace hf := hf.more he 1 rfl (onT)
   replace hf := hf.more he 0 rfl (onT)
   try dsimp only at hc
   rw [e11] at hc
   exact ⟨hf.kp rfl,hc⟩
  rintro a w ⟨hf,hc⟩
  exact hj2 (W (((w_.least b__1.toNat).cost) + r_2.Cost)) (W (((w_.least b__1.toNat).points) + 1)) _ _  (hf.kp rfl) hc hF
 ·refine wp_skip ?_
  exact hj2 ((w_.least b__1.toNat).cost) ((w_.least b__1.toNat).points) _ _  (hf.kp rfl) hc hF

def gauge_opened_j21 (N : Nat) (b_3 : Int) (x_2 : Nat → gauge_spent) (mp_2 : Int → Option Int) : Option (Step (Int × (Nat → gauge_spent) × (Int → Option Int)) (Step (Int × (Nat → gauge_spent) × (Int → Option Int)) ((Int) ⊕ (Int × Int × Int × Int × (Nat → gauge_spent) × (Int → Option Int) × Int)))) :=
 some (.cont (W (b_3 + 1),x_2,mp_2))
def gauge_opened_b18 (N : Nat) (s_ : gauge_Site) (a_1 : Int) (b_3 : Int) (x_1 : Nat → gauge_spent) (mp_1 : Int → Option Int) : Option (Step (Int × (Nat → gauge_spent) × (Int → Option Int)) (Step (Int × (Nat → gauge_spent) × (Int → Option Int)) ((Int) ⊕ (Int × Int × Int × Int × (Nat → gauge_spent) × (Int → Option Int) × Int)))) :=
 cond (decide (b_3 ≤ (W (((s_.Points.length : Nat) : Int) + 1))))
 (Option.bind (gauge_work_steps N (⟨s_,x_1,mp_1⟩ : gauge_work) a_1 b_3) fun r_2 =>
 Option.bind (cond r_2 (Option.bind (inR b_3 32) fun un_1 =>
 Option.bind (gauge_far N) fun r_3 =>
 some (!(((x_1 b_3.toNat).cost) == r_3.cost && ((x_1 b_3.toNat).points) == r_3.points))) (some false)) fun t_1 =>
 cond t_1
 (Option.bind (gauge_work_better N (⟨s_,x_1,mp_1⟩ : gauge_work) a_1 b_3) fun r_4 =>
 gauge_opened_j21 N b_3 r_4.1 r_4.2)
 (gauge_opened_j21 N b_3 x_1 mp_1))
 (some (.brk (b_3,x_1,mp_1)))
def gauge_opened_b10 (N : Nat) (s_ : gauge_Site) (a_1 : Int) (x : Nat → gauge_spent) (mp : Int → Option Int) : Option (Step (Int × (Nat → gauge_spent) × (Int → Option Int)) ((Int) ⊕ (Int × Int × Int × Int × (Nat → gauge_spent) × (Int → Option Int) × Int))) :=
 cond (decide (0 ≤ a_1))
 (Option.bind (gauge_far N) fun r_1 =>
 Option.bind (inR a_1 32) fun un =>
 Option.bind (loopO (fun s18 => gauge_opened_b18 N s_ a_1 s18.1 s18.2.1 s18.2.2) N (W (a_1 + 1),(setF x a_1.toNat r_1),mp)) fun x18 =>
 exK x18 (fun s18 => some (.cont (W (a_1 - 1),s18.2.1,s18.2.2))) some)
 (some (.brk (a_1,x,mp)))
def gauge_opened (N : Nat) (s_ : gauge_Site) : Option ((Int) ⊕ (Int × Int × Int × Int × (Nat → gauge_spent) × (Int → Option Int) × Int)) :=
 Option.bind (gauge_CheckSite N s_) fun r =>
 cond (r != 0)
 (some (.inl r))
 (Option.bind (loopO (fun s10 => gauge_opened_b10 N s_ s10.1 s10.2.1 s10.2.2) N (W ((W (((s_.Points.length : Nat) : Int) + 1)) - 1),(fun _ => (⟨0,0⟩ : gauge_spent)),(fun _ => none : Int → Option Int))) fun x10 =>
 exK x10 (fun s10 => some (.inr (s_.Left,s_.Right,s_.Gap,s_.Step_,s10.2.1,s10.2.2,0))) some)
theorem gauge_opened_ok {N : Nat} {G : Pers} {Lf : List Ent} {w : World} (s_ : gauge_Site) {s__Points_p : Option Addr} {s__Points_c : Nat} (h_s__Points : Rd G 3 s__Points_p s__Points_c (s_.Points.map enc_gauge_Point)) (hc : Ctx G (Lf) w) {res : (Int) ⊕ (Int × Int × Int × Int × (Nat → gauge_spent) × (Int → Option Int) × Int)} (hF : gauge_opened N s_ = some res) : Calls Tryz.prog 53 #[.agg #[i6 s_.Left,i6 s_.Right,i6 s_.Gap,i6 s_.Step_,.slice s__Points_p s_.Points.length s__Points_c]] w (fun e w => sumK (fun rr => e = .returned (.tuple #[.pointer none,i6 rr]) ∧ Ctx G (Lf) w) (fun rr => ∃ (b'1 : Nat) (b'2 : Nat),e = .returned (.tuple #[pq b'1,i6 rr.2.2.2.2.2.2]) ∧ Ctx G (.im b'2 (fun j => (rr.2.2.2.2.2.1 j).map (Value.int .i64)) none::.box b'1 (catc [i6 rr.1,i6 rr.2.1,i6 rr.2.2.1,i6 rr.2.2.2.1,.slice s__Points_p s_.Points.length s__Points_c] 32 enc_gauge_spent rr.2.2.2.2.1 [.map (some b'2)]) 129::Lf) w) res) := by
 unfold gauge_opened at hF
 refine fnIn Tryz.func53 rfl Tryz.ntmps53 rfl fun a hf => zS fun K h => zB hf hc rfl fun b_1 a w hf hc => sp 2 hf rfl fun a hf => zT h ?_
 refine wp_seq_k fun K2 h2 => zS fun K h => zN hf hc ag_97 m0 rfl fun a w hf hc => ?_
 obtain ⟨r,hr,hF⟩ := bnd_some hF
 refine zQ (v := i6 r) hf hc en_56 rfl (fun w hc => gauge_CheckSite_ok s_ h_s__Points hc hr) fun a w hf hc => sp 1 hf rfl fun a hf => zT h ?_
 refine zS fun K h => sp 2 hf rfl fun a hf => zT h ?_
 refine zI hf rfl hF ?_ ?_ <;> clear hF <;> intro hF
 ·refine zS fun K h => sp 3 hf rfl fun a hf => zT h ?_
  refine wp_ret ?_
  refine xThenR ?_
  obtain rfl := sj hF
  replace hc := hc.drop k0
  exact zO2 Tryz.results53 hf rfl rfl ⟨rfl,hc⟩
 ·refine wp_skip ?_
  refine h2 _ _ ?_
  refine zS fun K h => zN hf hc ag_97 m0 rfl fun a w hf hc => stMM hf hc rfl rfl fun mb a w hf hc => ?_
  replace hc : Ctx _ (.im mb (fun j => ((fun _ => none : Int → Option Int) j).map (Value.int .i64)) none::_) w := hc
  refine zP hf rfl (pBuildS (cells := (catc [i6 s_.Left,i6 s_.Right,i6 s_.Gap,i6 s_.Step_,.slice s__Points_p s_.Points.length s__Points_c] 32 enc_gauge_spent (fun _ => (⟨0,0⟩ : gauge_spent)) [.map (some mb)])) bt_129 rfl rfl) fun a hf => stBx (cs := (catc [i6 s_.Left,i6 s_.Right,i6 s_.Gap,i6 s_.Step_,.slice s__Points_p s_.Points.length s__Points_c] 32 enc_gauge_spent (fun _ => (⟨0,0⟩ : gauge_spent)) [.map (some mb)])) hf hc rfl rfl rfl rfl fun b_2 a w hf hc => sp 1 hf rfl fun a hf => zT h ?_
  refine zS fun K h => zP hf rfl (pFA fa_97_4 rfl) fun a hf => zL hf hc sc_95 m2 rfl fun a w hf hc => zP hf rfl (pLenS Tryz.underlying95 rfl) fun a hf => sp 2 hf rfl fun a hf => zT h ?_
  refine wp_seq_k fun K8 h8 => zS fun K h => sp 3 hf rfl fun a hf => zT h ?_
  refine wp_block ?_
  obtain ⟨x10,hx10,hF⟩ := bnd_some hF
  let S10 : (Int × (Nat → gauge_spent) × (Int → Option Int)) → Act → World → Prop := (fun (zz : Int × (Nat → gauge_spent) × (Int → Option Int)) a w => Has 60 a [(5,pq b_2),(6,i6 (W (((s_.Points.length : Nat) : Int) + 1))),(7,i6 zz.1)] ∧ Ctx G (.box b_2 (catc [i6 s_.Left,i6 s_.Right,i6 s_.Gap,i6 s_.Step_,.slice s__Points_p s_.Points.length s__Points_c] 32 enc_gauge_spent zz.2.1 [.map (some mb)]) 129::.im mb (fun j => (zz.2.2 j).map (Value.int .i64)) none::Lf) w)
  have hr10 : ∀ (zz : Int × (Nat → gauge_spent) × (Int → Option Int)) a w,x10 = .go zz → S10 zz a w → K8 a w := by
   rintro ⟨a_1,x,mp⟩ a w rfl ⟨hf,hc⟩
   replace hF := exK_go hF
   refine h8 _ _ ?_
   refine zS fun K h => sp 3 hf rfl fun a hf => zT h ?_
   refine wp_ret ?_
   obtain rfl := sj hF
   replace hc := (hc.pick k0).pick k1
   exact zO2 Tryz.results53 hf rfl rfl ⟨b_2,mb,rfl,hc⟩
  have ho10 : ∀ r,x10 = .out r → r = res := by
   rintro r rfl
   exact sj hF
  replace hc := hc.drop k2
  refine cLoop N (loopW (S := S10) (x := x10) ?_ N (W ((W (((s_.Points.length : Nat) : Int) + 1)) - 1),(fun _ => (⟨0,0⟩ : gauge_spent)),(fun _ => none : Int → Option Int)) _ _ ⟨hf.kp rfl,hc⟩ hx10)
  clear hF hf hc
  rintro ⟨a_1,x,mp⟩ st10 a w KB10 ⟨hf,hc⟩ hF hfin10 hK10
  unfold gauge_opened_b10 at hF
  refine wp_seq_k fun K12 h12 => zS fun K h => sp 2 hf rfl fun a hf => zT h ?_
  refine zI hf rfl hF ?_ ?_ <;> clear hF <;> intro hF
  ·refine wp_skip ?_
   refine h12 _ _ ?_
   refine wp_seq_k fun K14 h14 => wp_block ?_
   refine wp_seq_k fun K15 h15 => ?_
   obtain ⟨r_1,hr_1,hF⟩ := bnd_some hF
   obtain ⟨un,hun,hF⟩ := bnd_some hF
   refine regionE (fun θ => [⟨none,none,5,pq b_2⟩,⟨none,none,6,i6 (W (((s_.Points.length : Nat) : Int) + 1))⟩,⟨none,none,7,i6 a_1⟩,⟨some 0,none,28,pq b_2⟩,⟨some 1,none,29,i6 a_1⟩,⟨some 2,none,30,.agg #[i6 r_1.cost,i6 r_1.points]⟩,⟨some 3,none,31,pq b_2⟩,⟨some 4,none,32,.pointer (some ⟨b_2,5,none⟩)⟩,⟨some 5,none,33,.pointer (some ⟨b_2,5 + a_1.toNat * 2,none⟩)⟩]) (fun E θ => (bif E 6 then .box b_2 (catc [i6 s_.Left,i6 s_.Right,i6 s_.Gap,i6 s_.Step_,.slice s__Points_p s_.Points.length s__Points_c] 32 enc_gauge_spent (setF x a_1.toNat r_1) [.map (some mb)]) 129 else .box b_2 (catc [i6 s_.Left,i6 s_.Right,i6 s_.Gap,i6 s_.Step_,.slice s__Points_p s_.Points.length s__Points_c] 32 enc_gauge_spent x [.map (some mb)]) 129)::.im mb (fun j => (mp j).map (Value.int .i64)) none::Lf) [] (fun a w => Has 60 a [(5,pq b_2),(6,i6 (W (((s_.Points.length : Nat) : Int) + 1))),(7,i6 a_1)] ∧ Ctx G (.box b_2 (catc [i6 s_.Left,i6 s_.Right,i6 s_.Gap,i6 s_.Step_,.slice s__Points_p s_.Points.length s__Points_c] 32 enc_gauge_spent (setF x a_1.toNat r_1) [.map (some mb)]) 129::.im mb (fun j => (mp j).map (Value.int .i64)) none::Lf) w) follows_mx (by kernel_rfl) (by kernel_rfl) (HasE.of hf ⟨rfl,rfl,rfl,trivial,trivial,trivial,trivial,trivial,trivial,trivial⟩) hc ⟨?_,?_,?_,?_,?_,?_,?_,trivial⟩ ?_ ?_
   ·intro E θ a w hD hi hp he hc
    have hf := he.h0.mT he 0 rfl
    refine sp 1 hf rfl fun a hf => zD θ he hi hf 3 rfl rfl rfl hc
   ·intro E θ a w hD hi hp he hc
    have hf := he.h0.mT he 2 rfl
    refine sp 1 hf rfl fun a hf => zD θ he hi hf 4 rfl rfl rfl hc
   ·intro E θ a w hD hi hp he hc
    have hf := he.h0
    refine zQ (v := .agg #[i6 r_1.cost,i6 r_1.points]) hf hc en_54 rfl (fun w hc => gauge_far_ok hc hr_1) fun a w hf hc => zD θ he hi hf 5 rfl rfl rfl hc
   ·intro E θ a w hD hi hp he hc
    have e0 := hp.o 0 rfl
    have hf := he.h0.mP he 3 rfl e0
    refine sp 1 hf rfl fun a hf => zD θ he hi hf 6 rfl rfl rfl hc
   ·intro E θ a w hD hi hp he hc
    have e3 := hp.o 3 rfl
    have hf := he.h0.mP he 6 rfl e3
    refine zP hf rfl (pFA fa_129_1 rfl) fun a hf => zD θ he hi hf 7 rfl rfl rfl hc
   ·intro E θ a w hD hi hp he hc
    have e1 := hp.o 1 rfl
    have e4 := hp.o 4 rfl
    have hf := (he.h0.mP he 4 rfl e1).mP he 7 rfl e4
    refine zP hf rfl (pIAA Tryz.underlying126 sz_125 rfl rfl (inR_spec hun).1 (inR_spec hun).2) fun a hf => zD θ he hi hf 8 rfl rfl rfl hc
   ·intro E θ a w hD hi hp he hc
    have e2 := hp.o 2 rfl
    have e5 := hp.o 5 rfl
    try dsimp only at hc
    rw [hi] at hc
    have hf := (he.h0.mP he 5 rfl e2).mP he 8 rfl e5
    refine stAr (vs := [i6 r_1.cost,i6 r_1.points]) (o' := 0) (z := r_1) hf hc rfl rfl rfl rfl sz_125 rfl (fun x => (one_enc_gauge_spent x).1) rfl hun rfl rfl u0 fun w hc => zG θ he hi hf rfl ?_
    try dsimp only
    rw [updE_self E 6]
    exact hc
   ·intro E θ a w hall he hc
    have hf := he.h0
    have e6 := hall 6 rfl
    replace hf := hf.more he 2 rfl (onT)
    replace hf := hf.more he 1 rfl (onT)
    replace hf := hf.more he 0 rfl (onT)
    try dsimp only at hc
    rw [e6] at hc
    exact ⟨hf.kp rfl,hc⟩
   rintro a w ⟨hf,hc⟩
   refine h15 _ _ ?_
   refine zS fun K h => sp 3 hf rfl fun a hf => zT h ?_
   refine wp_thenK fun K17 h17 => wp_block ?_
   obtain ⟨x18,hx18,hF⟩ := bnd_some hF
   let S18 : (Int × (Nat → gauge_spent) × (Int → Option Int)) → Act → World → Prop := (fun (zz : Int × (Nat → gauge_spent) × (Int → Option Int)) a w => Has 60 a [(5,pq b_2),(6,i6 (W (((s_.Points.length : Nat) : Int) + 1))),(7,i6 a_1),(8,i6 zz.1)] ∧ Ctx G (.box b_2 (catc [i6 s_.Left,i6 s_.Right,i6 s_.Gap,i6 s_.Step_,.slice s__Points_p s_.Points.length s__Points_c] 32 enc_gauge_spent zz.2.1 [.map (some mb)]) 129::.im mb (fun j => (zz.2.2 j).map (Value.int .i64)) none::Lf) w)
   have hr18 : ∀ (zz : Int × (Nat → gauge_spent) × (Int → Option Int)) a w,x18 = .go zz → S18 zz a w → K17 a w := by
    rintro ⟨b_3,x_1,mp_1⟩ a w rfl ⟨hf,hc⟩
    replace hF := exK_go hF
    refine h17 _ _ ?_
    refine h14 _ _ ?_
    refine cReg ?_
    refine sp 3 hf rfl fun a hf => cNil ?_
    exact hK10 (W (a_1 - 1),x_1,mp_1) _ _ (sj hF).symm ⟨hf.kp rfl,hc⟩
   have ho18 : ∀ r,x18 = .out r → r = st10 := by
    rintro r rfl
    exact sj hF
   refine cLoop N (loopW (S := S18) (x := x18) ?_ N (W (a_1 + 1),(setF x a_1.toNat r_1),mp) _ _ ⟨hf.kp rfl,hc⟩ hx18)
   clear hF hf hc
   rintro ⟨b_3,x_1,mp_1⟩ st18 a w KB18 ⟨hf,hc⟩ hF hfin18 hK18
   unfold gauge_opened_b18 at hF
   refine wp_seq_k fun K19 h19 => zS fun K h => sp 3 hf rfl fun a hf => zT h ?_
   refine zI hf rfl hF ?_ ?_ <;> clear hF <;> intro hF
   ·refine wp_skip ?_
    refine h19 _ _ ?_
    refine wp_seq_k fun K21 h21 => ?_
    have hj21 : ∀ (x_2 : Nat → gauge_spent) (mp_2 : Int → Option Int) a w,Has 60 a [(5,pq b_2),(6,i6 (W (((s_.Points.length : Nat) : Int) + 1))),(7,i6 a_1),(8,i6 b_3)] → Ctx G (.box b_2 (catc [i6 s_.Left,i6 s_.Right,i6 s_.Gap,i6 s_.Step_,.slice s__Points_p s_.Points.length s__Points_c] 32 enc_gauge_spent x_2 [.map (some mb)]) 129::.im mb (fun j => (mp_2 j).map (Value.int .i64)) none::Lf) w → gauge_opened_j21 N b_3 x_2 mp_2 = some st18 → K21 a w := by
     repeat (clear hF)
     repeat (clear hc)
     repeat (clear hf)
     intro x_2 mp_2 a w hf hc hF
     unfold gauge_opened_j21 at hF
     refine h21 _ _ ?_
     refine cReg ?_
     refine sp 3 hf rfl fun a hf => cNil ?_
     exact hK18 (W (b_3 + 1),x_2,mp_2) _ _ (sj hF).symm ⟨hf.kp rfl,hc⟩
    refine wp_block ?_
    refine wp_seq_k fun K22 h22 => ?_
    obtain ⟨r_2,hr_2,hF⟩ := bnd_some hF
    obtain ⟨t_1,ht_1,hF⟩ := bnd_some hF
    refine cQ hc follows_mx (by kernel_rfl) ?_
    refine qE hf rfl rfl rfl (Pu.ev (pM rfl)) fun a hf => qE hf rfl rfl rfl (Pu.ev (pM rfl)) fun a hf => qE hf rfl rfl rfl (Pu.ev (pM rfl)) fun a hf => qE hf rfl rfl rfl (eC (v := .bool r_2) (vs := [pq b_2,i6 a_1,i6 b_3]) (caps := []) en_59 rfl rfl rfl rfl (fun w hc => (gauge_work_steps_ok (⟨s_,x_1,mp_1⟩ : gauge_work) a_1 b_3 h_s__Points ((hc.pick k1).pick k1) hr_2).mono fun e w h => ⟨h.1,((h.2.unpick k1).unpick k1)⟩)) fun a hf => qE hf rfl rfl rfl (Pu.ev (pM rfl)) fun a hf => qCut 9 (fun a => Has 60 a [(5,pq b_2),(6,i6 (W (((s_.Points.length : Nat) : Int) + 1))),(7,i6 a_1),(8,i6 b_3),(41,pq b_2),(42,i6 a_1),(43,i6 b_3),(44,.bool r_2),(45,.bool r_2),(54,.bool t_1)]) ?_ ?_
    ·cases hb : r_2
     ·rw [hb] at hf
      have hF := condF hb ht_1
      obtain rfl := sj hF
      refine qS hf rfl rfl rfl fun a hf => qS hf rfl rfl rfl fun a hf => qS hf rfl rfl rfl fun a hf => qS hf rfl rfl rfl fun a hf => qS hf rfl rfl rfl fun a hf => qS hf rfl rfl rfl fun a hf => qS hf rfl rfl rfl fun a hf => qS hf rfl rfl rfl fun a hf => qE hf rfl rfl rfl (Pu.ev (pPf rfl rfl)) fun a hf => qNil (hf.kp rfl)
     ·rw [hb] at hf
      have hF := condT hb ht_1
      obtain ⟨un_1,hun_1,hF⟩ := bnd_some hF
      obtain ⟨r_3,hr_3,hF⟩ := bnd_some hF
      refine qE hf rfl rfl rfl (Pu.ev (pM rfl)) fun a hf => qE hf rfl rfl rfl (Pu.ev (pM rfl)) fun a hf => qE hf rfl rfl rfl (Pu.ev (pNC rfl)) fun a hf => qE hf rfl rfl rfl (Pu.ev (pFA fa_129_1 rfl)) fun a hf => qE hf rfl rfl rfl (Pu.ev (pIAA Tryz.underlying126 sz_125 rfl rfl (inR_spec hun_1).1 (inR_spec hun_1).2)) fun a hf => qE hf rfl rfl rfl (eLdN (vs := [i6 ((x_1 b_3.toNat).cost),i6 ((x_1 b_3.toNat).points)]) ag_125 rfl rfl (cells_arr (o' := 0) (m := 2) m0 (fun x => (one_enc_gauge_spent x).1) rfl hun_1 rfl)) fun a hf => qE hf rfl rfl rfl (eC (v := .agg #[i6 r_3.cost,i6 r_3.points]) (vs := []) (caps := []) en_54 rfl rfl rfl rfl (fun w hc => gauge_far_ok hc hr_3)) fun a hf => qE hf rfl rfl rfl (Pu.ev (pNeA ge_125 rfl rfl (eqs_125 _ _ _ _))) fun a hf => qE hf rfl rfl rfl (Pu.ev (pPt rfl rfl)) fun a hf => ?_
      obtain rfl := sj hF
      exact qNil (hf.kp rfl)
    intro a hf
    intro w hc
    refine h22 _ _ ?_
    refine zI hf rfl hF ?_ ?_ <;> clear hF <;> intro hF
    ·refine cReg ?_
     refine sp 3 hf rfl fun a hf => ?_
     obtain ⟨r_4,hr_4,hF⟩ := bnd_some hF
     refine zC hf en_75 rfl (gauge_work_better_ok (⟨s_,x_1,mp_1⟩ : gauge_work) a_1 b_3 h_s__Points ((hc.pick k1).pick k1) hr_4) ?_
     rintro _ w ⟨rfl,hc⟩
     refine ⟨_,rfl,fun a hf => ?_⟩
     refine cNil ?_
     exact hj21 r_4.1 r_4.2 _ _  (hf.kp rfl) hc hF
    ·refine wp_skip ?_
     exact hj21 x_1 mp_1 _ _  (hf.kp rfl) hc hF
   ·refine wp_exit ?_
    refine xThen ?_
    refine xThen ?_
    have he := sj hF
    rw [← he] at hfin18
    refine cHit ?_
    exact hr18 _ _ _ hfin18 ⟨hf.kp rfl,hc⟩
  ·refine wp_exit ?_
   refine xThen ?_
   refine xThen ?_
   have he := sj hF
   rw [← he] at hfin10
   refine cHit ?_
   exact hr10 _ _ _ hfin10 ⟨hf.kp rfl,hc⟩

def gauge_Plan_1 : Nat → Int → gauge_work → gauge_Site → (List Int) → Option ((List Int))
| 0,_,_,_,_ => none
| N + 1,at_,x,x_1,x_2 =>
 cond (decide (((x.from_ at_).getD 0) ≤ ((x_1.Points.length : Nat) : Int)))
 (Option.bind (room ((x_2 ++ [((x.from_ at_).getD 0)])).length) fun un =>
 Option.bind (gauge_Plan_1 N ((x.from_ at_).getD 0) (⟨x.Site,x.least,x.from_⟩ : gauge_work) x_1 (x_2 ++ [((x.from_ at_).getD 0)])) fun r =>
 some r)
 (some x_2)
theorem gauge_Plan_1_ok {N : Nat} : ∀ {G : Pers} {Lf : List Ent} {w : World} (at_ : Int) (x : gauge_work) (x_1 : gauge_Site) (x_2 : List Int) {b_ : Nat} {b__1 : Nat} {x_Site_Points_p : Option Addr} {x_Site_Points_c : Nat} {mb : Nat} {b__2 : Nat} {x_1_Points_p : Option Addr} {x_1_Points_c : Nat} {b__3 : Nat} {x_2_p : Option Addr} {x_2_c : Nat} {b__4 : Nat} (h_x_Site_Points : Rd G 3 x_Site_Points_p x_Site_Points_c (x.Site.Points.map enc_gauge_Point)) (h_x_1_Points : Rd G 3 x_1_Points_p x_1_Points_c (x_1.Points.map enc_gauge_Point)) (hc : Ctx G (.box b_ [pq b__1] 121::.box b__1 (catc [i6 x.Site.Left,i6 x.Site.Right,i6 x.Site.Gap,i6 x.Site.Step_,.slice x_Site_Points_p x.Site.Points.length x_Site_Points_c] 32 enc_gauge_spent x.least [.map (some mb)]) 129::.im mb (fun j => (x.from_ j).map (Value.int .i64)) none::.box b__2 [i6 x_1.Left,i6 x_1.Right,i6 x_1.Gap,i6 x_1.Step_,.slice x_1_Points_p x_1.Points.length x_1_Points_c] 97::.box b__3 [.slice x_2_p x_2.length x_2_c] 23::.row x_2_p x_2_c (x_2.map encI_i64) 3 1::.box b__4 [.func (.func 55) #[] #[pq b_,pq b__2,pq b__3,pq b__4]] 131::Lf) w) {res : (List Int)} (hF : gauge_Plan_1 N at_ x x_1 x_2 = some res),Calls Tryz.prog 55 #[i6 at_,pq b_,pq b__2,pq b__3,pq b__4] w (fun e w => ∃ (p'1 : Option Addr) (c'1 : Nat),e = .returned (.tuple #[]) ∧ Ctx G (.row p'1 c'1 (res.map encI_i64) 3 1::.box b_ [pq b__1] 121::.box b__1 (catc [i6 x.Site.Left,i6 x.Site.Right,i6 x.Site.Gap,i6 x.Site.Step_,.slice x_Site_Points_p x.Site.Points.length x_Site_Points_c] 32 enc_gauge_spent x.least [.map (some mb)]) 129::.im mb (fun j => (x.from_ j).map (Value.int .i64)) none::.box b__2 [i6 x_1.Left,i6 x_1.Right,i6 x_1.Gap,i6 x_1.Step_,.slice x_1_Points_p x_1.Points.length x_1_Points_c] 97::.box b__3 [.slice p'1 res.length c'1] 23::.box b__4 [.func (.func 55) #[] #[pq b_,pq b__2,pq b__3,pq b__4]] 131::Lf) w) := by
 induction N with
 | zero =>
  intro G Lf w at_ x x_1 x_2 b_ b__1 x_Site_Points_p x_Site_Points_c mb b__2 x_1_Points_p x_1_Points_c b__3 x_2_p x_2_c b__4 h_x_Site_Points h_x_1_Points hc res hF
  exact noneO hF
 | succ N ih =>
 intro G Lf w at_ x x_1 x_2 b_ b__1 x_Site_Points_p x_Site_Points_c mb b__2 x_1_Points_p x_1_Points_c b__3 x_2_p x_2_c b__4 h_x_Site_Points h_x_1_Points hc res hF
 rw [gauge_Plan_1] at hF
 refine fnIn Tryz.func55 rfl Tryz.ntmps55 rfl fun a hf => zS fun K h => zL hf hc sc_121 m0 rfl fun a w hf hc => sp 1 hf rfl fun a hf => zP hf rfl (pFA fa_129_2 rfl) fun a hf => zL hf hc sc_127 m1 rfl fun a w hf hc => sp 1 hf rfl fun a hf => zE hf hc rfl (eLk (enc := (Value.int .i64)) (z0 := 0) (m := x.from_) m2 Tryz.underlying127 Tryz.underlying3 zr_3 rfl rfl) fun a w hf hc => sp 1 hf rfl fun a hf => zT h ?_
 refine zS fun K h => sp 1 hf rfl fun a hf => zP hf rfl (pFA fa_97_4 rfl) fun a hf => zL hf hc sc_95 m3 rfl fun a w hf hc => zP hf rfl (pLenS Tryz.underlying95 rfl) fun a hf => sp 1 hf rfl fun a hf => zT h ?_
 refine zI hf rfl hF ?_ ?_ <;> clear hF <;> intro hF
 ·refine zS fun K h => zL hf hc sc_23 m4 rfl fun a w hf hc => sp 1 hf rfl fun a hf => stBS (rows := ([((x.from_ at_).getD 0)] : List Int).map encI_i64) (vs := [(0,i6 ((x.from_ at_).getD 0))]) hf hc rfl rfl sl_23 rfl ⟨rfl,rfl,rfl,trivial⟩ rfl rfl fun b_1 a w hf hc => ?_
  obtain ⟨un,hun,hF⟩ := bnd_some hF
  refine stApm (xs := x_2) (ys := ([((x.from_ at_).getD 0)] : List Int)) hf hc rfl rfl sl_23 rfl rfl rfl rfl rfl one_encI_i64 (src_row hc m0) (fun _ _ => u6) (by simpa using room_spec hun) fun p_1 c_1 a w hf hc => zW hf hc sz_23 u5 rfl fun w hc => zT h ?_
  refine cReg ?_
  refine zL hf hc sc_131 m7 rfl fun a w hf hc => sp 1 hf rfl fun a hf => ?_
  obtain ⟨r,hr,hF⟩ := bnd_some hF
  refine zC hf en_55 rfl (ih ((x.from_ at_).getD 0) (⟨x.Site,x.least,x.from_⟩ : gauge_work) x_1 (x_2 ++ [((x.from_ at_).getD 0)]) h_x_Site_Points h_x_1_Points (((((((hc.pick k7).pick k7).pick k7).pick k7).pick k7).pick k7).pick k7) hr) ?_
  rintro _ w ⟨p_2,c_2,rfl,hc⟩
  refine ⟨_,rfl,fun a hf => ?_⟩
  refine cNil ?_
  obtain rfl := sj hF
  replace hc := hc.drop k7
  exact fnOut0 (by simp) rfl Tryz.results55 hf ⟨p_2,c_2,rfl,hc⟩
 ·refine wp_skip ?_
  obtain rfl := sj hF
  replace hc := (((((hc.pick k4).pick k4).pick k4).pick k4).pick k4).pick k5
  exact fnOut0 (by simp) rfl Tryz.results55 hf ⟨x_2_p,x_2_c,rfl,hc⟩

def gauge_Plan (N : Nat) (s_ : gauge_Site) : Option ((List Int) × Int × Int) :=
 Option.bind (gauge_opened N s_) (sumK (fun r => cond (r != 0)
 (some (([] : List Int),0,r))
 (none))
 (fun r_1 => cond (r_1.2.2.2.2.2.2 != 0)
 (some (([] : List Int),0,r_1.2.2.2.2.2.2))
 (Option.bind (inR 0 32) fun un =>
 Option.bind (gauge_far N) fun r_2 =>
 cond (((r_1.2.2.2.2.1 (0 : Int).toNat).cost) == r_2.cost && ((r_1.2.2.2.2.1 (0 : Int).toNat).points) == r_2.points)
 (some (([] : List Int),0,5))
 (Option.bind (gauge_Plan_1 N 0 (⟨(⟨r_1.1,r_1.2.1,r_1.2.2.1,r_1.2.2.2.1,s_.Points⟩ : gauge_Site),r_1.2.2.2.2.1,r_1.2.2.2.2.2.1⟩ : gauge_work) s_ ([] : List Int)) fun r_3 =>
 Option.bind (inR 0 32) fun un_1 =>
 some (r_3,(r_1.2.2.2.2.1 (0 : Int).toNat).cost,0)))))
theorem gauge_Plan_ok {N : Nat} {G : Pers} {Lf : List Ent} {w : World} (s_ : gauge_Site) {s__Points_p : Option Addr} {s__Points_c : Nat} (h_s__Points : Rd G 3 s__Points_p s__Points_c (s_.Points.map enc_gauge_Point)) (hc : Ctx G (Lf) w) {res : (List Int) × Int × Int} (hF : gauge_Plan N s_ = some res) : Calls Tryz.prog 29 #[.agg #[i6 s_.Left,i6 s_.Right,i6 s_.Gap,i6 s_.Step_,.slice s__Points_p s_.Points.length s__Points_c]] w (fun e w => ∃ (p'1 : Option Addr) (c'1 : Nat),e = .returned (.tuple #[.slice p'1 res.1.length c'1,i6 res.2.1,i6 res.2.2]) ∧ Ctx G (.row p'1 c'1 (res.1.map encI_i64) 3 1::Lf) w) := by
 unfold gauge_Plan at hF
 refine fnIn Tryz.func29 rfl Tryz.ntmps29 rfl fun a hf => zS fun K h => zB hf hc rfl fun b_1 a w hf hc => sp 3 hf rfl fun a hf => zT h ?_
 refine zS fun K h => zN hf hc ag_97 m0 rfl fun a w hf hc => ?_
 obtain ⟨r,hr,hF⟩ := bnd_some hF
 cases r with
 | inl r =>
  replace hF := sumKl hF
  refine zC hf en_53 rfl (gauge_opened_ok s_ h_s__Points hc hr) ?_
  rintro _ w ⟨rfl,hc⟩
  refine ⟨_,rfl,fun a hf => ?_⟩
  refine sp 3 hf rfl fun a hf => zA hf hc zr_121 rfl fun b_2 a w hf hc => zW hf hc sz_121 u0 rfl fun w hc => sp 1 hf rfl fun a hf => zT h ?_
  refine wp_seq_k fun K3 h3 => wp_block ?_
  refine zS fun K h => sp 3 hf rfl fun a hf => zT h ?_
  refine zI hf rfl hF ?_ ?_ <;> clear hF <;> intro hF
  ·refine zS fun K h => sp 4 hf rfl fun a hf => zT h ?_
   refine wp_ret ?_
   refine xBlkR ?_
   refine xThenR ?_
   obtain rfl := sj hF
   replace hc := hc.nilRow 3 1
   replace hc := (hc.drop k2).drop k1
   exact zO3 Tryz.results29 hf rfl rfl rfl ⟨none,0,rfl,hc⟩
  ·refine wp_seq_k fun K6 h6 => noneO hF
 | inr r_1 =>
  replace hF := sumKr hF
  have hr_1 := hr
  refine zC hf en_53 rfl (gauge_opened_ok s_ h_s__Points hc hr_1) ?_
  rintro _ w ⟨b_3,b_4,rfl,hc⟩
  refine ⟨_,rfl,fun a hf => ?_⟩
  refine sp 3 hf rfl fun a hf => zA hf hc zr_121 rfl fun b_5 a w hf hc => zW hf hc sz_121 u0 rfl fun w hc => sp 1 hf rfl fun a hf => zT h ?_
  refine wp_seq_k fun K7 h7 => wp_block ?_
  refine zS fun K h => sp 3 hf rfl fun a hf => zT h ?_
  refine zI hf rfl hF ?_ ?_ <;> clear hF <;> intro hF
  ·refine zS fun K h => sp 4 hf rfl fun a hf => zT h ?_
   refine wp_ret ?_
   refine xBlkR ?_
   refine xThenR ?_
   obtain rfl := sj hF
   replace hc := hc.nilRow 3 1
   replace hc := (((hc.drop k4).drop k3).drop k2).drop k1
   exact zO3 Tryz.results29 hf rfl rfl rfl ⟨none,0,rfl,hc⟩
  ·refine wp_seq_k fun K10 h10 => ?_
   obtain ⟨un,hun,hF⟩ := bnd_some hF
   obtain ⟨r_2,hr_2,hF⟩ := bnd_some hF
   refine cQ hc follows_mx (by kernel_rfl) ?_
   refine qE hf rfl rfl rfl (eLd1 sc_121 rfl (cell_box m0 rfl)) fun a hf => qE hf rfl rfl rfl (Pu.ev (pNC rfl)) fun a hf => qE hf rfl rfl rfl (Pu.ev (pFA fa_129_1 rfl)) fun a hf => qE hf rfl rfl rfl (Pu.ev (pIAA Tryz.underlying126 sz_125 rfl rfl (inR_spec hun).1 (inR_spec hun).2)) fun a hf => qE hf rfl rfl rfl (eLdN (vs := [i6 ((r_1.2.2.2.2.1 (0 : Int).toNat).cost),i6 ((r_1.2.2.2.2.1 (0 : Int).toNat).points)]) ag_125 rfl rfl (cells_arr (o' := 0) (m := 2) m2 (fun x => (one_enc_gauge_spent x).1) rfl hun rfl)) fun a hf => qE hf rfl rfl rfl (eC (v := .agg #[i6 r_2.cost,i6 r_2.points]) (vs := []) (caps := []) en_54 rfl rfl rfl rfl (fun w hc => gauge_far_ok hc hr_2)) fun a hf => qE hf rfl rfl rfl (Pu.ev (pEqA ge_125 rfl rfl (eqs_125 _ _ _ _))) fun a hf => qE hf rfl rfl rfl (Pu.ev (pA rfl)) fun a hf => ?_
   intro w hc
   refine h10 _ _ ?_
   refine zI hf rfl hF ?_ ?_ <;> clear hF <;> intro hF
   ·refine zS fun K h => sp 3 hf rfl fun a hf => zT h ?_
    refine wp_ret ?_
    refine xBlkR ?_
    refine xThenR ?_
    obtain rfl := sj hF
    replace hc := hc.nilRow 3 1
    replace hc := (((hc.drop k4).drop k3).drop k2).drop k1
    exact zO3 Tryz.results29 hf rfl rfl rfl ⟨none,0,rfl,hc⟩
   ·refine wp_skip ?_
    refine h7 _ _ ?_
    refine zS fun K h => zA hf hc zr_23 rfl fun b_6 a w hf hc => zT h ?_
    refine zS fun K h => zA hf hc zr_131 rfl fun b_7 a w hf hc => zT h ?_
    refine zS fun K h => zP hf rfl (pMF (us := [pq b_5,pq b_1,pq b_6,pq b_7]) rfl rfl) fun a hf => zW hf hc sz_131 u0 rfl fun w hc => zT h ?_
    refine zS fun K h => zL hf hc sc_131 m0 rfl fun a w hf hc => ?_
    replace hc := hc.nilRow 3 1
    obtain ⟨r_3,hr_3,hF⟩ := bnd_some hF
    refine zC hf en_55 rfl (gauge_Plan_1_ok 0 (⟨(⟨r_1.1,r_1.2.1,r_1.2.2.1,r_1.2.2.2.1,s_.Points⟩ : gauge_Site),r_1.2.2.2.2.1,r_1.2.2.2.2.2.1⟩ : gauge_work) s_ ([] : List Int) h_s__Points h_s__Points (((((((hc.pick k1).pick k1).pick k2).pick k6).pick k5).pick k6).pick k6) hr_3) ?_
    rintro _ w ⟨p_1,c_1,rfl,hc⟩
    refine ⟨_,rfl,fun a hf => ?_⟩
    refine zT h ?_
    refine wp_seq_k fun K16 h16 => ?_
    obtain ⟨un_1,hun_1,hF⟩ := bnd_some hF
    refine cQ hc follows_mx (by kernel_rfl) ?_
    refine qE hf rfl rfl rfl (eLd1 sc_23 rfl (cell_box m5 rfl)) fun a hf => qE hf rfl rfl rfl (eLd1 sc_121 rfl (cell_box m1 rfl)) fun a hf => qE hf rfl rfl rfl (Pu.ev (pNC rfl)) fun a hf => qE hf rfl rfl rfl (Pu.ev (pFA fa_129_1 rfl)) fun a hf => qE hf rfl rfl rfl (Pu.ev (pIAA Tryz.underlying126 sz_125 rfl rfl (inR_spec hun_1).1 (inR_spec hun_1).2)) fun a hf => qE hf rfl rfl rfl (Pu.ev (pFA fa_125_0 rfl)) fun a hf => qE hf rfl rfl rfl (eLd1 sc_3 rfl (cell_arr (j := 0) m2 (fun x => (one_enc_gauge_spent x).1) rfl hun_1 rfl)) fun a hf => qE hf rfl rfl rfl (Pu.ev (pA rfl)) fun a hf => qE hf rfl rfl rfl (Pu.ev (pA rfl)) fun a hf => qE hf rfl rfl rfl (Pu.ev (pA rfl)) fun a hf => ?_
    intro w hc
    refine h16 _ _ ?_
    refine wp_ret ?_
    obtain rfl := sj hF
    replace hc := (((((hc.drop k6).drop k5).drop k4).drop k3).drop k2).drop k1
    exact zO3 Tryz.results29 hf rfl rfl rfl ⟨p_1,c_1,rfl,hc⟩

def gauge_Proves_1 (n : Int) : Bool :=
 (gauge_in n (-1000000000) 1000000000)
theorem gauge_Proves_1_ok {G : Pers} {Lf : List Ent} {w : World} (n : Int)   (hc : Ctx G (Lf) w) {res : Bool} (hF : gauge_Proves_1 n = res) : Calls Tryz.prog 58 #[i6 n] w (fun e w => e = .returned (.bool res) ∧ Ctx G (Lf) w) := by
 unfold gauge_Proves_1 at hF
 refine fnIn Tryz.func58 rfl Tryz.ntmps58 rfl fun a hf => zS fun K h => sp 1 hf rfl fun a hf => zT h ?_
 refine zS fun K h => sp 1 hf rfl fun a hf => zQ (v := .bool (gauge_in n (-1000000000) 1000000000)) hf hc en_21 rfl (fun w hc => gauge_in_ok n (-1000000000) 1000000000 hc rfl) fun a w hf hc => sp 1 hf rfl fun a hf => zT h ?_
 refine wp_ret ?_
 obtain rfl := hF
 exact zO1 Tryz.results58 hf rfl ⟨rfl,hc⟩

def gauge_every_int_1 (x : Int) : Bool :=
 (!(gauge_Proves_1 x))
theorem gauge_every_int_1_ok {G : Pers} {Lf : List Ent} {w : World} (x : Int) {b_ : Nat}  (hc : Ctx G (.box b_ [.func (.func 58) #[] #[]] 136::Lf) w) {res : Bool} (hF : gauge_every_int_1 x = res) : Calls Tryz.prog 80 #[i6 x,pq b_] w (fun e w => e = .returned (.bool res) ∧ Ctx G (.box b_ [.func (.func 58) #[] #[]] 136::Lf) w) := by
 unfold gauge_every_int_1 at hF
 refine fnIn Tryz.func80 rfl Tryz.ntmps80 rfl fun a hf => zS fun K h => sp 1 hf rfl fun a hf => zT h ?_
 refine zS fun K h => zL hf hc sc_136 m0 rfl fun a w hf hc => sp 1 hf rfl fun a hf => zQ (v := .bool (gauge_Proves_1 x)) hf hc en_58 rfl (fun w hc => gauge_Proves_1_ok x hc rfl) fun a w hf hc => sp 2 hf rfl fun a hf => zT h ?_
 refine wp_ret ?_
 obtain rfl := hF
 exact zO1 Tryz.results80 hf rfl ⟨rfl,hc⟩

def slices_IndexFunc_Lint_int_b4 (N : Nat) (s_ : List Int) (x : Int) : Option (Step (Int) (Int)) :=
 cond (decide (x < ((s_.length : Nat) : Int)))
 (Option.bind (getI s_ x) fun e_1 =>
 cond (gauge_every_int_1 e_1)
 (some (.ret x))
 (some (.cont (W (x + 1)))))
 (some (.brk x))
def slices_IndexFunc_Lint_int (N : Nat) (s_ : List Int) : Option (Int) :=
 Option.bind (loopO (fun s4 => slices_IndexFunc_Lint_int_b4 N s_ s4) N 0) fun x4 =>
 exK x4 (fun s4 => some (-1)) some
theorem slices_IndexFunc_Lint_int_ok {N : Nat} {G : Pers} {Lf : List Ent} {w : World} (s_ : List Int) {s__p : Option Addr} {s__c : Nat} {b_ : Nat} (h_s_ : Rd G 1 s__p s__c (s_.map encI_i64)) (hc : Ctx G (.box b_ [.func (.func 58) #[] #[]] 136::Lf) w) {res : Int} (hF : slices_IndexFunc_Lint_int N s_ = some res) : Calls Tryz.prog 94 #[.slice s__p s_.length s__c,.func (.func 80) #[] #[pq b_]] w (fun e w => e = .returned (i6 res) ∧ Ctx G (.box b_ [.func (.func 58) #[] #[]] 136::Lf) w) := by
 unfold slices_IndexFunc_Lint_int at hF
 refine fnIn Tryz.func94 rfl Tryz.ntmps94 rfl fun a hf => zS fun K h => sp 1 hf rfl fun a hf => zT h ?_
 refine wp_seq_k fun K2 h2 => zS fun K h => sp 1 hf rfl fun a hf => zP hf rfl (pLenS Tryz.underlying23 rfl) fun a hf => sp 1 hf rfl fun a hf => zT h ?_
 refine wp_block ?_
 obtain ⟨x4,hx4,hF⟩ := bnd_some hF
 let S4 : Int → Act → World → Prop := (fun (zz : Int) a w => Has 19 a [(0,.slice s__p s_.length s__c),(1,.func (.func 80) #[] #[pq b_]),(7,i6 ((s_.length : Nat) : Int)),(8,i6 zz)] ∧ Ctx G (.box b_ [.func (.func 58) #[] #[]] 136::Lf) w)
 have hr4 : ∀ (zz : Int) a w,x4 = .go zz → S4 zz a w → K2 a w := by
  rintro x a w rfl ⟨hf,hc⟩
  replace hF := exK_go hF
  refine h2 _ _ ?_
  refine zS fun K h => sp 1 hf rfl fun a hf => zT h ?_
  refine wp_ret ?_
  obtain rfl := sj hF
  exact zO1 Tryz.results94 hf rfl ⟨rfl,hc⟩
 have ho4 : ∀ r,x4 = .out r → r = res := by
  rintro r rfl
  exact sj hF
 refine cLoop N (loopW (S := S4) (x := x4) ?_ N 0 _ _ ⟨hf.kp rfl,hc⟩ hx4)
 clear hF hf hc
 rintro x st4 a w KB4 ⟨hf,hc⟩ hF hfin4 hK4
 unfold slices_IndexFunc_Lint_int_b4 at hF
 refine zS fun K h => sp 1 hf rfl fun a hf => zT h ?_
 refine wp_seq_k fun K7 h7 => zI hf rfl hF ?_ ?_ <;> clear hF <;> intro hF
 ·refine wp_skip ?_
  refine h7 _ _ ?_
  refine wp_seq_k fun K8 h8 => wp_block ?_
  refine zS fun K h => sp 2 hf rfl fun a hf => zT h ?_
  refine zS fun K h => sp 3 hf rfl fun a hf => ?_
  obtain ⟨e_1,he_1,hF⟩ := bnd_some hF
  obtain ⟨b_1,o,qa,qp⟩ := h_s_.atm he_1
  refine zP hf rfl (pIA Tryz.underlying23 sz_3 rfl rfl qa) fun a hf => zE hf hc rfl (eLd1 sc_3 rfl (cell_pc (j := 0) qp rfl)) fun a w hf hc => zQ (v := .bool (gauge_every_int_1 e_1)) hf hc en_80 rfl (fun w hc => (gauge_every_int_1_ok e_1 (hc.pick k0) rfl).mono fun e w h => ⟨h.1,(h.2.unpick k0)⟩) fun a w hf hc => zT h ?_
  refine zI hf rfl hF ?_ ?_ <;> clear hF <;> intro hF
  ·refine zS fun K h => sp 2 hf rfl fun a hf => zT h ?_
   refine wp_ret ?_
   refine xBlkR ?_
   refine xThenR ?_
   refine xThenR ?_
   have he := sj hF
   rw [← he] at hfin4
   replace hF := ho4 _ hfin4
   refine xBlkR ?_
   refine xThenR ?_
   obtain rfl := hF
   exact zO1 Tryz.results94 hf rfl ⟨rfl,hc⟩
  ·refine wp_skip ?_
   refine h8 _ _ ?_
   refine cReg ?_
   refine sp 2 hf rfl fun a hf => cNil ?_
   exact hK4 (W (x + 1)) _ _ (sj hF).symm ⟨hf.kp rfl,hc⟩
 ·refine wp_exit ?_
  refine xThen ?_
  refine xThen ?_
  have he := sj hF
  rw [← he] at hfin4
  refine cHit ?_
  exact hr4 _ _ _ hfin4 ⟨hf.kp rfl,hc⟩

def slices_ContainsFunc_Lint_int (N : Nat) (s_ : List Int) : Option (Bool) :=
 Option.bind (slices_IndexFunc_Lint_int N s_) fun r =>
 some (decide (0 ≤ r))
theorem slices_ContainsFunc_Lint_int_ok {N : Nat} {G : Pers} {Lf : List Ent} {w : World} (s_ : List Int) {s__p : Option Addr} {s__c : Nat} {b_ : Nat} (h_s_ : Rd G 1 s__p s__c (s_.map encI_i64)) (hc : Ctx G (.box b_ [.func (.func 58) #[] #[]] 136::Lf) w) {res : Bool} (hF : slices_ContainsFunc_Lint_int N s_ = some res) : Calls Tryz.prog 79 #[.slice s__p s_.length s__c,.func (.func 80) #[] #[pq b_]] w (fun e w => e = .returned (.bool res) ∧ Ctx G (.box b_ [.func (.func 58) #[] #[]] 136::Lf) w) := by
 unfold slices_ContainsFunc_Lint_int at hF
 refine fnIn Tryz.func79 rfl Tryz.ntmps79 rfl fun a hf => zS fun K h => sp 1 hf rfl fun a hf => zT h ?_
 refine zS fun K h => sp 2 hf rfl fun a hf => ?_
 obtain ⟨r,hr,hF⟩ := bnd_some hF
 refine zQ (v := i6 r) hf hc en_94 rfl (fun w hc => (slices_IndexFunc_Lint_int_ok s_ h_s_ (hc.pick k0) hr).mono fun e w h => ⟨h.1,(h.2.unpick k0)⟩) fun a w hf hc => sp 2 hf rfl fun a hf => zT h ?_
 refine wp_ret ?_
 obtain rfl := sj hF
 exact zO1 Tryz.results79 hf rfl ⟨rfl,hc⟩

def gauge_every_int (N : Nat) (l : List Int) : Option (Bool) :=
 Option.bind (slices_ContainsFunc_Lint_int N l) fun r =>
 some (!r)
theorem gauge_every_int_ok {N : Nat} {G : Pers} {Lf : List Ent} {w : World} (l : List Int) {l_p : Option Addr} {l_c : Nat} (h_l : Rd G 1 l_p l_c (l.map encI_i64)) (hc : Ctx G (Lf) w) {res : Bool} (hF : gauge_every_int N l = some res) : Calls Tryz.prog 57 #[.slice l_p l.length l_c,.func (.func 58) #[] #[]] w (fun e w => e = .returned (.bool res) ∧ Ctx G (Lf) w) := by
 unfold gauge_every_int at hF
 refine fnIn Tryz.func57 rfl Tryz.ntmps57 rfl fun a hf => zS fun K h => zB hf hc rfl fun b_1 a w hf hc => sp 1 hf rfl fun a hf => zT h ?_
 refine zS fun K h => sp 1 hf rfl fun a hf => zP hf rfl (pMF (us := [pq b_1]) rfl rfl) fun a hf => ?_
 obtain ⟨r,hr,hF⟩ := bnd_some hF
 refine zQ (v := .bool r) hf hc en_79 rfl (fun w hc => (slices_ContainsFunc_Lint_int_ok l h_l (hc.pick k0) hr).mono fun e w h => ⟨h.1,(h.2.unpick k0)⟩) fun a w hf hc => sp 2 hf rfl fun a hf => zT h ?_
 refine wp_ret ?_
 obtain rfl := sj hF
 replace hc := hc.drop k0
 exact zO1 Tryz.results57 hf rfl ⟨rfl,hc⟩

def gauge_work_station_s2 (N : Nat) (w_ : Int) (w__1 : Int) (w__2 : Int) (w__3 : Int) (w__4 : List gauge_Point) (w__5 : Nat → gauge_spent) (i_ : Int) : Option (gauge_Point) :=
 cond (i_ == 0)
 (some (⟨w_,0,0⟩ : gauge_Point))
 (cond (i_ == (W (((w__4.length : Nat) : Int) + 1)))
 (some (⟨w__1,0,0⟩ : gauge_Point))
 (Option.bind (getI w__4 (W (i_ - 1))) fun e_1 =>
 some e_1))
theorem gauge_work_station_s2_ok {N : Nat} {G : Pers} {Lf : List Ent} {w : World} (w_ : Int) (w__1 : Int) (w__2 : Int) (w__3 : Int) (w__4 : List gauge_Point) (w__5 : Nat → gauge_spent) (i_ : Int) {b_ : Nat} {w__4_p : Option Addr} {w__4_c : Nat} (h_w__4 : Rd G 3 w__4_p w__4_c (w__4.map enc_gauge_Point)) (hc : Ctx G (.box b_ (catc [i6 w_,i6 w__1,i6 w__2,i6 w__3,.slice w__4_p w__4.length w__4_c] 32 enc_gauge_spent w__5 [.map none]) 129::Lf) w) {res : gauge_Point} (hF : gauge_work_station_s2 N w_ w__1 w__2 w__3 w__4 w__5 i_ = some res) : Calls Tryz.prog 60 #[pq b_,i6 i_] w (fun e w => e = .returned (.agg #[i6 res.At,i6 res.Depth,i6 res.Cost]) ∧ Ctx G (.box b_ (catc [i6 w_,i6 w__1,i6 w__2,i6 w__3,.slice w__4_p w__4.length w__4_c] 32 enc_gauge_spent w__5 [.map none]) 129::Lf) w) := by
 unfold gauge_work_station_s2 at hF
 refine fnIn Tryz.func60 rfl Tryz.ntmps60 rfl fun a hf => zS fun K h => zA hf hc zr_133 rfl fun b_1 a w hf hc => zT h ?_
 refine wp_seq_k fun K2 h2 => zS fun K h => sp 1 hf rfl fun a hf => zT h ?_
 refine wp_block ?_
 refine zS fun K h => sp 2 hf rfl fun a hf => zT h ?_
 refine zI hf rfl hF ?_ ?_ <;> clear hF <;> intro hF
 ·refine zS fun K h => sp 2 hf rfl fun a hf => zP hf rfl (pFA fa_129_0 rfl) fun a hf => zP hf rfl (pFA fa_97_0 rfl) fun a hf => zL hf hc sc_3 m1 rfl fun a w hf hc => zP hf rfl (pBuildS (cells := [i6 w_,i6 0,i6 0]) bt_133 rfl rfl) fun a hf => zW hf hc sz_133 u0 rfl fun w hc => zT h ?_
  refine wp_ret ?_
  refine xBlkR ?_
  refine xThenR ?_
  obtain rfl := sj hF
  replace hc := (hc.pick k0).pick k1
  exact fnOut1 (by simp) rfl Tryz.results60 hf hc (rv_cellN (vs := [i6 w_,i6 0,i6 0]) ag_133 rfl rfl (cells_box (n := 3) m1 rfl)) ⟨rfl,(hc.drop k1)⟩
 ·refine zS fun K h => sp 2 hf rfl fun a hf => zP hf rfl (pFA fa_129_0 rfl) fun a hf => zP hf rfl (pFA fa_97_4 rfl) fun a hf => zL hf hc sc_95 m1 rfl fun a w hf hc => zP hf rfl (pLenS Tryz.underlying95 rfl) fun a hf => sp 3 hf rfl fun a hf => zT h ?_
  refine zI hf rfl hF ?_ ?_ <;> clear hF <;> intro hF
  ·refine zS fun K h => sp 2 hf rfl fun a hf => zP hf rfl (pFA fa_129_0 rfl) fun a hf => zP hf rfl (pFA fa_97_1 rfl) fun a hf => zL hf hc sc_3 m1 rfl fun a w hf hc => zP hf rfl (pBuildS (cells := [i6 w__1,i6 0,i6 0]) bt_133 rfl rfl) fun a hf => zW hf hc sz_133 u0 rfl fun w hc => zT h ?_
   refine wp_ret ?_
   refine xBlkR ?_
   refine xThenR ?_
   obtain rfl := sj hF
   replace hc := (hc.pick k0).pick k1
   exact fnOut1 (by simp) rfl Tryz.results60 hf hc (rv_cellN (vs := [i6 w__1,i6 0,i6 0]) ag_133 rfl rfl (cells_box (n := 3) m1 rfl)) ⟨rfl,(hc.drop k1)⟩
  ·refine wp_skip ?_
   refine h2 _ _ ?_
   refine zS fun K h => sp 2 hf rfl fun a hf => zP hf rfl (pFA fa_129_0 rfl) fun a hf => zP hf rfl (pFA fa_97_4 rfl) fun a hf => zL hf hc sc_95 m1 rfl fun a w hf hc => sp 2 hf rfl fun a hf => ?_
   obtain ⟨e_1,he_1,hF⟩ := bnd_some hF
   obtain ⟨b_2,o,qa,qp⟩ := h_w__4.atm he_1
   refine zP hf rfl (pIA Tryz.underlying95 sz_133 rfl rfl qa) fun a hf => zE hf hc rfl (eLdN (vs := [i6 e_1.At,i6 e_1.Depth,i6 e_1.Cost]) ag_133 rfl rfl (cells_pc qp (n := 3) (o' := 0) rfl)) fun a w hf hc => zW hf hc sz_133 u0 rfl fun w hc => zT h ?_
   refine wp_ret ?_
   obtain rfl := sj hF
   replace hc := (hc.pick k0).pick k1
   exact fnOut1 (by simp) rfl Tryz.results60 hf hc (rv_cellN (vs := [i6 e_1.At,i6 e_1.Depth,i6 e_1.Cost]) ag_133 rfl rfl (cells_box (n := 3) m1 rfl)) ⟨rfl,(hc.drop k1)⟩

def gauge_work_steps_s2 (N : Nat) (w_ : Int) (w__1 : Int) (w__2 : Int) (w__3 : Int) (w__4 : List gauge_Point) (w__5 : Nat → gauge_spent) (a_ : Int) (b__1 : Int) : Option (Bool) :=
 Option.bind (gauge_work_station_s2 N w_ w__1 w__2 w__3 w__4 w__5 a_) fun r =>
 Option.bind (gauge_work_station_s2 N w_ w__1 w__2 w__3 w__4 w__5 b__1) fun r_1 =>
 some ((decide ((W (r_1.At - r.At)) ≤ w__2)) && (decide ((max (W (r.Depth - r_1.Depth)) (W (r_1.Depth - r.Depth))) ≤ w__3)))
theorem gauge_work_steps_s2_ok {N : Nat} {G : Pers} {Lf : List Ent} {w : World} (w_ : Int) (w__1 : Int) (w__2 : Int) (w__3 : Int) (w__4 : List gauge_Point) (w__5 : Nat → gauge_spent) (a_ : Int) (b__1 : Int) {b_ : Nat} {w__4_p : Option Addr} {w__4_c : Nat} (h_w__4 : Rd G 3 w__4_p w__4_c (w__4.map enc_gauge_Point)) (hc : Ctx G (.box b_ (catc [i6 w_,i6 w__1,i6 w__2,i6 w__3,.slice w__4_p w__4.length w__4_c] 32 enc_gauge_spent w__5 [.map none]) 129::Lf) w) {res : Bool} (hF : gauge_work_steps_s2 N w_ w__1 w__2 w__3 w__4 w__5 a_ b__1 = some res) : Calls Tryz.prog 59 #[pq b_,i6 a_,i6 b__1] w (fun e w => e = .returned (.bool res) ∧ Ctx G (.box b_ (catc [i6 w_,i6 w__1,i6 w__2,i6 w__3,.slice w__4_p w__4.length w__4_c] 32 enc_gauge_spent w__5 [.map none]) 129::Lf) w) := by
 unfold gauge_work_steps_s2 at hF
 refine fnIn Tryz.func59 rfl Tryz.ntmps59 rfl fun a hf => zS fun K h => sp 1 hf rfl fun a hf => zT h ?_
 refine zS fun K h => sp 2 hf rfl fun a hf => ?_
 obtain ⟨r,hr,hF⟩ := bnd_some hF
 refine zQ (v := .agg #[i6 r.At,i6 r.Depth,i6 r.Cost]) hf hc en_60 rfl (fun w hc => (gauge_work_station_s2_ok w_ w__1 w__2 w__3 w__4 w__5 a_ h_w__4 (hc.pick k0) hr).mono fun e w h => ⟨h.1,(h.2.unpick k0)⟩) fun a w hf hc => sp 2 hf rfl fun a hf => ?_
 obtain ⟨r_1,hr_1,hF⟩ := bnd_some hF
 refine zQ (v := .agg #[i6 r_1.At,i6 r_1.Depth,i6 r_1.Cost]) hf hc en_60 rfl (fun w hc => (gauge_work_station_s2_ok w_ w__1 w__2 w__3 w__4 w__5 b__1 h_w__4 (hc.pick k0) hr_1).mono fun e w h => ⟨h.1,(h.2.unpick k0)⟩) fun a w hf hc => zA hf hc zr_133 rfl fun b_1 a w hf hc => zA hf hc zr_133 rfl fun b_2 a w hf hc => zW hf hc sz_133 u1 rfl fun w hc => zW hf hc sz_133 u0 rfl fun w hc => zT h ?_
 refine wp_seq_k fun K3 h3 => cQ hc follows_mx (by kernel_rfl) ?_
 refine qE hf rfl rfl rfl (Pu.ev (pFA fa_133_0 rfl)) fun a hf => qE hf rfl rfl rfl (eLd1 sc_3 rfl (cell_box m0 rfl)) fun a hf => qE hf rfl rfl rfl (Pu.ev (pFA fa_133_0 rfl)) fun a hf => qE hf rfl rfl rfl (eLd1 sc_3 rfl (cell_box m1 rfl)) fun a hf => qE hf rfl rfl rfl (Pu.ev (pSub rfl rfl)) fun a hf => qE hf rfl rfl rfl (Pu.ev (pM rfl)) fun a hf => qE hf rfl rfl rfl (Pu.ev (pNC rfl)) fun a hf => qE hf rfl rfl rfl (Pu.ev (pFA fa_129_0 rfl)) fun a hf => qE hf rfl rfl rfl (Pu.ev (pFA fa_97_2 rfl)) fun a hf => qE hf rfl rfl rfl (eLd1 sc_3 rfl (cell_box m2 rfl)) fun a hf => qE hf rfl rfl rfl (Pu.ev (pLe rfl rfl)) fun a hf => qE hf rfl rfl rfl (Pu.ev (pM rfl)) fun a hf => qCut 18 (fun a => Has 45 a [(0,pq b_),(6,.bool false),(7,pq b_1),(8,pq b_2),(15,pq b_2),(16,i6 r_1.At),(17,pq b_1),(18,i6 r.At),(19,i6 (W (r_1.At - r.At))),(20,pq b_),(21,pq b_),(22,pq b_),(23,.pointer (some ⟨b_,2,none⟩)),(24,i6 w__2),(25,.bool (decide ((W (r_1.At - r.At)) ≤ w__2))),(26,.bool (decide ((W (r_1.At - r.At)) ≤ w__2))),(44,.bool ((decide ((W (r_1.At - r.At)) ≤ w__2)) && (decide ((max (W (r.Depth - r_1.Depth)) (W (r_1.Depth - r.Depth))) ≤ w__3))))]) ?_ ?_
 ·cases hb : (decide ((W (r_1.At - r.At)) ≤ w__2))
  ·rw [hb] at hf
   refine qS hf rfl rfl rfl fun a hf => qS hf rfl rfl rfl fun a hf => qS hf rfl rfl rfl fun a hf => qS hf rfl rfl rfl fun a hf => qS hf rfl rfl rfl fun a hf => qS hf rfl rfl rfl fun a hf => qS hf rfl rfl rfl fun a hf => qS hf rfl rfl rfl fun a hf => qS hf rfl rfl rfl fun a hf => qS hf rfl rfl rfl fun a hf => qS hf rfl rfl rfl fun a hf => qS hf rfl rfl rfl fun a hf => qS hf rfl rfl rfl fun a hf => ?_
   refine qS hf rfl rfl rfl fun a hf => qS hf rfl rfl rfl fun a hf => qS hf rfl rfl rfl fun a hf => qS hf rfl rfl rfl fun a hf => qE hf rfl rfl rfl (Pu.ev (pPf rfl rfl)) fun a hf => qNil (hf.kp rfl)
  ·rw [hb] at hf
   refine qE hf rfl rfl rfl (Pu.ev (pFA fa_133_1 rfl)) fun a hf => qE hf rfl rfl rfl (eLd1 sc_3 rfl (cell_box m1 rfl)) fun a hf => qE hf rfl rfl rfl (Pu.ev (pFA fa_133_1 rfl)) fun a hf => qE hf rfl rfl rfl (eLd1 sc_3 rfl (cell_box m0 rfl)) fun a hf => qE hf rfl rfl rfl (Pu.ev (pSub rfl rfl)) fun a hf => qE hf rfl rfl rfl (Pu.ev (pFA fa_133_1 rfl)) fun a hf => qE hf rfl rfl rfl (eLd1 sc_3 rfl (cell_box m0 rfl)) fun a hf => qE hf rfl rfl rfl (Pu.ev (pFA fa_133_1 rfl)) fun a hf => qE hf rfl rfl rfl (eLd1 sc_3 rfl (cell_box m1 rfl)) fun a hf => qE hf rfl rfl rfl (Pu.ev (pSub rfl rfl)) fun a hf => qE hf rfl rfl rfl (Pu.ev (pMax2 rfl rfl)) fun a hf => qE hf rfl rfl rfl (Pu.ev (pM rfl)) fun a hf => qE hf rfl rfl rfl (Pu.ev (pNC rfl)) fun a hf => ?_
   refine qE hf rfl rfl rfl (Pu.ev (pFA fa_129_0 rfl)) fun a hf => qE hf rfl rfl rfl (Pu.ev (pFA fa_97_3 rfl)) fun a hf => qE hf rfl rfl rfl (eLd1 sc_3 rfl (cell_box m2 rfl)) fun a hf => qE hf rfl rfl rfl (Pu.ev (pLe rfl rfl)) fun a hf => qE hf rfl rfl rfl (Pu.ev (pPt rfl rfl)) fun a hf => qNil (hf.kp rfl)
 intro a hf
 refine qE hf rfl rfl rfl (Pu.ev (pA rfl)) fun a hf => ?_
 intro w hc
 refine h3 _ _ ?_
 refine wp_ret ?_
 obtain rfl := sj hF
 replace hc := (hc.drop k1).drop k0
 exact zO1 Tryz.results59 hf rfl ⟨rfl,hc⟩

def gauge_Proves_b22 (N : Nat) (s_ : gauge_Site) (tolls : List Int) (x : Int) (x_1 : Int) : Option (Step (Int) (Step (Int) (Bool × Int))) :=
 cond (decide (x_1 < x))
 (Option.bind (gauge_work_steps_s2 N s_.Left s_.Right s_.Gap s_.Step_ s_.Points (fun _ => (⟨0,0⟩ : gauge_spent)) x_1 x) fun r_2 =>
 Option.bind (cond r_2 (Option.bind (getI tolls x) fun e_3 =>
 Option.bind (getI tolls x_1) fun e_4 =>
 Option.bind (gauge_work_station_s2 N s_.Left s_.Right s_.Gap s_.Step_ s_.Points (fun _ => (⟨0,0⟩ : gauge_spent)) x) fun r_3 =>
 some (decide (r_3.Cost < (W (e_3 - e_4))))) (some false)) fun t_1 =>
 cond t_1
 (some (.ret (.ret (false,0))))
 (some (.cont (W (x_1 + 1)))))
 (some (.brk x_1))
def gauge_Proves_b14 (N : Nat) (s_ : gauge_Site) (tolls : List Int) (x : Int) : Option (Step (Int) (Bool × Int)) :=
 cond (decide (x < (W ((W (((s_.Points.length : Nat) : Int) + 1)) + 1))))
 (Option.bind (loopO (fun s22 => gauge_Proves_b22 N s_ tolls x s22) N 0) fun x22 =>
 exK x22 (fun s22 => some (.cont (W (x + 1)))) some)
 (some (.brk x))
def gauge_Proves (N : Nat) (s_ : gauge_Site) (tolls : List Int) (cost : Int) : Option (Bool × Int) :=
 Option.bind (gauge_CheckSite N s_) fun r =>
 cond (r != 0)
 (some (false,r))
 (cond (((tolls.length : Nat) : Int) != (W ((W (((s_.Points.length : Nat) : Int) + 1)) + 1)))
 (some (false,2))
 (Option.bind (gauge_every_int N tolls) fun r_1 =>
 cond ((!r_1) || (!(gauge_in cost 0 1000000000)))
 (some (false,4))
 (Option.bind (loopO (fun s14 => gauge_Proves_b14 N s_ tolls s14) N 0) fun x14 =>
 exK x14 (fun s14 => Option.bind (getI tolls (W (((s_.Points.length : Nat) : Int) + 1))) fun e_1 =>
 Option.bind (getI tolls 0) fun e_2 =>
 some ((decide (cost ≤ (W (e_1 - e_2)))),0)) some)))
theorem gauge_Proves_ok {N : Nat} {G : Pers} {Lf : List Ent} {w : World} (s_ : gauge_Site) (tolls : List Int) (cost : Int) {s__Points_p : Option Addr} {s__Points_c : Nat} {tolls_p : Option Addr} {tolls_c : Nat} (h_s__Points : Rd G 3 s__Points_p s__Points_c (s_.Points.map enc_gauge_Point)) (h_tolls : Rd G 1 tolls_p tolls_c (tolls.map encI_i64)) (hc : Ctx G (Lf) w) {res : Bool × Int} (hF : gauge_Proves N s_ tolls cost = some res) : Calls Tryz.prog 31 #[.agg #[i6 s_.Left,i6 s_.Right,i6 s_.Gap,i6 s_.Step_,.slice s__Points_p s_.Points.length s__Points_c],.slice tolls_p tolls.length tolls_c,i6 cost] w (fun e w => e = .returned (.tuple #[.bool res.1,i6 res.2]) ∧ Ctx G (Lf) w) := by
 unfold gauge_Proves at hF
 refine fnIn Tryz.func31 rfl Tryz.ntmps31 rfl fun a hf => zS fun K h => zB hf hc rfl fun b_1 a w hf hc => sp 2 hf rfl fun a hf => zT h ?_
 refine zS fun K h => zN hf hc ag_97 m0 rfl fun a w hf hc => ?_
 obtain ⟨r,hr,hF⟩ := bnd_some hF
 refine zQ (v := i6 r) hf hc en_56 rfl (fun w hc => gauge_CheckSite_ok s_ h_s__Points hc hr) fun a w hf hc => sp 1 hf rfl fun a hf => zT h ?_
 refine zS fun K h => zP hf rfl (pFA fa_97_4 rfl) fun a hf => zL hf hc sc_95 m0 rfl fun a w hf hc => zP hf rfl (pLenS Tryz.underlying95 rfl) fun a hf => sp 2 hf rfl fun a hf => zT h ?_
 refine wp_seq_k fun K4 h4 => wp_block ?_
 refine zS fun K h => sp 3 hf rfl fun a hf => zT h ?_
 refine zI hf rfl hF ?_ ?_ <;> clear hF <;> intro hF
 ·refine zS fun K h => sp 3 hf rfl fun a hf => zT h ?_
  refine wp_ret ?_
  refine xBlkR ?_
  refine xThenR ?_
  obtain rfl := sj hF
  replace hc := hc.drop k0
  exact zO2 Tryz.results31 hf rfl rfl ⟨rfl,hc⟩
 ·refine zS fun K h => sp 1 hf rfl fun a hf => zP hf rfl (pLenS Tryz.underlying23 rfl) fun a hf => sp 4 hf rfl fun a hf => zT h ?_
  refine zI hf rfl hF ?_ ?_ <;> clear hF <;> intro hF
  ·refine zS fun K h => sp 2 hf rfl fun a hf => zT h ?_
   refine wp_ret ?_
   refine xBlkR ?_
   refine xThenR ?_
   obtain rfl := sj hF
   replace hc := hc.drop k0
   exact zO2 Tryz.results31 hf rfl rfl ⟨rfl,hc⟩
  ·refine zS fun K h => sp 1 hf rfl fun a hf => ?_
   obtain ⟨r_1,hr_1,hF⟩ := bnd_some hF
   refine zQ (v := .bool r_1) hf hc en_57 rfl (fun w hc => gauge_every_int_ok tolls h_tolls hc hr_1) fun a w hf hc => sp 2 hf rfl fun a hf => stCc 4 (fun a => Has 82 a [(1,.slice tolls_p tolls.length tolls_c),(2,i6 cost),(3,pq b_1),(9,i6 (W (((s_.Points.length : Nat) : Int) + 1))),(30,.slice tolls_p tolls.length tolls_c),(31,.bool r_1),(32,.bool (!r_1)),(33,.bool (!r_1)),(37,.bool ((!r_1) || (!(gauge_in cost 0 1000000000))))]) hc ?_ ?_
   ·cases hb : (!r_1)
    ·rw [hb] at hf
     refine sp 1 hf rfl fun a hf => zQ (v := .bool (gauge_in cost 0 1000000000)) hf hc en_21 rfl (fun w hc => gauge_in_ok cost 0 1000000000 hc rfl) fun a w hf hc => sp 2 hf rfl fun a hf => cNil ⟨hf.kp rfl,hc⟩
    ·rw [hb] at hf
     refine stS hf rfl rfl rfl fun a hf => stS hf rfl rfl rfl fun a hf => stS hf rfl rfl rfl fun a hf => sp 1 hf rfl fun a hf => cNil ⟨hf.kp rfl,hc⟩
   intro a w ⟨hf,hc⟩
   refine sp 1 hf rfl fun a hf => zT h ?_
   refine zI hf rfl hF ?_ ?_ <;> clear hF <;> intro hF
   ·refine zS fun K h => sp 2 hf rfl fun a hf => zT h ?_
    refine wp_ret ?_
    refine xBlkR ?_
    refine xThenR ?_
    obtain rfl := sj hF
    replace hc := hc.drop k0
    exact zO2 Tryz.results31 hf rfl rfl ⟨rfl,hc⟩
   ·refine wp_skip ?_
    refine h4 _ _ ?_
    refine zS fun K h => zN hf hc ag_97 m0 rfl fun a w hf hc => zP hf rfl (pBuildS (cells := (catc [i6 s_.Left,i6 s_.Right,i6 s_.Gap,i6 s_.Step_,.slice s__Points_p s_.Points.length s__Points_c] 32 enc_gauge_spent (fun _ => (⟨0,0⟩ : gauge_spent)) [.map none])) bt_129 rfl rfl) fun a hf => stBx (cs := (catc [i6 s_.Left,i6 s_.Right,i6 s_.Gap,i6 s_.Step_,.slice s__Points_p s_.Points.length s__Points_c] 32 enc_gauge_spent (fun _ => (⟨0,0⟩ : gauge_spent)) [.map none])) hf hc rfl rfl rfl rfl fun b_2 a w hf hc => sp 1 hf rfl fun a hf => zT h ?_
    refine wp_seq_k fun K12 h12 => zS fun K h => sp 3 hf rfl fun a hf => zT h ?_
    refine wp_block ?_
    obtain ⟨x14,hx14,hF⟩ := bnd_some hF
    let S14 : Int → Act → World → Prop := (fun (zz : Int) a w => Has 82 a [(1,.slice tolls_p tolls.length tolls_c),(2,i6 cost),(9,i6 (W (((s_.Points.length : Nat) : Int) + 1))),(10,pq b_2),(42,i6 (W ((W (((s_.Points.length : Nat) : Int) + 1)) + 1))),(43,i6 zz)] ∧ Ctx G (.box b_2 (catc [i6 s_.Left,i6 s_.Right,i6 s_.Gap,i6 s_.Step_,.slice s__Points_p s_.Points.length s__Points_c] 32 enc_gauge_spent (fun _ => (⟨0,0⟩ : gauge_spent)) [.map none]) 129::Lf) w)
    have hr14 : ∀ (zz : Int) a w,x14 = .go zz → S14 zz a w → K12 a w := by
     rintro x a w rfl ⟨hf,hc⟩
     replace hF := exK_go hF
     refine h12 _ _ ?_
     refine wp_seq_k fun K15 h15 => ?_
     obtain ⟨e_1,he_1,hF⟩ := bnd_some hF
     obtain ⟨b_3,o,qa,qp⟩ := h_tolls.atm he_1
     obtain ⟨e_2,he_2,hF⟩ := bnd_some hF
     obtain ⟨b_4,o_1,qa_1,qp_1⟩ := h_tolls.atm he_2
     refine cQ hc follows_mx (by kernel_rfl) ?_
     refine qE hf rfl rfl rfl (Pu.ev (pM rfl)) fun a hf => qE hf rfl rfl rfl (Pu.ev (pM rfl)) fun a hf => qE hf rfl rfl rfl (Pu.ev (pIA Tryz.underlying23 sz_3 rfl rfl qa)) fun a hf => qE hf rfl rfl rfl (eLd1 sc_3 rfl (cell_pc (j := 0) qp rfl)) fun a hf => qE hf rfl rfl rfl (Pu.ev (pM rfl)) fun a hf => qE hf rfl rfl rfl (Pu.ev (pIA Tryz.underlying23 sz_3 rfl rfl qa_1)) fun a hf => qE hf rfl rfl rfl (eLd1 sc_3 rfl (cell_pc (j := 0) qp_1 rfl)) fun a hf => qE hf rfl rfl rfl (Pu.ev (pSub rfl rfl)) fun a hf => qE hf rfl rfl rfl (Pu.ev (pM rfl)) fun a hf => qE hf rfl rfl rfl (Pu.ev (pGe rfl rfl)) fun a hf => qE hf rfl rfl rfl (Pu.ev (pA rfl)) fun a hf => qE hf rfl rfl rfl (Pu.ev (pA rfl)) fun a hf => ?_
     intro w hc
     refine h15 _ _ ?_
     refine wp_ret ?_
     obtain rfl := sj hF
     replace hc := hc.drop k0
     exact zO2 Tryz.results31 hf rfl rfl ⟨rfl,hc⟩
    have ho14 : ∀ r,x14 = .out r → r = res := by
     rintro r rfl
     exact sj hF
    replace hc := hc.drop k1
    refine cLoop N (loopW (S := S14) (x := x14) ?_ N 0 _ _ ⟨hf.kp rfl,hc⟩ hx14)
    clear hF hf hc
    rintro x st14 a w KB14 ⟨hf,hc⟩ hF hfin14 hK14
    unfold gauge_Proves_b14 at hF
    refine zS fun K h => sp 1 hf rfl fun a hf => zT h ?_
    refine wp_seq_k fun K17 h17 => zI hf rfl hF ?_ ?_ <;> clear hF <;> intro hF
    ·refine wp_skip ?_
     refine h17 _ _ ?_
     refine wp_seq_k fun K18 h18 => wp_block ?_
     refine zS fun K h => sp 2 hf rfl fun a hf => zT h ?_
     refine zS fun K h => sp 2 hf rfl fun a hf => zT h ?_
     refine wp_thenK fun K21 h21 => wp_block ?_
     obtain ⟨x22,hx22,hF⟩ := bnd_some hF
     let S22 : Int → Act → World → Prop := (fun (zz : Int) a w => Has 82 a [(1,.slice tolls_p tolls.length tolls_c),(2,i6 cost),(9,i6 (W (((s_.Points.length : Nat) : Int) + 1))),(10,pq b_2),(11,i6 x),(42,i6 (W ((W (((s_.Points.length : Nat) : Int) + 1)) + 1))),(43,i6 x),(46,i6 x),(47,i6 zz)] ∧ Ctx G (.box b_2 (catc [i6 s_.Left,i6 s_.Right,i6 s_.Gap,i6 s_.Step_,.slice s__Points_p s_.Points.length s__Points_c] 32 enc_gauge_spent (fun _ => (⟨0,0⟩ : gauge_spent)) [.map none]) 129::Lf) w)
     have hr22 : ∀ (zz : Int) a w,x22 = .go zz → S22 zz a w → K21 a w := by
      rintro x_1 a w rfl ⟨hf,hc⟩
      replace hF := exK_go hF
      refine h21 _ _ ?_
      refine h18 _ _ ?_
      refine cReg ?_
      refine sp 2 hf rfl fun a hf => cNil ?_
      exact hK14 (W (x + 1)) _ _ (sj hF).symm ⟨hf.kp rfl,hc⟩
     have ho22 : ∀ r,x22 = .out r → r = st14 := by
      rintro r rfl
      exact sj hF
     refine cLoop N (loopW (S := S22) (x := x22) ?_ N 0 _ _ ⟨hf.kp rfl,hc⟩ hx22)
     clear hF hf hc
     rintro x_1 st22 a w KB22 ⟨hf,hc⟩ hF hfin22 hK22
     unfold gauge_Proves_b22 at hF
     refine zS fun K h => sp 1 hf rfl fun a hf => zT h ?_
     refine wp_seq_k fun K24 h24 => zI hf rfl hF ?_ ?_ <;> clear hF <;> intro hF
     ·refine wp_skip ?_
      refine h24 _ _ ?_
      refine wp_seq_k fun K25 h25 => wp_block ?_
      refine zS fun K h => sp 2 hf rfl fun a hf => zT h ?_
      refine wp_seq_k fun K27 h27 => ?_
      obtain ⟨r_2,hr_2,hF⟩ := bnd_some hF
      obtain ⟨t_1,ht_1,hF⟩ := bnd_some hF
      refine cQ hc follows_mx (by kernel_rfl) ?_
      refine qE hf rfl rfl rfl (Pu.ev (pM rfl)) fun a hf => qE hf rfl rfl rfl (Pu.ev (pM rfl)) fun a hf => qE hf rfl rfl rfl (Pu.ev (pM rfl)) fun a hf => qE hf rfl rfl rfl (eC (v := .bool r_2) (vs := [pq b_2,i6 x_1,i6 x]) (caps := []) en_59 rfl rfl rfl rfl (fun w hc => (gauge_work_steps_s2_ok s_.Left s_.Right s_.Gap s_.Step_ s_.Points (fun _ => (⟨0,0⟩ : gauge_spent)) x_1 x h_s__Points (hc.pick k0) hr_2).mono fun e w h => ⟨h.1,(h.2.unpick k0)⟩)) fun a hf => qE hf rfl rfl rfl (Pu.ev (pM rfl)) fun a hf => qCut 15 (fun a => Has 82 a [(1,.slice tolls_p tolls.length tolls_c),(2,i6 cost),(9,i6 (W (((s_.Points.length : Nat) : Int) + 1))),(10,pq b_2),(11,i6 x),(42,i6 (W ((W (((s_.Points.length : Nat) : Int) + 1)) + 1))),(43,i6 x),(46,i6 x),(47,i6 x_1),(12,i6 x_1),(50,pq b_2),(51,i6 x_1),(52,i6 x),(53,.bool r_2),(54,.bool r_2),(69,.bool t_1)]) ?_ ?_
      ·cases hb : r_2
       ·rw [hb] at hf
        have hF := condF hb ht_1
        obtain rfl := sj hF
        refine qS hf rfl rfl rfl fun a hf => qS hf rfl rfl rfl fun a hf => qS hf rfl rfl rfl fun a hf => qS hf rfl rfl rfl fun a hf => qS hf rfl rfl rfl fun a hf => qS hf rfl rfl rfl fun a hf => qS hf rfl rfl rfl fun a hf => qS hf rfl rfl rfl fun a hf => qS hf rfl rfl rfl fun a hf => qS hf rfl rfl rfl fun a hf => qS hf rfl rfl rfl fun a hf => qS hf rfl rfl rfl fun a hf => qS hf rfl rfl rfl fun a hf => ?_
        refine qS hf rfl rfl rfl fun a hf => qE hf rfl rfl rfl (Pu.ev (pPf rfl rfl)) fun a hf => qNil (hf.kp rfl)
       ·rw [hb] at hf
        have hF := condT hb ht_1
        obtain ⟨e_3,he_3,hF⟩ := bnd_some hF
        obtain ⟨b_5,o_2,qa_2,qp_2⟩ := h_tolls.atm he_3
        obtain ⟨e_4,he_4,hF⟩ := bnd_some hF
        obtain ⟨b_6,o_3,qa_3,qp_3⟩ := h_tolls.atm he_4
        obtain ⟨r_3,hr_3,hF⟩ := bnd_some hF
        refine qE hf rfl rfl rfl (Pu.ev (pM rfl)) fun a hf => qE hf rfl rfl rfl (Pu.ev (pM rfl)) fun a hf => qE hf rfl rfl rfl (Pu.ev (pIA Tryz.underlying23 sz_3 rfl rfl qa_2)) fun a hf => qE hf rfl rfl rfl (eLd1 sc_3 rfl (cell_pc (j := 0) qp_2 rfl)) fun a hf => qE hf rfl rfl rfl (Pu.ev (pM rfl)) fun a hf => qE hf rfl rfl rfl (Pu.ev (pM rfl)) fun a hf => qE hf rfl rfl rfl (Pu.ev (pIA Tryz.underlying23 sz_3 rfl rfl qa_3)) fun a hf => qE hf rfl rfl rfl (eLd1 sc_3 rfl (cell_pc (j := 0) qp_3 rfl)) fun a hf => qE hf rfl rfl rfl (Pu.ev (pSub rfl rfl)) fun a hf => qE hf rfl rfl rfl (Pu.ev (pM rfl)) fun a hf => qE hf rfl rfl rfl (Pu.ev (pM rfl)) fun a hf => qE hf rfl rfl rfl (eC (v := .agg #[i6 r_3.At,i6 r_3.Depth,i6 r_3.Cost]) (vs := [pq b_2,i6 x]) (caps := []) en_60 rfl rfl rfl rfl (fun w hc => (gauge_work_station_s2_ok s_.Left s_.Right s_.Gap s_.Step_ s_.Points (fun _ => (⟨0,0⟩ : gauge_spent)) x h_s__Points (hc.pick k0) hr_3).mono fun e w h => ⟨h.1,(h.2.unpick k0)⟩)) fun a hf => qE hf rfl rfl rfl (Pu.ev (pField1 Tryz.underlying133 rfl sc_3 rfl rfl)) fun a hf => ?_
        refine qE hf rfl rfl rfl (Pu.ev (pGt rfl rfl)) fun a hf => qE hf rfl rfl rfl (Pu.ev (pPt rfl rfl)) fun a hf => ?_
        obtain rfl := sj hF
        exact qNil (hf.kp rfl)
      intro a hf
      intro w hc
      refine h27 _ _ ?_
      refine zI hf rfl hF ?_ ?_ <;> clear hF <;> intro hF
      ·refine zS fun K h => sp 2 hf rfl fun a hf => zT h ?_
       refine wp_ret ?_
       refine xBlkR ?_
       refine xThenR ?_
       refine xThenR ?_
       have he := sj hF
       rw [← he] at hfin22
       replace hF := ho22 _ hfin22
       refine xBlkR ?_
       refine xThenR ?_
       refine xBlkR ?_
       refine xThenR ?_
       refine xThenR ?_
       have he := hF
       rw [← he] at hfin14
       replace hF := ho14 _ hfin14
       refine xBlkR ?_
       refine xThenR ?_
       obtain rfl := hF
       replace hc := hc.drop k0
       exact zO2 Tryz.results31 hf rfl rfl ⟨rfl,hc⟩
      ·refine wp_skip ?_
       refine h25 _ _ ?_
       refine cReg ?_
       refine sp 2 hf rfl fun a hf => cNil ?_
       exact hK22 (W (x_1 + 1)) _ _ (sj hF).symm ⟨hf.kp rfl,hc⟩
     ·refine wp_exit ?_
      refine xThen ?_
      refine xThen ?_
      have he := sj hF
      rw [← he] at hfin22
      refine cHit ?_
      exact hr22 _ _ _ hfin22 ⟨hf.kp rfl,hc⟩
    ·refine wp_exit ?_
     refine xThen ?_
     refine xThen ?_
     have he := sj hF
     rw [← he] at hfin14
     refine cHit ?_
     exact hr14 _ _ _ hfin14 ⟨hf.kp rfl,hc⟩

def law03_awake (N : Nat)  : Option (Bool) :=
 Option.bind (law03_Two N) fun r =>
 Option.bind (gauge_Flow N r) fun r_1 =>
 Option.bind (law03_Two N) fun r_2 =>
 Option.bind (gauge_Heavy N r_2 500) fun r_3 =>
 Option.bind (law03_span N 10 10) fun r_4 =>
 Option.bind (law03_span N 100 100) fun r_5 =>
 Option.bind (law03_span N 30 40) fun r_6 =>
 Option.bind (law03_span N 5 9) fun r_7 =>
 Option.bind (gauge_Cross N ([(⟨(⟨0,0⟩ : api_Span),r_4,r_5,r_6,r_7⟩ : gauge_Leg)] : List gauge_Leg)) fun r_8 =>
 Option.bind (law03_span N 5 5) fun r_9 =>
 Option.bind (law03_span N 1000 1000) fun r_10 =>
 Option.bind (law03_span N 10 11) fun r_11 =>
 Option.bind (law03_span N 0 1) fun r_12 =>
 Option.bind (gauge_Thinned N (⟨r_9,r_10,r_11,r_12⟩ : gauge_Dye)) fun r_13 =>
 Option.bind (cond (!((((r_1.2 != 0) || (r_3.2.2 != 0)) || (r_8.2 != 0)) || (r_13.2 != 0))) (law03_span N 51600 402000) (some (⟨0,0⟩ : api_Span))) fun r_14 =>
 Option.bind (cond (!(((((r_1.2 != 0) || (r_3.2.2 != 0)) || (r_8.2 != 0)) || (r_13.2 != 0)) || (!(r_1.1.Lo == r_14.Lo && r_1.1.Hi == r_14.Hi)))) (kit_Same_int N r_3.1 ([0,1] : List Int)) (some false)) fun r_15 =>
 Option.bind (cond (!(((((((r_1.2 != 0) || (r_3.2.2 != 0)) || (r_8.2 != 0)) || (r_13.2 != 0)) || (!(r_1.1.Lo == r_14.Lo && r_1.1.Hi == r_14.Hi))) || (!r_15)) || (((r_3.2.1.length : Nat) : Int) != 0))) (law03_span N 30000 40000) (some (⟨0,0⟩ : api_Span))) fun r_16 =>
 Option.bind (cond (!((((((((r_1.2 != 0) || (r_3.2.2 != 0)) || (r_8.2 != 0)) || (r_13.2 != 0)) || (!(r_1.1.Lo == r_14.Lo && r_1.1.Hi == r_14.Hi))) || (!r_15)) || (((r_3.2.1.length : Nat) : Int) != 0)) || (!(r_8.1.Lo == r_16.Lo && r_8.1.Hi == r_16.Hi)))) (law03_span N 449 550) (some (⟨0,0⟩ : api_Span))) fun r_17 =>
 cond (((((((((r_1.2 != 0) || (r_3.2.2 != 0)) || (r_8.2 != 0)) || (r_13.2 != 0)) || (!(r_1.1.Lo == r_14.Lo && r_1.1.Hi == r_14.Hi))) || (!r_15)) || (((r_3.2.1.length : Nat) : Int) != 0)) || (!(r_8.1.Lo == r_16.Lo && r_8.1.Hi == r_16.Hi))) || (!(r_13.1.Lo == r_17.Lo && r_13.1.Hi == r_17.Hi)))
 (some false)
 (Option.bind (gauge_Apart N ([(⟨5,9⟩ : api_Span),(⟨7,12⟩ : api_Span),(⟨10,11⟩ : api_Span)] : List api_Span)) fun r_18 =>
 Option.bind (subO ([(⟨5,9⟩ : api_Span),(⟨7,12⟩ : api_Span),(⟨10,11⟩ : api_Span)] : List api_Span) 0 2) fun sub =>
 Option.bind (gauge_Common N sub) fun r_19 =>
 Option.bind (law03_Three N) fun r_20 =>
 Option.bind (gauge_Plan N r_20) fun r_21 =>
 Option.bind (law03_Three N) fun r_22 =>
 Option.bind (gauge_Proves N r_22 ([0,2,3,6,6] : List Int) 6) fun r_23 =>
 Option.bind (cond ((((((r_18.2.2 == 0) && (r_19.2 == 0)) && (r_21.2.2 == 0)) && (r_23.2 == 0)) && (r_18.1 == 0)) && (r_18.2.1 == 2)) (law03_span N 7 9) (some (⟨0,0⟩ : api_Span))) fun r_24 =>
 Option.bind (cond (((((((r_18.2.2 == 0) && (r_19.2 == 0)) && (r_21.2.2 == 0)) && (r_23.2 == 0)) && (r_18.1 == 0)) && (r_18.2.1 == 2)) && (r_19.1.Lo == r_24.Lo && r_19.1.Hi == r_24.Hi)) (kit_Same_int N r_21.1 ([1,3] : List Int)) (some false)) fun r_25 =>
 some ((((((((((r_18.2.2 == 0) && (r_19.2 == 0)) && (r_21.2.2 == 0)) && (r_23.2 == 0)) && (r_18.1 == 0)) && (r_18.2.1 == 2)) && (r_19.1.Lo == r_24.Lo && r_19.1.Hi == r_24.Hi)) && r_25) && (r_21.2.1 == 6)) && r_23.1))
theorem law03_awake_ok {N : Nat} {G : Pers} {Lf : List Ent} {w : World}    (hc : Ctx G (Lf) w) {res : Bool} (hF : law03_awake N = some res) : Calls Tryz.prog 13 #[] w (fun e w => e = .returned (.bool res) ∧ Ctx G (Lf) w) := by
 unfold law03_awake at hF
 refine fnIn Tryz.func13 rfl Tryz.ntmps13 rfl fun a hf => zS fun K h => sp 1 hf rfl fun a hf => zT h ?_
 refine zS fun K h => ?_
 obtain ⟨r,hr,hF⟩ := bnd_some hF
 refine zC hf en_22 rfl (law03_Two_ok hc hr) ?_
 rintro _ w ⟨p_1,c_1,rfl,hc⟩
 refine ⟨_,rfl,fun a hf => ?_⟩
 obtain ⟨r_1,hr_1,hF⟩ := bnd_some hF
 refine zQ (v := .tuple #[.agg #[i6 r_1.1.Lo,i6 r_1.1.Hi],i6 r_1.2]) hf hc en_11 rfl (fun w hc => by obtain ⟨G1,hle1,hrd1,hc,hth1⟩ := lend hc k0; exact (gauge_Flow_ok r hrd1 hc hr_1).mono fun e w h => ⟨h.1,((hth1 _ _ h.2).unpick k0)⟩) fun a w hf hc => sp 3 hf rfl fun a hf => zA hf hc zr_43 rfl fun b_1 a w hf hc => zW hf hc sz_43 u0 rfl fun w hc => sp 1 hf rfl fun a hf => zT h ?_
 refine zS fun K h => ?_
 obtain ⟨r_2,hr_2,hF⟩ := bnd_some hF
 refine zC hf en_22 rfl (law03_Two_ok hc hr_2) ?_
 rintro _ w ⟨p_2,c_2,rfl,hc⟩
 refine ⟨_,rfl,fun a hf => ?_⟩
 obtain ⟨r_3,hr_3,hF⟩ := bnd_some hF
 obtain ⟨G1,hle1,hrd1,hc,hth1⟩ := lend hc k0
 refine zC hf en_23 rfl (gauge_Heavy_ok r_2 500 hrd1 hc hr_3) ?_
 rintro _ w ⟨p_3,c_3,p_4,c_4,rfl,hc⟩
 refine ⟨_,rfl,fun a hf => ?_⟩
 replace hc := hth1 _ _ hc
 refine sp 7 hf rfl fun a hf => zT h ?_
 refine zS fun K h => ?_
 obtain ⟨r_4,hr_4,hF⟩ := bnd_some hF
 refine zQ (v := .agg #[i6 r_4.Lo,i6 r_4.Hi]) hf hc en_10 rfl (fun w hc => law03_span_ok 10 10 hc hr_4) fun a w hf hc => ?_
 obtain ⟨r_5,hr_5,hF⟩ := bnd_some hF
 refine zQ (v := .agg #[i6 r_5.Lo,i6 r_5.Hi]) hf hc en_10 rfl (fun w hc => law03_span_ok 100 100 hc hr_5) fun a w hf hc => ?_
 obtain ⟨r_6,hr_6,hF⟩ := bnd_some hF
 refine zQ (v := .agg #[i6 r_6.Lo,i6 r_6.Hi]) hf hc en_10 rfl (fun w hc => law03_span_ok 30 40 hc hr_6) fun a w hf hc => ?_
 obtain ⟨r_7,hr_7,hF⟩ := bnd_some hF
 refine zQ (v := .agg #[i6 r_7.Lo,i6 r_7.Hi]) hf hc en_10 rfl (fun w hc => law03_span_ok 5 9 hc hr_7) fun a w hf hc => zP hf rfl (pBuildS (cells := [i6 0,i6 0,i6 r_4.Lo,i6 r_4.Hi,i6 r_5.Lo,i6 r_5.Hi,i6 r_6.Lo,i6 r_6.Hi,i6 r_7.Lo,i6 r_7.Hi]) bt_83 rfl rfl) fun a hf => zA hf hc zr_83 rfl fun b_2 a w hf hc => zW hf hc sz_83 u0 rfl fun w hc => zT h ?_
 refine zS fun K h => zN hf hc ag_83 m0 rfl fun a w hf hc => stBS (rows := ([(⟨(⟨0,0⟩ : api_Span),r_4,r_5,r_6,r_7⟩ : gauge_Leg)] : List gauge_Leg).map enc_gauge_Leg) (vs := [(0,.agg #[i6 0,i6 0,i6 r_4.Lo,i6 r_4.Hi,i6 r_5.Lo,i6 r_5.Hi,i6 r_6.Lo,i6 r_6.Hi,i6 r_7.Lo,i6 r_7.Hi])]) hf hc rfl rfl sl_85 rfl ⟨rfl,rfl,rfl,trivial⟩ rfl rfl fun b_3 a w hf hc => ?_
 obtain ⟨r_8,hr_8,hF⟩ := bnd_some hF
 refine zQ (v := .tuple #[.agg #[i6 r_8.1.Lo,i6 r_8.1.Hi],i6 r_8.2]) hf hc en_24 rfl (fun w hc => by obtain ⟨G1,hle1,hrd1,hc,hth1⟩ := lend hc k0; exact (gauge_Cross_ok ([(⟨(⟨0,0⟩ : api_Span),r_4,r_5,r_6,r_7⟩ : gauge_Leg)] : List gauge_Leg) hrd1 hc hr_8).mono fun e w h => ⟨h.1,((hth1 _ _ h.2).unpick k0)⟩) fun a w hf hc => sp 3 hf rfl fun a hf => zA hf hc zr_43 rfl fun b_4 a w hf hc => zW hf hc sz_43 u0 rfl fun w hc => sp 1 hf rfl fun a hf => zT h ?_
 refine wp_seq_k fun K6 h6 => cReg ?_
 obtain ⟨r_9,hr_9,hF⟩ := bnd_some hF
 refine zQ (v := .agg #[i6 r_9.Lo,i6 r_9.Hi]) hf hc en_10 rfl (fun w hc => law03_span_ok 5 5 hc hr_9) fun a w hf hc => ?_
 obtain ⟨r_10,hr_10,hF⟩ := bnd_some hF
 refine zQ (v := .agg #[i6 r_10.Lo,i6 r_10.Hi]) hf hc en_10 rfl (fun w hc => law03_span_ok 1000 1000 hc hr_10) fun a w hf hc => ?_
 obtain ⟨r_11,hr_11,hF⟩ := bnd_some hF
 refine zQ (v := .agg #[i6 r_11.Lo,i6 r_11.Hi]) hf hc en_10 rfl (fun w hc => law03_span_ok 10 11 hc hr_11) fun a w hf hc => ?_
 obtain ⟨r_12,hr_12,hF⟩ := bnd_some hF
 refine zQ (v := .agg #[i6 r_12.Lo,i6 r_12.Hi]) hf hc en_10 rfl (fun w hc => law03_span_ok 0 1 hc hr_12) fun a w hf hc => zP hf rfl (pBuildS (cells := [i6 r_9.Lo,i6 r_9.Hi,i6 r_10.Lo,i6 r_10.Hi,i6 r_11.Lo,i6 r_11.Hi,i6 r_12.Lo,i6 r_12.Hi]) bt_88 rfl rfl) fun a hf => ?_
 obtain ⟨r_13,hr_13,hF⟩ := bnd_some hF
 refine zQ (v := .tuple #[.agg #[i6 r_13.1.Lo,i6 r_13.1.Hi],i6 r_13.2]) hf hc en_25 rfl (fun w hc => gauge_Thinned_ok (⟨r_9,r_10,r_11,r_12⟩ : gauge_Dye) hc hr_13) fun a w hf hc => sp 3 hf rfl fun a hf => zA hf hc zr_43 rfl fun b_5 a w hf hc => zW hf hc sz_43 u0 rfl fun w hc => sp 1 hf rfl fun a hf => cNil ?_
 replace hc := (((hc.drop k8).drop k4).drop k3).drop k2
 refine h6 _ _ ?_
 refine wp_seq_k fun K7 h7 => wp_seq_k fun K8 h8 => ?_
 obtain ⟨r_14,hr_14,hF⟩ := bnd_some hF
 obtain ⟨r_15,hr_15,hF⟩ := bnd_some hF
 obtain ⟨r_16,hr_16,hF⟩ := bnd_some hF
 obtain ⟨r_17,hr_17,hF⟩ := bnd_some hF
 replace hc := hc.nilRow 0 0
 refine regionE (fun θ => (⟨none,none,1,pq b_1⟩::⟨none,none,2,i6 r_1.2⟩::⟨none,none,3,.slice p_3 r_3.1.length c_3⟩::⟨none,none,4,.slice p_4 r_3.2.1.length c_4⟩::⟨none,none,5,i6 r_3.2.2⟩::⟨none,none,7,pq b_4⟩::⟨none,none,8,i6 r_8.2⟩::⟨none,none,9,pq b_5⟩::⟨none,none,10,i6 r_13.2⟩::⟨some 0,none,49,i6 r_1.2⟩::⟨some 1,none,50,.bool (r_1.2 != 0)⟩::⟨some 2,none,51,.bool (r_1.2 != 0)⟩::⟨some 3,none,52,(bif (r_1.2 != 0) then undef else i6 r_3.2.2)⟩::⟨some 4,none,53,(bif (r_1.2 != 0) then undef else .bool (r_3.2.2 != 0))⟩::⟨some 5,none,54,.bool ((r_1.2 != 0) || (r_3.2.2 != 0))⟩::⟨some 6,none,55,.bool ((r_1.2 != 0) || (r_3.2.2 != 0))⟩::⟨some 7,none,56,(bif ((r_1.2 != 0) || (r_3.2.2 != 0)) then undef else i6 r_8.2)⟩::⟨some 8,none,57,(bif ((r_1.2 != 0) || (r_3.2.2 != 0)) then undef else .bool (r_8.2 != 0))⟩::⟨some 9,none,58,.bool (((r_1.2 != 0) || (r_3.2.2 != 0)) || (r_8.2 != 0))⟩::⟨some 10,none,59,.bool (((r_1.2 != 0) || (r_3.2.2 != 0)) || (r_8.2 != 0))⟩::⟨some 11,none,60,(bif (((r_1.2 != 0) || (r_3.2.2 != 0)) || (r_8.2 != 0)) then undef else i6 r_13.2)⟩::⟨some 12,none,61,(bif (((r_1.2 != 0) || (r_3.2.2 != 0)) || (r_8.2 != 0)) then undef else .bool (r_13.2 != 0))⟩::⟨some 13,none,62,.bool ((((r_1.2 != 0) || (r_3.2.2 != 0)) || (r_8.2 != 0)) || (r_13.2 != 0))⟩::⟨some 14,none,63,.bool ((((r_1.2 != 0) || (r_3.2.2 != 0)) || (r_8.2 != 0)) || (r_13.2 != 0))⟩::⟨some 15,none,64,(bif ((((r_1.2 != 0) || (r_3.2.2 != 0)) || (r_8.2 != 0)) || (r_13.2 != 0)) then undef else .agg #[i6 r_1.1.Lo,i6 r_1.1.Hi])⟩::⟨some 16,none,65,(bif ((((r_1.2 != 0) || (r_3.2.2 != 0)) || (r_8.2 != 0)) || (r_13.2 != 0)) then undef else .agg #[i6 r_14.Lo,i6 r_14.Hi])⟩::⟨some 17,none,66,(bif ((((r_1.2 != 0) || (r_3.2.2 != 0)) || (r_8.2 != 0)) || (r_13.2 != 0)) then undef else .bool (!(r_1.1.Lo == r_14.Lo && r_1.1.Hi == r_14.Hi)))⟩::⟨some 18,none,67,.bool (((((r_1.2 != 0) || (r_3.2.2 != 0)) || (r_8.2 != 0)) || (r_13.2 != 0)) || (!(r_1.1.Lo == r_14.Lo && r_1.1.Hi == r_14.Hi)))⟩::⟨some 19,none,68,.bool (((((r_1.2 != 0) || (r_3.2.2 != 0)) || (r_8.2 != 0)) || (r_13.2 != 0)) || (!(r_1.1.Lo == r_14.Lo && r_1.1.Hi == r_14.Hi)))⟩::⟨some 20,none,69,(bif (((((r_1.2 != 0) || (r_3.2.2 != 0)) || (r_8.2 != 0)) || (r_13.2 != 0)) || (!(r_1.1.Lo == r_14.Lo && r_1.1.Hi == r_14.Hi))) then undef else .slice p_3 r_3.1.length c_3)⟩::⟨some 21,none,70,(bif (((((r_1.2 != 0) || (r_3.2.2 != 0)) || (r_8.2 != 0)) || (r_13.2 != 0)) || (!(r_1.1.Lo == r_14.Lo && r_1.1.Hi == r_14.Hi))) then undef else .slice (some ⟨(θ 168).b,0,none⟩) 2 2)⟩::⟨some 22,none,71,(bif (((((r_1.2 != 0) || (r_3.2.2 != 0)) || (r_8.2 != 0)) || (r_13.2 != 0)) || (!(r_1.1.Lo == r_14.Lo && r_1.1.Hi == r_14.Hi))) then undef else .bool r_15)⟩::⟨some 23,none,72,(bif (((((r_1.2 != 0) || (r_3.2.2 != 0)) || (r_8.2 != 0)) || (r_13.2 != 0)) || (!(r_1.1.Lo == r_14.Lo && r_1.1.Hi == r_14.Hi))) then undef else .bool (!r_15))⟩::⟨some 24,none,73,.bool ((((((r_1.2 != 0) || (r_3.2.2 != 0)) || (r_8.2 != 0)) || (r_13.2 != 0)) || (!(r_1.1.Lo == r_14.Lo && r_1.1.Hi == r_14.Hi))) || (!r_15))⟩::⟨some 25,none,74,.bool ((((((r_1.2 != 0) || (r_3.2.2 != 0)) || (r_8.2 != 0)) || (r_13.2 != 0)) || (!(r_1.1.Lo == r_14.Lo && r_1.1.Hi == r_14.Hi))) || (!r_15))⟩::⟨some 26,none,75,(bif ((((((r_1.2 != 0) || (r_3.2.2 != 0)) || (r_8.2 != 0)) || (r_13.2 != 0)) || (!(r_1.1.Lo == r_14.Lo && r_1.1.Hi == r_14.Hi))) || (!r_15)) then undef else .slice p_4 r_3.2.1.length c_4)⟩::⟨some 27,none,76,(bif ((((((r_1.2 != 0) || (r_3.2.2 != 0)) || (r_8.2 != 0)) || (r_13.2 != 0)) || (!(r_1.1.Lo == r_14.Lo && r_1.1.Hi == r_14.Hi))) || (!r_15)) then undef else i6 ((r_3.2.1.length : Nat) : Int))⟩::⟨some 28,none,77,(bif ((((((r_1.2 != 0) || (r_3.2.2 != 0)) || (r_8.2 != 0)) || (r_13.2 != 0)) || (!(r_1.1.Lo == r_14.Lo && r_1.1.Hi == r_14.Hi))) || (!r_15)) then undef else .bool (((r_3.2.1.length : Nat) : Int) != 0))⟩::⟨some 29,none,78,.bool (((((((r_1.2 != 0) || (r_3.2.2 != 0)) || (r_8.2 != 0)) || (r_13.2 != 0)) || (!(r_1.1.Lo == r_14.Lo && r_1.1.Hi == r_14.Hi))) || (!r_15)) || (((r_3.2.1.length : Nat) : Int) != 0))⟩::⟨some 30,none,79,.bool (((((((r_1.2 != 0) || (r_3.2.2 != 0)) || (r_8.2 != 0)) || (r_13.2 != 0)) || (!(r_1.1.Lo == r_14.Lo && r_1.1.Hi == r_14.Hi))) || (!r_15)) || (((r_3.2.1.length : Nat) : Int) != 0))⟩::⟨some 31,none,80,(bif (((((((r_1.2 != 0) || (r_3.2.2 != 0)) || (r_8.2 != 0)) || (r_13.2 != 0)) || (!(r_1.1.Lo == r_14.Lo && r_1.1.Hi == r_14.Hi))) || (!r_15)) || (((r_3.2.1.length : Nat) : Int) != 0)) then undef else .agg #[i6 r_8.1.Lo,i6 r_8.1.Hi])⟩::⟨some 32,none,81,(bif (((((((r_1.2 != 0) || (r_3.2.2 != 0)) || (r_8.2 != 0)) || (r_13.2 != 0)) || (!(r_1.1.Lo == r_14.Lo && r_1.1.Hi == r_14.Hi))) || (!r_15)) || (((r_3.2.1.length : Nat) : Int) != 0)) then undef else .agg #[i6 r_16.Lo,i6 r_16.Hi])⟩::⟨some 33,none,82,(bif (((((((r_1.2 != 0) || (r_3.2.2 != 0)) || (r_8.2 != 0)) || (r_13.2 != 0)) || (!(r_1.1.Lo == r_14.Lo && r_1.1.Hi == r_14.Hi))) || (!r_15)) || (((r_3.2.1.length : Nat) : Int) != 0)) then undef else .bool (!(r_8.1.Lo == r_16.Lo && r_8.1.Hi == r_16.Hi)))⟩::⟨some 34,none,83,.bool ((((((((r_1.2 != 0) || (r_3.2.2 != 0)) || (r_8.2 != 0)) || (r_13.2 != 0)) || (!(r_1.1.Lo == r_14.Lo && r_1.1.Hi == r_14.Hi))) || (!r_15)) || (((r_3.2.1.length : Nat) : Int) != 0)) || (!(r_8.1.Lo == r_16.Lo && r_8.1.Hi == r_16.Hi)))⟩::⟨some 35,none,84,.bool ((((((((r_1.2 != 0) || (r_3.2.2 != 0)) || (r_8.2 != 0)) || (r_13.2 != 0)) || (!(r_1.1.Lo == r_14.Lo && r_1.1.Hi == r_14.Hi))) || (!r_15)) || (((r_3.2.1.length : Nat) : Int) != 0)) || (!(r_8.1.Lo == r_16.Lo && r_8.1.Hi == r_16.Hi)))⟩::⟨some 36,none,85,(bif ((((((((r_1.2 != 0) || (r_3.2.2 != 0)) || (r_8.2 != 0)) || (r_13.2 != 0)) || (!(r_1.1.Lo == r_14.Lo && r_1.1.Hi == r_14.Hi))) || (!r_15)) || (((r_3.2.1.length : Nat) : Int) != 0)) || (!(r_8.1.Lo == r_16.Lo && r_8.1.Hi == r_16.Hi))) then undef else .agg #[i6 r_13.1.Lo,i6 r_13.1.Hi])⟩::⟨some 37,none,86,(bif ((((((((r_1.2 != 0) || (r_3.2.2 != 0)) || (r_8.2 != 0)) || (r_13.2 != 0)) || (!(r_1.1.Lo == r_14.Lo && r_1.1.Hi == r_14.Hi))) || (!r_15)) || (((r_3.2.1.length : Nat) : Int) != 0)) || (!(r_8.1.Lo == r_16.Lo && r_8.1.Hi == r_16.Hi))) then undef else .agg #[i6 r_17.Lo,i6 r_17.Hi])⟩::⟨some 38,none,87,(bif ((((((((r_1.2 != 0) || (r_3.2.2 != 0)) || (r_8.2 != 0)) || (r_13.2 != 0)) || (!(r_1.1.Lo == r_14.Lo && r_1.1.Hi == r_14.Hi))) || (!r_15)) || (((r_3.2.1.length : Nat) : Int) != 0)) || (!(r_8.1.Lo == r_16.Lo && r_8.1.Hi == r_16.Hi))) then undef else .bool (!(r_13.1.Lo == r_17.Lo && r_13.1.Hi == r_17.Hi)))⟩::⟨some 39,none,88,.bool (((((((((r_1.2 != 0) || (r_3.2.2 != 0)) || (r_8.2 != 0)) || (r_13.2 != 0)) || (!(r_1.1.Lo == r_14.Lo && r_1.1.Hi == r_14.Hi))) || (!r_15)) || (((r_3.2.1.length : Nat) : Int) != 0)) || (!(r_8.1.Lo == r_16.Lo && r_8.1.Hi == r_16.Hi))) || (!(r_13.1.Lo == r_17.Lo && r_13.1.Hi == r_17.Hi)))⟩::[])) (fun E θ => (bif E 21 then (gE (!(((((r_1.2 != 0) || (r_3.2.2 != 0)) || (r_8.2 != 0)) || (r_13.2 != 0)) || (!(r_1.1.Lo == r_14.Lo && r_1.1.Hi == r_14.Hi)))) (.row (some ⟨(θ 168).b,0,none⟩) 2 (([0,1] : List Int).map encI_i64) 3 1)) else .row none 0 [] 0 0)::.box b_5 [i6 r_13.1.Lo,i6 r_13.1.Hi] 43::.box b_4 [i6 r_8.1.Lo,i6 r_8.1.Hi] 43::.row p_3 c_3 (r_3.1.map encI_i64) 3 1::.row p_4 c_4 (r_3.2.1.map encI_i64) 3 1::.box b_1 [i6 r_1.1.Lo,i6 r_1.1.Hi] 43::Lf) [] (fun a w => Has 156 a [(88,.bool (((((((((r_1.2 != 0) || (r_3.2.2 != 0)) || (r_8.2 != 0)) || (r_13.2 != 0)) || (!(r_1.1.Lo == r_14.Lo && r_1.1.Hi == r_14.Hi))) || (!r_15)) || (((r_3.2.1.length : Nat) : Int) != 0)) || (!(r_8.1.Lo == r_16.Lo && r_8.1.Hi == r_16.Hi))) || (!(r_13.1.Lo == r_17.Lo && r_13.1.Hi == r_17.Hi))))] ∧ Ctx G (.box b_5 [i6 r_13.1.Lo,i6 r_13.1.Hi] 43::.box b_4 [i6 r_8.1.Lo,i6 r_8.1.Hi] 43::.row p_3 c_3 (r_3.1.map encI_i64) 3 1::.row p_4 c_4 (r_3.2.1.map encI_i64) 3 1::.box b_1 [i6 r_1.1.Lo,i6 r_1.1.Hi] 43::Lf) w) follows_mx (by kernel_rfl) (by kernel_rfl) (HasE.of hf ⟨rfl,rfl,rfl,rfl,rfl,rfl,rfl,rfl,rfl,trivial,trivial,trivial,trivial,trivial,trivial,trivial,trivial,trivial,trivial,trivial,trivial,trivial,trivial,trivial,trivial,trivial,trivial,trivial,trivial,trivial,trivial,trivial,trivial,trivial,trivial,trivial,trivial,trivial,trivial,trivial,trivial,trivial,trivial,trivial,trivial,trivial,trivial,trivial,trivial,trivial⟩) hc ⟨?_,?_,?_,?_,?_,?_,?_,?_,?_,?_,?_,?_,?_,?_,?_,?_,?_,?_,?_,?_,?_,?_,?_,?_,?_,?_,?_,?_,?_,?_,?_,?_,?_,?_,?_,?_,?_,?_,?_,?_,trivial⟩ ?_ ?_
 ·intro E θ a w hD hi hp he hc
  have hf := he.h0.mT he 1 rfl
  refine sp 1 hf rfl fun a hf => zD θ he hi hf 9 rfl rfl rfl hc
 ·intro E θ a w hD hi hp he hc
  have e0 := hp.o 0 rfl
  have hf := he.h0.mP he 9 rfl e0
  refine sp 1 hf rfl fun a hf => zD θ he hi hf 10 rfl rfl rfl hc
 ·intro E θ a w hD hi hp he hc
  have e1 := hp.o 1 rfl
  have hf := he.h0.mP he 10 rfl e1
  refine sp 1 hf rfl fun a hf => zD θ he hi hf 11 rfl rfl rfl hc
 ·intro E θ a w hD hi hp he hc
  have e2 := hp.o 2 rfl
  rcases boolEq (r_1.2 != 0) with hb | hb
  ·have hf := (he.h0.mT he 4 rfl).mP he 11 rfl e2
   replace hf := castB hb hf
   refine stS hf rfl rfl rfl fun a hf => ?_
   replace hf := castI (u := i6 r_3.2.2) hb hf
   exact zD θ he hi hf 12 rfl rfl rfl hc
  ·have hf := (he.h0.mT he 4 rfl).mP he 11 rfl e2
   replace hf := castB hb hf
   refine sp 1 hf rfl fun a hf => ?_
   replace hf := castJ (u := undef) hb hf
   exact zD θ he hi hf 12 rfl rfl rfl hc
 ·intro E θ a w hD hi hp he hc
  have e2 := hp.o 2 rfl
  have e3 := hp.o 3 rfl
  rcases boolEq (r_1.2 != 0) with hb | hb
  ·have hf := he.h0.mP he 11 rfl e2
   replace hf := castB hb hf
   replace hf := hf.more he 12 rfl (onP e3)
   replace hf := castCT hb hf
   refine stS hf rfl rfl rfl fun a hf => ?_
   replace hf := castI (u := .bool (r_3.2.2 != 0)) hb hf
   exact zD θ he hi hf 13 rfl rfl rfl hc
  ·have hf := he.h0.mP he 11 rfl e2
   replace hf := castB hb hf
   replace hf := hf.more he 12 rfl (onP e3)
   replace hf := castCF hb hf
   refine sp 1 hf rfl fun a hf => ?_
   replace hf := castJ (u := undef) hb hf
   exact zD θ he hi hf 13 rfl rfl rfl hc
 ·intro E θ a w hD hi hp he hc
  have e2 := hp.o 2 rfl
  have e4 := hp.o 4 rfl
  rcases boolEq (r_1.2 != 0) with hb | hb
  ·have hf := he.h0.mP he 11 rfl e2
   replace hf := castB hb hf
   replace hf := hf.more he 13 rfl (onP e4)
   replace hf := castCT hb hf
   refine sp 1 hf rfl fun a hf => ?_
   replace hf := castV (v' := .bool ((r_1.2 != 0) || (r_3.2.2 != 0))) (congrArg Value.bool (orT hb)) hf
   exact zD θ he hi hf 14 rfl rfl rfl hc
  ·have hf := he.h0.mP he 11 rfl e2
   replace hf := castB hb hf
   replace hf := hf.more he 13 rfl (onP e4)
   replace hf := castCF hb hf
   refine sp 1 hf rfl fun a hf => ?_
   replace hf := castV (v' := .bool ((r_1.2 != 0) || (r_3.2.2 != 0))) (congrArg Value.bool (orF hb)) hf
   exact zD θ he hi hf 14 rfl rfl rfl hc
 ·intro E θ a w hD hi hp he hc
  have e5 := hp.o 5 rfl
  have hf := he.h0.mP he 14 rfl e5
  refine sp 1 hf rfl fun a hf => zD θ he hi hf 15 rfl rfl rfl hc
 ·intro E θ a w hD hi hp he hc
  have e6 := hp.o 6 rfl
  rcases boolEq ((r_1.2 != 0) || (r_3.2.2 != 0)) with hb | hb
  ·have hf := (he.h0.mT he 6 rfl).mP he 15 rfl e6
   replace hf := castB hb hf
   refine stS hf rfl rfl rfl fun a hf => ?_
   replace hf := castI (u := i6 r_8.2) hb hf
   exact zD θ he hi hf 16 rfl rfl rfl hc
  ·have hf := (he.h0.mT he 6 rfl).mP he 15 rfl e6
   replace hf := castB hb hf
   refine sp 1 hf rfl fun a hf => ?_
   replace hf := castJ (u := undef) hb hf
   exact zD θ he hi hf 16 rfl rfl rfl hc
 ·intro E θ a w hD hi hp he hc
  have e6 := hp.o 6 rfl
  have e7 := hp.o 7 rfl
  rcases boolEq ((r_1.2 != 0) || (r_3.2.2 != 0)) with hb | hb
  ·have hf := he.h0.mP he 15 rfl e6
   replace hf := castB hb hf
   replace hf := hf.more he 16 rfl (onP e7)
   replace hf := castCT hb hf
   refine stS hf rfl rfl rfl fun a hf => ?_
   replace hf := castI (u := .bool (r_8.2 != 0)) hb hf
   exact zD θ he hi hf 17 rfl rfl rfl hc
  ·have hf := he.h0.mP he 15 rfl e6
   replace hf := castB hb hf
   replace hf := hf.more he 16 rfl (onP e7)
   replace hf := castCF hb hf
   refine sp 1 hf rfl fun a hf => ?_
   replace hf := castJ (u := undef) hb hf
   exact zD θ he hi hf 17 rfl rfl rfl hc
 ·intro E θ a w hD hi hp he hc
  have e6 := hp.o 6 rfl
  have e8 := hp.o 8 rfl
  rcases boolEq ((r_1.2 != 0) || (r_3.2.2 != 0)) with hb | hb
  ·have hf := he.h0.mP he 15 rfl e6
   replace hf := castB hb hf
   replace hf := hf.more he 17 rfl (onP e8)
   replace hf := castCT hb hf
   refine sp 1 hf rfl fun a hf => ?_
   replace hf := castV (v' := .bool (((r_1.2 != 0) || (r_3.2.2 != 0)) || (r_8.2 != 0))) (congrArg Value.bool (orT hb)) hf
   exact zD θ he hi hf 18 rfl rfl rfl hc
  ·have hf := he.h0.mP he 15 rfl e6
   replace hf := castB hb hf
   replace hf := hf.more he 17 rfl (onP e8)
   replace hf := castCF hb hf
   refine sp 1 hf rfl fun a hf => ?_
   replace hf := castV (v' := .bool (((r_1.2 != 0) || (r_3.2.2 != 0)) || (r_8.2 != 0))) (congrArg Value.bool (orF hb)) hf
   exact zD θ he hi hf 18 rfl rfl rfl hc
 ·intro E θ a w hD hi hp he hc
  have e9 := hp.o 9 rfl
  have hf := he.h0.mP he 18 rfl e9
  refine sp 1 hf rfl fun a hf => zD θ he hi hf 19 rfl rfl rfl hc
 ·intro E θ a w hD hi hp he hc
  have e10 := hp.o 10 rfl
  rcases boolEq (((r_1.2 != 0) || (r_3.2.2 != 0)) || (r_8.2 != 0)) with hb | hb
  ·have hf := (he.h0.mT he 8 rfl).mP he 19 rfl e10
   replace hf := castB hb hf
   refine stS hf rfl rfl rfl fun a hf => ?_
   replace hf := castI (u := i6 r_13.2) hb hf
   exact zD θ he hi hf 20 rfl rfl rfl hc
  ·have hf := (he.h0.mT he 8 rfl).mP he 19 rfl e10
   replace hf := castB hb hf
   refine sp 1 hf rfl fun a hf => ?_
   replace hf := castJ (u := undef) hb hf
   exact zD θ he hi hf 20 rfl rfl rfl hc
 ·intro E θ a w hD hi hp he hc
  have e10 := hp.o 10 rfl
  have e11 := hp.o 11 rfl
  rcases boolEq (((r_1.2 != 0) || (r_3.2.2 != 0)) || (r_8.2 != 0)) with hb | hb
  ·have hf := he.h0.mP he 19 rfl e10
   replace hf := castB hb hf
   replace hf := hf.more he 20 rfl (onP e11)
   replace hf := castCT hb hf
   refine stS hf rfl rfl rfl fun a hf => ?_
   replace hf := castI (u := .bool (r_13.2 != 0)) hb hf
   exact zD θ he hi hf 21 rfl rfl rfl hc
  ·have hf := he.h0.mP he 19 rfl e10
   replace hf := castB hb hf
   replace hf := hf.more he 20 rfl (onP e11)
   replace hf := castCF hb hf
   refine sp 1 hf rfl fun a hf => ?_
   replace hf := castJ (u := undef) hb hf
   exact zD θ he hi hf 21 rfl rfl rfl hc
 ·intro E θ a w hD hi hp he hc
  have e10 := hp.o 10 rfl
  have e12 := hp.o 12 rfl
  rcases boolEq (((r_1.2 != 0) || (r_3.2.2 != 0)) || (r_8.2 != 0)) with hb | hb
  ·have hf := he.h0.mP he 19 rfl e10
   replace hf := castB hb hf
   replace hf := hf.more he 21 rfl (onP e12)
   replace hf := castCT hb hf
   refine sp 1 hf rfl fun a hf => ?_
   replace hf := castV (v' := .bool ((((r_1.2 != 0) || (r_3.2.2 != 0)) || (r_8.2 != 0)) || (r_13.2 != 0))) (congrArg Value.bool (orT hb)) hf
   exact zD θ he hi hf 22 rfl rfl rfl hc
  ·have hf := he.h0.mP he 19 rfl e10
   replace hf := castB hb hf
   replace hf := hf.more he 21 rfl (onP e12)
   replace hf := castCF hb hf
   refine sp 1 hf rfl fun a hf => ?_
   replace hf := castV (v' := .bool ((((r_1.2 != 0) || (r_3.2.2 != 0)) || (r_8.2 != 0)) || (r_13.2 != 0))) (congrArg Value.bool (orF hb)) hf
   exact zD θ he hi hf 22 rfl rfl rfl hc
 ·intro E θ a w hD hi hp he hc
  have e13 := hp.o 13 rfl
  have hf := he.h0.mP he 22 rfl e13
  refine sp 1 hf rfl fun a hf => zD θ he hi hf 23 rfl rfl rfl hc
 ·intro E θ a w hD hi hp he hc
  have e14 := hp.o 14 rfl
  rcases boolEq ((((r_1.2 != 0) || (r_3.2.2 != 0)) || (r_8.2 != 0)) || (r_13.2 != 0)) with hb | hb
  ·have hf := (he.h0.mT he 0 rfl).mP he 23 rfl e14
   replace hf := castB hb hf
   refine stS hf rfl rfl rfl fun a hf => ?_
   replace hf := castI (u := .agg #[i6 r_1.1.Lo,i6 r_1.1.Hi]) hb hf
   exact zD θ he hi hf 24 rfl rfl rfl hc
  ·have hf := (he.h0.mT he 0 rfl).mP he 23 rfl e14
   replace hf := castB hb hf
   refine zN hf hc ag_43 m5 rfl fun a w hf hc => ?_
   replace hf := castJ (u := undef) hb hf
   exact zD θ he hi hf 24 rfl rfl rfl hc
 ·intro E θ a w hD hi hp he hc
  have e14 := hp.o 14 rfl
  rcases boolEq ((((r_1.2 != 0) || (r_3.2.2 != 0)) || (r_8.2 != 0)) || (r_13.2 != 0)) with hb | hb
  ·have hf := he.h0.mP he 23 rfl e14
   replace hf := castB hb hf
   refine stS hf rfl rfl rfl fun a hf => ?_
   replace hf := castI (u := .agg #[i6 r_14.Lo,i6 r_14.Hi]) hb hf
   exact zD θ he hi hf 25 rfl rfl rfl hc
  ·have hf := he.h0.mP he 23 rfl e14
   replace hf := castB hb hf
   refine zQ (v := .agg #[i6 r_14.Lo,i6 r_14.Hi]) hf hc en_10 rfl (fun w hc => law03_span_ok 51600 402000 hc (condT (notT hb) hr_14)) fun a w hf hc => ?_
   replace hf := castJ (u := undef) hb hf
   exact zD θ he hi hf 25 rfl rfl rfl hc
 ·intro E θ a w hD hi hp he hc
  have e14 := hp.o 14 rfl
  have e15 := hp.o 15 rfl
  have e16 := hp.o 16 rfl
  rcases boolEq ((((r_1.2 != 0) || (r_3.2.2 != 0)) || (r_8.2 != 0)) || (r_13.2 != 0)) with hb | hb
  ·have hf := he.h0.mP he 23 rfl e14
   replace hf := castB hb hf
   replace hf := hf.more he 24 rfl (onP e15)
   replace hf := castCT hb hf
   replace hf := hf.more he 25 rfl (onP e16)
   replace hf := castCT hb hf
   refine stS hf rfl rfl rfl fun a hf => ?_
   replace hf := castI (u := .bool (!(r_1.1.Lo == r_14.Lo && r_1.1.Hi == r_14.Hi))) hb hf
   exact zD θ he hi hf 26 rfl rfl rfl hc
  ·have hf := he.h0.mP he 23 rfl e14
   replace hf := castB hb hf
   replace hf := hf.more he 24 rfl (onP e15)
   replace hf := castCF hb hf
   replace hf := hf.more he 25 rfl (onP e16)
   replace hf := castCF hb hf
   refine zP hf rfl (pNeA ge_43 rfl rfl (eqs_43 _ _ _ _)) fun a hf => ?_
   replace hf := castJ (u := undef) hb hf
   exact zD θ he hi hf 26 rfl rfl rfl hc
 ·intro E θ a w hD hi hp he hc
  have e14 := hp.o 14 rfl
  have e17 := hp.o 17 rfl
  rcases boolEq ((((r_1.2 != 0) || (r_3.2.2 != 0)) || (r_8.2 != 0)) || (r_13.2 != 0)) with hb | hb
  ·have hf := he.h0.mP he 23 rfl e14
   replace hf := castB hb hf
   replace hf := hf.more he 26 rfl (onP e17)
   replace hf := castCT hb hf
   refine sp 1 hf rfl fun a hf => ?_
   replace hf := castV (v' := .bool (((((r_1.2 != 0) || (r_3.2.2 != 0)) || (r_8.2 != 0)) || (r_13.2 != 0)) || (!(r_1.1.Lo == r_14.Lo && r_1.1.Hi == r_14.Hi)))) (congrArg Value.bool (orT hb)) hf
   exact zD θ he hi hf 27 rfl rfl rfl hc
  ·have hf := he.h0.mP he 23 rfl e14
   replace hf := castB hb hf
   replace hf := hf.more he 26 rfl (onP e17)
   replace hf := castCF hb hf
   refine sp 1 hf rfl fun a hf => ?_
   replace hf := castV (v' := .bool (((((r_1.2 != 0) || (r_3.2.2 != 0)) || (r_8.2 != 0)) || (r_13.2 != 0)) || (!(r_1.1.Lo == r_14.Lo && r_1.1.Hi == r_14.Hi)))) (congrArg Value.bool (orF hb)) hf
   exact zD θ he hi hf 27 rfl rfl rfl hc
 ·intro E θ a w hD hi hp he hc
  have e18 := hp.o 18 rfl
  have hf := he.h0.mP he 27 rfl e18
  refine sp 1 hf rfl fun a hf => zD θ he hi hf 28 rfl rfl rfl hc
 ·intro E θ a w hD hi hp he hc
  have e19 := hp.o 19 rfl
  rcases boolEq (((((r_1.2 != 0) || (r_3.2.2 != 0)) || (r_8.2 != 0)) || (r_13.2 != 0)) || (!(r_1.1.Lo == r_14.Lo && r_1.1.Hi == r_14.Hi))) with hb | hb
  ·have hf := (he.h0.mT he 2 rfl).mP he 28 rfl e19
   replace hf := castB hb hf
   refine stS hf rfl rfl rfl fun a hf => ?_
   replace hf := castI (u := .slice p_3 r_3.1.length c_3) hb hf
   exact zD θ he hi hf 29 rfl rfl rfl hc
  ·have hf := (he.h0.mT he 2 rfl).mP he 28 rfl e19
   replace hf := castB hb hf
   refine sp 1 hf rfl fun a hf => ?_
   replace hf := castJ (u := undef) hb hf
   exact zD θ he hi hf 29 rfl rfl rfl hc
 ·intro E θ a w hD hi hp he hc
  have e19 := hp.o 19 rfl
  try dsimp only at hc
  rw [hi] at hc
  rcases boolEq (((((r_1.2 != 0) || (r_3.2.2 != 0)) || (r_8.2 != 0)) || (r_13.2 != 0)) || (!(r_1.1.Lo == r_14.Lo && r_1.1.Hi == r_14.Hi))) with hb | hb
  ·have hf := he.h0.mP he 28 rfl e19
   replace hf := castB hb hf
   refine stS hf rfl rfl rfl fun a hf => ?_
   replace hf := castI (u := .slice (some ⟨(θ 168).b,0,none⟩) 2 2) hb hf
   refine zD θ he hi hf 30 rfl rfl rfl ?_
   try dsimp only
   rw [updE_self E 21]
   rw [gE_F (notF hb)]
   exact hc
  ·have hf := he.h0.mP he 28 rfl e19
   replace hf := castB hb hf
   refine stBS (rows := ([0,1] : List Int).map encI_i64) (vs := [(0,i6 0),(1,i6 1)]) hf hc rfl rfl sl_23 rfl ⟨rfl,rfl,rfl,rfl,rfl,rfl,trivial⟩ rfl rfl fun b_6 a w hf hc => ?_
   replace hf := castJ (u := undef) hb hf
   refine cNil ?_
   refine xThenN ?_
   intro ds u hau
   replace hc := hc.drop k1
   refine ⟨(setT θ 168 ⟨b_6,none,0,(fun _ => (none,0))⟩),he.put hi hau hf rfl [] trivial ⟨qq,qq,qq,qq,qq,qq,qq,qq,qq,qq,qq,qq,qq,qq,qq,qq,qq,qq,qq,qq,qq,qq,qq,qq,qq,qq,qq,qq,qq,qq,qq,qq,qq,qq,qq,qq,qq,qq,qq,qq,qq,qq,qq,qq,qq,qq,qq,qq,qq,trivial⟩,?_⟩
   try dsimp only
   rw [updE_self E 21]
   rw [gE_T (notT hb)]
   exact hc
 ·intro E θ a w hD hi hp he hc
  have e19 := hp.o 19 rfl
  have e20 := hp.o 20 rfl
  have e21 := hp.o 21 rfl
  try dsimp only at hc
  rw [e21] at hc
  rcases boolEq (((((r_1.2 != 0) || (r_3.2.2 != 0)) || (r_8.2 != 0)) || (r_13.2 != 0)) || (!(r_1.1.Lo == r_14.Lo && r_1.1.Hi == r_14.Hi))) with hb | hb
  ·have hf := he.h0.mP he 28 rfl e19
   replace hf := castB hb hf
   replace hf := hf.more he 29 rfl (onP e20)
   replace hf := castCT hb hf
   replace hf := hf.more he 30 rfl (onP e21)
   replace hf := castCT hb hf
   rw [gE_F (notF hb)] at hc
   refine stS hf rfl rfl rfl fun a hf => ?_
   replace hf := castI (u := .bool r_15) hb hf
   refine zD θ he hi hf 31 rfl rfl rfl ?_
   try dsimp only
   rw [updE_tru 22 e21]
   rw [gE_F (notF hb)]
   exact hc
  ·have hf := he.h0.mP he 28 rfl e19
   replace hf := castB hb hf
   replace hf := hf.more he 29 rfl (onP e20)
   replace hf := castCF hb hf
   replace hf := hf.more he 30 rfl (onP e21)
   replace hf := castCF hb hf
   rw [gE_T (notT hb)] at hc
   refine zQ (v := .bool r_15) hf hc en_26 rfl (fun w hc => by obtain ⟨G1,hle1,hrd1,hc,hth1⟩ := lend hc k3; obtain ⟨G2,hle2,hrd2,hc,hth2⟩ := lend hc k0; exact (kit_Same_int_ok r_3.1 ([0,1] : List Int) (hrd1.mono hle2) hrd2 hc (condT (notT hb) hr_15)).mono fun e w h => ⟨h.1,((hth1 _ _ ((hth2 _ _ h.2).unpick k0)).unpick k3)⟩) fun a w hf hc => ?_
   replace hf := castJ (u := undef) hb hf
   refine zD θ he hi hf 31 rfl rfl rfl ?_
   try dsimp only
   rw [updE_tru 22 e21]
   rw [gE_T (notT hb)]
   exact hc
 ·intro E θ a w hD hi hp he hc
  have e19 := hp.o 19 rfl
  have e22 := hp.o 22 rfl
  rcases boolEq (((((r_1.2 != 0) || (r_3.2.2 != 0)) || (r_8.2 != 0)) || (r_13.2 != 0)) || (!(r_1.1.Lo == r_14.Lo && r_1.1.Hi == r_14.Hi))) with hb | hb
  ·have hf := he.h0.mP he 28 rfl e19
   replace hf := castB hb hf
   replace hf := hf.more he 31 rfl (onP e22)
   replace hf := castCT hb hf
   refine stS hf rfl rfl rfl fun a hf => ?_
   replace hf := castI (u := .bool (!r_15)) hb hf
   exact zD θ he hi hf 32 rfl rfl rfl hc
  ·have hf := he.h0.mP he 28 rfl e19
   replace hf := castB hb hf
   replace hf := hf.more he 31 rfl (onP e22)
   replace hf := castCF hb hf
   refine sp 1 hf rfl fun a hf => ?_
   replace hf := castJ (u := undef) hb hf
   exact zD θ he hi hf 32 rfl rfl rfl hc
 ·intro E θ a w hD hi hp he hc
  have e19 := hp.o 19 rfl
  have e23 := hp.o 23 rfl
  rcases boolEq (((((r_1.2 != 0) || (r_3.2.2 != 0)) || (r_8.2 != 0)) || (r_13.2 != 0)) || (!(r_1.1.Lo == r_14.Lo && r_1.1.Hi == r_14.Hi))) with hb | hb
  ·have hf := he.h0.mP he 28 rfl e19
   replace hf := castB hb hf
   replace hf := hf.more he 32 rfl (onP e23)
   replace hf := castCT hb hf
   refine sp 1 hf rfl fun a hf => ?_
   replace hf := castV (v' := .bool ((((((r_1.2 != 0) || (r_3.2.2 != 0)) || (r_8.2 != 0)) || (r_13.2 != 0)) || (!(r_1.1.Lo == r_14.Lo && r_1.1.Hi == r_14.Hi))) || (!r_15))) (congrArg Value.bool (orT hb)) hf
   exact zD θ he hi hf 33 rfl rfl rfl hc
  ·have hf := he.h0.mP he 28 rfl e19
   replace hf := castB hb hf
   replace hf := hf.more he 32 rfl (onP e23)
   replace hf := castCF hb hf
   refine sp 1 hf rfl fun a hf => ?_
   replace hf := castV (v' := .bool ((((((r_1.2 != 0) || (r_3.2.2 != 0)) || (r_8.2 != 0)) || (r_13.2 != 0)) || (!(r_1.1.Lo == r_14.Lo && r_1.1.Hi == r_14.Hi))) || (!r_15))) (congrArg Value.bool (orF hb)) hf
   exact zD θ he hi hf 33 rfl rfl rfl hc
 ·intro E θ a w hD hi hp he hc
  have e24 := hp.o 24 rfl
  have hf := he.h0.mP he 33 rfl e24
  refine sp 1 hf rfl fun a hf => zD θ he hi hf 34 rfl rfl rfl hc
 ·intro E θ a w hD hi hp he hc
  have e25 := hp.o 25 rfl
  rcases boolEq ((((((r_1.2 != 0) || (r_3.2.2 != 0)) || (r_8.2 != 0)) || (r_13.2 != 0)) || (!(r_1.1.Lo == r_14.Lo && r_1.1.Hi == r_14.Hi))) || (!r_15)) with hb | hb
  ·have hf := (he.h0.mT he 3 rfl).mP he 34 rfl e25
   replace hf := castB hb hf
   refine stS hf rfl rfl rfl fun a hf => ?_
   replace hf := castI (u := .slice p_4 r_3.2.1.length c_4) hb hf
   exact zD θ he hi hf 35 rfl rfl rfl hc
  ·have hf := (he.h0.mT he 3 rfl).mP he 34 rfl e25
   replace hf := castB hb hf
   refine sp 1 hf rfl fun a hf => ?_
   replace hf := castJ (u := undef) hb hf
   exact zD θ he hi hf 35 rfl rfl rfl hc
 ·intro E θ a w hD hi hp he hc
  have e25 := hp.o 25 rfl
  have e26 := hp.o 26 rfl
  rcases boolEq ((((((r_1.2 != 0) || (r_3.2.2 != 0)) || (r_8.2 != 0)) || (r_13.2 != 0)) || (!(r_1.1.Lo == r_14.Lo && r_1.1.Hi == r_14.Hi))) || (!r_15)) with hb | hb
  ·have hf := he.h0.mP he 34 rfl e25
   replace hf := castB hb hf
   replace hf := hf.more he 35 rfl (onP e26)
   replace hf := castCT hb hf
   refine stS hf rfl rfl rfl fun a hf => ?_
   replace hf := castI (u := i6 ((r_3.2.1.length : Nat) : Int)) hb hf
   exact zD θ he hi hf 36 rfl rfl rfl hc
  ·have hf := he.h0.mP he 34 rfl e25
   replace hf := castB hb hf
   replace hf := hf.more he 35 rfl (onP e26)
   replace hf := castCF hb hf
   refine zP hf rfl (pLenS Tryz.underlying23 rfl) fun a hf => ?_
   replace hf := castJ (u := undef) hb hf
   exact zD θ he hi hf 36 rfl rfl rfl hc
 ·intro E θ a w hD hi hp he hc
  have e25 := hp.o 25 rfl
  have e27 := hp.o 27 rfl
  rcases boolEq ((((((r_1.2 != 0) || (r_3.2.2 != 0)) || (r_8.2 != 0)) || (r_13.2 != 0)) || (!(r_1.1.Lo == r_14.Lo && r_1.1.Hi == r_14.Hi))) || (!r_15)) with hb | hb
  ·have hf := he.h0.mP he 34 rfl e25
   replace hf := castB hb hf
   replace hf := hf.more he 36 rfl (onP e27)
   replace hf := castCT hb hf
   refine stS hf rfl rfl rfl fun a hf => ?_
   replace hf := castI (u := .bool (((r_3.2.1.length : Nat) : Int) != 0)) hb hf
   exact zD θ he hi hf 37 rfl rfl rfl hc
  ·have hf := he.h0.mP he 34 rfl e25
   replace hf := castB hb hf
   replace hf := hf.more he 36 rfl (onP e27)
   replace hf := castCF hb hf
   refine sp 1 hf rfl fun a hf => ?_
   replace hf := castJ (u := undef) hb hf
   exact zD θ he hi hf 37 rfl rfl rfl hc
 ·intro E θ a w hD hi hp he hc
  have e25 := hp.o 25 rfl
  have e28 := hp.o 28 rfl
  rcases boolEq ((((((r_1.2 != 0) || (r_3.2.2 != 0)) || (r_8.2 != 0)) || (r_13.2 != 0)) || (!(r_1.1.Lo == r_14.Lo && r_1.1.Hi == r_14.Hi))) || (!r_15)) with hb | hb
  ·have hf := he.h0.mP he 34 rfl e25
   replace hf := castB hb hf
   replace hf := hf.more he 37 rfl (onP e28)
   replace hf := castCT hb hf
   refine sp 1 hf rfl fun a hf => ?_
   replace hf := castV (v' := .bool (((((((r_1.2 != 0) || (r_3.2.2 != 0)) || (r_8.2 != 0)) || (r_13.2 != 0)) || (!(r_1.1.Lo == r_14.Lo && r_1.1.Hi == r_14.Hi))) || (!r_15)) || (((r_3.2.1.length : Nat) : Int) != 0))) (congrArg Value.bool (orT hb)) hf
   exact zD θ he hi hf 38 rfl rfl rfl hc
  ·have hf := he.h0.mP he 34 rfl e25
   replace hf := castB hb hf
   replace hf := hf.more he 37 rfl (onP e28)
   replace hf := castCF hb hf
   refine sp 1 hf rfl fun a hf => ?_
   replace hf := castV (v' := .bool (((((((r_1.2 != 0) || (r_3.2.2 != 0)) || (r_8.2 != 0)) || (r_13.2 != 0)) || (!(r_1.1.Lo == r_14.Lo && r_1.1.Hi == r_14.Hi))) || (!r_15)) || (((r_3.2.1.length : Nat) : Int) != 0))) (congrArg Value.bool (orF hb)) hf
   exact zD θ he hi hf 38 rfl rfl rfl hc
 ·intro E θ a w hD hi hp he hc
  have e29 := hp.o 29 rfl
  have hf := he.h0.mP he 38 rfl e29
  refine sp 1 hf rfl fun a hf => zD θ he hi hf 39 rfl rfl rfl hc
 ·intro E θ a w hD hi hp he hc
  have e30 := hp.o 30 rfl
  rcases boolEq (((((((r_1.2 != 0) || (r_3.2.2 != 0)) || (r_8.2 != 0)) || (r_13.2 != 0)) || (!(r_1.1.Lo == r_14.Lo && r_1.1.Hi == r_14.Hi))) || (!r_15)) || (((r_3.2.1.length : Nat) : Int) != 0)) with hb | hb
  ·have hf := (he.h0.mT he 5 rfl).mP he 39 rfl e30
   replace hf := castB hb hf
   refine stS hf rfl rfl rfl fun a hf => ?_
   replace hf := castI (u := .agg #[i6 r_8.1.Lo,i6 r_8.1.Hi]) hb hf
   exact zD θ he hi hf 40 rfl rfl rfl hc
  ·have hf := (he.h0.mT he 5 rfl).mP he 39 rfl e30
   replace hf := castB hb hf
   refine zN hf hc ag_43 m2 rfl fun a w hf hc => ?_
   replace hf := castJ (u := undef) hb hf
   exact zD θ he hi hf 40 rfl rfl rfl hc
 ·intro E θ a w hD hi hp he hc
  have e30 := hp.o 30 rfl
  rcases boolEq (((((((r_1.2 != 0) || (r_3.2.2 != 0)) || (r_8.2 != 0)) || (r_13.2 != 0)) || (!(r_1.1.Lo == r_14.Lo && r_1.1.Hi == r_14.Hi))) || (!r_15)) || (((r_3.2.1.length : Nat) : Int) != 0)) with hb | hb
  ·have hf := he.h0.mP he 39 rfl e30
   replace hf := castB hb hf
   refine stS hf rfl rfl rfl fun a hf => ?_
   replace hf := castI (u := .agg #[i6 r_16.Lo,i6 r_16.Hi]) hb hf
   exact zD θ he hi hf 41 rfl rfl rfl hc
  ·have hf := he.h0.mP he 39 rfl e30
   replace hf := castB hb hf
   refine zQ (v := .agg #[i6 r_16.Lo,i6 r_16.Hi]) hf hc en_10 rfl (fun w hc => law03_span_ok 30000 40000 hc (condT (notT hb) hr_16)) fun a w hf hc => ?_
   replace hf := castJ (u := undef) hb hf
   exact zD θ he hi hf 41 rfl rfl rfl hc
 ·intro E θ a w hD hi hp he hc
  have e30 := hp.o 30 rfl
  have e31 := hp.o 31 rfl
  have e32 := hp.o 32 rfl
  rcases boolEq (((((((r_1.2 != 0) || (r_3.2.2 != 0)) || (r_8.2 != 0)) || (r_13.2 != 0)) || (!(r_1.1.Lo == r_14.Lo && r_1.1.Hi == r_14.Hi))) || (!r_15)) || (((r_3.2.1.length : Nat) : Int) != 0)) with hb | hb
  ·have hf := he.h0.mP he 39 rfl e30
   replace hf := castB hb hf
   replace hf := hf.more he 40 rfl (onP e31)
   replace hf := castCT hb hf
   replace hf := hf.more he 41 rfl (onP e32)
   replace hf := castCT hb hf
   refine stS hf rfl rfl rfl fun a hf => ?_
   replace hf := castI (u := .bool (!(r_8.1.Lo == r_16.Lo && r_8.1.Hi == r_16.Hi))) hb hf
   exact zD θ he hi hf 42 rfl rfl rfl hc
  ·have hf := he.h0.mP he 39 rfl e30
   replace hf := castB hb hf
   replace hf := hf.more he 40 rfl (onP e31)
   replace hf := castCF hb hf
   replace hf := hf.more he 41 rfl (onP e32)
   replace hf := castCF hb hf
   refine zP hf rfl (pNeA ge_43 rfl rfl (eqs_43 _ _ _ _)) fun a hf => ?_
   replace hf := castJ (u := undef) hb hf
   exact zD θ he hi hf 42 rfl rfl rfl hc
 ·intro E θ a w hD hi hp he hc
  have e30 := hp.o 30 rfl
  have e33 := hp.o 33 rfl
  rcases boolEq (((((((r_1.2 != 0) || (r_3.2.2 != 0)) || (r_8.2 != 0)) || (r_13.2 != 0)) || (!(r_1.1.Lo == r_14.Lo && r_1.1.Hi == r_14.Hi))) || (!r_15)) || (((r_3.2.1.length : Nat) : Int) != 0)) with hb | hb
  ·have hf := he.h0.mP he 39 rfl e30
   replace hf := castB hb hf
   replace hf := hf.more he 42 rfl (onP e33)
   replace hf := castCT hb hf
   refine sp 1 hf rfl fun a hf => ?_
   replace hf := castV (v' := .bool ((((((((r_1.2 != 0) || (r_3.2.2 != 0)) || (r_8.2 != 0)) || (r_13.2 != 0)) || (!(r_1.1.Lo == r_14.Lo && r_1.1.Hi == r_14.Hi))) || (!r_15)) || (((r_3.2.1.length : Nat) : Int) != 0)) || (!(r_8.1.Lo == r_16.Lo && r_8.1.Hi == r_16.Hi)))) (congrArg Value.bool (orT hb)) hf
   exact zD θ he hi hf 43 rfl rfl rfl hc
  ·have hf := he.h0.mP he 39 rfl e30
   replace hf := castB hb hf
   replace hf := hf.more he 42 rfl (onP e33)
   replace hf := castCF hb hf
   refine sp 1 hf rfl fun a hf => ?_
   replace hf := castV (v' := .bool ((((((((r_1.2 != 0) || (r_3.2.2 != 0)) || (r_8.2 != 0)) || (r_13.2 != 0)) || (!(r_1.1.Lo == r_14.Lo && r_1.1.Hi == r_14.Hi))) || (!r_15)) || (((r_3.2.1.length : Nat) : Int) != 0)) || (!(r_8.1.Lo == r_16.Lo && r_8.1.Hi == r_16.Hi)))) (congrArg Value.bool (orF hb)) hf
   exact zD θ he hi hf 43 rfl rfl rfl hc
 ·intro E θ a w hD hi hp he hc
  have e34 := hp.o 34 rfl
  have hf := he.h0.mP he 43 rfl e34
  refine sp 1 hf rfl fun a hf => zD θ he hi hf 44 rfl rfl rfl hc
 ·intro E θ a w hD hi hp he hc
  have e35 := hp.o 35 rfl
  rcases boolEq ((((((((r_1.2 != 0) || (r_3.2.2 != 0)) || (r_8.2 != 0)) || (r_13.2 != 0)) || (!(r_1.1.Lo == r_14.Lo && r_1.1.Hi == r_14.Hi))) || (!r_15)) || (((r_3.2.1.length : Nat) : Int) != 0)) || (!(r_8.1.Lo == r_16.Lo && r_8.1.Hi == r_16.Hi))) with hb | hb
  ·have hf := (he.h0.mT he 7 rfl).mP he 44 rfl e35
   replace hf := castB hb hf
   refine stS hf rfl rfl rfl fun a hf => ?_
   replace hf := castI (u := .agg #[i6 r_13.1.Lo,i6 r_13.1.Hi]) hb hf
   exact zD θ he hi hf 45 rfl rfl rfl hc
  ·have hf := (he.h0.mT he 7 rfl).mP he 44 rfl e35
   replace hf := castB hb hf
   refine zN hf hc ag_43 m1 rfl fun a w hf hc => ?_
   replace hf := castJ (u := undef) hb hf
   exact zD θ he hi hf 45 rfl rfl rfl hc
 ·intro E θ a w hD hi hp he hc
  have e35 := hp.o 35 rfl
  rcases boolEq ((((((((r_1.2 != 0) || (r_3.2.2 != 0)) || (r_8.2 != 0)) || (r_13.2 != 0)) || (!(r_1.1.Lo == r_14.Lo && r_1.1.Hi == r_14.Hi))) || (!r_15)) || (((r_3.2.1.length : Nat) : Int) != 0)) || (!(r_8.1.Lo == r_16.Lo && r_8.1.Hi == r_16.Hi))) with hb | hb
  ·have hf := he.h0.mP he 44 rfl e35
   replace hf := castB hb hf
   refine stS hf rfl rfl rfl fun a hf => ?_
   replace hf := castI (u := .agg #[i6 r_17.Lo,i6 r_17.Hi]) hb hf
   exact zD θ he hi hf 46 rfl rfl rfl hc
  ·have hf := he.h0.mP he 44 rfl e35
   replace hf := castB hb hf
   refine zQ (v := .agg #[i6 r_17.Lo,i6 r_17.Hi]) hf hc en_10 rfl (fun w hc => law03_span_ok 449 550 hc (condT (notT hb) hr_17)) fun a w hf hc => ?_
   replace hf := castJ (u := undef) hb hf
   exact zD θ he hi hf 46 rfl rfl rfl hc
 ·intro E θ a w hD hi hp he hc
  have e35 := hp.o 35 rfl
  have e36 := hp.o 36 rfl
  have e37 := hp.o 37 rfl
  rcases boolEq ((((((((r_1.2 != 0) || (r_3.2.2 != 0)) || (r_8.2 != 0)) || (r_13.2 != 0)) || (!(r_1.1.Lo == r_14.Lo && r_1.1.Hi == r_14.Hi))) || (!r_15)) || (((r_3.2.1.length : Nat) : Int) != 0)) || (!(r_8.1.Lo == r_16.Lo && r_8.1.Hi == r_16.Hi))) with hb | hb
  ·have hf := he.h0.mP he 44 rfl e35
   replace hf := castB hb hf
   replace hf := hf.more he 45 rfl (onP e36)
   replace hf := castCT hb hf
   replace hf := hf.more he 46 rfl (onP e37)
   replace hf := castCT hb hf
   refine stS hf rfl rfl rfl fun a hf => ?_
   replace hf := castI (u := .bool (!(r_13.1.Lo == r_17.Lo && r_13.1.Hi == r_17.Hi))) hb hf
   exact zD θ he hi hf 47 rfl rfl rfl hc
  ·have hf := he.h0.mP he 44 rfl e35
   replace hf := castB hb hf
   replace hf := hf.more he 45 rfl (onP e36)
   replace hf := castCF hb hf
   replace hf := hf.more he 46 rfl (onP e37)
   replace hf := castCF hb hf
   refine zP hf rfl (pNeA ge_43 rfl rfl (eqs_43 _ _ _ _)) fun a hf => ?_
   replace hf := castJ (u := undef) hb hf
   exact zD θ he hi hf 47 rfl rfl rfl hc
 ·intro E θ a w hD hi hp he hc
  have e35 := hp.o 35 rfl
  have e38 := hp.o 38 rfl
  rcases boolEq ((((((((r_1.2 != 0) || (r_3.2.2 != 0)) || (r_8.2 != 0)) || (r_13.2 != 0)) || (!(r_1.1.Lo == r_14.Lo && r_1.1.Hi == r_14.Hi))) || (!r_15)) || (((r_3.2.1.length : Nat) : Int) != 0)) || (!(r_8.1.Lo == r_16.Lo && r_8.1.Hi == r_16.Hi))) with hb | hb
  ·have hf := he.h0.mP he 44 rfl e35
   replace hf := castB hb hf
   replace hf := hf.more he 47 rfl (onP e38)
   replace hf := castCT hb hf
   refine sp 1 hf rfl fun a hf => ?_
   replace hf := castV (v' := .bool (((((((((r_1.2 != 0) || (r_3.2.2 != 0)) || (r_8.2 != 0)) || (r_13.2 != 0)) || (!(r_1.1.Lo == r_14.Lo && r_1.1.Hi == r_14.Hi))) || (!r_15)) || (((r_3.2.1.length : Nat) : Int) != 0)) || (!(r_8.1.Lo == r_16.Lo && r_8.1.Hi == r_16.Hi))) || (!(r_13.1.Lo == r_17.Lo && r_13.1.Hi == r_17.Hi)))) (congrArg Value.bool (orT hb)) hf
   exact zD θ he hi hf 48 rfl rfl rfl hc
  ·have hf := he.h0.mP he 44 rfl e35
   replace hf := castB hb hf
   replace hf := hf.more he 47 rfl (onP e38)
   replace hf := castCF hb hf
   refine sp 1 hf rfl fun a hf => ?_
   replace hf := castV (v' := .bool (((((((((r_1.2 != 0) || (r_3.2.2 != 0)) || (r_8.2 != 0)) || (r_13.2 != 0)) || (!(r_1.1.Lo == r_14.Lo && r_1.1.Hi == r_14.Hi))) || (!r_15)) || (((r_3.2.1.length : Nat) : Int) != 0)) || (!(r_8.1.Lo == r_16.Lo && r_8.1.Hi == r_16.Hi))) || (!(r_13.1.Lo == r_17.Lo && r_13.1.Hi == r_17.Hi)))) (congrArg Value.bool (orF hb)) hf
   exact zD θ he hi hf 48 rfl rfl rfl hc
 ·intro E θ a w hall he hc
  have hf := he.h0
  have e21 := hall 21 rfl
  have e39 := hall 39 rfl
  replace hf := hf.more he 48 rfl (onP e39)
  try dsimp only at hc
  rw [e21] at hc
  replace hc := hc.drop k0
  exact ⟨hf.kp rfl,hc⟩
 rintro a w ⟨hf,hc⟩
 refine h8 _ _ ?_
 refine zI hf rfl hF ?_ ?_ <;> clear hF <;> intro hF
 ·refine zS fun K h => sp 1 hf rfl fun a hf => zT h ?_
  refine wp_ret ?_
  refine xThenR ?_
  obtain rfl := sj hF
  replace hc := ((((hc.drop k4).drop k3).drop k2).drop k1).drop k0
  exact zO1 Tryz.results13 hf rfl ⟨rfl,hc⟩
 ·refine wp_skip ?_
  refine h7 _ _ ?_
  refine zS fun K h => zP hf rfl (pBuildS (cells := [i6 5,i6 9]) bt_43 rfl rfl) fun a hf => zP hf rfl (pBuildS (cells := [i6 7,i6 12]) bt_43 rfl rfl) fun a hf => zP hf rfl (pBuildS (cells := [i6 10,i6 11]) bt_43 rfl rfl) fun a hf => stBS (rows := ([(⟨5,9⟩ : api_Span),(⟨7,12⟩ : api_Span),(⟨10,11⟩ : api_Span)] : List api_Span).map enc_api_Span) (vs := [(0,.agg #[i6 5,i6 9]),(1,.agg #[i6 7,i6 12]),(2,.agg #[i6 10,i6 11])]) hf hc rfl rfl sl_37 rfl ⟨rfl,rfl,rfl,rfl,rfl,rfl,rfl,rfl,rfl,trivial⟩ rfl rfl fun b_7 a w hf hc => sp 1 hf rfl fun a hf => zT h ?_
  refine zS fun K h => sp 1 hf rfl fun a hf => ?_
  obtain ⟨r_18,hr_18,hF⟩ := bnd_some hF
  refine zQ (v := .tuple #[i6 r_18.1,i6 r_18.2.1,i6 r_18.2.2]) hf hc en_27 rfl (fun w hc => by obtain ⟨G1,hle1,hrd1,hc,hth1⟩ := lend hc k0; exact (gauge_Apart_ok ([(⟨5,9⟩ : api_Span),(⟨7,12⟩ : api_Span),(⟨10,11⟩ : api_Span)] : List api_Span) hrd1 hc hr_18).mono fun e w h => ⟨h.1,((hth1 _ _ h.2).unpick k0)⟩) fun a w hf hc => sp 7 hf rfl fun a hf => zT h ?_
  refine zS fun K h => sp 1 hf rfl fun a hf => ?_
  have qc := row_cap hc m0
  obtain ⟨sub,hsub,hF⟩ := bnd_some hF
  refine zP hf rfl (pSl Tryz.underlying37 sz_43 rfl rfl qc rfl rfl hsub) fun a hf => ?_
  obtain ⟨r_19,hr_19,hF⟩ := bnd_some hF
  refine zQ (v := .tuple #[.agg #[i6 r_19.1.Lo,i6 r_19.1.Hi],i6 r_19.2]) hf hc en_28 rfl (fun w hc => by obtain ⟨G1,hle1,hrd1,hc,hth1⟩ := lend hc k0; exact (gauge_Common_ok sub (Rd.sub hrd1 hsub) hc hr_19).mono fun e w h => ⟨h.1,((hth1 _ _ h.2).unpick k0)⟩) fun a w hf hc => sp 3 hf rfl fun a hf => zA hf hc zr_43 rfl fun b_8 a w hf hc => zW hf hc sz_43 u0 rfl fun w hc => sp 1 hf rfl fun a hf => zT h ?_
  refine wp_seq_k fun K13 h13 => cReg ?_
  obtain ⟨r_20,hr_20,hF⟩ := bnd_some hF
  refine zC hf en_30 rfl (law03_Three_ok hc hr_20) ?_
  rintro _ w ⟨p_5,c_5,rfl,hc⟩
  refine ⟨_,rfl,fun a hf => ?_⟩
  obtain ⟨r_21,hr_21,hF⟩ := bnd_some hF
  obtain ⟨G1,hle1,hrd1,hc,hth1⟩ := lend hc k0
  refine zC hf en_29 rfl (gauge_Plan_ok r_20 hrd1 hc hr_21) ?_
  rintro _ w ⟨p_6,c_6,rfl,hc⟩
  refine ⟨_,rfl,fun a hf => ?_⟩
  replace hc := hth1 _ _ hc
  refine sp 7 hf rfl fun a hf => cNil ?_
  replace hc := ((((((hc.drop k8).drop k7).drop k6).drop k5).drop k4).drop k3).drop k0
  refine h13 _ _ ?_
  refine zS fun K h => ?_
  obtain ⟨r_22,hr_22,hF⟩ := bnd_some hF
  refine zC hf en_30 rfl (law03_Three_ok hc hr_22) ?_
  rintro _ w ⟨p_7,c_7,rfl,hc⟩
  refine ⟨_,rfl,fun a hf => ?_⟩
  refine stBS (rows := ([0,2,3,6,6] : List Int).map encI_i64) (vs := [(0,i6 0),(1,i6 2),(2,i6 3),(3,i6 6),(4,i6 6)]) hf hc rfl rfl sl_23 rfl ⟨rfl,rfl,rfl,rfl,rfl,rfl,rfl,rfl,rfl,rfl,rfl,rfl,rfl,rfl,rfl,trivial⟩ rfl rfl fun b_9 a w hf hc => ?_
  obtain ⟨r_23,hr_23,hF⟩ := bnd_some hF
  refine zQ (v := .tuple #[.bool r_23.1,i6 r_23.2]) hf hc en_31 rfl (fun w hc => by obtain ⟨G1,hle1,hrd1,hc,hth1⟩ := lend hc k1; obtain ⟨G2,hle2,hrd2,hc,hth2⟩ := lend hc k0; exact (gauge_Proves_ok r_22 ([0,2,3,6,6] : List Int) 6 (hrd1.mono hle2) hrd2 hc hr_23).mono fun e w h => ⟨h.1,((hth1 _ _ ((hth2 _ _ h.2).unpick k0)).unpick k1)⟩) fun a w hf hc => sp 5 hf rfl fun a hf => zT h ?_
  refine wp_seq_k fun K15 h15 => ?_
  obtain ⟨r_24,hr_24,hF⟩ := bnd_some hF
  obtain ⟨r_25,hr_25,hF⟩ := bnd_some hF
  replace hc := hc.nilRow 0 0
  refine regionE (fun θ => (⟨none,none,2,i6 r_18.2.2⟩::⟨none,none,5,i6 r_19.2⟩::⟨none,none,8,i6 r_21.2.2⟩::⟨none,none,10,i6 r_23.2⟩::⟨none,none,12,i6 r_18.1⟩::⟨none,none,13,i6 r_18.2.1⟩::⟨none,none,14,pq b_8⟩::⟨none,none,15,.slice p_6 r_21.1.length c_6⟩::⟨none,none,16,i6 r_21.2.1⟩::⟨none,none,17,.bool r_23.1⟩::⟨some 0,none,117,i6 r_18.2.2⟩::⟨some 1,none,118,.bool (r_18.2.2 == 0)⟩::⟨some 2,none,119,.bool (r_18.2.2 == 0)⟩::⟨some 3,none,120,(bif (r_18.2.2 == 0) then i6 r_19.2 else undef)⟩::⟨some 4,none,121,(bif (r_18.2.2 == 0) then .bool (r_19.2 == 0) else undef)⟩::⟨some 5,none,122,.bool ((r_18.2.2 == 0) && (r_19.2 == 0))⟩::⟨some 6,none,123,.bool ((r_18.2.2 == 0) && (r_19.2 == 0))⟩::⟨some 7,none,124,(bif ((r_18.2.2 == 0) && (r_19.2 == 0)) then i6 r_21.2.2 else undef)⟩::⟨some 8,none,125,(bif ((r_18.2.2 == 0) && (r_19.2 == 0)) then .bool (r_21.2.2 == 0) else undef)⟩::⟨some 9,none,126,.bool (((r_18.2.2 == 0) && (r_19.2 == 0)) && (r_21.2.2 == 0))⟩::⟨some 10,none,127,.bool (((r_18.2.2 == 0) && (r_19.2 == 0)) && (r_21.2.2 == 0))⟩::⟨some 11,none,128,(bif (((r_18.2.2 == 0) && (r_19.2 == 0)) && (r_21.2.2 == 0)) then i6 r_23.2 else undef)⟩::⟨some 12,none,129,(bif (((r_18.2.2 == 0) && (r_19.2 == 0)) && (r_21.2.2 == 0)) then .bool (r_23.2 == 0) else undef)⟩::⟨some 13,none,130,.bool ((((r_18.2.2 == 0) && (r_19.2 == 0)) && (r_21.2.2 == 0)) && (r_23.2 == 0))⟩::⟨some 14,none,131,.bool ((((r_18.2.2 == 0) && (r_19.2 == 0)) && (r_21.2.2 == 0)) && (r_23.2 == 0))⟩::⟨some 15,none,132,(bif ((((r_18.2.2 == 0) && (r_19.2 == 0)) && (r_21.2.2 == 0)) && (r_23.2 == 0)) then i6 r_18.1 else undef)⟩::⟨some 16,none,133,(bif ((((r_18.2.2 == 0) && (r_19.2 == 0)) && (r_21.2.2 == 0)) && (r_23.2 == 0)) then .bool (r_18.1 == 0) else undef)⟩::⟨some 17,none,134,.bool (((((r_18.2.2 == 0) && (r_19.2 == 0)) && (r_21.2.2 == 0)) && (r_23.2 == 0)) && (r_18.1 == 0))⟩::⟨some 18,none,135,.bool (((((r_18.2.2 == 0) && (r_19.2 == 0)) && (r_21.2.2 == 0)) && (r_23.2 == 0)) && (r_18.1 == 0))⟩::⟨some 19,none,136,(bif (((((r_18.2.2 == 0) && (r_19.2 == 0)) && (r_21.2.2 == 0)) && (r_23.2 == 0)) && (r_18.1 == 0)) then i6 r_18.2.1 else undef)⟩::⟨some 20,none,137,(bif (((((r_18.2.2 == 0) && (r_19.2 == 0)) && (r_21.2.2 == 0)) && (r_23.2 == 0)) && (r_18.1 == 0)) then .bool (r_18.2.1 == 2) else undef)⟩::⟨some 21,none,138,.bool ((((((r_18.2.2 == 0) && (r_19.2 == 0)) && (r_21.2.2 == 0)) && (r_23.2 == 0)) && (r_18.1 == 0)) && (r_18.2.1 == 2))⟩::⟨some 22,none,139,.bool ((((((r_18.2.2 == 0) && (r_19.2 == 0)) && (r_21.2.2 == 0)) && (r_23.2 == 0)) && (r_18.1 == 0)) && (r_18.2.1 == 2))⟩::⟨some 23,none,140,(bif ((((((r_18.2.2 == 0) && (r_19.2 == 0)) && (r_21.2.2 == 0)) && (r_23.2 == 0)) && (r_18.1 == 0)) && (r_18.2.1 == 2)) then .agg #[i6 r_19.1.Lo,i6 r_19.1.Hi] else undef)⟩::⟨some 24,none,141,(bif ((((((r_18.2.2 == 0) && (r_19.2 == 0)) && (r_21.2.2 == 0)) && (r_23.2 == 0)) && (r_18.1 == 0)) && (r_18.2.1 == 2)) then .agg #[i6 r_24.Lo,i6 r_24.Hi] else undef)⟩::⟨some 25,none,142,(bif ((((((r_18.2.2 == 0) && (r_19.2 == 0)) && (r_21.2.2 == 0)) && (r_23.2 == 0)) && (r_18.1 == 0)) && (r_18.2.1 == 2)) then .bool (r_19.1.Lo == r_24.Lo && r_19.1.Hi == r_24.Hi) else undef)⟩::⟨some 26,none,143,.bool (((((((r_18.2.2 == 0) && (r_19.2 == 0)) && (r_21.2.2 == 0)) && (r_23.2 == 0)) && (r_18.1 == 0)) && (r_18.2.1 == 2)) && (r_19.1.Lo == r_24.Lo && r_19.1.Hi == r_24.Hi))⟩::⟨some 27,none,144,.bool (((((((r_18.2.2 == 0) && (r_19.2 == 0)) && (r_21.2.2 == 0)) && (r_23.2 == 0)) && (r_18.1 == 0)) && (r_18.2.1 == 2)) && (r_19.1.Lo == r_24.Lo && r_19.1.Hi == r_24.Hi))⟩::⟨some 28,none,145,(bif (((((((r_18.2.2 == 0) && (r_19.2 == 0)) && (r_21.2.2 == 0)) && (r_23.2 == 0)) && (r_18.1 == 0)) && (r_18.2.1 == 2)) && (r_19.1.Lo == r_24.Lo && r_19.1.Hi == r_24.Hi)) then .slice p_6 r_21.1.length c_6 else undef)⟩::⟨some 29,none,146,(bif (((((((r_18.2.2 == 0) && (r_19.2 == 0)) && (r_21.2.2 == 0)) && (r_23.2 == 0)) && (r_18.1 == 0)) && (r_18.2.1 == 2)) && (r_19.1.Lo == r_24.Lo && r_19.1.Hi == r_24.Hi)) then .slice (some ⟨(θ 232).b,0,none⟩) 2 2 else undef)⟩::⟨some 30,none,147,(bif (((((((r_18.2.2 == 0) && (r_19.2 == 0)) && (r_21.2.2 == 0)) && (r_23.2 == 0)) && (r_18.1 == 0)) && (r_18.2.1 == 2)) && (r_19.1.Lo == r_24.Lo && r_19.1.Hi == r_24.Hi)) then .bool r_25 else undef)⟩::⟨some 31,none,148,.bool ((((((((r_18.2.2 == 0) && (r_19.2 == 0)) && (r_21.2.2 == 0)) && (r_23.2 == 0)) && (r_18.1 == 0)) && (r_18.2.1 == 2)) && (r_19.1.Lo == r_24.Lo && r_19.1.Hi == r_24.Hi)) && r_25)⟩::⟨some 32,none,149,.bool ((((((((r_18.2.2 == 0) && (r_19.2 == 0)) && (r_21.2.2 == 0)) && (r_23.2 == 0)) && (r_18.1 == 0)) && (r_18.2.1 == 2)) && (r_19.1.Lo == r_24.Lo && r_19.1.Hi == r_24.Hi)) && r_25)⟩::⟨some 33,none,150,(bif ((((((((r_18.2.2 == 0) && (r_19.2 == 0)) && (r_21.2.2 == 0)) && (r_23.2 == 0)) && (r_18.1 == 0)) && (r_18.2.1 == 2)) && (r_19.1.Lo == r_24.Lo && r_19.1.Hi == r_24.Hi)) && r_25) then i6 r_21.2.1 else undef)⟩::⟨some 34,none,151,(bif ((((((((r_18.2.2 == 0) && (r_19.2 == 0)) && (r_21.2.2 == 0)) && (r_23.2 == 0)) && (r_18.1 == 0)) && (r_18.2.1 == 2)) && (r_19.1.Lo == r_24.Lo && r_19.1.Hi == r_24.Hi)) && r_25) then .bool (r_21.2.1 == 6) else undef)⟩::⟨some 35,none,152,.bool (((((((((r_18.2.2 == 0) && (r_19.2 == 0)) && (r_21.2.2 == 0)) && (r_23.2 == 0)) && (r_18.1 == 0)) && (r_18.2.1 == 2)) && (r_19.1.Lo == r_24.Lo && r_19.1.Hi == r_24.Hi)) && r_25) && (r_21.2.1 == 6))⟩::⟨some 36,none,153,.bool (((((((((r_18.2.2 == 0) && (r_19.2 == 0)) && (r_21.2.2 == 0)) && (r_23.2 == 0)) && (r_18.1 == 0)) && (r_18.2.1 == 2)) && (r_19.1.Lo == r_24.Lo && r_19.1.Hi == r_24.Hi)) && r_25) && (r_21.2.1 == 6))⟩::⟨some 37,none,154,(bif (((((((((r_18.2.2 == 0) && (r_19.2 == 0)) && (r_21.2.2 == 0)) && (r_23.2 == 0)) && (r_18.1 == 0)) && (r_18.2.1 == 2)) && (r_19.1.Lo == r_24.Lo && r_19.1.Hi == r_24.Hi)) && r_25) && (r_21.2.1 == 6)) then .bool r_23.1 else undef)⟩::⟨some 38,none,155,.bool ((((((((((r_18.2.2 == 0) && (r_19.2 == 0)) && (r_21.2.2 == 0)) && (r_23.2 == 0)) && (r_18.1 == 0)) && (r_18.2.1 == 2)) && (r_19.1.Lo == r_24.Lo && r_19.1.Hi == r_24.Hi)) && r_25) && (r_21.2.1 == 6)) && r_23.1)⟩::⟨some 39,none,0,.bool ((((((((((r_18.2.2 == 0) && (r_19.2 == 0)) && (r_21.2.2 == 0)) && (r_23.2 == 0)) && (r_18.1 == 0)) && (r_18.2.1 == 2)) && (r_19.1.Lo == r_24.Lo && r_19.1.Hi == r_24.Hi)) && r_25) && (r_21.2.1 == 6)) && r_23.1)⟩::[])) (fun E θ => (bif E 29 then (gE (((((((r_18.2.2 == 0) && (r_19.2 == 0)) && (r_21.2.2 == 0)) && (r_23.2 == 0)) && (r_18.1 == 0)) && (r_18.2.1 == 2)) && (r_19.1.Lo == r_24.Lo && r_19.1.Hi == r_24.Hi)) (.row (some ⟨(θ 232).b,0,none⟩) 2 (([1,3] : List Int).map encI_i64) 3 1)) else .row none 0 [] 0 0)::.row (some ⟨b_9,0,none⟩) 5 (([0,2,3,6,6] : List Int).map encI_i64) 3 1::.row p_7 c_7 (r_22.Points.map enc_gauge_Point) 133 3::.row p_6 c_6 (r_21.1.map encI_i64) 3 1::.box b_8 [i6 r_19.1.Lo,i6 r_19.1.Hi] 43::Lf) [] (fun a w => Has 156 a [(0,.bool ((((((((((r_18.2.2 == 0) && (r_19.2 == 0)) && (r_21.2.2 == 0)) && (r_23.2 == 0)) && (r_18.1 == 0)) && (r_18.2.1 == 2)) && (r_19.1.Lo == r_24.Lo && r_19.1.Hi == r_24.Hi)) && r_25) && (r_21.2.1 == 6)) && r_23.1))] ∧ Ctx G (.row (some ⟨b_9,0,none⟩) 5 (([0,2,3,6,6] : List Int).map encI_i64) 3 1::.row p_7 c_7 (r_22.Points.map enc_gauge_Point) 133 3::.row p_6 c_6 (r_21.1.map encI_i64) 3 1::.box b_8 [i6 r_19.1.Lo,i6 r_19.1.Hi] 43::Lf) w) follows_mx (by kernel_rfl) (by kernel_rfl) (HasE.of hf ⟨rfl,rfl,rfl,rfl,rfl,rfl,rfl,rfl,rfl,rfl,trivial,trivial,trivial,trivial,trivial,trivial,trivial,trivial,trivial,trivial,trivial,trivial,trivial,trivial,trivial,trivial,trivial,trivial,trivial,trivial,trivial,trivial,trivial,trivial,trivial,trivial,trivial,trivial,trivial,trivial,trivial,trivial,trivial,trivial,trivial,trivial,trivial,trivial,trivial,trivial,trivial⟩) hc ⟨?_,?_,?_,?_,?_,?_,?_,?_,?_,?_,?_,?_,?_,?_,?_,?_,?_,?_,?_,?_,?_,?_,?_,?_,?_,?_,?_,?_,?_,?_,?_,?_,?_,?_,?_,?_,?_,?_,?_,?_,trivial⟩ ?_ ?_
  ·intro E θ a w hD hi hp he hc
   have hf := he.h0.mT he 0 rfl
   refine sp 1 hf rfl fun a hf => zD θ he hi hf 10 rfl rfl rfl hc
  ·intro E θ a w hD hi hp he hc
   have e0 := hp.o 0 rfl
   have hf := he.h0.mP he 10 rfl e0
   refine sp 1 hf rfl fun a hf => zD θ he hi hf 11 rfl rfl rfl hc
  ·intro E θ a w hD hi hp he hc
   have e1 := hp.o 1 rfl
   have hf := he.h0.mP he 11 rfl e1
   refine sp 1 hf rfl fun a hf => zD θ he hi hf 12 rfl rfl rfl hc
  ·intro E θ a w hD hi hp he hc
   have e2 := hp.o 2 rfl
   rcases boolEq (r_18.2.2 == 0) with hb | hb
   ·have hf := (he.h0.mT he 1 rfl).mP he 12 rfl e2
    replace hf := castB hb hf
    refine sp 1 hf rfl fun a hf => ?_
    replace hf := castI (u := undef) hb hf
    exact zD θ he hi hf 13 rfl rfl rfl hc
   ·have hf := (he.h0.mT he 1 rfl).mP he 12 rfl e2
    replace hf := castB hb hf
    refine stS hf rfl rfl rfl fun a hf => ?_
    replace hf := castJ (u := i6 r_19.2) hb hf
    exact zD θ he hi hf 13 rfl rfl rfl hc
  ·intro E θ a w hD hi hp he hc
   have e2 := hp.o 2 rfl
   have e3 := hp.o 3 rfl
   rcases boolEq (r_18.2.2 == 0) with hb | hb
   ·have hf := he.h0.mP he 12 rfl e2
    replace hf := castB hb hf
    replace hf := hf.more he 13 rfl (onP e3)
    replace hf := castCT hb hf
    refine sp 1 hf rfl fun a hf => ?_
    replace hf := castI (u := undef) hb hf
    exact zD θ he hi hf 14 rfl rfl rfl hc
   ·have hf := he.h0.mP he 12 rfl e2
    replace hf := castB hb hf
    replace hf := hf.more he 13 rfl (onP e3)
    replace hf := castCF hb hf
    refine stS hf rfl rfl rfl fun a hf => ?_
    replace hf := castJ (u := .bool (r_19.2 == 0)) hb hf
    exact zD θ he hi hf 14 rfl rfl rfl hc
  ·intro E θ a w hD hi hp he hc
   have e2 := hp.o 2 rfl
   have e4 := hp.o 4 rfl
   rcases boolEq (r_18.2.2 == 0) with hb | hb
   ·have hf := he.h0.mP he 12 rfl e2
    replace hf := castB hb hf
    replace hf := hf.more he 14 rfl (onP e4)
    replace hf := castCT hb hf
    refine sp 1 hf rfl fun a hf => ?_
    replace hf := castV (v' := .bool ((r_18.2.2 == 0) && (r_19.2 == 0))) (congrArg Value.bool (andT hb)) hf
    exact zD θ he hi hf 15 rfl rfl rfl hc
   ·have hf := he.h0.mP he 12 rfl e2
    replace hf := castB hb hf
    replace hf := hf.more he 14 rfl (onP e4)
    replace hf := castCF hb hf
    refine sp 1 hf rfl fun a hf => ?_
    replace hf := castV (v' := .bool ((r_18.2.2 == 0) && (r_19.2 == 0))) (congrArg Value.bool (andF hb)) hf
    exact zD θ he hi hf 15 rfl rfl rfl hc
  ·intro E θ a w hD hi hp he hc
   have e5 := hp.o 5 rfl
   have hf := he.h0.mP he 15 rfl e5
   refine sp 1 hf rfl fun a hf => zD θ he hi hf 16 rfl rfl rfl hc
  ·intro E θ a w hD hi hp he hc
   have e6 := hp.o 6 rfl
   rcases boolEq ((r_18.2.2 == 0) && (r_19.2 == 0)) with hb | hb
   ·have hf := (he.h0.mT he 2 rfl).mP he 16 rfl e6
    replace hf := castB hb hf
    refine sp 1 hf rfl fun a hf => ?_
    replace hf := castI (u := undef) hb hf
    exact zD θ he hi hf 17 rfl rfl rfl hc
   ·have hf := (he.h0.mT he 2 rfl).mP he 16 rfl e6
    replace hf := castB hb hf
    refine stS hf rfl rfl rfl fun a hf => ?_
    replace hf := castJ (u := i6 r_21.2.2) hb hf
    exact zD θ he hi hf 17 rfl rfl rfl hc
  ·intro E θ a w hD hi hp he hc
   have e6 := hp.o 6 rfl
   have e7 := hp.o 7 rfl
   rcases boolEq ((r_18.2.2 == 0) && (r_19.2 == 0)) with hb | hb
   ·have hf := he.h0.mP he 16 rfl e6
    replace hf := castB hb hf
    replace hf := hf.more he 17 rfl (onP e7)
    replace hf := castCT hb hf
    refine sp 1 hf rfl fun a hf => ?_
    replace hf := castI (u := undef) hb hf
    exact zD θ he hi hf 18 rfl rfl rfl hc
   ·have hf := he.h0.mP he 16 rfl e6
    replace hf := castB hb hf
    replace hf := hf.more he 17 rfl (onP e7)
    replace hf := castCF hb hf
    refine stS hf rfl rfl rfl fun a hf => ?_
    replace hf := castJ (u := .bool (r_21.2.2 == 0)) hb hf
    exact zD θ he hi hf 18 rfl rfl rfl hc
  ·intro E θ a w hD hi hp he hc
   have e6 := hp.o 6 rfl
   have e8 := hp.o 8 rfl
   rcases boolEq ((r_18.2.2 == 0) && (r_19.2 == 0)) with hb | hb
   ·have hf := he.h0.mP he 16 rfl e6
    replace hf := castB hb hf
    replace hf := hf.more he 18 rfl (onP e8)
    replace hf := castCT hb hf
    refine sp 1 hf rfl fun a hf => ?_
    replace hf := castV (v' := .bool (((r_18.2.2 == 0) && (r_19.2 == 0)) && (r_21.2.2 == 0))) (congrArg Value.bool (andT hb)) hf
    exact zD θ he hi hf 19 rfl rfl rfl hc
   ·have hf := he.h0.mP he 16 rfl e6
    replace hf := castB hb hf
    replace hf := hf.more he 18 rfl (onP e8)
    replace hf := castCF hb hf
    refine sp 1 hf rfl fun a hf => ?_
    replace hf := castV (v' := .bool (((r_18.2.2 == 0) && (r_19.2 == 0)) && (r_21.2.2 == 0))) (congrArg Value.bool (andF hb)) hf
    exact zD θ he hi hf 19 rfl rfl rfl hc
  ·intro E θ a w hD hi hp he hc
   have e9 := hp.o 9 rfl
   have hf := he.h0.mP he 19 rfl e9
   refine sp 1 hf rfl fun a hf => zD θ he hi hf 20 rfl rfl rfl hc
  ·intro E θ a w hD hi hp he hc
   have e10 := hp.o 10 rfl
   rcases boolEq (((r_18.2.2 == 0) && (r_19.2 == 0)) && (r_21.2.2 == 0)) with hb | hb
   ·have hf := (he.h0.mT he 3 rfl).mP he 20 rfl e10
    replace hf := castB hb hf
    refine sp 1 hf rfl fun a hf => ?_
    replace hf := castI (u := undef) hb hf
    exact zD θ he hi hf 21 rfl rfl rfl hc
   ·have hf := (he.h0.mT he 3 rfl).mP he 20 rfl e10
    replace hf := castB hb hf
    refine stS hf rfl rfl rfl fun a hf => ?_
    replace hf := castJ (u := i6 r_23.2) hb hf
    exact zD θ he hi hf 21 rfl rfl rfl hc
  ·intro E θ a w hD hi hp he hc
   have e10 := hp.o 10 rfl
   have e11 := hp.o 11 rfl
   rcases boolEq (((r_18.2.2 == 0) && (r_19.2 == 0)) && (r_21.2.2 == 0)) with hb | hb
   ·have hf := he.h0.mP he 20 rfl e10
    replace hf := castB hb hf
    replace hf := hf.more he 21 rfl (onP e11)
    replace hf := castCT hb hf
    refine sp 1 hf rfl fun a hf => ?_
    replace hf := castI (u := undef) hb hf
    exact zD θ he hi hf 22 rfl rfl rfl hc
   ·have hf := he.h0.mP he 20 rfl e10
    replace hf := castB hb hf
    replace hf := hf.more he 21 rfl (onP e11)
    replace hf := castCF hb hf
    refine stS hf rfl rfl rfl fun a hf => ?_
    replace hf := castJ (u := .bool (r_23.2 == 0)) hb hf
    exact zD θ he hi hf 22 rfl rfl rfl hc
  ·intro E θ a w hD hi hp he hc
   have e10 := hp.o 10 rfl
   have e12 := hp.o 12 rfl
   rcases boolEq (((r_18.2.2 == 0) && (r_19.2 == 0)) && (r_21.2.2 == 0)) with hb | hb
   ·have hf := he.h0.mP he 20 rfl e10
    replace hf := castB hb hf
    replace hf := hf.more he 22 rfl (onP e12)
    replace hf := castCT hb hf
    refine sp 1 hf rfl fun a hf => ?_
    replace hf := castV (v' := .bool ((((r_18.2.2 == 0) && (r_19.2 == 0)) && (r_21.2.2 == 0)) && (r_23.2 == 0))) (congrArg Value.bool (andT hb)) hf
    exact zD θ he hi hf 23 rfl rfl rfl hc
   ·have hf := he.h0.mP he 20 rfl e10
    replace hf := castB hb hf
    replace hf := hf.more he 22 rfl (onP e12)
    replace hf := castCF hb hf
    refine sp 1 hf rfl fun a hf => ?_
    replace hf := castV (v' := .bool ((((r_18.2.2 == 0) && (r_19.2 == 0)) && (r_21.2.2 == 0)) && (r_23.2 == 0))) (congrArg Value.bool (andF hb)) hf
    exact zD θ he hi hf 23 rfl rfl rfl hc
  ·intro E θ a w hD hi hp he hc
   have e13 := hp.o 13 rfl
   have hf := he.h0.mP he 23 rfl e13
   refine sp 1 hf rfl fun a hf => zD θ he hi hf 24 rfl rfl rfl hc
  ·intro E θ a w hD hi hp he hc
   have e14 := hp.o 14 rfl
   rcases boolEq ((((r_18.2.2 == 0) && (r_19.2 == 0)) && (r_21.2.2 == 0)) && (r_23.2 == 0)) with hb | hb
   ·have hf := (he.h0.mT he 4 rfl).mP he 24 rfl e14
    replace hf := castB hb hf
    refine sp 1 hf rfl fun a hf => ?_
    replace hf := castI (u := undef) hb hf
    exact zD θ he hi hf 25 rfl rfl rfl hc
   ·have hf := (he.h0.mT he 4 rfl).mP he 24 rfl e14
    replace hf := castB hb hf
    refine stS hf rfl rfl rfl fun a hf => ?_
    replace hf := castJ (u := i6 r_18.1) hb hf
    exact zD θ he hi hf 25 rfl rfl rfl hc
  ·intro E θ a w hD hi hp he hc
   have e14 := hp.o 14 rfl
   have e15 := hp.o 15 rfl
   rcases boolEq ((((r_18.2.2 == 0) && (r_19.2 == 0)) && (r_21.2.2 == 0)) && (r_23.2 == 0)) with hb | hb
   ·have hf := he.h0.mP he 24 rfl e14
    replace hf := castB hb hf
    replace hf := hf.more he 25 rfl (onP e15)
    replace hf := castCT hb hf
    refine sp 1 hf rfl fun a hf => ?_
    replace hf := castI (u := undef) hb hf
    exact zD θ he hi hf 26 rfl rfl rfl hc
   ·have hf := he.h0.mP he 24 rfl e14
    replace hf := castB hb hf
    replace hf := hf.more he 25 rfl (onP e15)
    replace hf := castCF hb hf
    refine stS hf rfl rfl rfl fun a hf => ?_
    replace hf := castJ (u := .bool (r_18.1 == 0)) hb hf
    exact zD θ he hi hf 26 rfl rfl rfl hc
  ·intro E θ a w hD hi hp he hc
   have e14 := hp.o 14 rfl
   have e16 := hp.o 16 rfl
   rcases boolEq ((((r_18.2.2 == 0) && (r_19.2 == 0)) && (r_21.2.2 == 0)) && (r_23.2 == 0)) with hb | hb
   ·have hf := he.h0.mP he 24 rfl e14
    replace hf := castB hb hf
    replace hf := hf.more he 26 rfl (onP e16)
    replace hf := castCT hb hf
    refine sp 1 hf rfl fun a hf => ?_
    replace hf := castV (v' := .bool (((((r_18.2.2 == 0) && (r_19.2 == 0)) && (r_21.2.2 == 0)) && (r_23.2 == 0)) && (r_18.1 == 0))) (congrArg Value.bool (andT hb)) hf
    exact zD θ he hi hf 27 rfl rfl rfl hc
   ·have hf := he.h0.mP he 24 rfl e14
    replace hf := castB hb hf
    replace hf := hf.more he 26 rfl (onP e16)
    replace hf := castCF hb hf
    refine sp 1 hf rfl fun a hf => ?_
    replace hf := castV (v' := .bool (((((r_18.2.2 == 0) && (r_19.2 == 0)) && (r_21.2.2 == 0)) && (r_23.2 == 0)) && (r_18.1 == 0))) (congrArg Value.bool (andF hb)) hf
    exact zD θ he hi hf 27 rfl rfl rfl hc
  ·intro E θ a w hD hi hp he hc
   have e17 := hp.o 17 rfl
   have hf := he.h0.mP he 27 rfl e17
   refine sp 1 hf rfl fun a hf => zD θ he hi hf 28 rfl rfl rfl hc
  ·intro E θ a w hD hi hp he hc
   have e18 := hp.o 18 rfl
   rcases boolEq (((((r_18.2.2 == 0) && (r_19.2 == 0)) && (r_21.2.2 == 0)) && (r_23.2 == 0)) && (r_18.1 == 0)) with hb | hb
   ·have hf := (he.h0.mT he 5 rfl).mP he 28 rfl e18
    replace hf := castB hb hf
    refine sp 1 hf rfl fun a hf => ?_
    replace hf := castI (u := undef) hb hf
    exact zD θ he hi hf 29 rfl rfl rfl hc
   ·have hf := (he.h0.mT he 5 rfl).mP he 28 rfl e18
    replace hf := castB hb hf
    refine stS hf rfl rfl rfl fun a hf => ?_
    replace hf := castJ (u := i6 r_18.2.1) hb hf
    exact zD θ he hi hf 29 rfl rfl rfl hc
  ·intro E θ a w hD hi hp he hc
   have e18 := hp.o 18 rfl
   have e19 := hp.o 19 rfl
   rcases boolEq (((((r_18.2.2 == 0) && (r_19.2 == 0)) && (r_21.2.2 == 0)) && (r_23.2 == 0)) && (r_18.1 == 0)) with hb | hb
   ·have hf := he.h0.mP he 28 rfl e18
    replace hf := castB hb hf
    replace hf := hf.more he 29 rfl (onP e19)
    replace hf := castCT hb hf
    refine sp 1 hf rfl fun a hf => ?_
    replace hf := castI (u := undef) hb hf
    exact zD θ he hi hf 30 rfl rfl rfl hc
   ·have hf := he.h0.mP he 28 rfl e18
    replace hf := castB hb hf
    replace hf := hf.more he 29 rfl (onP e19)
    replace hf := castCF hb hf
    refine stS hf rfl rfl rfl fun a hf => ?_
    replace hf := castJ (u := .bool (r_18.2.1 == 2)) hb hf
    exact zD θ he hi hf 30 rfl rfl rfl hc
  ·intro E θ a w hD hi hp he hc
   have e18 := hp.o 18 rfl
   have e20 := hp.o 20 rfl
   rcases boolEq (((((r_18.2.2 == 0) && (r_19.2 == 0)) && (r_21.2.2 == 0)) && (r_23.2 == 0)) && (r_18.1 == 0)) with hb | hb
   ·have hf := he.h0.mP he 28 rfl e18
    replace hf := castB hb hf
    replace hf := hf.more he 30 rfl (onP e20)
    replace hf := castCT hb hf
    refine sp 1 hf rfl fun a hf => ?_
    replace hf := castV (v' := .bool ((((((r_18.2.2 == 0) && (r_19.2 == 0)) && (r_21.2.2 == 0)) && (r_23.2 == 0)) && (r_18.1 == 0)) && (r_18.2.1 == 2))) (congrArg Value.bool (andT hb)) hf
    exact zD θ he hi hf 31 rfl rfl rfl hc
   ·have hf := he.h0.mP he 28 rfl e18
    replace hf := castB hb hf
    replace hf := hf.more he 30 rfl (onP e20)
    replace hf := castCF hb hf
    refine sp 1 hf rfl fun a hf => ?_
    replace hf := castV (v' := .bool ((((((r_18.2.2 == 0) && (r_19.2 == 0)) && (r_21.2.2 == 0)) && (r_23.2 == 0)) && (r_18.1 == 0)) && (r_18.2.1 == 2))) (congrArg Value.bool (andF hb)) hf
    exact zD θ he hi hf 31 rfl rfl rfl hc
  ·intro E θ a w hD hi hp he hc
   have e21 := hp.o 21 rfl
   have hf := he.h0.mP he 31 rfl e21
   refine sp 1 hf rfl fun a hf => zD θ he hi hf 32 rfl rfl rfl hc
  ·intro E θ a w hD hi hp he hc
   have e22 := hp.o 22 rfl
   rcases boolEq ((((((r_18.2.2 == 0) && (r_19.2 == 0)) && (r_21.2.2 == 0)) && (r_23.2 == 0)) && (r_18.1 == 0)) && (r_18.2.1 == 2)) with hb | hb
   ·have hf := (he.h0.mT he 6 rfl).mP he 32 rfl e22
    replace hf := castB hb hf
    refine zN hf hc ag_43 m4 rfl fun a w hf hc => ?_
    replace hf := castI (u := undef) hb hf
    exact zD θ he hi hf 33 rfl rfl rfl hc
   ·have hf := (he.h0.mT he 6 rfl).mP he 32 rfl e22
    replace hf := castB hb hf
    refine stS hf rfl rfl rfl fun a hf => ?_
    replace hf := castJ (u := .agg #[i6 r_19.1.Lo,i6 r_19.1.Hi]) hb hf
    exact zD θ he hi hf 33 rfl rfl rfl hc
  ·intro E θ a w hD hi hp he hc
   have e22 := hp.o 22 rfl
   rcases boolEq ((((((r_18.2.2 == 0) && (r_19.2 == 0)) && (r_21.2.2 == 0)) && (r_23.2 == 0)) && (r_18.1 == 0)) && (r_18.2.1 == 2)) with hb | hb
   ·have hf := he.h0.mP he 32 rfl e22
    replace hf := castB hb hf
    refine zQ (v := .agg #[i6 r_24.Lo,i6 r_24.Hi]) hf hc en_10 rfl (fun w hc => law03_span_ok 7 9 hc (condT hb hr_24)) fun a w hf hc => ?_
    replace hf := castI (u := undef) hb hf
    exact zD θ he hi hf 34 rfl rfl rfl hc
   ·have hf := he.h0.mP he 32 rfl e22
    replace hf := castB hb hf
    refine stS hf rfl rfl rfl fun a hf => ?_
    replace hf := castJ (u := .agg #[i6 r_24.Lo,i6 r_24.Hi]) hb hf
    exact zD θ he hi hf 34 rfl rfl rfl hc
  ·intro E θ a w hD hi hp he hc
   have e22 := hp.o 22 rfl
   have e23 := hp.o 23 rfl
   have e24 := hp.o 24 rfl
   rcases boolEq ((((((r_18.2.2 == 0) && (r_19.2 == 0)) && (r_21.2.2 == 0)) && (r_23.2 == 0)) && (r_18.1 == 0)) && (r_18.2.1 == 2)) with hb | hb
   ·have hf := he.h0.mP he 32 rfl e22
    replace hf := castB hb hf
    replace hf := hf.more he 33 rfl (onP e23)
    replace hf := castCT hb hf
    replace hf := hf.more he 34 rfl (onP e24)
    replace hf := castCT hb hf
    refine zP hf rfl (pEqA ge_43 rfl rfl (eqs_43 _ _ _ _)) fun a hf => ?_
    replace hf := castI (u := undef) hb hf
    exact zD θ he hi hf 35 rfl rfl rfl hc
   ·have hf := he.h0.mP he 32 rfl e22
    replace hf := castB hb hf
    replace hf := hf.more he 33 rfl (onP e23)
    replace hf := castCF hb hf
    replace hf := hf.more he 34 rfl (onP e24)
    replace hf := castCF hb hf
    refine stS hf rfl rfl rfl fun a hf => ?_
    replace hf := castJ (u := .bool (r_19.1.Lo == r_24.Lo && r_19.1.Hi == r_24.Hi)) hb hf
    exact zD θ he hi hf 35 rfl rfl rfl hc
  ·intro E θ a w hD hi hp he hc
   have e22 := hp.o 22 rfl
   have e25 := hp.o 25 rfl
   rcases boolEq ((((((r_18.2.2 == 0) && (r_19.2 == 0)) && (r_21.2.2 == 0)) && (r_23.2 == 0)) && (r_18.1 == 0)) && (r_18.2.1 == 2)) with hb | hb
   ·have hf := he.h0.mP he 32 rfl e22
    replace hf := castB hb hf
    replace hf := hf.more he 35 rfl (onP e25)
    replace hf := castCT hb hf
    refine sp 1 hf rfl fun a hf => ?_
    replace hf := castV (v' := .bool (((((((r_18.2.2 == 0) && (r_19.2 == 0)) && (r_21.2.2 == 0)) && (r_23.2 == 0)) && (r_18.1 == 0)) && (r_18.2.1 == 2)) && (r_19.1.Lo == r_24.Lo && r_19.1.Hi == r_24.Hi))) (congrArg Value.bool (andT hb)) hf
    exact zD θ he hi hf 36 rfl rfl rfl hc
   ·have hf := he.h0.mP he 32 rfl e22
    replace hf := castB hb hf
    replace hf := hf.more he 35 rfl (onP e25)
    replace hf := castCF hb hf
    refine sp 1 hf rfl fun a hf => ?_
    replace hf := castV (v' := .bool (((((((r_18.2.2 == 0) && (r_19.2 == 0)) && (r_21.2.2 == 0)) && (r_23.2 == 0)) && (r_18.1 == 0)) && (r_18.2.1 == 2)) && (r_19.1.Lo == r_24.Lo && r_19.1.Hi == r_24.Hi))) (congrArg Value.bool (andF hb)) hf
    exact zD θ he hi hf 36 rfl rfl rfl hc
  ·intro E θ a w hD hi hp he hc
   have e26 := hp.o 26 rfl
   have hf := he.h0.mP he 36 rfl e26
   refine sp 1 hf rfl fun a hf => zD θ he hi hf 37 rfl rfl rfl hc
  ·intro E θ a w hD hi hp he hc
   have e27 := hp.o 27 rfl
   rcases boolEq (((((((r_18.2.2 == 0) && (r_19.2 == 0)) && (r_21.2.2 == 0)) && (r_23.2 == 0)) && (r_18.1 == 0)) && (r_18.2.1 == 2)) && (r_19.1.Lo == r_24.Lo && r_19.1.Hi == r_24.Hi)) with hb | hb
   ·have hf := (he.h0.mT he 7 rfl).mP he 37 rfl e27
    replace hf := castB hb hf
    refine sp 1 hf rfl fun a hf => ?_
    replace hf := castI (u := undef) hb hf
    exact zD θ he hi hf 38 rfl rfl rfl hc
   ·have hf := (he.h0.mT he 7 rfl).mP he 37 rfl e27
    replace hf := castB hb hf
    refine stS hf rfl rfl rfl fun a hf => ?_
    replace hf := castJ (u := .slice p_6 r_21.1.length c_6) hb hf
    exact zD θ he hi hf 38 rfl rfl rfl hc
  ·intro E θ a w hD hi hp he hc
   have e27 := hp.o 27 rfl
   try dsimp only at hc
   rw [hi] at hc
   rcases boolEq (((((((r_18.2.2 == 0) && (r_19.2 == 0)) && (r_21.2.2 == 0)) && (r_23.2 == 0)) && (r_18.1 == 0)) && (r_18.2.1 == 2)) && (r_19.1.Lo == r_24.Lo && r_19.1.Hi == r_24.Hi)) with hb | hb
   ·have hf := he.h0.mP he 37 rfl e27
    replace hf := castB hb hf
    refine stBS (rows := ([1,3] : List Int).map encI_i64) (vs := [(0,i6 1),(1,i6 3)]) hf hc rfl rfl sl_23 rfl ⟨rfl,rfl,rfl,rfl,rfl,rfl,trivial⟩ rfl rfl fun b_10 a w hf hc => ?_
    replace hf := castI (u := undef) hb hf
    refine cNil ?_
    refine xThenN ?_
    intro ds u hau
    replace hc := hc.drop k1
    refine ⟨(setT θ 232 ⟨b_10,none,0,(fun _ => (none,0))⟩),he.put hi hau hf rfl [] trivial ⟨qq,qq,qq,qq,qq,qq,qq,qq,qq,qq,qq,qq,qq,qq,qq,qq,qq,qq,qq,qq,qq,qq,qq,qq,qq,qq,qq,qq,qq,qq,qq,qq,qq,qq,qq,qq,qq,qq,qq,qq,qq,qq,qq,qq,qq,qq,qq,qq,qq,qq,trivial⟩,?_⟩
    try dsimp only
    rw [updE_self E 29]
    rw [gE_T hb]
    exact hc
   ·have hf := he.h0.mP he 37 rfl e27
    replace hf := castB hb hf
    refine stS hf rfl rfl rfl fun a hf => ?_
    replace hf := castJ (u := .slice (some ⟨(θ 232).b,0,none⟩) 2 2) hb hf
    refine zD θ he hi hf 39 rfl rfl rfl ?_
    try dsimp only
    rw [updE_self E 29]
    rw [gE_F hb]
    exact hc
  ·intro E θ a w hD hi hp he hc
   have e27 := hp.o 27 rfl
   have e28 := hp.o 28 rfl
   have e29 := hp.o 29 rfl
   try dsimp only at hc
   rw [e29] at hc
   rcases boolEq (((((((r_18.2.2 == 0) && (r_19.2 == 0)) && (r_21.2.2 == 0)) && (r_23.2 == 0)) && (r_18.1 == 0)) && (r_18.2.1 == 2)) && (r_19.1.Lo == r_24.Lo && r_19.1.Hi == r_24.Hi)) with hb | hb
   ·have hf := he.h0.mP he 37 rfl e27
    replace hf := castB hb hf
    replace hf := hf.more he 38 rfl (onP e28)
    replace hf := castCT hb hf
    replace hf := hf.more he 39 rfl (onP e29)
    replace hf := castCT hb hf
    rw [gE_T hb] at hc
    refine zQ (v := .bool r_25) hf hc en_26 rfl (fun w hc => by obtain ⟨G1,hle1,hrd1,hc,hth1⟩ := lend hc k3; obtain ⟨G2,hle2,hrd2,hc,hth2⟩ := lend hc k0; exact (kit_Same_int_ok r_21.1 ([1,3] : List Int) (hrd1.mono hle2) hrd2 hc (condT hb hr_25)).mono fun e w h => ⟨h.1,((hth1 _ _ ((hth2 _ _ h.2).unpick k0)).unpick k3)⟩) fun a w hf hc => ?_
    replace hf := castI (u := undef) hb hf
    refine zD θ he hi hf 40 rfl rfl rfl ?_
    try dsimp only
    rw [updE_tru 30 e29]
    rw [gE_T hb]
    exact hc
   ·have hf := he.h0.mP he 37 rfl e27
    replace hf := castB hb hf
    replace hf := hf.more he 38 rfl (onP e28)
    replace hf := castCF hb hf
    replace hf := hf.more he 39 rfl (onP e29)
    replace hf := castCF hb hf
    rw [gE_F hb] at hc
    refine stS hf rfl rfl rfl fun a hf => ?_
    replace hf := castJ (u := .bool r_25) hb hf
    refine zD θ he hi hf 40 rfl rfl rfl ?_
    try dsimp only
    rw [updE_tru 30 e29]
    rw [gE_F hb]
    exact hc
  ·intro E θ a w hD hi hp he hc
   have e27 := hp.o 27 rfl
   have e30 := hp.o 30 rfl
   rcases boolEq (((((((r_18.2.2 == 0) && (r_19.2 == 0)) && (r_21.2.2 == 0)) && (r_23.2 == 0)) && (r_18.1 == 0)) && (r_18.2.1 == 2)) && (r_19.1.Lo == r_24.Lo && r_19.1.Hi == r_24.Hi)) with hb | hb
   ·have hf := he.h0.mP he 37 rfl e27
    replace hf := castB hb hf
    replace hf := hf.more he 40 rfl (onP e30)
    replace hf := castCT hb hf
    refine sp 1 hf rfl fun a hf => ?_
    replace hf := castV (v' := .bool ((((((((r_18.2.2 == 0) && (r_19.2 == 0)) && (r_21.2.2 == 0)) && (r_23.2 == 0)) && (r_18.1 == 0)) && (r_18.2.1 == 2)) && (r_19.1.Lo == r_24.Lo && r_19.1.Hi == r_24.Hi)) && r_25)) (congrArg Value.bool (andT hb)) hf
    exact zD θ he hi hf 41 rfl rfl rfl hc
   ·have hf := he.h0.mP he 37 rfl e27
    replace hf := castB hb hf
    replace hf := hf.more he 40 rfl (onP e30)
    replace hf := castCF hb hf
    refine sp 1 hf rfl fun a hf => ?_
    replace hf := castV (v' := .bool ((((((((r_18.2.2 == 0) && (r_19.2 == 0)) && (r_21.2.2 == 0)) && (r_23.2 == 0)) && (r_18.1 == 0)) && (r_18.2.1 == 2)) && (r_19.1.Lo == r_24.Lo && r_19.1.Hi == r_24.Hi)) && r_25)) (congrArg Value.bool (andF hb)) hf
    exact zD θ he hi hf 41 rfl rfl rfl hc
  ·intro E θ a w hD hi hp he hc
   have e31 := hp.o 31 rfl
   have hf := he.h0.mP he 41 rfl e31
   refine sp 1 hf rfl fun a hf => zD θ he hi hf 42 rfl rfl rfl hc
  ·intro E θ a w hD hi hp he hc
   have e32 := hp.o 32 rfl
   rcases boolEq ((((((((r_18.2.2 == 0) && (r_19.2 == 0)) && (r_21.2.2 == 0)) && (r_23.2 == 0)) && (r_18.1 == 0)) && (r_18.2.1 == 2)) && (r_19.1.Lo == r_24.Lo && r_19.1.Hi == r_24.Hi)) && r_25) with hb | hb
   ·have hf := (he.h0.mT he 8 rfl).mP he 42 rfl e32
    replace hf := castB hb hf
    refine sp 1 hf rfl fun a hf => ?_
    replace hf := castI (u := undef) hb hf
    exact zD θ he hi hf 43 rfl rfl rfl hc
   ·have hf := (he.h0.mT he 8 rfl).mP he 42 rfl e32
    replace hf := castB hb hf
    refine stS hf rfl rfl rfl fun a hf => ?_
    replace hf := castJ (u := i6 r_21.2.1) hb hf
    exact zD θ he hi hf 43 rfl rfl rfl hc
  ·intro E θ a w hD hi hp he hc
   have e32 := hp.o 32 rfl
   have e33 := hp.o 33 rfl
   rcases boolEq ((((((((r_18.2.2 == 0) && (r_19.2 == 0)) && (r_21.2.2 == 0)) && (r_23.2 == 0)) && (r_18.1 == 0)) && (r_18.2.1 == 2)) && (r_19.1.Lo == r_24.Lo && r_19.1.Hi == r_24.Hi)) && r_25) with hb | hb
   ·have hf := he.h0.mP he 42 rfl e32
    replace hf := castB hb hf
    replace hf := hf.more he 43 rfl (onP e33)
    replace hf := castCT hb hf
    refine sp 1 hf rfl fun a hf => ?_
    replace hf := castI (u := undef) hb hf
    exact zD θ he hi hf 44 rfl rfl rfl hc
   ·have hf := he.h0.mP he 42 rfl e32
    replace hf := castB hb hf
    replace hf := hf.more he 43 rfl (onP e33)
    replace hf := castCF hb hf
    refine stS hf rfl rfl rfl fun a hf => ?_
    replace hf := castJ (u := .bool (r_21.2.1 == 6)) hb hf
    exact zD θ he hi hf 44 rfl rfl rfl hc
  ·intro E θ a w hD hi hp he hc
   have e32 := hp.o 32 rfl
   have e34 := hp.o 34 rfl
   rcases boolEq ((((((((r_18.2.2 == 0) && (r_19.2 == 0)) && (r_21.2.2 == 0)) && (r_23.2 == 0)) && (r_18.1 == 0)) && (r_18.2.1 == 2)) && (r_19.1.Lo == r_24.Lo && r_19.1.Hi == r_24.Hi)) && r_25) with hb | hb
   ·have hf := he.h0.mP he 42 rfl e32
    replace hf := castB hb hf
    replace hf := hf.more he 44 rfl (onP e34)
    replace hf := castCT hb hf
    refine sp 1 hf rfl fun a hf => ?_
    replace hf := castV (v' := .bool (((((((((r_18.2.2 == 0) && (r_19.2 == 0)) && (r_21.2.2 == 0)) && (r_23.2 == 0)) && (r_18.1 == 0)) && (r_18.2.1 == 2)) && (r_19.1.Lo == r_24.Lo && r_19.1.Hi == r_24.Hi)) && r_25) && (r_21.2.1 == 6))) (congrArg Value.bool (andT hb)) hf
    exact zD θ he hi hf 45 rfl rfl rfl hc
   ·have hf := he.h0.mP he 42 rfl e32
    replace hf := castB hb hf
    replace hf := hf.more he 44 rfl (onP e34)
    replace hf := castCF hb hf
    refine sp 1 hf rfl fun a hf => ?_
    replace hf := castV (v' := .bool (((((((((r_18.2.2 == 0) && (r_19.2 == 0)) && (r_21.2.2 == 0)) && (r_23.2 == 0)) && (r_18.1 == 0)) && (r_18.2.1 == 2)) && (r_19.1.Lo == r_24.Lo && r_19.1.Hi == r_24.Hi)) && r_25) && (r_21.2.1 == 6))) (congrArg Value.bool (andF hb)) hf
    exact zD θ he hi hf 45 rfl rfl rfl hc
  ·intro E θ a w hD hi hp he hc
   have e35 := hp.o 35 rfl
   have hf := he.h0.mP he 45 rfl e35
   refine sp 1 hf rfl fun a hf => zD θ he hi hf 46 rfl rfl rfl hc
  ·intro E θ a w hD hi hp he hc
   have e36 := hp.o 36 rfl
   rcases boolEq (((((((((r_18.2.2 == 0) && (r_19.2 == 0)) && (r_21.2.2 == 0)) && (r_23.2 == 0)) && (r_18.1 == 0)) && (r_18.2.1 == 2)) && (r_19.1.Lo == r_24.Lo && r_19.1.Hi == r_24.Hi)) && r_25) && (r_21.2.1 == 6)) with hb | hb
   ·have hf := (he.h0.mT he 9 rfl).mP he 46 rfl e36
    replace hf := castB hb hf
    refine sp 1 hf rfl fun a hf => ?_
    replace hf := castI (u := undef) hb hf
    exact zD θ he hi hf 47 rfl rfl rfl hc
   ·have hf := (he.h0.mT he 9 rfl).mP he 46 rfl e36
    replace hf := castB hb hf
    refine stS hf rfl rfl rfl fun a hf => ?_
    replace hf := castJ (u := .bool r_23.1) hb hf
    exact zD θ he hi hf 47 rfl rfl rfl hc
  ·intro E θ a w hD hi hp he hc
   have e36 := hp.o 36 rfl
   have e37 := hp.o 37 rfl
   rcases boolEq (((((((((r_18.2.2 == 0) && (r_19.2 == 0)) && (r_21.2.2 == 0)) && (r_23.2 == 0)) && (r_18.1 == 0)) && (r_18.2.1 == 2)) && (r_19.1.Lo == r_24.Lo && r_19.1.Hi == r_24.Hi)) && r_25) && (r_21.2.1 == 6)) with hb | hb
   ·have hf := he.h0.mP he 46 rfl e36
    replace hf := castB hb hf
    replace hf := hf.more he 47 rfl (onP e37)
    replace hf := castCT hb hf
    refine sp 1 hf rfl fun a hf => ?_
    replace hf := castV (v' := .bool ((((((((((r_18.2.2 == 0) && (r_19.2 == 0)) && (r_21.2.2 == 0)) && (r_23.2 == 0)) && (r_18.1 == 0)) && (r_18.2.1 == 2)) && (r_19.1.Lo == r_24.Lo && r_19.1.Hi == r_24.Hi)) && r_25) && (r_21.2.1 == 6)) && r_23.1)) (congrArg Value.bool (andT hb)) hf
    exact zD θ he hi hf 48 rfl rfl rfl hc
   ·have hf := he.h0.mP he 46 rfl e36
    replace hf := castB hb hf
    replace hf := hf.more he 47 rfl (onP e37)
    replace hf := castCF hb hf
    refine sp 1 hf rfl fun a hf => ?_
    replace hf := castV (v' := .bool ((((((((((r_18.2.2 == 0) && (r_19.2 == 0)) && (r_21.2.2 == 0)) && (r_23.2 == 0)) && (r_18.1 == 0)) && (r_18.2.1 == 2)) && (r_19.1.Lo == r_24.Lo && r_19.1.Hi == r_24.Hi)) && r_25) && (r_21.2.1 == 6)) && r_23.1)) (congrArg Value.bool (andF hb)) hf
    exact zD θ he hi hf 48 rfl rfl rfl hc
  ·intro E θ a w hD hi hp he hc
   have e38 := hp.o 38 rfl
   have hf := he.h0.mP he 48 rfl e38
   refine sp 1 hf rfl fun a hf => zD θ he hi hf 49 rfl rfl rfl hc
  ·intro E θ a w hall he hc
   have hf := he.h0
   have e29 := hall 29 rfl
   have e39 := hall 39 rfl
   replace hf := hf.more he 49 rfl (onP e39)
   try dsimp only at hc
   rw [e29] at hc
   replace hc := hc.drop k0
   exact ⟨hf.kp rfl,hc⟩
  rintro a w ⟨hf,hc⟩
  refine h15 _ _ ?_
  refine wp_ret ?_
  obtain rfl := sj hF
  replace hc := (((hc.drop k3).drop k2).drop k1).drop k0
  exact zO1 Tryz.results13 hf rfl ⟨rfl,hc⟩

def law03_GaugeLevelled_b28 (N : Nat) (r_1 : law03_River × Int × Int) (e_5 : level_Net) (x_5 : Int) (x_6 : List gauge_Vertical) : Option (Step (Int × (List gauge_Vertical)) (Step ((List api_Span) × Int) (Bool))) :=
 cond (decide (x_5 < ((r_1.1.At.length : Nat) : Int)))
 (Option.bind (getI r_1.1.At x_5) fun e_6 =>
 Option.bind (level_Between N e_5 (W (x_5 + 1)) 0) fun r_11 =>
 cond ((r_11.2 != 0) || (decide (r_11.1.Hi < r_11.1.Lo)))
 (some (.ret (.ret false)))
 (Option.bind (law03_span N (max 0 r_11.1.Lo) r_11.1.Hi) fun r_12 =>
 Option.bind (getI r_1.1.Speeds x_5) fun e_7 =>
 Option.bind (getI r_1.1.Speeds x_5) fun e_8 =>
 Option.bind (law03_span N e_7 e_8) fun r_13 =>
 Option.bind (room ((x_6 ++ [(⟨e_6,r_12,r_13⟩ : gauge_Vertical)])).length) fun un_3 =>
 some (.cont (W (x_5 + 1),(x_6 ++ [(⟨e_6,r_12,r_13⟩ : gauge_Vertical)])))))
 (some (.brk (x_5,x_6)))
def law03_GaugeLevelled_b19 (N : Nat) (r_1 : law03_River × Int × Int) (heights : List Int) (x_3 : List level_Line) (r_3 : level_Net) (r_7 : level_Line × Int × Int) (flows : List api_Span) (x_4 : Int) : Option (Step ((List api_Span) × Int) (Bool)) :=
 cond (decide (x_4 < (2 : Int)))
 (Option.bind (getI ([(⟨((heights.length : Nat) : Int),x_3⟩ : level_Net),(⟨r_3.Marks,(r_3.Lines ++ [r_7.1])⟩ : level_Net)] : List level_Net) x_4) fun e_5 =>
 Option.bind (loopO (fun s28 => law03_GaugeLevelled_b28 N r_1 e_5 s28.1 s28.2) N (0,([] : List gauge_Vertical))) fun x28 =>
 exK x28 (fun s28 => Option.bind (gauge_Flow N (⟨r_1.1.Left,r_1.1.Right,s28.2⟩ : gauge_Gauging)) fun r_9 =>
 Option.bind (gauge_Real N (⟨r_1.1.Left,r_1.1.Right,s28.2⟩ : gauge_Gauging) r_1.1.Depth r_1.1.Speeds) fun r_10 =>
 cond ((((r_9.2 != 0) || (r_10.2 != 0)) || (decide (r_10.1 < r_9.1.Lo))) || (decide (r_9.1.Hi < r_10.1)))
 (some (.ret false))
 (Option.bind (room ((flows ++ [r_9.1])).length) fun un_2 =>
 some (.cont ((flows ++ [r_9.1]),W (x_4 + 1))))) some)
 (some (.brk (flows,x_4)))
def law03_GaugeLevelled_b11 (N : Nat) (lines : List Int) (heights : List Int) (i_1 : Int) (x_1 : Int) (x_2 : Int) (x_3 : List level_Line) : Option (Step (Int × Int × Int × (List level_Line)) (Bool)) :=
 cond (decide (i_1 < ((heights.length : Nat) : Int)))
 (Option.bind (law01_Levelled N (⟨lines,x_1,x_2⟩ : kit_Stream) heights (W (i_1 - 1)) i_1 1) fun r_14 =>
 Option.bind (room ((x_3 ++ [r_14.1])).length) fun un_4 =>
 some (.cont (W (i_1 + 1),r_14.2.1,r_14.2.2,(x_3 ++ [r_14.1]))))
 (some (.brk (i_1,x_1,x_2,x_3)))
def law03_GaugeLevelled_b7 (N : Nat) (r_1 : law03_River × Int × Int) (heights : List Int) (x : Int) : Option (Step ((List Int) × Int) (Bool)) :=
 cond (decide (x < ((r_1.1.Depth.length : Nat) : Int)))
 (Option.bind (getI r_1.1.Depth x) fun e_9 =>
 Option.bind (room ((heights ++ [W (0 - e_9)])).length) fun un_5 =>
 some (.cont ((heights ++ [W (0 - e_9)]),W (x + 1))))
 (some (.brk (heights,x)))
def law03_GaugeLevelled (N : Nat) (numbers : List Int) (lines : List Int) (more : List Int) : Option (Bool) :=
 Option.bind (kit_New N numbers) fun r =>
 Option.bind (law03_Section N (⟨numbers,r.1,r.2⟩ : kit_Stream) 6) fun r_1 =>
 Option.bind (kit_New N lines) fun r_2 =>
 Option.bind (loopO (fun s7 => law03_GaugeLevelled_b7 N r_1 s7.1 s7.2) N (([0] : List Int),0)) fun x7 =>
 exK x7 (fun s7 => Option.bind (loopO (fun s11 => law03_GaugeLevelled_b11 N lines s7.1 s11.1 s11.2.1 s11.2.2.1 s11.2.2.2) N (1,r_2.1,r_2.2,([] : List level_Line))) fun x11 =>
 exK x11 (fun s11 => Option.bind (law01_CopyNet N (⟨((s7.1.length : Nat) : Int),s11.2.2.2⟩ : level_Net)) fun r_3 =>
 Option.bind (kit_New N more) fun r_4 =>
 Option.bind (kit_Stream_Next N (⟨more,r_4.1,r_4.2⟩ : kit_Stream) ((s7.1.length : Nat) : Int)) fun r_5 =>
 Option.bind (kit_Stream_Next N (⟨more,r_5.2.1,r_5.2.2⟩ : kit_Stream) (W (((s7.1.length : Nat) : Int) - 1))) fun r_6 =>
 Option.bind (nz ((s7.1.length : Nat) : Int)) fun un =>
 Option.bind (law01_Levelled N (⟨more,r_6.2.1,r_6.2.2⟩ : kit_Stream) s7.1 r_5.1 ((W ((W (r_5.1 + 1)) + r_6.1)).tmod ((s7.1.length : Nat) : Int)) 2) fun r_7 =>
 Option.bind (room ((r_3.Lines ++ [r_7.1])).length) fun un_1 =>
 Option.bind (loopO (fun s19 => law03_GaugeLevelled_b19 N r_1 s7.1 s11.2.2.2 r_3 r_7 s19.1 s19.2) N (([] : List api_Span),0)) fun x19 =>
 exK x19 (fun s19 => Option.bind (getI s19.1 1) fun e_1 =>
 Option.bind (getI s19.1 0) fun e_2 =>
 Option.bind (cond (decide (e_2.Lo ≤ e_1.Lo)) (Option.bind (getI s19.1 1) fun e_3 =>
 Option.bind (getI s19.1 0) fun e_4 =>
 some (decide (e_3.Hi ≤ e_4.Hi))) (some false)) fun t_1 =>
 Option.bind (cond t_1 (Option.bind (law03_awake N) fun r_8 =>
 some r_8) (some false)) fun t_2 =>
 some t_2) some) some) some
theorem law03_GaugeLevelled_ok {N : Nat} {G : Pers} {Lf : List Ent} {w : World} (numbers : List Int) (lines : List Int) (more : List Int) {numbers_p : Option Addr} {numbers_c : Nat} {lines_p : Option Addr} {lines_c : Nat} {more_p : Option Addr} {more_c : Nat} (h_numbers : Rd G 1 numbers_p numbers_c (numbers.map encI_u8)) (h_lines : Rd G 1 lines_p lines_c (lines.map encI_u8)) (h_more : Rd G 1 more_p more_c (more.map encI_u8)) (hc : Ctx G (Lf) w) {res : Bool} (hF : law03_GaugeLevelled N numbers lines more = some res) : Calls Tryz.prog 3 #[.slice numbers_p numbers.length numbers_c,.slice lines_p lines.length lines_c,.slice more_p more.length more_c] w (fun e w => e = .returned (.bool res) ∧ Ctx G (Lf) w) := by
 unfold law03_GaugeLevelled at hF
 refine fnIn Tryz.func3 rfl Tryz.ntmps3 rfl fun a hf => zS fun K h => sp 1 hf rfl fun a hf => zT h ?_
 refine zS fun K h => sp 1 hf rfl fun a hf => ?_
 obtain ⟨r,hr,hF⟩ := bnd_some hF
 refine zC hf en_5 rfl (kit_New_ok numbers h_numbers hc hr) ?_
 rintro _ w ⟨b_1,rfl,hc⟩
 refine ⟨_,rfl,fun a hf => ?_⟩
 obtain ⟨r_1,hr_1,hF⟩ := bnd_some hF
 refine zC hf en_4 rfl (law03_Section_ok (⟨numbers,r.1,r.2⟩ : kit_Stream) 6 h_numbers (hc.pick k0) hr_1) ?_
 rintro _ w ⟨p_1,c_1,p_2,c_2,p_3,c_3,rfl,hc⟩
 refine ⟨_,rfl,fun a hf => ?_⟩
 refine zA hf hc zr_25 rfl fun b_2 a w hf hc => zW hf hc sz_25 u0 rfl fun w hc => zT h ?_
 refine zS fun K h => sp 1 hf rfl fun a hf => ?_
 obtain ⟨r_2,hr_2,hF⟩ := bnd_some hF
 refine zC hf en_5 rfl (kit_New_ok lines h_lines hc hr_2) ?_
 rintro _ w ⟨b_3,rfl,hc⟩
 refine ⟨_,rfl,fun a hf => ?_⟩
 refine sp 1 hf rfl fun a hf => zT h ?_
 refine zS fun K h => stBS (rows := ([0] : List Int).map encI_i64) (vs := [(0,i6 0)]) hf hc rfl rfl sl_23 rfl ⟨rfl,rfl,rfl,trivial⟩ rfl rfl fun b_4 a w hf hc => sp 1 hf rfl fun a hf => zT h ?_
 refine wp_seq_k fun K5 h5 => zS fun K h => zP hf rfl (pFA fa_25_3 rfl) fun a hf => zL hf hc sc_23 m2 rfl fun a w hf hc => zP hf rfl (pLenS Tryz.underlying23 rfl) fun a hf => sp 1 hf rfl fun a hf => zT h ?_
 refine wp_block ?_
 obtain ⟨x7,hx7,hF⟩ := bnd_some hF
 let S7 : ((List Int) × Int) → Act → World → Prop := (fun (zz : (List Int) × Int) a w => ∃ (p_4 : Option Addr) (c_4 : Nat) (p_5 : Option Addr) (c_5 : Nat),Has 218 a [(2,.slice more_p more.length more_c),(7,pq b_2),(8,pq b_3),(9,.slice p_4 zz.1.length c_4),(36,.slice p_5 r_1.1.Depth.length c_5),(37,i6 ((r_1.1.Depth.length : Nat) : Int)),(38,i6 zz.2)] ∧ Ctx G (.row p_4 c_4 (zz.1.map encI_i64) 3 1::.box b_3 [.slice lines_p lines.length lines_c,i6 r_2.1,i6 r_2.2] 57::.box b_2 [i6 r_1.1.Left,i6 r_1.1.Right,.slice p_1 r_1.1.At.length c_1,.slice p_5 r_1.1.Depth.length c_5,.slice p_3 r_1.1.Speeds.length c_3] 25::.row p_1 c_1 (r_1.1.At.map encI_i64) 3 1::.row p_5 c_5 (r_1.1.Depth.map encI_i64) 3 1::.row p_3 c_3 (r_1.1.Speeds.map encI_i64) 3 1::Lf) w)
 have hr7 : ∀ (zz : (List Int) × Int) a w,x7 = .go zz → S7 zz a w → K5 a w := by
  rintro ⟨heights,x⟩ a w rfl ⟨p_4,c_4,p_5,c_5,hf,hc⟩
  replace hF := exK_go hF
  refine h5 _ _ ?_
  refine zS fun K h => sp 1 hf rfl fun a hf => zP hf rfl (pLenS Tryz.underlying23 rfl) fun a hf => zP hf rfl (pBuildS (cells := [i6 ((heights.length : Nat) : Int),.slice none 0 0]) bt_31 rfl rfl) fun a hf => zA hf hc zr_31 rfl fun b_5 a w hf hc => zW hf hc sz_31 u0 rfl fun w hc => zT h ?_
  refine wp_seq_k fun K9 h9 => zS fun K h => sp 1 hf rfl fun a hf => zT h ?_
  refine wp_block ?_
  obtain ⟨x11,hx11,hF⟩ := bnd_some hF
  let S11 : (Int × Int × Int × (List level_Line)) → Act → World → Prop := (fun (zz : Int × Int × Int × (List level_Line)) a w => ∃ (p_6 : Option Addr) (c_6 : Nat),Has 218 a [(2,.slice more_p more.length more_c),(7,pq b_2),(8,pq b_3),(9,.slice p_4 heights.length c_4),(12,pq b_5),(13,i6 zz.1)] ∧ Ctx G (.row p_6 c_6 (zz.2.2.2.map enc_level_Line) 33 5::.box b_5 [i6 ((heights.length : Nat) : Int),.slice p_6 zz.2.2.2.length c_6] 31::.row p_4 c_4 (heights.map encI_i64) 3 1::.box b_3 [.slice lines_p lines.length lines_c,i6 zz.2.1,i6 zz.2.2.1] 57::.box b_2 [i6 r_1.1.Left,i6 r_1.1.Right,.slice p_1 r_1.1.At.length c_1,.slice p_5 r_1.1.Depth.length c_5,.slice p_3 r_1.1.Speeds.length c_3] 25::.row p_1 c_1 (r_1.1.At.map encI_i64) 3 1::.row p_5 c_5 (r_1.1.Depth.map encI_i64) 3 1::.row p_3 c_3 (r_1.1.Speeds.map encI_i64) 3 1::Lf) w)
  have hr11 : ∀ (zz : Int × Int × Int × (List level_Line)) a w,x11 = .go zz → S11 zz a w → K9 a w := by
   rintro ⟨i_1,x_1,x_2,x_3⟩ a w rfl ⟨p_6,c_6,hf,hc⟩
   replace hF := exK_go hF
   refine h9 _ _ ?_
   refine wp_seq_k fun K12 h12 => cReg ?_
   refine zN hf hc ag_31 m1 rfl fun a w hf hc => ?_
   obtain ⟨r_3,hr_3,hF⟩ := bnd_some hF
   obtain ⟨G1,hle1,hrd1,hc,hth1⟩ := lend hc k0
   refine zC hf en_7 rfl (law01_CopyNet_ok (⟨((heights.length : Nat) : Int),x_3⟩ : level_Net) hrd1 hc hr_3) ?_
   rintro _ w ⟨p_7,c_7,rfl,hc⟩
   refine ⟨_,rfl,fun a hf => ?_⟩
   replace hc := hth1 _ _ hc
   refine zA hf hc zr_31 rfl fun b_6 a w hf hc => zW hf hc sz_31 u0 rfl fun w hc => cNil ?_
   replace hc := hc.drop k5
   refine h12 _ _ ?_
   refine zS fun K h => sp 1 hf rfl fun a hf => ?_
   obtain ⟨r_4,hr_4,hF⟩ := bnd_some hF
   refine zC hf en_5 rfl (kit_New_ok more h_more hc hr_4) ?_
   rintro _ w ⟨b_7,rfl,hc⟩
   refine ⟨_,rfl,fun a hf => ?_⟩
   refine sp 1 hf rfl fun a hf => zT h ?_
   refine zS fun K h => sp 1 hf rfl fun a hf => zP hf rfl (pFA fa_31_0 rfl) fun a hf => zL hf hc sc_3 m4 rfl fun a w hf hc => ?_
   obtain ⟨r_5,hr_5,hF⟩ := bnd_some hF
   refine zC hf en_8 rfl (kit_Stream_Next_ok (⟨more,r_4.1,r_4.2⟩ : kit_Stream) ((heights.length : Nat) : Int) h_more (hc.pick k0) hr_5) ?_
   rintro _ w ⟨rfl,hc⟩
   refine ⟨_,rfl,fun a hf => ?_⟩
   refine sp 1 hf rfl fun a hf => zT h ?_
   refine wp_seq_k fun K15 h15 => ?_
   obtain ⟨r_6,hr_6,hF⟩ := bnd_some hF
   obtain ⟨un,hun,hF⟩ := bnd_some hF
   obtain ⟨r_7,hr_7,hF⟩ := bnd_some hF
   obtain ⟨un_1,hun_1,hF⟩ := bnd_some hF
   replace hc := hc.nilRow 0 0
   refine regionE (fun θ => [⟨none,none,7,pq b_2⟩,⟨none,none,9,.slice p_4 heights.length c_4⟩,⟨none,none,12,pq b_5⟩,⟨none,none,14,pq b_6⟩,⟨none,none,15,pq b_7⟩,⟨none,none,16,i6 r_5.1⟩,⟨some 0,none,76,.pointer (some ⟨b_6,1,none⟩)⟩,⟨some 1,none,77,.slice p_7 r_3.Lines.length c_7⟩,⟨some 2,none,78,pq b_7⟩,⟨some 3,none,79,.slice p_4 heights.length c_4⟩,⟨some 4,none,80,i6 r_5.1⟩,⟨some 5,none,81,i6 r_5.1⟩,⟨some 6,none,82,i6 (W (r_5.1 + 1))⟩,⟨some 7,none,83,pq b_7⟩,⟨some 8,none,84,pq b_5⟩,⟨some 9,none,85,i6 ((heights.length : Nat) : Int)⟩,⟨some 10,none,86,i6 (W (((heights.length : Nat) : Int) - 1))⟩,⟨some 11,none,87,i6 r_6.1⟩,⟨some 12,none,88,i6 (W ((W (r_5.1 + 1)) + r_6.1))⟩,⟨some 13,none,89,pq b_5⟩,⟨some 14,none,90,i6 ((heights.length : Nat) : Int)⟩,⟨some 15,none,91,i6 ((W ((W (r_5.1 + 1)) + r_6.1)).tmod ((heights.length : Nat) : Int))⟩,⟨some 16,none,92,.agg #[i6 r_7.1.From,i6 r_7.1.To,i6 r_7.1.Day,i6 r_7.1.Rise,i6 r_7.1.Error]⟩,⟨some 17,none,93,.slice (some ⟨(θ 136).b,0,none⟩) 1 1⟩,⟨some 18,none,94,.slice ((θ 144).p) ((r_3.Lines ++ [r_7.1]).length) ((θ 144).c)⟩,⟨some 19,none,95,.pointer (some ⟨b_6,1,none⟩)⟩]) (fun E θ => (bif E 17 then .row (some ⟨(θ 136).b,0,none⟩) 1 (([r_7.1] : List level_Line).map enc_level_Line) 33 5 else .row none 0 [] 0 0)::(bif E 16 then .box b_7 [.slice more_p more.length more_c,i6 r_7.2.1,i6 r_7.2.2] 57 else bif E 11 then .box b_7 [.slice more_p more.length more_c,i6 r_6.2.1,i6 r_6.2.2] 57 else .box b_7 [.slice more_p more.length more_c,i6 r_5.2.1,i6 r_5.2.2] 57)::(bif E 20 then .box b_6 [i6 r_3.Marks,.slice ((θ 144).p) ((r_3.Lines ++ [r_7.1]).length) ((θ 144).c)] 31 else .box b_6 [i6 r_3.Marks,.slice p_7 r_3.Lines.length c_7] 31)::.row p_6 c_6 (x_3.map enc_level_Line) 33 5::(bif E 18 then .row ((θ 144).p) ((θ 144).c) ((r_3.Lines ++ [r_7.1]).map enc_level_Line) 33 5 else .row p_7 c_7 (r_3.Lines.map enc_level_Line) 33 5)::.box b_5 [i6 ((heights.length : Nat) : Int),.slice p_6 x_3.length c_6] 31::.row p_4 c_4 (heights.map encI_i64) 3 1::.box b_2 [i6 r_1.1.Left,i6 r_1.1.Right,.slice p_1 r_1.1.At.length c_1,.slice p_5 r_1.1.Depth.length c_5,.slice p_3 r_1.1.Speeds.length c_3] 25::.row p_1 c_1 (r_1.1.At.map encI_i64) 3 1::.row p_5 c_5 (r_1.1.Depth.map encI_i64) 3 1::.row p_3 c_3 (r_1.1.Speeds.map encI_i64) 3 1::Lf) [(20,1),(16,11),(18,16),(20,18)] (fun a w => ∃ (b_9 : Nat) (p_9 : Option Addr) (c_9 : Nat),Has 218 a [(7,pq b_2),(12,pq b_5),(14,pq b_6)] ∧ Ctx G (.row (some ⟨b_9,0,none⟩) 1 (([r_7.1] : List level_Line).map enc_level_Line) 33 5::.box b_7 [.slice more_p more.length more_c,i6 r_7.2.1,i6 r_7.2.2] 57::.box b_6 [i6 r_3.Marks,.slice p_9 ((r_3.Lines ++ [r_7.1]).length) c_9] 31::.row p_6 c_6 (x_3.map enc_level_Line) 33 5::.row p_9 c_9 ((r_3.Lines ++ [r_7.1]).map enc_level_Line) 33 5::.box b_5 [i6 ((heights.length : Nat) : Int),.slice p_6 x_3.length c_6] 31::.row p_4 c_4 (heights.map encI_i64) 3 1::.box b_2 [i6 r_1.1.Left,i6 r_1.1.Right,.slice p_1 r_1.1.At.length c_1,.slice p_5 r_1.1.Depth.length c_5,.slice p_3 r_1.1.Speeds.length c_3] 25::.row p_1 c_1 (r_1.1.At.map encI_i64) 3 1::.row p_5 c_5 (r_1.1.Depth.map encI_i64) 3 1::.row p_3 c_3 (r_1.1.Speeds.map encI_i64) 3 1::Lf) w) follows_mx (by kernel_rfl) (by kernel_rfl) (HasE.of hf ⟨rfl,rfl,rfl,rfl,rfl,rfl,trivial,trivial,trivial,trivial,trivial,trivial,trivial,trivial,trivial,trivial,trivial,trivial,trivial,trivial,trivial,trivial,trivial,trivial,trivial,trivial,trivial⟩) hc ⟨?_,?_,?_,?_,?_,?_,?_,?_,?_,?_,?_,?_,?_,?_,?_,?_,?_,?_,?_,?_,?_,trivial⟩ ?_ ?_
   ·intro E θ a w hD hi hp he hc
    have hf := he.h0.mT he 3 rfl
    refine zP hf rfl (pFA fa_31_1 rfl) fun a hf => zD θ he hi hf 6 rfl rfl rfl hc
   ·intro E θ a w hD hi hp he hc
    have e0 := hp.o 0 rfl
    have e20 := hD.f 0 rfl hi
    try dsimp only at hc
    rw [e20] at hc
    have hf := he.h0.mP he 6 rfl e0
    refine zL hf hc sc_29 m2 rfl fun a w hf hc => zD θ he hi hf 7 rfl rfl rfl ?_
    try dsimp only
    rw [updE_fls 1 e20 rfl]
    exact hc
   ·intro E θ a w hD hi hp he hc
    have hf := he.h0.mT he 4 rfl
    refine sp 1 hf rfl fun a hf => zD θ he hi hf 8 rfl rfl rfl hc
   ·intro E θ a w hD hi hp he hc
    have hf := he.h0.mT he 1 rfl
    refine sp 1 hf rfl fun a hf => zD θ he hi hf 9 rfl rfl rfl hc
   ·intro E θ a w hD hi hp he hc
    have hf := he.h0.mT he 5 rfl
    refine sp 1 hf rfl fun a hf => zD θ he hi hf 10 rfl rfl rfl hc
   ·intro E θ a w hD hi hp he hc
    have hf := he.h0.mT he 5 rfl
    refine sp 1 hf rfl fun a hf => zD θ he hi hf 11 rfl rfl rfl hc
   ·intro E θ a w hD hi hp he hc
    have e5 := hp.o 5 rfl
    have hf := he.h0.mP he 11 rfl e5
    refine sp 1 hf rfl fun a hf => zD θ he hi hf 12 rfl rfl rfl hc
   ·intro E θ a w hD hi hp he hc
    have hf := he.h0.mT he 4 rfl
    refine sp 1 hf rfl fun a hf => zD θ he hi hf 13 rfl rfl rfl hc
   ·intro E θ a w hD hi hp he hc
    have hf := he.h0.mT he 2 rfl
    refine zP hf rfl (pFA fa_31_0 rfl) fun a hf => zD θ he hi hf 14 rfl rfl rfl hc
   ·intro E θ a w hD hi hp he hc
    have e8 := hp.o 8 rfl
    have hf := he.h0.mP he 14 rfl e8
    refine zL hf hc sc_3 m5 rfl fun a w hf hc => zD θ he hi hf 15 rfl rfl rfl hc
   ·intro E θ a w hD hi hp he hc
    have e9 := hp.o 9 rfl
    have hf := he.h0.mP he 15 rfl e9
    refine sp 1 hf rfl fun a hf => zD θ he hi hf 16 rfl rfl rfl hc
   ·intro E θ a w hD hi hp he hc
    have e7 := hp.o 7 rfl
    have e10 := hp.o 10 rfl
    have e16 := hD.f 1 rfl hi
    have e18 := hD.f 2 rfl e16
    try dsimp only at hc
    rw [hi,e16,e18] at hc
    have hf := (he.h0.mP he 13 rfl e7).mP he 16 rfl e10
    refine zC hf en_8 rfl (kit_Stream_Next_ok (⟨more,r_5.2.1,r_5.2.2⟩ : kit_Stream) (W (((heights.length : Nat) : Int) - 1)) h_more (hc.pick k1) hr_6) ?_
    rintro _ w ⟨rfl,hc⟩
    refine ⟨_,rfl,fun a hf => ?_⟩
    refine cNil ?_
    refine xThenN ?_
    intro ds u hau
    replace hc := (hc.pick k0).pick k1
    refine ⟨θ,he.put0 hi hau hf rfl 17 rfl rfl,?_⟩
    try dsimp only
    rw [updE_self E 11,updE_fls 11 e16 rfl,updE_fls 11 e18 rfl]
    exact hc
   ·intro E θ a w hD hi hp he hc
    have e6 := hp.o 6 rfl
    have e11 := hp.o 11 rfl
    have hf := (he.h0.mP he 12 rfl e6).mP he 17 rfl e11
    refine sp 1 hf rfl fun a hf => zD θ he hi hf 18 rfl rfl rfl hc
   ·intro E θ a w hD hi hp he hc
    have hf := he.h0.mT he 2 rfl
    refine zP hf rfl (pFA fa_31_0 rfl) fun a hf => zD θ he hi hf 19 rfl rfl rfl hc
   ·intro E θ a w hD hi hp he hc
    have e13 := hp.o 13 rfl
    have hf := he.h0.mP he 19 rfl e13
    refine zL hf hc sc_3 m5 rfl fun a w hf hc => zD θ he hi hf 20 rfl rfl rfl hc
   ·intro E θ a w hD hi hp he hc
    have e12 := hp.o 12 rfl
    have e14 := hp.o 14 rfl
    have hf := (he.h0.mP he 18 rfl e12).mP he 20 rfl e14
    refine zP hf rfl (pRem rfl rfl (nz_spec hun)) fun a hf => zD θ he hi hf 21 rfl rfl rfl hc
   ·intro E θ a w hD hi hp he hc
    have e2 := hp.o 2 rfl
    have e3 := hp.o 3 rfl
    have e4 := hp.o 4 rfl
    have e15 := hp.o 15 rfl
    have e11 := hp.o 11 rfl
    have e18 := hD.f 2 rfl hi
    try dsimp only at hc
    rw [e11,hi,e18] at hc
    have hf := (((he.h0.mP he 8 rfl e2).mP he 9 rfl e3).mP he 10 rfl e4).mP he 21 rfl e15
    obtain ⟨G1,hle1,hrd1,hc,hth1⟩ := lend hc k6
    refine zC hf en_6 rfl (law01_Levelled_ok (⟨more,r_6.2.1,r_6.2.2⟩ : kit_Stream) heights r_5.1 ((W ((W (r_5.1 + 1)) + r_6.1)).tmod ((heights.length : Nat) : Int)) 2 (h_more.mono hle1) hrd1 (hc.pick k1) hr_7) ?_
    rintro _ w ⟨rfl,hc⟩
    refine ⟨_,rfl,fun a hf => ?_⟩
    replace hc := hth1 _ _ hc
    refine cNil ?_
    refine xThenN ?_
    intro ds u hau
    replace hc := ((((((hc.pick k0).pick k6).pick k6).pick k6).pick k6).pick k5).pick k6
    refine ⟨θ,he.put0 hi hau hf rfl 22 rfl rfl,?_⟩
    try dsimp only
    rw [updE_tru 16 e11,updE_self E 16,updE_fls 16 e18 rfl]
    exact hc
   ·intro E θ a w hD hi hp he hc
    have e16 := hp.o 16 rfl
    try dsimp only at hc
    rw [hi] at hc
    have hf := he.h0.mP he 22 rfl e16
    refine stBS (rows := ([r_7.1] : List level_Line).map enc_level_Line) (vs := [(0,.agg #[i6 r_7.1.From,i6 r_7.1.To,i6 r_7.1.Day,i6 r_7.1.Rise,i6 r_7.1.Error])]) hf hc rfl rfl sl_29 rfl ⟨rfl,rfl,rfl,trivial⟩ rfl rfl fun b_8 a w hf hc => cNil ?_
    refine xThenN ?_
    intro ds u hau
    replace hc := hc.drop k1
    refine ⟨(setT θ 136 ⟨b_8,none,0,(fun _ => (none,0))⟩),he.put hi hau hf rfl [] trivial ⟨qq,qq,qq,qq,qq,qq,qq,qq,qq,qq,qq,qq,qq,qq,qq,qq,qq,qq,qq,qq,qq,qq,qq,qq,qq,qq,trivial⟩,?_⟩
    try dsimp only
    rw [updE_self E 17]
    exact hc
   ·intro E θ a w hD hi hp he hc
    have e1 := hp.o 1 rfl
    have e17 := hp.o 17 rfl
    have e20 := hD.f 3 rfl hi
    try dsimp only at hc
    rw [e17,hi,e20] at hc
    have hf := (he.h0.mP he 7 rfl e1).mP he 23 rfl e17
    refine stApm (xs := r_3.Lines) (ys := ([r_7.1] : List level_Line)) hf hc rfl rfl sl_29 rfl rfl rfl rfl rfl one_enc_level_Line (src_row hc m0) (fun _ _ => u4) (by simpa using room_spec hun_1) fun p_8 c_8 a w hf hc => cNil ?_
    refine xThenN ?_
    intro ds u hau
    refine ⟨(setT θ 144 ⟨0,p_8,c_8,(fun _ => (none,0))⟩),he.put hi hau hf rfl [] trivial ⟨qq,qq,qq,qq,qq,qq,qq,qq,qq,qq,qq,qq,qq,qq,qq,qq,qq,qq,qq,qq,qq,qq,qq,qq,qq,qq,trivial⟩,?_⟩
    try dsimp only
    rw [updE_tru 18 e17,updE_self E 18,updE_fls 18 e20 rfl]
    exact hc
   ·intro E θ a w hD hi hp he hc
    have hf := he.h0.mT he 3 rfl
    refine zP hf rfl (pFA fa_31_1 rfl) fun a hf => zD θ he hi hf 25 rfl rfl rfl hc
   ·intro E θ a w hD hi hp he hc
    have e18 := hp.o 18 rfl
    have e19 := hp.o 19 rfl
    try dsimp only at hc
    rw [hi] at hc
    have hf := (he.h0.mP he 24 rfl e18).mP he 25 rfl e19
    refine zW hf hc sz_29 u2 rfl fun w hc => zG θ he hi hf rfl ?_
    try dsimp only
    rw [updE_self E 20]
    exact hc
   ·intro E θ a w hall he hc
    have hf := he.h0
    have e11 := hall 11 rfl
    have e16 := hall 16 rfl
    have e17 := hall 17 rfl
    have e18 := hall 18 rfl
    have e20 := hall 20 rfl
    replace hf := hf.more he 3 rfl (onT)
    replace hf := hf.more he 2 rfl (onT)
    replace hf := hf.more he 0 rfl (onT)
    try dsimp only at hc
    rw [e11,e16,e17,e18,e20] at hc
    exact ⟨(θ 136).b,(θ 144).p,(θ 144).c,hf.kp rfl,hc⟩
   rintro a w ⟨b_9,p_9,c_9,hf,hc⟩
   replace hc := ((hc.drop k6).drop k1).drop k0
   refine h15 _ _ ?_
   refine zS fun K h => sp 1 hf rfl fun a hf => zT h ?_
   refine wp_seq_k fun K17 h17 => wp_seq_k fun K18 h18 => cReg ?_
   refine zN hf hc ag_31 m3 rfl fun a w hf hc => zN hf hc ag_31 m0 rfl fun a w hf hc => stBS (rows := ([((p_6,c_6),(⟨((heights.length : Nat) : Int),x_3⟩ : level_Net)),((p_9,c_9),(⟨r_3.Marks,(r_3.Lines ++ [r_7.1])⟩ : level_Net))] : List (H2 × level_Net)).map (Kd.v kd_31)) (vs := [(0,.agg #[i6 ((heights.length : Nat) : Int),.slice p_6 x_3.length c_6]),(1,.agg #[i6 r_3.Marks,.slice p_9 ((r_3.Lines ++ [r_7.1]).length) c_9])]) hf hc rfl rfl sl_38 rfl ⟨rfl,rfl,rfl,rfl,rfl,rfl,trivial⟩ rfl rfl fun b_10 a w hf hc => zP hf rfl (pLenS Tryz.underlying38 rfl) fun a hf => sp 1 hf rfl fun a hf => cNil ?_
   replace hc := (((hc.pick k1).pick k3).pick k3).pick k3
   obtain ⟨hsq,hc⟩ := tab_mk (K := kd_31) ([((p_6,c_6),(⟨((heights.length : Nat) : Int),x_3⟩ : level_Net)),((p_9,c_9),(⟨r_3.Marks,(r_3.Lines ++ [r_7.1])⟩ : level_Net))] : List (H2 × level_Net)) hc
   replace hc : Ctx G (.row (some ⟨b_10,0,none⟩) 2 ((tabR hsq ([(⟨((heights.length : Nat) : Int),x_3⟩ : level_Net),(⟨r_3.Marks,(r_3.Lines ++ [r_7.1])⟩ : level_Net)] : List level_Net)).map (Kd.v kd_31)) 31 2::tabI kd_31 (tabR hsq ([(⟨((heights.length : Nat) : Int),x_3⟩ : level_Net),(⟨r_3.Marks,(r_3.Lines ++ [r_7.1])⟩ : level_Net)] : List level_Net))::.box b_6 [i6 r_3.Marks,.slice p_9 ((r_3.Lines ++ [r_7.1]).length) c_9] 31::.box b_5 [i6 ((heights.length : Nat) : Int),.slice p_6 x_3.length c_6] 31::.box b_2 [i6 r_1.1.Left,i6 r_1.1.Right,.slice p_1 r_1.1.At.length c_1,.slice p_5 r_1.1.Depth.length c_5,.slice p_3 r_1.1.Speeds.length c_3] 25::.row p_1 c_1 (r_1.1.At.map encI_i64) 3 1::.row p_5 c_5 (r_1.1.Depth.map encI_i64) 3 1::.row p_3 c_3 (r_1.1.Speeds.map encI_i64) 3 1::Lf) w := hc
   refine h18 _ _ ?_
   refine wp_block ?_
   obtain ⟨x19,hx19,hF⟩ := bnd_some hF
   let S19 : ((List api_Span) × Int) → Act → World → Prop := (fun (zz : (List api_Span) × Int) a w => ∃ (p_10 : Option Addr) (c_10 : Nat) (p_11 : Option Addr) (c_11 : Nat) (p_12 : Option Addr) (c_12 : Nat),Has 218 a [(7,pq b_2),(17,.slice p_10 zz.1.length c_10),(98,.slice (some ⟨b_10,0,none⟩) 2 2),(99,i6 (2 : Int)),(100,i6 zz.2)] ∧ Ctx G (.row p_10 c_10 (zz.1.map enc_api_Span) 43 2::.row (some ⟨b_10,0,none⟩) 2 ((tabR hsq ([(⟨((heights.length : Nat) : Int),x_3⟩ : level_Net),(⟨r_3.Marks,(r_3.Lines ++ [r_7.1])⟩ : level_Net)] : List level_Net)).map (Kd.v kd_31)) 31 2::tabI kd_31 (tabR hsq ([(⟨((heights.length : Nat) : Int),x_3⟩ : level_Net),(⟨r_3.Marks,(r_3.Lines ++ [r_7.1])⟩ : level_Net)] : List level_Net))::.box b_2 [i6 r_1.1.Left,i6 r_1.1.Right,.slice p_11 r_1.1.At.length c_11,.slice p_5 r_1.1.Depth.length c_5,.slice p_12 r_1.1.Speeds.length c_12] 25::.row p_11 c_11 (r_1.1.At.map encI_i64) 3 1::.row p_5 c_5 (r_1.1.Depth.map encI_i64) 3 1::.row p_12 c_12 (r_1.1.Speeds.map encI_i64) 3 1::Lf) w)
   have hr19 : ∀ (zz : (List api_Span) × Int) a w,x19 = .go zz → S19 zz a w → K17 a w := by
    rintro ⟨flows,x_4⟩ a w rfl ⟨p_10,c_10,p_11,c_11,p_12,c_12,hf,hc⟩
    replace hF := exK_go hF
    refine h17 _ _ ?_
    refine wp_seq_k fun K20 h20 => ?_
    obtain ⟨e_1,he_1,hF⟩ := bnd_some hF
    obtain ⟨g,rfl,qa,qr⟩ := row_atm hc m0 he_1
    obtain ⟨e_2,he_2,hF⟩ := bnd_some hF
    obtain ⟨qa_1,qr_1⟩ := row_atk hc m0 he_2
    obtain ⟨t_1,ht_1,hF⟩ := bnd_some hF
    obtain ⟨t_2,ht_2,hF⟩ := bnd_some hF
    refine cQ hc follows_mx (by kernel_rfl) ?_
    refine qE hf rfl rfl rfl (Pu.ev (pM rfl)) fun a hf => qE hf rfl rfl rfl (Pu.ev (pIA Tryz.underlying37 sz_43 rfl rfl qa)) fun a hf => qE hf rfl rfl rfl (Pu.ev (pFA fa_43_0 rfl)) fun a hf => qE hf rfl rfl rfl (eLd1 sc_3 rfl (cell_row (sz := 2) (i := (1 : Int).toNat) (j := 0) m0 qr rfl)) fun a hf => qE hf rfl rfl rfl (Pu.ev (pM rfl)) fun a hf => qE hf rfl rfl rfl (Pu.ev (pIA Tryz.underlying37 sz_43 rfl rfl qa_1)) fun a hf => qE hf rfl rfl rfl (Pu.ev (pFA fa_43_0 rfl)) fun a hf => qE hf rfl rfl rfl (eLd1 sc_3 rfl (cell_row (sz := 2) (i := (0 : Int).toNat) (j := 0) m0 qr_1 rfl)) fun a hf => qE hf rfl rfl rfl (Pu.ev (pGe rfl rfl)) fun a hf => qE hf rfl rfl rfl (Pu.ev (pM rfl)) fun a hf => qCut 10 (fun a => Has 218 a [(17,.slice (some ⟨g,0,none⟩) flows.length c_10),(195,.slice (some ⟨g,0,none⟩) flows.length c_10),(196,.pointer (some ⟨g,(1 : Int).toNat * 2,none⟩)),(197,.pointer (some ⟨g,(1 : Int).toNat * 2 + 0,none⟩)),(198,i6 e_1.Lo),(199,.slice (some ⟨g,0,none⟩) flows.length c_10),(200,.pointer (some ⟨g,(0 : Int).toNat * 2,none⟩)),(201,.pointer (some ⟨g,(0 : Int).toNat * 2 + 0,none⟩)),(202,i6 e_2.Lo),(203,.bool (decide (e_2.Lo ≤ e_1.Lo))),(204,.bool (decide (e_2.Lo ≤ e_1.Lo))),(214,.bool t_1)]) ?_ ?_
    ·cases hb : (decide (e_2.Lo ≤ e_1.Lo))
     ·rw [hb] at hf
      have hF := condF hb ht_1
      obtain rfl := sj hF
      refine qS hf rfl rfl rfl fun a hf => qS hf rfl rfl rfl fun a hf => qS hf rfl rfl rfl fun a hf => qS hf rfl rfl rfl fun a hf => qS hf rfl rfl rfl fun a hf => qS hf rfl rfl rfl fun a hf => qS hf rfl rfl rfl fun a hf => qS hf rfl rfl rfl fun a hf => qS hf rfl rfl rfl fun a hf => qE hf rfl rfl rfl (Pu.ev (pPf rfl rfl)) fun a hf => qNil (hf.kp rfl)
     ·rw [hb] at hf
      have hF := condT hb ht_1
      obtain ⟨e_3,he_3,hF⟩ := bnd_some hF
      obtain ⟨qa_2,qr_2⟩ := row_atk hc m0 he_3
      obtain ⟨e_4,he_4,hF⟩ := bnd_some hF
      obtain ⟨qa_3,qr_3⟩ := row_atk hc m0 he_4
      refine qE hf rfl rfl rfl (Pu.ev (pM rfl)) fun a hf => qE hf rfl rfl rfl (Pu.ev (pIA Tryz.underlying37 sz_43 rfl rfl qa_2)) fun a hf => qE hf rfl rfl rfl (Pu.ev (pFA fa_43_1 rfl)) fun a hf => qE hf rfl rfl rfl (eLd1 sc_3 rfl (cell_row (sz := 2) (i := (1 : Int).toNat) (j := 1) m0 qr_2 rfl)) fun a hf => qE hf rfl rfl rfl (Pu.ev (pM rfl)) fun a hf => qE hf rfl rfl rfl (Pu.ev (pIA Tryz.underlying37 sz_43 rfl rfl qa_3)) fun a hf => qE hf rfl rfl rfl (Pu.ev (pFA fa_43_1 rfl)) fun a hf => qE hf rfl rfl rfl (eLd1 sc_3 rfl (cell_row (sz := 2) (i := (0 : Int).toNat) (j := 1) m0 qr_3 rfl)) fun a hf => qE hf rfl rfl rfl (Pu.ev (pLe rfl rfl)) fun a hf => qE hf rfl rfl rfl (Pu.ev (pPt rfl rfl)) fun a hf => ?_
      obtain rfl := sj hF
      exact qNil (hf.kp rfl)
    intro a hf
    refine qE hf rfl rfl rfl (Pu.ev (pM rfl)) fun a hf => qCut 2 (fun a => Has 218 a [(17,.slice (some ⟨g,0,none⟩) flows.length c_10),(195,.slice (some ⟨g,0,none⟩) flows.length c_10),(196,.pointer (some ⟨g,(1 : Int).toNat * 2,none⟩)),(197,.pointer (some ⟨g,(1 : Int).toNat * 2 + 0,none⟩)),(198,i6 e_1.Lo),(199,.slice (some ⟨g,0,none⟩) flows.length c_10),(200,.pointer (some ⟨g,(0 : Int).toNat * 2,none⟩)),(201,.pointer (some ⟨g,(0 : Int).toNat * 2 + 0,none⟩)),(202,i6 e_2.Lo),(203,.bool (decide (e_2.Lo ≤ e_1.Lo))),(204,.bool (decide (e_2.Lo ≤ e_1.Lo))),(214,.bool t_1),(215,.bool t_1),(217,.bool t_2)]) ?_ ?_
    ·cases hb : t_1
     ·rw [hb] at hf
      have hF := condF hb ht_2
      obtain rfl := sj hF
      refine qS hf rfl rfl rfl fun a hf => qE hf rfl rfl rfl (Pu.ev (pPf rfl rfl)) fun a hf => qNil (hf.kp rfl)
     ·rw [hb] at hf
      have hF := condT hb ht_2
      obtain ⟨r_8,hr_8,hF⟩ := bnd_some hF
      refine qE hf rfl rfl rfl (eC (v := .bool r_8) (vs := []) (caps := []) en_13 rfl rfl rfl rfl (fun w hc => law03_awake_ok hc hr_8)) fun a hf => qE hf rfl rfl rfl (Pu.ev (pPt rfl rfl)) fun a hf => ?_
      obtain rfl := sj hF
      exact qNil (hf.kp rfl)
    intro a hf
    refine qE hf rfl rfl rfl (Pu.ev (pA rfl)) fun a hf => ?_
    intro w hc
    refine h20 _ _ ?_
    refine wp_ret ?_
    obtain rfl := sj hF
    replace hc := ((((((hc.drop k6).drop k5).drop k4).drop k3).drop k2).drop k1).drop k0
    exact zO1 Tryz.results3 hf rfl ⟨rfl,hc⟩
   have ho19 : ∀ r,x19 = .out r → r = res := by
    rintro r rfl
    exact sj hF
   replace hc := hc.nilRow 43 2
   replace hc := (hc.drop k4).drop k3
   refine cLoop N (loopW (S := S19) (x := x19) ?_ N (([] : List api_Span),0) _ _ ⟨none,0,p_1,c_1,p_3,c_3,hf.kp rfl,hc⟩ hx19)
   clear hF hf hc
   rintro ⟨flows,x_4⟩ st19 a w KB19 ⟨p_10,c_10,p_11,c_11,p_12,c_12,hf,hc⟩ hF hfin19 hK19
   unfold law03_GaugeLevelled_b19 at hF
   refine zS fun K h => sp 1 hf rfl fun a hf => zT h ?_
   refine wp_seq_k fun K22 h22 => zI hf rfl hF ?_ ?_ <;> clear hF <;> intro hF
   ·refine wp_skip ?_
    refine h22 _ _ ?_
    refine wp_seq_k fun K23 h23 => wp_block ?_
    refine zS fun K h => ?_
    obtain ⟨e_5,he_5,hF⟩ := bnd_some hF
    obtain ⟨qa_4,qr_4⟩ := row_atk hc m1 (tabR_getI he_5)
    refine zP hf rfl (pIA Tryz.underlying38 sz_31 rfl rfl (At.len qa_4 (by simp [tabR_len]))) fun a hf => zE hf hc rfl (eLdN (vs := [i6 e_5.Marks,.slice ((hsq x_4.toNat).1) e_5.Lines.length ((hsq x_4.toNat).2)]) ag_31 rfl rfl (cells_rw (sz := 2) (i := x_4.toNat) m1 qr_4 (n := 2) (o' := 0) rfl)) fun a w hf hc => zA hf hc zr_31 rfl fun b_11 a w hf hc => zW hf hc sz_31 u0 rfl fun w hc => zT h ?_
    refine zS fun K h => zP hf rfl (pFA fa_25_0 rfl) fun a hf => zL hf hc sc_3 m4 rfl fun a w hf hc => zP hf rfl (pFA fa_25_1 rfl) fun a hf => zL hf hc sc_3 m4 rfl fun a w hf hc => zP hf rfl (pBuildS (cells := [i6 r_1.1.Left,i6 r_1.1.Right,.slice none 0 0]) bt_41 rfl rfl) fun a hf => zA hf hc zr_41 rfl fun b_12 a w hf hc => zW hf hc sz_41 u0 rfl fun w hc => zT h ?_
    refine wp_seq_k fun K26 h26 => zS fun K h => zP hf rfl (pFA fa_25_2 rfl) fun a hf => zL hf hc sc_23 m5 rfl fun a w hf hc => zP hf rfl (pLenS Tryz.underlying23 rfl) fun a hf => sp 1 hf rfl fun a hf => zT h ?_
    refine wp_block ?_
    obtain ⟨x28,hx28,hF⟩ := bnd_some hF
    let S28 : (Int × (List gauge_Vertical)) → Act → World → Prop := (fun (zz : Int × (List gauge_Vertical)) a w => ∃ (p_13 : Option Addr) (c_13 : Nat) (p_14 : Option Addr) (c_14 : Nat) (p_15 : Option Addr) (c_15 : Nat),Has 218 a [(7,pq b_2),(17,.slice p_10 flows.length c_10),(19,pq b_11),(20,pq b_12),(98,.slice (some ⟨b_10,0,none⟩) 2 2),(99,i6 (2 : Int)),(100,i6 x_4),(110,.slice p_13 r_1.1.At.length c_13),(111,i6 ((r_1.1.At.length : Nat) : Int)),(112,i6 zz.1)] ∧ Ctx G (.row p_15 c_15 (zz.2.map enc_gauge_Vertical) 49 5::.box b_12 [i6 r_1.1.Left,i6 r_1.1.Right,.slice p_15 zz.2.length c_15] 41::.box b_11 [i6 e_5.Marks,.slice ((hsq x_4.toNat).1) e_5.Lines.length ((hsq x_4.toNat).2)] 31::.row p_10 c_10 (flows.map enc_api_Span) 43 2::.row (some ⟨b_10,0,none⟩) 2 ((tabR hsq ([(⟨((heights.length : Nat) : Int),x_3⟩ : level_Net),(⟨r_3.Marks,(r_3.Lines ++ [r_7.1])⟩ : level_Net)] : List level_Net)).map (Kd.v kd_31)) 31 2::tabI kd_31 (tabR hsq ([(⟨((heights.length : Nat) : Int),x_3⟩ : level_Net),(⟨r_3.Marks,(r_3.Lines ++ [r_7.1])⟩ : level_Net)] : List level_Net))::.box b_2 [i6 r_1.1.Left,i6 r_1.1.Right,.slice p_13 r_1.1.At.length c_13,.slice p_5 r_1.1.Depth.length c_5,.slice p_14 r_1.1.Speeds.length c_14] 25::.row p_13 c_13 (r_1.1.At.map encI_i64) 3 1::.row p_5 c_5 (r_1.1.Depth.map encI_i64) 3 1::.row p_14 c_14 (r_1.1.Speeds.map encI_i64) 3 1::Lf) w)
    have hr28 : ∀ (zz : Int × (List gauge_Vertical)) a w,x28 = .go zz → S28 zz a w → K26 a w := by
     rintro ⟨x_5,x_6⟩ a w rfl ⟨p_13,c_13,p_14,c_14,p_15,c_15,hf,hc⟩
     replace hF := exK_go hF
     refine h26 _ _ ?_
     refine wp_seq_k fun K29 h29 => cReg ?_
     refine zN hf hc ag_41 m1 rfl fun a w hf hc => ?_
     obtain ⟨r_9,hr_9,hF⟩ := bnd_some hF
     refine zQ (v := .tuple #[.agg #[i6 r_9.1.Lo,i6 r_9.1.Hi],i6 r_9.2]) hf hc en_11 rfl (fun w hc => by obtain ⟨G1,hle1,hrd1,hc,hth1⟩ := lend hc k0; exact (gauge_Flow_ok (⟨r_1.1.Left,r_1.1.Right,x_6⟩ : gauge_Gauging) hrd1 hc hr_9).mono fun e w h => ⟨h.1,((hth1 _ _ h.2).unpick k0)⟩) fun a w hf hc => sp 3 hf rfl fun a hf => zA hf hc zr_43 rfl fun b_13 a w hf hc => zW hf hc sz_43 u0 rfl fun w hc => sp 1 hf rfl fun a hf => cNil ?_
     replace hc := hc.drop k3
     refine h29 _ _ ?_
     refine wp_seq_k fun K30 h30 => cReg ?_
     refine zN hf hc ag_41 m2 rfl fun a w hf hc => zP hf rfl (pFA fa_25_3 rfl) fun a hf => zL hf hc sc_23 m6 rfl fun a w hf hc => zP hf rfl (pFA fa_25_4 rfl) fun a hf => zL hf hc sc_23 m6 rfl fun a w hf hc => ?_
     obtain ⟨r_10,hr_10,hF⟩ := bnd_some hF
     refine zQ (v := .tuple #[i6 r_10.1,i6 r_10.2]) hf hc en_12 rfl (fun w hc => by obtain ⟨G1,hle1,hrd1,hc,hth1⟩ := lend hc k1; obtain ⟨G2,hle2,hrd2,hc,hth2⟩ := lend hc k7; obtain ⟨G3,hle3,hrd3,hc,hth3⟩ := lend hc k7; exact (gauge_Real_ok (⟨r_1.1.Left,r_1.1.Right,x_6⟩ : gauge_Gauging) r_1.1.Depth r_1.1.Speeds ((hrd1.mono hle2).mono hle3) (hrd2.mono hle3) hrd3 hc hr_10).mono fun e w h => ⟨h.1,((hth1 _ _ ((hth2 _ _ ((hth3 _ _ h.2).unpick k7)).unpick k7)).unpick k1)⟩) fun a w hf hc => sp 5 hf rfl fun a hf => cNil ?_
     replace hc := (hc.drop k2).drop k1
     refine h30 _ _ ?_
     refine wp_seq_k fun K31 h31 => zS fun K h => sp 3 hf rfl fun a hf => stCc 3 (fun a => Has 218 a [(7,pq b_2),(17,.slice p_10 flows.length c_10),(98,.slice (some ⟨b_10,0,none⟩) 2 2),(99,i6 (2 : Int)),(100,i6 x_4),(25,pq b_13),(26,i6 r_9.2),(27,i6 r_10.1),(28,i6 r_10.2),(172,i6 r_9.2),(173,.bool (r_9.2 != 0)),(174,.bool (r_9.2 != 0)),(177,.bool ((r_9.2 != 0) || (r_10.2 != 0)))]) hc ?_ ?_
     ·cases hb : (r_9.2 != 0)
      ·rw [hb] at hf
       refine sp 3 hf rfl fun a hf => cNil ⟨hf.kp rfl,hc⟩
      ·rw [hb] at hf
       refine stS hf rfl rfl rfl fun a hf => stS hf rfl rfl rfl fun a hf => sp 1 hf rfl fun a hf => cNil ⟨hf.kp rfl,hc⟩
     intro a w ⟨hf,hc⟩
     refine sp 1 hf rfl fun a hf => stCc 5 (fun a => Has 218 a [(7,pq b_2),(17,.slice p_10 flows.length c_10),(98,.slice (some ⟨b_10,0,none⟩) 2 2),(99,i6 (2 : Int)),(100,i6 x_4),(25,pq b_13),(26,i6 r_9.2),(27,i6 r_10.1),(28,i6 r_10.2),(172,i6 r_9.2),(173,.bool (r_9.2 != 0)),(174,.bool (r_9.2 != 0)),(177,.bool ((r_9.2 != 0) || (r_10.2 != 0))),(178,.bool ((r_9.2 != 0) || (r_10.2 != 0))),(183,.bool (((r_9.2 != 0) || (r_10.2 != 0)) || (decide (r_10.1 < r_9.1.Lo))))]) hc ?_ ?_
     ·cases hb : ((r_9.2 != 0) || (r_10.2 != 0))
      ·rw [hb] at hf
       refine sp 1 hf rfl fun a hf => zP hf rfl (pFA fa_43_0 rfl) fun a hf => zL hf hc sc_3 m0 rfl fun a w hf hc => sp 2 hf rfl fun a hf => cNil ⟨hf.kp rfl,hc⟩
      ·rw [hb] at hf
       refine stS hf rfl rfl rfl fun a hf => stS hf rfl rfl rfl fun a hf => stS hf rfl rfl rfl fun a hf => stS hf rfl rfl rfl fun a hf => sp 1 hf rfl fun a hf => cNil ⟨hf.kp rfl,hc⟩
     intro a w ⟨hf,hc⟩
     refine sp 1 hf rfl fun a hf => stCc 5 (fun a => Has 218 a [(7,pq b_2),(17,.slice p_10 flows.length c_10),(98,.slice (some ⟨b_10,0,none⟩) 2 2),(99,i6 (2 : Int)),(100,i6 x_4),(25,pq b_13),(26,i6 r_9.2),(27,i6 r_10.1),(28,i6 r_10.2),(172,i6 r_9.2),(173,.bool (r_9.2 != 0)),(174,.bool (r_9.2 != 0)),(177,.bool ((r_9.2 != 0) || (r_10.2 != 0))),(178,.bool ((r_9.2 != 0) || (r_10.2 != 0))),(183,.bool (((r_9.2 != 0) || (r_10.2 != 0)) || (decide (r_10.1 < r_9.1.Lo)))),(184,.bool (((r_9.2 != 0) || (r_10.2 != 0)) || (decide (r_10.1 < r_9.1.Lo)))),(189,.bool ((((r_9.2 != 0) || (r_10.2 != 0)) || (decide (r_10.1 < r_9.1.Lo))) || (decide (r_9.1.Hi < r_10.1))))]) hc ?_ ?_
     ·cases hb : (((r_9.2 != 0) || (r_10.2 != 0)) || (decide (r_10.1 < r_9.1.Lo)))
      ·rw [hb] at hf
       refine sp 1 hf rfl fun a hf => zP hf rfl (pFA fa_43_1 rfl) fun a hf => zL hf hc sc_3 m0 rfl fun a w hf hc => sp 2 hf rfl fun a hf => cNil ⟨hf.kp rfl,hc⟩
      ·rw [hb] at hf
       refine stS hf rfl rfl rfl fun a hf => stS hf rfl rfl rfl fun a hf => stS hf rfl rfl rfl fun a hf => stS hf rfl rfl rfl fun a hf => sp 1 hf rfl fun a hf => cNil ⟨hf.kp rfl,hc⟩
     intro a w ⟨hf,hc⟩
     refine zT h ?_
     refine zI hf rfl hF ?_ ?_ <;> clear hF <;> intro hF
     ·refine zS fun K h => sp 1 hf rfl fun a hf => zT h ?_
      refine wp_ret ?_
      refine xThenR ?_
      refine xBlkR ?_
      refine xThenR ?_
      refine xThenR ?_
      have he := sj hF
      rw [← he] at hfin19
      replace hF := ho19 _ hfin19
      refine xBlkR ?_
      refine xThenR ?_
      obtain rfl := hF
      replace hc := (((((((hc.drop k7).drop k6).drop k5).drop k4).drop k3).drop k2).drop k1).drop k0
      exact zO1 Tryz.results3 hf rfl ⟨rfl,hc⟩
     ·refine wp_skip ?_
      refine h31 _ _ ?_
      refine cReg ?_
      refine sp 1 hf rfl fun a hf => zN hf hc ag_43 m0 rfl fun a w hf hc => stBS (rows := ([r_9.1] : List api_Span).map enc_api_Span) (vs := [(0,.agg #[i6 r_9.1.Lo,i6 r_9.1.Hi])]) hf hc rfl rfl sl_37 rfl ⟨rfl,rfl,rfl,trivial⟩ rfl rfl fun b_14 a w hf hc => ?_
      obtain ⟨un_2,hun_2,hF⟩ := bnd_some hF
      refine stApm (xs := flows) (ys := ([r_9.1] : List api_Span)) hf hc rfl rfl sl_37 rfl rfl rfl rfl rfl one_enc_api_Span (src_row hc m0) (fun _ _ => u2) (by simpa using room_spec hun_2) fun p_16 c_16 a w hf hc => sp 1 hf rfl fun a hf => cNil ?_
      replace hc := (hc.drop k1).drop k0
      refine h23 _ _ ?_
      refine cReg ?_
      refine sp 2 hf rfl fun a hf => cNil ?_
      exact hK19 ((flows ++ [r_9.1]),W (x_4 + 1)) _ _ (sj hF).symm ⟨p_16,c_16,p_13,c_13,p_14,c_14,hf.kp rfl,hc⟩
    have ho28 : ∀ r,x28 = .out r → r = st19 := by
     rintro r rfl
     exact sj hF
    replace hc := hc.nilRow 49 5
    refine cLoop N (loopW (S := S28) (x := x28) ?_ N (0,([] : List gauge_Vertical)) _ _ ⟨p_11,c_11,p_12,c_12,none,0,hf.kp rfl,hc⟩ hx28)
    clear hF hf hc
    rintro ⟨x_5,x_6⟩ st28 a w KB28 ⟨p_13,c_13,p_14,c_14,p_15,c_15,hf,hc⟩ hF hfin28 hK28
    unfold law03_GaugeLevelled_b28 at hF
    refine zS fun K h => sp 1 hf rfl fun a hf => zT h ?_
    refine wp_seq_k fun K35 h35 => zI hf rfl hF ?_ ?_ <;> clear hF <;> intro hF
    ·refine wp_skip ?_
     refine h35 _ _ ?_
     refine wp_seq_k fun K36 h36 => wp_block ?_
     refine zS fun K h => sp 1 hf rfl fun a hf => ?_
     obtain ⟨e_6,he_6,hF⟩ := bnd_some hF
     obtain ⟨g_1,rfl,qa_5,qr_5⟩ := row_atm hc m7 he_6
     refine zP hf rfl (pIA Tryz.underlying23 sz_3 rfl rfl qa_5) fun a hf => zE hf hc rfl (eLd1 sc_3 rfl (cell_row (sz := 1) (i := x_5.toNat) (j := 0) m7 qr_5 rfl)) fun a w hf hc => sp 2 hf rfl fun a hf => zT h ?_
     refine zS fun K h => zN hf hc ag_31 m2 rfl fun a w hf hc => sp 2 hf rfl fun a hf => ?_
     obtain ⟨r_11,hr_11,hF⟩ := bnd_some hF
     refine zQ (v := .tuple #[.agg #[i6 r_11.1.Lo,i6 r_11.1.Hi],i6 r_11.2]) hf hc en_9 rfl (fun w hc => by obtain ⟨G1,hle1,hrd1,hc,hth1⟩ := lendI kdo_31 hc k5; exact (level_Between_ok e_5 (W (x_5 + 1)) 0 (hrd1 _ _ he_5) hc hr_11).mono fun e w h => ⟨h.1,((hth1 _ _ h.2).unpick k5)⟩) fun a w hf hc => sp 3 hf rfl fun a hf => zA hf hc zr_43 rfl fun b_15 a w hf hc => zW hf hc sz_43 u0 rfl fun w hc => sp 1 hf rfl fun a hf => zT h ?_
     refine wp_seq_k fun K39 h39 => zS fun K h => sp 3 hf rfl fun a hf => stCc 6 (fun a => Has 218 a [(7,pq b_2),(17,.slice p_10 flows.length c_10),(19,pq b_11),(20,pq b_12),(98,.slice (some ⟨b_10,0,none⟩) 2 2),(99,i6 (2 : Int)),(100,i6 x_4),(110,.slice (some ⟨g_1,0,none⟩) r_1.1.At.length c_13),(111,i6 ((r_1.1.At.length : Nat) : Int)),(112,i6 x_5),(21,i6 x_5),(22,i6 e_6),(23,pq b_15),(24,i6 r_11.2),(124,i6 r_11.2),(125,.bool (r_11.2 != 0)),(126,.bool (r_11.2 != 0)),(132,.bool ((r_11.2 != 0) || (decide (r_11.1.Hi < r_11.1.Lo))))]) hc ?_ ?_
     ·cases hb : (r_11.2 != 0)
      ·rw [hb] at hf
       refine zP hf rfl (pFA fa_43_0 rfl) fun a hf => zL hf hc sc_3 m0 rfl fun a w hf hc => zP hf rfl (pFA fa_43_1 rfl) fun a hf => zL hf hc sc_3 m0 rfl fun a w hf hc => sp 2 hf rfl fun a hf => cNil ⟨hf.kp rfl,hc⟩
      ·rw [hb] at hf
       refine stS hf rfl rfl rfl fun a hf => stS hf rfl rfl rfl fun a hf => stS hf rfl rfl rfl fun a hf => stS hf rfl rfl rfl fun a hf => stS hf rfl rfl rfl fun a hf => sp 1 hf rfl fun a hf => cNil ⟨hf.kp rfl,hc⟩
     intro a w ⟨hf,hc⟩
     refine zT h ?_
     refine zI hf rfl hF ?_ ?_ <;> clear hF <;> intro hF
     ·refine wp_seq_k fun K41 h41 => cReg ?_
      refine sp 1 hf rfl fun a hf => cNil ?_
      replace hc := ((((((((((hc.drop k10).drop k9).drop k8).drop k7).drop k6).drop k5).drop k4).drop k3).drop k2).drop k1).drop k0
      refine h41 _ _ ?_
      refine wp_ret ?_
      refine xThenR ?_
      refine xBlkR ?_
      refine xThenR ?_
      refine xThenR ?_
      have he := sj hF
      rw [← he] at hfin28
      replace hF := ho28 _ hfin28
      refine xBlkR ?_
      refine xThenR ?_
      refine xBlkR ?_
      refine xThenR ?_
      refine xThenR ?_
      have he := hF
      rw [← he] at hfin19
      replace hF := ho19 _ hfin19
      refine xBlkR ?_
      refine xThenR ?_
      obtain rfl := hF
      exact zO1 Tryz.results3 hf rfl ⟨rfl,hc⟩
     ·refine wp_skip ?_
      refine h39 _ _ ?_
      obtain ⟨r_12,hr_12,hF⟩ := bnd_some hF
      obtain ⟨e_7,he_7,hF⟩ := bnd_some hF
      obtain ⟨g_2,rfl,qa_6,qr_6⟩ := row_atm hc m10 he_7
      obtain ⟨e_8,he_8,hF⟩ := bnd_some hF
      obtain ⟨qa_7,qr_7⟩ := row_atk hc m10 he_8
      obtain ⟨r_13,hr_13,hF⟩ := bnd_some hF
      obtain ⟨un_3,hun_3,hF⟩ := bnd_some hF
      replace hc := hc.nilRow 0 0
      refine regionE (fun θ => (⟨none,none,7,pq b_2⟩::⟨none,none,17,.slice p_10 flows.length c_10⟩::⟨none,none,19,pq b_11⟩::⟨none,none,20,pq b_12⟩::⟨none,none,21,i6 x_5⟩::⟨none,none,22,i6 e_6⟩::⟨none,none,23,pq b_15⟩::⟨none,none,98,.slice (some ⟨b_10,0,none⟩) 2 2⟩::⟨none,none,99,i6 (2 : Int)⟩::⟨none,none,100,i6 x_4⟩::⟨none,none,110,.slice (some ⟨g_1,0,none⟩) r_1.1.At.length c_13⟩::⟨none,none,111,i6 ((r_1.1.At.length : Nat) : Int)⟩::⟨none,none,112,i6 x_5⟩::⟨some 0,none,133,.pointer (some ⟨b_12,2,none⟩)⟩::⟨some 1,none,134,.slice p_15 x_6.length c_15⟩::⟨some 2,none,135,i6 e_6⟩::⟨some 3,none,136,pq b_15⟩::⟨some 4,none,137,i6 r_11.1.Lo⟩::⟨some 5,none,138,i6 (max 0 r_11.1.Lo)⟩::⟨some 6,none,139,.pointer (some ⟨b_15,1,none⟩)⟩::⟨some 7,none,140,i6 r_11.1.Hi⟩::⟨some 8,none,141,.agg #[i6 r_12.Lo,i6 r_12.Hi]⟩::⟨some 9,none,142,.pointer (some ⟨b_2,4,none⟩)⟩::⟨some 10,none,143,.slice (some ⟨g_2,0,none⟩) r_1.1.Speeds.length c_14⟩::⟨some 11,none,144,i6 x_5⟩::⟨some 12,none,145,.pointer (some ⟨g_2,x_5.toNat * 1,none⟩)⟩::⟨some 13,none,146,i6 e_7⟩::⟨some 14,none,147,.pointer (some ⟨b_2,4,none⟩)⟩::⟨some 15,none,148,.slice (some ⟨g_2,0,none⟩) r_1.1.Speeds.length c_14⟩::⟨some 16,none,149,i6 x_5⟩::⟨some 17,none,150,.pointer (some ⟨g_2,x_5.toNat * 1,none⟩)⟩::⟨some 18,none,151,i6 e_8⟩::⟨some 19,none,152,.agg #[i6 r_13.Lo,i6 r_13.Hi]⟩::⟨some 20,none,153,.agg #[i6 e_6,i6 r_12.Lo,i6 r_12.Hi,i6 r_13.Lo,i6 r_13.Hi]⟩::⟨some 21,none,154,.slice (some ⟨(θ 168).b,0,none⟩) 1 1⟩::⟨some 22,none,155,.slice ((θ 176).p) ((x_6 ++ [(⟨e_6,r_12,r_13⟩ : gauge_Vertical)]).length) ((θ 176).c)⟩::⟨some 23,none,156,.pointer (some ⟨b_12,2,none⟩)⟩::[])) (fun E θ => (bif E 21 then .row (some ⟨(θ 168).b,0,none⟩) 1 (([(⟨e_6,r_12,r_13⟩ : gauge_Vertical)] : List gauge_Vertical).map enc_gauge_Vertical) 49 5 else .row none 0 [] 0 0)::.box b_15 [i6 r_11.1.Lo,i6 r_11.1.Hi] 43::(bif E 22 then .row ((θ 176).p) ((θ 176).c) ((x_6 ++ [(⟨e_6,r_12,r_13⟩ : gauge_Vertical)]).map enc_gauge_Vertical) 49 5 else .row p_15 c_15 (x_6.map enc_gauge_Vertical) 49 5)::(bif E 24 then .box b_12 [i6 r_1.1.Left,i6 r_1.1.Right,.slice ((θ 176).p) ((x_6 ++ [(⟨e_6,r_12,r_13⟩ : gauge_Vertical)]).length) ((θ 176).c)] 41 else .box b_12 [i6 r_1.1.Left,i6 r_1.1.Right,.slice p_15 x_6.length c_15] 41)::.box b_11 [i6 e_5.Marks,.slice ((hsq x_4.toNat).1) e_5.Lines.length ((hsq x_4.toNat).2)] 31::.row p_10 c_10 (flows.map enc_api_Span) 43 2::.row (some ⟨b_10,0,none⟩) 2 ((tabR hsq ([(⟨((heights.length : Nat) : Int),x_3⟩ : level_Net),(⟨r_3.Marks,(r_3.Lines ++ [r_7.1])⟩ : level_Net)] : List level_Net)).map (Kd.v kd_31)) 31 2::tabI kd_31 (tabR hsq ([(⟨((heights.length : Nat) : Int),x_3⟩ : level_Net),(⟨r_3.Marks,(r_3.Lines ++ [r_7.1])⟩ : level_Net)] : List level_Net))::.box b_2 [i6 r_1.1.Left,i6 r_1.1.Right,.slice (some ⟨g_1,0,none⟩) r_1.1.At.length c_13,.slice p_5 r_1.1.Depth.length c_5,.slice (some ⟨g_2,0,none⟩) r_1.1.Speeds.length c_14] 25::.row (some ⟨g_1,0,none⟩) c_13 (r_1.1.At.map encI_i64) 3 1::.row p_5 c_5 (r_1.1.Depth.map encI_i64) 3 1::.row (some ⟨g_2,0,none⟩) c_14 (r_1.1.Speeds.map encI_i64) 3 1::Lf) [(24,1),(24,22)] (fun a w => ∃ (b_17 : Nat) (p_18 : Option Addr) (c_18 : Nat),Has 218 a [(7,pq b_2),(17,.slice p_10 flows.length c_10),(19,pq b_11),(20,pq b_12),(98,.slice (some ⟨b_10,0,none⟩) 2 2),(99,i6 (2 : Int)),(100,i6 x_4),(110,.slice (some ⟨g_1,0,none⟩) r_1.1.At.length c_13),(111,i6 ((r_1.1.At.length : Nat) : Int)),(112,i6 x_5)] ∧ Ctx G (.row (some ⟨b_17,0,none⟩) 1 (([(⟨e_6,r_12,r_13⟩ : gauge_Vertical)] : List gauge_Vertical).map enc_gauge_Vertical) 49 5::.box b_15 [i6 r_11.1.Lo,i6 r_11.1.Hi] 43::.row p_18 c_18 ((x_6 ++ [(⟨e_6,r_12,r_13⟩ : gauge_Vertical)]).map enc_gauge_Vertical) 49 5::.box b_12 [i6 r_1.1.Left,i6 r_1.1.Right,.slice p_18 ((x_6 ++ [(⟨e_6,r_12,r_13⟩ : gauge_Vertical)]).length) c_18] 41::.box b_11 [i6 e_5.Marks,.slice ((hsq x_4.toNat).1) e_5.Lines.length ((hsq x_4.toNat).2)] 31::.row p_10 c_10 (flows.map enc_api_Span) 43 2::.row (some ⟨b_10,0,none⟩) 2 ((tabR hsq ([(⟨((heights.length : Nat) : Int),x_3⟩ : level_Net),(⟨r_3.Marks,(r_3.Lines ++ [r_7.1])⟩ : level_Net)] : List level_Net)).map (Kd.v kd_31)) 31 2::tabI kd_31 (tabR hsq ([(⟨((heights.length : Nat) : Int),x_3⟩ : level_Net),(⟨r_3.Marks,(r_3.Lines ++ [r_7.1])⟩ : level_Net)] : List level_Net))::.box b_2 [i6 r_1.1.Left,i6 r_1.1.Right,.slice (some ⟨g_1,0,none⟩) r_1.1.At.length c_13,.slice p_5 r_1.1.Depth.length c_5,.slice (some ⟨g_2,0,none⟩) r_1.1.Speeds.length c_14] 25::.row (some ⟨g_1,0,none⟩) c_13 (r_1.1.At.map encI_i64) 3 1::.row p_5 c_5 (r_1.1.Depth.map encI_i64) 3 1::.row (some ⟨g_2,0,none⟩) c_14 (r_1.1.Speeds.map encI_i64) 3 1::Lf) w) follows_mx (by kernel_rfl) (by kernel_rfl) (HasE.of hf ⟨rfl,rfl,rfl,rfl,rfl,rfl,rfl,rfl,rfl,rfl,rfl,rfl,rfl,trivial,trivial,trivial,trivial,trivial,trivial,trivial,trivial,trivial,trivial,trivial,trivial,trivial,trivial,trivial,trivial,trivial,trivial,trivial,trivial,trivial,trivial,trivial,trivial,trivial⟩) hc ⟨?_,?_,?_,?_,?_,?_,?_,?_,?_,?_,?_,?_,?_,?_,?_,?_,?_,?_,?_,?_,?_,?_,?_,?_,?_,trivial⟩ ?_ ?_
      ·intro E θ a w hD hi hp he hc
       have hf := he.h0.mT he 3 rfl
       refine zP hf rfl (pFA fa_41_2 rfl) fun a hf => zD θ he hi hf 13 rfl rfl rfl hc
      ·intro E θ a w hD hi hp he hc
       have e0 := hp.o 0 rfl
       have e24 := hD.f 0 rfl hi
       try dsimp only at hc
       rw [e24] at hc
       have hf := he.h0.mP he 13 rfl e0
       refine zL hf hc sc_39 m3 rfl fun a w hf hc => zD θ he hi hf 14 rfl rfl rfl ?_
       try dsimp only
       rw [updE_fls 1 e24 rfl]
       exact hc
      ·intro E θ a w hD hi hp he hc
       have hf := he.h0.mT he 5 rfl
       refine sp 1 hf rfl fun a hf => zD θ he hi hf 15 rfl rfl rfl hc
      ·intro E θ a w hD hi hp he hc
       have hf := he.h0.mT he 6 rfl
       refine zP hf rfl (pFA fa_43_0 rfl) fun a hf => zD θ he hi hf 16 rfl rfl rfl hc
      ·intro E θ a w hD hi hp he hc
       have e3 := hp.o 3 rfl
       have hf := he.h0.mP he 16 rfl e3
       refine zL hf hc sc_3 m1 rfl fun a w hf hc => zD θ he hi hf 17 rfl rfl rfl hc
      ·intro E θ a w hD hi hp he hc
       have e4 := hp.o 4 rfl
       have hf := he.h0.mP he 17 rfl e4
       refine zP hf rfl (pMax2 rfl rfl) fun a hf => zD θ he hi hf 18 rfl rfl rfl hc
      ·intro E θ a w hD hi hp he hc
       have hf := he.h0.mT he 6 rfl
       refine zP hf rfl (pFA fa_43_1 rfl) fun a hf => zD θ he hi hf 19 rfl rfl rfl hc
      ·intro E θ a w hD hi hp he hc
       have e6 := hp.o 6 rfl
       have hf := he.h0.mP he 19 rfl e6
       refine zL hf hc sc_3 m1 rfl fun a w hf hc => zD θ he hi hf 20 rfl rfl rfl hc
      ·intro E θ a w hD hi hp he hc
       have e5 := hp.o 5 rfl
       have e7 := hp.o 7 rfl
       have hf := (he.h0.mP he 18 rfl e5).mP he 20 rfl e7
       refine zQ (v := .agg #[i6 r_12.Lo,i6 r_12.Hi]) hf hc en_10 rfl (fun w hc => law03_span_ok (max 0 r_11.1.Lo) r_11.1.Hi hc hr_12) fun a w hf hc => zD θ he hi hf 21 rfl rfl rfl hc
      ·intro E θ a w hD hi hp he hc
       have hf := he.h0.mT he 0 rfl
       refine zP hf rfl (pFA fa_25_4 rfl) fun a hf => zD θ he hi hf 22 rfl rfl rfl hc
      ·intro E θ a w hD hi hp he hc
       have e9 := hp.o 9 rfl
       have hf := he.h0.mP he 22 rfl e9
       refine zL hf hc sc_23 m8 rfl fun a w hf hc => zD θ he hi hf 23 rfl rfl rfl hc
      ·intro E θ a w hD hi hp he hc
       have hf := he.h0.mT he 4 rfl
       refine sp 1 hf rfl fun a hf => zD θ he hi hf 24 rfl rfl rfl hc
      ·intro E θ a w hD hi hp he hc
       have e10 := hp.o 10 rfl
       have e11 := hp.o 11 rfl
       have hf := (he.h0.mP he 23 rfl e10).mP he 24 rfl e11
       refine zP hf rfl (pIA Tryz.underlying23 sz_3 rfl rfl qa_6) fun a hf => zD θ he hi hf 25 rfl rfl rfl hc
      ·intro E θ a w hD hi hp he hc
       have e12 := hp.o 12 rfl
       have hf := he.h0.mP he 25 rfl e12
       refine zE hf hc rfl (eLd1 sc_3 rfl (cell_row (sz := 1) (i := x_5.toNat) (j := 0) m11 qr_6 rfl)) fun a w hf hc => zD θ he hi hf 26 rfl rfl rfl hc
      ·intro E θ a w hD hi hp he hc
       have hf := he.h0.mT he 0 rfl
       refine zP hf rfl (pFA fa_25_4 rfl) fun a hf => zD θ he hi hf 27 rfl rfl rfl hc
      ·intro E θ a w hD hi hp he hc
       have e14 := hp.o 14 rfl
       have hf := he.h0.mP he 27 rfl e14
       refine zL hf hc sc_23 m8 rfl fun a w hf hc => zD θ he hi hf 28 rfl rfl rfl hc
      ·intro E θ a w hD hi hp he hc
       have hf := he.h0.mT he 4 rfl
       refine sp 1 hf rfl fun a hf => zD θ he hi hf 29 rfl rfl rfl hc
      ·intro E θ a w hD hi hp he hc
       have e15 := hp.o 15 rfl
       have e16 := hp.o 16 rfl
       have hf := (he.h0.mP he 28 rfl e15).mP he 29 rfl e16
       refine zP hf rfl (pIA Tryz.underlying23 sz_3 rfl rfl qa_7) fun a hf => zD θ he hi hf 30 rfl rfl rfl hc
      ·intro E θ a w hD hi hp he hc
       have e17 := hp.o 17 rfl
       have hf := he.h0.mP he 30 rfl e17
       refine zE hf hc rfl (eLd1 sc_3 rfl (cell_row (sz := 1) (i := x_5.toNat) (j := 0) m11 qr_7 rfl)) fun a w hf hc => zD θ he hi hf 31 rfl rfl rfl hc
      ·intro E θ a w hD hi hp he hc
       have e13 := hp.o 13 rfl
       have e18 := hp.o 18 rfl
       have hf := (he.h0.mP he 26 rfl e13).mP he 31 rfl e18
       refine zQ (v := .agg #[i6 r_13.Lo,i6 r_13.Hi]) hf hc en_10 rfl (fun w hc => law03_span_ok e_7 e_8 hc hr_13) fun a w hf hc => zD θ he hi hf 32 rfl rfl rfl hc
      ·intro E θ a w hD hi hp he hc
       have e2 := hp.o 2 rfl
       have e8 := hp.o 8 rfl
       have e19 := hp.o 19 rfl
       have hf := ((he.h0.mP he 15 rfl e2).mP he 21 rfl e8).mP he 32 rfl e19
       refine zP hf rfl (pBuildS (cells := [i6 e_6,i6 r_12.Lo,i6 r_12.Hi,i6 r_13.Lo,i6 r_13.Hi]) bt_49 rfl rfl) fun a hf => zD θ he hi hf 33 rfl rfl rfl hc
      ·intro E θ a w hD hi hp he hc
       have e20 := hp.o 20 rfl
       try dsimp only at hc
       rw [hi] at hc
       have hf := he.h0.mP he 33 rfl e20
       refine stBS (rows := ([(⟨e_6,r_12,r_13⟩ : gauge_Vertical)] : List gauge_Vertical).map enc_gauge_Vertical) (vs := [(0,.agg #[i6 e_6,i6 r_12.Lo,i6 r_12.Hi,i6 r_13.Lo,i6 r_13.Hi])]) hf hc rfl rfl sl_39 rfl ⟨rfl,rfl,rfl,trivial⟩ rfl rfl fun b_16 a w hf hc => cNil ?_
       refine xThenN ?_
       intro ds u hau
       replace hc := hc.drop k1
       refine ⟨(setT θ 168 ⟨b_16,none,0,(fun _ => (none,0))⟩),he.put hi hau hf rfl [] trivial ⟨qq,qq,qq,qq,qq,qq,qq,qq,qq,qq,qq,qq,qq,qq,qq,qq,qq,qq,qq,qq,qq,qq,qq,qq,qq,qq,qq,qq,qq,qq,qq,qq,qq,qq,qq,qq,qq,trivial⟩,?_⟩
       try dsimp only
       rw [updE_self E 21]
       exact hc
      ·intro E θ a w hD hi hp he hc
       have e1 := hp.o 1 rfl
       have e21 := hp.o 21 rfl
       have e24 := hD.f 1 rfl hi
       try dsimp only at hc
       rw [e21,hi,e24] at hc
       have hf := (he.h0.mP he 14 rfl e1).mP he 34 rfl e21
       refine stApm (xs := x_6) (ys := ([(⟨e_6,r_12,r_13⟩ : gauge_Vertical)] : List gauge_Vertical)) hf hc rfl rfl sl_39 rfl rfl rfl rfl rfl one_enc_gauge_Vertical (src_row hc m0) (fun _ _ => u2) (by simpa using room_spec hun_3) fun p_17 c_17 a w hf hc => cNil ?_
       refine xThenN ?_
       intro ds u hau
       refine ⟨(setT θ 176 ⟨0,p_17,c_17,(fun _ => (none,0))⟩),he.put hi hau hf rfl [] trivial ⟨qq,qq,qq,qq,qq,qq,qq,qq,qq,qq,qq,qq,qq,qq,qq,qq,qq,qq,qq,qq,qq,qq,qq,qq,qq,qq,qq,qq,qq,qq,qq,qq,qq,qq,qq,qq,qq,trivial⟩,?_⟩
       try dsimp only
       rw [updE_tru 22 e21,updE_self E 22,updE_fls 22 e24 rfl]
       exact hc
      ·intro E θ a w hD hi hp he hc
       have hf := he.h0.mT he 3 rfl
       refine zP hf rfl (pFA fa_41_2 rfl) fun a hf => zD θ he hi hf 36 rfl rfl rfl hc
      ·intro E θ a w hD hi hp he hc
       have e22 := hp.o 22 rfl
       have e23 := hp.o 23 rfl
       try dsimp only at hc
       rw [hi] at hc
       have hf := (he.h0.mP he 35 rfl e22).mP he 36 rfl e23
       refine zW hf hc sz_39 u3 rfl fun w hc => zG θ he hi hf rfl ?_
       try dsimp only
       rw [updE_self E 24]
       exact hc
      ·intro E θ a w hall he hc
       have hf := he.h0
       have e21 := hall 21 rfl
       have e22 := hall 22 rfl
       have e24 := hall 24 rfl
       replace hf := hf.more he 12 rfl (onT)
       replace hf := hf.more he 11 rfl (onT)
       replace hf := hf.more he 10 rfl (onT)
       replace hf := hf.more he 9 rfl (onT)
       replace hf := hf.more he 8 rfl (onT)
       replace hf := hf.more he 7 rfl (onT)
       replace hf := hf.more he 3 rfl (onT)
       replace hf := hf.more he 2 rfl (onT)
       replace hf := hf.more he 1 rfl (onT)
       replace hf := hf.more he 0 rfl (onT)
       try dsimp only at hc
       rw [e21,e22,e24] at hc
       exact ⟨(θ 168).b,(θ 176).p,(θ 176).c,hf.kp rfl,hc⟩
      rintro a w ⟨b_17,p_18,c_18,hf,hc⟩
      replace hc := (hc.drop k1).drop k0
      refine h36 _ _ ?_
      refine cReg ?_
      refine sp 2 hf rfl fun a hf => cNil ?_
      exact hK28 (W (x_5 + 1),(x_6 ++ [(⟨e_6,r_12,r_13⟩ : gauge_Vertical)])) _ _ (sj hF).symm ⟨(some ⟨g_1,0,none⟩),c_13,(some ⟨g_2,0,none⟩),c_14,p_18,c_18,hf.kp rfl,hc⟩
    ·refine wp_exit ?_
     refine xThen ?_
     refine xThen ?_
     have he := sj hF
     rw [← he] at hfin28
     refine cHit ?_
     exact hr28 _ _ _ hfin28 ⟨p_13,c_13,p_14,c_14,p_15,c_15,hf.kp rfl,hc⟩
   ·refine wp_exit ?_
    refine xThen ?_
    refine xThen ?_
    have he := sj hF
    rw [← he] at hfin19
    refine cHit ?_
    exact hr19 _ _ _ hfin19 ⟨p_10,c_10,p_11,c_11,p_12,c_12,hf.kp rfl,hc⟩
  have ho11 : ∀ r,x11 = .out r → r = res := by
   rintro r rfl
   exact sj hF
  replace hc := hc.nilRow 33 5
  refine cLoop N (loopW (S := S11) (x := x11) ?_ N (1,r_2.1,r_2.2,([] : List level_Line)) _ _ ⟨none,0,hf.kp rfl,hc⟩ hx11)
  clear hF hf hc
  rintro ⟨i_1,x_1,x_2,x_3⟩ st11 a w KB11 ⟨p_6,c_6,hf,hc⟩ hF hfin11 hK11
  unfold law03_GaugeLevelled_b11 at hF
  refine wp_seq_k fun K42 h42 => zS fun K h => sp 1 hf rfl fun a hf => zP hf rfl (pFA fa_31_0 rfl) fun a hf => zL hf hc sc_3 m1 rfl fun a w hf hc => sp 1 hf rfl fun a hf => zT h ?_
  refine zI hf rfl hF ?_ ?_ <;> clear hF <;> intro hF
  ·refine wp_skip ?_
   refine h42 _ _ ?_
   refine wp_seq_k fun K44 h44 => wp_block ?_
   obtain ⟨r_14,hr_14,hF⟩ := bnd_some hF
   obtain ⟨un_4,hun_4,hF⟩ := bnd_some hF
   replace hc := hc.nilRow 0 0
   refine regionE (fun θ => [⟨none,none,2,.slice more_p more.length more_c⟩,⟨none,none,7,pq b_2⟩,⟨none,none,8,pq b_3⟩,⟨none,none,9,.slice p_4 heights.length c_4⟩,⟨none,none,12,pq b_5⟩,⟨none,none,13,i6 i_1⟩,⟨some 0,none,57,.pointer (some ⟨b_5,1,none⟩)⟩,⟨some 1,none,58,.slice p_6 x_3.length c_6⟩,⟨some 2,none,59,pq b_3⟩,⟨some 3,none,60,.slice p_4 heights.length c_4⟩,⟨some 4,none,61,i6 i_1⟩,⟨some 5,none,62,i6 (W (i_1 - 1))⟩,⟨some 6,none,63,i6 i_1⟩,⟨some 7,none,64,.agg #[i6 r_14.1.From,i6 r_14.1.To,i6 r_14.1.Day,i6 r_14.1.Rise,i6 r_14.1.Error]⟩,⟨some 8,none,65,.slice (some ⟨(θ 64).b,0,none⟩) 1 1⟩,⟨some 9,none,66,.slice ((θ 72).p) ((x_3 ++ [r_14.1]).length) ((θ 72).c)⟩,⟨some 10,none,67,.pointer (some ⟨b_5,1,none⟩)⟩]) (fun E θ => (bif E 8 then .row (some ⟨(θ 64).b,0,none⟩) 1 (([r_14.1] : List level_Line).map enc_level_Line) 33 5 else .row none 0 [] 0 0)::(bif E 9 then .row ((θ 72).p) ((θ 72).c) ((x_3 ++ [r_14.1]).map enc_level_Line) 33 5 else .row p_6 c_6 (x_3.map enc_level_Line) 33 5)::(bif E 11 then .box b_5 [i6 ((heights.length : Nat) : Int),.slice ((θ 72).p) ((x_3 ++ [r_14.1]).length) ((θ 72).c)] 31 else .box b_5 [i6 ((heights.length : Nat) : Int),.slice p_6 x_3.length c_6] 31)::.row p_4 c_4 (heights.map encI_i64) 3 1::(bif E 7 then .box b_3 [.slice lines_p lines.length lines_c,i6 r_14.2.1,i6 r_14.2.2] 57 else .box b_3 [.slice lines_p lines.length lines_c,i6 x_1,i6 x_2] 57)::.box b_2 [i6 r_1.1.Left,i6 r_1.1.Right,.slice p_1 r_1.1.At.length c_1,.slice p_5 r_1.1.Depth.length c_5,.slice p_3 r_1.1.Speeds.length c_3] 25::.row p_1 c_1 (r_1.1.At.map encI_i64) 3 1::.row p_5 c_5 (r_1.1.Depth.map encI_i64) 3 1::.row p_3 c_3 (r_1.1.Speeds.map encI_i64) 3 1::Lf) [(11,1),(9,7),(11,9)] (fun a w => ∃ (b_19 : Nat) (p_20 : Option Addr) (c_20 : Nat),Has 218 a [(2,.slice more_p more.length more_c),(7,pq b_2),(8,pq b_3),(9,.slice p_4 heights.length c_4),(12,pq b_5),(13,i6 i_1)] ∧ Ctx G (.row (some ⟨b_19,0,none⟩) 1 (([r_14.1] : List level_Line).map enc_level_Line) 33 5::.row p_20 c_20 ((x_3 ++ [r_14.1]).map enc_level_Line) 33 5::.box b_5 [i6 ((heights.length : Nat) : Int),.slice p_20 ((x_3 ++ [r_14.1]).length) c_20] 31::.row p_4 c_4 (heights.map encI_i64) 3 1::.box b_3 [.slice lines_p lines.length lines_c,i6 r_14.2.1,i6 r_14.2.2] 57::.box b_2 [i6 r_1.1.Left,i6 r_1.1.Right,.slice p_1 r_1.1.At.length c_1,.slice p_5 r_1.1.Depth.length c_5,.slice p_3 r_1.1.Speeds.length c_3] 25::.row p_1 c_1 (r_1.1.At.map encI_i64) 3 1::.row p_5 c_5 (r_1.1.Depth.map encI_i64) 3 1::.row p_3 c_3 (r_1.1.Speeds.map encI_i64) 3 1::Lf) w) follows_mx (by kernel_rfl) (by kernel_rfl) (HasE.of hf ⟨rfl,rfl,rfl,rfl,rfl,rfl,trivial,trivial,trivial,trivial,trivial,trivial,trivial,trivial,trivial,trivial,trivial,trivial⟩) hc ⟨?_,?_,?_,?_,?_,?_,?_,?_,?_,?_,?_,?_,trivial⟩ ?_ ?_
   ·intro E θ a w hD hi hp he hc
    have hf := he.h0.mT he 4 rfl
    refine zP hf rfl (pFA fa_31_1 rfl) fun a hf => zD θ he hi hf 6 rfl rfl rfl hc
   ·intro E θ a w hD hi hp he hc
    have e0 := hp.o 0 rfl
    have e11 := hD.f 0 rfl hi
    try dsimp only at hc
    rw [e11] at hc
    have hf := he.h0.mP he 6 rfl e0
    refine zL hf hc sc_29 m2 rfl fun a w hf hc => zD θ he hi hf 7 rfl rfl rfl ?_
    try dsimp only
    rw [updE_fls 1 e11 rfl]
    exact hc
   ·intro E θ a w hD hi hp he hc
    have hf := he.h0.mT he 2 rfl
    refine sp 1 hf rfl fun a hf => zD θ he hi hf 8 rfl rfl rfl hc
   ·intro E θ a w hD hi hp he hc
    have hf := he.h0.mT he 3 rfl
    refine sp 1 hf rfl fun a hf => zD θ he hi hf 9 rfl rfl rfl hc
   ·intro E θ a w hD hi hp he hc
    have hf := he.h0.mT he 5 rfl
    refine sp 1 hf rfl fun a hf => zD θ he hi hf 10 rfl rfl rfl hc
   ·intro E θ a w hD hi hp he hc
    have e4 := hp.o 4 rfl
    have hf := he.h0.mP he 10 rfl e4
    refine sp 1 hf rfl fun a hf => zD θ he hi hf 11 rfl rfl rfl hc
   ·intro E θ a w hD hi hp he hc
    have hf := he.h0.mT he 5 rfl
    refine sp 1 hf rfl fun a hf => zD θ he hi hf 12 rfl rfl rfl hc
   ·intro E θ a w hD hi hp he hc
    have e2 := hp.o 2 rfl
    have e3 := hp.o 3 rfl
    have e5 := hp.o 5 rfl
    have e6 := hp.o 6 rfl
    have e9 := hD.f 1 rfl hi
    try dsimp only at hc
    rw [e9,hi] at hc
    have hf := (((he.h0.mP he 8 rfl e2).mP he 9 rfl e3).mP he 11 rfl e5).mP he 12 rfl e6
    obtain ⟨G1,hle1,hrd1,hc,hth1⟩ := lend hc k3
    refine zC hf en_6 rfl (law01_Levelled_ok (⟨lines,x_1,x_2⟩ : kit_Stream) heights (W (i_1 - 1)) i_1 1 (h_lines.mono hle1) hrd1 (hc.pick k3) hr_14) ?_
    rintro _ w ⟨rfl,hc⟩
    refine ⟨_,rfl,fun a hf => ?_⟩
    replace hc := hth1 _ _ hc
    refine cNil ?_
    refine xThenN ?_
    intro ds u hau
    replace hc := ((((hc.pick k1).pick k1).pick k4).pick k4).pick k4
    refine ⟨θ,he.put0 hi hau hf rfl 13 rfl rfl,?_⟩
    try dsimp only
    rw [updE_fls 7 e9 rfl,updE_self E 7]
    exact hc
   ·intro E θ a w hD hi hp he hc
    have e7 := hp.o 7 rfl
    try dsimp only at hc
    rw [hi] at hc
    have hf := he.h0.mP he 13 rfl e7
    refine stBS (rows := ([r_14.1] : List level_Line).map enc_level_Line) (vs := [(0,.agg #[i6 r_14.1.From,i6 r_14.1.To,i6 r_14.1.Day,i6 r_14.1.Rise,i6 r_14.1.Error])]) hf hc rfl rfl sl_29 rfl ⟨rfl,rfl,rfl,trivial⟩ rfl rfl fun b_18 a w hf hc => cNil ?_
    refine xThenN ?_
    intro ds u hau
    replace hc := hc.drop k1
    refine ⟨(setT θ 64 ⟨b_18,none,0,(fun _ => (none,0))⟩),he.put hi hau hf rfl [] trivial ⟨qq,qq,qq,qq,qq,qq,qq,qq,qq,qq,qq,qq,qq,qq,qq,qq,qq,trivial⟩,?_⟩
    try dsimp only
    rw [updE_self E 8]
    exact hc
   ·intro E θ a w hD hi hp he hc
    have e1 := hp.o 1 rfl
    have e8 := hp.o 8 rfl
    have e11 := hD.f 2 rfl hi
    try dsimp only at hc
    rw [e8,hi,e11] at hc
    have hf := (he.h0.mP he 7 rfl e1).mP he 14 rfl e8
    refine stApm (xs := x_3) (ys := ([r_14.1] : List level_Line)) hf hc rfl rfl sl_29 rfl rfl rfl rfl rfl one_enc_level_Line (src_row hc m0) (fun _ _ => u1) (by simpa using room_spec hun_4) fun p_19 c_19 a w hf hc => cNil ?_
    refine xThenN ?_
    intro ds u hau
    refine ⟨(setT θ 72 ⟨0,p_19,c_19,(fun _ => (none,0))⟩),he.put hi hau hf rfl [] trivial ⟨qq,qq,qq,qq,qq,qq,qq,qq,qq,qq,qq,qq,qq,qq,qq,qq,qq,trivial⟩,?_⟩
    try dsimp only
    rw [updE_tru 9 e8,updE_self E 9,updE_fls 9 e11 rfl]
    exact hc
   ·intro E θ a w hD hi hp he hc
    have hf := he.h0.mT he 4 rfl
    refine zP hf rfl (pFA fa_31_1 rfl) fun a hf => zD θ he hi hf 16 rfl rfl rfl hc
   ·intro E θ a w hD hi hp he hc
    have e9 := hp.o 9 rfl
    have e10 := hp.o 10 rfl
    try dsimp only at hc
    rw [hi] at hc
    have hf := (he.h0.mP he 15 rfl e9).mP he 16 rfl e10
    refine zW hf hc sz_29 u2 rfl fun w hc => zG θ he hi hf rfl ?_
    try dsimp only
    rw [updE_self E 11]
    exact hc
   ·intro E θ a w hall he hc
    have hf := he.h0
    have e7 := hall 7 rfl
    have e8 := hall 8 rfl
    have e9 := hall 9 rfl
    have e11 := hall 11 rfl
    replace hf := hf.more he 5 rfl (onT)
    replace hf := hf.more he 4 rfl (onT)
    replace hf := hf.more he 3 rfl (onT)
    replace hf := hf.more he 2 rfl (onT)
    replace hf := hf.more he 1 rfl (onT)
    replace hf := hf.more he 0 rfl (onT)
    try dsimp only at hc
    rw [e7,e8,e9,e11] at hc
    exact ⟨(θ 64).b,(θ 72).p,(θ 72).c,hf.kp rfl,hc⟩
   rintro a w ⟨b_19,p_20,c_20,hf,hc⟩
   replace hc := hc.drop k0
   refine h44 _ _ ?_
   refine cReg ?_
   refine sp 3 hf rfl fun a hf => cNil ?_
   exact hK11 (W (i_1 + 1),r_14.2.1,r_14.2.2,(x_3 ++ [r_14.1])) _ _ (sj hF).symm ⟨p_20,c_20,hf.kp rfl,hc⟩
  ·refine wp_exit ?_
   refine xThen ?_
   refine xThen ?_
   have he := sj hF
   rw [← he] at hfin11
   refine cHit ?_
   exact hr11 _ _ _ hfin11 ⟨p_6,c_6,hf.kp rfl,hc⟩
 have ho7 : ∀ r,x7 = .out r → r = res := by
  rintro r rfl
  exact sj hF
 replace hc := hc.drop k6
 refine cLoop N (loopW (S := S7) (x := x7) ?_ N (([0] : List Int),0) _ _ ⟨(some ⟨b_4,0,none⟩),1,p_2,c_2,hf.kp rfl,hc⟩ hx7)
 clear hF hf hc
 rintro ⟨heights,x⟩ st7 a w KB7 ⟨p_4,c_4,p_5,c_5,hf,hc⟩ hF hfin7 hK7
 unfold law03_GaugeLevelled_b7 at hF
 refine zS fun K h => sp 1 hf rfl fun a hf => zT h ?_
 refine wp_seq_k fun K46 h46 => zI hf rfl hF ?_ ?_ <;> clear hF <;> intro hF
 ·refine wp_skip ?_
  refine h46 _ _ ?_
  refine wp_seq_k fun K47 h47 => wp_block ?_
  refine zS fun K h => ?_
  obtain ⟨e_9,he_9,hF⟩ := bnd_some hF
  obtain ⟨g_3,rfl,qa_8,qr_8⟩ := row_atm hc m4 he_9
  refine zP hf rfl (pIA Tryz.underlying23 sz_3 rfl rfl qa_8) fun a hf => zE hf hc rfl (eLd1 sc_3 rfl (cell_row (sz := 1) (i := x.toNat) (j := 0) m4 qr_8 rfl)) fun a w hf hc => sp 1 hf rfl fun a hf => zT h ?_
  refine cReg ?_
  refine sp 3 hf rfl fun a hf => stBS (rows := ([W (0 - e_9)] : List Int).map encI_i64) (vs := [(0,i6 (W (0 - e_9)))]) hf hc rfl rfl sl_23 rfl ⟨rfl,rfl,rfl,trivial⟩ rfl rfl fun b_20 a w hf hc => ?_
  obtain ⟨un_5,hun_5,hF⟩ := bnd_some hF
  refine stApm (xs := heights) (ys := ([W (0 - e_9)] : List Int)) hf hc rfl rfl sl_23 rfl rfl rfl rfl rfl one_encI_i64 (src_row hc m0) (fun _ _ => u1) (by simpa using room_spec hun_5) fun p_21 c_21 a w hf hc => sp 1 hf rfl fun a hf => cNil ?_
  refine h47 _ _ ?_
  refine cReg ?_
  refine sp 2 hf rfl fun a hf => cNil ?_
  replace hc := hc.drop k0
  exact hK7 ((heights ++ [W (0 - e_9)]),W (x + 1)) _ _ (sj hF).symm ⟨p_21,c_21,(some ⟨g_3,0,none⟩),c_5,hf.kp rfl,hc⟩
 ·refine wp_exit ?_
  refine xThen ?_
  refine xThen ?_
  have he := sj hF
  rw [← he] at hfin7
  refine cHit ?_
  exact hr7 _ _ _ hfin7 ⟨p_4,c_4,p_5,c_5,hf.kp rfl,hc⟩

end Go.Nilo
