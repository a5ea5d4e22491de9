/-
 What functions of the Go text compute, as plain functions, and that they do, part 3 of 5. Conditions: what each theorem names.
-/
import Derived.Test.YtpfmkhhhamdpeaaGreatTu2
import Derived.Test.YtpfmkhhhamdpeaaGreatProg
set_option linter.unusedVariables false
set_option linter.unusedSimpArgs false
set_option maxRecDepth 100000
set_option maxHeartbeats 4000000
namespace Go.Nilo
open Go.Proofs


def crew_Blocks_r42 (N : Nat) (r : crew_Roster) (r_4 : (Nat → Int) × Int) (r_6 : (List (List Int))) (x_1 : Int) (x_5 : Int) (x_6 : Int) (x_7 : Int) (xv : Int) : Option (Rs (Int × Int × Int)) :=
 Option.bind (Option.bind (inR xv 12) fun un_2 =>
 Option.bind (getI r_6 xv) fun e_3 =>
 Option.bind (getI r.Stations xv) fun e_4 =>
 cond (decide (((e_3.length : Nat) : Int) < e_4.Places))
 (some true)
 (Option.bind (slices_ContainsFunc_Lint_int_s5 N e_3 (⟨r,r_4.1⟩ : crew_work) xv x_1) fun r_8 =>
 some r_8)) fun rg =>
 cond rg
 (some (.ret (0,x_1,xv)))
 (some (.go (x_5,x_6,x_7)))
def crew_Blocks_b35 (N : Nat) (r : crew_Roster) (assignment : List Int) (r_4 : (Nat → Int) × Int) (r_6 : (List (List Int))) (x_1 : Int) (x_2 : Int) (x_3 : Int) (x_4 : Int) : Option (Step (Int × Int × Int × Int) (crew_Refusal × Int)) :=
 cond (decide (x_1 < ((assignment.length : Nat) : Int)))
 (Option.bind (getI assignment x_1) fun e_2 =>
 Option.bind (crew_work_better N (⟨r,r_4.1⟩ : crew_work) x_1 e_2) fun r_7 =>
 Option.bind (crew_work_better_1 N (⟨r,r_4.1⟩ : crew_work) r_7.1 r_7.2 (rY (fun (zz : Int × Int × Int) (ix_ : Int) => crew_Blocks_r42 N r r_4 r_6 x_1 zz.1 zz.2.1 zz.2.2 ix_)) (.go (x_2,x_3,x_4))) fun x42 =>
 rsK x42 (fun zz42 => some (.cont (W (x_1 + 1),zz42.1,zz42.2.1,zz42.2.2))) (fun zz42 => some (.brk (x_1,zz42.1,zz42.2.1,zz42.2.2))))
 (some (.brk (x_1,x_2,x_3,x_4)))
def crew_Blocks_b30 (N : Nat) (r : crew_Roster) (assignment : List Int) (r_4 : (Nat → Int) × Int) (r_6 : (List (List Int))) (x : Int) : Option (Step (Int) (crew_Refusal × Int)) :=
 cond (decide (x < ((assignment.length : Nat) : Int)))
 (Option.bind (getI assignment x) fun e_5 =>
 Option.bind (cond (e_5 != (-1)) (Option.bind (crew_work_possible N (⟨r,r_4.1⟩ : crew_work) x e_5) fun r_9 =>
 Option.bind (cond (!r_9) (some true) (Option.bind (inR e_5 12) fun un_3 =>
 Option.bind (getI r_6 e_5) fun e_6 =>
 Option.bind (getI r.Stations e_5) fun e_7 =>
 some (decide (e_7.Places < ((e_6.length : Nat) : Int))))) fun t_3 =>
 some t_3) (some false)) fun t_4 =>
 cond t_4
 (some (.ret ((⟨0,0⟩ : crew_Refusal),7)))
 (some (.cont (W (x + 1)))))
 (some (.brk x))
def crew_Blocks (N : Nat) (r : crew_Roster) (assignment : List Int) : Option (crew_Refusal × Int) :=
 Option.bind (crew_opened N r) (sumK (fun _ => none)
 (fun r_4 => cond (r_4.2 != 0)
 (some ((⟨0,0⟩ : crew_Refusal),r_4.2))
 (Option.bind (cond (((assignment.length : Nat) : Int) != ((r.People.length : Nat) : Int)) (some true) (Option.bind (crew_every_int_s3 N assignment r) fun r_5 =>
 some (!r_5))) fun t_2 =>
 cond t_2
 (some ((⟨0,0⟩ : crew_Refusal),2))
 (Option.bind (crew_work_has_s2 N (⟨r,r_4.1⟩ : crew_work) assignment) fun r_6 =>
 Option.bind (isLen 12 r_6) fun un_1 =>
 Option.bind (loopO (fun s30 => crew_Blocks_b30 N r assignment r_4 r_6 s30) N 0) fun x30 =>
 exK x30 (fun s30 => Option.bind (loopO (fun s35 => crew_Blocks_b35 N r assignment r_4 r_6 s35.1 s35.2.1 s35.2.2.1 s35.2.2.2) N (0,5,0,0)) fun x35 =>
 exK x35 (fun s35 => some ((⟨s35.2.2.1,s35.2.2.2⟩ : crew_Refusal),s35.2.1)) some) some))))
theorem crew_Blocks_ok {N : Nat} {G : Pers} {Lf : List Ent} {w : World} (r : crew_Roster) (assignment : List Int) {r_People_p : Option Addr} {r_People_c : Nat} {r_Stations_p : Option Addr} {r_Stations_c : Nat} {assignment_p : Option Addr} {assignment_c : Nat} (h_r_People : RdT kd_25 G 1 r_People_p r_People_c r.People) (h_r_Stations : RdT kd_101 G 2 r_Stations_p r_Stations_c r.Stations) (h_assignment : Rd G 1 assignment_p assignment_c (assignment.map encI_i64)) (hc : Ctx G (Lf) w) {res : crew_Refusal × Int} (hF : crew_Blocks N r assignment = some res) : Calls Tryz.prog 46 #[.agg #[.slice r_People_p r.People.length r_People_c,.slice r_Stations_p r.Stations.length r_Stations_c],.slice assignment_p assignment.length assignment_c] w (fun e w => e = .returned (.tuple #[.agg #[i6 res.1.Person,i6 res.1.Station],i6 res.2]) ∧ Ctx G (Lf) w) := by
 unfold crew_Blocks at hF
 refine fnInM (args := [.agg #[.slice r_People_p r.People.length r_People_c,.slice r_Stations_p r.Stations.length r_Stations_c],.slice assignment_p assignment.length assignment_c]) Tryz.func46 rfl Tryz.ntmps46 rfl fun a hf => wp_seq_k fun K1 h1 => cReg ?_
 refine stBx (cs := [.slice r_People_p r.People.length r_People_c,.slice r_Stations_p r.Stations.length r_Stations_c]) hf hc rfl rfl rfl rfl fun b_1 a w hf hc => stAl (cs := [i6 0,i6 0]) hf hc rfl rfl zr_86 rfl fun b_2 a w hf hc => stP hf rfl rfl rfl (pA rfl) fun a hf => cNil ?_
 refine h1 _ _ ?_
 refine wp_scope_straight ?_
 refine wp_seq_k fun K2 h2 => cReg ?_
 refine stE hf hc rfl rfl rfl (eLdN (vs := [.slice r_People_p r.People.length r_People_c,.slice r_Stations_p r.Stations.length r_Stations_c]) ag_78 rfl rfl (cells_box (n := 2) m1 rfl)) fun a w hf hc => ?_
 obtain ⟨r_4,hr_4,hF⟩ := bnd_some hF
 cases r_4 with
 | inl rr =>
  replace hF := sumKl hF
  have hrr := hr_4
  exact noneO hF
 | inr r_4 =>
  replace hF := sumKr hF
  refine stC (vs := [.agg #[.slice r_People_p r.People.length r_People_c,.slice r_Stations_p r.Stations.length r_Stations_c]]) (caps := []) hf rfl rfl rfl en_105 rfl rfl rfl rfl (crew_opened_ok r h_r_People h_r_Stations hc hr_4) ?_
  rintro _ w ⟨b_13,rfl,hc⟩
  refine ⟨_,rfl,fun a hf => ?_⟩
  refine stP hf rfl rfl rfl (pM rfl) fun a hf => stP hf rfl rfl rfl (pX rfl rfl) fun a hf => stP hf rfl rfl rfl (pX rfl rfl) fun a hf => stAl (cs := [.pointer none]) hf hc rfl rfl zr_166 rfl fun b_14 a w hf hc => stAl (cs := [i6 0]) hf hc rfl rfl zr_34 rfl fun b_15 a w hf hc => stSt (vs := [pq b_13]) hf hc rfl rfl rfl rfl sz_166 rfl rfl u1 fun w hc => stSt (vs := [i6 r_4.2]) hf hc rfl rfl rfl rfl sz_34 rfl rfl u0 fun w hc => cNil ?_
  obtain ⟨G,hle_fz_1,pc_fz_1,hc,-⟩ := lendB hc k2
  replace pc_fz_1 := pc_of pc_fz_1
  refine h2 _ _ ?_
  refine wp_seq_k fun K22 h22 => wp_block ?_
  refine wp_seq_k fun K23 h23 => cReg ?_
  refine stE hf hc rfl rfl rfl (eLd1 sc_34 rfl (cell_box m0 rfl)) fun a w hf hc => stP hf rfl rfl rfl (pNe rfl rfl) fun a hf => stP hf rfl rfl rfl (pA rfl) fun a hf => cNil ?_
  refine h23 _ _ ?_
  refine cCond (b := (r_4.2 != 0)) hf rfl (fun hb => ?_) (fun hb => ?_)
  ·replace hF := condT hb hF
   clear hb
   refine wp_seq_k fun K24 h24 => regionE (fun θ => [⟨none,none,4,pq b_2⟩,⟨none,some 3,5,i6 0⟩,⟨none,none,7,pq b_15⟩,⟨some 0,none,25,.agg #[i6 0,i6 0]⟩,⟨some 1,none,26,i6 r_4.2⟩,⟨some 3,none,5,i6 r_4.2⟩]) (fun E θ => .box b_15 [i6 r_4.2] 34::.box b_14 [pq b_13] 166::.box b_2 [i6 0,i6 0] 86::.box b_1 [.slice r_People_p r.People.length r_People_c,.slice r_Stations_p r.Stations.length r_Stations_c] 78::Lf) [] (fun a w => Has 115 a [(4,pq b_2),(5,i6 r_4.2)] ∧ Ctx G (.box b_15 [i6 r_4.2] 34::.box b_14 [pq b_13] 166::.box b_2 [i6 0,i6 0] 86::.box b_1 [.slice r_People_p r.People.length r_People_c,.slice r_Stations_p r.Stations.length r_Stations_c] 78::Lf) w) follows_mx (by kernel_rfl) (by kernel_rfl) (HasE.of hf ⟨rfl,rfl,rfl,trivial,trivial,trivial,trivial⟩) hc ⟨?_,?_,?_,?_,trivial⟩ ?_ ?_
   ·intro E θ a w hD hi hp he hc
    have hf := he.h0
    refine stP hf rfl rfl rfl (pBuildS (cells := [i6 0,i6 0]) bt_86 rfl rfl) fun a hf => cNil ?_
    refine xThenN ?_
    intro ds u hau
    refine ⟨θ,he.put0 hi hau hf rfl 3 rfl rfl,?_⟩
    exact hc
   ·intro E θ a w hD hi hp he hc
    have hf := he.h0
    replace hf := hf.more he 2 rfl onT
    refine stE hf hc rfl rfl rfl (eLd1 sc_34 rfl (cell_box m0 rfl)) fun a w hf hc => cNil ?_
    refine xThenN ?_
    intro ds u hau
    refine ⟨θ,he.put0 hi hau hf rfl 4 rfl rfl,?_⟩
    exact hc
   ·intro E θ a w hD hi hp he hc
    have e0 := hp.of (k := 0) rfl
    have hf := he.h0
    replace hf := hf.more he 0 rfl onT
    replace hf := hf.more he 3 rfl (onP e0)
    refine stSt (vs := [i6 0,i6 0]) hf hc rfl rfl rfl rfl sz_86 rfl rfl u2 fun w hc => cNil ?_
    refine xThenN ?_
    intro ds u hau
    refine ⟨θ,he.stay0 hi hau hf rfl,?_⟩
    exact hc
   ·intro E θ a w hD hi hp he hc
    have e1 := hp.of (k := 1) rfl
    have hf := he.h0
    replace hf := hf.more he 4 rfl (onP e1)
    refine stP hf rfl rfl rfl (pA rfl) fun a hf => cNil ?_
    refine xThenN ?_
    intro ds u hau
    refine ⟨θ,he.put0 hi hau hf rfl 5 rfl rfl,?_⟩
    exact hc
   ·intro E θ a w hall he hc
    have hf := he.h0
    have e3 := hall 3 rfl
    replace hf := hf.more he 5 rfl (onP e3)
    replace hf := hf.more he 0 rfl (onT)
    exact ⟨hf.kp rfl,hc⟩
   rintro a w ⟨hf,hc⟩
   refine h24 _ _ ?_
   refine wp_ret ?_
   refine xBlkR ?_
   refine xThenR ?_
   refine xScopeR ?_
   obtain rfl := sj hF
   replace hc := hc.down hle_fz_1
   replace hc := hc.drop k3
   replace hc := hc.drop k1
   replace hc := hc.drop k0
   refine outM hf ?_
   exact outM2 Tryz.results46 hf hc (rv_cellN (vs := [i6 0,i6 0]) ag_86 rfl rfl (cells_box (n := 2) m0 rfl)) (show look _ 5 = _ from rfl) ⟨rfl,(hc.drop k0)⟩
  ·replace hF := condF hb hF
   clear hb
   refine wp_seq_k fun K25 h25 => cReg ?_
   refine stP hf rfl rfl rfl (pM rfl) fun a hf => stP hf rfl rfl rfl (pLenS Tryz.underlying25 rfl) fun a hf => stP hf rfl rfl rfl (pFA fa_78_0 rfl) fun a hf => stE hf hc rfl rfl rfl (eLd1 sc_75 rfl (cell_box m3 rfl)) fun a w hf hc => stP hf rfl rfl rfl (pLenS Tryz.underlying75 rfl) fun a hf => stP hf rfl rfl rfl (pNe rfl rfl) fun a hf => stP hf rfl rfl rfl (pM rfl) fun a hf => ?_
   obtain ⟨t_2,ht_2,hF⟩ := bnd_some hF
   refine stCut 5 (fun a w => Has 115 a [(1,.slice assignment_p assignment.length assignment_c),(2,pq b_1),(4,pq b_2),(6,pq b_14),(7,pq b_15),(28,.slice assignment_p assignment.length assignment_c),(29,i6 ((assignment.length : Nat) : Int)),(30,pq b_1),(31,.slice r_People_p r.People.length r_People_c),(32,i6 ((r.People.length : Nat) : Int)),(33,.bool (((assignment.length : Nat) : Int) != ((r.People.length : Nat) : Int))),(34,.bool (((assignment.length : Nat) : Int) != ((r.People.length : Nat) : Int))),(39,.bool t_2)] ∧ Ctx G (.box b_15 [i6 r_4.2] 34::.box b_14 [pq b_13] 166::.box b_2 [i6 0,i6 0] 86::.box b_1 [.slice r_People_p r.People.length r_People_c,.slice r_Stations_p r.Stations.length r_Stations_c] 78::Lf) w) ?_ ?_
   ·cases hb : (((assignment.length : Nat) : Int) != ((r.People.length : Nat) : Int))
    ·rw [hb] at hf
     have hF := condF hb ht_2
     refine stP hf rfl rfl rfl (pM rfl) fun a hf => stP hf rfl rfl rfl (pMF (us := [pq b_1]) rfl rfl) fun a hf => ?_
     obtain ⟨r_5,hr_5,hF⟩ := bnd_some hF
     refine stE hf hc rfl rfl rfl (eC (v := .bool r_5) (vs := [.slice assignment_p assignment.length assignment_c,.func (.func 108) #[] #[pq b_1]]) (caps := []) en_87 rfl rfl rfl rfl (fun w hc => (crew_every_int_s3_ok assignment r (h_assignment.mono hle_fz_1) (h_r_People.mono hle_fz_1) (h_r_Stations.mono hle_fz_1) (hc.pick k3) hr_5).mono fun e w h => ⟨h.1,(h.2.unpick k3)⟩)) fun a w hf hc => stP hf rfl rfl rfl (pNot rfl) fun a hf => stP hf rfl rfl rfl (pPf rfl rfl) fun a hf => ?_
     obtain rfl := sj hF
     exact cNil ⟨hf.kp rfl,hc⟩
    ·rw [hb] at hf
     have hF := condT hb ht_2
     obtain rfl := sj hF
     refine stS hf rfl rfl rfl fun a hf => stS hf rfl rfl rfl fun a hf => stS hf rfl rfl rfl fun a hf => stS hf rfl rfl rfl fun a hf => stP hf rfl rfl rfl (pPt rfl rfl) fun a hf => cNil ⟨hf.kp rfl,hc⟩
   intro a w ⟨hf,hc⟩
   refine stP hf rfl rfl rfl (pA rfl) fun a hf => cNil ?_
   refine h25 _ _ ?_
   refine cCond (b := t_2) hf rfl (fun hb => ?_) (fun hb => ?_)
   ·replace hF := condT hb hF
    clear hb
    refine wp_seq_k fun K26 h26 => cReg ?_
    refine stP hf rfl rfl rfl (pBuildS (cells := [i6 0,i6 0]) bt_86 rfl rfl) fun a hf => stSt (vs := [i6 0,i6 0]) hf hc rfl rfl rfl rfl sz_86 rfl rfl u2 fun w hc => stP hf rfl rfl rfl (pA rfl) fun a hf => cNil ?_
    refine h26 _ _ ?_
    refine wp_ret ?_
    refine xBlkR ?_
    refine xThenR ?_
    refine xScopeR ?_
    obtain rfl := sj hF
    replace hc := hc.down hle_fz_1
    replace hc := hc.drop k3
    replace hc := hc.drop k1
    replace hc := hc.drop k0
    refine outM hf ?_
    exact outM2 Tryz.results46 hf hc (rv_cellN (vs := [i6 0,i6 0]) ag_86 rfl rfl (cells_box (n := 2) m0 rfl)) (show look _ 5 = _ from rfl) ⟨rfl,(hc.drop k0)⟩
   ·replace hF := condF hb hF
    clear hb
    refine wp_skip ?_
    refine h22 _ _ ?_
    refine wp_seq_k fun K27 h27 => ?_
    obtain ⟨r_6,hr_6,hF⟩ := bnd_some hF
    obtain ⟨un_1,hun_1,hF⟩ := bnd_some hF
    replace hc := hc.nilRow 0 0
    replace hc := hc.nilRow 0 0
    refine regionE (fun θ => [⟨none,none,1,.slice assignment_p assignment.length assignment_c⟩,⟨none,none,2,pq b_1⟩,⟨none,none,4,pq b_2⟩,⟨none,none,6,pq b_14⟩,⟨none,none,7,pq b_15⟩,⟨some 0,none,41,pq b_13⟩,⟨some 1,none,42,.slice assignment_p assignment.length assignment_c⟩,⟨some 2,none,43,.agg ((tabR (θ 16).h r_6).map (Kd.v kd_25)).flatten.toArray⟩,⟨some 3,none,44,pq b_13⟩,⟨some 4,none,45,.func (.func 110) #[pq b_13] #[]⟩,⟨some 5,none,8,.pointer (some ⟨(θ 40).b,0,none⟩)⟩,⟨some 7,none,9,.func (.func 110) #[pq b_13] #[]⟩]) (fun E θ => (bif E 6 then .box (θ 40).b ((tabR (θ 16).h r_6).map (Kd.v kd_25)).flatten 172 else bif E 5 then .box (θ 40).b [.slice none 0 0,.slice none 0 0,.slice none 0 0,.slice none 0 0,.slice none 0 0,.slice none 0 0,.slice none 0 0,.slice none 0 0,.slice none 0 0,.slice none 0 0,.slice none 0 0,.slice none 0 0] 172 else .row none 0 [] 0 0)::(bif E 2 then tabI kd_25 (tabR (θ 16).h r_6) else .row none 0 [] 0 0)::.box b_15 [i6 r_4.2] 34::.box b_14 [pq b_13] 166::.box b_2 [i6 0,i6 0] 86::.box b_1 [.slice r_People_p r.People.length r_People_c,.slice r_Stations_p r.Stations.length r_Stations_c] 78::Lf) [(6,2),(6,5)] (fun a w => ∃ (b_17 : Nat) (hsq_3 : Hds),Has 115 a [(1,.slice assignment_p assignment.length assignment_c),(2,pq b_1),(4,pq b_2),(6,pq b_14),(7,pq b_15),(8,pq b_17),(9,.func (.func 110) #[pq b_13] #[])] ∧ Ctx G (.box b_17 ((tabR hsq_3 r_6).map (Kd.v kd_25)).flatten 172::tabI kd_25 (tabR hsq_3 r_6)::.box b_15 [i6 r_4.2] 34::.box b_14 [pq b_13] 166::.box b_2 [i6 0,i6 0] 86::.box b_1 [.slice r_People_p r.People.length r_People_c,.slice r_Stations_p r.Stations.length r_Stations_c] 78::Lf) w) follows_mx (by kernel_rfl) (by kernel_rfl) (HasE.of hf ⟨rfl,rfl,rfl,rfl,rfl,trivial,trivial,trivial,trivial,trivial,trivial,trivial,trivial⟩) hc ⟨?_,?_,?_,?_,?_,?_,?_,?_,trivial⟩ ?_ ?_
    ·intro E θ a w hD hi hp he hc
     have hf := he.h0
     replace hf := hf.more he 3 rfl onT
     refine stE hf hc rfl rfl rfl (eLd1 sc_166 rfl (cell_box m3 rfl)) fun a w hf hc => cNil ?_
     refine xThenN ?_
     intro ds u hau
     refine ⟨θ,he.put0 hi hau hf rfl 5 rfl rfl,?_⟩
     exact hc
    ·intro E θ a w hD hi hp he hc
     have hf := he.h0
     replace hf := hf.more he 0 rfl onT
     refine stP hf rfl rfl rfl (pM rfl) fun a hf => cNil ?_
     refine xThenN ?_
     intro ds u hau
     refine ⟨θ,he.put0 hi hau hf rfl 6 rfl rfl,?_⟩
     exact hc
    ·intro E θ a w hD hi hp he hc
     have e0 := hp.of (k := 0) rfl
     have e1 := hp.of (k := 1) rfl
     have e6 := hD.f 0 rfl hi
     try dsimp only at hc
     rw [hi,e6] at hc
     have hf := he.h0
     replace hf := hf.more he 5 rfl (onP e0)
     replace hf := hf.more he 6 rfl (onP e1)
     refine stC (vs := [pq b_13,.slice assignment_p assignment.length assignment_c]) (caps := []) hf rfl rfl rfl en_109 rfl rfl rfl rfl (crew_work_has_s2_ok (⟨r,r_4.1⟩ : crew_work) assignment (h_r_People.mono hle_fz_1) (h_r_Stations.mono hle_fz_1) pc_fz_1 (h_assignment.mono hle_fz_1) hc hr_6) ?_
     rintro _ w ⟨hsq_2,rfl,hc⟩
     refine ⟨_,rfl,fun a hf => ?_⟩
     refine cNil ?_
     refine xThenN ?_
     intro ds u hau
     replace hc := hc.drop k2
     replace hc := hc.pick k0
     replace hc := hc.pick k1
     refine ⟨(setT θ 16 ⟨0,none,0,hsq_2⟩),he.put hi hau hf rfl [] trivial ⟨qq,qq,qq,qq,qq,qq,qq,qq,qq,qq,qq,qq,trivial⟩,?_⟩
     try dsimp only
     rw [updE_self E 2,updE_fls 2 e6 rfl]
     exact hc
    ·intro E θ a w hD hi hp he hc
     have hf := he.h0
     replace hf := hf.more he 3 rfl onT
     refine stE hf hc rfl rfl rfl (eLd1 sc_166 rfl (cell_box m3 rfl)) fun a w hf hc => cNil ?_
     refine xThenN ?_
     intro ds u hau
     refine ⟨θ,he.put0 hi hau hf rfl 8 rfl rfl,?_⟩
     exact hc
    ·intro E θ a w hD hi hp he hc
     have e3 := hp.of (k := 3) rfl
     have hf := he.h0
     replace hf := hf.more he 8 rfl (onP e3)
     refine stP hf rfl rfl rfl (pMF (vs := [pq b_13]) (us := []) rfl rfl) fun a hf => cNil ?_
     refine xThenN ?_
     intro ds u hau
     refine ⟨θ,he.put0 hi hau hf rfl 9 rfl rfl,?_⟩
     exact hc
    ·intro E θ a w hD hi hp he hc
     have e6 := hD.f 1 rfl hi
     try dsimp only at hc
     rw [hi,e6] at hc
     have hf := he.h0
     refine stAl (cs := [.slice none 0 0,.slice none 0 0,.slice none 0 0,.slice none 0 0,.slice none 0 0,.slice none 0 0,.slice none 0 0,.slice none 0 0,.slice none 0 0,.slice none 0 0,.slice none 0 0,.slice none 0 0]) hf hc rfl rfl zr_172 rfl fun b_16 a w hf hc => cNil ?_
     refine xThenN ?_
     intro ds u hau
     replace hc := hc.drop k1
     refine ⟨(setT θ 40 ⟨b_16,none,0,(fun _ => (none,0))⟩),he.put hi hau hf rfl [] trivial ⟨qq,qq,qq,qq,qq,qq,qq,qq,qq,qq,qq,qq,trivial⟩,?_⟩
     try dsimp only
     rw [updE_self E 5,updE_fls 5 e6 rfl]
     exact hc
    ·intro E θ a w hD hi hp he hc
     have e2 := hp.of (k := 2) rfl
     have e5 := hp.of (k := 5) rfl
     try dsimp only at hc
     rw [e5,hi] at hc
     have hf := he.h0
     replace hf := hf.more he 7 rfl (onP e2)
     replace hf := hf.more he 10 rfl (onP e5)
     refine stStW (n := 12) (vs := ((tabR (θ 16).h r_6).map (Kd.v kd_25)).flatten) hf hc rfl rfl rfl rfl sz_172 (tarr_len one_kd_25 hun_1) (tarr_one one_kd_25) rfl u0 fun w hc => cNil ?_
     refine xThenN ?_
     intro ds u hau
     refine ⟨θ,he.stay0 hi hau hf rfl,?_⟩
     try dsimp only
     rw [updE_tru 6 e5,updE_self E 6]
     exact hc
    ·intro E θ a w hD hi hp he hc
     have e4 := hp.of (k := 4) rfl
     have hf := he.h0
     replace hf := hf.more he 9 rfl (onP e4)
     refine stP hf rfl rfl rfl (pA rfl) fun a hf => cNil ?_
     refine xThenN ?_
     intro ds u hau
     refine ⟨θ,he.put0 hi hau hf rfl 11 rfl rfl,?_⟩
     exact hc
    ·intro E θ a w hall he hc
     have hf := he.h0
     have e2 := hall 2 rfl
     have e5 := hall 5 rfl
     have e6 := hall 6 rfl
     have e7 := hall 7 rfl
     replace hf := hf.more he 11 rfl (onP e7)
     replace hf := hf.more he 10 rfl (onP e5)
     replace hf := hf.more he 4 rfl (onT)
     replace hf := hf.more he 3 rfl (onT)
     replace hf := hf.more he 2 rfl (onT)
     replace hf := hf.more he 1 rfl (onT)
     replace hf := hf.more he 0 rfl (onT)
     try dsimp only at hc
     rw [e2,e5,e6] at hc
     exact ⟨(θ 40).b,(θ 16).h,hf.kp rfl,hc⟩
    rintro a w ⟨b_17,hsq_3,hf,hc⟩
    obtain ⟨G,hle_fz_2,hz_fz_2,hc,-⟩ := lendI kdo_25 hc k1
    refine h27 _ _ ?_
    refine wp_seq_k fun K28 h28 => wp_seq_k fun K29 h29 => cReg ?_
    refine stP hf rfl rfl rfl (pM rfl) fun a hf => stP hf rfl rfl rfl (pLenS Tryz.underlying25 rfl) fun a hf => stP hf rfl rfl rfl (pM rfl) fun a hf => cNil ?_
    refine h29 _ _ ?_
    refine wp_block ?_
    obtain ⟨x30,hx30,hF⟩ := bnd_some hF
    let S30 : Int → Act → World → Prop := (fun (zz : Int) a w => Has 115 a [(1,.slice assignment_p assignment.length assignment_c),(2,pq b_1),(4,pq b_2),(6,pq b_14),(7,pq b_15),(8,pq b_17),(9,.func (.func 110) #[pq b_13] #[]),(46,.slice assignment_p assignment.length assignment_c),(47,i6 ((assignment.length : Nat) : Int)),(48,i6 zz)] ∧ Ctx G (.box b_17 ((tabR hsq_3 r_6).map (Kd.v kd_25)).flatten 172::.box b_15 [i6 r_4.2] 34::.box b_14 [pq b_13] 166::.box b_2 [i6 0,i6 0] 86::.box b_1 [.slice r_People_p r.People.length r_People_c,.slice r_Stations_p r.Stations.length r_Stations_c] 78::Lf) w)
    have hr30 : ∀ (zz : Int) a w,x30 = .go zz → S30 zz a w → K28 a w := by
     rintro x a w rfl ⟨hf,hc⟩
     replace hF := exK_go hF
     refine h28 _ _ ?_
     refine wp_seq_k fun K31 h31 => cReg ?_
     refine stP hf rfl rfl rfl (pBuildS (cells := [i6 0,i6 0]) bt_86 rfl rfl) fun a hf => stAl (cs := [i6 0,i6 0]) hf hc rfl rfl zr_86 rfl fun b_18 a w hf hc => stSt (vs := [i6 0,i6 0]) hf hc rfl rfl rfl rfl sz_86 rfl rfl u0 fun w hc => stSt (vs := [i6 5]) hf hc rfl rfl rfl rfl sz_34 rfl rfl u2 fun w hc => cNil ?_
     refine h31 _ _ ?_
     refine wp_seq_k fun K32 h32 => wp_label ?_
     refine h32 _ _ ?_
     refine wp_seq_k fun K33 h33 => wp_seq_k fun K34 h34 => cReg ?_
     refine stP hf rfl rfl rfl (pM rfl) fun a hf => stP hf rfl rfl rfl (pLenS Tryz.underlying25 rfl) fun a hf => stP hf rfl rfl rfl (pM rfl) fun a hf => cNil ?_
     refine h34 _ _ ?_
     refine wp_block ?_
     obtain ⟨x35,hx35,hF⟩ := bnd_some hF
     let S35 : (Int × Int × Int × Int) → Act → World → Prop := (fun (zz : Int × Int × Int × Int) a w => ∃ (Ds : List Nat),Has ⟨115,markL Ds⟩ a [(2,pq b_1),(4,pq b_2),(6,pq b_14),(7,pq b_15),(8,pq b_17),(12,pq b_18),(78,.slice assignment_p assignment.length assignment_c),(79,i6 ((assignment.length : Nat) : Int)),(80,i6 zz.1)] ∧ Ctx G (.box b_18 [i6 zz.2.2.1,i6 zz.2.2.2] 86::.box b_17 ((tabR hsq_3 r_6).map (Kd.v kd_25)).flatten 172::.box b_15 [i6 zz.2.1] 34::.box b_14 [pq b_13] 166::.box b_2 [i6 0,i6 0] 86::.box b_1 [.slice r_People_p r.People.length r_People_c,.slice r_Stations_p r.Stations.length r_Stations_c] 78::(raws Ds ++ Lf)) w)
     have hr35 : ∀ (zz : Int × Int × Int × Int) a w,x35 = .go zz → S35 zz a w → K33 a w := by
      rintro ⟨x_1,x_2,x_3,x_4⟩ a w rfl ⟨Ds,hf,hc⟩
      replace hF := exK_go hF
      refine h33 _ _ ?_
      refine wp_seq_k fun K36 h36 => regionE (fun θ => [⟨none,none,4,pq b_2⟩,⟨none,none,7,pq b_15⟩,⟨none,none,12,pq b_18⟩,⟨some 0,none,113,.agg #[i6 x_3,i6 x_4]⟩,⟨some 1,none,114,i6 x_2⟩,⟨some 3,none,5,i6 x_2⟩]) (fun E θ => .box b_18 [i6 x_3,i6 x_4] 86::.box b_17 ((tabR hsq_3 r_6).map (Kd.v kd_25)).flatten 172::.box b_15 [i6 x_2] 34::.box b_14 [pq b_13] 166::(bif E 2 then .box b_2 [i6 x_3,i6 x_4] 86 else .box b_2 [i6 0,i6 0] 86)::.box b_1 [.slice r_People_p r.People.length r_People_c,.slice r_Stations_p r.Stations.length r_Stations_c] 78::(raws Ds ++ Lf)) [] (fun a w => Has ⟨115,markL Ds⟩ a [(4,pq b_2),(5,i6 x_2)] ∧ Ctx G (.box b_18 [i6 x_3,i6 x_4] 86::.box b_17 ((tabR hsq_3 r_6).map (Kd.v kd_25)).flatten 172::.box b_15 [i6 x_2] 34::.box b_14 [pq b_13] 166::.box b_2 [i6 x_3,i6 x_4] 86::.box b_1 [.slice r_People_p r.People.length r_People_c,.slice r_Stations_p r.Stations.length r_Stations_c] 78::(raws Ds ++ Lf)) w) follows_mx (by kernel_rfl) (by kernel_rfl) (HasE.of hf ⟨rfl,rfl,rfl,trivial,trivial,trivial,trivial⟩) hc ⟨?_,?_,?_,?_,trivial⟩ ?_ ?_
      ·intro E θ a w hD hi hp he hc
       have hf := he.h0
       replace hf := hf.more he 2 rfl onT
       refine stE hf hc rfl rfl rfl (eLdN (vs := [i6 x_3,i6 x_4]) ag_86 rfl rfl (cells_box (n := 2) m0 rfl)) fun a w hf hc => cNil ?_
       refine xThenN ?_
       intro ds u hau
       refine ⟨θ,he.put0 hi hau hf rfl 3 rfl rfl,?_⟩
       exact hc
      ·intro E θ a w hD hi hp he hc
       have hf := he.h0
       replace hf := hf.more he 1 rfl onT
       refine stE hf hc rfl rfl rfl (eLd1 sc_34 rfl (cell_box m2 rfl)) fun a w hf hc => cNil ?_
       refine xThenN ?_
       intro ds u hau
       refine ⟨θ,he.put0 hi hau hf rfl 4 rfl rfl,?_⟩
       exact hc
      ·intro E θ a w hD hi hp he hc
       have e0 := hp.of (k := 0) rfl
       try dsimp only at hc
       rw [hi] at hc
       have hf := he.h0
       replace hf := hf.more he 0 rfl onT
       replace hf := hf.more he 3 rfl (onP e0)
       refine stSt (vs := [i6 x_3,i6 x_4]) hf hc rfl rfl rfl rfl sz_86 rfl rfl u4 fun w hc => cNil ?_
       refine xThenN ?_
       intro ds u hau
       refine ⟨θ,he.stay0 hi hau hf rfl,?_⟩
       try dsimp only
       rw [updE_self E 2]
       exact hc
      ·intro E θ a w hD hi hp he hc
       have e1 := hp.of (k := 1) rfl
       have hf := he.h0
       replace hf := hf.more he 4 rfl (onP e1)
       refine stP hf rfl rfl rfl (pA rfl) fun a hf => cNil ?_
       refine xThenN ?_
       intro ds u hau
       refine ⟨θ,he.put0 hi hau hf rfl 5 rfl rfl,?_⟩
       exact hc
      ·intro E θ a w hall he hc
       have hf := he.h0
       have e2 := hall 2 rfl
       have e3 := hall 3 rfl
       replace hf := hf.more he 5 rfl (onP e3)
       replace hf := hf.more he 0 rfl (onT)
       try dsimp only at hc
       rw [e2] at hc
       exact ⟨hf.kp rfl,hc⟩
      rintro a w ⟨hf,hc⟩
      refine h36 _ _ ?_
      refine wp_ret ?_
      refine xScopeR ?_
      obtain rfl := sj hF
      replace hc := hc.down hle_fz_2
      replace hc := hc.down hle_fz_1
      replace hc := hc.drop k5
      replace hc := hc.drop k3
      replace hc := hc.drop k2
      replace hc := hc.drop k1
      replace hc := hc.drop k0
      refine outM hf ?_
      refine outML [.box b_2 [i6 x_3,i6 x_4] 86] Ds hc fun w hc => ?_
      replace hc : Ctx _ (.box b_2 [i6 x_3,i6 x_4] 86::Lf) w := hc
      exact outM2 Tryz.results46 hf hc (rv_cellN (vs := [i6 x_3,i6 x_4]) ag_86 rfl rfl (cells_box (n := 2) m0 rfl)) (show look _ 5 = _ from rfl) ⟨rfl,(hc.drop k0)⟩
     have ho35 : ∀ r,x35 = .out r → r = res := by
      rintro r rfl
      exact sj hF
     replace hf := markZ hf
     replace hc : Ctx G (.box b_18 [i6 0,i6 0] 86::.box b_17 ((tabR hsq_3 r_6).map (Kd.v kd_25)).flatten 172::.box b_15 [i6 5] 34::.box b_14 [pq b_13] 166::.box b_2 [i6 0,i6 0] 86::.box b_1 [.slice r_People_p r.People.length r_People_c,.slice r_Stations_p r.Stations.length r_Stations_c] 78::(raws [] ++ Lf)) w := hc
     refine cLoop N (loopW (S := S35) (x := x35) ?_ N (0,5,0,0) _ _ ⟨[],hf.kp rfl,hc⟩ hx35)
     clear hF hf hc
     rintro ⟨x_1,x_2,x_3,x_4⟩ st35 a w KB35 ⟨Ds,hf,hc⟩ hF hfin35 hK35
     unfold crew_Blocks_b35 at hF
     refine wp_seq_k fun K37 h37 => cReg ?_
     refine stP hf rfl rfl rfl (pLt rfl rfl) fun a hf => cNil ?_
     refine h37 _ _ ?_
     refine wp_seq_k fun K38 h38 => cCond (b := (decide (x_1 < ((assignment.length : Nat) : Int)))) hf rfl (fun hb => ?_) (fun hb => ?_)
     ·replace hF := condT hb hF
      clear hb
      refine wp_skip ?_
      refine h38 _ _ ?_
      refine wp_seq_k fun K39 h39 => wp_block ?_
      refine wp_seq_k fun K40 h40 => cReg ?_
      refine stP hf rfl rfl rfl (pM rfl) fun a hf => ?_
      obtain ⟨e_2,he_2,hF⟩ := bnd_some hF
      obtain ⟨b_19,o_1,qa_1,qp_1⟩ := ((h_assignment.mono hle_fz_1).mono hle_fz_2).atm he_2
      refine stP hf rfl rfl rfl (pIA Tryz.underlying25 sz_3 rfl rfl qa_1) fun a hf => stE hf hc rfl rfl rfl (eLd1 sc_3 rfl (cell_pc (j := 0) qp_1 rfl)) fun a w hf hc => stAl (cs := [i6 0]) hf hc rfl rfl zr_3 rfl fun b_20 a w hf hc => stSt (vs := [i6 x_1]) hf hc rfl rfl rfl rfl sz_3 rfl rfl u0 fun w hc => stP hf rfl rfl rfl (pA rfl) fun a hf => cNil ?_
      refine h40 _ _ ?_
      refine wp_seq_k fun K41 h41 => cReg ?_
      refine stE hf hc rfl rfl rfl (eLd1 sc_166 rfl (cell_box m4 rfl)) fun a w hf hc => stE hf hc rfl rfl rfl (eLd1 sc_3 rfl (cell_box m0 rfl)) fun a w hf hc => stP hf rfl rfl rfl (pM rfl) fun a hf => ?_
      obtain ⟨r_7,hr_7,hF⟩ := bnd_some hF
      refine stC (vs := [pq b_13,i6 x_1,i6 e_2]) (caps := []) hf rfl rfl rfl en_111 rfl rfl rfl rfl (crew_work_better_ok (⟨r,r_4.1⟩ : crew_work) x_1 e_2 ((h_r_People.mono hle_fz_1).mono hle_fz_2) ((h_r_Stations.mono hle_fz_1).mono hle_fz_2) (pc_fz_1.mono hle_fz_2) hc hr_7) ?_
      rintro _ w ⟨b_21,b_22,b_23,rfl,hc⟩
      refine ⟨_,rfl,fun a hf => ?_⟩
      refine cNil ?_
      refine h41 _ _ ?_
      obtain ⟨x42,hx42,hF⟩ := bnd_some hF
      refine cRangeX (C := [.box b_21 [pq b_13] 166,.box b_22 [i6 r_7.1] 3,.box b_23 [i6 r_7.2] 3]) (C2 := [.box b_21 [pq b_13] 166,.box b_22 [i6 r_7.1] 3,.box b_23 [i6 r_7.2] 3]) (L0 := [.box b_20 [i6 x_1] 3,.box b_18 [i6 x_3,i6 x_4] 86,.box b_17 ((tabR hsq_3 r_6).map (Kd.v kd_25)).flatten 172,.box b_15 [i6 x_2] 34,.box b_14 [pq b_13] 166,.box b_2 [i6 0,i6 0] 86,.box b_1 [.slice r_People_p r.People.length r_People_c,.slice r_Stations_p r.Stations.length r_Stations_c] 78]) (Lf := (raws Ds ++ Lf)) (encs := fun x : Int => [i6 x]) 3 (by decide) (fun (zz : Int × Int × Int) L => L = [.box b_20 [i6 x_1] 3,.box b_18 [i6 zz.2.1,i6 zz.2.2] 86,.box b_17 ((tabR hsq_3 r_6).map (Kd.v kd_25)).flatten 172,.box b_15 [i6 zz.1] 34,.box b_14 [pq b_13] 166,.box b_2 [i6 0,i6 0] 86,.box b_1 [.slice r_People_p r.People.length r_People_c,.slice r_Stations_p r.Stations.length r_Stations_c] 78]) (fun (zz : Int × Int × Int) (ix_ : Int) => crew_Blocks_r42 N r r_4 r_6 x_1 zz.1 zz.2.1 zz.2.2 ix_) (x_2,x_3,x_4) x42 hf hc rfl en_167 (fun _ => rfl) rfl rfl ?_ ?_ ?_ ?_
      ·intro lq mq J L Lx w hy hJ hc
       exact crew_work_better_1_ok (⟨r,r_4.1⟩ : crew_work) r_7.1 r_7.2 ((h_r_People.mono hle_fz_1).mono hle_fz_2) ((h_r_Stations.mono hle_fz_1).mono hle_fz_2) (pc_fz_1.mono hle_fz_2) J _ hy _ hJ hc hx42
      ·clear hF hf hc
       rintro lq mq ⟨x_5,x_6,x_7⟩ xv oq _ Lr Lb a w hK0 rfl hF hf hc hK
       replace hf : Has 115 a [(2,pq b_1),(4,pq b_2),(6,pq b_14),(7,pq b_15),(8,pq b_17),(12,pq b_18),(13,pq b_20),(78,.slice assignment_p assignment.length assignment_c),(79,i6 ((assignment.length : Nat) : Int)),(80,i6 x_1),(89,i6 xv)] := hf.kp rfl
       replace hc : Ctx G (.box b_20 [i6 x_1] 3::.box b_18 [i6 x_6,i6 x_7] 86::.box b_17 ((tabR hsq_3 r_6).map (Kd.v kd_25)).flatten 172::.box b_15 [i6 x_5] 34::.box b_14 [pq b_13] 166::.box b_2 [i6 0,i6 0] 86::.box b_1 [.slice r_People_p r.People.length r_People_c,.slice r_Stations_p r.Stations.length r_Stations_c] 78::Lr) w := hc
       replace hF : crew_Blocks_r42 N r r_4 r_6 x_1 x_5 x_6 x_7 xv = some oq := hF
       unfold crew_Blocks_r42 at hF
       refine rReg (fun _ _ h => h) rfl ?_
       refine stAl (cs := [i6 0]) hf hc rfl rfl zr_3 rfl fun b_24 a w hf hc => stSt (vs := [i6 xv]) hf hc rfl rfl rfl rfl sz_3 rfl rfl u0 fun w hc => cNil ?_
       refine hK _ _ [.box b_24 [i6 xv] 3,.box b_20 [i6 x_1] 3,.box b_18 [i6 x_6,i6 x_7] 86,.box b_17 ((tabR hsq_3 r_6).map (Kd.v kd_25)).flatten 172,.box b_15 [i6 x_5] 34,.box b_14 [pq b_13] 166,.box b_2 [i6 0,i6 0] 86,.box b_1 [.slice r_People_p r.People.length r_People_c,.slice r_Stations_p r.Stations.length r_Stations_c] 78] hc fun w hc => ?_
       replace hc : Ctx G (.box b_24 [i6 xv] 3::.box b_20 [i6 x_1] 3::.box b_18 [i6 x_6,i6 x_7] 86::.box b_17 ((tabR hsq_3 r_6).map (Kd.v kd_25)).flatten 172::.box b_15 [i6 x_5] 34::.box b_14 [pq b_13] 166::.box b_2 [i6 0,i6 0] 86::.box b_1 [.slice r_People_p r.People.length r_People_c,.slice r_Stations_p r.Stations.length r_Stations_c] 78::Lb) w := hc
       refine rThenK fun K43 h43 => rBlock ?_
       refine rSeq fun K44 h44 => rReg (fun _ _ h => h) rfl ?_
       refine stP hf rfl rfl rfl (pMF (us := [pq b_14,pq b_24,pq b_20]) rfl rfl) fun a hf => stP hf rfl rfl rfl (pA rfl) fun a hf => cNil ?_
       refine h44 _ _ ?_
       refine rSeq fun K45 h45 => ?_
       obtain ⟨rg,hrg,hF⟩ := bnd_some hF
       refine rCut (fun a w => Has 115 a [(2,pq b_1),(4,pq b_2),(6,pq b_14),(7,pq b_15),(8,pq b_17),(12,pq b_18),(13,pq b_20),(15,pq b_24),(78,.slice assignment_p assignment.length assignment_c),(79,i6 ((assignment.length : Nat) : Int)),(80,i6 x_1),(108,.bool rg)] ∧ Ctx G (.box b_24 [i6 xv] 3::.box b_20 [i6 x_1] 3::.box b_18 [i6 x_6,i6 x_7] 86::.box b_17 ((tabR hsq_3 r_6).map (Kd.v kd_25)).flatten 172::.box b_15 [i6 x_5] 34::.box b_14 [pq b_13] 166::.box b_2 [i6 0,i6 0] 86::.box b_1 [.slice r_People_p r.People.length r_People_c,.slice r_Stations_p r.Stations.length r_Stations_c] 78::Lb) w) ?_ ?_
       ·clear hF
        have hF := hrg
        clear hrg
        obtain ⟨un_2,hun_2,hF⟩ := bnd_some hF
        obtain ⟨e_3,he_3,hF⟩ := bnd_some hF
        obtain ⟨e_4,he_4,hF⟩ := bnd_some hF
        obtain ⟨b_25,o_2,hd,qa_2,qp_2,qr⟩ := ((h_r_Stations.mono hle_fz_1).mono hle_fz_2).atm he_4
        cases hb : (decide (((e_3.length : Nat) : Int) < e_4.Places))
        ·replace hF := condF hb hF
         try rw [hb] at hf
         try rw [hb] at hc
         have hb1 := hb
         clear hb
         obtain ⟨r_8,hr_8,hF⟩ := bnd_some hF
         refine rRegE (fun _ _ h => h) rfl (fun θ => (⟨none,none,2,pq b_1⟩::⟨none,none,4,pq b_2⟩::⟨none,none,6,pq b_14⟩::⟨none,none,7,pq b_15⟩::⟨none,none,8,pq b_17⟩::⟨none,none,12,pq b_18⟩::⟨none,none,13,pq b_20⟩::⟨none,none,15,pq b_24⟩::⟨none,none,16,.func (.func 112) #[] #[pq b_14,pq b_24,pq b_20]⟩::⟨none,none,78,.slice assignment_p assignment.length assignment_c⟩::⟨none,none,79,i6 ((assignment.length : Nat) : Int)⟩::⟨none,none,80,i6 x_1⟩::⟨some 0,none,91,i6 xv⟩::⟨some 1,none,92,.pointer (some ⟨b_17,0 + xv.toNat * 1,none⟩)⟩::⟨some 2,none,93,.slice ((hsq_3 xv.toNat).1) e_3.length ((hsq_3 xv.toNat).2)⟩::⟨some 3,none,94,i6 ((e_3.length : Nat) : Int)⟩::⟨some 4,none,95,.pointer (some ⟨b_1,1,none⟩)⟩::⟨some 5,none,96,.slice r_Stations_p r.Stations.length r_Stations_c⟩::⟨some 6,none,97,i6 xv⟩::⟨some 7,none,98,.pointer (some ⟨b_25,o_2,none⟩)⟩::⟨some 8,none,99,.pointer (some ⟨b_25,o_2 + 0,none⟩)⟩::⟨some 9,none,100,i6 e_4.Places⟩::⟨some 10,none,101,.bool false⟩::⟨some 11,none,102,.bool false⟩::⟨some 12,none,103,i6 xv⟩::⟨some 13,none,104,.pointer (some ⟨b_17,0 + xv.toNat * 1,none⟩)⟩::⟨some 14,none,105,.slice ((hsq_3 xv.toNat).1) e_3.length ((hsq_3 xv.toNat).2)⟩::⟨some 15,none,106,.func (.func 112) #[] #[pq b_14,pq b_24,pq b_20]⟩::⟨some 16,none,107,.bool r_8⟩::⟨some 17,none,108,.bool r_8⟩::[])) (fun E θ => .box b_24 [i6 xv] 3::.box b_20 [i6 x_1] 3::.box b_18 [i6 x_6,i6 x_7] 86::.box b_17 ((tabR hsq_3 r_6).map (Kd.v kd_25)).flatten 172::.box b_15 [i6 x_5] 34::.box b_14 [pq b_13] 166::.box b_2 [i6 0,i6 0] 86::.box b_1 [.slice r_People_p r.People.length r_People_c,.slice r_Stations_p r.Stations.length r_Stations_c] 78::Lb) [] (fun a w => Has 115 a [(2,pq b_1),(4,pq b_2),(6,pq b_14),(7,pq b_15),(8,pq b_17),(12,pq b_18),(13,pq b_20),(15,pq b_24),(78,.slice assignment_p assignment.length assignment_c),(79,i6 ((assignment.length : Nat) : Int)),(80,i6 x_1),(103,i6 xv),(104,.pointer (some ⟨b_17,0 + xv.toNat * 1,none⟩)),(105,.slice ((hsq_3 xv.toNat).1) e_3.length ((hsq_3 xv.toNat).2)),(106,.func (.func 112) #[] #[pq b_14,pq b_24,pq b_20]),(107,.bool r_8),(108,.bool r_8)] ∧ Ctx G (.box b_24 [i6 xv] 3::.box b_20 [i6 x_1] 3::.box b_18 [i6 x_6,i6 x_7] 86::.box b_17 ((tabR hsq_3 r_6).map (Kd.v kd_25)).flatten 172::.box b_15 [i6 x_5] 34::.box b_14 [pq b_13] 166::.box b_2 [i6 0,i6 0] 86::.box b_1 [.slice r_People_p r.People.length r_People_c,.slice r_Stations_p r.Stations.length r_Stations_c] 78::Lb) w) follows_mx (by kernel_rfl) (by kernel_rfl) (HasE.of hf ⟨rfl,rfl,rfl,rfl,rfl,rfl,rfl,rfl,rfl,rfl,rfl,rfl,trivial,trivial,trivial,trivial,trivial,trivial,trivial,trivial,trivial,trivial,trivial,trivial,trivial,trivial,trivial,trivial,trivial,trivial,trivial⟩) hc ⟨?_,?_,?_,?_,?_,?_,?_,?_,?_,?_,?_,?_,?_,?_,?_,?_,?_,?_,trivial⟩ ?_ ?_
         ·intro E θ a w hD hi hp he hc
          have hf := he.h0
          replace hf := hf.more he 7 rfl onT
          refine stE hf hc rfl rfl rfl (eLd1 sc_3 rfl (cell_box m0 rfl)) fun a w hf hc => cNil ?_
          refine xThenN ?_
          intro ds u hau
          refine ⟨θ,he.put0 hi hau hf rfl 12 rfl rfl,?_⟩
          exact hc
         ·intro E θ a w hD hi hp he hc
          have e0 := hp.of (k := 0) rfl
          have hf := he.h0
          replace hf := hf.more he 4 rfl onT
          replace hf := hf.more he 12 rfl (onP e0)
          refine stP hf rfl rfl rfl (pIAA Tryz.underlying172 sz_25 rfl rfl (inR_spec hun_2).1 (inR_spec hun_2).2) fun a hf => cNil ?_
          refine xThenN ?_
          intro ds u hau
          refine ⟨θ,he.put0 hi hau hf rfl 13 rfl rfl,?_⟩
          exact hc
         ·intro E θ a w hD hi hp he hc
          have e1 := hp.of (k := 1) rfl
          have hf := he.h0
          replace hf := hf.more he 13 rfl (onP e1)
          refine stE hf hc rfl rfl rfl (eLd1 sc_25 rfl (cell_box m3 (tarr_cell0 one_kd_25 he_3 rfl))) fun a w hf hc => cNil ?_
          refine xThenN ?_
          intro ds u hau
          refine ⟨θ,he.put0 hi hau hf rfl 14 rfl rfl,?_⟩
          exact hc
         ·intro E θ a w hD hi hp he hc
          have e2 := hp.of (k := 2) rfl
          have hf := he.h0
          replace hf := hf.more he 14 rfl (onP e2)
          refine stP hf rfl rfl rfl (pLenS Tryz.underlying25 rfl) fun a hf => cNil ?_
          refine xThenN ?_
          intro ds u hau
          refine ⟨θ,he.put0 hi hau hf rfl 15 rfl rfl,?_⟩
          exact hc
         ·intro E θ a w hD hi hp he hc
          have hf := he.h0
          replace hf := hf.more he 0 rfl onT
          refine stP hf rfl rfl rfl (pFA fa_78_1 rfl) fun a hf => cNil ?_
          refine xThenN ?_
          intro ds u hau
          refine ⟨θ,he.put0 hi hau hf rfl 16 rfl rfl,?_⟩
          exact hc
         ·intro E θ a w hD hi hp he hc
          have e4 := hp.of (k := 4) rfl
          have hf := he.h0
          replace hf := hf.more he 16 rfl (onP e4)
          refine stE hf hc rfl rfl rfl (eLd1 sc_76 rfl (cell_box m7 rfl)) fun a w hf hc => cNil ?_
          refine xThenN ?_
          intro ds u hau
          refine ⟨θ,he.put0 hi hau hf rfl 17 rfl rfl,?_⟩
          exact hc
         ·intro E θ a w hD hi hp he hc
          have hf := he.h0
          replace hf := hf.more he 7 rfl onT
          refine stE hf hc rfl rfl rfl (eLd1 sc_3 rfl (cell_box m0 rfl)) fun a w hf hc => cNil ?_
          refine xThenN ?_
          intro ds u hau
          refine ⟨θ,he.put0 hi hau hf rfl 18 rfl rfl,?_⟩
          exact hc
         ·intro E θ a w hD hi hp he hc
          have e5 := hp.of (k := 5) rfl
          have e6 := hp.of (k := 6) rfl
          have hf := he.h0
          replace hf := hf.more he 17 rfl (onP e5)
          replace hf := hf.more he 18 rfl (onP e6)
          refine stP hf rfl rfl rfl (pIA Tryz.underlying76 sz_101 rfl rfl qa_2) fun a hf => cNil ?_
          refine xThenN ?_
          intro ds u hau
          refine ⟨θ,he.put0 hi hau hf rfl 19 rfl rfl,?_⟩
          exact hc
         ·intro E θ a w hD hi hp he hc
          have e7 := hp.of (k := 7) rfl
          have hf := he.h0
          replace hf := hf.more he 19 rfl (onP e7)
          refine stP hf rfl rfl rfl (pFA fa_101_0 rfl) fun a hf => cNil ?_
          refine xThenN ?_
          intro ds u hau
          refine ⟨θ,he.put0 hi hau hf rfl 20 rfl rfl,?_⟩
          exact hc
         ·intro E θ a w hD hi hp he hc
          have e8 := hp.of (k := 8) rfl
          have hf := he.h0
          replace hf := hf.more he 20 rfl (onP e8)
          refine stE hf hc rfl rfl rfl (eLd1 sc_3 rfl (cell_pc (j := 0) qp_2 rfl)) fun a w hf hc => cNil ?_
          refine xThenN ?_
          intro ds u hau
          refine ⟨θ,he.put0 hi hau hf rfl 21 rfl rfl,?_⟩
          exact hc
         ·intro E θ a w hD hi hp he hc
          have e3 := hp.of (k := 3) rfl
          have e9 := hp.of (k := 9) rfl
          have hf := he.h0
          replace hf := hf.more he 15 rfl (onP e3)
          replace hf := hf.more he 21 rfl (onP e9)
          refine stP hf rfl rfl rfl (pLt rfl rfl) fun a hf => ?_
          rw [hb1] at hf
          refine cNil ?_
          refine xThenN ?_
          intro ds u hau
          refine ⟨θ,he.put0 hi hau hf rfl 22 rfl rfl,?_⟩
          exact hc
         ·intro E θ a w hD hi hp he hc
          have e10 := hp.of (k := 10) rfl
          have hf := he.h0
          replace hf := hf.more he 22 rfl (onP e10)
          refine stP hf rfl rfl rfl (pM rfl) fun a hf => cNil ?_
          refine xThenN ?_
          intro ds u hau
          refine ⟨θ,he.put0 hi hau hf rfl 23 rfl rfl,?_⟩
          exact hc
         ·intro E θ a w hD hi hp he hc
          have e11 := hp.of (k := 11) rfl
          have hf := he.h0
          replace hf := hf.more he 7 rfl onT
          replace hf := hf.more he 23 rfl (onP e11)
          refine stE hf hc rfl rfl rfl (eLd1 sc_3 rfl (cell_box m0 rfl)) fun a w hf hc => cNil ?_
          refine xThenN ?_
          intro ds u hau
          refine ⟨θ,he.put0 hi hau hf rfl 24 rfl rfl,?_⟩
          exact hc
         ·intro E θ a w hD hi hp he hc
          have e11 := hp.of (k := 11) rfl
          have e12 := hp.of (k := 12) rfl
          have hf := he.h0
          replace hf := hf.more he 4 rfl onT
          replace hf := hf.more he 23 rfl (onP e11)
          replace hf := hf.more he 24 rfl (onP e12)
          refine stP hf rfl rfl rfl (pIAA Tryz.underlying172 sz_25 rfl rfl (inR_spec hun_2).1 (inR_spec hun_2).2) fun a hf => cNil ?_
          refine xThenN ?_
          intro ds u hau
          refine ⟨θ,he.put0 hi hau hf rfl 25 rfl rfl,?_⟩
          exact hc
         ·intro E θ a w hD hi hp he hc
          have e11 := hp.of (k := 11) rfl
          have e13 := hp.of (k := 13) rfl
          have hf := he.h0
          replace hf := hf.more he 23 rfl (onP e11)
          replace hf := hf.more he 25 rfl (onP e13)
          refine stE hf hc rfl rfl rfl (eLd1 sc_25 rfl (cell_box m3 (tarr_cell0 one_kd_25 he_3 rfl))) fun a w hf hc => cNil ?_
          refine xThenN ?_
          intro ds u hau
          refine ⟨θ,he.put0 hi hau hf rfl 26 rfl rfl,?_⟩
          exact hc
         ·intro E θ a w hD hi hp he hc
          have e11 := hp.of (k := 11) rfl
          have hf := he.h0
          replace hf := hf.more he 8 rfl onT
          replace hf := hf.more he 23 rfl (onP e11)
          refine stP hf rfl rfl rfl (pM rfl) fun a hf => cNil ?_
          refine xThenN ?_
          intro ds u hau
          refine ⟨θ,he.put0 hi hau hf rfl 27 rfl rfl,?_⟩
          exact hc
         ·intro E θ a w hD hi hp he hc
          have e11 := hp.of (k := 11) rfl
          have e14 := hp.of (k := 14) rfl
          have e15 := hp.of (k := 15) rfl
          have hf := he.h0
          replace hf := hf.more he 23 rfl (onP e11)
          replace hf := hf.more he 26 rfl (onP e14)
          replace hf := hf.more he 27 rfl (onP e15)
          refine stE hf hc rfl rfl rfl (eC (v := .bool r_8) (vs := [.slice ((hsq_3 xv.toNat).1) e_3.length ((hsq_3 xv.toNat).2),.func (.func 112) #[] #[pq b_14,pq b_24,pq b_20]]) (caps := []) en_113 rfl rfl rfl rfl (fun w hc => (slices_ContainsFunc_Lint_int_s5_ok e_3 (⟨r,r_4.1⟩ : crew_work) xv x_1 (hz_fz_2 _ _ he_3) ((h_r_People.mono hle_fz_1).mono hle_fz_2) ((h_r_Stations.mono hle_fz_1).mono hle_fz_2) (pc_fz_1.mono hle_fz_2) (((hc.pick k1).pick k1).pick k5) hr_8).mono fun e w h => ⟨h.1,(((h.2.unpick k5).unpick k1).unpick k1)⟩)) fun a w hf hc => cNil ?_
          refine xThenN ?_
          intro ds u hau
          refine ⟨θ,he.put0 hi hau hf rfl 28 rfl rfl,?_⟩
          exact hc
         ·intro E θ a w hD hi hp he hc
          have e11 := hp.of (k := 11) rfl
          have e16 := hp.of (k := 16) rfl
          have hf := he.h0
          replace hf := hf.more he 23 rfl (onP e11)
          replace hf := hf.more he 28 rfl (onP e16)
          refine stP hf rfl rfl rfl (pPf rfl rfl) fun a hf => cNil ?_
          refine xThenN ?_
          intro ds u hau
          refine ⟨θ,he.put0 hi hau hf rfl 29 rfl rfl,?_⟩
          exact hc
         ·intro E θ a w hall he hc
          have hf := he.h0
          have e12 := hall 12 rfl
          have e13 := hall 13 rfl
          have e14 := hall 14 rfl
          have e15 := hall 15 rfl
          have e16 := hall 16 rfl
          have e17 := hall 17 rfl
          replace hf := hf.more he 29 rfl (onP e17)
          replace hf := hf.more he 28 rfl (onP e16)
          replace hf := hf.more he 27 rfl (onP e15)
          replace hf := hf.more he 26 rfl (onP e14)
          replace hf := hf.more he 25 rfl (onP e13)
          replace hf := hf.more he 24 rfl (onP e12)
          replace hf := hf.more he 11 rfl (onT)
          replace hf := hf.more he 10 rfl (onT)
          replace hf := hf.more he 9 rfl (onT)
          replace hf := hf.more he 7 rfl (onT)
          replace hf := hf.more he 6 rfl (onT)
          replace hf := hf.more he 5 rfl (onT)
          replace hf := hf.more he 4 rfl (onT)
          replace hf := hf.more he 3 rfl (onT)
          replace hf := hf.more he 2 rfl (onT)
          replace hf := hf.more he 1 rfl (onT)
          replace hf := hf.more he 0 rfl (onT)
          exact ⟨hf.kp rfl,hc⟩
         rintro a w ⟨hf,hc⟩
         refine xThenN ?_
         obtain rfl := sj hF
         exact ⟨hf.kp rfl,hc⟩
        ·replace hF := condT hb hF
         try rw [hb] at hf
         try rw [hb] at hc
         have hb1 := hb
         clear hb
         refine rRegE (fun _ _ h => h) rfl (fun θ => (⟨none,none,2,pq b_1⟩::⟨none,none,4,pq b_2⟩::⟨none,none,6,pq b_14⟩::⟨none,none,7,pq b_15⟩::⟨none,none,8,pq b_17⟩::⟨none,none,12,pq b_18⟩::⟨none,none,13,pq b_20⟩::⟨none,none,15,pq b_24⟩::⟨none,none,16,.func (.func 112) #[] #[pq b_14,pq b_24,pq b_20]⟩::⟨none,none,78,.slice assignment_p assignment.length assignment_c⟩::⟨none,none,79,i6 ((assignment.length : Nat) : Int)⟩::⟨none,none,80,i6 x_1⟩::⟨some 0,none,91,i6 xv⟩::⟨some 1,none,92,.pointer (some ⟨b_17,0 + xv.toNat * 1,none⟩)⟩::⟨some 2,none,93,.slice ((hsq_3 xv.toNat).1) e_3.length ((hsq_3 xv.toNat).2)⟩::⟨some 3,none,94,i6 ((e_3.length : Nat) : Int)⟩::⟨some 4,none,95,.pointer (some ⟨b_1,1,none⟩)⟩::⟨some 5,none,96,.slice r_Stations_p r.Stations.length r_Stations_c⟩::⟨some 6,none,97,i6 xv⟩::⟨some 7,none,98,.pointer (some ⟨b_25,o_2,none⟩)⟩::⟨some 8,none,99,.pointer (some ⟨b_25,o_2 + 0,none⟩)⟩::⟨some 9,none,100,i6 e_4.Places⟩::⟨some 10,none,101,.bool true⟩::⟨some 11,none,102,.bool true⟩::⟨some 12,none,103,undef⟩::⟨some 13,none,104,undef⟩::⟨some 14,none,105,undef⟩::⟨some 15,none,106,undef⟩::⟨some 16,none,107,undef⟩::⟨some 17,none,108,.bool true⟩::[])) (fun E θ => .box b_24 [i6 xv] 3::.box b_20 [i6 x_1] 3::.box b_18 [i6 x_6,i6 x_7] 86::.box b_17 ((tabR hsq_3 r_6).map (Kd.v kd_25)).flatten 172::.box b_15 [i6 x_5] 34::.box b_14 [pq b_13] 166::.box b_2 [i6 0,i6 0] 86::.box b_1 [.slice r_People_p r.People.length r_People_c,.slice r_Stations_p r.Stations.length r_Stations_c] 78::Lb) [] (fun a w => Has 115 a [(2,pq b_1),(4,pq b_2),(6,pq b_14),(7,pq b_15),(8,pq b_17),(12,pq b_18),(13,pq b_20),(15,pq b_24),(78,.slice assignment_p assignment.length assignment_c),(79,i6 ((assignment.length : Nat) : Int)),(80,i6 x_1),(103,undef),(104,undef),(105,undef),(106,undef),(107,undef),(108,.bool true)] ∧ Ctx G (.box b_24 [i6 xv] 3::.box b_20 [i6 x_1] 3::.box b_18 [i6 x_6,i6 x_7] 86::.box b_17 ((tabR hsq_3 r_6).map (Kd.v kd_25)).flatten 172::.box b_15 [i6 x_5] 34::.box b_14 [pq b_13] 166::.box b_2 [i6 0,i6 0] 86::.box b_1 [.slice r_People_p r.People.length r_People_c,.slice r_Stations_p r.Stations.length r_Stations_c] 78::Lb) w) follows_mx (by kernel_rfl) (by kernel_rfl) (HasE.of hf ⟨rfl,rfl,rfl,rfl,rfl,rfl,rfl,rfl,rfl,rfl,rfl,rfl,trivial,trivial,trivial,trivial,trivial,trivial,trivial,trivial,trivial,trivial,trivial,trivial,trivial,trivial,trivial,trivial,trivial,trivial,trivial⟩) hc ⟨?_,?_,?_,?_,?_,?_,?_,?_,?_,?_,?_,?_,?_,?_,?_,?_,?_,?_,trivial⟩ ?_ ?_
         ·intro E θ a w hD hi hp he hc
          have hf := he.h0
          replace hf := hf.more he 7 rfl onT
          refine stE hf hc rfl rfl rfl (eLd1 sc_3 rfl (cell_box m0 rfl)) fun a w hf hc => cNil ?_
          refine xThenN ?_
          intro ds u hau
          refine ⟨θ,he.put0 hi hau hf rfl 12 rfl rfl,?_⟩
          exact hc
         ·intro E θ a w hD hi hp he hc
          have e0 := hp.of (k := 0) rfl
          have hf := he.h0
          replace hf := hf.more he 4 rfl onT
          replace hf := hf.more he 12 rfl (onP e0)
          refine stP hf rfl rfl rfl (pIAA Tryz.underlying172 sz_25 rfl rfl (inR_spec hun_2).1 (inR_spec hun_2).2) fun a hf => cNil ?_
          refine xThenN ?_
          intro ds u hau
          refine ⟨θ,he.put0 hi hau hf rfl 13 rfl rfl,?_⟩
          exact hc
         ·intro E θ a w hD hi hp he hc
          have e1 := hp.of (k := 1) rfl
          have hf := he.h0
          replace hf := hf.more he 13 rfl (onP e1)
          refine stE hf hc rfl rfl rfl (eLd1 sc_25 rfl (cell_box m3 (tarr_cell0 one_kd_25 he_3 rfl))) fun a w hf hc => cNil ?_
          refine xThenN ?_
          intro ds u hau
          refine ⟨θ,he.put0 hi hau hf rfl 14 rfl rfl,?_⟩
          exact hc
         ·intro E θ a w hD hi hp he hc
          have e2 := hp.of (k := 2) rfl
          have hf := he.h0
          replace hf := hf.more he 14 rfl (onP e2)
          refine stP hf rfl rfl rfl (pLenS Tryz.underlying25 rfl) fun a hf => cNil ?_
          refine xThenN ?_
          intro ds u hau
          refine ⟨θ,he.put0 hi hau hf rfl 15 rfl rfl,?_⟩
          exact hc
         ·intro E θ a w hD hi hp he hc
          have hf := he.h0
          replace hf := hf.more he 0 rfl onT
          refine stP hf rfl rfl rfl (pFA fa_78_1 rfl) fun a hf => cNil ?_
          refine xThenN ?_
          intro ds u hau
          refine ⟨θ,he.put0 hi hau hf rfl 16 rfl rfl,?_⟩
          exact hc
         ·intro E θ a w hD hi hp he hc
          have e4 := hp.of (k := 4) rfl
          have hf := he.h0
          replace hf := hf.more he 16 rfl (onP e4)
          refine stE hf hc rfl rfl rfl (eLd1 sc_76 rfl (cell_box m7 rfl)) fun a w hf hc => cNil ?_
          refine xThenN ?_
          intro ds u hau
          refine ⟨θ,he.put0 hi hau hf rfl 17 rfl rfl,?_⟩
          exact hc
         ·intro E θ a w hD hi hp he hc
          have hf := he.h0
          replace hf := hf.more he 7 rfl onT
          refine stE hf hc rfl rfl rfl (eLd1 sc_3 rfl (cell_box m0 rfl)) fun a w hf hc => cNil ?_
          refine xThenN ?_
          intro ds u hau
          refine ⟨θ,he.put0 hi hau hf rfl 18 rfl rfl,?_⟩
          exact hc
         ·intro E θ a w hD hi hp he hc
          have e5 := hp.of (k := 5) rfl
          have e6 := hp.of (k := 6) rfl
          have hf := he.h0
          replace hf := hf.more he 17 rfl (onP e5)
          replace hf := hf.more he 18 rfl (onP e6)
          refine stP hf rfl rfl rfl (pIA Tryz.underlying76 sz_101 rfl rfl qa_2) fun a hf => cNil ?_
          refine xThenN ?_
          intro ds u hau
          refine ⟨θ,he.put0 hi hau hf rfl 19 rfl rfl,?_⟩
          exact hc
         ·intro E θ a w hD hi hp he hc
          have e7 := hp.of (k := 7) rfl
          have hf := he.h0
          replace hf := hf.more he 19 rfl (onP e7)
          refine stP hf rfl rfl rfl (pFA fa_101_0 rfl) fun a hf => cNil ?_
          refine xThenN ?_
          intro ds u hau
          refine ⟨θ,he.put0 hi hau hf rfl 20 rfl rfl,?_⟩
          exact hc
         ·intro E θ a w hD hi hp he hc
          have e8 := hp.of (k := 8) rfl
          have hf := he.h0
          replace hf := hf.more he 20 rfl (onP e8)
          refine stE hf hc rfl rfl rfl (eLd1 sc_3 rfl (cell_pc (j := 0) qp_2 rfl)) fun a w hf hc => cNil ?_
          refine xThenN ?_
          intro ds u hau
          refine ⟨θ,he.put0 hi hau hf rfl 21 rfl rfl,?_⟩
          exact hc
         ·intro E θ a w hD hi hp he hc
          have e3 := hp.of (k := 3) rfl
          have e9 := hp.of (k := 9) rfl
          have hf := he.h0
          replace hf := hf.more he 15 rfl (onP e3)
          replace hf := hf.more he 21 rfl (onP e9)
          refine stP hf rfl rfl rfl (pLt rfl rfl) fun a hf => ?_
          rw [hb1] at hf
          refine cNil ?_
          refine xThenN ?_
          intro ds u hau
          refine ⟨θ,he.put0 hi hau hf rfl 22 rfl rfl,?_⟩
          exact hc
         ·intro E θ a w hD hi hp he hc
          have e10 := hp.of (k := 10) rfl
          have hf := he.h0
          replace hf := hf.more he 22 rfl (onP e10)
          refine stP hf rfl rfl rfl (pM rfl) fun a hf => cNil ?_
          refine xThenN ?_
          intro ds u hau
          refine ⟨θ,he.put0 hi hau hf rfl 23 rfl rfl,?_⟩
          exact hc
         ·intro E θ a w hD hi hp he hc
          have e11 := hp.of (k := 11) rfl
          have hf := he.h0
          replace hf := hf.more he 7 rfl onT
          replace hf := hf.more he 23 rfl (onP e11)
          refine stS hf rfl rfl rfl fun a hf => cNil ?_
          refine xThenN ?_
          intro ds u hau
          refine ⟨θ,he.put0 hi hau hf rfl 24 rfl rfl,?_⟩
          exact hc
         ·intro E θ a w hD hi hp he hc
          have e11 := hp.of (k := 11) rfl
          have e12 := hp.of (k := 12) rfl
          have hf := he.h0
          replace hf := hf.more he 4 rfl onT
          replace hf := hf.more he 23 rfl (onP e11)
          replace hf := hf.more he 24 rfl (onP e12)
          refine stS hf rfl rfl rfl fun a hf => cNil ?_
          refine xThenN ?_
          intro ds u hau
          refine ⟨θ,he.put0 hi hau hf rfl 25 rfl rfl,?_⟩
          exact hc
         ·intro E θ a w hD hi hp he hc
          have e11 := hp.of (k := 11) rfl
          have e13 := hp.of (k := 13) rfl
          have hf := he.h0
          replace hf := hf.more he 23 rfl (onP e11)
          replace hf := hf.more he 25 rfl (onP e13)
          refine stS hf rfl rfl rfl fun a hf => cNil ?_
          refine xThenN ?_
          intro ds u hau
          refine ⟨θ,he.put0 hi hau hf rfl 26 rfl rfl,?_⟩
          exact hc
         ·intro E θ a w hD hi hp he hc
          have e11 := hp.of (k := 11) rfl
          have hf := he.h0
          replace hf := hf.more he 8 rfl onT
          replace hf := hf.more he 23 rfl (onP e11)
          refine stS hf rfl rfl rfl fun a hf => cNil ?_
          refine xThenN ?_
          intro ds u hau
          refine ⟨θ,he.put0 hi hau hf rfl 27 rfl rfl,?_⟩
          exact hc
         ·intro E θ a w hD hi hp he hc
          have e11 := hp.of (k := 11) rfl
          have e14 := hp.of (k := 14) rfl
          have e15 := hp.of (k := 15) rfl
          have hf := he.h0
          replace hf := hf.more he 23 rfl (onP e11)
          replace hf := hf.more he 26 rfl (onP e14)
          replace hf := hf.more he 27 rfl (onP e15)
          refine stS hf rfl rfl rfl fun a hf => cNil ?_
          refine xThenN ?_
          intro ds u hau
          refine ⟨θ,he.put0 hi hau hf rfl 28 rfl rfl,?_⟩
          exact hc
         ·intro E θ a w hD hi hp he hc
          have e11 := hp.of (k := 11) rfl
          have e16 := hp.of (k := 16) rfl
          have hf := he.h0
          replace hf := hf.more he 23 rfl (onP e11)
          replace hf := hf.more he 28 rfl (onP e16)
          refine stP hf rfl rfl rfl (pPt rfl rfl) fun a hf => cNil ?_
          refine xThenN ?_
          intro ds u hau
          refine ⟨θ,he.put0 hi hau hf rfl 29 rfl rfl,?_⟩
          exact hc
         ·intro E θ a w hall he hc
          have hf := he.h0
          have e12 := hall 12 rfl
          have e13 := hall 13 rfl
          have e14 := hall 14 rfl
          have e15 := hall 15 rfl
          have e16 := hall 16 rfl
          have e17 := hall 17 rfl
          replace hf := hf.more he 29 rfl (onP e17)
          replace hf := hf.more he 28 rfl (onP e16)
          replace hf := hf.more he 27 rfl (onP e15)
          replace hf := hf.more he 26 rfl (onP e14)
          replace hf := hf.more he 25 rfl (onP e13)
          replace hf := hf.more he 24 rfl (onP e12)
          replace hf := hf.more he 11 rfl (onT)
          replace hf := hf.more he 10 rfl (onT)
          replace hf := hf.more he 9 rfl (onT)
          replace hf := hf.more he 7 rfl (onT)
          replace hf := hf.more he 6 rfl (onT)
          replace hf := hf.more he 5 rfl (onT)
          replace hf := hf.more he 4 rfl (onT)
          replace hf := hf.more he 3 rfl (onT)
          replace hf := hf.more he 2 rfl (onT)
          replace hf := hf.more he 1 rfl (onT)
          replace hf := hf.more he 0 rfl (onT)
          exact ⟨hf.kp rfl,hc⟩
         rintro a w ⟨hf,hc⟩
         refine xThenN ?_
         obtain rfl := sj hF
         exact ⟨hf.kp rfl,hc⟩
       rintro a w ⟨hf,hc⟩
       refine h45 _ _ ?_
       refine rCond (b := rg) hf rfl (fun hb => ?_) (fun hb => ?_)
       ·replace hF := condT hb hF
        clear hb
        refine rSeq fun K46 h46 => rReg (fun _ _ h => h) rfl ?_
        refine stE hf hc rfl rfl rfl (eLd1 sc_3 rfl (cell_box m1 rfl)) fun a w hf hc => stE hf hc rfl rfl rfl (eLd1 sc_3 rfl (cell_box m0 rfl)) fun a w hf hc => stP hf rfl rfl rfl (pBuildS (cells := [i6 x_1,i6 xv]) bt_86 rfl rfl) fun a hf => stSt (vs := [i6 x_1,i6 xv]) hf hc rfl rfl rfl rfl sz_86 rfl rfl u2 fun w hc => stSt (vs := [i6 0]) hf hc rfl rfl rfl rfl sz_34 rfl rfl u4 fun w hc => cNil ?_
        refine h46 _ _ ?_
        refine rExit ?_
        refine cMiss rfl ?_
        refine xThen ?_
        replace hc := hc.drop k0
        exact (.inr ⟨rfl,(0,x_1,xv),_,(sj hF).symm,rfl,hc⟩)
       ·replace hF := condF hb hF
        clear hb
        refine rSkip ?_
        refine h43 _ _ ?_
        replace hc := hc.drop k0
        exact ⟨(x_5,x_6,x_7),_,(sj hF).symm,rfl,hc⟩
      ·rintro D_1 ⟨x_5,x_6,x_7⟩ _ a w hsF rfl hf hc
       replace hf : Has ⟨115,markL (D_1::Ds)⟩ a [(2,pq b_1),(4,pq b_2),(6,pq b_14),(7,pq b_15),(8,pq b_17),(12,pq b_18),(13,pq b_20),(78,.slice assignment_p assignment.length assignment_c),(79,i6 ((assignment.length : Nat) : Int)),(80,i6 x_1)] := hf.kp rfl
       replace hc : Ctx G (.box b_21 [pq b_13] 166::.box b_22 [i6 r_7.1] 3::.box b_23 [i6 r_7.2] 3::.box b_20 [i6 x_1] 3::.box b_18 [i6 x_6,i6 x_7] 86::.box b_17 ((tabR hsq_3 r_6).map (Kd.v kd_25)).flatten 172::.box b_15 [i6 x_5] 34::.box b_14 [pq b_13] 166::.box b_2 [i6 0,i6 0] 86::.box b_1 [.slice r_People_p r.People.length r_People_c,.slice r_Stations_p r.Stations.length r_Stations_c] 78::(raws (D_1::Ds) ++ Lf)) w := rawsIn (C := [.box b_21 [pq b_13] 166,.box b_22 [i6 r_7.1] 3,.box b_23 [i6 r_7.2] 3]) (L := [.box b_20 [i6 x_1] 3,.box b_18 [i6 x_6,i6 x_7] 86,.box b_17 ((tabR hsq_3 r_6).map (Kd.v kd_25)).flatten 172,.box b_15 [i6 x_5] 34,.box b_14 [pq b_13] 166,.box b_2 [i6 0,i6 0] 86,.box b_1 [.slice r_People_p r.People.length r_People_c,.slice r_Stations_p r.Stations.length r_Stations_c] 78]) hc
       replace hF : (some (.cont (W (x_1 + 1),x_5,x_6,x_7))) = some st35 := by rcases hsF with rfl | rfl <;> exact hF
       refine h39 _ _ ?_
       refine cReg ?_
       refine stP hf rfl rfl rfl (pAdd rfl rfl) fun a hf => stP hf rfl rfl rfl (pM rfl) fun a hf => cNil ?_
       replace hc := hc.drop k3
       replace hc := hc.drop k2
       replace hc := hc.drop k1
       replace hc := hc.drop k0
       exact hK35 (W (x_1 + 1),x_5,x_6,x_7) _ _ (sj hF).symm ⟨(D_1::Ds),hf.kp rfl,hc⟩
      ·rintro D_1 ⟨x_5,x_6,x_7⟩ _ a w hsF rfl hf hc
       replace hf : Has ⟨115,markL (D_1::Ds)⟩ a [(2,pq b_1),(4,pq b_2),(6,pq b_14),(7,pq b_15),(8,pq b_17),(12,pq b_18),(13,pq b_20),(78,.slice assignment_p assignment.length assignment_c),(79,i6 ((assignment.length : Nat) : Int)),(80,i6 x_1)] := hf.kp rfl
       replace hc : Ctx G (.box b_21 [pq b_13] 166::.box b_22 [i6 r_7.1] 3::.box b_23 [i6 r_7.2] 3::.box b_20 [i6 x_1] 3::.box b_18 [i6 x_6,i6 x_7] 86::.box b_17 ((tabR hsq_3 r_6).map (Kd.v kd_25)).flatten 172::.box b_15 [i6 x_5] 34::.box b_14 [pq b_13] 166::.box b_2 [i6 0,i6 0] 86::.box b_1 [.slice r_People_p r.People.length r_People_c,.slice r_Stations_p r.Stations.length r_Stations_c] 78::(raws (D_1::Ds) ++ Lf)) w := rawsIn (C := [.box b_21 [pq b_13] 166,.box b_22 [i6 r_7.1] 3,.box b_23 [i6 r_7.2] 3]) (L := [.box b_20 [i6 x_1] 3,.box b_18 [i6 x_6,i6 x_7] 86,.box b_17 ((tabR hsq_3 r_6).map (Kd.v kd_25)).flatten 172,.box b_15 [i6 x_5] 34,.box b_14 [pq b_13] 166,.box b_2 [i6 0,i6 0] 86,.box b_1 [.slice r_People_p r.People.length r_People_c,.slice r_Stations_p r.Stations.length r_Stations_c] 78]) hc
       replace hF : (some (.brk (x_1,x_5,x_6,x_7))) = some st35 := by subst hsF; exact hF
       refine cMiss rfl ?_
       refine xThen ?_
       refine xThen ?_
       replace hc := hc.drop k3
       replace hc := hc.drop k2
       replace hc := hc.drop k1
       replace hc := hc.drop k0
       have he := sj hF
       rw [← he] at hfin35
       refine cHit ?_
       exact hr35 _ _ _ hfin35 ⟨(D_1::Ds),hf.kp rfl,hc⟩
     ·replace hF := condF hb hF
      clear hb
      refine wp_exit ?_
      refine xThen ?_
      refine xThen ?_
      have he := sj hF
      rw [← he] at hfin35
      refine cHit ?_
      exact hr35 _ _ _ hfin35 ⟨Ds,hf.kp rfl,hc⟩
    have ho30 : ∀ r,x30 = .out r → r = res := by
     rintro r rfl
     exact sj hF
    refine cLoop N (loopW (S := S30) (x := x30) ?_ N 0 _ _ ⟨hf.kp rfl,hc⟩ hx30)
    clear hF hf hc
    rintro x st30 a w KB30 ⟨hf,hc⟩ hF hfin30 hK30
    unfold crew_Blocks_b30 at hF
    refine wp_seq_k fun K47 h47 => cReg ?_
    refine stP hf rfl rfl rfl (pLt rfl rfl) fun a hf => cNil ?_
    refine h47 _ _ ?_
    refine wp_seq_k fun K48 h48 => cCond (b := (decide (x < ((assignment.length : Nat) : Int)))) hf rfl (fun hb => ?_) (fun hb => ?_)
    ·replace hF := condT hb hF
     clear hb
     refine wp_skip ?_
     refine h48 _ _ ?_
     refine wp_seq_k fun K49 h49 => wp_block ?_
     refine wp_seq_k fun K50 h50 => cReg ?_
     refine stP hf rfl rfl rfl (pM rfl) fun a hf => ?_
     obtain ⟨e_5,he_5,hF⟩ := bnd_some hF
     obtain ⟨b_26,o_3,qa_3,qp_3⟩ := ((h_assignment.mono hle_fz_1).mono hle_fz_2).atm he_5
     refine stP hf rfl rfl rfl (pIA Tryz.underlying25 sz_3 rfl rfl qa_3) fun a hf => stE hf hc rfl rfl rfl (eLd1 sc_3 rfl (cell_pc (j := 0) qp_3 rfl)) fun a w hf hc => stP hf rfl rfl rfl (pA rfl) fun a hf => stP hf rfl rfl rfl (pA rfl) fun a hf => cNil ?_
     refine h50 _ _ ?_
     refine wp_seq_k fun K51 h51 => ?_
     obtain ⟨t_4,ht_4,hF⟩ := bnd_some hF
     refine cQ hc follows_mx (by kernel_rfl) ?_
     refine qE hf rfl rfl rfl (Pu.ev (pM rfl)) fun a hf => qE hf rfl rfl rfl (Pu.ev (pNe rfl rfl)) fun a hf => qE hf rfl rfl rfl (Pu.ev (pM rfl)) fun a hf => qCut 19 (fun a => Has 115 a [(1,.slice assignment_p assignment.length assignment_c),(2,pq b_1),(4,pq b_2),(6,pq b_14),(7,pq b_15),(8,pq b_17),(9,.func (.func 110) #[pq b_13] #[]),(46,.slice assignment_p assignment.length assignment_c),(47,i6 ((assignment.length : Nat) : Int)),(48,i6 x),(10,i6 x),(11,i6 e_5),(53,i6 e_5),(54,.bool (e_5 != (-1))),(55,.bool (e_5 != (-1))),(74,.bool t_4)]) ?_ ?_
     ·cases hb : (e_5 != (-1))
      ·rw [hb] at hf
       have hF := condF hb ht_4
       obtain rfl := sj hF
       refine qS hf rfl rfl rfl fun a hf => qS hf rfl rfl rfl fun a hf => qS hf rfl rfl rfl fun a hf => qS hf rfl rfl rfl fun a hf => qS hf rfl rfl rfl fun a hf => qS hf rfl rfl rfl fun a hf => qS hf rfl rfl rfl fun a hf => qS hf rfl rfl rfl fun a hf => qS hf rfl rfl rfl fun a hf => qS hf rfl rfl rfl fun a hf => qS hf rfl rfl rfl fun a hf => qS hf rfl rfl rfl fun a hf => qS hf rfl rfl rfl fun a hf => ?_
       refine qS hf rfl rfl rfl fun a hf => qS hf rfl rfl rfl fun a hf => qS hf rfl rfl rfl fun a hf => qS hf rfl rfl rfl fun a hf => qS hf rfl rfl rfl fun a hf => qE hf rfl rfl rfl (Pu.ev (pPf rfl rfl)) fun a hf => qNil (hf.kp rfl)
      ·rw [hb] at hf
       have hF := condT hb ht_4
       obtain ⟨r_9,hr_9,hF⟩ := bnd_some hF
       obtain ⟨t_3,ht_3,hF⟩ := bnd_some hF
       refine qE hf rfl rfl rfl (Pu.ev (pM rfl)) fun a hf => qE hf rfl rfl rfl (Pu.ev (pM rfl)) fun a hf => qE hf rfl rfl rfl (Pu.ev (pM rfl)) fun a hf => qE hf rfl rfl rfl (eCB (v := .bool r_9) (bs := [pq b_13]) (vs := [i6 x,i6 e_5]) (caps := []) en_110 rfl rfl rfl rfl (fun w hc => crew_work_possible_ok (⟨r,r_4.1⟩ : crew_work) x e_5 ((h_r_People.mono hle_fz_1).mono hle_fz_2) ((h_r_Stations.mono hle_fz_1).mono hle_fz_2) (pc_fz_1.mono hle_fz_2) hc hr_9)) fun a hf => qE hf rfl rfl rfl (Pu.ev (pNot rfl)) fun a hf => qE hf rfl rfl rfl (Pu.ev (pM rfl)) fun a hf => qCut 12 (fun a => Has 115 a [(1,.slice assignment_p assignment.length assignment_c),(2,pq b_1),(4,pq b_2),(6,pq b_14),(7,pq b_15),(8,pq b_17),(9,.func (.func 110) #[pq b_13] #[]),(46,.slice assignment_p assignment.length assignment_c),(47,i6 ((assignment.length : Nat) : Int)),(48,i6 x),(10,i6 x),(11,i6 e_5),(53,i6 e_5),(54,.bool true),(55,.bool true),(56,.func (.func 110) #[pq b_13] #[]),(57,i6 x),(58,i6 e_5),(59,.bool r_9),(60,.bool (!r_9)),(61,.bool (!r_9)),(73,.bool t_3)]) ?_ ?_
       ·cases hb : (!r_9)
        ·rw [hb] at hf
         have hF := condF hb ht_3
         obtain ⟨un_3,hun_3,hF⟩ := bnd_some hF
         obtain ⟨e_6,he_6,hF⟩ := bnd_some hF
         obtain ⟨e_7,he_7,hF⟩ := bnd_some hF
         obtain ⟨b_27,o_4,hd_1,qa_4,qp_4,qr_1⟩ := ((h_r_Stations.mono hle_fz_1).mono hle_fz_2).atm he_7
         refine qE hf rfl rfl rfl (Pu.ev (pM rfl)) fun a hf => qE hf rfl rfl rfl (Pu.ev (pIAA Tryz.underlying172 sz_25 rfl rfl (inR_spec hun_3).1 (inR_spec hun_3).2)) fun a hf => qE hf rfl rfl rfl (eLd1 sc_25 rfl (cell_box m0 (tarr_cell0 one_kd_25 he_6 rfl))) fun a hf => qE hf rfl rfl rfl (Pu.ev (pLenS Tryz.underlying25 rfl)) fun a hf => qE hf rfl rfl rfl (Pu.ev (pFA fa_78_1 rfl)) fun a hf => qE hf rfl rfl rfl (eLd1 sc_76 rfl (cell_box m4 rfl)) fun a hf => qE hf rfl rfl rfl (Pu.ev (pM rfl)) fun a hf => qE hf rfl rfl rfl (Pu.ev (pIA Tryz.underlying76 sz_101 rfl rfl qa_4)) fun a hf => qE hf rfl rfl rfl (Pu.ev (pFA fa_101_0 rfl)) fun a hf => qE hf rfl rfl rfl (eLd1 sc_3 rfl (cell_pc (j := 0) qp_4 rfl)) fun a hf => qE hf rfl rfl rfl (Pu.ev (pGt rfl rfl)) fun a hf => qE hf rfl rfl rfl (Pu.ev (pPf rfl rfl)) fun a hf => ?_
         obtain rfl := sj hF
         exact qNil (hf.kp rfl)
        ·rw [hb] at hf
         have hF := condT hb ht_3
         obtain rfl := sj hF
         refine qS hf rfl rfl rfl fun a hf => qS hf rfl rfl rfl fun a hf => qS hf rfl rfl rfl fun a hf => qS hf rfl rfl rfl fun a hf => qS hf rfl rfl rfl fun a hf => qS hf rfl rfl rfl fun a hf => qS hf rfl rfl rfl fun a hf => qS hf rfl rfl rfl fun a hf => qS hf rfl rfl rfl fun a hf => qS hf rfl rfl rfl fun a hf => qS hf rfl rfl rfl fun a hf => qE hf rfl rfl rfl (Pu.ev (pPt rfl rfl)) fun a hf => qNil (hf.kp rfl)
       intro a hf
       refine qE hf rfl rfl rfl (Pu.ev (pPt rfl rfl)) fun a hf => ?_
       obtain rfl := sj hF
       exact qNil (hf.kp rfl)
     intro a hf
     intro w hc
     refine h51 _ _ ?_
     refine cCond (b := t_4) hf rfl (fun hb => ?_) (fun hb => ?_)
     ·replace hF := condT hb hF
      clear hb
      refine wp_seq_k fun K52 h52 => cReg ?_
      refine stP hf rfl rfl rfl (pBuildS (cells := [i6 0,i6 0]) bt_86 rfl rfl) fun a hf => stSt (vs := [i6 0,i6 0]) hf hc rfl rfl rfl rfl sz_86 rfl rfl u3 fun w hc => stP hf rfl rfl rfl (pA rfl) fun a hf => cNil ?_
      refine h52 _ _ ?_
      refine wp_ret ?_
      refine xBlkR ?_
      refine xThenR ?_
      refine xThenR ?_
      have he := sj hF
      rw [← he] at hfin30
      replace hF := ho30 _ hfin30
      refine xBlkR ?_
      refine xThenR ?_
      refine xScopeR ?_
      obtain rfl := hF
      replace hc := hc.down hle_fz_2
      replace hc := hc.down hle_fz_1
      replace hc := hc.drop k4
      replace hc := hc.drop k2
      replace hc := hc.drop k1
      replace hc := hc.drop k0
      refine outM hf ?_
      exact outM2 Tryz.results46 hf hc (rv_cellN (vs := [i6 0,i6 0]) ag_86 rfl rfl (cells_box (n := 2) m0 rfl)) (show look _ 5 = _ from rfl) ⟨rfl,(hc.drop k0)⟩
     ·replace hF := condF hb hF
      clear hb
      refine wp_skip ?_
      refine h49 _ _ ?_
      refine cReg ?_
      refine stP hf rfl rfl rfl (pAdd rfl rfl) fun a hf => stP hf rfl rfl rfl (pM rfl) fun a hf => cNil ?_
      exact hK30 (W (x + 1)) _ _ (sj hF).symm ⟨hf.kp rfl,hc⟩
    ·replace hF := condF hb hF
     clear hb
     refine wp_exit ?_
     refine xThen ?_
     refine xThen ?_
     have he := sj hF
     rw [← he] at hfin30
     refine cHit ?_
     exact hr30 _ _ _ hfin30 ⟨hf.kp rfl,hc⟩

def crew_Holds_1 (x : crew_Refusal) (x_1 : crew_Roster) : Bool :=
 ((crew_in x.Person 0 (W (((x_1.People.length : Nat) : Int) - 1))) && (crew_in x.Station 0 (W (((x_1.Stations.length : Nat) : Int) - 1))))
theorem crew_Holds_1_ok {G : Pers} {Lf : List Ent} {w : World} (x : crew_Refusal) (x_1 : crew_Roster) {b_ : Nat} {x_1_People_p : Option Addr} {x_1_People_c : Nat} {x_1_Stations_p : Option Addr} {x_1_Stations_c : Nat} (h_x_1_People : RdT kd_25 G 1 x_1_People_p x_1_People_c x_1.People) (h_x_1_Stations : RdT kd_101 G 2 x_1_Stations_p x_1_Stations_c x_1.Stations) (hc : Ctx G (.box b_ [.slice x_1_People_p x_1.People.length x_1_People_c,.slice x_1_Stations_p x_1.Stations.length x_1_Stations_c] 78::Lf) w) {res : Bool} (hF : crew_Holds_1 x x_1 = res) : Calls Tryz.prog 129 #[.agg #[i6 x.Person,i6 x.Station],pq b_] w (fun e w => e = .returned (.bool res) ∧ Ctx G (.box b_ [.slice x_1_People_p x_1.People.length x_1_People_c,.slice x_1_Stations_p x_1.Stations.length x_1_Stations_c] 78::Lf) w) := by
 unfold crew_Holds_1 at hF
 refine fnIn (args := [.agg #[i6 x.Person,i6 x.Station],pq b_]) Tryz.func129 rfl Tryz.ntmps129 rfl fun a hf => wp_seq_k fun K1 h1 => cReg ?_
 refine stBx (cs := [i6 x.Person,i6 x.Station]) hf hc rfl rfl rfl rfl fun b_1 a w hf hc => stP hf rfl rfl rfl (pA rfl) fun a hf => cNil ?_
 refine h1 _ _ ?_
 refine wp_seq_k fun K2 h2 => cReg ?_
 refine stP hf rfl rfl rfl (pFA fa_86_0 rfl) fun a hf => stE hf hc rfl rfl rfl (eLd1 sc_3 rfl (cell_box m0 rfl)) fun a w hf hc => stP hf rfl rfl rfl (pFA fa_78_0 rfl) fun a hf => stE hf hc rfl rfl rfl (eLd1 sc_75 rfl (cell_box m1 rfl)) fun a w hf hc => stP hf rfl rfl rfl (pLenS Tryz.underlying75 rfl) fun a hf => stP hf rfl rfl rfl (pSub rfl rfl) fun a hf => stE hf hc rfl rfl rfl (eC (v := .bool (crew_in x.Person 0 (W (((x_1.People.length : Nat) : Int) - 1)))) (vs := [i6 x.Person,i6 0,i6 (W (((x_1.People.length : Nat) : Int) - 1))]) (caps := []) en_86 rfl rfl rfl rfl (fun w hc => crew_in_ok x.Person 0 (W (((x_1.People.length : Nat) : Int) - 1)) hc rfl)) fun a w hf hc => stP hf rfl rfl rfl (pM rfl) fun a hf => stCut 8 (fun a w => Has 20 a [(1,pq b_),(2,pq b_1),(3,.bool false),(4,pq b_1),(5,i6 x.Person),(6,pq b_),(7,.slice x_1_People_p x_1.People.length x_1_People_c),(8,i6 ((x_1.People.length : Nat) : Int)),(9,i6 (W (((x_1.People.length : Nat) : Int) - 1))),(10,.bool (crew_in x.Person 0 (W (((x_1.People.length : Nat) : Int) - 1)))),(11,.bool (crew_in x.Person 0 (W (((x_1.People.length : Nat) : Int) - 1)))),(19,.bool ((crew_in x.Person 0 (W (((x_1.People.length : Nat) : Int) - 1))) && (crew_in x.Station 0 (W (((x_1.Stations.length : Nat) : Int) - 1)))))] ∧ Ctx G (.box b_1 [i6 x.Person,i6 x.Station] 86::.box b_ [.slice x_1_People_p x_1.People.length x_1_People_c,.slice x_1_Stations_p x_1.Stations.length x_1_Stations_c] 78::Lf) w) ?_ ?_
 ·cases hb : (crew_in x.Person 0 (W (((x_1.People.length : Nat) : Int) - 1)))
  ·rw [hb] at hf
   refine stS hf rfl rfl rfl fun a hf => stS hf rfl rfl rfl fun a hf => stS hf rfl rfl rfl fun a hf => stS hf rfl rfl rfl fun a hf => stS hf rfl rfl rfl fun a hf => stS hf rfl rfl rfl fun a hf => stS hf rfl rfl rfl fun a hf => stP hf rfl rfl rfl (pPf rfl rfl) fun a hf => cNil ⟨hf.kp rfl,hc⟩
  ·rw [hb] at hf
   refine stP hf rfl rfl rfl (pFA fa_86_1 rfl) fun a hf => stE hf hc rfl rfl rfl (eLd1 sc_3 rfl (cell_box m0 rfl)) fun a w hf hc => stP hf rfl rfl rfl (pFA fa_78_1 rfl) fun a hf => stE hf hc rfl rfl rfl (eLd1 sc_76 rfl (cell_box m1 rfl)) fun a w hf hc => stP hf rfl rfl rfl (pLenS Tryz.underlying76 rfl) fun a hf => stP hf rfl rfl rfl (pSub rfl rfl) fun a hf => stE hf hc rfl rfl rfl (eC (v := .bool (crew_in x.Station 0 (W (((x_1.Stations.length : Nat) : Int) - 1)))) (vs := [i6 x.Station,i6 0,i6 (W (((x_1.Stations.length : Nat) : Int) - 1))]) (caps := []) en_86 rfl rfl rfl rfl (fun w hc => crew_in_ok x.Station 0 (W (((x_1.Stations.length : Nat) : Int) - 1)) hc rfl)) fun a w hf hc => stP hf rfl rfl rfl (pPt rfl rfl) fun a hf => cNil ⟨hf.kp rfl,hc⟩
 intro a w ⟨hf,hc⟩
 refine stP hf rfl rfl rfl (pA rfl) fun a hf => cNil ?_
 refine h2 _ _ ?_
 refine wp_ret ?_
 obtain rfl := hF
 replace hc := hc.drop k0
 exact fnOut1 (by simp) rfl Tryz.results129 hf hc (show look _ 3 = _ from rfl) ⟨rfl,hc⟩

def crew_every_crew_Refusal_1 (x : crew_Refusal) (x_1 : crew_Roster) : Bool :=
 (!(crew_Holds_1 x x_1))
theorem crew_every_crew_Refusal_1_ok {G : Pers} {Lf : List Ent} {w : World} (x : crew_Refusal) (x_1 : crew_Roster) {b_ : Nat} {b__1 : Nat} {x_1_People_p : Option Addr} {x_1_People_c : Nat} {x_1_Stations_p : Option Addr} {x_1_Stations_c : Nat} (h_x_1_People : RdT kd_25 G 1 x_1_People_p x_1_People_c x_1.People) (h_x_1_Stations : RdT kd_101 G 2 x_1_Stations_p x_1_Stations_c x_1.Stations) (hc : Ctx G (.box b_ [.func (.func 129) #[] #[pq b__1]] 192::.box b__1 [.slice x_1_People_p x_1.People.length x_1_People_c,.slice x_1_Stations_p x_1.Stations.length x_1_Stations_c] 78::Lf) w) {res : Bool} (hF : crew_every_crew_Refusal_1 x x_1 = res) : Calls Tryz.prog 172 #[.agg #[i6 x.Person,i6 x.Station],pq b_] w (fun e w => e = .returned (.bool res) ∧ Ctx G (.box b_ [.func (.func 129) #[] #[pq b__1]] 192::.box b__1 [.slice x_1_People_p x_1.People.length x_1_People_c,.slice x_1_Stations_p x_1.Stations.length x_1_Stations_c] 78::Lf) w) := by
 unfold crew_every_crew_Refusal_1 at hF
 refine fnIn (args := [.agg #[i6 x.Person,i6 x.Station],pq b_]) Tryz.func172 rfl Tryz.ntmps172 rfl fun a hf => wp_seq_k fun K1 h1 => cReg ?_
 refine stBx (cs := [i6 x.Person,i6 x.Station]) hf hc rfl rfl rfl rfl fun b_1 a w hf hc => stP hf rfl rfl rfl (pA rfl) fun a hf => cNil ?_
 refine h1 _ _ ?_
 refine wp_seq_k fun K2 h2 => cReg ?_
 refine stE hf hc rfl rfl rfl (eLd1 sc_192 rfl (cell_box m1 rfl)) fun a w hf hc => stE hf hc rfl rfl rfl (eLdN (vs := [i6 x.Person,i6 x.Station]) ag_86 rfl rfl (cells_box (n := 2) m0 rfl)) fun a w hf hc => stE hf hc rfl rfl rfl (eC (v := .bool (crew_Holds_1 x x_1)) (vs := [.agg #[i6 x.Person,i6 x.Station]]) (caps := [pq b__1]) en_129 rfl rfl rfl rfl (fun w hc => (crew_Holds_1_ok x x_1 h_x_1_People h_x_1_Stations (hc.pick k2) rfl).mono fun e w h => ⟨h.1,(h.2.unpick k2)⟩)) fun a w hf hc => stP hf rfl rfl rfl (pNot rfl) fun a hf => stP hf rfl rfl rfl (pA rfl) fun a hf => cNil ?_
 refine h2 _ _ ?_
 refine wp_ret ?_
 obtain rfl := hF
 replace hc := hc.drop k0
 exact fnOut1 (by simp) rfl Tryz.results172 hf hc (show look _ 3 = _ from rfl) ⟨rfl,hc⟩

def slices_IndexFunc_Lcrew_Refusal_crew_Refusal_s2_b4 (N : Nat) (s_ : List crew_Refusal) (f_ : crew_Roster) (x : Int) : Option (Step (Int) (Int)) :=
 cond (decide (x < ((s_.length : Nat) : Int)))
 (Option.bind (getI s_ x) fun e_1 =>
 cond (crew_every_crew_Refusal_1 e_1 f_)
 (some (.ret x))
 (some (.cont (W (x + 1)))))
 (some (.brk x))
def slices_IndexFunc_Lcrew_Refusal_crew_Refusal_s2 (N : Nat) (s_ : List crew_Refusal) (f_ : crew_Roster) : Option (Int) :=
 Option.bind (loopO (fun s4 => slices_IndexFunc_Lcrew_Refusal_crew_Refusal_s2_b4 N s_ f_ s4) N 0) fun x4 =>
 exK x4 (fun s4 => some (-1)) some
theorem slices_IndexFunc_Lcrew_Refusal_crew_Refusal_s2_ok {N : Nat} {G : Pers} {Lf : List Ent} {w : World} (s_ : List crew_Refusal) (f_ : crew_Roster) {s__p : Option Addr} {s__c : Nat} {b_ : Nat} {b__1 : Nat} {f__People_p : Option Addr} {f__People_c : Nat} {f__Stations_p : Option Addr} {f__Stations_c : Nat} (h_s_ : Rd G 2 s__p s__c (s_.map enc_crew_Refusal)) (h_f__People : RdT kd_25 G 1 f__People_p f__People_c f_.People) (h_f__Stations : RdT kd_101 G 2 f__Stations_p f__Stations_c f_.Stations) (hc : Ctx G (.box b_ [.func (.func 129) #[] #[pq b__1]] 192::.box b__1 [.slice f__People_p f_.People.length f__People_c,.slice f__Stations_p f_.Stations.length f__Stations_c] 78::Lf) w) {res : Int} (hF : slices_IndexFunc_Lcrew_Refusal_crew_Refusal_s2 N s_ f_ = some res) : Calls Tryz.prog 188 #[.slice s__p s_.length s__c,.func (.func 172) #[] #[pq b_]] w (fun e w => e = .returned (i6 res) ∧ Ctx G (.box b_ [.func (.func 129) #[] #[pq b__1]] 192::.box b__1 [.slice f__People_p f_.People.length f__People_c,.slice f__Stations_p f_.Stations.length f__Stations_c] 78::Lf) w) := by
 unfold slices_IndexFunc_Lcrew_Refusal_crew_Refusal_s2 at hF
 refine fnIn (args := [.slice s__p s_.length s__c,.func (.func 172) #[] #[pq b_]]) Tryz.func188 rfl Tryz.ntmps188 rfl fun a hf => wp_seq_k fun K1 h1 => cReg ?_
 refine stP hf rfl rfl rfl (pA rfl) fun a hf => cNil ?_
 refine h1 _ _ ?_
 refine wp_seq_k fun K2 h2 => wp_seq_k fun K3 h3 => cReg ?_
 refine stP hf rfl rfl rfl (pM rfl) fun a hf => stP hf rfl rfl rfl (pLenS Tryz.underlying99 rfl) fun a hf => stP hf rfl rfl rfl (pM rfl) fun a hf => cNil ?_
 refine h3 _ _ ?_
 refine wp_block ?_
 obtain ⟨x4,hx4,hF⟩ := bnd_some hF
 let S4 : Int → Act → World → Prop := (fun (zz : Int) a w => Has 19 a [(0,.slice s__p s_.length s__c),(1,.func (.func 172) #[] #[pq b_]),(7,i6 ((s_.length : Nat) : Int)),(8,i6 zz)] ∧ Ctx G (.box b_ [.func (.func 129) #[] #[pq b__1]] 192::.box b__1 [.slice f__People_p f_.People.length f__People_c,.slice f__Stations_p f_.Stations.length f__Stations_c] 78::Lf) w)
 have hr4 : ∀ (zz : Int) a w,x4 = .go zz → S4 zz a w → K2 a w := by
  rintro x a w rfl ⟨hf,hc⟩
  replace hF := exK_go hF
  refine h2 _ _ ?_
  refine wp_seq_k fun K5 h5 => cReg ?_
  refine stP hf rfl rfl rfl (pA rfl) fun a hf => cNil ?_
  refine h5 _ _ ?_
  refine wp_ret ?_
  obtain rfl := sj hF
  exact fnOut1 (by simp) rfl Tryz.results188 hf hc (show look _ 4 = _ from rfl) ⟨rfl,hc⟩
 have ho4 : ∀ r,x4 = .out r → r = res := by
  rintro r rfl
  exact sj hF
 refine cLoop N (loopW (S := S4) (x := x4) ?_ N 0 _ _ ⟨hf.kp rfl,hc⟩ hx4)
 clear hF hf hc
 rintro x st4 a w KB4 ⟨hf,hc⟩ hF hfin4 hK4
 unfold slices_IndexFunc_Lcrew_Refusal_crew_Refusal_s2_b4 at hF
 refine wp_seq_k fun K6 h6 => cReg ?_
 refine stP hf rfl rfl rfl (pLt rfl rfl) fun a hf => cNil ?_
 refine h6 _ _ ?_
 refine wp_seq_k fun K7 h7 => cCond (b := (decide (x < ((s_.length : Nat) : Int)))) hf rfl (fun hb => ?_) (fun hb => ?_)
 ·replace hF := condT hb hF
  clear hb
  refine wp_skip ?_
  refine h7 _ _ ?_
  refine wp_seq_k fun K8 h8 => wp_block ?_
  refine wp_seq_k fun K9 h9 => cReg ?_
  refine stP hf rfl rfl rfl (pM rfl) fun a hf => stP hf rfl rfl rfl (pA rfl) fun a hf => cNil ?_
  refine h9 _ _ ?_
  refine wp_seq_k fun K10 h10 => cReg ?_
  refine stP hf rfl rfl rfl (pM rfl) fun a hf => stP hf rfl rfl rfl (pM rfl) fun a hf => stP hf rfl rfl rfl (pM rfl) fun a hf => ?_
  obtain ⟨e_1,he_1,hF⟩ := bnd_some hF
  obtain ⟨b_1,o,qa,qp⟩ := h_s_.atm he_1
  refine stP hf rfl rfl rfl (pIA Tryz.underlying99 sz_86 rfl rfl qa) fun a hf => stE hf hc rfl rfl rfl (eLdN (vs := [i6 e_1.Person,i6 e_1.Station]) ag_86 rfl rfl (cells_pc qp (n := 2) (o' := 0) rfl)) fun a w hf hc => stE hf hc rfl rfl rfl (eC (v := .bool (crew_every_crew_Refusal_1 e_1 f_)) (vs := [.agg #[i6 e_1.Person,i6 e_1.Station]]) (caps := [pq b_]) en_172 rfl rfl rfl rfl (fun w hc => (crew_every_crew_Refusal_1_ok e_1 f_ h_f__People h_f__Stations ((hc.pick k1).pick k1) rfl).mono fun e w h => ⟨h.1,((h.2.unpick k1).unpick k1)⟩)) fun a w hf hc => cNil ?_
  refine h10 _ _ ?_
  refine cCond (b := (crew_every_crew_Refusal_1 e_1 f_)) hf rfl (fun hb => ?_) (fun hb => ?_)
  ·replace hF := condT hb hF
   clear hb
   refine wp_seq_k fun K11 h11 => cReg ?_
   refine stP hf rfl rfl rfl (pM rfl) fun a hf => stP hf rfl rfl rfl (pA rfl) fun a hf => cNil ?_
   refine h11 _ _ ?_
   refine wp_ret ?_
   refine xBlkR ?_
   refine xThenR ?_
   refine xThenR ?_
   have he := sj hF
   rw [← he] at hfin4
   replace hF := ho4 _ hfin4
   refine xBlkR ?_
   refine xThenR ?_
   obtain rfl := hF
   exact fnOut1 (by simp) rfl Tryz.results188 hf hc (show look _ 4 = _ from rfl) ⟨rfl,hc⟩
  ·replace hF := condF hb hF
   clear hb
   refine wp_skip ?_
   refine h8 _ _ ?_
   refine cReg ?_
   refine stP hf rfl rfl rfl (pAdd rfl rfl) fun a hf => stP hf rfl rfl rfl (pM rfl) fun a hf => cNil ?_
   exact hK4 (W (x + 1)) _ _ (sj hF).symm ⟨hf.kp rfl,hc⟩
 ·replace hF := condF hb hF
  clear hb
  refine wp_exit ?_
  refine xThen ?_
  refine xThen ?_
  have he := sj hF
  rw [← he] at hfin4
  refine cHit ?_
  exact hr4 _ _ _ hfin4 ⟨hf.kp rfl,hc⟩

def slices_ContainsFunc_Lcrew_Refusal_crew_Refusal_s2 (N : Nat) (s_ : List crew_Refusal) (f_ : crew_Roster) : Option (Bool) :=
 Option.bind (slices_IndexFunc_Lcrew_Refusal_crew_Refusal_s2 N s_ f_) fun r =>
 some (decide (0 ≤ r))
theorem slices_ContainsFunc_Lcrew_Refusal_crew_Refusal_s2_ok {N : Nat} {G : Pers} {Lf : List Ent} {w : World} (s_ : List crew_Refusal) (f_ : crew_Roster) {s__p : Option Addr} {s__c : Nat} {b_ : Nat} {b__1 : Nat} {f__People_p : Option Addr} {f__People_c : Nat} {f__Stations_p : Option Addr} {f__Stations_c : Nat} (h_s_ : Rd G 2 s__p s__c (s_.map enc_crew_Refusal)) (h_f__People : RdT kd_25 G 1 f__People_p f__People_c f_.People) (h_f__Stations : RdT kd_101 G 2 f__Stations_p f__Stations_c f_.Stations) (hc : Ctx G (.box b_ [.func (.func 129) #[] #[pq b__1]] 192::.box b__1 [.slice f__People_p f_.People.length f__People_c,.slice f__Stations_p f_.Stations.length f__Stations_c] 78::Lf) w) {res : Bool} (hF : slices_ContainsFunc_Lcrew_Refusal_crew_Refusal_s2 N s_ f_ = some res) : Calls Tryz.prog 164 #[.slice s__p s_.length s__c,.func (.func 172) #[] #[pq b_]] w (fun e w => e = .returned (.bool res) ∧ Ctx G (.box b_ [.func (.func 129) #[] #[pq b__1]] 192::.box b__1 [.slice f__People_p f_.People.length f__People_c,.slice f__Stations_p f_.Stations.length f__Stations_c] 78::Lf) w) := by
 unfold slices_ContainsFunc_Lcrew_Refusal_crew_Refusal_s2 at hF
 refine fnIn (args := [.slice s__p s_.length s__c,.func (.func 172) #[] #[pq b_]]) Tryz.func164 rfl Tryz.ntmps164 rfl fun a hf => wp_seq_k fun K1 h1 => cReg ?_
 refine stP hf rfl rfl rfl (pA rfl) fun a hf => cNil ?_
 refine h1 _ _ ?_
 refine wp_seq_k fun K2 h2 => cReg ?_
 refine stP hf rfl rfl rfl (pM rfl) fun a hf => stP hf rfl rfl rfl (pM rfl) fun a hf => ?_
 obtain ⟨r,hr,hF⟩ := bnd_some hF
 refine stE hf hc rfl rfl rfl (eC (v := i6 r) (vs := [.slice s__p s_.length s__c,.func (.func 172) #[] #[pq b_]]) (caps := []) en_188 rfl rfl rfl rfl (fun w hc => (slices_IndexFunc_Lcrew_Refusal_crew_Refusal_s2_ok s_ f_ h_s_ h_f__People h_f__Stations ((hc.pick k1).pick k1) hr).mono fun e w h => ⟨h.1,((h.2.unpick k1).unpick k1)⟩)) fun a w hf hc => stP hf rfl rfl rfl (pGe rfl rfl) fun a hf => stP hf rfl rfl rfl (pA rfl) fun a hf => cNil ?_
 refine h2 _ _ ?_
 refine wp_ret ?_
 obtain rfl := sj hF
 exact fnOut1 (by simp) rfl Tryz.results164 hf hc (show look _ 4 = _ from rfl) ⟨rfl,hc⟩

def crew_every_crew_Refusal (N : Nat) (l : List crew_Refusal) (so : crew_Roster) : Option (Bool) :=
 Option.bind (slices_ContainsFunc_Lcrew_Refusal_crew_Refusal_s2 N l so) fun r =>
 some (!r)
theorem crew_every_crew_Refusal_ok {N : Nat} {G : Pers} {Lf : List Ent} {w : World} (l : List crew_Refusal) (so : crew_Roster) {l_p : Option Addr} {l_c : Nat} {b_ : Nat} {so_People_p : Option Addr} {so_People_c : Nat} {so_Stations_p : Option Addr} {so_Stations_c : Nat} (h_l : Rd G 2 l_p l_c (l.map enc_crew_Refusal)) (h_so_People : RdT kd_25 G 1 so_People_p so_People_c so.People) (h_so_Stations : RdT kd_101 G 2 so_Stations_p so_Stations_c so.Stations) (hc : Ctx G (.box b_ [.slice so_People_p so.People.length so_People_c,.slice so_Stations_p so.Stations.length so_Stations_c] 78::Lf) w) {res : Bool} (hF : crew_every_crew_Refusal N l so = some res) : Calls Tryz.prog 128 #[.slice l_p l.length l_c,.func (.func 129) #[] #[pq b_]] w (fun e w => e = .returned (.bool res) ∧ Ctx G (.box b_ [.slice so_People_p so.People.length so_People_c,.slice so_Stations_p so.Stations.length so_Stations_c] 78::Lf) w) := by
 unfold crew_every_crew_Refusal at hF
 refine fnIn (args := [.slice l_p l.length l_c,.func (.func 129) #[] #[pq b_]]) Tryz.func128 rfl Tryz.ntmps128 rfl fun a hf => wp_seq_k fun K1 h1 => cReg ?_
 refine stBx (cs := [.func (.func 129) #[] #[pq b_]]) hf hc rfl rfl rfl rfl fun b_1 a w hf hc => stP hf rfl rfl rfl (pA rfl) fun a hf => cNil ?_
 refine h1 _ _ ?_
 refine wp_seq_k fun K2 h2 => cReg ?_
 refine stP hf rfl rfl rfl (pM rfl) fun a hf => stP hf rfl rfl rfl (pMF (us := [pq b_1]) rfl rfl) fun a hf => ?_
 obtain ⟨r,hr,hF⟩ := bnd_some hF
 refine stE hf hc rfl rfl rfl (eC (v := .bool r) (vs := [.slice l_p l.length l_c,.func (.func 172) #[] #[pq b_1]]) (caps := []) en_164 rfl rfl rfl rfl (fun w hc => (slices_ContainsFunc_Lcrew_Refusal_crew_Refusal_s2_ok l so h_l h_so_People h_so_Stations ((hc.pick k1).pick k1) hr).mono fun e w h => ⟨h.1,((h.2.unpick k1).unpick k1)⟩)) fun a w hf hc => stP hf rfl rfl rfl (pNot rfl) fun a hf => stP hf rfl rfl rfl (pA rfl) fun a hf => cNil ?_
 refine h2 _ _ ?_
 refine wp_ret ?_
 obtain rfl := sj hF
 replace hc := hc.drop k0
 exact fnOut1 (by simp) rfl Tryz.results128 hf hc (show look _ 4 = _ from rfl) ⟨rfl,hc⟩

def slices_Index_Lcrew_Refusal_crew_Refusal_b4 (N : Nat) (s_ : List crew_Refusal) (v : crew_Refusal) (x : Int) : Option (Step (Int) (Int)) :=
 cond (decide (x < ((s_.length : Nat) : Int)))
 (Option.bind (getI s_ x) fun e_1 =>
 cond (v.Person == e_1.Person && v.Station == e_1.Station)
 (some (.ret x))
 (some (.cont (W (x + 1)))))
 (some (.brk x))
def slices_Index_Lcrew_Refusal_crew_Refusal (N : Nat) (s_ : List crew_Refusal) (v : crew_Refusal) : Option (Int) :=
 Option.bind (loopO (fun s4 => slices_Index_Lcrew_Refusal_crew_Refusal_b4 N s_ v s4) N 0) fun x4 =>
 exK x4 (fun s4 => some (-1)) some
theorem slices_Index_Lcrew_Refusal_crew_Refusal_ok {N : Nat} {G : Pers} {Lf : List Ent} {w : World} (s_ : List crew_Refusal) (v : crew_Refusal) {s__p : Option Addr} {s__c : Nat} (h_s_ : Rd G 2 s__p s__c (s_.map enc_crew_Refusal)) (hc : Ctx G (Lf) w) {res : Int} (hF : slices_Index_Lcrew_Refusal_crew_Refusal N s_ v = some res) : Calls Tryz.prog 193 #[.slice s__p s_.length s__c,.agg #[i6 v.Person,i6 v.Station]] w (fun e w => e = .returned (i6 res) ∧ Ctx G (Lf) w) := by
 unfold slices_Index_Lcrew_Refusal_crew_Refusal at hF
 refine fnIn (args := [.slice s__p s_.length s__c,.agg #[i6 v.Person,i6 v.Station]]) Tryz.func193 rfl Tryz.ntmps193 rfl fun a hf => wp_seq_k fun K1 h1 => cReg ?_
 refine stBx (cs := [i6 v.Person,i6 v.Station]) hf hc rfl rfl rfl rfl fun b_1 a w hf hc => stP hf rfl rfl rfl (pA rfl) fun a hf => cNil ?_
 refine h1 _ _ ?_
 refine wp_seq_k fun K2 h2 => wp_seq_k fun K3 h3 => cReg ?_
 refine stP hf rfl rfl rfl (pM rfl) fun a hf => stP hf rfl rfl rfl (pLenS Tryz.underlying99 rfl) fun a hf => stP hf rfl rfl rfl (pM rfl) fun a hf => cNil ?_
 refine h3 _ _ ?_
 refine wp_block ?_
 obtain ⟨x4,hx4,hF⟩ := bnd_some hF
 let S4 : Int → Act → World → Prop := (fun (zz : Int) a w => Has 19 a [(0,.slice s__p s_.length s__c),(3,pq b_1),(7,i6 ((s_.length : Nat) : Int)),(8,i6 zz)] ∧ Ctx G (.box b_1 [i6 v.Person,i6 v.Station] 86::Lf) w)
 have hr4 : ∀ (zz : Int) a w,x4 = .go zz → S4 zz a w → K2 a w := by
  rintro x a w rfl ⟨hf,hc⟩
  replace hF := exK_go hF
  refine h2 _ _ ?_
  refine wp_seq_k fun K5 h5 => cReg ?_
  refine stP hf rfl rfl rfl (pA rfl) fun a hf => cNil ?_
  refine h5 _ _ ?_
  refine wp_ret ?_
  obtain rfl := sj hF
  replace hc := hc.drop k0
  exact fnOut1 (by simp) rfl Tryz.results193 hf hc (show look _ 4 = _ from rfl) ⟨rfl,hc⟩
 have ho4 : ∀ r,x4 = .out r → r = res := by
  rintro r rfl
  exact sj hF
 refine cLoop N (loopW (S := S4) (x := x4) ?_ N 0 _ _ ⟨hf.kp rfl,hc⟩ hx4)
 clear hF hf hc
 rintro x st4 a w KB4 ⟨hf,hc⟩ hF hfin4 hK4
 unfold slices_Index_Lcrew_Refusal_crew_Refusal_b4 at hF
 refine wp_seq_k fun K6 h6 => cReg ?_
 refine stP hf rfl rfl rfl (pLt rfl rfl) fun a hf => cNil ?_
 refine h6 _ _ ?_
 refine wp_seq_k fun K7 h7 => cCond (b := (decide (x < ((s_.length : Nat) : Int)))) hf rfl (fun hb => ?_) (fun hb => ?_)
 ·replace hF := condT hb hF
  clear hb
  refine wp_skip ?_
  refine h7 _ _ ?_
  refine wp_seq_k fun K8 h8 => wp_block ?_
  refine wp_seq_k fun K9 h9 => cReg ?_
  refine stP hf rfl rfl rfl (pM rfl) fun a hf => stP hf rfl rfl rfl (pA rfl) fun a hf => cNil ?_
  refine h9 _ _ ?_
  refine wp_seq_k fun K10 h10 => ?_
  obtain ⟨e_1,he_1,hF⟩ := bnd_some hF
  obtain ⟨b_2,o,qa,qp⟩ := h_s_.atm he_1
  refine cQ hc follows_mx (by kernel_rfl) ?_
  refine qE hf rfl rfl rfl (eLdN (vs := [i6 v.Person,i6 v.Station]) ag_86 rfl rfl (cells_box (n := 2) m0 rfl)) fun a hf => qE hf rfl rfl rfl (Pu.ev (pM rfl)) fun a hf => qE hf rfl rfl rfl (Pu.ev (pM rfl)) fun a hf => qE hf rfl rfl rfl (Pu.ev (pIA Tryz.underlying99 sz_86 rfl rfl qa)) fun a hf => qE hf rfl rfl rfl (eLdN (vs := [i6 e_1.Person,i6 e_1.Station]) ag_86 rfl rfl (cells_pc qp (n := 2) (o' := 0) rfl)) fun a hf => qE hf rfl rfl rfl (Pu.ev (pEqA ge_86 rfl rfl (eqs_86 _ _ _ _))) fun a hf => ?_
  intro w hc
  refine h10 _ _ ?_
  refine cCond (b := (v.Person == e_1.Person && v.Station == e_1.Station)) hf rfl (fun hb => ?_) (fun hb => ?_)
  ·replace hF := condT hb hF
   clear hb
   refine wp_seq_k fun K11 h11 => cReg ?_
   refine stP hf rfl rfl rfl (pM rfl) fun a hf => stP hf rfl rfl rfl (pA rfl) fun a hf => cNil ?_
   refine h11 _ _ ?_
   refine wp_ret ?_
   refine xBlkR ?_
   refine xThenR ?_
   refine xThenR ?_
   have he := sj hF
   rw [← he] at hfin4
   replace hF := ho4 _ hfin4
   refine xBlkR ?_
   refine xThenR ?_
   obtain rfl := hF
   replace hc := hc.drop k0
   exact fnOut1 (by simp) rfl Tryz.results193 hf hc (show look _ 4 = _ from rfl) ⟨rfl,hc⟩
  ·replace hF := condF hb hF
   clear hb
   refine wp_skip ?_
   refine h8 _ _ ?_
   refine cReg ?_
   refine stP hf rfl rfl rfl (pAdd rfl rfl) fun a hf => stP hf rfl rfl rfl (pM rfl) fun a hf => cNil ?_
   exact hK4 (W (x + 1)) _ _ (sj hF).symm ⟨hf.kp rfl,hc⟩
 ·replace hF := condF hb hF
  clear hb
  refine wp_exit ?_
  refine xThen ?_
  refine xThen ?_
  have he := sj hF
  rw [← he] at hfin4
  refine cHit ?_
  exact hr4 _ _ _ hfin4 ⟨hf.kp rfl,hc⟩

def slices_Contains_Lcrew_Refusal_crew_Refusal (N : Nat) (s_ : List crew_Refusal) (v : crew_Refusal) : Option (Bool) :=
 Option.bind (slices_Index_Lcrew_Refusal_crew_Refusal N s_ v) fun r =>
 some (decide (0 ≤ r))
theorem slices_Contains_Lcrew_Refusal_crew_Refusal_ok {N : Nat} {G : Pers} {Lf : List Ent} {w : World} (s_ : List crew_Refusal) (v : crew_Refusal) {s__p : Option Addr} {s__c : Nat} (h_s_ : Rd G 2 s__p s__c (s_.map enc_crew_Refusal)) (hc : Ctx G (Lf) w) {res : Bool} (hF : slices_Contains_Lcrew_Refusal_crew_Refusal N s_ v = some res) : Calls Tryz.prog 173 #[.slice s__p s_.length s__c,.agg #[i6 v.Person,i6 v.Station]] w (fun e w => e = .returned (.bool res) ∧ Ctx G (Lf) w) := by
 unfold slices_Contains_Lcrew_Refusal_crew_Refusal at hF
 refine fnIn (args := [.slice s__p s_.length s__c,.agg #[i6 v.Person,i6 v.Station]]) Tryz.func173 rfl Tryz.ntmps173 rfl fun a hf => wp_seq_k fun K1 h1 => cReg ?_
 refine stBx (cs := [i6 v.Person,i6 v.Station]) hf hc rfl rfl rfl rfl fun b_1 a w hf hc => stP hf rfl rfl rfl (pA rfl) fun a hf => cNil ?_
 refine h1 _ _ ?_
 refine wp_seq_k fun K2 h2 => cReg ?_
 refine stP hf rfl rfl rfl (pM rfl) fun a hf => stE hf hc rfl rfl rfl (eLdN (vs := [i6 v.Person,i6 v.Station]) ag_86 rfl rfl (cells_box (n := 2) m0 rfl)) fun a w hf hc => ?_
 obtain ⟨r,hr,hF⟩ := bnd_some hF
 refine stE hf hc rfl rfl rfl (eC (v := i6 r) (vs := [.slice s__p s_.length s__c,.agg #[i6 v.Person,i6 v.Station]]) (caps := []) en_193 rfl rfl rfl rfl (fun w hc => slices_Index_Lcrew_Refusal_crew_Refusal_ok s_ v h_s_ hc hr)) fun a w hf hc => stP hf rfl rfl rfl (pGe rfl rfl) fun a hf => stP hf rfl rfl rfl (pA rfl) fun a hf => cNil ?_
 refine h2 _ _ ?_
 refine wp_ret ?_
 obtain rfl := sj hF
 replace hc := hc.drop k0
 exact fnOut1 (by simp) rfl Tryz.results173 hf hc (show look _ 4 = _ from rfl) ⟨rfl,hc⟩

def crew_work_holds_j12 (N : Nat) (x_0 : Int) (many_1 : Int) : Option (Step (Int × Int) (Bool)) :=
 some (.cont (many_1,W (x_0 + 1)))
def crew_work_holds_r19 (N : Nat) (ahead : List crew_Refusal) (x_0 : Int) (x_1 : Bool) (xv : Int) : Option (Rs (Bool)) :=
 Option.bind (cond x_1 (Option.bind (slices_Contains_Lcrew_Refusal_crew_Refusal N ahead (⟨x_0,xv⟩ : crew_Refusal)) fun r_3 =>
 some r_3) (some false)) fun t_2 =>
 some (.go t_2)
def crew_work_holds_b8 (N : Nat) (w_ : crew_work) (x : crew_Refusal) (ahead : List crew_Refusal) (many : Int) (x_0 : Int) : Option (Step (Int × Int) (Bool)) :=
 cond (decide (x_0 < ((w_.Roster.People.length : Nat) : Int)))
 (Option.bind (crew_work_possible N w_ x_0 x.Station) fun r_1 =>
 Option.bind (cond (!r_1) (some true) (Option.bind (inR x.Station 12) fun un =>
 Option.bind (inR x_0 12) fun un_1 =>
 Option.bind (inR x.Station 12) fun un_2 =>
 Option.bind (inR x.Person 12) fun un_3 =>
 some (decide ((w_.rank (x.Station * 12 + x.Person).toNat) ≤ (w_.rank (x.Station * 12 + x_0).toNat))))) fun t_1 =>
 cond t_1
 (crew_work_holds_j12 N x_0 many)
 (Option.bind (crew_work_better N w_ x_0 x.Station) fun r_2 =>
 Option.bind (crew_work_better_1 N w_ r_2.1 r_2.2 (rY (fun (zz : Bool) (ix_ : Int) => crew_work_holds_r19 N ahead x_0 zz ix_)) (.go true)) fun x19 =>
 rsK x19 (fun zz19 => cond zz19
 (crew_work_holds_j12 N x_0 (W (many + 1)))
 (crew_work_holds_j12 N x_0 many)) (fun zz19 => none)))
 (some (.brk (many,x_0)))
def crew_work_holds (N : Nat) (w_ : crew_work) (x : crew_Refusal) (ahead : List crew_Refusal) : Option (Bool) :=
 Option.bind (crew_work_possible N w_ x.Person x.Station) fun r =>
 cond (!r)
 (some true)
 (Option.bind (loopO (fun s8 => crew_work_holds_b8 N w_ x ahead s8.1 s8.2) N (0,0)) fun x8 =>
 exK x8 (fun s8 => Option.bind (getI w_.Roster.Stations x.Station) fun e_1 =>
 some (decide (e_1.Places ≤ s8.1))) some)
theorem crew_work_holds_ok {N : Nat} {G : Pers} {Lf : List Ent} {w : World} (w_ : crew_work) (x : crew_Refusal) (ahead : List crew_Refusal) {b_ : Nat} {w__Roster_People_p : Option Addr} {w__Roster_People_c : Nat} {w__Roster_Stations_p : Option Addr} {w__Roster_Stations_c : Nat} {ahead_p : Option Addr} {ahead_c : Nat} (h_w__Roster_People : RdT kd_25 G 1 w__Roster_People_p w__Roster_People_c w_.Roster.People) (h_w__Roster_Stations : RdT kd_101 G 2 w__Roster_Stations_p w__Roster_Stations_c w_.Roster.Stations) (h_w__pc : PC G b_ 0 (catc [.slice w__Roster_People_p w_.Roster.People.length w__Roster_People_c,.slice w__Roster_Stations_p w_.Roster.Stations.length w__Roster_Stations_c] 144 encI_i64 w_.rank [])) (h_ahead : Rd G 2 ahead_p ahead_c (ahead.map enc_crew_Refusal)) (hc : Ctx G (Lf) w) {res : Bool} (hF : crew_work_holds N w_ x ahead = some res) : Calls Tryz.prog 130 #[pq b_,.agg #[i6 x.Person,i6 x.Station],.slice ahead_p ahead.length ahead_c] w (fun e w => e = .returned (.bool res) ∧ Ctx G (Lf) w) := by
 unfold crew_work_holds at hF
 refine fnInM (args := [pq b_,.agg #[i6 x.Person,i6 x.Station],.slice ahead_p ahead.length ahead_c]) Tryz.func130 rfl Tryz.ntmps130 rfl fun a hf => wp_seq_k fun K1 h1 => cReg ?_
 refine stBx (cs := [i6 x.Person,i6 x.Station]) hf hc rfl rfl rfl rfl fun b_1 a w hf hc => stBx (cs := [.slice ahead_p ahead.length ahead_c]) hf hc rfl rfl rfl rfl fun b_2 a w hf hc => stP hf rfl rfl rfl (pA rfl) fun a hf => cNil ?_
 refine h1 _ _ ?_
 refine wp_seq_k fun K2 h2 => wp_seq_k fun K3 h3 => cReg ?_
 refine stP hf rfl rfl rfl (pM rfl) fun a hf => stP hf rfl rfl rfl (pFA fa_86_0 rfl) fun a hf => stE hf hc rfl rfl rfl (eLd1 sc_3 rfl (cell_box m1 rfl)) fun a w hf hc => stP hf rfl rfl rfl (pFA fa_86_1 rfl) fun a hf => stE hf hc rfl rfl rfl (eLd1 sc_3 rfl (cell_box m1 rfl)) fun a w hf hc => ?_
 obtain ⟨r,hr,hF⟩ := bnd_some hF
 refine stE hf hc rfl rfl rfl (eC (v := .bool r) (vs := [pq b_,i6 x.Person,i6 x.Station]) (caps := []) en_110 rfl rfl rfl rfl (fun w hc => crew_work_possible_ok w_ x.Person x.Station h_w__Roster_People h_w__Roster_Stations h_w__pc hc hr)) fun a w hf hc => stP hf rfl rfl rfl (pNot rfl) fun a hf => cNil ?_
 refine h3 _ _ ?_
 refine cCond (b := (!r)) hf rfl (fun hb => ?_) (fun hb => ?_)
 ·replace hF := condT hb hF
  clear hb
  refine wp_seq_k fun K4 h4 => cReg ?_
  refine stP hf rfl rfl rfl (pA rfl) fun a hf => cNil ?_
  refine h4 _ _ ?_
  refine wp_ret ?_
  refine xThenR ?_
  obtain rfl := sj hF
  replace hc := hc.drop k1
  replace hc := hc.drop k0
  refine outM hf ?_
  exact outM1 Tryz.results130 hf hc (show look _ 6 = _ from rfl) ⟨rfl,hc⟩
 ·replace hF := condF hb hF
  clear hb
  refine wp_skip ?_
  refine h2 _ _ ?_
  refine wp_seq_k fun K5 h5 => cReg ?_
  refine stP hf rfl rfl rfl (pA rfl) fun a hf => cNil ?_
  refine h5 _ _ ?_
  refine wp_seq_k fun K6 h6 => wp_seq_k fun K7 h7 => cReg ?_
  refine stP hf rfl rfl rfl (pM rfl) fun a hf => stP hf rfl rfl rfl (pNC rfl) fun a hf => stP hf rfl rfl rfl (pFA fa_181_0 rfl) fun a hf => stP hf rfl rfl rfl (pFA fa_78_0 rfl) fun a hf => stE hf hc rfl rfl rfl (eLd1 sc_75 rfl (cell_pc (j := 0) h_w__pc rfl)) fun a w hf hc => stP hf rfl rfl rfl (pLenS Tryz.underlying75 rfl) fun a hf => stP hf rfl rfl rfl (pM rfl) fun a hf => cNil ?_
  refine h7 _ _ ?_
  refine wp_block ?_
  obtain ⟨x8,hx8,hF⟩ := bnd_some hF
  let S8 : (Int × Int) → Act → World → Prop := (fun (zz : Int × Int) a w => ∃ (Ds : List Nat),Has ⟨85,markL Ds⟩ a [(0,pq b_),(4,pq b_1),(5,pq b_2),(7,i6 zz.1),(23,i6 ((w_.Roster.People.length : Nat) : Int)),(24,i6 zz.2)] ∧ Ctx G (.box b_2 [.slice ahead_p ahead.length ahead_c] 99::.box b_1 [i6 x.Person,i6 x.Station] 86::(raws Ds ++ Lf)) w)
  have hr8 : ∀ (zz : Int × Int) a w,x8 = .go zz → S8 zz a w → K6 a w := by
   rintro ⟨many,x_0⟩ a w rfl ⟨Ds,hf,hc⟩
   replace hF := exK_go hF
   refine h6 _ _ ?_
   refine wp_seq_k fun K9 h9 => ?_
   obtain ⟨e_1,he_1,hF⟩ := bnd_some hF
   obtain ⟨b_3,o,hd,qa,qp,qr⟩ := h_w__Roster_Stations.atm he_1
   refine cQ hc follows_mx (by kernel_rfl) ?_
   refine qE hf rfl rfl rfl (Pu.ev (pM rfl)) fun a hf => qE hf rfl rfl rfl (Pu.ev (pM rfl)) fun a hf => qE hf rfl rfl rfl (Pu.ev (pNC rfl)) fun a hf => qE hf rfl rfl rfl (Pu.ev (pFA fa_181_0 rfl)) fun a hf => qE hf rfl rfl rfl (Pu.ev (pFA fa_78_1 rfl)) fun a hf => qE hf rfl rfl rfl (eLd1 sc_76 rfl (cell_pc (j := 1) h_w__pc rfl)) fun a hf => qE hf rfl rfl rfl (Pu.ev (pFA fa_86_1 rfl)) fun a hf => qE hf rfl rfl rfl (eLd1 sc_3 rfl (cell_box m1 rfl)) fun a hf => qE hf rfl rfl rfl (Pu.ev (pIA Tryz.underlying76 sz_101 rfl rfl qa)) fun a hf => qE hf rfl rfl rfl (Pu.ev (pFA fa_101_0 rfl)) fun a hf => qE hf rfl rfl rfl (eLd1 sc_3 rfl (cell_pc (j := 0) qp rfl)) fun a hf => qE hf rfl rfl rfl (Pu.ev (pGe rfl rfl)) fun a hf => qE hf rfl rfl rfl (Pu.ev (pA rfl)) fun a hf => ?_
   intro w hc
   refine h9 _ _ ?_
   refine wp_ret ?_
   obtain rfl := sj hF
   replace hc := hc.drop k1
   replace hc := hc.drop k0
   refine outM hf ?_
   refine outML [] Ds hc fun w hc => ?_
   replace hc : Ctx G (Lf) w := hc
   exact outM1 Tryz.results130 hf hc (show look _ 6 = _ from rfl) ⟨rfl,hc⟩
  have ho8 : ∀ r,x8 = .out r → r = res := by
   rintro r rfl
   exact sj hF
  replace hf := markZ hf
  replace hc : Ctx G (.box b_2 [.slice ahead_p ahead.length ahead_c] 99::.box b_1 [i6 x.Person,i6 x.Station] 86::(raws [] ++ Lf)) w := hc
  refine cLoop N (loopW (S := S8) (x := x8) ?_ N (0,0) _ _ ⟨[],hf.kp rfl,hc⟩ hx8)
  clear hF hf hc
  rintro ⟨many,x_0⟩ st8 a w KB8 ⟨Ds,hf,hc⟩ hF hfin8 hK8
  unfold crew_work_holds_b8 at hF
  refine wp_seq_k fun K10 h10 => cReg ?_
  refine stP hf rfl rfl rfl (pLt rfl rfl) fun a hf => cNil ?_
  refine h10 _ _ ?_
  refine wp_seq_k fun K11 h11 => cCond (b := (decide (x_0 < ((w_.Roster.People.length : Nat) : Int)))) hf rfl (fun hb => ?_) (fun hb => ?_)
  ·replace hF := condT hb hF
   clear hb
   refine wp_skip ?_
   refine h11 _ _ ?_
   refine wp_seq_k fun K12 h12 => ?_
   have hj12 : ∀ (many_1 : Int) (Ds_1 : List Nat) a w,Has ⟨85,markL Ds_1⟩ a [(0,pq b_),(4,pq b_1),(5,pq b_2),(7,i6 many_1),(23,i6 ((w_.Roster.People.length : Nat) : Int)),(24,i6 x_0)] → Ctx G (.box b_2 [.slice ahead_p ahead.length ahead_c] 99::.box b_1 [i6 x.Person,i6 x.Station] 86::(raws Ds_1 ++ Lf)) w → crew_work_holds_j12 N x_0 many_1 = some st8 → K12 a w := by
    repeat (clear hF)
    repeat (clear hc)
    repeat (clear hf)
    intro many_1 Ds_1 a w hf hc hF
    unfold crew_work_holds_j12 at hF
    refine h12 _ _ ?_
    refine cReg ?_
    refine stP hf rfl rfl rfl (pAdd rfl rfl) fun a hf => stP hf rfl rfl rfl (pM rfl) fun a hf => cNil ?_
    exact hK8 (many_1,W (x_0 + 1)) _ _ (sj hF).symm ⟨Ds_1,hf.kp rfl,hc⟩
   refine wp_block ?_
   refine wp_seq_k fun K13 h13 => cReg ?_
   refine stP hf rfl rfl rfl (pM rfl) fun a hf => stAl (cs := [i6 0]) hf hc rfl rfl zr_3 rfl fun b_4 a w hf hc => stSt (vs := [i6 x_0]) hf hc rfl rfl rfl rfl sz_3 rfl rfl u0 fun w hc => cNil ?_
   refine h13 _ _ ?_
   refine wp_seq_k fun K14 h14 => wp_seq_k fun K15 h15 => ?_
   obtain ⟨r_1,hr_1,hF⟩ := bnd_some hF
   obtain ⟨t_1,ht_1,hF⟩ := bnd_some hF
   refine cQ hc follows_mx (by kernel_rfl) ?_
   refine qE hf rfl rfl rfl (Pu.ev (pM rfl)) fun a hf => qE hf rfl rfl rfl (eLd1 sc_3 rfl (cell_box m0 rfl)) fun a hf => qE hf rfl rfl rfl (Pu.ev (pFA fa_86_1 rfl)) fun a hf => qE hf rfl rfl rfl (eLd1 sc_3 rfl (cell_box m2 rfl)) fun a hf => qE hf rfl rfl rfl (eC (v := .bool r_1) (vs := [pq b_,i6 x_0,i6 x.Station]) (caps := []) en_110 rfl rfl rfl rfl (fun w hc => crew_work_possible_ok w_ x_0 x.Station h_w__Roster_People h_w__Roster_Stations h_w__pc hc hr_1)) fun a hf => qE hf rfl rfl rfl (Pu.ev (pNot rfl)) fun a hf => qE hf rfl rfl rfl (Pu.ev (pM rfl)) fun a hf => qCut 21 (fun a => Has ⟨85,markL Ds⟩ a [(0,pq b_),(4,pq b_1),(5,pq b_2),(7,i6 many),(23,i6 ((w_.Roster.People.length : Nat) : Int)),(24,i6 x_0),(8,pq b_4),(27,pq b_),(28,i6 x_0),(29,.pointer (some ⟨b_1,1,none⟩)),(30,i6 x.Station),(31,.bool r_1),(32,.bool (!r_1)),(33,.bool (!r_1)),(54,.bool t_1)]) ?_ ?_
   ·cases hb : (!r_1)
    ·rw [hb] at hf
     have hF := condF hb ht_1
     obtain ⟨un,hun,hF⟩ := bnd_some hF
     obtain ⟨un_1,hun_1,hF⟩ := bnd_some hF
     obtain ⟨un_2,hun_2,hF⟩ := bnd_some hF
     obtain ⟨un_3,hun_3,hF⟩ := bnd_some hF
     refine qE hf rfl rfl rfl (Pu.ev (pM rfl)) fun a hf => qE hf rfl rfl rfl (Pu.ev (pFA fa_86_1 rfl)) fun a hf => qE hf rfl rfl rfl (eLd1 sc_3 rfl (cell_box m2 rfl)) fun a hf => qE hf rfl rfl rfl (eLd1 sc_3 rfl (cell_box m0 rfl)) fun a hf => qE hf rfl rfl rfl (Pu.ev (pNC rfl)) fun a hf => qE hf rfl rfl rfl (Pu.ev (pFA fa_181_1 rfl)) fun a hf => qE hf rfl rfl rfl (Pu.ev (pIAA Tryz.underlying179 sz_178 rfl rfl (inR_spec hun).1 (inR_spec hun).2)) fun a hf => qE hf rfl rfl rfl (Pu.ev (Pu.cast (pIAA Tryz.underlying178 sz_3 rfl rfl (inR_spec hun_1).1 (inR_spec hun_1).2) (congrArg (fun k => Value.pointer (some ⟨b_,k,none⟩)) (flat_off (M := 12) (0 + 2) hun hun_1 rfl)))) fun a hf => qE hf rfl rfl rfl (eLd1 sc_3 rfl (cell_pca (j := 0) h_w__pc (fun x => (one_encI_i64 x).1) rfl (inR2 hun hun_1 rfl) rfl)) fun a hf => qE hf rfl rfl rfl (Pu.ev (pM rfl)) fun a hf => qE hf rfl rfl rfl (Pu.ev (pFA fa_86_1 rfl)) fun a hf => qE hf rfl rfl rfl (eLd1 sc_3 rfl (cell_box m2 rfl)) fun a hf => qE hf rfl rfl rfl (Pu.ev (pFA fa_86_0 rfl)) fun a hf => ?_
     refine qE hf rfl rfl rfl (eLd1 sc_3 rfl (cell_box m2 rfl)) fun a hf => qE hf rfl rfl rfl (Pu.ev (pNC rfl)) fun a hf => qE hf rfl rfl rfl (Pu.ev (pFA fa_181_1 rfl)) fun a hf => qE hf rfl rfl rfl (Pu.ev (pIAA Tryz.underlying179 sz_178 rfl rfl (inR_spec hun_2).1 (inR_spec hun_2).2)) fun a hf => qE hf rfl rfl rfl (Pu.ev (Pu.cast (pIAA Tryz.underlying178 sz_3 rfl rfl (inR_spec hun_3).1 (inR_spec hun_3).2) (congrArg (fun k => Value.pointer (some ⟨b_,k,none⟩)) (flat_off (M := 12) (0 + 2) hun_2 hun_3 rfl)))) fun a hf => qE hf rfl rfl rfl (eLd1 sc_3 rfl (cell_pca (j := 0) h_w__pc (fun x => (one_encI_i64 x).1) rfl (inR2 hun_2 hun_3 rfl) rfl)) fun a hf => qE hf rfl rfl rfl (Pu.ev (pGe rfl rfl)) fun a hf => qE hf rfl rfl rfl (Pu.ev (pPf rfl rfl)) fun a hf => ?_
     obtain rfl := sj hF
     exact qNil (hf.kp rfl)
    ·rw [hb] at hf
     have hF := condT hb ht_1
     obtain rfl := sj hF
     refine qS hf rfl rfl rfl fun a hf => qS hf rfl rfl rfl fun a hf => qS hf rfl rfl rfl fun a hf => qS hf rfl rfl rfl fun a hf => qS hf rfl rfl rfl fun a hf => qS hf rfl rfl rfl fun a hf => qS hf rfl rfl rfl fun a hf => qS hf rfl rfl rfl fun a hf => qS hf rfl rfl rfl fun a hf => qS hf rfl rfl rfl fun a hf => qS hf rfl rfl rfl fun a hf => qS hf rfl rfl rfl fun a hf => qS hf rfl rfl rfl fun a hf => ?_
     refine qS hf rfl rfl rfl fun a hf => qS hf rfl rfl rfl fun a hf => qS hf rfl rfl rfl fun a hf => qS hf rfl rfl rfl fun a hf => qS hf rfl rfl rfl fun a hf => qS hf rfl rfl rfl fun a hf => qS hf rfl rfl rfl fun a hf => qE hf rfl rfl rfl (Pu.ev (pPt rfl rfl)) fun a hf => qNil (hf.kp rfl)
   intro a hf
   intro w hc
   refine h15 _ _ ?_
   refine cCond (b := t_1) hf rfl (fun hb => ?_) (fun hb => ?_)
   ·replace hF := condT hb hF
    clear hb
    refine wp_exit ?_
    refine xThen ?_
    refine cHit ?_
    replace hc := hc.drop k0
    exact hj12 many Ds _ _  (hf.kp rfl) hc hF
   ·replace hF := condF hb hF
    clear hb
    refine wp_skip ?_
    refine h14 _ _ ?_
    refine wp_seq_k fun K16 h16 => cReg ?_
    refine stAl (cs := [.bool false]) hf hc rfl rfl zr_4 rfl fun b_5 a w hf hc => stSt (vs := [.bool true]) hf hc rfl rfl rfl rfl sz_4 rfl rfl u0 fun w hc => cNil ?_
    refine h16 _ _ ?_
    refine wp_seq_k fun K17 h17 => wp_seq_k fun K18 h18 => cReg ?_
    refine stP hf rfl rfl rfl (pM rfl) fun a hf => stE hf hc rfl rfl rfl (eLd1 sc_3 rfl (cell_box m1 rfl)) fun a w hf hc => stP hf rfl rfl rfl (pFA fa_86_1 rfl) fun a hf => stE hf hc rfl rfl rfl (eLd1 sc_3 rfl (cell_box m3 rfl)) fun a w hf hc => ?_
    obtain ⟨r_2,hr_2,hF⟩ := bnd_some hF
    refine stC (vs := [pq b_,i6 x_0,i6 x.Station]) (caps := []) hf rfl rfl rfl en_111 rfl rfl rfl rfl (crew_work_better_ok w_ x_0 x.Station h_w__Roster_People h_w__Roster_Stations h_w__pc hc hr_2) ?_
    rintro _ w ⟨b_6,b_7,b_8,rfl,hc⟩
    refine ⟨_,rfl,fun a hf => ?_⟩
    refine cNil ?_
    refine h18 _ _ ?_
    obtain ⟨x19,hx19,hF⟩ := bnd_some hF
    refine cRange (C := [.box b_6 [pq b_] 166,.box b_7 [i6 r_2.1] 3,.box b_8 [i6 r_2.2] 3]) (C2 := [.box b_6 [pq b_] 166,.box b_7 [i6 r_2.1] 3,.box b_8 [i6 r_2.2] 3]) (L0 := [.box b_5 [.bool true] 4,.box b_4 [i6 x_0] 3,.box b_2 [.slice ahead_p ahead.length ahead_c] 99,.box b_1 [i6 x.Person,i6 x.Station] 86]) (Lf := (raws Ds ++ Lf)) (encs := fun x : Int => [i6 x]) (fun (zz : Bool) L => L = [.box b_5 [.bool zz] 4,.box b_4 [i6 x_0] 3,.box b_2 [.slice ahead_p ahead.length ahead_c] 99,.box b_1 [i6 x.Person,i6 x.Station] 86]) (fun (zz : Bool) (ix_ : Int) => crew_work_holds_r19 N ahead x_0 zz ix_) true x19 hf hc rfl en_167 (fun _ => rfl) rfl rfl ?_ ?_ ?_ ?_
    ·intro lq mq J L Lx w hy hJ hc
     exact crew_work_better_1_ok w_ r_2.1 r_2.2 h_w__Roster_People h_w__Roster_Stations h_w__pc J _ hy _ hJ hc hx19
    ·clear hF hf hc
     rintro lq mq x_1 xv oq _ Lr Lb a w hK0 rfl hF hf hc hK
     replace hf : Has 85 a [(0,pq b_),(4,pq b_1),(5,pq b_2),(7,i6 many),(8,pq b_4),(9,pq b_5),(23,i6 ((w_.Roster.People.length : Nat) : Int)),(24,i6 x_0),(60,i6 xv)] := hf.kp rfl
     replace hc : Ctx G (.box b_5 [.bool x_1] 4::.box b_4 [i6 x_0] 3::.box b_2 [.slice ahead_p ahead.length ahead_c] 99::.box b_1 [i6 x.Person,i6 x.Station] 86::Lr) w := hc
     replace hF : crew_work_holds_r19 N ahead x_0 x_1 xv = some oq := hF
     unfold crew_work_holds_r19 at hF
     refine rReg (fun _ _ h => h) rfl ?_
     refine stP hf rfl rfl rfl (pA rfl) fun a hf => cNil ?_
     refine hK _ _ [.box b_5 [.bool x_1] 4,.box b_4 [i6 x_0] 3,.box b_2 [.slice ahead_p ahead.length ahead_c] 99,.box b_1 [i6 x.Person,i6 x.Station] 86] hc fun w hc => ?_
     replace hc : Ctx G (.box b_5 [.bool x_1] 4::.box b_4 [i6 x_0] 3::.box b_2 [.slice ahead_p ahead.length ahead_c] 99::.box b_1 [i6 x.Person,i6 x.Station] 86::Lb) w := hc
     refine rThenK fun K20 h20 => rBlock ?_
     refine rReg (fun _ _ h => h) rfl ?_
     refine stE hf hc rfl rfl rfl (eLd1 sc_4 rfl (cell_box m0 rfl)) fun a w hf hc => stP hf rfl rfl rfl (pM rfl) fun a hf => ?_
     obtain ⟨t_2,ht_2,hF⟩ := bnd_some hF
     refine stCut 6 (fun a w => Has 85 a [(0,pq b_),(4,pq b_1),(5,pq b_2),(7,i6 many),(8,pq b_4),(9,pq b_5),(23,i6 ((w_.Roster.People.length : Nat) : Int)),(24,i6 x_0),(10,i6 xv),(61,.bool x_1),(62,.bool x_1),(68,.bool t_2)] ∧ Ctx G (.box b_5 [.bool x_1] 4::.box b_4 [i6 x_0] 3::.box b_2 [.slice ahead_p ahead.length ahead_c] 99::.box b_1 [i6 x.Person,i6 x.Station] 86::Lb) w) ?_ ?_
     ·cases hb : x_1
      ·rw [hb] at hf
       try rw [hb] at hc
       have hF := condF hb ht_2
       obtain rfl := sj hF
       refine stS hf rfl rfl rfl fun a hf => stS hf rfl rfl rfl fun a hf => stS hf rfl rfl rfl fun a hf => stS hf rfl rfl rfl fun a hf => stS hf rfl rfl rfl fun a hf => stP hf rfl rfl rfl (pPf rfl rfl) fun a hf => cNil ⟨hf.kp rfl,hc⟩
      ·rw [hb] at hf
       try rw [hb] at hc
       have hF := condT hb ht_2
       refine stE hf hc rfl rfl rfl (eLd1 sc_99 rfl (cell_box m2 rfl)) fun a w hf hc => stE hf hc rfl rfl rfl (eLd1 sc_3 rfl (cell_box m1 rfl)) fun a w hf hc => stP hf rfl rfl rfl (pM rfl) fun a hf => stP hf rfl rfl rfl (pBuildS (cells := [i6 x_0,i6 xv]) bt_86 rfl rfl) fun a hf => ?_
       obtain ⟨r_3,hr_3,hF⟩ := bnd_some hF
       refine stE hf hc rfl rfl rfl (eC (v := .bool r_3) (vs := [.slice ahead_p ahead.length ahead_c,.agg #[i6 x_0,i6 xv]]) (caps := []) en_173 rfl rfl rfl rfl (fun w hc => slices_Contains_Lcrew_Refusal_crew_Refusal_ok ahead (⟨x_0,xv⟩ : crew_Refusal) h_ahead hc hr_3)) fun a w hf hc => stP hf rfl rfl rfl (pPt rfl rfl) fun a hf => ?_
       obtain rfl := sj hF
       exact cNil ⟨hf.kp rfl,hc⟩
     intro a w ⟨hf,hc⟩
     refine stSt (vs := [.bool t_2]) hf hc rfl rfl rfl rfl sz_4 rfl rfl u0 fun w hc => cNil ?_
     refine h20 _ _ ?_
     exact ⟨t_2,_,(sj hF).symm,rfl,hc⟩
    ·rintro D_1 x_1 _ a w hsF rfl hf hc
     replace hf : Has ⟨85,markL (D_1::Ds)⟩ a [(0,pq b_),(4,pq b_1),(5,pq b_2),(7,i6 many),(8,pq b_4),(9,pq b_5),(23,i6 ((w_.Roster.People.length : Nat) : Int)),(24,i6 x_0)] := hf.kp rfl
     replace hc : Ctx G (.box b_6 [pq b_] 166::.box b_7 [i6 r_2.1] 3::.box b_8 [i6 r_2.2] 3::.box b_5 [.bool x_1] 4::.box b_4 [i6 x_0] 3::.box b_2 [.slice ahead_p ahead.length ahead_c] 99::.box b_1 [i6 x.Person,i6 x.Station] 86::(raws (D_1::Ds) ++ Lf)) w := rawsIn (C := [.box b_6 [pq b_] 166,.box b_7 [i6 r_2.1] 3,.box b_8 [i6 r_2.2] 3]) (L := [.box b_5 [.bool x_1] 4,.box b_4 [i6 x_0] 3,.box b_2 [.slice ahead_p ahead.length ahead_c] 99,.box b_1 [i6 x.Person,i6 x.Station] 86]) hc
     replace hF : (cond x_1 (crew_work_holds_j12 N x_0 (W (many + 1))) (crew_work_holds_j12 N x_0 many)) = some st8 := by rcases hsF with rfl | rfl <;> exact hF
     refine h17 _ _ ?_
     refine wp_seq_k fun K21 h21 => cReg ?_
     refine stE hf hc rfl rfl rfl (eLd1 sc_4 rfl (cell_box m3 rfl)) fun a w hf hc => cNil ?_
     refine h21 _ _ ?_
     refine cCond (b := x_1) hf rfl (fun hb => ?_) (fun hb => ?_)
     ·replace hF := condT hb hF
      clear hb
      refine cReg ?_
      refine stP hf rfl rfl rfl (pM rfl) fun a hf => stP hf rfl rfl rfl (pAdd rfl rfl) fun a hf => stP hf rfl rfl rfl (pA rfl) fun a hf => cNil ?_
      replace hc := hc.drop k4
      replace hc := hc.drop k3
      replace hc := hc.drop k2
      replace hc := hc.drop k1
      replace hc := hc.drop k0
      exact hj12 (W (many + 1)) (D_1::Ds) _ _  (hf.kp rfl) hc hF
     ·replace hF := condF hb hF
      clear hb
      refine wp_skip ?_
      replace hc := hc.drop k4
      replace hc := hc.drop k3
      replace hc := hc.drop k2
      replace hc := hc.drop k1
      replace hc := hc.drop k0
      exact hj12 many (D_1::Ds) _ _  (hf.kp rfl) hc hF
    ·rintro D_1 x_1 _ a w hsF rfl hf hc
     replace hf : Has ⟨85,markL (D_1::Ds)⟩ a [(0,pq b_),(4,pq b_1),(5,pq b_2),(7,i6 many),(8,pq b_4),(9,pq b_5),(23,i6 ((w_.Roster.People.length : Nat) : Int)),(24,i6 x_0)] := hf.kp rfl
     replace hc : Ctx G (.box b_6 [pq b_] 166::.box b_7 [i6 r_2.1] 3::.box b_8 [i6 r_2.2] 3::.box b_5 [.bool x_1] 4::.box b_4 [i6 x_0] 3::.box b_2 [.slice ahead_p ahead.length ahead_c] 99::.box b_1 [i6 x.Person,i6 x.Station] 86::(raws (D_1::Ds) ++ Lf)) w := rawsIn (C := [.box b_6 [pq b_] 166,.box b_7 [i6 r_2.1] 3,.box b_8 [i6 r_2.2] 3]) (L := [.box b_5 [.bool x_1] 4,.box b_4 [i6 x_0] 3,.box b_2 [.slice ahead_p ahead.length ahead_c] 99,.box b_1 [i6 x.Person,i6 x.Station] 86]) hc
     replace hF : (none) = some st8 := by subst hsF; exact hF
     cases hF
  ·replace hF := condF hb hF
   clear hb
   refine wp_exit ?_
   refine xThen ?_
   refine xThen ?_
   have he := sj hF
   rw [← he] at hfin8
   refine cHit ?_
   exact hr8 _ _ _ hfin8 ⟨Ds,hf.kp rfl,hc⟩

def crew_Holds_b12 (N : Nat) (l : List crew_Refusal) : Option (Step (Unit) (Bool × Int)) :=
 cond (decide (0 < ((l.length : Nat) : Int)))
 (Option.bind (getI l 0) fun e_1 =>
 none)
 (some (.brk ()))
def crew_Holds_b28 (N : Nat) (r : crew_Roster) (l : List crew_Refusal) (r_2 : (Nat → Int) × Int) (x : Int) : Option (Step (Int) (Bool × Int)) :=
 cond (decide (x < ((l.length : Nat) : Int)))
 (Option.bind (getI l x) fun e_2 =>
 Option.bind (subO l 0 x) fun sub =>
 Option.bind (crew_work_holds N (⟨r,r_2.1⟩ : crew_work) e_2 sub) fun r_4 =>
 cond (!r_4)
 (some (.ret (false,0)))
 (some (.cont (W (x + 1)))))
 (some (.brk x))
def crew_Holds (N : Nat) (r : crew_Roster) (l : List crew_Refusal) : Option (Bool × Int) :=
 Option.bind (crew_opened N r) (sumK (fun r_0 => cond (r_0 != 0)
 (some (false,r_0))
 (cond (decide (144 < ((l.length : Nat) : Int)))
 (some (false,3))
 (Option.bind (crew_every_crew_Refusal N l r) fun r_1 =>
 cond (!r_1)
 (some (false,2))
 (Option.bind (loopO (fun (_ : Unit) => crew_Holds_b12 N l) N ()) fun x12 =>
 exK x12 (fun (_ : Unit) => some (true,0)) some))))
 (fun r_2 => cond (r_2.2 != 0)
 (some (false,r_2.2))
 (cond (decide (144 < ((l.length : Nat) : Int)))
 (some (false,3))
 (Option.bind (crew_every_crew_Refusal N l r) fun r_3 =>
 cond (!r_3)
 (some (false,2))
 (Option.bind (loopO (fun s28 => crew_Holds_b28 N r l r_2 s28) N 0) fun x28 =>
 exK x28 (fun s28 => some (true,0)) some)))))
theorem crew_Holds_ok {N : Nat} {G : Pers} {Lf : List Ent} {w : World} (r : crew_Roster) (l : List crew_Refusal) {r_People_p : Option Addr} {r_People_c : Nat} {r_Stations_p : Option Addr} {r_Stations_c : Nat} {l_p : Option Addr} {l_c : Nat} (h_r_People : RdT kd_25 G 1 r_People_p r_People_c r.People) (h_r_Stations : RdT kd_101 G 2 r_Stations_p r_Stations_c r.Stations) (h_l : Rd G 2 l_p l_c (l.map enc_crew_Refusal)) (hc : Ctx G (Lf) w) {res : Bool × Int} (hF : crew_Holds N r l = some res) : Calls Tryz.prog 59 #[.agg #[.slice r_People_p r.People.length r_People_c,.slice r_Stations_p r.Stations.length r_Stations_c],.slice l_p l.length l_c] w (fun e w => e = .returned (.tuple #[.bool res.1,i6 res.2]) ∧ Ctx G (Lf) w) := by
 unfold crew_Holds at hF
 refine fnIn (args := [.agg #[.slice r_People_p r.People.length r_People_c,.slice r_Stations_p r.Stations.length r_Stations_c],.slice l_p l.length l_c]) Tryz.func59 rfl Tryz.ntmps59 rfl fun a hf => wp_seq_k fun K1 h1 => cReg ?_
 refine stBx (cs := [.slice r_People_p r.People.length r_People_c,.slice r_Stations_p r.Stations.length r_Stations_c]) hf hc rfl rfl rfl rfl fun b_1 a w hf hc => stP hf rfl rfl rfl (pA rfl) fun a hf => stP hf rfl rfl rfl (pA rfl) fun a hf => cNil ?_
 refine h1 _ _ ?_
 refine wp_seq_k fun K2 h2 => cReg ?_
 refine stE hf hc rfl rfl rfl (eLdN (vs := [.slice r_People_p r.People.length r_People_c,.slice r_Stations_p r.Stations.length r_Stations_c]) ag_78 rfl rfl (cells_box (n := 2) m0 rfl)) fun a w hf hc => ?_
 obtain ⟨r_0,hr_0,hF⟩ := bnd_some hF
 cases r_0 with
 | inl r_0 =>
  replace hF := sumKl hF
  refine stC (vs := [.agg #[.slice r_People_p r.People.length r_People_c,.slice r_Stations_p r.Stations.length r_Stations_c]]) (caps := []) hf rfl rfl rfl en_105 rfl rfl rfl rfl (crew_opened_ok r h_r_People h_r_Stations hc hr_0) ?_
  rintro _ w ⟨rfl,hc⟩
  refine ⟨_,rfl,fun a hf => ?_⟩
  refine stP hf rfl rfl rfl (pM rfl) fun a hf => stP hf rfl rfl rfl (pX rfl rfl) fun a hf => stP hf rfl rfl rfl (pX rfl rfl) fun a hf => stP hf rfl rfl rfl (pA rfl) fun a hf => stP hf rfl rfl rfl (pA rfl) fun a hf => cNil ?_
  refine h2 _ _ ?_
  refine wp_seq_k fun K3 h3 => wp_block ?_
  refine wp_seq_k fun K4 h4 => cReg ?_
  refine stP hf rfl rfl rfl (pM rfl) fun a hf => stP hf rfl rfl rfl (pNe rfl rfl) fun a hf => stP hf rfl rfl rfl (pA rfl) fun a hf => cNil ?_
  refine h4 _ _ ?_
  refine cCond (b := (r_0 != 0)) hf rfl (fun hb => ?_) (fun hb => ?_)
  ·replace hF := condT hb hF
   clear hb
   refine wp_seq_k fun K5 h5 => cReg ?_
   refine stP hf rfl rfl rfl (pM rfl) fun a hf => stP hf rfl rfl rfl (pA rfl) fun a hf => stP hf rfl rfl rfl (pA rfl) fun a hf => cNil ?_
   refine h5 _ _ ?_
   refine wp_ret ?_
   refine xBlkR ?_
   refine xThenR ?_
   obtain rfl := sj hF
   replace hc := hc.drop k0
   exact fnOut2 (by simp) rfl Tryz.results59 hf hc (show look _ 4 = _ from rfl) (show look _ 5 = _ from rfl) ⟨rfl,hc⟩
  ·replace hF := condF hb hF
   clear hb
   refine wp_seq_k fun K6 h6 => cReg ?_
   refine stP hf rfl rfl rfl (pM rfl) fun a hf => stP hf rfl rfl rfl (pLenS Tryz.underlying99 rfl) fun a hf => stP hf rfl rfl rfl (pGt rfl rfl) fun a hf => stP hf rfl rfl rfl (pA rfl) fun a hf => cNil ?_
   refine h6 _ _ ?_
   refine cCond (b := (decide (144 < ((l.length : Nat) : Int)))) hf rfl (fun hb => ?_) (fun hb => ?_)
   ·replace hF := condT hb hF
    clear hb
    refine wp_seq_k fun K7 h7 => cReg ?_
    refine stP hf rfl rfl rfl (pA rfl) fun a hf => stP hf rfl rfl rfl (pA rfl) fun a hf => cNil ?_
    refine h7 _ _ ?_
    refine wp_ret ?_
    refine xBlkR ?_
    refine xThenR ?_
    obtain rfl := sj hF
    replace hc := hc.drop k0
    exact fnOut2 (by simp) rfl Tryz.results59 hf hc (show look _ 4 = _ from rfl) (show look _ 5 = _ from rfl) ⟨rfl,hc⟩
   ·replace hF := condF hb hF
    clear hb
    refine wp_seq_k fun K8 h8 => cReg ?_
    refine stP hf rfl rfl rfl (pM rfl) fun a hf => stP hf rfl rfl rfl (pMF (us := [pq b_1]) rfl rfl) fun a hf => ?_
    obtain ⟨r_1,hr_1,hF⟩ := bnd_some hF
    refine stE hf hc rfl rfl rfl (eC (v := .bool r_1) (vs := [.slice l_p l.length l_c,.func (.func 129) #[] #[pq b_1]]) (caps := []) en_128 rfl rfl rfl rfl (fun w hc => (crew_every_crew_Refusal_ok l r h_l h_r_People h_r_Stations (hc.pick k0) hr_1).mono fun e w h => ⟨h.1,(h.2.unpick k0)⟩)) fun a w hf hc => stP hf rfl rfl rfl (pNot rfl) fun a hf => stP hf rfl rfl rfl (pA rfl) fun a hf => cNil ?_
    refine h8 _ _ ?_
    refine cCond (b := (!r_1)) hf rfl (fun hb => ?_) (fun hb => ?_)
    ·replace hF := condT hb hF
     clear hb
     refine wp_seq_k fun K9 h9 => cReg ?_
     refine stP hf rfl rfl rfl (pA rfl) fun a hf => stP hf rfl rfl rfl (pA rfl) fun a hf => cNil ?_
     refine h9 _ _ ?_
     refine wp_ret ?_
     refine xBlkR ?_
     refine xThenR ?_
     obtain rfl := sj hF
     replace hc := hc.drop k0
     exact fnOut2 (by simp) rfl Tryz.results59 hf hc (show look _ 4 = _ from rfl) (show look _ 5 = _ from rfl) ⟨rfl,hc⟩
    ·replace hF := condF hb hF
     clear hb
     refine wp_skip ?_
     refine h3 _ _ ?_
     refine wp_seq_k fun K10 h10 => wp_seq_k fun K11 h11 => cReg ?_
     refine stP hf rfl rfl rfl (pM rfl) fun a hf => stP hf rfl rfl rfl (pLenS Tryz.underlying99 rfl) fun a hf => stP hf rfl rfl rfl (pM rfl) fun a hf => cNil ?_
     refine h11 _ _ ?_
     refine wp_block ?_
     obtain ⟨x12,hx12,hF⟩ := bnd_some hF
     let S12 : Unit → Act → World → Prop := (fun (zz : Unit) a w => Has 43 a [(1,.slice l_p l.length l_c),(6,.pointer none),(28,.slice l_p l.length l_c),(29,i6 ((l.length : Nat) : Int)),(30,i6 0)] ∧ Ctx G (Lf) w)
     have hr12 : ∀ (zz : Unit) a w,x12 = .go zz → S12 zz a w → K10 a w := by
      rintro ⟨⟩ a w rfl ⟨hf,hc⟩
      replace hF := exK_go hF
      refine h10 _ _ ?_
      refine wp_seq_k fun K13 h13 => cReg ?_
      refine stP hf rfl rfl rfl (pA rfl) fun a hf => stP hf rfl rfl rfl (pA rfl) fun a hf => cNil ?_
      refine h13 _ _ ?_
      refine wp_ret ?_
      obtain rfl := sj hF
      exact fnOut2 (by simp) rfl Tryz.results59 hf hc (show look _ 4 = _ from rfl) (show look _ 5 = _ from rfl) ⟨rfl,hc⟩
     have ho12 : ∀ r,x12 = .out r → r = res := by
      rintro r rfl
      exact sj hF
     replace hc := hc.drop k0
     refine cLoop N (loopW (S := S12) (x := x12) ?_ N () _ _ ⟨hf.kp rfl,hc⟩ hx12)
     clear hF hf hc
     rintro ⟨⟩ st12 a w KB12 ⟨hf,hc⟩ hF hfin12 hK12
     unfold crew_Holds_b12 at hF
     refine wp_seq_k fun K14 h14 => cReg ?_
     refine stP hf rfl rfl rfl (pLt rfl rfl) fun a hf => cNil ?_
     refine h14 _ _ ?_
     refine wp_seq_k fun K15 h15 => cCond (b := (decide (0 < ((l.length : Nat) : Int)))) hf rfl (fun hb => ?_) (fun hb => ?_)
     ·replace hF := condT hb hF
      clear hb
      refine wp_skip ?_
      refine h15 _ _ ?_
      refine wp_seq_k fun K16 h16 => wp_block ?_
      refine wp_seq_k fun K17 h17 => cReg ?_
      refine stP hf rfl rfl rfl (pM rfl) fun a hf => ?_
      obtain ⟨e_1,he_1,hF⟩ := bnd_some hF
      obtain ⟨b_2,o,qa,qp⟩ := h_l.atm he_1
      refine stP hf rfl rfl rfl (pIA Tryz.underlying99 sz_86 rfl rfl qa) fun a hf => stE hf hc rfl rfl rfl (eLdN (vs := [i6 e_1.Person,i6 e_1.Station]) ag_86 rfl rfl (cells_pc qp (n := 2) (o' := 0) rfl)) fun a w hf hc => stAl (cs := [i6 0,i6 0]) hf hc rfl rfl zr_86 rfl fun b_3 a w hf hc => stP hf rfl rfl rfl (pA rfl) fun a hf => stSt (vs := [i6 e_1.Person,i6 e_1.Station]) hf hc rfl rfl rfl rfl sz_86 rfl rfl u0 fun w hc => cNil ?_
      refine h17 _ _ ?_
      refine wp_seq_k fun K18 h18 => noneO hF
     ·replace hF := condF hb hF
      clear hb
      refine wp_exit ?_
      refine xThen ?_
      refine xThen ?_
      have he := sj hF
      rw [← he] at hfin12
      refine cHit ?_
      exact hr12 _ _ _ hfin12 ⟨hf.kp rfl,hc⟩
 | inr r_2 =>
  replace hF := sumKr hF
  have hr_2 := hr_0
  refine stC (vs := [.agg #[.slice r_People_p r.People.length r_People_c,.slice r_Stations_p r.Stations.length r_Stations_c]]) (caps := []) hf rfl rfl rfl en_105 rfl rfl rfl rfl (crew_opened_ok r h_r_People h_r_Stations hc hr_2) ?_
  rintro _ w ⟨b_4,rfl,hc⟩
  refine ⟨_,rfl,fun a hf => ?_⟩
  refine stP hf rfl rfl rfl (pM rfl) fun a hf => stP hf rfl rfl rfl (pX rfl rfl) fun a hf => stP hf rfl rfl rfl (pX rfl rfl) fun a hf => stP hf rfl rfl rfl (pA rfl) fun a hf => stP hf rfl rfl rfl (pA rfl) fun a hf => cNil ?_
  obtain ⟨G,hle_fz,pc_fz,hc,-⟩ := lendB hc k0
  replace pc_fz := pc_of pc_fz
  refine h2 _ _ ?_
  refine wp_seq_k fun K19 h19 => wp_block ?_
  refine wp_seq_k fun K20 h20 => cReg ?_
  refine stP hf rfl rfl rfl (pM rfl) fun a hf => stP hf rfl rfl rfl (pNe rfl rfl) fun a hf => stP hf rfl rfl rfl (pA rfl) fun a hf => cNil ?_
  refine h20 _ _ ?_
  refine cCond (b := (r_2.2 != 0)) hf rfl (fun hb => ?_) (fun hb => ?_)
  ·replace hF := condT hb hF
   clear hb
   refine wp_seq_k fun K21 h21 => cReg ?_
   refine stP hf rfl rfl rfl (pM rfl) fun a hf => stP hf rfl rfl rfl (pA rfl) fun a hf => stP hf rfl rfl rfl (pA rfl) fun a hf => cNil ?_
   refine h21 _ _ ?_
   refine wp_ret ?_
   refine xBlkR ?_
   refine xThenR ?_
   obtain rfl := sj hF
   replace hc := hc.down hle_fz
   replace hc := hc.drop k0
   exact fnOut2 (by simp) rfl Tryz.results59 hf hc (show look _ 4 = _ from rfl) (show look _ 5 = _ from rfl) ⟨rfl,hc⟩
  ·replace hF := condF hb hF
   clear hb
   refine wp_seq_k fun K22 h22 => cReg ?_
   refine stP hf rfl rfl rfl (pM rfl) fun a hf => stP hf rfl rfl rfl (pLenS Tryz.underlying99 rfl) fun a hf => stP hf rfl rfl rfl (pGt rfl rfl) fun a hf => stP hf rfl rfl rfl (pA rfl) fun a hf => cNil ?_
   refine h22 _ _ ?_
   refine cCond (b := (decide (144 < ((l.length : Nat) : Int)))) hf rfl (fun hb => ?_) (fun hb => ?_)
   ·replace hF := condT hb hF
    clear hb
    refine wp_seq_k fun K23 h23 => cReg ?_
    refine stP hf rfl rfl rfl (pA rfl) fun a hf => stP hf rfl rfl rfl (pA rfl) fun a hf => cNil ?_
    refine h23 _ _ ?_
    refine wp_ret ?_
    refine xBlkR ?_
    refine xThenR ?_
    obtain rfl := sj hF
    replace hc := hc.down hle_fz
    replace hc := hc.drop k0
    exact fnOut2 (by simp) rfl Tryz.results59 hf hc (show look _ 4 = _ from rfl) (show look _ 5 = _ from rfl) ⟨rfl,hc⟩
   ·replace hF := condF hb hF
    clear hb
    refine wp_seq_k fun K24 h24 => cReg ?_
    refine stP hf rfl rfl rfl (pM rfl) fun a hf => stP hf rfl rfl rfl (pMF (us := [pq b_1]) rfl rfl) fun a hf => ?_
    obtain ⟨r_3,hr_3,hF⟩ := bnd_some hF
    refine stE hf hc rfl rfl rfl (eC (v := .bool r_3) (vs := [.slice l_p l.length l_c,.func (.func 129) #[] #[pq b_1]]) (caps := []) en_128 rfl rfl rfl rfl (fun w hc => (crew_every_crew_Refusal_ok l r (h_l.mono hle_fz) (h_r_People.mono hle_fz) (h_r_Stations.mono hle_fz) (hc.pick k0) hr_3).mono fun e w h => ⟨h.1,(h.2.unpick k0)⟩)) fun a w hf hc => stP hf rfl rfl rfl (pNot rfl) fun a hf => stP hf rfl rfl rfl (pA rfl) fun a hf => cNil ?_
    refine h24 _ _ ?_
    refine cCond (b := (!r_3)) hf rfl (fun hb => ?_) (fun hb => ?_)
    ·replace hF := condT hb hF
     clear hb
     refine wp_seq_k fun K25 h25 => cReg ?_
     refine stP hf rfl rfl rfl (pA rfl) fun a hf => stP hf rfl rfl rfl (pA rfl) fun a hf => cNil ?_
     refine h25 _ _ ?_
     refine wp_ret ?_
     refine xBlkR ?_
     refine xThenR ?_
     obtain rfl := sj hF
     replace hc := hc.down hle_fz
     replace hc := hc.drop k0
     exact fnOut2 (by simp) rfl Tryz.results59 hf hc (show look _ 4 = _ from rfl) (show look _ 5 = _ from rfl) ⟨rfl,hc⟩
    ·replace hF := condF hb hF
     clear hb
     refine wp_skip ?_
     refine h19 _ _ ?_
     refine wp_seq_k fun K26 h26 => wp_seq_k fun K27 h27 => cReg ?_
     refine stP hf rfl rfl rfl (pM rfl) fun a hf => stP hf rfl rfl rfl (pLenS Tryz.underlying99 rfl) fun a hf => stP hf rfl rfl rfl (pM rfl) fun a hf => cNil ?_
     refine h27 _ _ ?_
     refine wp_block ?_
     obtain ⟨x28,hx28,hF⟩ := bnd_some hF
     let S28 : Int → Act → World → Prop := (fun (zz : Int) a w => Has 43 a [(1,.slice l_p l.length l_c),(6,pq b_4),(28,.slice l_p l.length l_c),(29,i6 ((l.length : Nat) : Int)),(30,i6 zz)] ∧ Ctx G (Lf) w)
     have hr28 : ∀ (zz : Int) a w,x28 = .go zz → S28 zz a w → K26 a w := by
      rintro x a w rfl ⟨hf,hc⟩
      replace hF := exK_go hF
      refine h26 _ _ ?_
      refine wp_seq_k fun K29 h29 => cReg ?_
      refine stP hf rfl rfl rfl (pA rfl) fun a hf => stP hf rfl rfl rfl (pA rfl) fun a hf => cNil ?_
      refine h29 _ _ ?_
      refine wp_ret ?_
      obtain rfl := sj hF
      replace hc := hc.down hle_fz
      exact fnOut2 (by simp) rfl Tryz.results59 hf hc (show look _ 4 = _ from rfl) (show look _ 5 = _ from rfl) ⟨rfl,hc⟩
     have ho28 : ∀ r,x28 = .out r → r = res := by
      rintro r rfl
      exact sj hF
     replace hc := hc.drop k0
     refine cLoop N (loopW (S := S28) (x := x28) ?_ N 0 _ _ ⟨hf.kp rfl,hc⟩ hx28)
     clear hF hf hc
     rintro x st28 a w KB28 ⟨hf,hc⟩ hF hfin28 hK28
     unfold crew_Holds_b28 at hF
     refine wp_seq_k fun K30 h30 => cReg ?_
     refine stP hf rfl rfl rfl (pLt rfl rfl) fun a hf => cNil ?_
     refine h30 _ _ ?_
     refine wp_seq_k fun K31 h31 => cCond (b := (decide (x < ((l.length : Nat) : Int)))) hf rfl (fun hb => ?_) (fun hb => ?_)
     ·replace hF := condT hb hF
      clear hb
      refine wp_skip ?_
      refine h31 _ _ ?_
      refine wp_seq_k fun K32 h32 => wp_block ?_
      refine wp_seq_k fun K33 h33 => cReg ?_
      refine stP hf rfl rfl rfl (pM rfl) fun a hf => ?_
      obtain ⟨e_2,he_2,hF⟩ := bnd_some hF
      obtain ⟨b_5,o_1,qa_1,qp_1⟩ := (h_l.mono hle_fz).atm he_2
      refine stP hf rfl rfl rfl (pIA Tryz.underlying99 sz_86 rfl rfl qa_1) fun a hf => stE hf hc rfl rfl rfl (eLdN (vs := [i6 e_2.Person,i6 e_2.Station]) ag_86 rfl rfl (cells_pc qp_1 (n := 2) (o' := 0) rfl)) fun a w hf hc => stAl (cs := [i6 0,i6 0]) hf hc rfl rfl zr_86 rfl fun b_6 a w hf hc => stP hf rfl rfl rfl (pA rfl) fun a hf => stSt (vs := [i6 e_2.Person,i6 e_2.Station]) hf hc rfl rfl rfl rfl sz_86 rfl rfl u0 fun w hc => cNil ?_
      refine h33 _ _ ?_
      refine wp_seq_k fun K34 h34 => ?_
      obtain ⟨sub,hsub,hF⟩ := bnd_some hF
      have qs := Rd.sub (h_l.mono hle_fz) hsub
      obtain ⟨r_4,hr_4,hF⟩ := bnd_some hF
      refine cQ hc follows_mx (by kernel_rfl) ?_
      refine qE hf rfl rfl rfl (Pu.ev (pM rfl)) fun a hf => qE hf rfl rfl rfl (eLdN (vs := [i6 e_2.Person,i6 e_2.Station]) ag_86 rfl rfl (cells_box (n := 2) m0 rfl)) fun a hf => qE hf rfl rfl rfl (Pu.ev (pM rfl)) fun a hf => qE hf rfl rfl rfl (Pu.ev (pM rfl)) fun a hf => qE hf rfl rfl rfl (Pu.ev (pSl Tryz.underlying99 sz_86 rfl rfl (by simpa using (h_l.mono hle_fz).1) rfl rfl hsub)) fun a hf => qE hf rfl rfl rfl (eC (v := .bool r_4) (vs := [pq b_4,.agg #[i6 e_2.Person,i6 e_2.Station],.slice (subP l_p l_c (0 : Int).toNat 2) sub.length (l_c - (0 : Int).toNat)]) (caps := []) en_130 rfl rfl rfl rfl (fun w hc => crew_work_holds_ok (⟨r,r_2.1⟩ : crew_work) e_2 sub (h_r_People.mono hle_fz) (h_r_Stations.mono hle_fz) pc_fz qs hc hr_4)) fun a hf => qE hf rfl rfl rfl (Pu.ev (pNot rfl)) fun a hf => ?_
      intro w hc
      refine h34 _ _ ?_
      refine cCond (b := (!r_4)) hf rfl (fun hb => ?_) (fun hb => ?_)
      ·replace hF := condT hb hF
       clear hb
       refine wp_seq_k fun K35 h35 => cReg ?_
       refine stP hf rfl rfl rfl (pA rfl) fun a hf => stP hf rfl rfl rfl (pA rfl) fun a hf => cNil ?_
       refine h35 _ _ ?_
       refine wp_ret ?_
       refine xBlkR ?_
       refine xThenR ?_
       refine xThenR ?_
       have he := sj hF
       rw [← he] at hfin28
       replace hF := ho28 _ hfin28
       refine xBlkR ?_
       refine xThenR ?_
       obtain rfl := hF
       replace hc := hc.down hle_fz
       replace hc := hc.drop k0
       exact fnOut2 (by simp) rfl Tryz.results59 hf hc (show look _ 4 = _ from rfl) (show look _ 5 = _ from rfl) ⟨rfl,hc⟩
      ·replace hF := condF hb hF
       clear hb
       refine wp_skip ?_
       refine h32 _ _ ?_
       refine cReg ?_
       refine stP hf rfl rfl rfl (pAdd rfl rfl) fun a hf => stP hf rfl rfl rfl (pM rfl) fun a hf => cNil ?_
       replace hc := hc.drop k0
       exact hK28 (W (x + 1)) _ _ (sj hF).symm ⟨hf.kp rfl,hc⟩
     ·replace hF := condF hb hF
      clear hb
      refine wp_exit ?_
      refine xThen ?_
      refine xThen ?_
      have he := sj hF
      rw [← he] at hfin28
      refine cHit ?_
      exact hr28 _ _ _ hfin28 ⟨hf.kp rfl,hc⟩

def law11_span (N : Nat) (lo : Int) (hi_ : Int) : Option (api_Span) :=
 some (⟨lo,hi_⟩ : api_Span)
theorem law11_span_ok {N : Nat} {G : Pers} {Lf : List Ent} {w : World} (lo : Int) (hi_ : Int)   (hc : Ctx G (Lf) w) {res : api_Span} (hF : law11_span N lo hi_ = some res) : Calls Tryz.prog 51 #[i6 lo,i6 hi_] w (fun e w => e = .returned (.agg #[i6 res.Lo,i6 res.Hi]) ∧ Ctx G (Lf) w) := by
 unfold law11_span at hF
 refine fnIn (args := [i6 lo,i6 hi_]) Tryz.func51 rfl Tryz.ntmps51 rfl fun a hf => wp_seq_k fun K1 h1 => cReg ?_
 refine stAl (cs := [i6 0,i6 0]) hf hc rfl rfl zr_29 rfl fun b_1 a w hf hc => cNil ?_
 refine h1 _ _ ?_
 refine wp_seq_k fun K2 h2 => cReg ?_
 refine stP hf rfl rfl rfl (pM rfl) fun a hf => stP hf rfl rfl rfl (pM rfl) fun a hf => stP hf rfl rfl rfl (pBuildS (cells := [i6 lo,i6 hi_]) bt_29 rfl rfl) fun a hf => stSt (vs := [i6 lo,i6 hi_]) hf hc rfl rfl rfl rfl sz_29 rfl rfl u0 fun w hc => cNil ?_
 refine h2 _ _ ?_
 refine wp_ret ?_
 obtain rfl := sj hF
 exact fnOut1 (by simp) rfl Tryz.results51 hf hc (rv_cellN (vs := [i6 lo,i6 hi_]) ag_29 rfl rfl (cells_box (n := 2) m0 rfl)) ⟨rfl,(hc.drop k0)⟩

def law11_Trip (N : Nat) (last : Int) : Option ((List crew_Visit)) :=
 Option.bind (law11_span N 30 40) fun r =>
 Option.bind (law11_span N 20 25) fun r_1 =>
 Option.bind (law11_span N 10 10) fun r_2 =>
 some ([(⟨r,r_1,35,60⟩ : crew_Visit),(⟨r_2,(⟨0,0⟩ : api_Span),0,last⟩ : crew_Visit)] : List crew_Visit)
theorem law11_Trip_ok {N : Nat} {G : Pers} {Lf : List Ent} {w : World} (last : Int)   (hc : Ctx G (Lf) w) {res : (List crew_Visit)} (hF : law11_Trip N last = some res) : Calls Tryz.prog 68 #[i6 last] w (fun e w => ∃ (p'1 : Option Addr) (c'1 : Nat),e = .returned (.slice p'1 res.length c'1) ∧ Ctx G (.row p'1 c'1 (res.map enc_crew_Visit) 31 6::Lf) w) := by
 unfold law11_Trip at hF
 refine fnIn (args := [i6 last]) Tryz.func68 rfl Tryz.ntmps68 rfl fun a hf => wp_seq_k fun K1 h1 => cReg ?_
 refine stP hf rfl rfl rfl (pA rfl) fun a hf => cNil ?_
 refine h1 _ _ ?_
 refine wp_seq_k fun K2 h2 => cReg ?_
 obtain ⟨r,hr,hF⟩ := bnd_some hF
 refine stE hf hc rfl rfl rfl (eC (v := .agg #[i6 r.Lo,i6 r.Hi]) (vs := [i6 30,i6 40]) (caps := []) en_51 rfl rfl rfl rfl (fun w hc => law11_span_ok 30 40 hc hr)) fun a w hf hc => ?_
 obtain ⟨r_1,hr_1,hF⟩ := bnd_some hF
 refine stE hf hc rfl rfl rfl (eC (v := .agg #[i6 r_1.Lo,i6 r_1.Hi]) (vs := [i6 20,i6 25]) (caps := []) en_51 rfl rfl rfl rfl (fun w hc => law11_span_ok 20 25 hc hr_1)) fun a w hf hc => stP hf rfl rfl rfl (pBuildS (cells := [i6 r.Lo,i6 r.Hi,i6 r_1.Lo,i6 r_1.Hi,i6 35,i6 60]) bt_31 rfl rfl) fun a hf => ?_
 obtain ⟨r_2,hr_2,hF⟩ := bnd_some hF
 refine stE hf hc rfl rfl rfl (eC (v := .agg #[i6 r_2.Lo,i6 r_2.Hi]) (vs := [i6 10,i6 10]) (caps := []) en_51 rfl rfl rfl rfl (fun w hc => law11_span_ok 10 10 hc hr_2)) fun a w hf hc => stP hf rfl rfl rfl (pM rfl) fun a hf => stP hf rfl rfl rfl (pBuildS (cells := [i6 r_2.Lo,i6 r_2.Hi,i6 0,i6 0,i6 0,i6 last]) bt_31 rfl rfl) fun a hf => stBS (rows := ([(⟨r,r_1,35,60⟩ : crew_Visit),(⟨r_2,(⟨0,0⟩ : api_Span),0,last⟩ : crew_Visit)] : List crew_Visit).map enc_crew_Visit) (vs := [(0,.agg #[i6 r.Lo,i6 r.Hi,i6 r_1.Lo,i6 r_1.Hi,i6 35,i6 60]),(1,.agg #[i6 r_2.Lo,i6 r_2.Hi,i6 0,i6 0,i6 0,i6 last])]) hf hc rfl rfl sl_22 rfl ⟨rfl,rfl,rfl,rfl,rfl,rfl,trivial⟩ rfl rfl fun b_1 a w hf hc => stP hf rfl rfl rfl (pA rfl) fun a hf => cNil ?_
 refine h2 _ _ ?_
 refine wp_ret ?_
 obtain rfl := sj hF
 exact fnOut1 (by simp) rfl Tryz.results68 hf hc (show look _ 2 = _ from rfl) ⟨(some ⟨b_1,0,none⟩),2,rfl,hc⟩

def crew_minute (n : Int) : Bool :=
 (crew_in n 0 100000)
theorem crew_minute_ok {G : Pers} {Lf : List Ent} {w : World} (n : Int)   (hc : Ctx G (Lf) w) {res : Bool} (hF : crew_minute n = res) : Calls Tryz.prog 80 #[i6 n] w (fun e w => e = .returned (.bool res) ∧ Ctx G (Lf) w) := by
 unfold crew_minute at hF
 refine fnIn (args := [i6 n]) Tryz.func80 rfl Tryz.ntmps80 rfl fun a hf => wp_seq_k fun K1 h1 => cReg ?_
 refine stP hf rfl rfl rfl (pA rfl) fun a hf => cNil ?_
 refine h1 _ _ ?_
 refine wp_seq_k fun K2 h2 => cReg ?_
 refine stP hf rfl rfl rfl (pM rfl) fun a hf => stE hf hc rfl rfl rfl (eC (v := .bool (crew_in n 0 100000)) (vs := [i6 n,i6 0,i6 100000]) (caps := []) en_86 rfl rfl rfl rfl (fun w hc => crew_in_ok n 0 100000 hc rfl)) fun a w hf hc => stP hf rfl rfl rfl (pA rfl) fun a hf => cNil ?_
 refine h2 _ _ ?_
 refine wp_ret ?_
 obtain rfl := hF
 exact fnOut1 (by simp) rfl Tryz.results80 hf hc (show look _ 2 = _ from rfl) ⟨rfl,hc⟩

def crew_minutes (s_ : api_Span) : Bool :=
 ((crew_in s_.Lo 0 s_.Hi) && (crew_minute s_.Hi))
theorem crew_minutes_ok {G : Pers} {Lf : List Ent} {w : World} (s_ : api_Span)   (hc : Ctx G (Lf) w) {res : Bool} (hF : crew_minutes s_ = res) : Calls Tryz.prog 154 #[.agg #[i6 s_.Lo,i6 s_.Hi]] w (fun e w => e = .returned (.bool res) ∧ Ctx G (Lf) w) := by
 unfold crew_minutes at hF
 refine fnIn (args := [.agg #[i6 s_.Lo,i6 s_.Hi]]) Tryz.func154 rfl Tryz.ntmps154 rfl fun a hf => wp_seq_k fun K1 h1 => cReg ?_
 refine stBx (cs := [i6 s_.Lo,i6 s_.Hi]) hf hc rfl rfl rfl rfl fun b_1 a w hf hc => stP hf rfl rfl rfl (pA rfl) fun a hf => cNil ?_
 refine h1 _ _ ?_
 refine wp_seq_k fun K2 h2 => cReg ?_
 refine stP hf rfl rfl rfl (pFA fa_29_0 rfl) fun a hf => stE hf hc rfl rfl rfl (eLd1 sc_3 rfl (cell_box m0 rfl)) fun a w hf hc => stP hf rfl rfl rfl (pFA fa_29_1 rfl) fun a hf => stE hf hc rfl rfl rfl (eLd1 sc_3 rfl (cell_box m0 rfl)) fun a w hf hc => stE hf hc rfl rfl rfl (eC (v := .bool (crew_in s_.Lo 0 s_.Hi)) (vs := [i6 s_.Lo,i6 0,i6 s_.Hi]) (caps := []) en_86 rfl rfl rfl rfl (fun w hc => crew_in_ok s_.Lo 0 s_.Hi hc rfl)) fun a w hf hc => stP hf rfl rfl rfl (pM rfl) fun a hf => stCut 4 (fun a w => Has 13 a [(1,pq b_1),(2,.bool false),(3,pq b_1),(4,i6 s_.Lo),(5,.pointer (some ⟨b_1,1,none⟩)),(6,i6 s_.Hi),(7,.bool (crew_in s_.Lo 0 s_.Hi)),(8,.bool (crew_in s_.Lo 0 s_.Hi)),(12,.bool ((crew_in s_.Lo 0 s_.Hi) && (crew_minute s_.Hi)))] ∧ Ctx G (.box b_1 [i6 s_.Lo,i6 s_.Hi] 29::Lf) w) ?_ ?_
 ·cases hb : (crew_in s_.Lo 0 s_.Hi)
  ·rw [hb] at hf
   refine stS hf rfl rfl rfl fun a hf => stS hf rfl rfl rfl fun a hf => stS hf rfl rfl rfl fun a hf => stP hf rfl rfl rfl (pPf rfl rfl) fun a hf => cNil ⟨hf.kp rfl,hc⟩
  ·rw [hb] at hf
   refine stP hf rfl rfl rfl (pFA fa_29_1 rfl) fun a hf => stE hf hc rfl rfl rfl (eLd1 sc_3 rfl (cell_box m0 rfl)) fun a w hf hc => stE hf hc rfl rfl rfl (eC (v := .bool (crew_minute s_.Hi)) (vs := [i6 s_.Hi]) (caps := []) en_80 rfl rfl rfl rfl (fun w hc => crew_minute_ok s_.Hi hc rfl)) fun a w hf hc => stP hf rfl rfl rfl (pPt rfl rfl) fun a hf => cNil ⟨hf.kp rfl,hc⟩
 intro a w ⟨hf,hc⟩
 refine stP hf rfl rfl rfl (pA rfl) fun a hf => cNil ?_
 refine h2 _ _ ?_
 refine wp_ret ?_
 obtain rfl := hF
 replace hc := hc.drop k0
 exact fnOut1 (by simp) rfl Tryz.results154 hf hc (show look _ 2 = _ from rfl) ⟨rfl,hc⟩

def crew_rounded_1 (v : crew_Visit) : Bool :=
 ((((crew_minutes v.Way) && (crew_minutes v.Work)) && (crew_in v.Open 0 v.Close)) && (crew_minute v.Close))
theorem crew_rounded_1_ok {G : Pers} {Lf : List Ent} {w : World} (v : crew_Visit)   (hc : Ctx G (Lf) w) {res : Bool} (hF : crew_rounded_1 v = res) : Calls Tryz.prog 153 #[.agg #[i6 v.Way.Lo,i6 v.Way.Hi,i6 v.Work.Lo,i6 v.Work.Hi,i6 v.Open,i6 v.Close]] w (fun e w => e = .returned (.bool res) ∧ Ctx G (Lf) w) := by
 unfold crew_rounded_1 at hF
 refine fnIn (args := [.agg #[i6 v.Way.Lo,i6 v.Way.Hi,i6 v.Work.Lo,i6 v.Work.Hi,i6 v.Open,i6 v.Close]]) Tryz.func153 rfl Tryz.ntmps153 rfl fun a hf => wp_seq_k fun K1 h1 => cReg ?_
 refine stBx (cs := [i6 v.Way.Lo,i6 v.Way.Hi,i6 v.Work.Lo,i6 v.Work.Hi,i6 v.Open,i6 v.Close]) hf hc rfl rfl rfl rfl fun b_1 a w hf hc => stP hf rfl rfl rfl (pA rfl) fun a hf => cNil ?_
 refine h1 _ _ ?_
 refine wp_seq_k fun K2 h2 => cReg ?_
 refine stP hf rfl rfl rfl (pFA fa_31_0 rfl) fun a hf => stE hf hc rfl rfl rfl (eLdN (vs := [i6 v.Way.Lo,i6 v.Way.Hi]) ag_29 rfl rfl (cells_box (n := 2) m0 rfl)) fun a w hf hc => stE hf hc rfl rfl rfl (eC (v := .bool (crew_minutes v.Way)) (vs := [.agg #[i6 v.Way.Lo,i6 v.Way.Hi]]) (caps := []) en_154 rfl rfl rfl rfl (fun w hc => crew_minutes_ok v.Way hc rfl)) fun a w hf hc => stP hf rfl rfl rfl (pM rfl) fun a hf => stCut 4 (fun a w => Has 23 a [(1,pq b_1),(2,.bool false),(3,pq b_1),(4,.agg #[i6 v.Way.Lo,i6 v.Way.Hi]),(5,.bool (crew_minutes v.Way)),(6,.bool (crew_minutes v.Way)),(10,.bool ((crew_minutes v.Way) && (crew_minutes v.Work)))] ∧ Ctx G (.box b_1 [i6 v.Way.Lo,i6 v.Way.Hi,i6 v.Work.Lo,i6 v.Work.Hi,i6 v.Open,i6 v.Close] 31::Lf) w) ?_ ?_
 ·cases hb : (crew_minutes v.Way)
  ·rw [hb] at hf
   refine stS hf rfl rfl rfl fun a hf => stS hf rfl rfl rfl fun a hf => stS hf rfl rfl rfl fun a hf => stP hf rfl rfl rfl (pPf rfl rfl) fun a hf => cNil ⟨hf.kp rfl,hc⟩
  ·rw [hb] at hf
   refine stP hf rfl rfl rfl (pFA fa_31_1 rfl) fun a hf => stE hf hc rfl rfl rfl (eLdN (vs := [i6 v.Work.Lo,i6 v.Work.Hi]) ag_29 rfl rfl (cells_box (n := 2) m0 rfl)) fun a w hf hc => stE hf hc rfl rfl rfl (eC (v := .bool (crew_minutes v.Work)) (vs := [.agg #[i6 v.Work.Lo,i6 v.Work.Hi]]) (caps := []) en_154 rfl rfl rfl rfl (fun w hc => crew_minutes_ok v.Work hc rfl)) fun a w hf hc => stP hf rfl rfl rfl (pPt rfl rfl) fun a hf => cNil ⟨hf.kp rfl,hc⟩
 intro a w ⟨hf,hc⟩
 refine stP hf rfl rfl rfl (pM rfl) fun a hf => stCut 6 (fun a w => Has 23 a [(1,pq b_1),(2,.bool false),(3,pq b_1),(4,.agg #[i6 v.Way.Lo,i6 v.Way.Hi]),(5,.bool (crew_minutes v.Way)),(6,.bool (crew_minutes v.Way)),(10,.bool ((crew_minutes v.Way) && (crew_minutes v.Work))),(11,.bool ((crew_minutes v.Way) && (crew_minutes v.Work))),(17,.bool (((crew_minutes v.Way) && (crew_minutes v.Work)) && (crew_in v.Open 0 v.Close)))] ∧ Ctx G (.box b_1 [i6 v.Way.Lo,i6 v.Way.Hi,i6 v.Work.Lo,i6 v.Work.Hi,i6 v.Open,i6 v.Close] 31::Lf) w) ?_ ?_
 ·cases hb : ((crew_minutes v.Way) && (crew_minutes v.Work))
  ·rw [hb] at hf
   refine stS hf rfl rfl rfl fun a hf => stS hf rfl rfl rfl fun a hf => stS hf rfl rfl rfl fun a hf => stS hf rfl rfl rfl fun a hf => stS hf rfl rfl rfl fun a hf => stP hf rfl rfl rfl (pPf rfl rfl) fun a hf => cNil ⟨hf.kp rfl,hc⟩
  ·rw [hb] at hf
   refine stP hf rfl rfl rfl (pFA fa_31_2 rfl) fun a hf => stE hf hc rfl rfl rfl (eLd1 sc_3 rfl (cell_box m0 rfl)) fun a w hf hc => stP hf rfl rfl rfl (pFA fa_31_3 rfl) fun a hf => stE hf hc rfl rfl rfl (eLd1 sc_3 rfl (cell_box m0 rfl)) fun a w hf hc => stE hf hc rfl rfl rfl (eC (v := .bool (crew_in v.Open 0 v.Close)) (vs := [i6 v.Open,i6 0,i6 v.Close]) (caps := []) en_86 rfl rfl rfl rfl (fun w hc => crew_in_ok v.Open 0 v.Close hc rfl)) fun a w hf hc => stP hf rfl rfl rfl (pPt rfl rfl) fun a hf => cNil ⟨hf.kp rfl,hc⟩
 intro a w ⟨hf,hc⟩
 refine stP hf rfl rfl rfl (pM rfl) fun a hf => stCut 4 (fun a w => Has 23 a [(1,pq b_1),(2,.bool false),(3,pq b_1),(4,.agg #[i6 v.Way.Lo,i6 v.Way.Hi]),(5,.bool (crew_minutes v.Way)),(6,.bool (crew_minutes v.Way)),(10,.bool ((crew_minutes v.Way) && (crew_minutes v.Work))),(11,.bool ((crew_minutes v.Way) && (crew_minutes v.Work))),(17,.bool (((crew_minutes v.Way) && (crew_minutes v.Work)) && (crew_in v.Open 0 v.Close))),(18,.bool (((crew_minutes v.Way) && (crew_minutes v.Work)) && (crew_in v.Open 0 v.Close))),(22,.bool ((((crew_minutes v.Way) && (crew_minutes v.Work)) && (crew_in v.Open 0 v.Close)) && (crew_minute v.Close)))] ∧ Ctx G (.box b_1 [i6 v.Way.Lo,i6 v.Way.Hi,i6 v.Work.Lo,i6 v.Work.Hi,i6 v.Open,i6 v.Close] 31::Lf) w) ?_ ?_
 ·cases hb : (((crew_minutes v.Way) && (crew_minutes v.Work)) && (crew_in v.Open 0 v.Close))
  ·rw [hb] at hf
   refine stS hf rfl rfl rfl fun a hf => stS hf rfl rfl rfl fun a hf => stS hf rfl rfl rfl fun a hf => stP hf rfl rfl rfl (pPf rfl rfl) fun a hf => cNil ⟨hf.kp rfl,hc⟩
  ·rw [hb] at hf
   refine stP hf rfl rfl rfl (pFA fa_31_3 rfl) fun a hf => stE hf hc rfl rfl rfl (eLd1 sc_3 rfl (cell_box m0 rfl)) fun a w hf hc => stE hf hc rfl rfl rfl (eC (v := .bool (crew_minute v.Close)) (vs := [i6 v.Close]) (caps := []) en_80 rfl rfl rfl rfl (fun w hc => crew_minute_ok v.Close hc rfl)) fun a w hf hc => stP hf rfl rfl rfl (pPt rfl rfl) fun a hf => cNil ⟨hf.kp rfl,hc⟩
 intro a w ⟨hf,hc⟩
 refine stP hf rfl rfl rfl (pA rfl) fun a hf => cNil ?_
 refine h2 _ _ ?_
 refine wp_ret ?_
 obtain rfl := hF
 replace hc := hc.drop k0
 exact fnOut1 (by simp) rfl Tryz.results153 hf hc (show look _ 2 = _ from rfl) ⟨rfl,hc⟩

def crew_every_crew_Visit_1 (x : crew_Visit) : Bool :=
 (!(crew_rounded_1 (⟨x.Way,x.Work,x.Open,x.Close⟩ : crew_Visit)))
theorem crew_every_crew_Visit_1_ok {G : Pers} {Lf : List Ent} {w : World} (x : crew_Visit) {b_ : Nat}  (hc : Ctx G (.box b_ [.func (.func 153) #[] #[]] 219::Lf) w) {res : Bool} (hF : crew_every_crew_Visit_1 x = res) : Calls Tryz.prog 184 #[.agg #[i6 x.Way.Lo,i6 x.Way.Hi,i6 x.Work.Lo,i6 x.Work.Hi,i6 x.Open,i6 x.Close],pq b_] w (fun e w => e = .returned (.bool res) ∧ Ctx G (.box b_ [.func (.func 153) #[] #[]] 219::Lf) w) := by
 unfold crew_every_crew_Visit_1 at hF
 refine fnIn (args := [.agg #[i6 x.Way.Lo,i6 x.Way.Hi,i6 x.Work.Lo,i6 x.Work.Hi,i6 x.Open,i6 x.Close],pq b_]) Tryz.func184 rfl Tryz.ntmps184 rfl fun a hf => wp_seq_k fun K1 h1 => cReg ?_
 refine stBx (cs := [i6 x.Way.Lo,i6 x.Way.Hi,i6 x.Work.Lo,i6 x.Work.Hi,i6 x.Open,i6 x.Close]) hf hc rfl rfl rfl rfl fun b_1 a w hf hc => stP hf rfl rfl rfl (pA rfl) fun a hf => cNil ?_
 refine h1 _ _ ?_
 refine wp_seq_k fun K2 h2 => cReg ?_
 refine stE hf hc rfl rfl rfl (eLd1 sc_219 rfl (cell_box m1 rfl)) fun a w hf hc => stE hf hc rfl rfl rfl (eLdN (vs := [i6 x.Way.Lo,i6 x.Way.Hi,i6 x.Work.Lo,i6 x.Work.Hi,i6 x.Open,i6 x.Close]) ag_31 rfl rfl (cells_box (n := 6) m0 rfl)) fun a w hf hc => stE hf hc rfl rfl rfl (eC (v := .bool (crew_rounded_1 (⟨x.Way,x.Work,x.Open,x.Close⟩ : crew_Visit))) (vs := [.agg #[i6 x.Way.Lo,i6 x.Way.Hi,i6 x.Work.Lo,i6 x.Work.Hi,i6 x.Open,i6 x.Close]]) (caps := []) en_153 rfl rfl rfl rfl (fun w hc => crew_rounded_1_ok (⟨x.Way,x.Work,x.Open,x.Close⟩ : crew_Visit) hc rfl)) fun a w hf hc => stP hf rfl rfl rfl (pNot rfl) fun a hf => stP hf rfl rfl rfl (pA rfl) fun a hf => cNil ?_
 refine h2 _ _ ?_
 refine wp_ret ?_
 obtain rfl := hF
 replace hc := hc.drop k0
 exact fnOut1 (by simp) rfl Tryz.results184 hf hc (show look _ 3 = _ from rfl) ⟨rfl,hc⟩

def slices_IndexFunc_Lcrew_Visit_crew_Visit_b4 (N : Nat) (s_ : List crew_Visit) (x : Int) : Option (Step (Int) (Int)) :=
 cond (decide (x < ((s_.length : Nat) : Int)))
 (Option.bind (getI s_ x) fun e_1 =>
 cond (crew_every_crew_Visit_1 e_1)
 (some (.ret x))
 (some (.cont (W (x + 1)))))
 (some (.brk x))
def slices_IndexFunc_Lcrew_Visit_crew_Visit (N : Nat) (s_ : List crew_Visit) : Option (Int) :=
 Option.bind (loopO (fun s4 => slices_IndexFunc_Lcrew_Visit_crew_Visit_b4 N s_ s4) N 0) fun x4 =>
 exK x4 (fun s4 => some (-1)) some
theorem slices_IndexFunc_Lcrew_Visit_crew_Visit_ok {N : Nat} {G : Pers} {Lf : List Ent} {w : World} (s_ : List crew_Visit) {s__p : Option Addr} {s__c : Nat} {b_ : Nat} (h_s_ : Rd G 6 s__p s__c (s_.map enc_crew_Visit)) (hc : Ctx G (.box b_ [.func (.func 153) #[] #[]] 219::Lf) w) {res : Int} (hF : slices_IndexFunc_Lcrew_Visit_crew_Visit N s_ = some res) : Calls Tryz.prog 200 #[.slice s__p s_.length s__c,.func (.func 184) #[] #[pq b_]] w (fun e w => e = .returned (i6 res) ∧ Ctx G (.box b_ [.func (.func 153) #[] #[]] 219::Lf) w) := by
 unfold slices_IndexFunc_Lcrew_Visit_crew_Visit at hF
 refine fnIn (args := [.slice s__p s_.length s__c,.func (.func 184) #[] #[pq b_]]) Tryz.func200 rfl Tryz.ntmps200 rfl fun a hf => wp_seq_k fun K1 h1 => cReg ?_
 refine stP hf rfl rfl rfl (pA rfl) fun a hf => cNil ?_
 refine h1 _ _ ?_
 refine wp_seq_k fun K2 h2 => wp_seq_k fun K3 h3 => cReg ?_
 refine stP hf rfl rfl rfl (pM rfl) fun a hf => stP hf rfl rfl rfl (pLenS Tryz.underlying22 rfl) fun a hf => stP hf rfl rfl rfl (pM rfl) fun a hf => cNil ?_
 refine h3 _ _ ?_
 refine wp_block ?_
 obtain ⟨x4,hx4,hF⟩ := bnd_some hF
 let S4 : Int → Act → World → Prop := (fun (zz : Int) a w => Has 19 a [(0,.slice s__p s_.length s__c),(1,.func (.func 184) #[] #[pq b_]),(7,i6 ((s_.length : Nat) : Int)),(8,i6 zz)] ∧ Ctx G (.box b_ [.func (.func 153) #[] #[]] 219::Lf) w)
 have hr4 : ∀ (zz : Int) a w,x4 = .go zz → S4 zz a w → K2 a w := by
  rintro x a w rfl ⟨hf,hc⟩
  replace hF := exK_go hF
  refine h2 _ _ ?_
  refine wp_seq_k fun K5 h5 => cReg ?_
  refine stP hf rfl rfl rfl (pA rfl) fun a hf => cNil ?_
  refine h5 _ _ ?_
  refine wp_ret ?_
  obtain rfl := sj hF
  exact fnOut1 (by simp) rfl Tryz.results200 hf hc (show look _ 4 = _ from rfl) ⟨rfl,hc⟩
 have ho4 : ∀ r,x4 = .out r → r = res := by
  rintro r rfl
  exact sj hF
 refine cLoop N (loopW (S := S4) (x := x4) ?_ N 0 _ _ ⟨hf.kp rfl,hc⟩ hx4)
 clear hF hf hc
 rintro x st4 a w KB4 ⟨hf,hc⟩ hF hfin4 hK4
 unfold slices_IndexFunc_Lcrew_Visit_crew_Visit_b4 at hF
 refine wp_seq_k fun K6 h6 => cReg ?_
 refine stP hf rfl rfl rfl (pLt rfl rfl) fun a hf => cNil ?_
 refine h6 _ _ ?_
 refine wp_seq_k fun K7 h7 => cCond (b := (decide (x < ((s_.length : Nat) : Int)))) hf rfl (fun hb => ?_) (fun hb => ?_)
 ·replace hF := condT hb hF
  clear hb
  refine wp_skip ?_
  refine h7 _ _ ?_
  refine wp_seq_k fun K8 h8 => wp_block ?_
  refine wp_seq_k fun K9 h9 => cReg ?_
  refine stP hf rfl rfl rfl (pM rfl) fun a hf => stP hf rfl rfl rfl (pA rfl) fun a hf => cNil ?_
  refine h9 _ _ ?_
  refine wp_seq_k fun K10 h10 => cReg ?_
  refine stP hf rfl rfl rfl (pM rfl) fun a hf => stP hf rfl rfl rfl (pM rfl) fun a hf => stP hf rfl rfl rfl (pM rfl) fun a hf => ?_
  obtain ⟨e_1,he_1,hF⟩ := bnd_some hF
  obtain ⟨b_1,o,qa,qp⟩ := h_s_.atm he_1
  refine stP hf rfl rfl rfl (pIA Tryz.underlying22 sz_31 rfl rfl qa) fun a hf => stE hf hc rfl rfl rfl (eLdN (vs := [i6 e_1.Way.Lo,i6 e_1.Way.Hi,i6 e_1.Work.Lo,i6 e_1.Work.Hi,i6 e_1.Open,i6 e_1.Close]) ag_31 rfl rfl (cells_pc qp (n := 6) (o' := 0) rfl)) fun a w hf hc => stE hf hc rfl rfl rfl (eC (v := .bool (crew_every_crew_Visit_1 e_1)) (vs := [.agg #[i6 e_1.Way.Lo,i6 e_1.Way.Hi,i6 e_1.Work.Lo,i6 e_1.Work.Hi,i6 e_1.Open,i6 e_1.Close]]) (caps := [pq b_]) en_184 rfl rfl rfl rfl (fun w hc => (crew_every_crew_Visit_1_ok e_1 (hc.pick k0) rfl).mono fun e w h => ⟨h.1,(h.2.unpick k0)⟩)) fun a w hf hc => cNil ?_
  refine h10 _ _ ?_
  refine cCond (b := (crew_every_crew_Visit_1 e_1)) hf rfl (fun hb => ?_) (fun hb => ?_)
  ·replace hF := condT hb hF
   clear hb
   refine wp_seq_k fun K11 h11 => cReg ?_
   refine stP hf rfl rfl rfl (pM rfl) fun a hf => stP hf rfl rfl rfl (pA rfl) fun a hf => cNil ?_
   refine h11 _ _ ?_
   refine wp_ret ?_
   refine xBlkR ?_
   refine xThenR ?_
   refine xThenR ?_
   have he := sj hF
   rw [← he] at hfin4
   replace hF := ho4 _ hfin4
   refine xBlkR ?_
   refine xThenR ?_
   obtain rfl := hF
   exact fnOut1 (by simp) rfl Tryz.results200 hf hc (show look _ 4 = _ from rfl) ⟨rfl,hc⟩
  ·replace hF := condF hb hF
   clear hb
   refine wp_skip ?_
   refine h8 _ _ ?_
   refine cReg ?_
   refine stP hf rfl rfl rfl (pAdd rfl rfl) fun a hf => stP hf rfl rfl rfl (pM rfl) fun a hf => cNil ?_
   exact hK4 (W (x + 1)) _ _ (sj hF).symm ⟨hf.kp rfl,hc⟩
 ·replace hF := condF hb hF
  clear hb
  refine wp_exit ?_
  refine xThen ?_
  refine xThen ?_
  have he := sj hF
  rw [← he] at hfin4
  refine cHit ?_
  exact hr4 _ _ _ hfin4 ⟨hf.kp rfl,hc⟩

def slices_ContainsFunc_Lcrew_Visit_crew_Visit (N : Nat) (s_ : List crew_Visit) : Option (Bool) :=
 Option.bind (slices_IndexFunc_Lcrew_Visit_crew_Visit N s_) fun r =>
 some (decide (0 ≤ r))
theorem slices_ContainsFunc_Lcrew_Visit_crew_Visit_ok {N : Nat} {G : Pers} {Lf : List Ent} {w : World} (s_ : List crew_Visit) {s__p : Option Addr} {s__c : Nat} {b_ : Nat} (h_s_ : Rd G 6 s__p s__c (s_.map enc_crew_Visit)) (hc : Ctx G (.box b_ [.func (.func 153) #[] #[]] 219::Lf) w) {res : Bool} (hF : slices_ContainsFunc_Lcrew_Visit_crew_Visit N s_ = some res) : Calls Tryz.prog 183 #[.slice s__p s_.length s__c,.func (.func 184) #[] #[pq b_]] w (fun e w => e = .returned (.bool res) ∧ Ctx G (.box b_ [.func (.func 153) #[] #[]] 219::Lf) w) := by
 unfold slices_ContainsFunc_Lcrew_Visit_crew_Visit at hF
 refine fnIn (args := [.slice s__p s_.length s__c,.func (.func 184) #[] #[pq b_]]) Tryz.func183 rfl Tryz.ntmps183 rfl fun a hf => wp_seq_k fun K1 h1 => cReg ?_
 refine stP hf rfl rfl rfl (pA rfl) fun a hf => cNil ?_
 refine h1 _ _ ?_
 refine wp_seq_k fun K2 h2 => cReg ?_
 refine stP hf rfl rfl rfl (pM rfl) fun a hf => stP hf rfl rfl rfl (pM rfl) fun a hf => ?_
 obtain ⟨r,hr,hF⟩ := bnd_some hF
 refine stE hf hc rfl rfl rfl (eC (v := i6 r) (vs := [.slice s__p s_.length s__c,.func (.func 184) #[] #[pq b_]]) (caps := []) en_200 rfl rfl rfl rfl (fun w hc => (slices_IndexFunc_Lcrew_Visit_crew_Visit_ok s_ h_s_ (hc.pick k0) hr).mono fun e w h => ⟨h.1,(h.2.unpick k0)⟩)) fun a w hf hc => stP hf rfl rfl rfl (pGe rfl rfl) fun a hf => stP hf rfl rfl rfl (pA rfl) fun a hf => cNil ?_
 refine h2 _ _ ?_
 refine wp_ret ?_
 obtain rfl := sj hF
 exact fnOut1 (by simp) rfl Tryz.results183 hf hc (show look _ 4 = _ from rfl) ⟨rfl,hc⟩

def crew_every_crew_Visit (N : Nat) (l : List crew_Visit) : Option (Bool) :=
 Option.bind (slices_ContainsFunc_Lcrew_Visit_crew_Visit N l) fun r =>
 some (!r)
theorem crew_every_crew_Visit_ok {N : Nat} {G : Pers} {Lf : List Ent} {w : World} (l : List crew_Visit) {l_p : Option Addr} {l_c : Nat} (h_l : Rd G 6 l_p l_c (l.map enc_crew_Visit)) (hc : Ctx G (Lf) w) {res : Bool} (hF : crew_every_crew_Visit N l = some res) : Calls Tryz.prog 152 #[.slice l_p l.length l_c,.func (.func 153) #[] #[]] w (fun e w => e = .returned (.bool res) ∧ Ctx G (Lf) w) := by
 unfold crew_every_crew_Visit at hF
 refine fnIn (args := [.slice l_p l.length l_c,.func (.func 153) #[] #[]]) Tryz.func152 rfl Tryz.ntmps152 rfl fun a hf => wp_seq_k fun K1 h1 => cReg ?_
 refine stBx (cs := [.func (.func 153) #[] #[]]) hf hc rfl rfl rfl rfl fun b_1 a w hf hc => stP hf rfl rfl rfl (pA rfl) fun a hf => cNil ?_
 refine h1 _ _ ?_
 refine wp_seq_k fun K2 h2 => cReg ?_
 refine stP hf rfl rfl rfl (pM rfl) fun a hf => stP hf rfl rfl rfl (pMF (us := [pq b_1]) rfl rfl) fun a hf => ?_
 obtain ⟨r,hr,hF⟩ := bnd_some hF
 refine stE hf hc rfl rfl rfl (eC (v := .bool r) (vs := [.slice l_p l.length l_c,.func (.func 184) #[] #[pq b_1]]) (caps := []) en_183 rfl rfl rfl rfl (fun w hc => (slices_ContainsFunc_Lcrew_Visit_crew_Visit_ok l h_l (hc.pick k0) hr).mono fun e w h => ⟨h.1,(h.2.unpick k0)⟩)) fun a w hf hc => stP hf rfl rfl rfl (pNot rfl) fun a hf => stP hf rfl rfl rfl (pA rfl) fun a hf => cNil ?_
 refine h2 _ _ ?_
 refine wp_ret ?_
 obtain rfl := sj hF
 replace hc := hc.drop k0
 exact fnOut1 (by simp) rfl Tryz.results152 hf hc (show look _ 4 = _ from rfl) ⟨rfl,hc⟩

def crew_rounded (N : Nat) (l : List crew_Visit) : Option (Int) :=
 cond (!(crew_in ((l.length : Nat) : Int) 1 20))
 (some 3)
 (Option.bind (crew_every_crew_Visit N l) fun r =>
 cond (!r)
 (some 120)
 (some 0))
theorem crew_rounded_ok {N : Nat} {G : Pers} {Lf : List Ent} {w : World} (l : List crew_Visit) {l_p : Option Addr} {l_c : Nat} (h_l : Rd G 6 l_p l_c (l.map enc_crew_Visit)) (hc : Ctx G (Lf) w) {res : Int} (hF : crew_rounded N l = some res) : Calls Tryz.prog 79 #[.slice l_p l.length l_c] w (fun e w => e = .returned (i6 res) ∧ Ctx G (Lf) w) := by
 unfold crew_rounded at hF
 refine fnIn (args := [.slice l_p l.length l_c]) Tryz.func79 rfl Tryz.ntmps79 rfl fun a hf => wp_seq_k fun K1 h1 => cReg ?_
 refine stP hf rfl rfl rfl (pA rfl) fun a hf => cNil ?_
 refine h1 _ _ ?_
 refine wp_seq_k fun K2 h2 => wp_block ?_
 refine wp_seq_k fun K3 h3 => cReg ?_
 refine stP hf rfl rfl rfl (pM rfl) fun a hf => stP hf rfl rfl rfl (pLenS Tryz.underlying22 rfl) fun a hf => stE hf hc rfl rfl rfl (eC (v := .bool (crew_in ((l.length : Nat) : Int) 1 20)) (vs := [i6 ((l.length : Nat) : Int),i6 1,i6 20]) (caps := []) en_86 rfl rfl rfl rfl (fun w hc => crew_in_ok ((l.length : Nat) : Int) 1 20 hc rfl)) fun a w hf hc => stP hf rfl rfl rfl (pNot rfl) fun a hf => stP hf rfl rfl rfl (pA rfl) fun a hf => cNil ?_
 refine h3 _ _ ?_
 refine cCond (b := (!(crew_in ((l.length : Nat) : Int) 1 20))) hf rfl (fun hb => ?_) (fun hb => ?_)
 ·replace hF := condT hb hF
  clear hb
  refine wp_seq_k fun K4 h4 => cReg ?_
  refine stP hf rfl rfl rfl (pA rfl) fun a hf => cNil ?_
  refine h4 _ _ ?_
  refine wp_ret ?_
  refine xBlkR ?_
  refine xThenR ?_
  obtain rfl := sj hF
  exact fnOut1 (by simp) rfl Tryz.results79 hf hc (show look _ 2 = _ from rfl) ⟨rfl,hc⟩
 ·replace hF := condF hb hF
  clear hb
  refine wp_seq_k fun K5 h5 => cReg ?_
  refine stP hf rfl rfl rfl (pM rfl) fun a hf => ?_
  obtain ⟨r,hr,hF⟩ := bnd_some hF
  refine stE hf hc rfl rfl rfl (eC (v := .bool r) (vs := [.slice l_p l.length l_c,.func (.func 153) #[] #[]]) (caps := []) en_152 rfl rfl rfl rfl (fun w hc => crew_every_crew_Visit_ok l h_l hc hr)) fun a w hf hc => stP hf rfl rfl rfl (pNot rfl) fun a hf => stP hf rfl rfl rfl (pA rfl) fun a hf => cNil ?_
  refine h5 _ _ ?_
  refine cCond (b := (!r)) hf rfl (fun hb => ?_) (fun hb => ?_)
  ·replace hF := condT hb hF
   clear hb
   refine wp_seq_k fun K6 h6 => cReg ?_
   refine stP hf rfl rfl rfl (pA rfl) fun a hf => cNil ?_
   refine h6 _ _ ?_
   refine wp_ret ?_
   refine xBlkR ?_
   refine xThenR ?_
   obtain rfl := sj hF
   exact fnOut1 (by simp) rfl Tryz.results79 hf hc (show look _ 2 = _ from rfl) ⟨rfl,hc⟩
  ·replace hF := condF hb hF
   clear hb
   refine wp_skip ?_
   refine h2 _ _ ?_
   refine wp_seq_k fun K7 h7 => cReg ?_
   refine stP hf rfl rfl rfl (pA rfl) fun a hf => cNil ?_
   refine h7 _ _ ?_
   refine wp_ret ?_
   obtain rfl := sj hF
   exact fnOut1 (by simp) rfl Tryz.results79 hf hc (show look _ 2 = _ from rfl) ⟨rfl,hc⟩

def crew_low  : Unit :=
 ()
theorem crew_low_ok {G : Pers} {Lf : List Ent} {w : World}    (hc : Ctx G (Lf) w) {res : Unit} (hF : crew_low = res) : Calls Tryz.prog 82 #[] w (fun e w => e = .returned (.agg #[.func (.func 155) #[] #[]]) ∧ Ctx G (Lf) w) := by
 unfold crew_low at hF
 refine fnIn (args := []) Tryz.func82 rfl Tryz.ntmps82 rfl fun a hf => wp_seq_k fun K1 h1 => cReg ?_
 refine stAl (cs := [.nilFunc]) hf hc rfl rfl zr_147 rfl fun b_1 a w hf hc => cNil ?_
 refine h1 _ _ ?_
 refine wp_seq_k fun K2 h2 => cReg ?_
 refine stP hf rfl rfl rfl (pBuildS (cells := [.func (.func 155) #[] #[]]) bt_147 rfl rfl) fun a hf => stSt (vs := [.func (.func 155) #[] #[]]) hf hc rfl rfl rfl rfl sz_147 rfl rfl u0 fun w hc => cNil ?_
 refine h2 _ _ ?_
 refine wp_ret ?_
 obtain rfl := hF
 exact fnOut1 (by simp) rfl Tryz.results82 hf hc (rv_cellN (vs := [.func (.func 155) #[] #[]]) ag_147 rfl rfl (cells_box (n := 1) m0 rfl)) ⟨rfl,(hc.drop k0)⟩

def crew_low_1 (s_ : api_Span) : Int :=
 s_.Lo
theorem crew_low_1_ok {G : Pers} {Lf : List Ent} {w : World} (s_ : api_Span)   (hc : Ctx G (Lf) w) {res : Int} (hF : crew_low_1 s_ = res) : Calls Tryz.prog 155 #[.agg #[i6 s_.Lo,i6 s_.Hi]] w (fun e w => e = .returned (i6 res) ∧ Ctx G (Lf) w) := by
 unfold crew_low_1 at hF
 refine fnIn (args := [.agg #[i6 s_.Lo,i6 s_.Hi]]) Tryz.func155 rfl Tryz.ntmps155 rfl fun a hf => wp_seq_k fun K1 h1 => cReg ?_
 refine stBx (cs := [i6 s_.Lo,i6 s_.Hi]) hf hc rfl rfl rfl rfl fun b_1 a w hf hc => stP hf rfl rfl rfl (pA rfl) fun a hf => cNil ?_
 refine h1 _ _ ?_
 refine wp_seq_k fun K2 h2 => cReg ?_
 refine stP hf rfl rfl rfl (pFA fa_29_0 rfl) fun a hf => stE hf hc rfl rfl rfl (eLd1 sc_3 rfl (cell_box m0 rfl)) fun a w hf hc => stP hf rfl rfl rfl (pA rfl) fun a hf => cNil ?_
 refine h2 _ _ ?_
 refine wp_ret ?_
 obtain rfl := hF
 replace hc := hc.drop k0
 exact fnOut1 (by simp) rfl Tryz.results155 hf hc (show look _ 2 = _ from rfl) ⟨rfl,hc⟩

def crew_begins_b5 (N : Nat) (l : List crew_Visit) (start_0 : Int) (out : List Int) (x : Int) : Option (Step (Int × (List Int) × Int) ((List Int))) :=
 cond (decide (x < ((l.length : Nat) : Int)))
 (Option.bind (getI l x) fun e_1 =>
 Option.bind (room ((out ++ [max (W (start_0 + (crew_low_1 e_1.Way))) e_1.Open])).length) fun un =>
 some (.cont (W ((max (W (start_0 + (crew_low_1 e_1.Way))) e_1.Open) + (crew_low_1 e_1.Work)),(out ++ [max (W (start_0 + (crew_low_1 e_1.Way))) e_1.Open]),W (x + 1))))
 (some (.brk (start_0,out,x)))
def crew_begins (N : Nat) (start : Int) (l : List crew_Visit) : Option ((List Int)) :=
 Option.bind (loopO (fun s5 => crew_begins_b5 N l s5.1 s5.2.1 s5.2.2) N (start,([] : List Int),0)) fun x5 =>
 exK x5 (fun s5 => some s5.2.1) some
theorem crew_begins_ok {N : Nat} {G : Pers} {Lf : List Ent} {w : World} (start : Int) (l : List crew_Visit) {l_p : Option Addr} {l_c : Nat} (h_l : Rd G 6 l_p l_c (l.map enc_crew_Visit)) (hc : Ctx G (Lf) w) {res : (List Int)} (hF : crew_begins N start l = some res) : Calls Tryz.prog 81 #[i6 start,.slice l_p l.length l_c,.agg #[.func (.func 155) #[] #[]]] w (fun e w => ∃ (p'1 : Option Addr) (c'1 : Nat),e = .returned (.slice p'1 res.length c'1) ∧ Ctx G (.row p'1 c'1 (res.map encI_i64) 3 1::Lf) w) := by
 unfold crew_begins at hF
 refine fnIn (args := [i6 start,.slice l_p l.length l_c,.agg #[.func (.func 155) #[] #[]]]) Tryz.func81 rfl Tryz.ntmps81 rfl fun a hf => wp_seq_k fun K1 h1 => cReg ?_
 refine stBx (cs := [.func (.func 155) #[] #[]]) hf hc rfl rfl rfl rfl fun b_1 a w hf hc => stP hf rfl rfl rfl (pA rfl) fun a hf => cNil ?_
 refine h1 _ _ ?_
 refine wp_seq_k fun K2 h2 => cReg ?_
 refine stP hf rfl rfl rfl (pA rfl) fun a hf => cNil ?_
 refine h2 _ _ ?_
 refine wp_seq_k fun K3 h3 => wp_seq_k fun K4 h4 => cReg ?_
 refine stP hf rfl rfl rfl (pM rfl) fun a hf => stP hf rfl rfl rfl (pLenS Tryz.underlying22 rfl) fun a hf => stP hf rfl rfl rfl (pM rfl) fun a hf => cNil ?_
 refine h4 _ _ ?_
 refine wp_block ?_
 obtain ⟨x5,hx5,hF⟩ := bnd_some hF
 let S5 : (Int × (List Int) × Int) → Act → World → Prop := (fun (zz : Int × (List Int) × Int) a w => ∃ (p_1 : Option Addr) (c_1 : Nat),Has 40 a [(0,i6 zz.1),(5,pq b_1),(7,.slice p_1 zz.2.1.length c_1),(11,.slice l_p l.length l_c),(12,i6 ((l.length : Nat) : Int)),(13,i6 zz.2.2)] ∧ Ctx G (.row p_1 c_1 (zz.2.1.map encI_i64) 3 1::.box b_1 [.func (.func 155) #[] #[]] 147::Lf) w)
 have hr5 : ∀ (zz : Int × (List Int) × Int) a w,x5 = .go zz → S5 zz a w → K3 a w := by
  rintro ⟨start_0,out,x⟩ a w rfl ⟨p_1,c_1,hf,hc⟩
  replace hF := exK_go hF
  refine h3 _ _ ?_
  refine wp_seq_k fun K6 h6 => cReg ?_
  refine stP hf rfl rfl rfl (pM rfl) fun a hf => stP hf rfl rfl rfl (pA rfl) fun a hf => cNil ?_
  refine h6 _ _ ?_
  refine wp_ret ?_
  obtain rfl := sj hF
  replace hc := hc.drop k1
  exact fnOut1 (by simp) rfl Tryz.results81 hf hc (show look _ 6 = _ from rfl) ⟨p_1,c_1,rfl,hc⟩
 have ho5 : ∀ r,x5 = .out r → r = res := by
  rintro r rfl
  exact sj hF
 replace hc := hc.nilRow 3 1
 refine cLoop N (loopW (S := S5) (x := x5) ?_ N (start,([] : List Int),0) _ _ ⟨none,0,hf.kp rfl,hc⟩ hx5)
 clear hF hf hc
 rintro ⟨start_0,out,x⟩ st5 a w KB5 ⟨p_1,c_1,hf,hc⟩ hF hfin5 hK5
 unfold crew_begins_b5 at hF
 refine wp_seq_k fun K7 h7 => cReg ?_
 refine stP hf rfl rfl rfl (pLt rfl rfl) fun a hf => cNil ?_
 refine h7 _ _ ?_
 refine wp_seq_k fun K8 h8 => cCond (b := (decide (x < ((l.length : Nat) : Int)))) hf rfl (fun hb => ?_) (fun hb => ?_)
 ·replace hF := condT hb hF
  clear hb
  refine wp_skip ?_
  refine h8 _ _ ?_
  refine wp_seq_k fun K9 h9 => wp_block ?_
  refine wp_seq_k fun K10 h10 => cReg ?_
  obtain ⟨e_1,he_1,hF⟩ := bnd_some hF
  obtain ⟨b_2,o,qa,qp⟩ := h_l.atm he_1
  refine stP hf rfl rfl rfl (pIA Tryz.underlying22 sz_31 rfl rfl qa) fun a hf => stE hf hc rfl rfl rfl (eLdN (vs := [i6 e_1.Way.Lo,i6 e_1.Way.Hi,i6 e_1.Work.Lo,i6 e_1.Work.Hi,i6 e_1.Open,i6 e_1.Close]) ag_31 rfl rfl (cells_pc qp (n := 6) (o' := 0) rfl)) fun a w hf hc => stAl (cs := [i6 0,i6 0,i6 0,i6 0,i6 0,i6 0]) hf hc rfl rfl zr_31 rfl fun b_3 a w hf hc => stSt (vs := [i6 e_1.Way.Lo,i6 e_1.Way.Hi,i6 e_1.Work.Lo,i6 e_1.Work.Hi,i6 e_1.Open,i6 e_1.Close]) hf hc rfl rfl rfl rfl sz_31 rfl rfl u0 fun w hc => cNil ?_
  refine h10 _ _ ?_
  refine wp_seq_k fun K11 h11 => cQ hc follows_mx (by kernel_rfl) ?_
  refine qE hf rfl rfl rfl (Pu.ev (pM rfl)) fun a hf => qE hf rfl rfl rfl (Pu.ev (pFA fa_147_0 rfl)) fun a hf => qE hf rfl rfl rfl (eLd1 sc_145 rfl (cell_box m2 rfl)) fun a hf => qE hf rfl rfl rfl (Pu.ev (pFA fa_31_0 rfl)) fun a hf => qE hf rfl rfl rfl (eLdN (vs := [i6 e_1.Way.Lo,i6 e_1.Way.Hi]) ag_29 rfl rfl (cells_box (n := 2) m0 rfl)) fun a hf => qE hf rfl rfl rfl (eC (v := i6 (crew_low_1 e_1.Way)) (vs := [.agg #[i6 e_1.Way.Lo,i6 e_1.Way.Hi]]) (caps := []) en_155 rfl rfl rfl rfl (fun w hc => crew_low_1_ok e_1.Way hc rfl)) fun a hf => qE hf rfl rfl rfl (Pu.ev (pAdd rfl rfl)) fun a hf => qE hf rfl rfl rfl (Pu.ev (pFA fa_31_2 rfl)) fun a hf => qE hf rfl rfl rfl (eLd1 sc_3 rfl (cell_box m0 rfl)) fun a hf => qE hf rfl rfl rfl (Pu.ev (pMax2 rfl rfl)) fun a hf => qE hf rfl rfl rfl (Pu.ev (pA rfl)) fun a hf => ?_
  intro w hc
  refine h11 _ _ ?_
  refine wp_seq_k fun K12 h12 => cReg ?_
  refine stP hf rfl rfl rfl (pM rfl) fun a hf => stP hf rfl rfl rfl (pM rfl) fun a hf => stBS (rows := ([max (W (start_0 + (crew_low_1 e_1.Way))) e_1.Open] : List Int).map encI_i64) (vs := [(0,i6 (max (W (start_0 + (crew_low_1 e_1.Way))) e_1.Open))]) hf hc rfl rfl sl_25 rfl ⟨rfl,rfl,rfl,trivial⟩ rfl rfl fun b_4 a w hf hc => ?_
  obtain ⟨un,hun,hF⟩ := bnd_some hF
  refine stApm (xs := out) (ys := ([max (W (start_0 + (crew_low_1 e_1.Way))) e_1.Open] : List Int)) hf hc rfl rfl sl_25 rfl rfl rfl rfl rfl one_encI_i64 (src_row hc m0) (fun _ _ => u2) (by simpa using room_spec hun) fun p_2 c_2 a w hf hc => stP hf rfl rfl rfl (pA rfl) fun a hf => cNil ?_
  refine h12 _ _ ?_
  refine cReg ?_
  refine stP hf rfl rfl rfl (pM rfl) fun a hf => stP hf rfl rfl rfl (pFA fa_147_0 rfl) fun a hf => stE hf hc rfl rfl rfl (eLd1 sc_145 rfl (cell_box m3 rfl)) fun a w hf hc => stP hf rfl rfl rfl (pFA fa_31_1 rfl) fun a hf => stE hf hc rfl rfl rfl (eLdN (vs := [i6 e_1.Work.Lo,i6 e_1.Work.Hi]) ag_29 rfl rfl (cells_box (n := 2) m1 rfl)) fun a w hf hc => stE hf hc rfl rfl rfl (eC (v := i6 (crew_low_1 e_1.Work)) (vs := [.agg #[i6 e_1.Work.Lo,i6 e_1.Work.Hi]]) (caps := []) en_155 rfl rfl rfl rfl (fun w hc => crew_low_1_ok e_1.Work hc rfl)) fun a w hf hc => stP hf rfl rfl rfl (pAdd rfl rfl) fun a hf => stP hf rfl rfl rfl (pA rfl) fun a hf => cNil ?_
  refine h9 _ _ ?_
  refine cReg ?_
  refine stP hf rfl rfl rfl (pAdd rfl rfl) fun a hf => stP hf rfl rfl rfl (pM rfl) fun a hf => cNil ?_
  replace hc := hc.drop k1
  replace hc := hc.drop k0
  exact hK5 (W ((max (W (start_0 + (crew_low_1 e_1.Way))) e_1.Open) + (crew_low_1 e_1.Work)),(out ++ [max (W (start_0 + (crew_low_1 e_1.Way))) e_1.Open]),W (x + 1)) _ _ (sj hF).symm ⟨p_2,c_2,hf.kp rfl,hc⟩
 ·replace hF := condF hb hF
  clear hb
  refine wp_exit ?_
  refine xThen ?_
  refine xThen ?_
  have he := sj hF
  rw [← he] at hfin5
  refine cHit ?_
  exact hr5 _ _ _ hfin5 ⟨p_1,c_1,hf.kp rfl,hc⟩

def crew_high  : Unit :=
 ()
theorem crew_high_ok {G : Pers} {Lf : List Ent} {w : World}    (hc : Ctx G (Lf) w) {res : Unit} (hF : crew_high = res) : Calls Tryz.prog 83 #[] w (fun e w => e = .returned (.agg #[.func (.func 156) #[] #[]]) ∧ Ctx G (Lf) w) := by
 unfold crew_high at hF
 refine fnIn (args := []) Tryz.func83 rfl Tryz.ntmps83 rfl fun a hf => wp_seq_k fun K1 h1 => cReg ?_
 refine stAl (cs := [.nilFunc]) hf hc rfl rfl zr_147 rfl fun b_1 a w hf hc => cNil ?_
 refine h1 _ _ ?_
 refine wp_seq_k fun K2 h2 => cReg ?_
 refine stP hf rfl rfl rfl (pBuildS (cells := [.func (.func 156) #[] #[]]) bt_147 rfl rfl) fun a hf => stSt (vs := [.func (.func 156) #[] #[]]) hf hc rfl rfl rfl rfl sz_147 rfl rfl u0 fun w hc => cNil ?_
 refine h2 _ _ ?_
 refine wp_ret ?_
 obtain rfl := hF
 exact fnOut1 (by simp) rfl Tryz.results83 hf hc (rv_cellN (vs := [.func (.func 156) #[] #[]]) ag_147 rfl rfl (cells_box (n := 1) m0 rfl)) ⟨rfl,(hc.drop k0)⟩

def crew_high_1 (s_ : api_Span) : Int :=
 s_.Hi
theorem crew_high_1_ok {G : Pers} {Lf : List Ent} {w : World} (s_ : api_Span)   (hc : Ctx G (Lf) w) {res : Int} (hF : crew_high_1 s_ = res) : Calls Tryz.prog 156 #[.agg #[i6 s_.Lo,i6 s_.Hi]] w (fun e w => e = .returned (i6 res) ∧ Ctx G (Lf) w) := by
 unfold crew_high_1 at hF
 refine fnIn (args := [.agg #[i6 s_.Lo,i6 s_.Hi]]) Tryz.func156 rfl Tryz.ntmps156 rfl fun a hf => wp_seq_k fun K1 h1 => cReg ?_
 refine stBx (cs := [i6 s_.Lo,i6 s_.Hi]) hf hc rfl rfl rfl rfl fun b_1 a w hf hc => stP hf rfl rfl rfl (pA rfl) fun a hf => cNil ?_
 refine h1 _ _ ?_
 refine wp_seq_k fun K2 h2 => cReg ?_
 refine stP hf rfl rfl rfl (pFA fa_29_1 rfl) fun a hf => stE hf hc rfl rfl rfl (eLd1 sc_3 rfl (cell_box m0 rfl)) fun a w hf hc => stP hf rfl rfl rfl (pA rfl) fun a hf => cNil ?_
 refine h2 _ _ ?_
 refine wp_ret ?_
 obtain rfl := hF
 replace hc := hc.drop k0
 exact fnOut1 (by simp) rfl Tryz.results156 hf hc (show look _ 2 = _ from rfl) ⟨rfl,hc⟩

def crew_begins_s2_b5 (N : Nat) (l : List crew_Visit) (start_0 : Int) (out : List Int) (x : Int) : Option (Step (Int × (List Int) × Int) ((List Int))) :=
 cond (decide (x < ((l.length : Nat) : Int)))
 (Option.bind (getI l x) fun e_1 =>
 Option.bind (room ((out ++ [max (W (start_0 + (crew_high_1 e_1.Way))) e_1.Open])).length) fun un =>
 some (.cont (W ((max (W (start_0 + (crew_high_1 e_1.Way))) e_1.Open) + (crew_high_1 e_1.Work)),(out ++ [max (W (start_0 + (crew_high_1 e_1.Way))) e_1.Open]),W (x + 1))))
 (some (.brk (start_0,out,x)))
def crew_begins_s2 (N : Nat) (start : Int) (l : List crew_Visit) : Option ((List Int)) :=
 Option.bind (loopO (fun s5 => crew_begins_s2_b5 N l s5.1 s5.2.1 s5.2.2) N (start,([] : List Int),0)) fun x5 =>
 exK x5 (fun s5 => some s5.2.1) some
theorem crew_begins_s2_ok {N : Nat} {G : Pers} {Lf : List Ent} {w : World} (start : Int) (l : List crew_Visit) {l_p : Option Addr} {l_c : Nat} (h_l : Rd G 6 l_p l_c (l.map enc_crew_Visit)) (hc : Ctx G (Lf) w) {res : (List Int)} (hF : crew_begins_s2 N start l = some res) : Calls Tryz.prog 81 #[i6 start,.slice l_p l.length l_c,.agg #[.func (.func 156) #[] #[]]] w (fun e w => ∃ (p'1 : Option Addr) (c'1 : Nat),e = .returned (.slice p'1 res.length c'1) ∧ Ctx G (.row p'1 c'1 (res.map encI_i64) 3 1::Lf) w) := by
 unfold crew_begins_s2 at hF
 refine fnIn (args := [i6 start,.slice l_p l.length l_c,.agg #[.func (.func 156) #[] #[]]]) Tryz.func81 rfl Tryz.ntmps81 rfl fun a hf => wp_seq_k fun K1 h1 => cReg ?_
 refine stBx (cs := [.func (.func 156) #[] #[]]) hf hc rfl rfl rfl rfl fun b_1 a w hf hc => stP hf rfl rfl rfl (pA rfl) fun a hf => cNil ?_
 refine h1 _ _ ?_
 refine wp_seq_k fun K2 h2 => cReg ?_
 refine stP hf rfl rfl rfl (pA rfl) fun a hf => cNil ?_
 refine h2 _ _ ?_
 refine wp_seq_k fun K3 h3 => wp_seq_k fun K4 h4 => cReg ?_
 refine stP hf rfl rfl rfl (pM rfl) fun a hf => stP hf rfl rfl rfl (pLenS Tryz.underlying22 rfl) fun a hf => stP hf rfl rfl rfl (pM rfl) fun a hf => cNil ?_
 refine h4 _ _ ?_
 refine wp_block ?_
 obtain ⟨x5,hx5,hF⟩ := bnd_some hF
 let S5 : (Int × (List Int) × Int) → Act → World → Prop := (fun (zz : Int × (List Int) × Int) a w => ∃ (p_1 : Option Addr) (c_1 : Nat),Has 40 a [(0,i6 zz.1),(5,pq b_1),(7,.slice p_1 zz.2.1.length c_1),(11,.slice l_p l.length l_c),(12,i6 ((l.length : Nat) : Int)),(13,i6 zz.2.2)] ∧ Ctx G (.row p_1 c_1 (zz.2.1.map encI_i64) 3 1::.box b_1 [.func (.func 156) #[] #[]] 147::Lf) w)
 have hr5 : ∀ (zz : Int × (List Int) × Int) a w,x5 = .go zz → S5 zz a w → K3 a w := by
  rintro ⟨start_0,out,x⟩ a w rfl ⟨p_1,c_1,hf,hc⟩
  replace hF := exK_go hF
  refine h3 _ _ ?_
  refine wp_seq_k fun K6 h6 => cReg ?_
  refine stP hf rfl rfl rfl (pM rfl) fun a hf => stP hf rfl rfl rfl (pA rfl) fun a hf => cNil ?_
  refine h6 _ _ ?_
  refine wp_ret ?_
  obtain rfl := sj hF
  replace hc := hc.drop k1
  exact fnOut1 (by simp) rfl Tryz.results81 hf hc (show look _ 6 = _ from rfl) ⟨p_1,c_1,rfl,hc⟩
 have ho5 : ∀ r,x5 = .out r → r = res := by
  rintro r rfl
  exact sj hF
 replace hc := hc.nilRow 3 1
 refine cLoop N (loopW (S := S5) (x := x5) ?_ N (start,([] : List Int),0) _ _ ⟨none,0,hf.kp rfl,hc⟩ hx5)
 clear hF hf hc
 rintro ⟨start_0,out,x⟩ st5 a w KB5 ⟨p_1,c_1,hf,hc⟩ hF hfin5 hK5
 unfold crew_begins_s2_b5 at hF
 refine wp_seq_k fun K7 h7 => cReg ?_
 refine stP hf rfl rfl rfl (pLt rfl rfl) fun a hf => cNil ?_
 refine h7 _ _ ?_
 refine wp_seq_k fun K8 h8 => cCond (b := (decide (x < ((l.length : Nat) : Int)))) hf rfl (fun hb => ?_) (fun hb => ?_)
 ·replace hF := condT hb hF
  clear hb
  refine wp_skip ?_
  refine h8 _ _ ?_
  refine wp_seq_k fun K9 h9 => wp_block ?_
  refine wp_seq_k fun K10 h10 => cReg ?_
  obtain ⟨e_1,he_1,hF⟩ := bnd_some hF
  obtain ⟨b_2,o,qa,qp⟩ := h_l.atm he_1
  refine stP hf rfl rfl rfl (pIA Tryz.underlying22 sz_31 rfl rfl qa) fun a hf => stE hf hc rfl rfl rfl (eLdN (vs := [i6 e_1.Way.Lo,i6 e_1.Way.Hi,i6 e_1.Work.Lo,i6 e_1.Work.Hi,i6 e_1.Open,i6 e_1.Close]) ag_31 rfl rfl (cells_pc qp (n := 6) (o' := 0) rfl)) fun a w hf hc => stAl (cs := [i6 0,i6 0,i6 0,i6 0,i6 0,i6 0]) hf hc rfl rfl zr_31 rfl fun b_3 a w hf hc => stSt (vs := [i6 e_1.Way.Lo,i6 e_1.Way.Hi,i6 e_1.Work.Lo,i6 e_1.Work.Hi,i6 e_1.Open,i6 e_1.Close]) hf hc rfl rfl rfl rfl sz_31 rfl rfl u0 fun w hc => cNil ?_
  refine h10 _ _ ?_
  refine wp_seq_k fun K11 h11 => cQ hc follows_mx (by kernel_rfl) ?_
  refine qE hf rfl rfl rfl (Pu.ev (pM rfl)) fun a hf => qE hf rfl rfl rfl (Pu.ev (pFA fa_147_0 rfl)) fun a hf => qE hf rfl rfl rfl (eLd1 sc_145 rfl (cell_box m2 rfl)) fun a hf => qE hf rfl rfl rfl (Pu.ev (pFA fa_31_0 rfl)) fun a hf => qE hf rfl rfl rfl (eLdN (vs := [i6 e_1.Way.Lo,i6 e_1.Way.Hi]) ag_29 rfl rfl (cells_box (n := 2) m0 rfl)) fun a hf => qE hf rfl rfl rfl (eC (v := i6 (crew_high_1 e_1.Way)) (vs := [.agg #[i6 e_1.Way.Lo,i6 e_1.Way.Hi]]) (caps := []) en_156 rfl rfl rfl rfl (fun w hc => crew_high_1_ok e_1.Way hc rfl)) fun a hf => qE hf rfl rfl rfl (Pu.ev (pAdd rfl rfl)) fun a hf => qE hf rfl rfl rfl (Pu.ev (pFA fa_31_2 rfl)) fun a hf => qE hf rfl rfl rfl (eLd1 sc_3 rfl (cell_box m0 rfl)) fun a hf => qE hf rfl rfl rfl (Pu.ev (pMax2 rfl rfl)) fun a hf => qE hf rfl rfl rfl (Pu.ev (pA rfl)) fun a hf => ?_
  intro w hc
  refine h11 _ _ ?_
  refine wp_seq_k fun K12 h12 => cReg ?_
  refine stP hf rfl rfl rfl (pM rfl) fun a hf => stP hf rfl rfl rfl (pM rfl) fun a hf => stBS (rows := ([max (W (start_0 + (crew_high_1 e_1.Way))) e_1.Open] : List Int).map encI_i64) (vs := [(0,i6 (max (W (start_0 + (crew_high_1 e_1.Way))) e_1.Open))]) hf hc rfl rfl sl_25 rfl ⟨rfl,rfl,rfl,trivial⟩ rfl rfl fun b_4 a w hf hc => ?_
  obtain ⟨un,hun,hF⟩ := bnd_some hF
  refine stApm (xs := out) (ys := ([max (W (start_0 + (crew_high_1 e_1.Way))) e_1.Open] : List Int)) hf hc rfl rfl sl_25 rfl rfl rfl rfl rfl one_encI_i64 (src_row hc m0) (fun _ _ => u2) (by simpa using room_spec hun) fun p_2 c_2 a w hf hc => stP hf rfl rfl rfl (pA rfl) fun a hf => cNil ?_
  refine h12 _ _ ?_
  refine cReg ?_
  refine stP hf rfl rfl rfl (pM rfl) fun a hf => stP hf rfl rfl rfl (pFA fa_147_0 rfl) fun a hf => stE hf hc rfl rfl rfl (eLd1 sc_145 rfl (cell_box m3 rfl)) fun a w hf hc => stP hf rfl rfl rfl (pFA fa_31_1 rfl) fun a hf => stE hf hc rfl rfl rfl (eLdN (vs := [i6 e_1.Work.Lo,i6 e_1.Work.Hi]) ag_29 rfl rfl (cells_box (n := 2) m1 rfl)) fun a w hf hc => stE hf hc rfl rfl rfl (eC (v := i6 (crew_high_1 e_1.Work)) (vs := [.agg #[i6 e_1.Work.Lo,i6 e_1.Work.Hi]]) (caps := []) en_156 rfl rfl rfl rfl (fun w hc => crew_high_1_ok e_1.Work hc rfl)) fun a w hf hc => stP hf rfl rfl rfl (pAdd rfl rfl) fun a hf => stP hf rfl rfl rfl (pA rfl) fun a hf => cNil ?_
  refine h9 _ _ ?_
  refine cReg ?_
  refine stP hf rfl rfl rfl (pAdd rfl rfl) fun a hf => stP hf rfl rfl rfl (pM rfl) fun a hf => cNil ?_
  replace hc := hc.drop k1
  replace hc := hc.drop k0
  exact hK5 (W ((max (W (start_0 + (crew_high_1 e_1.Way))) e_1.Open) + (crew_high_1 e_1.Work)),(out ++ [max (W (start_0 + (crew_high_1 e_1.Way))) e_1.Open]),W (x + 1)) _ _ (sj hF).symm ⟨p_2,c_2,hf.kp rfl,hc⟩
 ·replace hF := condF hb hF
  clear hb
  refine wp_exit ?_
  refine xThen ?_
  refine xThen ?_
  have he := sj hF
  rw [← he] at hfin5
  refine cHit ?_
  exact hr5 _ _ _ hfin5 ⟨p_1,c_1,hf.kp rfl,hc⟩

def crew_Hours_b12 (N : Nat) (l : List crew_Visit) (r_1 : (List Int)) (r_2 : (List Int)) (out : List api_Span) (x : Int) : Option (Step ((List api_Span) × Int) ((List api_Span) × Int)) :=
 cond (decide (x < ((l.length : Nat) : Int)))
 (Option.bind (getI r_1 x) fun e_1 =>
 Option.bind (getI r_2 x) fun e_2 =>
 Option.bind (room ((out ++ [(⟨e_1,e_2⟩ : api_Span)])).length) fun un =>
 some (.cont ((out ++ [(⟨e_1,e_2⟩ : api_Span)]),W (x + 1))))
 (some (.brk (out,x)))
def crew_Hours (N : Nat) (start : Int) (l : List crew_Visit) : Option ((List api_Span) × Int) :=
 Option.bind (crew_rounded N l) fun r =>
 cond (r != 0)
 (some (([] : List api_Span),r))
 (cond (!(crew_minute start))
 (some (([] : List api_Span),4))
 (Option.bind (crew_begins N start l) fun r_1 =>
 Option.bind (crew_begins_s2 N start l) fun r_2 =>
 Option.bind (loopO (fun s12 => crew_Hours_b12 N l r_1 r_2 s12.1 s12.2) N (([] : List api_Span),0)) fun x12 =>
 exK x12 (fun s12 => some (s12.1,0)) some))
theorem crew_Hours_ok {N : Nat} {G : Pers} {Lf : List Ent} {w : World} (start : Int) (l : List crew_Visit) {l_p : Option Addr} {l_c : Nat} (h_l : Rd G 6 l_p l_c (l.map enc_crew_Visit)) (hc : Ctx G (Lf) w) {res : (List api_Span) × Int} (hF : crew_Hours N start l = some res) : Calls Tryz.prog 18 #[i6 start,.slice l_p l.length l_c] w (fun e w => ∃ (p'1 : Option Addr) (c'1 : Nat),e = .returned (.tuple #[.slice p'1 res.1.length c'1,i6 res.2]) ∧ Ctx G (.row p'1 c'1 (res.1.map enc_api_Span) 29 2::Lf) w) := by
 unfold crew_Hours at hF
 refine fnIn (args := [i6 start,.slice l_p l.length l_c]) Tryz.func18 rfl Tryz.ntmps18 rfl fun a hf => wp_seq_k fun K1 h1 => cReg ?_
 refine stP hf rfl rfl rfl (pA rfl) fun a hf => stP hf rfl rfl rfl (pA rfl) fun a hf => cNil ?_
 refine h1 _ _ ?_
 refine wp_seq_k fun K2 h2 => cReg ?_
 refine stP hf rfl rfl rfl (pM rfl) fun a hf => ?_
 obtain ⟨r,hr,hF⟩ := bnd_some hF
 refine stE hf hc rfl rfl rfl (eC (v := i6 r) (vs := [.slice l_p l.length l_c]) (caps := []) en_79 rfl rfl rfl rfl (fun w hc => crew_rounded_ok l h_l hc hr)) fun a w hf hc => stP hf rfl rfl rfl (pA rfl) fun a hf => cNil ?_
 refine h2 _ _ ?_
 refine wp_seq_k fun K3 h3 => wp_block ?_
 refine wp_seq_k fun K4 h4 => cReg ?_
 refine stP hf rfl rfl rfl (pM rfl) fun a hf => stP hf rfl rfl rfl (pNe rfl rfl) fun a hf => stP hf rfl rfl rfl (pA rfl) fun a hf => cNil ?_
 refine h4 _ _ ?_
 refine cCond (b := (r != 0)) hf rfl (fun hb => ?_) (fun hb => ?_)
 ·replace hF := condT hb hF
  clear hb
  refine wp_seq_k fun K5 h5 => cReg ?_
  refine stP hf rfl rfl rfl (pM rfl) fun a hf => stP hf rfl rfl rfl (pA rfl) fun a hf => stP hf rfl rfl rfl (pA rfl) fun a hf => cNil ?_
  refine h5 _ _ ?_
  refine wp_ret ?_
  refine xBlkR ?_
  refine xThenR ?_
  obtain rfl := sj hF
  replace hc := hc.nilRow 29 2
  exact fnOut2 (by simp) rfl Tryz.results18 hf hc (show look _ 4 = _ from rfl) (show look _ 5 = _ from rfl) ⟨none,0,rfl,hc⟩
 ·replace hF := condF hb hF
  clear hb
  refine wp_seq_k fun K6 h6 => cReg ?_
  refine stP hf rfl rfl rfl (pM rfl) fun a hf => stE hf hc rfl rfl rfl (eC (v := .bool (crew_minute start)) (vs := [i6 start]) (caps := []) en_80 rfl rfl rfl rfl (fun w hc => crew_minute_ok start hc rfl)) fun a w hf hc => stP hf rfl rfl rfl (pNot rfl) fun a hf => stP hf rfl rfl rfl (pA rfl) fun a hf => cNil ?_
  refine h6 _ _ ?_
  refine cCond (b := (!(crew_minute start))) hf rfl (fun hb => ?_) (fun hb => ?_)
  ·replace hF := condT hb hF
   clear hb
   refine wp_seq_k fun K7 h7 => cReg ?_
   refine stP hf rfl rfl rfl (pA rfl) fun a hf => stP hf rfl rfl rfl (pA rfl) fun a hf => cNil ?_
   refine h7 _ _ ?_
   refine wp_ret ?_
   refine xBlkR ?_
   refine xThenR ?_
   obtain rfl := sj hF
   replace hc := hc.nilRow 29 2
   exact fnOut2 (by simp) rfl Tryz.results18 hf hc (show look _ 4 = _ from rfl) (show look _ 5 = _ from rfl) ⟨none,0,rfl,hc⟩
  ·replace hF := condF hb hF
   clear hb
   refine wp_skip ?_
   refine h3 _ _ ?_
   refine wp_seq_k fun K8 h8 => cReg ?_
   refine stP hf rfl rfl rfl (pM rfl) fun a hf => stP hf rfl rfl rfl (pM rfl) fun a hf => stE hf hc rfl rfl rfl (eC (v := .agg #[.func (.func 155) #[] #[]]) (vs := []) (caps := []) en_82 rfl rfl rfl rfl (fun w hc => crew_low_ok hc rfl)) fun a w hf hc => ?_
   obtain ⟨r_1,hr_1,hF⟩ := bnd_some hF
   refine stC (vs := [i6 start,.slice l_p l.length l_c,.agg #[.func (.func 155) #[] #[]]]) (caps := []) hf rfl rfl rfl en_81 rfl rfl rfl rfl (crew_begins_ok start l h_l hc hr_1) ?_
   rintro _ w ⟨p_1,c_1,rfl,hc⟩
   refine ⟨_,rfl,fun a hf => ?_⟩
   refine stP hf rfl rfl rfl (pM rfl) fun a hf => stP hf rfl rfl rfl (pM rfl) fun a hf => stE hf hc rfl rfl rfl (eC (v := .agg #[.func (.func 156) #[] #[]]) (vs := []) (caps := []) en_83 rfl rfl rfl rfl (fun w hc => crew_high_ok hc rfl)) fun a w hf hc => ?_
   obtain ⟨r_2,hr_2,hF⟩ := bnd_some hF
   refine stC (vs := [i6 start,.slice l_p l.length l_c,.agg #[.func (.func 156) #[] #[]]]) (caps := []) hf rfl rfl rfl en_81 rfl rfl rfl rfl (crew_begins_s2_ok start l h_l hc hr_2) ?_
   rintro _ w ⟨p_2,c_2,rfl,hc⟩
   refine ⟨_,rfl,fun a hf => ?_⟩
   refine stP hf rfl rfl rfl (pA rfl) fun a hf => stP hf rfl rfl rfl (pA rfl) fun a hf => cNil ?_
   refine h8 _ _ ?_
   refine wp_seq_k fun K9 h9 => cReg ?_
   refine stP hf rfl rfl rfl (pA rfl) fun a hf => cNil ?_
   refine h9 _ _ ?_
   refine wp_seq_k fun K10 h10 => wp_seq_k fun K11 h11 => cReg ?_
   refine stP hf rfl rfl rfl (pM rfl) fun a hf => stP hf rfl rfl rfl (pLenS Tryz.underlying22 rfl) fun a hf => stP hf rfl rfl rfl (pM rfl) fun a hf => cNil ?_
   refine h11 _ _ ?_
   refine wp_block ?_
   obtain ⟨x12,hx12,hF⟩ := bnd_some hF
   let S12 : ((List api_Span) × Int) → Act → World → Prop := (fun (zz : (List api_Span) × Int) a w => ∃ (p_3 : Option Addr) (c_3 : Nat) (p_4 : Option Addr) (c_4 : Nat) (p_5 : Option Addr) (c_5 : Nat),Has 48 a [(7,.slice p_3 r_1.length c_3),(8,.slice p_4 r_2.length c_4),(9,.slice p_5 zz.1.length c_5),(30,i6 ((l.length : Nat) : Int)),(31,i6 zz.2)] ∧ Ctx G (.row p_5 c_5 (zz.1.map enc_api_Span) 29 2::.row p_4 c_4 (r_2.map encI_i64) 3 1::.row p_3 c_3 (r_1.map encI_i64) 3 1::Lf) w)
   have hr12 : ∀ (zz : (List api_Span) × Int) a w,x12 = .go zz → S12 zz a w → K10 a w := by
    rintro ⟨out,x⟩ a w rfl ⟨p_3,c_3,p_4,c_4,p_5,c_5,hf,hc⟩
    replace hF := exK_go hF
    refine h10 _ _ ?_
    refine wp_seq_k fun K13 h13 => cReg ?_
    refine stP hf rfl rfl rfl (pM rfl) fun a hf => stP hf rfl rfl rfl (pA rfl) fun a hf => stP hf rfl rfl rfl (pA rfl) fun a hf => cNil ?_
    refine h13 _ _ ?_
    refine wp_ret ?_
    obtain rfl := sj hF
    replace hc := hc.drop k2
    replace hc := hc.drop k1
    exact fnOut2 (by simp) rfl Tryz.results18 hf hc (show look _ 4 = _ from rfl) (show look _ 5 = _ from rfl) ⟨p_5,c_5,rfl,hc⟩
   have ho12 : ∀ r,x12 = .out r → r = res := by
    rintro r rfl
    exact sj hF
   replace hc := hc.nilRow 29 2
   refine cLoop N (loopW (S := S12) (x := x12) ?_ N (([] : List api_Span),0) _ _ ⟨p_1,c_1,p_2,c_2,none,0,hf.kp rfl,hc⟩ hx12)
   clear hF hf hc
   rintro ⟨out,x⟩ st12 a w KB12 ⟨p_3,c_3,p_4,c_4,p_5,c_5,hf,hc⟩ hF hfin12 hK12
   unfold crew_Hours_b12 at hF
   refine wp_seq_k fun K14 h14 => cReg ?_
   refine stP hf rfl rfl rfl (pLt rfl rfl) fun a hf => cNil ?_
   refine h14 _ _ ?_
   refine wp_seq_k fun K15 h15 => cCond (b := (decide (x < ((l.length : Nat) : Int)))) hf rfl (fun hb => ?_) (fun hb => ?_)
   ·replace hF := condT hb hF
    clear hb
    refine wp_skip ?_
    refine h15 _ _ ?_
    refine wp_seq_k fun K16 h16 => wp_block ?_
    refine wp_seq_k fun K17 h17 => cReg ?_
    refine stP hf rfl rfl rfl (pM rfl) fun a hf => stP hf rfl rfl rfl (pA rfl) fun a hf => cNil ?_
    refine h17 _ _ ?_
    obtain ⟨e_1,he_1,hF⟩ := bnd_some hF
    obtain ⟨g,rfl,qa,qr⟩ := row_atm hc m2 he_1
    obtain ⟨e_2,he_2,hF⟩ := bnd_some hF
    obtain ⟨g_1,rfl,qa_1,qr_1⟩ := row_atm hc m1 he_2
    obtain ⟨un,hun,hF⟩ := bnd_some hF
    replace hc := hc.nilRow 0 0
    refine regionE (fun θ => [⟨none,none,7,.slice (some ⟨g,0,none⟩) r_1.length c_3⟩,⟨none,none,8,.slice (some ⟨g_1,0,none⟩) r_2.length c_4⟩,⟨none,some 12,9,.slice p_5 out.length c_5⟩,⟨none,none,10,i6 x⟩,⟨none,none,30,i6 ((l.length : Nat) : Int)⟩,⟨none,none,31,i6 x⟩,⟨some 0,none,34,.slice p_5 out.length c_5⟩,⟨some 1,none,35,.slice (some ⟨g,0,none⟩) r_1.length c_3⟩,⟨some 2,none,36,i6 x⟩,⟨some 3,none,37,.pointer (some ⟨g,x.toNat * 1,none⟩)⟩,⟨some 4,none,38,i6 e_1⟩,⟨some 5,none,39,.slice (some ⟨g_1,0,none⟩) r_2.length c_4⟩,⟨some 6,none,40,i6 x⟩,⟨some 7,none,41,.pointer (some ⟨g_1,x.toNat * 1,none⟩)⟩,⟨some 8,none,42,i6 e_2⟩,⟨some 9,none,43,.agg #[i6 e_1,i6 e_2]⟩,⟨some 10,none,44,.slice (some ⟨(θ 80).b,0,none⟩) 1 1⟩,⟨some 11,none,45,.slice ((θ 88).p) ((out ++ [(⟨e_1,e_2⟩ : api_Span)]).length) ((θ 88).c)⟩,⟨some 12,none,9,.slice ((θ 88).p) ((out ++ [(⟨e_1,e_2⟩ : api_Span)]).length) ((θ 88).c)⟩]) (fun E θ => (bif E 10 then .row (some ⟨(θ 80).b,0,none⟩) 1 (([(⟨e_1,e_2⟩ : api_Span)] : List api_Span).map enc_api_Span) 29 2 else .row none 0 [] 0 0)::(bif E 11 then .row ((θ 88).p) ((θ 88).c) ((out ++ [(⟨e_1,e_2⟩ : api_Span)]).map enc_api_Span) 29 2 else .row p_5 c_5 (out.map enc_api_Span) 29 2)::.row (some ⟨g_1,0,none⟩) c_4 (r_2.map encI_i64) 3 1::.row (some ⟨g,0,none⟩) c_3 (r_1.map encI_i64) 3 1::Lf) [(12,0),(12,11)] (fun a w => ∃ (p_7 : Option Addr) (c_7 : Nat) (b_2 : Nat),Has 48 a [(7,.slice (some ⟨g,0,none⟩) r_1.length c_3),(8,.slice (some ⟨g_1,0,none⟩) r_2.length c_4),(30,i6 ((l.length : Nat) : Int)),(31,i6 x),(9,.slice p_7 ((out ++ [(⟨e_1,e_2⟩ : api_Span)]).length) c_7)] ∧ Ctx G (.row (some ⟨b_2,0,none⟩) 1 (([(⟨e_1,e_2⟩ : api_Span)] : List api_Span).map enc_api_Span) 29 2::.row p_7 c_7 ((out ++ [(⟨e_1,e_2⟩ : api_Span)]).map enc_api_Span) 29 2::.row (some ⟨g_1,0,none⟩) c_4 (r_2.map encI_i64) 3 1::.row (some ⟨g,0,none⟩) c_3 (r_1.map encI_i64) 3 1::Lf) w) follows_mx (by kernel_rfl) (by kernel_rfl) (HasE.of hf ⟨rfl,rfl,rfl,rfl,rfl,rfl,trivial,trivial,trivial,trivial,trivial,trivial,trivial,trivial,trivial,trivial,trivial,trivial,trivial,trivial⟩) hc ⟨?_,?_,?_,?_,?_,?_,?_,?_,?_,?_,?_,?_,?_,trivial⟩ ?_ ?_
    ·intro E θ a w hD hi hp he hc
     have e12 := hD.f 0 rfl hi
     have hf := he.h0
     replace hf := hf.more he 2 rfl (onN e12)
     refine stP hf rfl rfl rfl (pM rfl) fun a hf => cNil ?_
     refine xThenN ?_
     intro ds u hau
     refine ⟨θ,he.put0 hi hau hf rfl 6 rfl rfl,?_⟩
     exact hc
    ·intro E θ a w hD hi hp he hc
     have hf := he.h0
     replace hf := hf.more he 0 rfl onT
     refine stP hf rfl rfl rfl (pM rfl) fun a hf => cNil ?_
     refine xThenN ?_
     intro ds u hau
     refine ⟨θ,he.put0 hi hau hf rfl 7 rfl rfl,?_⟩
     exact hc
    ·intro E θ a w hD hi hp he hc
     have hf := he.h0
     replace hf := hf.more he 3 rfl onT
     refine stP hf rfl rfl rfl (pM rfl) fun a hf => cNil ?_
     refine xThenN ?_
     intro ds u hau
     refine ⟨θ,he.put0 hi hau hf rfl 8 rfl rfl,?_⟩
     exact hc
    ·intro E θ a w hD hi hp he hc
     have e1 := hp.of (k := 1) rfl
     have e2 := hp.of (k := 2) rfl
     have hf := he.h0
     replace hf := hf.more he 7 rfl (onP e1)
     replace hf := hf.more he 8 rfl (onP e2)
     refine stP hf rfl rfl rfl (pIA Tryz.underlying25 sz_3 rfl rfl qa) fun a hf => cNil ?_
     refine xThenN ?_
     intro ds u hau
     refine ⟨θ,he.put0 hi hau hf rfl 9 rfl rfl,?_⟩
     exact hc
    ·intro E θ a w hD hi hp he hc
     have e3 := hp.of (k := 3) rfl
     have hf := he.h0
     replace hf := hf.more he 9 rfl (onP e3)
     refine stE hf hc rfl rfl rfl (eLd1 sc_3 rfl (cell_row (sz := 1) (i := x.toNat) (j := 0) m3 qr rfl)) fun a w hf hc => cNil ?_
     refine xThenN ?_
     intro ds u hau
     refine ⟨θ,he.put0 hi hau hf rfl 10 rfl rfl,?_⟩
     exact hc
    ·intro E θ a w hD hi hp he hc
     have hf := he.h0
     replace hf := hf.more he 1 rfl onT
     refine stP hf rfl rfl rfl (pM rfl) fun a hf => cNil ?_
     refine xThenN ?_
     intro ds u hau
     refine ⟨θ,he.put0 hi hau hf rfl 11 rfl rfl,?_⟩
     exact hc
    ·intro E θ a w hD hi hp he hc
     have hf := he.h0
     replace hf := hf.more he 3 rfl onT
     refine stP hf rfl rfl rfl (pM rfl) fun a hf => cNil ?_
     refine xThenN ?_
     intro ds u hau
     refine ⟨θ,he.put0 hi hau hf rfl 12 rfl rfl,?_⟩
     exact hc
    ·intro E θ a w hD hi hp he hc
     have e5 := hp.of (k := 5) rfl
     have e6 := hp.of (k := 6) rfl
     have hf := he.h0
     replace hf := hf.more he 11 rfl (onP e5)
     replace hf := hf.more he 12 rfl (onP e6)
     refine stP hf rfl rfl rfl (pIA Tryz.underlying25 sz_3 rfl rfl qa_1) fun a hf => cNil ?_
     refine xThenN ?_
     intro ds u hau
     refine ⟨θ,he.put0 hi hau hf rfl 13 rfl rfl,?_⟩
     exact hc
    ·intro E θ a w hD hi hp he hc
     have e7 := hp.of (k := 7) rfl
     have hf := he.h0
     replace hf := hf.more he 13 rfl (onP e7)
     refine stE hf hc rfl rfl rfl (eLd1 sc_3 rfl (cell_row (sz := 1) (i := x.toNat) (j := 0) m2 qr_1 rfl)) fun a w hf hc => cNil ?_
     refine xThenN ?_
     intro ds u hau
     refine ⟨θ,he.put0 hi hau hf rfl 14 rfl rfl,?_⟩
     exact hc
    ·intro E θ a w hD hi hp he hc
     have e4 := hp.of (k := 4) rfl
     have e8 := hp.of (k := 8) rfl
     have hf := he.h0
     replace hf := hf.more he 10 rfl (onP e4)
     replace hf := hf.more he 14 rfl (onP e8)
     refine stP hf rfl rfl rfl (pBuildS (cells := [i6 e_1,i6 e_2]) bt_29 rfl rfl) fun a hf => cNil ?_
     refine xThenN ?_
     intro ds u hau
     refine ⟨θ,he.put0 hi hau hf rfl 15 rfl rfl,?_⟩
     exact hc
    ·intro E θ a w hD hi hp he hc
     have e9 := hp.of (k := 9) rfl
     try dsimp only at hc
     rw [hi] at hc
     have hf := he.h0
     replace hf := hf.more he 15 rfl (onP e9)
     refine stBS (rows := ([(⟨e_1,e_2⟩ : api_Span)] : List api_Span).map enc_api_Span) (vs := [(0,.agg #[i6 e_1,i6 e_2])]) hf hc rfl rfl sl_33 rfl ⟨rfl,rfl,rfl,trivial⟩ rfl rfl fun b_1 a w hf hc => cNil ?_
     refine xThenN ?_
     intro ds u hau
     replace hc := hc.drop k1
     refine ⟨(setT θ 80 ⟨b_1,none,0,(fun _ => (none,0))⟩),he.put hi hau hf rfl [] trivial ⟨qq,qq,qq,qq,qq,qq,qq,qq,qq,qq,qq,qq,qq,qq,qq,qq,qq,qq,qq,trivial⟩,?_⟩
     try dsimp only
     rw [updE_self E 10]
     exact hc
    ·intro E θ a w hD hi hp he hc
     have e0 := hp.of (k := 0) rfl
     have e10 := hp.of (k := 10) rfl
     have e12 := hD.f 1 rfl hi
     try dsimp only at hc
     rw [e10,hi] at hc
     have hf := he.h0
     replace hf := hf.more he 6 rfl (onP e0)
     replace hf := hf.more he 16 rfl (onP e10)
     refine stApm (xs := out) (ys := ([(⟨e_1,e_2⟩ : api_Span)] : List api_Span)) hf hc rfl rfl sl_33 rfl rfl rfl rfl rfl one_enc_api_Span (src_row hc m0) (fun _ _ => u1) (by simpa using room_spec hun) fun p_6 c_6 a w hf hc => cNil ?_
     refine xThenN ?_
     intro ds u hau
     refine ⟨(setT θ 88 ⟨0,p_6,c_6,(fun _ => (none,0))⟩),he.put hi hau hf rfl [12] ⟨⟨e12,rfl⟩,trivial⟩ ⟨qq,qq,qq,qq,qq,qq,qq,qq,qq,qq,qq,qq,qq,qq,qq,qq,qq,qq,trivial,trivial⟩,?_⟩
     try dsimp only
     rw [updE_tru 11 e10,updE_self E 11]
     exact hc
    ·intro E θ a w hD hi hp he hc
     have e11 := hp.of (k := 11) rfl
     have hf := he.h0
     replace hf := hf.more he 17 rfl (onP e11)
     refine stP hf rfl rfl rfl (pA rfl) fun a hf => cNil ?_
     refine xThenN ?_
     intro ds u hau
     refine ⟨θ,he.put0 hi hau hf rfl 18 rfl rfl,?_⟩
     exact hc
    ·intro E θ a w hall he hc
     have hf := he.h0
     have e10 := hall 10 rfl
     have e11 := hall 11 rfl
     have e12 := hall 12 rfl
     replace hf := hf.more he 18 rfl (onP e12)
     replace hf := hf.more he 5 rfl (onT)
     replace hf := hf.more he 4 rfl (onT)
     replace hf := hf.more he 1 rfl (onT)
     replace hf := hf.more he 0 rfl (onT)
     try dsimp only at hc
     rw [e10,e11] at hc
     exact ⟨(θ 88).p,(θ 88).c,(θ 80).b,hf.kp rfl,hc⟩
    rintro a w ⟨p_7,c_7,b_2,hf,hc⟩
    refine h16 _ _ ?_
    refine cReg ?_
    refine stP hf rfl rfl rfl (pAdd rfl rfl) fun a hf => stP hf rfl rfl rfl (pM rfl) fun a hf => cNil ?_
    replace hc := hc.drop k0
    exact hK12 ((out ++ [(⟨e_1,e_2⟩ : api_Span)]),W (x + 1)) _ _ (sj hF).symm ⟨(some ⟨g,0,none⟩),c_3,(some ⟨g_1,0,none⟩),c_4,p_7,c_7,hf.kp rfl,hc⟩
   ·replace hF := condF hb hF
    clear hb
    refine wp_exit ?_
    refine xThen ?_
    refine xThen ?_
    have he := sj hF
    rw [← he] at hfin12
    refine cHit ?_
    exact hr12 _ _ _ hfin12 ⟨p_3,c_3,p_4,c_4,p_5,c_5,hf.kp rfl,hc⟩

def crew_Late_j13 (N : Nat) (i_1 : Int) (can_1 : Int) (surely_1 : Int) : Option (Step (Int × Int × Int) (Int × Int × Int)) :=
 some (.cont (can_1,surely_1,W (i_1 - 1)))
def crew_Late_j14 (N : Nat) (l : List crew_Visit) (r : (List api_Span) × Int) (surely : Int) (i_1 : Int) (can_2 : Int) : Option (Step (Int × Int × Int) (Int × Int × Int)) :=
 Option.bind (getI r.1 i_1) fun e_1 =>
 Option.bind (getI l i_1) fun e_2 =>
 cond (decide (e_2.Close < e_1.Lo))
 (crew_Late_j13 N i_1 can_2 i_1)
 (crew_Late_j13 N i_1 can_2 surely)
def crew_Late_b9 (N : Nat) (l : List crew_Visit) (r : (List api_Span) × Int) (can : Int) (surely : Int) (i_1 : Int) : Option (Step (Int × Int × Int) (Int × Int × Int)) :=
 cond (decide (0 ≤ i_1))
 (Option.bind (getI r.1 i_1) fun e_3 =>
 Option.bind (getI l i_1) fun e_4 =>
 cond (decide (e_4.Close < e_3.Hi))
 (crew_Late_j14 N l r surely i_1 i_1)
 (crew_Late_j14 N l r surely i_1 can))
 (some (.brk (can,surely,i_1)))
def crew_Late (N : Nat) (start : Int) (l : List crew_Visit) : Option (Int × Int × Int) :=
 Option.bind (crew_Hours N start l) fun r =>
 cond (r.2 != 0)
 (some (0,0,r.2))
 (Option.bind (loopO (fun s9 => crew_Late_b9 N l r s9.1 s9.2.1 s9.2.2) N ((-1),(-1),W (((l.length : Nat) : Int) - 1))) fun x9 =>
 exK x9 (fun s9 => some (s9.1,s9.2.1,0)) some)
theorem crew_Late_ok {N : Nat} {G : Pers} {Lf : List Ent} {w : World} (start : Int) (l : List crew_Visit) {l_p : Option Addr} {l_c : Nat} (h_l : Rd G 6 l_p l_c (l.map enc_crew_Visit)) (hc : Ctx G (Lf) w) {res : Int × Int × Int} (hF : crew_Late N start l = some res) : Calls Tryz.prog 22 #[i6 start,.slice l_p l.length l_c] w (fun e w => e = .returned (.tuple #[i6 res.1,i6 res.2.1,i6 res.2.2]) ∧ Ctx G (Lf) w) := by
 unfold crew_Late at hF
 refine fnIn (args := [i6 start,.slice l_p l.length l_c]) Tryz.func22 rfl Tryz.ntmps22 rfl fun a hf => wp_seq_k fun K1 h1 => cReg ?_
 refine stP hf rfl rfl rfl (pA rfl) fun a hf => stP hf rfl rfl rfl (pA rfl) fun a hf => stP hf rfl rfl rfl (pA rfl) fun a hf => cNil ?_
 refine h1 _ _ ?_
 refine wp_seq_k fun K2 h2 => cReg ?_
 refine stP hf rfl rfl rfl (pM rfl) fun a hf => stP hf rfl rfl rfl (pM rfl) fun a hf => ?_
 obtain ⟨r,hr,hF⟩ := bnd_some hF
 refine stC (vs := [i6 start,.slice l_p l.length l_c]) (caps := []) hf rfl rfl rfl en_18 rfl rfl rfl rfl (crew_Hours_ok start l h_l hc hr) ?_
 rintro _ w ⟨p_1,c_1,rfl,hc⟩
 refine ⟨_,rfl,fun a hf => ?_⟩
 refine stP hf rfl rfl rfl (pM rfl) fun a hf => stP hf rfl rfl rfl (pX rfl rfl) fun a hf => stP hf rfl rfl rfl (pX rfl rfl) fun a hf => stP hf rfl rfl rfl (pA rfl) fun a hf => stP hf rfl rfl rfl (pA rfl) fun a hf => cNil ?_
 refine h2 _ _ ?_
 refine wp_seq_k fun K3 h3 => wp_seq_k fun K4 h4 => cReg ?_
 refine stP hf rfl rfl rfl (pM rfl) fun a hf => stP hf rfl rfl rfl (pNe rfl rfl) fun a hf => cNil ?_
 refine h4 _ _ ?_
 refine cCond (b := (r.2 != 0)) hf rfl (fun hb => ?_) (fun hb => ?_)
 ·replace hF := condT hb hF
  clear hb
  refine wp_seq_k fun K5 h5 => cReg ?_
  refine stP hf rfl rfl rfl (pM rfl) fun a hf => stP hf rfl rfl rfl (pA rfl) fun a hf => stP hf rfl rfl rfl (pA rfl) fun a hf => stP hf rfl rfl rfl (pA rfl) fun a hf => cNil ?_
  refine h5 _ _ ?_
  refine wp_ret ?_
  refine xThenR ?_
  obtain rfl := sj hF
  replace hc := hc.drop k0
  exact fnOut3 (by simp) rfl Tryz.results22 hf hc (show look _ 4 = _ from rfl) (show look _ 5 = _ from rfl) (show look _ 6 = _ from rfl) ⟨rfl,hc⟩
 ·replace hF := condF hb hF
  clear hb
  refine wp_skip ?_
  refine h3 _ _ ?_
  refine wp_seq_k fun K6 h6 => cReg ?_
  refine stP hf rfl rfl rfl (pA rfl) fun a hf => stP hf rfl rfl rfl (pA rfl) fun a hf => cNil ?_
  refine h6 _ _ ?_
  refine wp_seq_k fun K7 h7 => wp_seq_k fun K8 h8 => cReg ?_
  refine stP hf rfl rfl rfl (pM rfl) fun a hf => stP hf rfl rfl rfl (pLenS Tryz.underlying22 rfl) fun a hf => stP hf rfl rfl rfl (pSub rfl rfl) fun a hf => stP hf rfl rfl rfl (pA rfl) fun a hf => cNil ?_
  refine h8 _ _ ?_
  refine wp_block ?_
  obtain ⟨x9,hx9,hF⟩ := bnd_some hF
  let S9 : (Int × Int × Int) → Act → World → Prop := (fun (zz : Int × Int × Int) a w => ∃ (p_2 : Option Addr) (c_2 : Nat),Has 51 a [(1,.slice l_p l.length l_c),(4,i6 zz.1),(5,i6 zz.2.1),(7,.slice p_2 r.1.length c_2),(8,i6 zz.2.2)] ∧ Ctx G (.row p_2 c_2 (r.1.map enc_api_Span) 29 2::Lf) w)
  have hr9 : ∀ (zz : Int × Int × Int) a w,x9 = .go zz → S9 zz a w → K7 a w := by
   rintro ⟨can,surely,i_1⟩ a w rfl ⟨p_2,c_2,hf,hc⟩
   replace hF := exK_go hF
   refine h7 _ _ ?_
   refine wp_seq_k fun K10 h10 => cReg ?_
   refine stP hf rfl rfl rfl (pM rfl) fun a hf => stP hf rfl rfl rfl (pM rfl) fun a hf => stP hf rfl rfl rfl (pA rfl) fun a hf => stP hf rfl rfl rfl (pA rfl) fun a hf => stP hf rfl rfl rfl (pA rfl) fun a hf => cNil ?_
   refine h10 _ _ ?_
   refine wp_ret ?_
   obtain rfl := sj hF
   replace hc := hc.drop k0
   exact fnOut3 (by simp) rfl Tryz.results22 hf hc (show look _ 4 = _ from rfl) (show look _ 5 = _ from rfl) (show look _ 6 = _ from rfl) ⟨rfl,hc⟩
  have ho9 : ∀ r,x9 = .out r → r = res := by
   rintro r rfl
   exact sj hF
  refine cLoop N (loopW (S := S9) (x := x9) ?_ N ((-1),(-1),W (((l.length : Nat) : Int) - 1)) _ _ ⟨p_1,c_1,hf.kp rfl,hc⟩ hx9)
  clear hF hf hc
  rintro ⟨can,surely,i_1⟩ st9 a w KB9 ⟨p_2,c_2,hf,hc⟩ hF hfin9 hK9
  unfold crew_Late_b9 at hF
  refine wp_seq_k fun K11 h11 => wp_seq_k fun K12 h12 => cReg ?_
  refine stP hf rfl rfl rfl (pM rfl) fun a hf => stP hf rfl rfl rfl (pGe rfl rfl) fun a hf => cNil ?_
  refine h12 _ _ ?_
  refine cCond (b := (decide (0 ≤ i_1))) hf rfl (fun hb => ?_) (fun hb => ?_)
  ·replace hF := condT hb hF
   clear hb
   refine wp_skip ?_
   refine h11 _ _ ?_
   refine wp_seq_k fun K13 h13 => ?_
   have hj13 : ∀ (can_1 : Int) (surely_1 : Int) (p_3 : Option Addr) (c_3 : Nat) a w,Has 51 a [(1,.slice l_p l.length l_c),(4,i6 can_1),(5,i6 surely_1),(7,.slice p_3 r.1.length c_3),(8,i6 i_1)] → Ctx G (.row p_3 c_3 (r.1.map enc_api_Span) 29 2::Lf) w → crew_Late_j13 N i_1 can_1 surely_1 = some st9 → K13 a w := by
    repeat (clear hF)
    repeat (clear hc)
    repeat (clear hf)
    intro can_1 surely_1 p_3 c_3 a w hf hc hF
    unfold crew_Late_j13 at hF
    refine h13 _ _ ?_
    refine cReg ?_
    refine stP hf rfl rfl rfl (pM rfl) fun a hf => stP hf rfl rfl rfl (pSub rfl rfl) fun a hf => stP hf rfl rfl rfl (pA rfl) fun a hf => cNil ?_
    exact hK9 (can_1,surely_1,W (i_1 - 1)) _ _ (sj hF).symm ⟨p_3,c_3,hf.kp rfl,hc⟩
   refine wp_block ?_
   refine wp_seq_k fun K14 h14 => ?_
   have hj14 : ∀ (can_2 : Int) (p_4 : Option Addr) (c_4 : Nat) a w,Has 51 a [(1,.slice l_p l.length l_c),(4,i6 can_2),(5,i6 surely),(7,.slice p_4 r.1.length c_4),(8,i6 i_1)] → Ctx G (.row p_4 c_4 (r.1.map enc_api_Span) 29 2::Lf) w → crew_Late_j14 N l r surely i_1 can_2 = some st9 → K14 a w := by
    repeat (clear hF)
    repeat (clear hc)
    repeat (clear hf)
    intro can_2 p_4 c_4 a w hf hc hF
    unfold crew_Late_j14 at hF
    refine h14 _ _ ?_
    refine wp_seq_k fun K15 h15 => ?_
    obtain ⟨e_1,he_1,hF⟩ := bnd_some hF
    obtain ⟨g,rfl,qa,qr⟩ := row_atm hc m0 he_1
    obtain ⟨e_2,he_2,hF⟩ := bnd_some hF
    obtain ⟨b_1,o,qa_1,qp⟩ := h_l.atm he_2
    refine cQ hc follows_mx (by kernel_rfl) ?_
    refine qE hf rfl rfl rfl (Pu.ev (pM rfl)) fun a hf => qE hf rfl rfl rfl (Pu.ev (pM rfl)) fun a hf => qE hf rfl rfl rfl (Pu.ev (pIA Tryz.underlying33 sz_29 rfl rfl qa)) fun a hf => qE hf rfl rfl rfl (Pu.ev (pFA fa_29_0 rfl)) fun a hf => qE hf rfl rfl rfl (eLd1 sc_3 rfl (cell_row (sz := 2) (i := i_1.toNat) (j := 0) m0 qr rfl)) fun a hf => qE hf rfl rfl rfl (Pu.ev (pM rfl)) fun a hf => qE hf rfl rfl rfl (Pu.ev (pM rfl)) fun a hf => qE hf rfl rfl rfl (Pu.ev (pIA Tryz.underlying22 sz_31 rfl rfl qa_1)) fun a hf => qE hf rfl rfl rfl (Pu.ev (pFA fa_31_3 rfl)) fun a hf => qE hf rfl rfl rfl (eLd1 sc_3 rfl (cell_pc (j := 5) qp rfl)) fun a hf => qE hf rfl rfl rfl (Pu.ev (pGt rfl rfl)) fun a hf => ?_
    intro w hc
    refine h15 _ _ ?_
    refine cCond (b := (decide (e_2.Close < e_1.Lo))) hf rfl (fun hb => ?_) (fun hb => ?_)
    ·replace hF := condT hb hF
     clear hb
     refine cReg ?_
     refine stP hf rfl rfl rfl (pM rfl) fun a hf => stP hf rfl rfl rfl (pA rfl) fun a hf => cNil ?_
     exact hj13 can_2 i_1 (some ⟨g,0,none⟩) c_4 _ _  (hf.kp rfl) hc hF
    ·replace hF := condF hb hF
     clear hb
     refine wp_skip ?_
     exact hj13 can_2 surely (some ⟨g,0,none⟩) c_4 _ _  (hf.kp rfl) hc hF
   refine wp_seq_k fun K16 h16 => ?_
   obtain ⟨e_3,he_3,hF⟩ := bnd_some hF
   obtain ⟨g_1,rfl,qa_2,qr_1⟩ := row_atm hc m0 he_3
   obtain ⟨e_4,he_4,hF⟩ := bnd_some hF
   obtain ⟨b_2,o_1,qa_3,qp_1⟩ := h_l.atm he_4
   refine cQ hc follows_mx (by kernel_rfl) ?_
   refine qE hf rfl rfl rfl (Pu.ev (pM rfl)) fun a hf => qE hf rfl rfl rfl (Pu.ev (pM rfl)) fun a hf => qE hf rfl rfl rfl (Pu.ev (pIA Tryz.underlying33 sz_29 rfl rfl qa_2)) fun a hf => qE hf rfl rfl rfl (Pu.ev (pFA fa_29_1 rfl)) fun a hf => qE hf rfl rfl rfl (eLd1 sc_3 rfl (cell_row (sz := 2) (i := i_1.toNat) (j := 1) m0 qr_1 rfl)) fun a hf => qE hf rfl rfl rfl (Pu.ev (pM rfl)) fun a hf => qE hf rfl rfl rfl (Pu.ev (pM rfl)) fun a hf => qE hf rfl rfl rfl (Pu.ev (pIA Tryz.underlying22 sz_31 rfl rfl qa_3)) fun a hf => qE hf rfl rfl rfl (Pu.ev (pFA fa_31_3 rfl)) fun a hf => qE hf rfl rfl rfl (eLd1 sc_3 rfl (cell_pc (j := 5) qp_1 rfl)) fun a hf => qE hf rfl rfl rfl (Pu.ev (pGt rfl rfl)) fun a hf => ?_
   intro w hc
   refine h16 _ _ ?_
   refine cCond (b := (decide (e_4.Close < e_3.Hi))) hf rfl (fun hb => ?_) (fun hb => ?_)
   ·replace hF := condT hb hF
    clear hb
    refine cReg ?_
    refine stP hf rfl rfl rfl (pM rfl) fun a hf => stP hf rfl rfl rfl (pA rfl) fun a hf => cNil ?_
    exact hj14 i_1 (some ⟨g_1,0,none⟩) c_2 _ _  (hf.kp rfl) hc hF
   ·replace hF := condF hb hF
    clear hb
    refine wp_skip ?_
    exact hj14 can (some ⟨g_1,0,none⟩) c_2 _ _  (hf.kp rfl) hc hF
  ·replace hF := condF hb hF
   clear hb
   refine wp_exit ?_
   refine xThen ?_
   refine xThen ?_
   have he := sj hF
   rw [← he] at hfin9
   refine cHit ?_
   exact hr9 _ _ _ hfin9 ⟨p_2,c_2,hf.kp rfl,hc⟩

def kit_Same_api_Span_b7 (N : Nat) (a_ : List api_Span) (b_ : List api_Span) (i_1 : Int) : Option (Step (Int) (Bool)) :=
 cond (decide (i_1 < ((a_.length : Nat) : Int)))
 (Option.bind (getI a_ i_1) fun e_1 =>
 Option.bind (getI b_ i_1) fun e_2 =>
 cond (!(e_1.Lo == e_2.Lo && e_1.Hi == e_2.Hi))
 (some (.ret false))
 (some (.cont (W (i_1 + 1)))))
 (some (.brk i_1))
def kit_Same_api_Span (N : Nat) (a_ : List api_Span) (b_ : List api_Span) : Option (Bool) :=
 cond (((a_.length : Nat) : Int) != ((b_.length : Nat) : Int))
 (some false)
 (Option.bind (loopO (fun s7 => kit_Same_api_Span_b7 N a_ b_ s7) N 0) fun x7 =>
 exK x7 (fun s7 => some true) some)
theorem kit_Same_api_Span_ok {N : Nat} {G : Pers} {Lf : List Ent} {w : World} (a_ : List api_Span) (b_ : List api_Span) {a__p : Option Addr} {a__c : Nat} {b__p : Option Addr} {b__c : Nat} (h_a_ : Rd G 2 a__p a__c (a_.map enc_api_Span)) (h_b_ : Rd G 2 b__p b__c (b_.map enc_api_Span)) (hc : Ctx G (Lf) w) {res : Bool} (hF : kit_Same_api_Span N a_ b_ = some res) : Calls Tryz.prog 21 #[.slice a__p a_.length a__c,.slice b__p b_.length b__c] w (fun e w => e = .returned (.bool res) ∧ Ctx G (Lf) w) := by
 unfold kit_Same_api_Span at hF
 refine fnIn (args := [.slice a__p a_.length a__c,.slice b__p b_.length b__c]) Tryz.func21 rfl Tryz.ntmps21 rfl fun a hf => wp_seq_k fun K1 h1 => cReg ?_
 refine stP hf rfl rfl rfl (pA rfl) fun a hf => cNil ?_
 refine h1 _ _ ?_
 refine wp_seq_k fun K2 h2 => wp_seq_k fun K3 h3 => cReg ?_
 refine stP hf rfl rfl rfl (pM rfl) fun a hf => stP hf rfl rfl rfl (pLenS Tryz.underlying33 rfl) fun a hf => stP hf rfl rfl rfl (pM rfl) fun a hf => stP hf rfl rfl rfl (pLenS Tryz.underlying33 rfl) fun a hf => stP hf rfl rfl rfl (pNe rfl rfl) fun a hf => cNil ?_
 refine h3 _ _ ?_
 refine cCond (b := (((a_.length : Nat) : Int) != ((b_.length : Nat) : Int))) hf rfl (fun hb => ?_) (fun hb => ?_)
 ·replace hF := condT hb hF
  clear hb
  refine wp_seq_k fun K4 h4 => cReg ?_
  refine stP hf rfl rfl rfl (pA rfl) fun a hf => cNil ?_
  refine h4 _ _ ?_
  refine wp_ret ?_
  refine xThenR ?_
  obtain rfl := sj hF
  exact fnOut1 (by simp) rfl Tryz.results21 hf hc (show look _ 4 = _ from rfl) ⟨rfl,hc⟩
 ·replace hF := condF hb hF
  clear hb
  refine wp_skip ?_
  refine h2 _ _ ?_
  refine wp_seq_k fun K5 h5 => wp_seq_k fun K6 h6 => cReg ?_
  refine stP hf rfl rfl rfl (pA rfl) fun a hf => cNil ?_
  refine h6 _ _ ?_
  refine wp_block ?_
  obtain ⟨x7,hx7,hF⟩ := bnd_some hF
  let S7 : Int → Act → World → Prop := (fun (zz : Int) a w => Has 26 a [(0,.slice a__p a_.length a__c),(1,.slice b__p b_.length b__c),(5,i6 zz)] ∧ Ctx G (Lf) w)
  have hr7 : ∀ (zz : Int) a w,x7 = .go zz → S7 zz a w → K5 a w := by
   rintro i_1 a w rfl ⟨hf,hc⟩
   replace hF := exK_go hF
   refine h5 _ _ ?_
   refine wp_seq_k fun K8 h8 => cReg ?_
   refine stP hf rfl rfl rfl (pA rfl) fun a hf => cNil ?_
   refine h8 _ _ ?_
   refine wp_ret ?_
   obtain rfl := sj hF
   exact fnOut1 (by simp) rfl Tryz.results21 hf hc (show look _ 4 = _ from rfl) ⟨rfl,hc⟩
  have ho7 : ∀ r,x7 = .out r → r = res := by
   rintro r rfl
   exact sj hF
  refine cLoop N (loopW (S := S7) (x := x7) ?_ N 0 _ _ ⟨hf.kp rfl,hc⟩ hx7)
  clear hF hf hc
  rintro i_1 st7 a w KB7 ⟨hf,hc⟩ hF hfin7 hK7
  unfold kit_Same_api_Span_b7 at hF
  refine wp_seq_k fun K9 h9 => wp_seq_k fun K10 h10 => cReg ?_
  refine stP hf rfl rfl rfl (pM rfl) fun a hf => stP hf rfl rfl rfl (pM rfl) fun a hf => stP hf rfl rfl rfl (pLenS Tryz.underlying33 rfl) fun a hf => stP hf rfl rfl rfl (pLt rfl rfl) fun a hf => cNil ?_
  refine h10 _ _ ?_
  refine cCond (b := (decide (i_1 < ((a_.length : Nat) : Int)))) hf rfl (fun hb => ?_) (fun hb => ?_)
  ·replace hF := condT hb hF
   clear hb
   refine wp_skip ?_
   refine h9 _ _ ?_
   refine wp_seq_k fun K11 h11 => wp_block ?_
   refine wp_seq_k fun K12 h12 => ?_
   obtain ⟨e_1,he_1,hF⟩ := bnd_some hF
   obtain ⟨b_1,o,qa,qp⟩ := h_a_.atm he_1
   obtain ⟨e_2,he_2,hF⟩ := bnd_some hF
   obtain ⟨b_2,o_1,qa_1,qp_1⟩ := h_b_.atm he_2
   refine cQ hc follows_mx (by kernel_rfl) ?_
   refine qE hf rfl rfl rfl (Pu.ev (pM rfl)) fun a hf => qE hf rfl rfl rfl (Pu.ev (pM rfl)) fun a hf => qE hf rfl rfl rfl (Pu.ev (pIA Tryz.underlying33 sz_29 rfl rfl qa)) fun a hf => qE hf rfl rfl rfl (eLdN (vs := [i6 e_1.Lo,i6 e_1.Hi]) ag_29 rfl rfl (cells_pc qp (n := 2) (o' := 0) rfl)) fun a hf => qE hf rfl rfl rfl (Pu.ev (pM rfl)) fun a hf => qE hf rfl rfl rfl (Pu.ev (pM rfl)) fun a hf => qE hf rfl rfl rfl (Pu.ev (pIA Tryz.underlying33 sz_29 rfl rfl qa_1)) fun a hf => qE hf rfl rfl rfl (eLdN (vs := [i6 e_2.Lo,i6 e_2.Hi]) ag_29 rfl rfl (cells_pc qp_1 (n := 2) (o' := 0) rfl)) fun a hf => qE hf rfl rfl rfl (Pu.ev (pNeA ge_29 rfl rfl (eqs_29 _ _ _ _))) fun a hf => ?_
   intro w hc
   refine h12 _ _ ?_
   refine cCond (b := (!(e_1.Lo == e_2.Lo && e_1.Hi == e_2.Hi))) hf rfl (fun hb => ?_) (fun hb => ?_)
   ·replace hF := condT hb hF
    clear hb
    refine wp_seq_k fun K13 h13 => cReg ?_
    refine stP hf rfl rfl rfl (pA rfl) fun a hf => cNil ?_
    refine h13 _ _ ?_
    refine wp_ret ?_
    refine xBlkR ?_
    refine xThenR ?_
    refine xThenR ?_
    have he := sj hF
    rw [← he] at hfin7
    replace hF := ho7 _ hfin7
    refine xBlkR ?_
    refine xThenR ?_
    obtain rfl := hF
    exact fnOut1 (by simp) rfl Tryz.results21 hf hc (show look _ 4 = _ from rfl) ⟨rfl,hc⟩
   ·replace hF := condF hb hF
    clear hb
    refine wp_skip ?_
    refine h11 _ _ ?_
    refine cReg ?_
    refine stP hf rfl rfl rfl (pM rfl) fun a hf => stP hf rfl rfl rfl (pAdd rfl rfl) fun a hf => stP hf rfl rfl rfl (pA rfl) fun a hf => cNil ?_
    exact hK7 (W (i_1 + 1)) _ _ (sj hF).symm ⟨hf.kp rfl,hc⟩
  ·replace hF := condF hb hF
   clear hb
   refine wp_exit ?_
   refine xThen ?_
   refine xThen ?_
   have he := sj hF
   rw [← he] at hfin7
   refine cHit ?_
   exact hr7 _ _ _ hfin7 ⟨hf.kp rfl,hc⟩

def crew_Latest_b9 (N : Nat) (l : List crew_Visit) (by_ : Int) (i_1 : Int) : Option (Step (Int × Int) (Int × Int)) :=
 cond (decide (0 ≤ i_1))
 (Option.bind (getI l i_1) fun e_1 =>
 Option.bind (getI l i_1) fun e_2 =>
 Option.bind (getI l i_1) fun e_3 =>
 cond (decide ((min e_1.Close (W (by_ - e_2.Work.Hi))) < e_3.Open))
 (some (.ret (0,5)))
 (Option.bind (getI l i_1) fun e_4 =>
 some (.cont (W ((min e_1.Close (W (by_ - e_2.Work.Hi))) - e_4.Way.Hi),W (i_1 - 1)))))
 (some (.brk (by_,i_1)))
def crew_Latest (N : Nat) (l : List crew_Visit) : Option (Int × Int) :=
 Option.bind (crew_rounded N l) fun r =>
 cond (r != 0)
 (some (0,r))
 (Option.bind (loopO (fun s9 => crew_Latest_b9 N l s9.1 s9.2) N (200000,W (((l.length : Nat) : Int) - 1))) fun x9 =>
 exK x9 (fun s9 => cond (decide (s9.1 < 0))
 (some (0,5))
 (some (s9.1,0))) some)
theorem crew_Latest_ok {N : Nat} {G : Pers} {Lf : List Ent} {w : World} (l : List crew_Visit) {l_p : Option Addr} {l_c : Nat} (h_l : Rd G 6 l_p l_c (l.map enc_crew_Visit)) (hc : Ctx G (Lf) w) {res : Int × Int} (hF : crew_Latest N l = some res) : Calls Tryz.prog 24 #[.slice l_p l.length l_c] w (fun e w => e = .returned (.tuple #[i6 res.1,i6 res.2]) ∧ Ctx G (Lf) w) := by
 unfold crew_Latest at hF
 refine fnIn (args := [.slice l_p l.length l_c]) Tryz.func24 rfl Tryz.ntmps24 rfl fun a hf => wp_seq_k fun K1 h1 => cReg ?_
 refine stP hf rfl rfl rfl (pA rfl) fun a hf => stP hf rfl rfl rfl (pA rfl) fun a hf => cNil ?_
 refine h1 _ _ ?_
 refine wp_seq_k fun K2 h2 => wp_seq_k fun K3 h3 => cReg ?_
 refine stP hf rfl rfl rfl (pM rfl) fun a hf => ?_
 obtain ⟨r,hr,hF⟩ := bnd_some hF
 refine stE hf hc rfl rfl rfl (eC (v := i6 r) (vs := [.slice l_p l.length l_c]) (caps := []) en_79 rfl rfl rfl rfl (fun w hc => crew_rounded_ok l h_l hc hr)) fun a w hf hc => stP hf rfl rfl rfl (pA rfl) fun a hf => cNil ?_
 refine h3 _ _ ?_
 refine wp_seq_k fun K4 h4 => cReg ?_
 refine stP hf rfl rfl rfl (pM rfl) fun a hf => stP hf rfl rfl rfl (pNe rfl rfl) fun a hf => cNil ?_
 refine h4 _ _ ?_
 refine cCond (b := (r != 0)) hf rfl (fun hb => ?_) (fun hb => ?_)
 ·replace hF := condT hb hF
  clear hb
  refine wp_seq_k fun K5 h5 => cReg ?_
  refine stP hf rfl rfl rfl (pM rfl) fun a hf => stP hf rfl rfl rfl (pA rfl) fun a hf => stP hf rfl rfl rfl (pA rfl) fun a hf => cNil ?_
  refine h5 _ _ ?_
  refine wp_ret ?_
  refine xThenR ?_
  obtain rfl := sj hF
  exact fnOut2 (by simp) rfl Tryz.results24 hf hc (show look _ 2 = _ from rfl) (show look _ 3 = _ from rfl) ⟨rfl,hc⟩
 ·replace hF := condF hb hF
  clear hb
  refine wp_skip ?_
  refine h2 _ _ ?_
  refine wp_seq_k fun K6 h6 => cReg ?_
  refine stP hf rfl rfl rfl (pA rfl) fun a hf => cNil ?_
  refine h6 _ _ ?_
  refine wp_seq_k fun K7 h7 => wp_seq_k fun K8 h8 => cReg ?_
  refine stP hf rfl rfl rfl (pM rfl) fun a hf => stP hf rfl rfl rfl (pLenS Tryz.underlying22 rfl) fun a hf => stP hf rfl rfl rfl (pSub rfl rfl) fun a hf => stP hf rfl rfl rfl (pA rfl) fun a hf => cNil ?_
  refine h8 _ _ ?_
  refine wp_block ?_
  obtain ⟨x9,hx9,hF⟩ := bnd_some hF
  let S9 : (Int × Int) → Act → World → Prop := (fun (zz : Int × Int) a w => Has 51 a [(0,.slice l_p l.length l_c),(5,i6 zz.1),(6,i6 zz.2)] ∧ Ctx G (Lf) w)
  have hr9 : ∀ (zz : Int × Int) a w,x9 = .go zz → S9 zz a w → K7 a w := by
   rintro ⟨by_,i_1⟩ a w rfl ⟨hf,hc⟩
   replace hF := exK_go hF
   refine h7 _ _ ?_
   refine wp_seq_k fun K10 h10 => wp_seq_k fun K11 h11 => cReg ?_
   refine stP hf rfl rfl rfl (pM rfl) fun a hf => stP hf rfl rfl rfl (pLt rfl rfl) fun a hf => cNil ?_
   refine h11 _ _ ?_
   refine cCond (b := (decide (by_ < 0))) hf rfl (fun hb => ?_) (fun hb => ?_)
   ·replace hF := condT hb hF
    clear hb
    refine wp_seq_k fun K12 h12 => cReg ?_
    refine stP hf rfl rfl rfl (pA rfl) fun a hf => stP hf rfl rfl rfl (pA rfl) fun a hf => cNil ?_
    refine h12 _ _ ?_
    refine wp_ret ?_
    refine xThenR ?_
    obtain rfl := sj hF
    exact fnOut2 (by simp) rfl Tryz.results24 hf hc (show look _ 2 = _ from rfl) (show look _ 3 = _ from rfl) ⟨rfl,hc⟩
   ·replace hF := condF hb hF
    clear hb
    refine wp_skip ?_
    refine h10 _ _ ?_
    refine wp_seq_k fun K13 h13 => cReg ?_
    refine stP hf rfl rfl rfl (pM rfl) fun a hf => stP hf rfl rfl rfl (pA rfl) fun a hf => stP hf rfl rfl rfl (pA rfl) fun a hf => cNil ?_
    refine h13 _ _ ?_
    refine wp_ret ?_
    obtain rfl := sj hF
    exact fnOut2 (by simp) rfl Tryz.results24 hf hc (show look _ 2 = _ from rfl) (show look _ 3 = _ from rfl) ⟨rfl,hc⟩
  have ho9 : ∀ r,x9 = .out r → r = res := by
   rintro r rfl
   exact sj hF
  refine cLoop N (loopW (S := S9) (x := x9) ?_ N (200000,W (((l.length : Nat) : Int) - 1)) _ _ ⟨hf.kp rfl,hc⟩ hx9)
  clear hF hf hc
  rintro ⟨by_,i_1⟩ st9 a w KB9 ⟨hf,hc⟩ hF hfin9 hK9
  unfold crew_Latest_b9 at hF
  refine wp_seq_k fun K14 h14 => wp_seq_k fun K15 h15 => cReg ?_
  refine stP hf rfl rfl rfl (pM rfl) fun a hf => stP hf rfl rfl rfl (pGe rfl rfl) fun a hf => cNil ?_
  refine h15 _ _ ?_
  refine cCond (b := (decide (0 ≤ i_1))) hf rfl (fun hb => ?_) (fun hb => ?_)
  ·replace hF := condT hb hF
   clear hb
   refine wp_skip ?_
   refine h14 _ _ ?_
   refine wp_seq_k fun K16 h16 => wp_block ?_
   refine wp_seq_k fun K17 h17 => ?_
   obtain ⟨e_1,he_1,hF⟩ := bnd_some hF
   obtain ⟨b_1,o,qa,qp⟩ := h_l.atm he_1
   obtain ⟨e_2,he_2,hF⟩ := bnd_some hF
   obtain ⟨b_2,o_1,qa_1,qp_1⟩ := h_l.atm he_2
   refine cQ hc follows_mx (by kernel_rfl) ?_
   refine qE hf rfl rfl rfl (Pu.ev (pM rfl)) fun a hf => qE hf rfl rfl rfl (Pu.ev (pM rfl)) fun a hf => qE hf rfl rfl rfl (Pu.ev (pIA Tryz.underlying22 sz_31 rfl rfl qa)) fun a hf => qE hf rfl rfl rfl (Pu.ev (pFA fa_31_3 rfl)) fun a hf => qE hf rfl rfl rfl (eLd1 sc_3 rfl (cell_pc (j := 5) qp rfl)) fun a hf => qE hf rfl rfl rfl (Pu.ev (pM rfl)) fun a hf => qE hf rfl rfl rfl (Pu.ev (pM rfl)) fun a hf => qE hf rfl rfl rfl (Pu.ev (pM rfl)) fun a hf => qE hf rfl rfl rfl (Pu.ev (pIA Tryz.underlying22 sz_31 rfl rfl qa_1)) fun a hf => qE hf rfl rfl rfl (Pu.ev (pFA fa_31_1 rfl)) fun a hf => qE hf rfl rfl rfl (Pu.ev (pFA fa_29_1 rfl)) fun a hf => qE hf rfl rfl rfl (eLd1 sc_3 rfl (cell_pc (j := 3) qp_1 rfl)) fun a hf => qE hf rfl rfl rfl (Pu.ev (pSub rfl rfl)) fun a hf => ?_
   refine qE hf rfl rfl rfl (Pu.ev (pMin2 rfl rfl)) fun a hf => qE hf rfl rfl rfl (Pu.ev (pA rfl)) fun a hf => ?_
   intro w hc
   refine h17 _ _ ?_
   refine wp_seq_k fun K18 h18 => wp_seq_k fun K19 h19 => cReg ?_
   refine stP hf rfl rfl rfl (pM rfl) fun a hf => stP hf rfl rfl rfl (pM rfl) fun a hf => stP hf rfl rfl rfl (pM rfl) fun a hf => ?_
   obtain ⟨e_3,he_3,hF⟩ := bnd_some hF
   obtain ⟨b_3,o_2,qa_2,qp_2⟩ := h_l.atm he_3
   refine stP hf rfl rfl rfl (pIA Tryz.underlying22 sz_31 rfl rfl qa_2) fun a hf => stP hf rfl rfl rfl (pFA fa_31_2 rfl) fun a hf => stE hf hc rfl rfl rfl (eLd1 sc_3 rfl (cell_pc (j := 4) qp_2 rfl)) fun a w hf hc => stP hf rfl rfl rfl (pLt rfl rfl) fun a hf => cNil ?_
   refine h19 _ _ ?_
   refine cCond (b := (decide ((min e_1.Close (W (by_ - e_2.Work.Hi))) < e_3.Open))) hf rfl (fun hb => ?_) (fun hb => ?_)
   ·replace hF := condT hb hF
    clear hb
    refine wp_seq_k fun K20 h20 => cReg ?_
    refine stP hf rfl rfl rfl (pA rfl) fun a hf => stP hf rfl rfl rfl (pA rfl) fun a hf => cNil ?_
    refine h20 _ _ ?_
    refine wp_ret ?_
    refine xThenR ?_
    refine xBlkR ?_
    refine xThenR ?_
    refine xThenR ?_
    have he := sj hF
    rw [← he] at hfin9
    replace hF := ho9 _ hfin9
    refine xBlkR ?_
    refine xThenR ?_
    obtain rfl := hF
    exact fnOut2 (by simp) rfl Tryz.results24 hf hc (show look _ 2 = _ from rfl) (show look _ 3 = _ from rfl) ⟨rfl,hc⟩
   ·replace hF := condF hb hF
    clear hb
    refine wp_skip ?_
    refine h18 _ _ ?_
    refine cReg ?_
    refine stP hf rfl rfl rfl (pM rfl) fun a hf => stP hf rfl rfl rfl (pM rfl) fun a hf => stP hf rfl rfl rfl (pM rfl) fun a hf => ?_
    obtain ⟨e_4,he_4,hF⟩ := bnd_some hF
    obtain ⟨b_4,o_3,qa_3,qp_3⟩ := h_l.atm he_4
    refine stP hf rfl rfl rfl (pIA Tryz.underlying22 sz_31 rfl rfl qa_3) fun a hf => stP hf rfl rfl rfl (pFA fa_31_0 rfl) fun a hf => stP hf rfl rfl rfl (pFA fa_29_1 rfl) fun a hf => stE hf hc rfl rfl rfl (eLd1 sc_3 rfl (cell_pc (j := 1) qp_3 rfl)) fun a w hf hc => stP hf rfl rfl rfl (pSub rfl rfl) fun a hf => stP hf rfl rfl rfl (pA rfl) fun a hf => cNil ?_
    refine h16 _ _ ?_
    refine cReg ?_
    refine stP hf rfl rfl rfl (pM rfl) fun a hf => stP hf rfl rfl rfl (pSub rfl rfl) fun a hf => stP hf rfl rfl rfl (pA rfl) fun a hf => cNil ?_
    exact hK9 (W ((min e_1.Close (W (by_ - e_2.Work.Hi))) - e_4.Way.Hi),W (i_1 - 1)) _ _ (sj hF).symm ⟨hf.kp rfl,hc⟩
  ·replace hF := condF hb hF
   clear hb
   refine wp_exit ?_
   refine xThen ?_
   refine xThen ?_
   have he := sj hF
   rw [← he] at hfin9
   refine cHit ?_
   exact hr9 _ _ _ hfin9 ⟨hf.kp rfl,hc⟩

def law11_Wire (N : Nat)  : Option (crew_Cable) :=
 Option.bind (law11_span N 80 90) fun r =>
 Option.bind (law11_span N 160 180) fun r_1 =>
 some (⟨50,100,250,3000,([(⟨0,10,r⟩ : crew_Ride),(⟨5,5,r_1⟩ : crew_Ride)] : List crew_Ride)⟩ : crew_Cable)
theorem law11_Wire_ok {N : Nat} {G : Pers} {Lf : List Ent} {w : World}    (hc : Ctx G (Lf) w) {res : crew_Cable} (hF : law11_Wire N = some res) : Calls Tryz.prog 69 #[] w (fun e w => ∃ (p'1 : Option Addr) (c'1 : Nat),e = .returned (.agg #[i6 res.Car,i6 res.Wide,i6 res.Sag,i6 res.Most,.slice p'1 res.Rides.length c'1]) ∧ Ctx G (.row p'1 c'1 (res.Rides.map enc_crew_Ride) 72 4::Lf) w) := by
 unfold law11_Wire at hF
 refine fnIn (args := []) Tryz.func69 rfl Tryz.ntmps69 rfl fun a hf => wp_seq_k fun K1 h1 => cReg ?_
 refine stAl (cs := [i6 0,i6 0,i6 0,i6 0,.slice none 0 0]) hf hc rfl rfl zr_54 rfl fun b_1 a w hf hc => cNil ?_
 refine h1 _ _ ?_
 refine wp_seq_k fun K2 h2 => cReg ?_
 obtain ⟨r,hr,hF⟩ := bnd_some hF
 refine stE hf hc rfl rfl rfl (eC (v := .agg #[i6 r.Lo,i6 r.Hi]) (vs := [i6 80,i6 90]) (caps := []) en_51 rfl rfl rfl rfl (fun w hc => law11_span_ok 80 90 hc hr)) fun a w hf hc => stP hf rfl rfl rfl (pBuildS (cells := [i6 0,i6 10,i6 r.Lo,i6 r.Hi]) bt_72 rfl rfl) fun a hf => ?_
 obtain ⟨r_1,hr_1,hF⟩ := bnd_some hF
 refine stE hf hc rfl rfl rfl (eC (v := .agg #[i6 r_1.Lo,i6 r_1.Hi]) (vs := [i6 160,i6 180]) (caps := []) en_51 rfl rfl rfl rfl (fun w hc => law11_span_ok 160 180 hc hr_1)) fun a w hf hc => stP hf rfl rfl rfl (pBuildS (cells := [i6 5,i6 5,i6 r_1.Lo,i6 r_1.Hi]) bt_72 rfl rfl) fun a hf => stBS (rows := ([(⟨0,10,r⟩ : crew_Ride),(⟨5,5,r_1⟩ : crew_Ride)] : List crew_Ride).map enc_crew_Ride) (vs := [(0,.agg #[i6 0,i6 10,i6 r.Lo,i6 r.Hi]),(1,.agg #[i6 5,i6 5,i6 r_1.Lo,i6 r_1.Hi])]) hf hc rfl rfl sl_52 rfl ⟨rfl,rfl,rfl,rfl,rfl,rfl,trivial⟩ rfl rfl fun b_2 a w hf hc => stP hf rfl rfl rfl (pBuildS (cells := [i6 50,i6 100,i6 250,i6 3000,.slice (some ⟨b_2,0,none⟩) 2 2]) bt_54 rfl rfl) fun a hf => stSt (vs := [i6 50,i6 100,i6 250,i6 3000,.slice (some ⟨b_2,0,none⟩) 2 2]) hf hc rfl rfl rfl rfl sz_54 rfl rfl u1 fun w hc => cNil ?_
 refine h2 _ _ ?_
 refine wp_ret ?_
 obtain rfl := sj hF
 exact fnOut1 (by simp) rfl Tryz.results69 hf hc (rv_cellN (vs := [i6 50,i6 100,i6 250,i6 3000,.slice (some ⟨b_2,0,none⟩) 2 2]) ag_54 rfl rfl (cells_box (n := 5) m1 rfl)) ⟨(some ⟨b_2,0,none⟩),2,rfl,(hc.drop k1)⟩

def crew_CheckCable_1 (r : crew_Ride) : Bool :=
 ((((crew_minute r.From) && (crew_in r.Long 1 100000)) && (crew_in r.Weight.Lo 0 r.Weight.Hi)) && (decide (r.Weight.Hi ≤ 1000)))
theorem crew_CheckCable_1_ok {G : Pers} {Lf : List Ent} {w : World} (r : crew_Ride)   (hc : Ctx G (Lf) w) {res : Bool} (hF : crew_CheckCable_1 r = res) : Calls Tryz.prog 91 #[.agg #[i6 r.From,i6 r.Long,i6 r.Weight.Lo,i6 r.Weight.Hi]] w (fun e w => e = .returned (.bool res) ∧ Ctx G (Lf) w) := by
 unfold crew_CheckCable_1 at hF
 refine fnIn (args := [.agg #[i6 r.From,i6 r.Long,i6 r.Weight.Lo,i6 r.Weight.Hi]]) Tryz.func91 rfl Tryz.ntmps91 rfl fun a hf => wp_seq_k fun K1 h1 => cReg ?_
 refine stBx (cs := [i6 r.From,i6 r.Long,i6 r.Weight.Lo,i6 r.Weight.Hi]) hf hc rfl rfl rfl rfl fun b_1 a w hf hc => stP hf rfl rfl rfl (pA rfl) fun a hf => cNil ?_
 refine h1 _ _ ?_
 refine wp_seq_k fun K2 h2 => cReg ?_
 refine stP hf rfl rfl rfl (pFA fa_72_0 rfl) fun a hf => stE hf hc rfl rfl rfl (eLd1 sc_3 rfl (cell_box m0 rfl)) fun a w hf hc => stE hf hc rfl rfl rfl (eC (v := .bool (crew_minute r.From)) (vs := [i6 r.From]) (caps := []) en_80 rfl rfl rfl rfl (fun w hc => crew_minute_ok r.From hc rfl)) fun a w hf hc => stP hf rfl rfl rfl (pM rfl) fun a hf => stCut 4 (fun a w => Has 26 a [(1,pq b_1),(2,.bool false),(3,pq b_1),(4,i6 r.From),(5,.bool (crew_minute r.From)),(6,.bool (crew_minute r.From)),(10,.bool ((crew_minute r.From) && (crew_in r.Long 1 100000)))] ∧ Ctx G (.box b_1 [i6 r.From,i6 r.Long,i6 r.Weight.Lo,i6 r.Weight.Hi] 72::Lf) w) ?_ ?_
 ·cases hb : (crew_minute r.From)
  ·rw [hb] at hf
   refine stS hf rfl rfl rfl fun a hf => stS hf rfl rfl rfl fun a hf => stS hf rfl rfl rfl fun a hf => stP hf rfl rfl rfl (pPf rfl rfl) fun a hf => cNil ⟨hf.kp rfl,hc⟩
  ·rw [hb] at hf
   refine stP hf rfl rfl rfl (pFA fa_72_1 rfl) fun a hf => stE hf hc rfl rfl rfl (eLd1 sc_3 rfl (cell_box m0 rfl)) fun a w hf hc => stE hf hc rfl rfl rfl (eC (v := .bool (crew_in r.Long 1 100000)) (vs := [i6 r.Long,i6 1,i6 100000]) (caps := []) en_86 rfl rfl rfl rfl (fun w hc => crew_in_ok r.Long 1 100000 hc rfl)) fun a w hf hc => stP hf rfl rfl rfl (pPt rfl rfl) fun a hf => cNil ⟨hf.kp rfl,hc⟩
 intro a w ⟨hf,hc⟩
 refine stP hf rfl rfl rfl (pM rfl) fun a hf => stCut 8 (fun a w => Has 26 a [(1,pq b_1),(2,.bool false),(3,pq b_1),(4,i6 r.From),(5,.bool (crew_minute r.From)),(6,.bool (crew_minute r.From)),(10,.bool ((crew_minute r.From) && (crew_in r.Long 1 100000))),(11,.bool ((crew_minute r.From) && (crew_in r.Long 1 100000))),(19,.bool (((crew_minute r.From) && (crew_in r.Long 1 100000)) && (crew_in r.Weight.Lo 0 r.Weight.Hi)))] ∧ Ctx G (.box b_1 [i6 r.From,i6 r.Long,i6 r.Weight.Lo,i6 r.Weight.Hi] 72::Lf) w) ?_ ?_
 ·cases hb : ((crew_minute r.From) && (crew_in r.Long 1 100000))
  ·rw [hb] at hf
   refine stS hf rfl rfl rfl fun a hf => stS hf rfl rfl rfl fun a hf => stS hf rfl rfl rfl fun a hf => stS hf rfl rfl rfl fun a hf => stS hf rfl rfl rfl fun a hf => stS hf rfl rfl rfl fun a hf => stS hf rfl rfl rfl fun a hf => stP hf rfl rfl rfl (pPf rfl rfl) fun a hf => cNil ⟨hf.kp rfl,hc⟩
  ·rw [hb] at hf
   refine stP hf rfl rfl rfl (pFA fa_72_2 rfl) fun a hf => stP hf rfl rfl rfl (pFA fa_29_0 rfl) fun a hf => stE hf hc rfl rfl rfl (eLd1 sc_3 rfl (cell_box m0 rfl)) fun a w hf hc => stP hf rfl rfl rfl (pFA fa_72_2 rfl) fun a hf => stP hf rfl rfl rfl (pFA fa_29_1 rfl) fun a hf => stE hf hc rfl rfl rfl (eLd1 sc_3 rfl (cell_box m0 rfl)) fun a w hf hc => stE hf hc rfl rfl rfl (eC (v := .bool (crew_in r.Weight.Lo 0 r.Weight.Hi)) (vs := [i6 r.Weight.Lo,i6 0,i6 r.Weight.Hi]) (caps := []) en_86 rfl rfl rfl rfl (fun w hc => crew_in_ok r.Weight.Lo 0 r.Weight.Hi hc rfl)) fun a w hf hc => stP hf rfl rfl rfl (pPt rfl rfl) fun a hf => cNil ⟨hf.kp rfl,hc⟩
 intro a w ⟨hf,hc⟩
 refine stP hf rfl rfl rfl (pM rfl) fun a hf => stCut 5 (fun a w => Has 26 a [(1,pq b_1),(2,.bool false),(3,pq b_1),(4,i6 r.From),(5,.bool (crew_minute r.From)),(6,.bool (crew_minute r.From)),(10,.bool ((crew_minute r.From) && (crew_in r.Long 1 100000))),(11,.bool ((crew_minute r.From) && (crew_in r.Long 1 100000))),(19,.bool (((crew_minute r.From) && (crew_in r.Long 1 100000)) && (crew_in r.Weight.Lo 0 r.Weight.Hi))),(20,.bool (((crew_minute r.From) && (crew_in r.Long 1 100000)) && (crew_in r.Weight.Lo 0 r.Weight.Hi))),(25,.bool ((((crew_minute r.From) && (crew_in r.Long 1 100000)) && (crew_in r.Weight.Lo 0 r.Weight.Hi)) && (decide (r.Weight.Hi ≤ 1000))))] ∧ Ctx G (.box b_1 [i6 r.From,i6 r.Long,i6 r.Weight.Lo,i6 r.Weight.Hi] 72::Lf) w) ?_ ?_
 ·cases hb : (((crew_minute r.From) && (crew_in r.Long 1 100000)) && (crew_in r.Weight.Lo 0 r.Weight.Hi))
  ·rw [hb] at hf
   refine stS hf rfl rfl rfl fun a hf => stS hf rfl rfl rfl fun a hf => stS hf rfl rfl rfl fun a hf => stS hf rfl rfl rfl fun a hf => stP hf rfl rfl rfl (pPf rfl rfl) fun a hf => cNil ⟨hf.kp rfl,hc⟩
  ·rw [hb] at hf
   refine stP hf rfl rfl rfl (pFA fa_72_2 rfl) fun a hf => stP hf rfl rfl rfl (pFA fa_29_1 rfl) fun a hf => stE hf hc rfl rfl rfl (eLd1 sc_3 rfl (cell_box m0 rfl)) fun a w hf hc => stP hf rfl rfl rfl (pLe rfl rfl) fun a hf => stP hf rfl rfl rfl (pPt rfl rfl) fun a hf => cNil ⟨hf.kp rfl,hc⟩
 intro a w ⟨hf,hc⟩
 refine stP hf rfl rfl rfl (pA rfl) fun a hf => cNil ?_
 refine h2 _ _ ?_
 refine wp_ret ?_
 obtain rfl := hF
 replace hc := hc.drop k0
 exact fnOut1 (by simp) rfl Tryz.results91 hf hc (show look _ 2 = _ from rfl) ⟨rfl,hc⟩

end Go.Nilo
