/-
 What functions of the Go text compute, as plain functions, and that they do, part 5 of 5. Conditions: what each theorem names.
-/
import Derived.Test.YtpfmkhhhamdpeaaGreatCa4
import Derived.Test.YtpfmkhhhamdpeaaGreatProg
set_option linter.unusedVariables false
set_option linter.unusedSimpArgs false
set_option maxRecDepth 100000
set_option maxHeartbeats 4000000
namespace Go.Nilo
open Go.Proofs


def ref11_load_j9 (N : Nat) (i_1 : Int) (x_2 : Int) (x_3 : Int) : Option (Step (Int × Int × Int) (api_Span)) :=
 some (.cont (W (i_1 + 1),x_2,x_3))
def ref11_load_b5 (N : Nat) (c_ : ref11_Cable) (minute : Int) (i_1 : Int) (x : Int) (x_1 : Int) : Option (Step (Int × Int × Int) (api_Span)) :=
 cond (decide (i_1 < ((c_.Rides.length : Nat) : Int)))
 (Option.bind (getI c_.Rides i_1) fun e_1 =>
 cond ((decide (e_1.From ≤ minute)) && (decide (minute ≤ (W ((W (e_1.From + e_1.Long)) - 1)))))
 (ref11_load_j9 N i_1 (W (x + e_1.Weight.Lo)) (W (x_1 + e_1.Weight.Hi)))
 (ref11_load_j9 N i_1 x x_1))
 (some (.brk (i_1,x,x_1)))
def ref11_load (N : Nat) (c_ : ref11_Cable) (minute : Int) : Option (api_Span) :=
 Option.bind (loopO (fun s5 => ref11_load_b5 N c_ minute s5.1 s5.2.1 s5.2.2) N (0,c_.Car,c_.Car)) fun x5 =>
 exK x5 (fun s5 => some (⟨s5.2.1,s5.2.2⟩ : api_Span)) some
theorem ref11_load_ok {N : Nat} {G : Pers} {Lf : List Ent} {w : World} (c_ : ref11_Cable) (minute : Int) {c__Rides_p : Option Addr} {c__Rides_c : Nat} (h_c__Rides : Rd G 4 c__Rides_p c__Rides_c (c_.Rides.map enc_ref11_Ride)) (hc : Ctx G (Lf) w) {res : api_Span} (hF : ref11_load N c_ minute = some res) : Calls Tryz.prog 94 #[.agg #[i6 c_.Car,i6 c_.Wide,i6 c_.Sag,i6 c_.Most,.slice c__Rides_p c_.Rides.length c__Rides_c],i6 minute] w (fun e w => e = .returned (.agg #[i6 res.Lo,i6 res.Hi]) ∧ Ctx G (Lf) w) := by
 unfold ref11_load at hF
 refine fnIn (args := [.agg #[i6 c_.Car,i6 c_.Wide,i6 c_.Sag,i6 c_.Most,.slice c__Rides_p c_.Rides.length c__Rides_c],i6 minute]) Tryz.func94 rfl Tryz.ntmps94 rfl fun a hf => wp_seq_k fun K1 h1 => cReg ?_
 refine stBx (cs := [i6 c_.Car,i6 c_.Wide,i6 c_.Sag,i6 c_.Most,.slice c__Rides_p c_.Rides.length c__Rides_c]) hf hc rfl rfl rfl rfl fun b_1 a w hf hc => stAl (cs := [i6 0,i6 0]) hf hc rfl rfl zr_29 rfl fun b_2 a w hf hc => cNil ?_
 refine h1 _ _ ?_
 refine wp_seq_k fun K2 h2 => cReg ?_
 refine stP hf rfl rfl rfl (pFA fa_60_0 rfl) fun a hf => stE hf hc rfl rfl rfl (eLd1 sc_3 rfl (cell_box m1 rfl)) fun a w hf hc => stP hf rfl rfl rfl (pFA fa_60_0 rfl) fun a hf => stE hf hc rfl rfl rfl (eLd1 sc_3 rfl (cell_box m1 rfl)) fun a w hf hc => stP hf rfl rfl rfl (pBuildS (cells := [i6 c_.Car,i6 c_.Car]) bt_29 rfl rfl) fun a hf => stAl (cs := [i6 0,i6 0]) hf hc rfl rfl zr_29 rfl fun b_3 a w hf hc => stSt (vs := [i6 c_.Car,i6 c_.Car]) hf hc rfl rfl rfl rfl sz_29 rfl rfl u0 fun w hc => cNil ?_
 refine h2 _ _ ?_
 refine wp_seq_k fun K3 h3 => wp_seq_k fun K4 h4 => cReg ?_
 refine stP hf rfl rfl rfl (pA rfl) fun a hf => cNil ?_
 refine h4 _ _ ?_
 refine wp_block ?_
 obtain ⟨x5,hx5,hF⟩ := bnd_some hF
 let S5 : (Int × Int × Int) → Act → World → Prop := (fun (zz : Int × Int × Int) a w => Has 53 a [(1,i6 minute),(2,pq b_1),(4,pq b_2),(5,pq b_3),(6,i6 zz.1)] ∧ Ctx G (.box b_3 [i6 zz.2.1,i6 zz.2.2] 29::.box b_2 [i6 0,i6 0] 29::.box b_1 [i6 c_.Car,i6 c_.Wide,i6 c_.Sag,i6 c_.Most,.slice c__Rides_p c_.Rides.length c__Rides_c] 60::Lf) w)
 have hr5 : ∀ (zz : Int × Int × Int) a w,x5 = .go zz → S5 zz a w → K3 a w := by
  rintro ⟨i_1,x,x_1⟩ a w rfl ⟨hf,hc⟩
  replace hF := exK_go hF
  refine h3 _ _ ?_
  refine wp_seq_k fun K6 h6 => cReg ?_
  refine stE hf hc rfl rfl rfl (eLdN (vs := [i6 x,i6 x_1]) ag_29 rfl rfl (cells_box (n := 2) m0 rfl)) fun a w hf hc => stSt (vs := [i6 x,i6 x_1]) hf hc rfl rfl rfl rfl sz_29 rfl rfl u1 fun w hc => cNil ?_
  refine h6 _ _ ?_
  refine wp_ret ?_
  obtain rfl := sj hF
  replace hc := hc.drop k2
  replace hc := hc.drop k0
  exact fnOut1 (by simp) rfl Tryz.results94 hf hc (rv_cellN (vs := [i6 x,i6 x_1]) ag_29 rfl rfl (cells_box (n := 2) m0 rfl)) ⟨rfl,(hc.drop k0)⟩
 have ho5 : ∀ r,x5 = .out r → r = res := by
  rintro r rfl
  exact sj hF
 refine cLoop N (loopW (S := S5) (x := x5) ?_ N (0,c_.Car,c_.Car) _ _ ⟨hf.kp rfl,hc⟩ hx5)
 clear hF hf hc
 rintro ⟨i_1,x,x_1⟩ st5 a w KB5 ⟨hf,hc⟩ hF hfin5 hK5
 unfold ref11_load_b5 at hF
 refine wp_seq_k fun K7 h7 => wp_seq_k fun K8 h8 => cReg ?_
 refine stP hf rfl rfl rfl (pM rfl) fun a hf => stP hf rfl rfl rfl (pFA fa_60_4 rfl) fun a hf => stE hf hc rfl rfl rfl (eLd1 sc_58 rfl (cell_box m2 rfl)) fun a w hf hc => stP hf rfl rfl rfl (pLenS Tryz.underlying58 rfl) fun a hf => stP hf rfl rfl rfl (pLt rfl rfl) fun a hf => cNil ?_
 refine h8 _ _ ?_
 refine cCond (b := (decide (i_1 < ((c_.Rides.length : Nat) : Int)))) hf rfl (fun hb => ?_) (fun hb => ?_)
 ·replace hF := condT hb hF
  clear hb
  refine wp_skip ?_
  refine h7 _ _ ?_
  refine wp_seq_k fun K9 h9 => ?_
  have hj9 : ∀ (x_2 : Int) (x_3 : Int) a w,Has 53 a [(1,i6 minute),(2,pq b_1),(4,pq b_2),(5,pq b_3),(6,i6 i_1)] → Ctx G (.box b_3 [i6 x_2,i6 x_3] 29::.box b_2 [i6 0,i6 0] 29::.box b_1 [i6 c_.Car,i6 c_.Wide,i6 c_.Sag,i6 c_.Most,.slice c__Rides_p c_.Rides.length c__Rides_c] 60::Lf) w → ref11_load_j9 N i_1 x_2 x_3 = some st5 → K9 a w := by
   repeat (clear hF)
   repeat (clear hc)
   repeat (clear hf)
   intro x_2 x_3 a w hf hc hF
   unfold ref11_load_j9 at hF
   refine h9 _ _ ?_
   refine cReg ?_
   refine stP hf rfl rfl rfl (pM rfl) fun a hf => stP hf rfl rfl rfl (pAdd rfl rfl) fun a hf => stP hf rfl rfl rfl (pA rfl) fun a hf => cNil ?_
   exact hK5 (W (i_1 + 1),x_2,x_3) _ _ (sj hF).symm ⟨hf.kp rfl,hc⟩
  refine wp_block ?_
  refine wp_seq_k fun K10 h10 => cReg ?_
  refine stP hf rfl rfl rfl (pFA fa_60_4 rfl) fun a hf => stE hf hc rfl rfl rfl (eLd1 sc_58 rfl (cell_box m2 rfl)) fun a w hf hc => stP hf rfl rfl rfl (pM rfl) fun a hf => ?_
  obtain ⟨e_1,he_1,hF⟩ := bnd_some hF
  obtain ⟨b_4,o,qa,qp⟩ := h_c__Rides.atm he_1
  refine stP hf rfl rfl rfl (pIA Tryz.underlying58 sz_156 rfl rfl qa) fun a hf => stE hf hc rfl rfl rfl (eLdN (vs := [i6 e_1.From,i6 e_1.Long,i6 e_1.Weight.Lo,i6 e_1.Weight.Hi]) ag_156 rfl rfl (cells_pc qp (n := 4) (o' := 0) rfl)) fun a w hf hc => stAl (cs := [i6 0,i6 0,i6 0,i6 0]) hf hc rfl rfl zr_156 rfl fun b_5 a w hf hc => stSt (vs := [i6 e_1.From,i6 e_1.Long,i6 e_1.Weight.Lo,i6 e_1.Weight.Hi]) hf hc rfl rfl rfl rfl sz_156 rfl rfl u0 fun w hc => cNil ?_
  refine h10 _ _ ?_
  refine wp_seq_k fun K11 h11 => cReg ?_
  refine stP hf rfl rfl rfl (pFA fa_156_0 rfl) fun a hf => stE hf hc rfl rfl rfl (eLd1 sc_3 rfl (cell_box m0 rfl)) fun a w hf hc => stP hf rfl rfl rfl (pM rfl) fun a hf => stP hf rfl rfl rfl (pLe rfl rfl) fun a hf => stP hf rfl rfl rfl (pM rfl) fun a hf => stCut 9 (fun a w => Has 53 a [(1,i6 minute),(2,pq b_1),(4,pq b_2),(5,pq b_3),(6,i6 i_1),(7,pq b_5),(25,pq b_5),(26,i6 e_1.From),(27,i6 minute),(28,.bool (decide (e_1.From ≤ minute))),(29,.bool (decide (e_1.From ≤ minute))),(38,.bool ((decide (e_1.From ≤ minute)) && (decide (minute ≤ (W ((W (e_1.From + e_1.Long)) - 1))))))] ∧ Ctx G (.box b_5 [i6 e_1.From,i6 e_1.Long,i6 e_1.Weight.Lo,i6 e_1.Weight.Hi] 156::.box b_3 [i6 x,i6 x_1] 29::.box b_2 [i6 0,i6 0] 29::.box b_1 [i6 c_.Car,i6 c_.Wide,i6 c_.Sag,i6 c_.Most,.slice c__Rides_p c_.Rides.length c__Rides_c] 60::Lf) w) ?_ ?_
  ·cases hb : (decide (e_1.From ≤ minute))
   ·rw [hb] at hf
    refine stS hf rfl rfl rfl fun a hf => stS hf rfl rfl rfl fun a hf => stS hf rfl rfl rfl fun a hf => stS hf rfl rfl rfl fun a hf => stS hf rfl rfl rfl fun a hf => stS hf rfl rfl rfl fun a hf => stS hf rfl rfl rfl fun a hf => stS hf rfl rfl rfl fun a hf => stP hf rfl rfl rfl (pPf rfl rfl) fun a hf => cNil ⟨hf.kp rfl,hc⟩
   ·rw [hb] at hf
    refine stP hf rfl rfl rfl (pM rfl) fun a hf => stP hf rfl rfl rfl (pFA fa_156_0 rfl) fun a hf => stE hf hc rfl rfl rfl (eLd1 sc_3 rfl (cell_box m0 rfl)) fun a w hf hc => stP hf rfl rfl rfl (pFA fa_156_1 rfl) fun a hf => stE hf hc rfl rfl rfl (eLd1 sc_3 rfl (cell_box m0 rfl)) fun a w hf hc => stP hf rfl rfl rfl (pAdd rfl rfl) fun a hf => stP hf rfl rfl rfl (pSub rfl rfl) fun a hf => stP hf rfl rfl rfl (pLe rfl rfl) fun a hf => stP hf rfl rfl rfl (pPt rfl rfl) fun a hf => cNil ⟨hf.kp rfl,hc⟩
  intro a w ⟨hf,hc⟩
  refine cNil ?_
  refine h11 _ _ ?_
  refine cCond (b := ((decide (e_1.From ≤ minute)) && (decide (minute ≤ (W ((W (e_1.From + e_1.Long)) - 1)))))) hf rfl (fun hb => ?_) (fun hb => ?_)
  ·replace hF := condT hb hF
   clear hb
   refine cReg ?_
   refine stP hf rfl rfl rfl (pFA fa_29_0 rfl) fun a hf => stE hf hc rfl rfl rfl (eLd1 sc_3 rfl (cell_box m1 rfl)) fun a w hf hc => stP hf rfl rfl rfl (pFA fa_156_2 rfl) fun a hf => stP hf rfl rfl rfl (pFA fa_29_0 rfl) fun a hf => stE hf hc rfl rfl rfl (eLd1 sc_3 rfl (cell_box m0 rfl)) fun a w hf hc => stP hf rfl rfl rfl (pAdd rfl rfl) fun a hf => stP hf rfl rfl rfl (pFA fa_29_1 rfl) fun a hf => stE hf hc rfl rfl rfl (eLd1 sc_3 rfl (cell_box m1 rfl)) fun a w hf hc => stP hf rfl rfl rfl (pFA fa_156_2 rfl) fun a hf => stP hf rfl rfl rfl (pFA fa_29_1 rfl) fun a hf => stE hf hc rfl rfl rfl (eLd1 sc_3 rfl (cell_box m0 rfl)) fun a w hf hc => stP hf rfl rfl rfl (pAdd rfl rfl) fun a hf => stP hf rfl rfl rfl (pBuildS (cells := [i6 (W (x + e_1.Weight.Lo)),i6 (W (x_1 + e_1.Weight.Hi))]) bt_29 rfl rfl) fun a hf => ?_
   refine stSt (vs := [i6 (W (x + e_1.Weight.Lo)),i6 (W (x_1 + e_1.Weight.Hi))]) hf hc rfl rfl rfl rfl sz_29 rfl rfl u1 fun w hc => cNil ?_
   replace hc := hc.drop k0
   exact hj9 (W (x + e_1.Weight.Lo)) (W (x_1 + e_1.Weight.Hi)) _ _  (hf.kp rfl) hc hF
  ·replace hF := condF hb hF
   clear hb
   refine wp_skip ?_
   replace hc := hc.drop k0
   exact hj9 x x_1 _ _  (hf.kp rfl) hc hF
 ·replace hF := condF hb hF
  clear hb
  refine wp_exit ?_
  refine xThen ?_
  refine xThen ?_
  have he := sj hF
  rw [← he] at hfin5
  refine cHit ?_
  exact hr5 _ _ _ hfin5 ⟨hf.kp rfl,hc⟩

def ref11_Load (N : Nat) (c_ : ref11_Cable) (minute : Int) : Option (api_Span × Int) :=
 Option.bind (ref11_CheckCable N c_) fun r =>
 cond (r != 0)
 (some ((⟨0,0⟩ : api_Span),r))
 (cond (ref11_outside minute 0 200000)
 (some ((⟨0,0⟩ : api_Span),4))
 (Option.bind (ref11_load N c_ minute) fun r_1 =>
 some (r_1,0)))
theorem ref11_Load_ok {N : Nat} {G : Pers} {Lf : List Ent} {w : World} (c_ : ref11_Cable) (minute : Int) {c__Rides_p : Option Addr} {c__Rides_c : Nat} (h_c__Rides : Rd G 4 c__Rides_p c__Rides_c (c_.Rides.map enc_ref11_Ride)) (hc : Ctx G (Lf) w) {res : api_Span × Int} (hF : ref11_Load N c_ minute = some res) : Calls Tryz.prog 35 #[.agg #[i6 c_.Car,i6 c_.Wide,i6 c_.Sag,i6 c_.Most,.slice c__Rides_p c_.Rides.length c__Rides_c],i6 minute] w (fun e w => e = .returned (.tuple #[.agg #[i6 res.1.Lo,i6 res.1.Hi],i6 res.2]) ∧ Ctx G (Lf) w) := by
 unfold ref11_Load at hF
 refine fnIn (args := [.agg #[i6 c_.Car,i6 c_.Wide,i6 c_.Sag,i6 c_.Most,.slice c__Rides_p c_.Rides.length c__Rides_c],i6 minute]) Tryz.func35 rfl Tryz.ntmps35 rfl fun a hf => wp_seq_k fun K1 h1 => cReg ?_
 refine stBx (cs := [i6 c_.Car,i6 c_.Wide,i6 c_.Sag,i6 c_.Most,.slice c__Rides_p c_.Rides.length c__Rides_c]) hf hc rfl rfl rfl rfl fun b_1 a w hf hc => stAl (cs := [i6 0,i6 0]) hf hc rfl rfl zr_29 rfl fun b_2 a w hf hc => stP hf rfl rfl rfl (pA rfl) fun a hf => cNil ?_
 refine h1 _ _ ?_
 refine wp_seq_k fun K2 h2 => wp_seq_k fun K3 h3 => cReg ?_
 refine stE hf hc rfl rfl rfl (eLdN (vs := [i6 c_.Car,i6 c_.Wide,i6 c_.Sag,i6 c_.Most,.slice c__Rides_p c_.Rides.length c__Rides_c]) ag_60 rfl rfl (cells_box (n := 5) m1 rfl)) fun a w hf hc => ?_
 obtain ⟨r,hr,hF⟩ := bnd_some hF
 refine stE hf hc rfl rfl rfl (eC (v := i6 r) (vs := [.agg #[i6 c_.Car,i6 c_.Wide,i6 c_.Sag,i6 c_.Most,.slice c__Rides_p c_.Rides.length c__Rides_c]]) (caps := []) en_32 rfl rfl rfl rfl (fun w hc => ref11_CheckCable_ok c_ h_c__Rides hc hr)) fun a w hf hc => stP hf rfl rfl rfl (pA rfl) fun a hf => cNil ?_
 refine h3 _ _ ?_
 refine wp_seq_k fun K4 h4 => cReg ?_
 refine stP hf rfl rfl rfl (pM rfl) fun a hf => stP hf rfl rfl rfl (pNe rfl rfl) fun a hf => cNil ?_
 refine h4 _ _ ?_
 refine cCond (b := (r != 0)) hf rfl (fun hb => ?_) (fun hb => ?_)
 ·replace hF := condT hb hF
  clear hb
  refine wp_seq_k fun K5 h5 => cReg ?_
  refine stP hf rfl rfl rfl (pBuildS (cells := [i6 0,i6 0]) bt_29 rfl rfl) fun a hf => stP hf rfl rfl rfl (pM rfl) fun a hf => stSt (vs := [i6 0,i6 0]) hf hc rfl rfl rfl rfl sz_29 rfl rfl u0 fun w hc => stP hf rfl rfl rfl (pA rfl) fun a hf => cNil ?_
  refine h5 _ _ ?_
  refine wp_ret ?_
  refine xThenR ?_
  obtain rfl := sj hF
  replace hc := hc.drop k1
  exact fnOut2 (by simp) rfl Tryz.results35 hf hc (rv_cellN (vs := [i6 0,i6 0]) ag_29 rfl rfl (cells_box (n := 2) m0 rfl)) (show look _ 5 = _ from rfl) ⟨rfl,(hc.drop k0)⟩
 ·replace hF := condF hb hF
  clear hb
  refine wp_skip ?_
  refine h2 _ _ ?_
  refine wp_seq_k fun K6 h6 => wp_seq_k fun K7 h7 => cReg ?_
  refine stP hf rfl rfl rfl (pM rfl) fun a hf => stE hf hc rfl rfl rfl (eC (v := .bool (ref11_outside minute 0 200000)) (vs := [i6 minute,i6 0,i6 200000]) (caps := []) en_85 rfl rfl rfl rfl (fun w hc => ref11_outside_ok minute 0 200000 hc rfl)) fun a w hf hc => cNil ?_
  refine h7 _ _ ?_
  refine cCond (b := (ref11_outside minute 0 200000)) hf rfl (fun hb => ?_) (fun hb => ?_)
  ·replace hF := condT hb hF
   clear hb
   refine wp_seq_k fun K8 h8 => cReg ?_
   refine stP hf rfl rfl rfl (pBuildS (cells := [i6 0,i6 0]) bt_29 rfl rfl) fun a hf => stSt (vs := [i6 0,i6 0]) hf hc rfl rfl rfl rfl sz_29 rfl rfl u0 fun w hc => stP hf rfl rfl rfl (pA rfl) fun a hf => cNil ?_
   refine h8 _ _ ?_
   refine wp_ret ?_
   refine xThenR ?_
   obtain rfl := sj hF
   replace hc := hc.drop k1
   exact fnOut2 (by simp) rfl Tryz.results35 hf hc (rv_cellN (vs := [i6 0,i6 0]) ag_29 rfl rfl (cells_box (n := 2) m0 rfl)) (show look _ 5 = _ from rfl) ⟨rfl,(hc.drop k0)⟩
  ·replace hF := condF hb hF
   clear hb
   refine wp_skip ?_
   refine h6 _ _ ?_
   refine wp_seq_k fun K9 h9 => cReg ?_
   refine stE hf hc rfl rfl rfl (eLdN (vs := [i6 c_.Car,i6 c_.Wide,i6 c_.Sag,i6 c_.Most,.slice c__Rides_p c_.Rides.length c__Rides_c]) ag_60 rfl rfl (cells_box (n := 5) m1 rfl)) fun a w hf hc => stP hf rfl rfl rfl (pM rfl) fun a hf => ?_
   obtain ⟨r_1,hr_1,hF⟩ := bnd_some hF
   refine stE hf hc rfl rfl rfl (eC (v := .agg #[i6 r_1.Lo,i6 r_1.Hi]) (vs := [.agg #[i6 c_.Car,i6 c_.Wide,i6 c_.Sag,i6 c_.Most,.slice c__Rides_p c_.Rides.length c__Rides_c],i6 minute]) (caps := []) en_94 rfl rfl rfl rfl (fun w hc => ref11_load_ok c_ minute h_c__Rides hc hr_1)) fun a w hf hc => stSt (vs := [i6 r_1.Lo,i6 r_1.Hi]) hf hc rfl rfl rfl rfl sz_29 rfl rfl u0 fun w hc => stP hf rfl rfl rfl (pA rfl) fun a hf => cNil ?_
   refine h9 _ _ ?_
   refine wp_ret ?_
   obtain rfl := sj hF
   replace hc := hc.drop k1
   exact fnOut2 (by simp) rfl Tryz.results35 hf hc (rv_cellN (vs := [i6 r_1.Lo,i6 r_1.Hi]) ag_29 rfl rfl (cells_box (n := 2) m0 rfl)) (show look _ 5 = _ from rfl) ⟨rfl,(hc.drop k0)⟩

def ref11_beyond (c_ : ref11_Cable) (load : Int) : Bool :=
 (decide ((W (c_.Sag * c_.Most)) < (W ((W (25 * c_.Wide)) * load))))
theorem ref11_beyond_ok {G : Pers} {Lf : List Ent} {w : World} (c_ : ref11_Cable) (load : Int) {c__Rides_p : Option Addr} {c__Rides_c : Nat} (h_c__Rides : Rd G 4 c__Rides_p c__Rides_c (c_.Rides.map enc_ref11_Ride)) (hc : Ctx G (Lf) w) {res : Bool} (hF : ref11_beyond c_ load = res) : Calls Tryz.prog 100 #[.agg #[i6 c_.Car,i6 c_.Wide,i6 c_.Sag,i6 c_.Most,.slice c__Rides_p c_.Rides.length c__Rides_c],i6 load] w (fun e w => e = .returned (.bool res) ∧ Ctx G (Lf) w) := by
 unfold ref11_beyond at hF
 refine fnIn (args := [.agg #[i6 c_.Car,i6 c_.Wide,i6 c_.Sag,i6 c_.Most,.slice c__Rides_p c_.Rides.length c__Rides_c],i6 load]) Tryz.func100 rfl Tryz.ntmps100 rfl fun a hf => wp_seq_k fun K1 h1 => cReg ?_
 refine stBx (cs := [i6 c_.Car,i6 c_.Wide,i6 c_.Sag,i6 c_.Most,.slice c__Rides_p c_.Rides.length c__Rides_c]) hf hc rfl rfl rfl rfl fun b_1 a w hf hc => stP hf rfl rfl rfl (pA rfl) fun a hf => cNil ?_
 refine h1 _ _ ?_
 refine wp_seq_k fun K2 h2 => cReg ?_
 refine stP hf rfl rfl rfl (pFA fa_60_1 rfl) fun a hf => stE hf hc rfl rfl rfl (eLd1 sc_3 rfl (cell_box m0 rfl)) fun a w hf hc => stP hf rfl rfl rfl (pMul rfl rfl) fun a hf => stP hf rfl rfl rfl (pM rfl) fun a hf => stP hf rfl rfl rfl (pMul rfl rfl) fun a hf => stP hf rfl rfl rfl (pFA fa_60_2 rfl) fun a hf => stE hf hc rfl rfl rfl (eLd1 sc_3 rfl (cell_box m0 rfl)) fun a w hf hc => stP hf rfl rfl rfl (pFA fa_60_3 rfl) fun a hf => stE hf hc rfl rfl rfl (eLd1 sc_3 rfl (cell_box m0 rfl)) fun a w hf hc => stP hf rfl rfl rfl (pMul rfl rfl) fun a hf => stP hf rfl rfl rfl (pGt rfl rfl) fun a hf => stP hf rfl rfl rfl (pA rfl) fun a hf => cNil ?_
 refine h2 _ _ ?_
 refine wp_ret ?_
 obtain rfl := hF
 replace hc := hc.drop k0
 exact fnOut1 (by simp) rfl Tryz.results100 hf hc (show look _ 4 = _ from rfl) ⟨rfl,hc⟩

def ref11_Beyond_j13 (N : Nat) (i_1 : Int) (can_1 : Int) (surely_1 : Int) : Option (Step (Int × Int × Int) (Int × Int × Int)) :=
 some (.cont (can_1,surely_1,W (i_1 + 1)))
def ref11_Beyond_j17 (N : Nat) (c_ : ref11_Cable) (surely : Int) (i_1 : Int) (minute : Int) (r_1 : api_Span) (can_2 : Int) : Option (Step (Int × Int × Int) (Int × Int × Int)) :=
 cond ((ref11_beyond c_ r_1.Lo) && ((surely == (-1)) || (decide (minute < surely))))
 (ref11_Beyond_j13 N i_1 can_2 minute)
 (ref11_Beyond_j13 N i_1 can_2 surely)
def ref11_Beyond_j15 (N : Nat) (c_ : ref11_Cable) (can : Int) (surely : Int) (i_1 : Int) (minute : Int) : Option (Step (Int × Int × Int) (Int × Int × Int)) :=
 Option.bind (ref11_load N c_ minute) fun r_1 =>
 cond ((ref11_beyond c_ r_1.Hi) && ((can == (-1)) || (decide (minute < can))))
 (ref11_Beyond_j17 N c_ surely i_1 minute r_1 minute)
 (ref11_Beyond_j17 N c_ surely i_1 minute r_1 can)
def ref11_Beyond_b9 (N : Nat) (c_ : ref11_Cable) (can : Int) (surely : Int) (i_1 : Int) : Option (Step (Int × Int × Int) (Int × Int × Int)) :=
 cond (decide (i_1 < ((c_.Rides.length : Nat) : Int)))
 (cond (decide (0 ≤ i_1))
 (Option.bind (getI c_.Rides i_1) fun e_1 =>
 ref11_Beyond_j15 N c_ can surely i_1 e_1.From)
 (ref11_Beyond_j15 N c_ can surely i_1 0))
 (some (.brk (can,surely,i_1)))
def ref11_Beyond (N : Nat) (c_ : ref11_Cable) : Option (Int × Int × Int) :=
 Option.bind (ref11_CheckCable N c_) fun r =>
 cond (r != 0)
 (some (0,0,r))
 (Option.bind (loopO (fun s9 => ref11_Beyond_b9 N c_ s9.1 s9.2.1 s9.2.2) N ((-1),(-1),(-1))) fun x9 =>
 exK x9 (fun s9 => some (s9.1,s9.2.1,0)) some)
theorem ref11_Beyond_ok {N : Nat} {G : Pers} {Lf : List Ent} {w : World} (c_ : ref11_Cable) {c__Rides_p : Option Addr} {c__Rides_c : Nat} (h_c__Rides : Rd G 4 c__Rides_p c__Rides_c (c_.Rides.map enc_ref11_Ride)) (hc : Ctx G (Lf) w) {res : Int × Int × Int} (hF : ref11_Beyond N c_ = some res) : Calls Tryz.prog 37 #[.agg #[i6 c_.Car,i6 c_.Wide,i6 c_.Sag,i6 c_.Most,.slice c__Rides_p c_.Rides.length c__Rides_c]] w (fun e w => e = .returned (.tuple #[i6 res.1,i6 res.2.1,i6 res.2.2]) ∧ Ctx G (Lf) w) := by
 unfold ref11_Beyond at hF
 refine fnIn (args := [.agg #[i6 c_.Car,i6 c_.Wide,i6 c_.Sag,i6 c_.Most,.slice c__Rides_p c_.Rides.length c__Rides_c]]) Tryz.func37 rfl Tryz.ntmps37 rfl fun a hf => wp_seq_k fun K1 h1 => cReg ?_
 refine stBx (cs := [i6 c_.Car,i6 c_.Wide,i6 c_.Sag,i6 c_.Most,.slice c__Rides_p c_.Rides.length c__Rides_c]) hf hc rfl rfl rfl rfl fun b_1 a w hf hc => stP hf rfl rfl rfl (pA rfl) fun a hf => stP hf rfl rfl rfl (pA rfl) fun a hf => stP hf rfl rfl rfl (pA rfl) fun a hf => cNil ?_
 refine h1 _ _ ?_
 refine wp_seq_k fun K2 h2 => wp_seq_k fun K3 h3 => cReg ?_
 refine stE hf hc rfl rfl rfl (eLdN (vs := [i6 c_.Car,i6 c_.Wide,i6 c_.Sag,i6 c_.Most,.slice c__Rides_p c_.Rides.length c__Rides_c]) ag_60 rfl rfl (cells_box (n := 5) m0 rfl)) fun a w hf hc => ?_
 obtain ⟨r,hr,hF⟩ := bnd_some hF
 refine stE hf hc rfl rfl rfl (eC (v := i6 r) (vs := [.agg #[i6 c_.Car,i6 c_.Wide,i6 c_.Sag,i6 c_.Most,.slice c__Rides_p c_.Rides.length c__Rides_c]]) (caps := []) en_32 rfl rfl rfl rfl (fun w hc => ref11_CheckCable_ok c_ h_c__Rides hc hr)) fun a w hf hc => stP hf rfl rfl rfl (pA rfl) fun a hf => cNil ?_
 refine h3 _ _ ?_
 refine wp_seq_k fun K4 h4 => cReg ?_
 refine stP hf rfl rfl rfl (pM rfl) fun a hf => stP hf rfl rfl rfl (pNe rfl rfl) fun a hf => cNil ?_
 refine h4 _ _ ?_
 refine cCond (b := (r != 0)) hf rfl (fun hb => ?_) (fun hb => ?_)
 ·replace hF := condT hb hF
  clear hb
  refine wp_seq_k fun K5 h5 => cReg ?_
  refine stP hf rfl rfl rfl (pM rfl) fun a hf => stP hf rfl rfl rfl (pA rfl) fun a hf => stP hf rfl rfl rfl (pA rfl) fun a hf => stP hf rfl rfl rfl (pA rfl) fun a hf => cNil ?_
  refine h5 _ _ ?_
  refine wp_ret ?_
  refine xThenR ?_
  obtain rfl := sj hF
  replace hc := hc.drop k0
  exact fnOut3 (by simp) rfl Tryz.results37 hf hc (show look _ 2 = _ from rfl) (show look _ 3 = _ from rfl) (show look _ 4 = _ from rfl) ⟨rfl,hc⟩
 ·replace hF := condF hb hF
  clear hb
  refine wp_skip ?_
  refine h2 _ _ ?_
  refine wp_seq_k fun K6 h6 => cReg ?_
  refine stP hf rfl rfl rfl (pA rfl) fun a hf => stP hf rfl rfl rfl (pA rfl) fun a hf => cNil ?_
  refine h6 _ _ ?_
  refine wp_seq_k fun K7 h7 => wp_seq_k fun K8 h8 => cReg ?_
  refine stP hf rfl rfl rfl (pA rfl) fun a hf => cNil ?_
  refine h8 _ _ ?_
  refine wp_block ?_
  obtain ⟨x9,hx9,hF⟩ := bnd_some hF
  let S9 : (Int × Int × Int) → Act → World → Prop := (fun (zz : Int × Int × Int) a w => Has 64 a [(1,pq b_1),(6,i6 zz.1),(7,i6 zz.2.1),(8,i6 zz.2.2)] ∧ Ctx G (.box b_1 [i6 c_.Car,i6 c_.Wide,i6 c_.Sag,i6 c_.Most,.slice c__Rides_p c_.Rides.length c__Rides_c] 60::Lf) w)
  have hr9 : ∀ (zz : Int × Int × Int) a w,x9 = .go zz → S9 zz a w → K7 a w := by
   rintro ⟨can,surely,i_1⟩ a w rfl ⟨hf,hc⟩
   replace hF := exK_go hF
   refine h7 _ _ ?_
   refine wp_seq_k fun K10 h10 => cReg ?_
   refine stP hf rfl rfl rfl (pM rfl) fun a hf => stP hf rfl rfl rfl (pM rfl) fun a hf => stP hf rfl rfl rfl (pA rfl) fun a hf => stP hf rfl rfl rfl (pA rfl) fun a hf => stP hf rfl rfl rfl (pA rfl) fun a hf => cNil ?_
   refine h10 _ _ ?_
   refine wp_ret ?_
   obtain rfl := sj hF
   replace hc := hc.drop k0
   exact fnOut3 (by simp) rfl Tryz.results37 hf hc (show look _ 2 = _ from rfl) (show look _ 3 = _ from rfl) (show look _ 4 = _ from rfl) ⟨rfl,hc⟩
  have ho9 : ∀ r,x9 = .out r → r = res := by
   rintro r rfl
   exact sj hF
  refine cLoop N (loopW (S := S9) (x := x9) ?_ N ((-1),(-1),(-1)) _ _ ⟨hf.kp rfl,hc⟩ hx9)
  clear hF hf hc
  rintro ⟨can,surely,i_1⟩ st9 a w KB9 ⟨hf,hc⟩ hF hfin9 hK9
  unfold ref11_Beyond_b9 at hF
  refine wp_seq_k fun K11 h11 => wp_seq_k fun K12 h12 => cReg ?_
  refine stP hf rfl rfl rfl (pM rfl) fun a hf => stP hf rfl rfl rfl (pFA fa_60_4 rfl) fun a hf => stE hf hc rfl rfl rfl (eLd1 sc_58 rfl (cell_box m0 rfl)) fun a w hf hc => stP hf rfl rfl rfl (pLenS Tryz.underlying58 rfl) fun a hf => stP hf rfl rfl rfl (pLt rfl rfl) fun a hf => cNil ?_
  refine h12 _ _ ?_
  refine cCond (b := (decide (i_1 < ((c_.Rides.length : Nat) : Int)))) hf rfl (fun hb => ?_) (fun hb => ?_)
  ·replace hF := condT hb hF
   clear hb
   refine wp_skip ?_
   refine h11 _ _ ?_
   refine wp_seq_k fun K13 h13 => ?_
   have hj13 : ∀ (can_1 : Int) (surely_1 : Int) a w,Has 64 a [(1,pq b_1),(6,i6 can_1),(7,i6 surely_1),(8,i6 i_1)] → Ctx G (.box b_1 [i6 c_.Car,i6 c_.Wide,i6 c_.Sag,i6 c_.Most,.slice c__Rides_p c_.Rides.length c__Rides_c] 60::Lf) w → ref11_Beyond_j13 N i_1 can_1 surely_1 = some st9 → K13 a w := by
    repeat (clear hF)
    repeat (clear hc)
    repeat (clear hf)
    intro can_1 surely_1 a w hf hc hF
    unfold ref11_Beyond_j13 at hF
    refine h13 _ _ ?_
    refine cReg ?_
    refine stP hf rfl rfl rfl (pM rfl) fun a hf => stP hf rfl rfl rfl (pAdd rfl rfl) fun a hf => stP hf rfl rfl rfl (pA rfl) fun a hf => cNil ?_
    exact hK9 (can_1,surely_1,W (i_1 + 1)) _ _ (sj hF).symm ⟨hf.kp rfl,hc⟩
   refine wp_block ?_
   refine wp_seq_k fun K14 h14 => cReg ?_
   refine stP hf rfl rfl rfl (pA rfl) fun a hf => cNil ?_
   refine h14 _ _ ?_
   refine wp_seq_k fun K15 h15 => ?_
   have hj15 : ∀ (minute : Int) a w,Has 64 a [(1,pq b_1),(6,i6 can),(7,i6 surely),(8,i6 i_1),(9,i6 minute)] → Ctx G (.box b_1 [i6 c_.Car,i6 c_.Wide,i6 c_.Sag,i6 c_.Most,.slice c__Rides_p c_.Rides.length c__Rides_c] 60::Lf) w → ref11_Beyond_j15 N c_ can surely i_1 minute = some st9 → K15 a w := by
    repeat (clear hF)
    repeat (clear hc)
    repeat (clear hf)
    intro minute a w hf hc hF
    unfold ref11_Beyond_j15 at hF
    refine h15 _ _ ?_
    refine wp_seq_k fun K16 h16 => cReg ?_
    refine stE hf hc rfl rfl rfl (eLdN (vs := [i6 c_.Car,i6 c_.Wide,i6 c_.Sag,i6 c_.Most,.slice c__Rides_p c_.Rides.length c__Rides_c]) ag_60 rfl rfl (cells_box (n := 5) m0 rfl)) fun a w hf hc => stP hf rfl rfl rfl (pM rfl) fun a hf => ?_
    obtain ⟨r_1,hr_1,hF⟩ := bnd_some hF
    refine stE hf hc rfl rfl rfl (eC (v := .agg #[i6 r_1.Lo,i6 r_1.Hi]) (vs := [.agg #[i6 c_.Car,i6 c_.Wide,i6 c_.Sag,i6 c_.Most,.slice c__Rides_p c_.Rides.length c__Rides_c],i6 minute]) (caps := []) en_94 rfl rfl rfl rfl (fun w hc => ref11_load_ok c_ minute h_c__Rides hc hr_1)) fun a w hf hc => stAl (cs := [i6 0,i6 0]) hf hc rfl rfl zr_29 rfl fun b_2 a w hf hc => stSt (vs := [i6 r_1.Lo,i6 r_1.Hi]) hf hc rfl rfl rfl rfl sz_29 rfl rfl u0 fun w hc => cNil ?_
    refine h16 _ _ ?_
    refine wp_seq_k fun K17 h17 => ?_
    have hj17 : ∀ (can_2 : Int) a w,Has 64 a [(1,pq b_1),(6,i6 can_2),(7,i6 surely),(8,i6 i_1),(9,i6 minute),(10,pq b_2)] → Ctx G (.box b_2 [i6 r_1.Lo,i6 r_1.Hi] 29::.box b_1 [i6 c_.Car,i6 c_.Wide,i6 c_.Sag,i6 c_.Most,.slice c__Rides_p c_.Rides.length c__Rides_c] 60::Lf) w → ref11_Beyond_j17 N c_ surely i_1 minute r_1 can_2 = some st9 → K17 a w := by
     repeat (clear hF)
     repeat (clear hc)
     repeat (clear hf)
     intro can_2 a w hf hc hF
     unfold ref11_Beyond_j17 at hF
     refine h17 _ _ ?_
     refine wp_seq_k fun K18 h18 => cReg ?_
     refine stE hf hc rfl rfl rfl (eLdN (vs := [i6 c_.Car,i6 c_.Wide,i6 c_.Sag,i6 c_.Most,.slice c__Rides_p c_.Rides.length c__Rides_c]) ag_60 rfl rfl (cells_box (n := 5) m1 rfl)) fun a w hf hc => stP hf rfl rfl rfl (pFA fa_29_0 rfl) fun a hf => stE hf hc rfl rfl rfl (eLd1 sc_3 rfl (cell_box m0 rfl)) fun a w hf hc => stE hf hc rfl rfl rfl (eC (v := .bool (ref11_beyond c_ r_1.Lo)) (vs := [.agg #[i6 c_.Car,i6 c_.Wide,i6 c_.Sag,i6 c_.Most,.slice c__Rides_p c_.Rides.length c__Rides_c],i6 r_1.Lo]) (caps := []) en_100 rfl rfl rfl rfl (fun w hc => ref11_beyond_ok c_ r_1.Lo h_c__Rides hc rfl)) fun a w hf hc => stP hf rfl rfl rfl (pM rfl) fun a hf => stCut 8 (fun a w => Has 64 a [(1,pq b_1),(6,i6 can_2),(7,i6 surely),(8,i6 i_1),(9,i6 minute),(10,pq b_2),(48,.agg #[i6 c_.Car,i6 c_.Wide,i6 c_.Sag,i6 c_.Most,.slice c__Rides_p c_.Rides.length c__Rides_c]),(49,pq b_2),(50,i6 r_1.Lo),(51,.bool (ref11_beyond c_ r_1.Lo)),(52,.bool (ref11_beyond c_ r_1.Lo)),(60,.bool ((ref11_beyond c_ r_1.Lo) && ((surely == (-1)) || (decide (minute < surely)))))] ∧ Ctx G (.box b_2 [i6 r_1.Lo,i6 r_1.Hi] 29::.box b_1 [i6 c_.Car,i6 c_.Wide,i6 c_.Sag,i6 c_.Most,.slice c__Rides_p c_.Rides.length c__Rides_c] 60::Lf) w) ?_ ?_
     ·cases hb : (ref11_beyond c_ r_1.Lo)
      ·rw [hb] at hf
       refine stS hf rfl rfl rfl fun a hf => stS hf rfl rfl rfl fun a hf => stS hf rfl rfl rfl fun a hf => stS hf rfl rfl rfl fun a hf => stS hf rfl rfl rfl fun a hf => stS hf rfl rfl rfl fun a hf => stS hf rfl rfl rfl fun a hf => stP hf rfl rfl rfl (pPf rfl rfl) fun a hf => cNil ⟨hf.kp rfl,hc⟩
      ·rw [hb] at hf
       refine stP hf rfl rfl rfl (pM rfl) fun a hf => stP hf rfl rfl rfl (pEq rfl rfl) fun a hf => stP hf rfl rfl rfl (pM rfl) fun a hf => stCut 4 (fun a w => Has 64 a [(1,pq b_1),(6,i6 can_2),(7,i6 surely),(8,i6 i_1),(9,i6 minute),(10,pq b_2),(48,.agg #[i6 c_.Car,i6 c_.Wide,i6 c_.Sag,i6 c_.Most,.slice c__Rides_p c_.Rides.length c__Rides_c]),(49,pq b_2),(50,i6 r_1.Lo),(51,.bool true),(52,.bool true),(53,i6 surely),(54,.bool (surely == (-1))),(55,.bool (surely == (-1))),(59,.bool ((surely == (-1)) || (decide (minute < surely))))] ∧ Ctx G (.box b_2 [i6 r_1.Lo,i6 r_1.Hi] 29::.box b_1 [i6 c_.Car,i6 c_.Wide,i6 c_.Sag,i6 c_.Most,.slice c__Rides_p c_.Rides.length c__Rides_c] 60::Lf) w) ?_ ?_
       ·cases hb : (surely == (-1))
        ·rw [hb] at hf
         refine stP hf rfl rfl rfl (pM rfl) fun a hf => stP hf rfl rfl rfl (pM rfl) fun a hf => stP hf rfl rfl rfl (pLt rfl rfl) fun a hf => stP hf rfl rfl rfl (pPf rfl rfl) fun a hf => cNil ⟨hf.kp rfl,hc⟩
        ·rw [hb] at hf
         refine stS hf rfl rfl rfl fun a hf => stS hf rfl rfl rfl fun a hf => stS hf rfl rfl rfl fun a hf => stP hf rfl rfl rfl (pPt rfl rfl) fun a hf => cNil ⟨hf.kp rfl,hc⟩
       intro a w ⟨hf,hc⟩
       refine stP hf rfl rfl rfl (pPt rfl rfl) fun a hf => cNil ⟨hf.kp rfl,hc⟩
     intro a w ⟨hf,hc⟩
     refine cNil ?_
     refine h18 _ _ ?_
     refine cCond (b := ((ref11_beyond c_ r_1.Lo) && ((surely == (-1)) || (decide (minute < surely))))) hf rfl (fun hb => ?_) (fun hb => ?_)
     ·replace hF := condT hb hF
      clear hb
      refine cReg ?_
      refine stP hf rfl rfl rfl (pM rfl) fun a hf => stP hf rfl rfl rfl (pA rfl) fun a hf => cNil ?_
      replace hc := hc.drop k0
      exact hj13 can_2 minute _ _  (hf.kp rfl) hc hF
     ·replace hF := condF hb hF
      clear hb
      refine wp_skip ?_
      replace hc := hc.drop k0
      exact hj13 can_2 surely _ _  (hf.kp rfl) hc hF
    refine wp_seq_k fun K19 h19 => cReg ?_
    refine stE hf hc rfl rfl rfl (eLdN (vs := [i6 c_.Car,i6 c_.Wide,i6 c_.Sag,i6 c_.Most,.slice c__Rides_p c_.Rides.length c__Rides_c]) ag_60 rfl rfl (cells_box (n := 5) m1 rfl)) fun a w hf hc => stP hf rfl rfl rfl (pFA fa_29_1 rfl) fun a hf => stE hf hc rfl rfl rfl (eLd1 sc_3 rfl (cell_box m0 rfl)) fun a w hf hc => stE hf hc rfl rfl rfl (eC (v := .bool (ref11_beyond c_ r_1.Hi)) (vs := [.agg #[i6 c_.Car,i6 c_.Wide,i6 c_.Sag,i6 c_.Most,.slice c__Rides_p c_.Rides.length c__Rides_c],i6 r_1.Hi]) (caps := []) en_100 rfl rfl rfl rfl (fun w hc => ref11_beyond_ok c_ r_1.Hi h_c__Rides hc rfl)) fun a w hf hc => stP hf rfl rfl rfl (pM rfl) fun a hf => stCut 8 (fun a w => Has 64 a [(1,pq b_1),(6,i6 can),(7,i6 surely),(8,i6 i_1),(9,i6 minute),(10,pq b_2),(34,.agg #[i6 c_.Car,i6 c_.Wide,i6 c_.Sag,i6 c_.Most,.slice c__Rides_p c_.Rides.length c__Rides_c]),(35,.pointer (some ⟨b_2,1,none⟩)),(36,i6 r_1.Hi),(37,.bool (ref11_beyond c_ r_1.Hi)),(38,.bool (ref11_beyond c_ r_1.Hi)),(46,.bool ((ref11_beyond c_ r_1.Hi) && ((can == (-1)) || (decide (minute < can)))))] ∧ Ctx G (.box b_2 [i6 r_1.Lo,i6 r_1.Hi] 29::.box b_1 [i6 c_.Car,i6 c_.Wide,i6 c_.Sag,i6 c_.Most,.slice c__Rides_p c_.Rides.length c__Rides_c] 60::Lf) w) ?_ ?_
    ·cases hb : (ref11_beyond c_ r_1.Hi)
     ·rw [hb] at hf
      refine stS hf rfl rfl rfl fun a hf => stS hf rfl rfl rfl fun a hf => stS hf rfl rfl rfl fun a hf => stS hf rfl rfl rfl fun a hf => stS hf rfl rfl rfl fun a hf => stS hf rfl rfl rfl fun a hf => stS hf rfl rfl rfl fun a hf => stP hf rfl rfl rfl (pPf rfl rfl) fun a hf => cNil ⟨hf.kp rfl,hc⟩
     ·rw [hb] at hf
      refine stP hf rfl rfl rfl (pM rfl) fun a hf => stP hf rfl rfl rfl (pEq rfl rfl) fun a hf => stP hf rfl rfl rfl (pM rfl) fun a hf => stCut 4 (fun a w => Has 64 a [(1,pq b_1),(6,i6 can),(7,i6 surely),(8,i6 i_1),(9,i6 minute),(10,pq b_2),(34,.agg #[i6 c_.Car,i6 c_.Wide,i6 c_.Sag,i6 c_.Most,.slice c__Rides_p c_.Rides.length c__Rides_c]),(35,.pointer (some ⟨b_2,1,none⟩)),(36,i6 r_1.Hi),(37,.bool true),(38,.bool true),(39,i6 can),(40,.bool (can == (-1))),(41,.bool (can == (-1))),(45,.bool ((can == (-1)) || (decide (minute < can))))] ∧ Ctx G (.box b_2 [i6 r_1.Lo,i6 r_1.Hi] 29::.box b_1 [i6 c_.Car,i6 c_.Wide,i6 c_.Sag,i6 c_.Most,.slice c__Rides_p c_.Rides.length c__Rides_c] 60::Lf) w) ?_ ?_
      ·cases hb : (can == (-1))
       ·rw [hb] at hf
        refine stP hf rfl rfl rfl (pM rfl) fun a hf => stP hf rfl rfl rfl (pM rfl) fun a hf => stP hf rfl rfl rfl (pLt rfl rfl) fun a hf => stP hf rfl rfl rfl (pPf rfl rfl) fun a hf => cNil ⟨hf.kp rfl,hc⟩
       ·rw [hb] at hf
        refine stS hf rfl rfl rfl fun a hf => stS hf rfl rfl rfl fun a hf => stS hf rfl rfl rfl fun a hf => stP hf rfl rfl rfl (pPt rfl rfl) fun a hf => cNil ⟨hf.kp rfl,hc⟩
      intro a w ⟨hf,hc⟩
      refine stP hf rfl rfl rfl (pPt rfl rfl) fun a hf => cNil ⟨hf.kp rfl,hc⟩
    intro a w ⟨hf,hc⟩
    refine cNil ?_
    refine h19 _ _ ?_
    refine cCond (b := ((ref11_beyond c_ r_1.Hi) && ((can == (-1)) || (decide (minute < can))))) hf rfl (fun hb => ?_) (fun hb => ?_)
    ·replace hF := condT hb hF
     clear hb
     refine cReg ?_
     refine stP hf rfl rfl rfl (pM rfl) fun a hf => stP hf rfl rfl rfl (pA rfl) fun a hf => cNil ?_
     exact hj17 minute _ _  (hf.kp rfl) hc hF
    ·replace hF := condF hb hF
     clear hb
     refine wp_skip ?_
     exact hj17 can _ _  (hf.kp rfl) hc hF
   refine wp_seq_k fun K20 h20 => cReg ?_
   refine stP hf rfl rfl rfl (pM rfl) fun a hf => stP hf rfl rfl rfl (pGe rfl rfl) fun a hf => cNil ?_
   refine h20 _ _ ?_
   refine cCond (b := (decide (0 ≤ i_1))) hf rfl (fun hb => ?_) (fun hb => ?_)
   ·replace hF := condT hb hF
    clear hb
    refine cReg ?_
    refine stP hf rfl rfl rfl (pFA fa_60_4 rfl) fun a hf => stE hf hc rfl rfl rfl (eLd1 sc_58 rfl (cell_box m0 rfl)) fun a w hf hc => stP hf rfl rfl rfl (pM rfl) fun a hf => ?_
    obtain ⟨e_1,he_1,hF⟩ := bnd_some hF
    obtain ⟨b_3,o,qa,qp⟩ := h_c__Rides.atm he_1
    refine stP hf rfl rfl rfl (pIA Tryz.underlying58 sz_156 rfl rfl qa) fun a hf => stP hf rfl rfl rfl (pFA fa_156_0 rfl) fun a hf => stE hf hc rfl rfl rfl (eLd1 sc_3 rfl (cell_pc (j := 0) qp rfl)) fun a w hf hc => stP hf rfl rfl rfl (pA rfl) fun a hf => cNil ?_
    exact hj15 e_1.From _ _  (hf.kp rfl) hc hF
   ·replace hF := condF hb hF
    clear hb
    refine wp_skip ?_
    exact hj15 0 _ _  (hf.kp rfl) hc hF
  ·replace hF := condF hb hF
   clear hb
   refine wp_exit ?_
   refine xThen ?_
   refine xThen ?_
   have he := sj hF
   rw [← he] at hfin9
   refine cHit ?_
   exact hr9 _ _ _ hfin9 ⟨hf.kp rfl,hc⟩

def ref11_Queue_j33 (N : Nat) (k : Int) (best_1 : Int) : Option (Step (Int × Int) (Step ((List Int) × Int × (List ref11_Ride)) ((List Int) × Int))) :=
 some (.cont (best_1,W (k + 1)))
def ref11_Queue_j45 (N : Nat) (j_1 : Int) (good_1 : Bool) : Option (Step (Bool × Int) (Step (Int × Int) (Step ((List Int) × Int × (List ref11_Ride)) ((List Int) × Int)))) :=
 some (.cont (good_1,W (j_1 + 1)))
def ref11_Queue_j47 (N : Nat) (c_ : ref11_Cable) (x : List ref11_Ride) (e_1 : ref11_Ride) (at_ : Int) (good : Bool) (j_1 : Int) (minute : Int) : Option (Step (Bool × Int) (Step (Int × Int) (Step ((List Int) × Int × (List ref11_Ride)) ((List Int) × Int)))) :=
 Option.bind (cond ((decide (at_ ≤ minute)) && (decide (minute < (W (at_ + e_1.Long))))) (Option.bind (ref11_load N (⟨c_.Car,c_.Wide,c_.Sag,c_.Most,x⟩ : ref11_Cable) minute) fun r_1 =>
 some (ref11_beyond c_ (W (r_1.Hi + e_1.Weight.Hi)))) (some false)) fun t_1 =>
 cond t_1
 (ref11_Queue_j45 N j_1 false)
 (ref11_Queue_j45 N j_1 good)
def ref11_Queue_b41 (N : Nat) (c_ : ref11_Cable) (x : List ref11_Ride) (e_1 : ref11_Ride) (at_ : Int) (good : Bool) (j_1 : Int) : Option (Step (Bool × Int) (Step (Int × Int) (Step ((List Int) × Int × (List ref11_Ride)) ((List Int) × Int)))) :=
 cond (decide (j_1 < ((x.length : Nat) : Int)))
 (cond (decide (0 ≤ j_1))
 (Option.bind (getI x j_1) fun e_2 =>
 ref11_Queue_j47 N c_ x e_1 at_ good j_1 e_2.From)
 (ref11_Queue_j47 N c_ x e_1 at_ good j_1 at_))
 (some (.brk (good,j_1)))
def ref11_Queue_j35 (N : Nat) (c_ : ref11_Cable) (x : List ref11_Ride) (e_1 : ref11_Ride) (first : Int) (best : Int) (k : Int) (at_ : Int) : Option (Step (Int × Int) (Step ((List Int) × Int × (List ref11_Ride)) ((List Int) × Int))) :=
 cond ((decide (at_ < first)) || ((best != (-1)) && (decide (best ≤ at_))))
 (ref11_Queue_j33 N k best)
 (Option.bind (loopO (fun s41 => ref11_Queue_b41 N c_ x e_1 at_ s41.1 s41.2) N (true,(-1))) fun x41 =>
 exK x41 (fun s41 => cond s41.1
 (ref11_Queue_j33 N k at_)
 (ref11_Queue_j33 N k best)) some)
def ref11_Queue_b28 (N : Nat) (c_ : ref11_Cable) (x : List ref11_Ride) (e_1 : ref11_Ride) (first : Int) (best : Int) (k : Int) : Option (Step (Int × Int) (Step ((List Int) × Int × (List ref11_Ride)) ((List Int) × Int))) :=
 cond (decide (k < ((x.length : Nat) : Int)))
 (cond (decide (0 ≤ k))
 (Option.bind (getI x k) fun e_3 =>
 Option.bind (getI x k) fun e_4 =>
 ref11_Queue_j35 N c_ x e_1 first best k (W (e_3.From + e_4.Long)))
 (ref11_Queue_j35 N c_ x e_1 first best k first))
 (some (.brk (best,k)))
def ref11_Queue_j24 (N : Nat) (c_ : ref11_Cable) (out : List Int) (i_2 : Int) (x : List ref11_Ride) (e_1 : ref11_Ride) (first : Int) : Option (Step ((List Int) × Int × (List ref11_Ride)) ((List Int) × Int)) :=
 Option.bind (loopO (fun s28 => ref11_Queue_b28 N c_ x e_1 first s28.1 s28.2) N ((-1),(-1))) fun x28 =>
 exK x28 (fun s28 => Option.bind (room (x).length) fun un =>
 Option.bind (room ((x ++ [(⟨s28.1,e_1.Long,e_1.Weight⟩ : ref11_Ride)])).length) fun un_1 =>
 Option.bind (room ((out ++ [s28.1])).length) fun un_2 =>
 some (.cont ((out ++ [s28.1]),W (i_2 + 1),(x ++ [(⟨s28.1,e_1.Long,e_1.Weight⟩ : ref11_Ride)])))) some
def ref11_Queue_b17 (N : Nat) (c_ : ref11_Cable) (out : List Int) (i_2 : Int) (x : List ref11_Ride) : Option (Step ((List Int) × Int × (List ref11_Ride)) ((List Int) × Int)) :=
 cond (decide (i_2 < ((c_.Rides.length : Nat) : Int)))
 (Option.bind (getI c_.Rides i_2) fun e_1 =>
 Option.bind (cond (decide (0 < i_2)) (Option.bind (getI out (W (i_2 - 1))) fun e_5 =>
 some (decide (e_1.From < e_5))) (some false)) fun t_2 =>
 cond t_2
 (Option.bind (getI out (W (i_2 - 1))) fun e_6 =>
 ref11_Queue_j24 N c_ out i_2 x e_1 e_6)
 (ref11_Queue_j24 N c_ out i_2 x e_1 e_1.From))
 (some (.brk (out,i_2,x)))
def ref11_Queue_b11 (N : Nat) (c_ : ref11_Cable) (i_1 : Int) : Option (Step (Int) ((List Int) × Int)) :=
 cond (decide (i_1 < ((c_.Rides.length : Nat) : Int)))
 (Option.bind (getI c_.Rides i_1) fun e_7 =>
 cond (ref11_beyond c_ (W (c_.Car + e_7.Weight.Hi)))
 (some (.ret (([] : List Int),6)))
 (some (.cont (W (i_1 + 1)))))
 (some (.brk i_1))
def ref11_Queue (N : Nat) (c_ : ref11_Cable) : Option ((List Int) × Int) :=
 Option.bind (ref11_CheckCable N c_) fun r =>
 cond (r != 0)
 (some (([] : List Int),r))
 (cond (ref11_beyond c_ c_.Car)
 (some (([] : List Int),6))
 (Option.bind (loopO (fun s11 => ref11_Queue_b11 N c_ s11) N 0) fun x11 =>
 exK x11 (fun s11 => Option.bind (loopO (fun s17 => ref11_Queue_b17 N c_ s17.1 s17.2.1 s17.2.2) N (([] : List Int),0,([] : List ref11_Ride))) fun x17 =>
 exK x17 (fun s17 => some (s17.1,0)) some) some))
theorem ref11_Queue_ok {N : Nat} {G : Pers} {Lf : List Ent} {w : World} (c_ : ref11_Cable) {c__Rides_p : Option Addr} {c__Rides_c : Nat} (h_c__Rides : Rd G 4 c__Rides_p c__Rides_c (c_.Rides.map enc_ref11_Ride)) (hc : Ctx G (Lf) w) {res : (List Int) × Int} (hF : ref11_Queue N c_ = some res) : Calls Tryz.prog 39 #[.agg #[i6 c_.Car,i6 c_.Wide,i6 c_.Sag,i6 c_.Most,.slice c__Rides_p c_.Rides.length c__Rides_c]] w (fun e w => ∃ (p'1 : Option Addr) (c'1 : Nat),e = .returned (.tuple #[.slice p'1 res.1.length c'1,i6 res.2]) ∧ Ctx G (.row p'1 c'1 (res.1.map encI_i64) 3 1::Lf) w) := by
 unfold ref11_Queue at hF
 refine fnIn (args := [.agg #[i6 c_.Car,i6 c_.Wide,i6 c_.Sag,i6 c_.Most,.slice c__Rides_p c_.Rides.length c__Rides_c]]) Tryz.func39 rfl Tryz.ntmps39 rfl fun a hf => wp_seq_k fun K1 h1 => cReg ?_
 refine stBx (cs := [i6 c_.Car,i6 c_.Wide,i6 c_.Sag,i6 c_.Most,.slice c__Rides_p c_.Rides.length c__Rides_c]) hf hc rfl rfl rfl rfl fun b_1 a w hf hc => stP hf rfl rfl rfl (pA rfl) fun a hf => stP hf rfl rfl rfl (pA rfl) fun a hf => cNil ?_
 refine h1 _ _ ?_
 refine wp_seq_k fun K2 h2 => wp_seq_k fun K3 h3 => cReg ?_
 refine stE hf hc rfl rfl rfl (eLdN (vs := [i6 c_.Car,i6 c_.Wide,i6 c_.Sag,i6 c_.Most,.slice c__Rides_p c_.Rides.length c__Rides_c]) ag_60 rfl rfl (cells_box (n := 5) m0 rfl)) fun a w hf hc => ?_
 obtain ⟨r,hr,hF⟩ := bnd_some hF
 refine stE hf hc rfl rfl rfl (eC (v := i6 r) (vs := [.agg #[i6 c_.Car,i6 c_.Wide,i6 c_.Sag,i6 c_.Most,.slice c__Rides_p c_.Rides.length c__Rides_c]]) (caps := []) en_32 rfl rfl rfl rfl (fun w hc => ref11_CheckCable_ok c_ h_c__Rides hc hr)) fun a w hf hc => stP hf rfl rfl rfl (pA rfl) fun a hf => cNil ?_
 refine h3 _ _ ?_
 refine wp_seq_k fun K4 h4 => cReg ?_
 refine stP hf rfl rfl rfl (pM rfl) fun a hf => stP hf rfl rfl rfl (pNe rfl rfl) fun a hf => cNil ?_
 refine h4 _ _ ?_
 refine cCond (b := (r != 0)) hf rfl (fun hb => ?_) (fun hb => ?_)
 ·replace hF := condT hb hF
  clear hb
  refine wp_seq_k fun K5 h5 => cReg ?_
  refine stP hf rfl rfl rfl (pM rfl) fun a hf => stP hf rfl rfl rfl (pA rfl) fun a hf => stP hf rfl rfl rfl (pA rfl) fun a hf => cNil ?_
  refine h5 _ _ ?_
  refine wp_ret ?_
  refine xThenR ?_
  obtain rfl := sj hF
  replace hc := hc.nilRow 3 1
  replace hc := hc.drop k1
  exact fnOut2 (by simp) rfl Tryz.results39 hf hc (show look _ 2 = _ from rfl) (show look _ 3 = _ from rfl) ⟨none,0,rfl,hc⟩
 ·replace hF := condF hb hF
  clear hb
  refine wp_skip ?_
  refine h2 _ _ ?_
  refine wp_seq_k fun K6 h6 => wp_seq_k fun K7 h7 => cReg ?_
  refine stE hf hc rfl rfl rfl (eLdN (vs := [i6 c_.Car,i6 c_.Wide,i6 c_.Sag,i6 c_.Most,.slice c__Rides_p c_.Rides.length c__Rides_c]) ag_60 rfl rfl (cells_box (n := 5) m0 rfl)) fun a w hf hc => stP hf rfl rfl rfl (pFA fa_60_0 rfl) fun a hf => stE hf hc rfl rfl rfl (eLd1 sc_3 rfl (cell_box m0 rfl)) fun a w hf hc => stE hf hc rfl rfl rfl (eC (v := .bool (ref11_beyond c_ c_.Car)) (vs := [.agg #[i6 c_.Car,i6 c_.Wide,i6 c_.Sag,i6 c_.Most,.slice c__Rides_p c_.Rides.length c__Rides_c],i6 c_.Car]) (caps := []) en_100 rfl rfl rfl rfl (fun w hc => ref11_beyond_ok c_ c_.Car h_c__Rides hc rfl)) fun a w hf hc => cNil ?_
  refine h7 _ _ ?_
  refine cCond (b := (ref11_beyond c_ c_.Car)) hf rfl (fun hb => ?_) (fun hb => ?_)
  ·replace hF := condT hb hF
   clear hb
   refine wp_seq_k fun K8 h8 => cReg ?_
   refine stP hf rfl rfl rfl (pA rfl) fun a hf => stP hf rfl rfl rfl (pA rfl) fun a hf => cNil ?_
   refine h8 _ _ ?_
   refine wp_ret ?_
   refine xThenR ?_
   obtain rfl := sj hF
   replace hc := hc.nilRow 3 1
   replace hc := hc.drop k1
   exact fnOut2 (by simp) rfl Tryz.results39 hf hc (show look _ 2 = _ from rfl) (show look _ 3 = _ from rfl) ⟨none,0,rfl,hc⟩
  ·replace hF := condF hb hF
   clear hb
   refine wp_skip ?_
   refine h6 _ _ ?_
   refine wp_seq_k fun K9 h9 => wp_seq_k fun K10 h10 => cReg ?_
   refine stP hf rfl rfl rfl (pA rfl) fun a hf => cNil ?_
   refine h10 _ _ ?_
   refine wp_block ?_
   obtain ⟨x11,hx11,hF⟩ := bnd_some hF
   let S11 : Int → Act → World → Prop := (fun (zz : Int) a w => Has 168 a [(1,pq b_1),(5,i6 zz)] ∧ Ctx G (.box b_1 [i6 c_.Car,i6 c_.Wide,i6 c_.Sag,i6 c_.Most,.slice c__Rides_p c_.Rides.length c__Rides_c] 60::Lf) w)
   have hr11 : ∀ (zz : Int) a w,x11 = .go zz → S11 zz a w → K9 a w := by
    rintro i_1 a w rfl ⟨hf,hc⟩
    replace hF := exK_go hF
    refine h9 _ _ ?_
    refine wp_seq_k fun K12 h12 => cReg ?_
    refine stE hf hc rfl rfl rfl (eLdN (vs := [i6 c_.Car,i6 c_.Wide,i6 c_.Sag,i6 c_.Most,.slice c__Rides_p c_.Rides.length c__Rides_c]) ag_60 rfl rfl (cells_box (n := 5) m0 rfl)) fun a w hf hc => stAl (cs := [i6 0,i6 0,i6 0,i6 0,.slice none 0 0]) hf hc rfl rfl zr_60 rfl fun b_2 a w hf hc => stSt (vs := [i6 c_.Car,i6 c_.Wide,i6 c_.Sag,i6 c_.Most,.slice c__Rides_p c_.Rides.length c__Rides_c]) hf hc rfl rfl rfl rfl sz_60 rfl rfl u0 fun w hc => cNil ?_
    refine h12 _ _ ?_
    refine wp_seq_k fun K13 h13 => cReg ?_
    refine stP hf rfl rfl rfl (pFA fa_60_4 rfl) fun a hf => stSt (vs := [.slice none 0 0]) hf hc rfl rfl rfl rfl sz_58 rfl rfl u0 fun w hc => cNil ?_
    refine h13 _ _ ?_
    refine wp_seq_k fun K14 h14 => cReg ?_
    refine stP hf rfl rfl rfl (pA rfl) fun a hf => cNil ?_
    refine h14 _ _ ?_
    refine wp_seq_k fun K15 h15 => wp_seq_k fun K16 h16 => cReg ?_
    refine stP hf rfl rfl rfl (pA rfl) fun a hf => cNil ?_
    refine h16 _ _ ?_
    refine wp_block ?_
    obtain ⟨x17,hx17,hF⟩ := bnd_some hF
    let S17 : ((List Int) × Int × (List ref11_Ride)) → Act → World → Prop := (fun (zz : (List Int) × Int × (List ref11_Ride)) a w => ∃ (p_1 : Option Addr) (c_1 : Nat) (p_2 : Option Addr) (c_2 : Nat),Has 168 a [(1,pq b_1),(6,pq b_2),(7,.slice p_1 zz.1.length c_1),(8,i6 zz.2.1)] ∧ Ctx G (.row p_2 c_2 (zz.2.2.map enc_ref11_Ride) 156 4::.row p_1 c_1 (zz.1.map encI_i64) 3 1::.box b_2 [i6 c_.Car,i6 c_.Wide,i6 c_.Sag,i6 c_.Most,.slice p_2 zz.2.2.length c_2] 60::.box b_1 [i6 c_.Car,i6 c_.Wide,i6 c_.Sag,i6 c_.Most,.slice c__Rides_p c_.Rides.length c__Rides_c] 60::Lf) w)
    have hr17 : ∀ (zz : (List Int) × Int × (List ref11_Ride)) a w,x17 = .go zz → S17 zz a w → K15 a w := by
     rintro ⟨out,i_2,x⟩ a w rfl ⟨p_1,c_1,p_2,c_2,hf,hc⟩
     replace hF := exK_go hF
     refine h15 _ _ ?_
     refine wp_seq_k fun K18 h18 => cReg ?_
     refine stP hf rfl rfl rfl (pM rfl) fun a hf => stP hf rfl rfl rfl (pA rfl) fun a hf => stP hf rfl rfl rfl (pA rfl) fun a hf => cNil ?_
     refine h18 _ _ ?_
     refine wp_ret ?_
     obtain rfl := sj hF
     replace hc := hc.drop k3
     replace hc := hc.drop k2
     replace hc := hc.drop k0
     exact fnOut2 (by simp) rfl Tryz.results39 hf hc (show look _ 2 = _ from rfl) (show look _ 3 = _ from rfl) ⟨p_1,c_1,rfl,hc⟩
    have ho17 : ∀ r,x17 = .out r → r = res := by
     rintro r rfl
     exact sj hF
    replace hc := hc.nilRow 3 1
    replace hc := hc.nilRow 156 4
    refine cLoop N (loopW (S := S17) (x := x17) ?_ N (([] : List Int),0,([] : List ref11_Ride)) _ _ ⟨none,0,none,0,hf.kp rfl,hc⟩ hx17)
    clear hF hf hc
    rintro ⟨out,i_2,x⟩ st17 a w KB17 ⟨p_1,c_1,p_2,c_2,hf,hc⟩ hF hfin17 hK17
    unfold ref11_Queue_b17 at hF
    refine wp_seq_k fun K19 h19 => wp_seq_k fun K20 h20 => cReg ?_
    refine stP hf rfl rfl rfl (pM rfl) fun a hf => stP hf rfl rfl rfl (pFA fa_60_4 rfl) fun a hf => stE hf hc rfl rfl rfl (eLd1 sc_58 rfl (cell_box m3 rfl)) fun a w hf hc => stP hf rfl rfl rfl (pLenS Tryz.underlying58 rfl) fun a hf => stP hf rfl rfl rfl (pLt rfl rfl) fun a hf => cNil ?_
    refine h20 _ _ ?_
    refine cCond (b := (decide (i_2 < ((c_.Rides.length : Nat) : Int)))) hf rfl (fun hb => ?_) (fun hb => ?_)
    ·replace hF := condT hb hF
     clear hb
     refine wp_skip ?_
     refine h19 _ _ ?_
     refine wp_seq_k fun K21 h21 => wp_block ?_
     refine wp_seq_k fun K22 h22 => cReg ?_
     refine stP hf rfl rfl rfl (pFA fa_60_4 rfl) fun a hf => stE hf hc rfl rfl rfl (eLd1 sc_58 rfl (cell_box m3 rfl)) fun a w hf hc => stP hf rfl rfl rfl (pM rfl) fun a hf => ?_
     obtain ⟨e_1,he_1,hF⟩ := bnd_some hF
     obtain ⟨b_3,o,qa,qp⟩ := h_c__Rides.atm he_1
     refine stP hf rfl rfl rfl (pIA Tryz.underlying58 sz_156 rfl rfl qa) fun a hf => stE hf hc rfl rfl rfl (eLdN (vs := [i6 e_1.From,i6 e_1.Long,i6 e_1.Weight.Lo,i6 e_1.Weight.Hi]) ag_156 rfl rfl (cells_pc qp (n := 4) (o' := 0) rfl)) fun a w hf hc => stAl (cs := [i6 0,i6 0,i6 0,i6 0]) hf hc rfl rfl zr_156 rfl fun b_4 a w hf hc => stSt (vs := [i6 e_1.From,i6 e_1.Long,i6 e_1.Weight.Lo,i6 e_1.Weight.Hi]) hf hc rfl rfl rfl rfl sz_156 rfl rfl u0 fun w hc => cNil ?_
     refine h22 _ _ ?_
     refine wp_seq_k fun K23 h23 => cReg ?_
     refine stP hf rfl rfl rfl (pFA fa_156_0 rfl) fun a hf => stE hf hc rfl rfl rfl (eLd1 sc_3 rfl (cell_box m0 rfl)) fun a w hf hc => stP hf rfl rfl rfl (pA rfl) fun a hf => cNil ?_
     refine h23 _ _ ?_
     refine wp_seq_k fun K24 h24 => ?_
     have hj24 : ∀ (first : Int) (p_3 : Option Addr) (c_3 : Nat) a w,Has 168 a [(1,pq b_1),(6,pq b_2),(7,.slice p_3 out.length c_3),(8,i6 i_2),(9,pq b_4),(10,i6 first)] → Ctx G (.box b_4 [i6 e_1.From,i6 e_1.Long,i6 e_1.Weight.Lo,i6 e_1.Weight.Hi] 156::.row p_2 c_2 (x.map enc_ref11_Ride) 156 4::.row p_3 c_3 (out.map encI_i64) 3 1::.box b_2 [i6 c_.Car,i6 c_.Wide,i6 c_.Sag,i6 c_.Most,.slice p_2 x.length c_2] 60::.box b_1 [i6 c_.Car,i6 c_.Wide,i6 c_.Sag,i6 c_.Most,.slice c__Rides_p c_.Rides.length c__Rides_c] 60::Lf) w → ref11_Queue_j24 N c_ out i_2 x e_1 first = some st17 → K24 a w := by
      repeat (clear hF)
      repeat (clear hc)
      repeat (clear hf)
      intro first p_3 c_3 a w hf hc hF
      unfold ref11_Queue_j24 at hF
      refine h24 _ _ ?_
      refine wp_seq_k fun K25 h25 => cReg ?_
      refine stP hf rfl rfl rfl (pA rfl) fun a hf => cNil ?_
      refine h25 _ _ ?_
      refine wp_seq_k fun K26 h26 => wp_seq_k fun K27 h27 => cReg ?_
      refine stP hf rfl rfl rfl (pA rfl) fun a hf => cNil ?_
      refine h27 _ _ ?_
      refine wp_block ?_
      obtain ⟨x28,hx28,hF⟩ := bnd_some hF
      let S28 : (Int × Int) → Act → World → Prop := (fun (zz : Int × Int) a w => ∃ (p_4 : Option Addr) (c_4 : Nat),Has 168 a [(1,pq b_1),(6,pq b_2),(7,.slice p_3 out.length c_3),(8,i6 i_2),(9,pq b_4),(10,i6 first),(11,i6 zz.1),(12,i6 zz.2)] ∧ Ctx G (.box b_4 [i6 e_1.From,i6 e_1.Long,i6 e_1.Weight.Lo,i6 e_1.Weight.Hi] 156::.row p_4 c_4 (x.map enc_ref11_Ride) 156 4::.row p_3 c_3 (out.map encI_i64) 3 1::.box b_2 [i6 c_.Car,i6 c_.Wide,i6 c_.Sag,i6 c_.Most,.slice p_4 x.length c_4] 60::.box b_1 [i6 c_.Car,i6 c_.Wide,i6 c_.Sag,i6 c_.Most,.slice c__Rides_p c_.Rides.length c__Rides_c] 60::Lf) w)
      have hr28 : ∀ (zz : Int × Int) a w,x28 = .go zz → S28 zz a w → K26 a w := by
       rintro ⟨best,k⟩ a w rfl ⟨p_4,c_4,hf,hc⟩
       replace hF := exK_go hF
       refine h26 _ _ ?_
       refine wp_seq_k fun K29 h29 => cReg ?_
       refine stP hf rfl rfl rfl (pM rfl) fun a hf => stP hf rfl rfl rfl (pFA fa_156_0 rfl) fun a hf => stSt (vs := [i6 best]) hf hc rfl rfl rfl rfl sz_3 rfl rfl u0 fun w hc => cNil ?_
       refine h29 _ _ ?_
       refine wp_seq_k fun K30 h30 => ?_
       obtain ⟨un,hun,hF⟩ := bnd_some hF
       obtain ⟨un_1,hun_1,hF⟩ := bnd_some hF
       replace hc := hc.nilRow 0 0
       replace hc := hc.nilRow 0 0
       refine regionE (fun θ => [⟨none,none,1,pq b_1⟩,⟨none,none,6,pq b_2⟩,⟨none,none,7,.slice p_3 out.length c_3⟩,⟨none,none,8,i6 i_2⟩,⟨none,none,9,pq b_4⟩,⟨none,none,11,i6 best⟩,⟨some 0,none,155,.slice (some ⟨(θ 0).b,0,none⟩) 0 0⟩,⟨some 1,none,156,.pointer (some ⟨b_2,4,none⟩)⟩,⟨some 2,none,157,.slice p_4 x.length c_4⟩,⟨some 3,none,158,.slice ((θ 24).p) x.length ((θ 24).c)⟩,⟨some 4,none,159,.agg #[i6 best,i6 e_1.Long,i6 e_1.Weight.Lo,i6 e_1.Weight.Hi]⟩,⟨some 5,none,160,.slice (some ⟨(θ 40).b,0,none⟩) 1 1⟩,⟨some 6,none,161,.slice ((θ 48).p) ((x ++ [(⟨best,e_1.Long,e_1.Weight⟩ : ref11_Ride)]).length) ((θ 48).c)⟩,⟨some 7,none,162,.pointer (some ⟨b_2,4,none⟩)⟩]) (fun E θ => (bif E 5 then .row (some ⟨(θ 40).b,0,none⟩) 1 (([(⟨best,e_1.Long,e_1.Weight⟩ : ref11_Ride)] : List ref11_Ride).map enc_ref11_Ride) 156 4 else .row none 0 [] 0 0)::(bif E 6 then .row ((θ 48).p) ((θ 48).c) ((x ++ [(⟨best,e_1.Long,e_1.Weight⟩ : ref11_Ride)]).map enc_ref11_Ride) 156 4 else bif E 3 then .row ((θ 24).p) ((θ 24).c) (x.map enc_ref11_Ride) 156 4 else bif E 0 then .row (some ⟨(θ 0).b,0,none⟩) 0 (([] : List ref11_Ride).map enc_ref11_Ride) 156 4 else .row none 0 [] 0 0)::.box b_4 [i6 best,i6 e_1.Long,i6 e_1.Weight.Lo,i6 e_1.Weight.Hi] 156::.row p_4 c_4 (x.map enc_ref11_Ride) 156 4::.row p_3 c_3 (out.map encI_i64) 3 1::(bif E 8 then .box b_2 [i6 c_.Car,i6 c_.Wide,i6 c_.Sag,i6 c_.Most,.slice ((θ 48).p) ((x ++ [(⟨best,e_1.Long,e_1.Weight⟩ : ref11_Ride)]).length) ((θ 48).c)] 60 else .box b_2 [i6 c_.Car,i6 c_.Wide,i6 c_.Sag,i6 c_.Most,.slice p_4 x.length c_4] 60)::.box b_1 [i6 c_.Car,i6 c_.Wide,i6 c_.Sag,i6 c_.Most,.slice c__Rides_p c_.Rides.length c__Rides_c] 60::Lf) [(3,0),(6,3),(8,2),(8,6)] (fun a w => ∃ (b_7 : Nat) (p_7 : Option Addr) (c_7 : Nat),Has 168 a [(1,pq b_1),(6,pq b_2),(7,.slice p_3 out.length c_3),(8,i6 i_2),(11,i6 best)] ∧ Ctx G (.row (some ⟨b_7,0,none⟩) 1 (([(⟨best,e_1.Long,e_1.Weight⟩ : ref11_Ride)] : List ref11_Ride).map enc_ref11_Ride) 156 4::.row p_7 c_7 ((x ++ [(⟨best,e_1.Long,e_1.Weight⟩ : ref11_Ride)]).map enc_ref11_Ride) 156 4::.box b_4 [i6 best,i6 e_1.Long,i6 e_1.Weight.Lo,i6 e_1.Weight.Hi] 156::.row p_4 c_4 (x.map enc_ref11_Ride) 156 4::.row p_3 c_3 (out.map encI_i64) 3 1::.box b_2 [i6 c_.Car,i6 c_.Wide,i6 c_.Sag,i6 c_.Most,.slice p_7 ((x ++ [(⟨best,e_1.Long,e_1.Weight⟩ : ref11_Ride)]).length) c_7] 60::.box b_1 [i6 c_.Car,i6 c_.Wide,i6 c_.Sag,i6 c_.Most,.slice c__Rides_p c_.Rides.length c__Rides_c] 60::Lf) w) follows_mx (by kernel_rfl) (by kernel_rfl) (HasE.of hf ⟨rfl,rfl,rfl,rfl,rfl,rfl,trivial,trivial,trivial,trivial,trivial,trivial,trivial,trivial,trivial⟩) hc ⟨?_,?_,?_,?_,?_,?_,?_,?_,?_,trivial⟩ ?_ ?_
       ·intro E θ a w hD hi hp he hc
        have e3 := hD.f 0 rfl hi
        have e6 := hD.f 1 rfl e3
        try dsimp only at hc
        rw [hi,e3,e6] at hc
        have hf := he.h0
        refine stBS (rows := ([] : List ref11_Ride).map enc_ref11_Ride) (vs := []) hf hc rfl rfl sl_58 rfl trivial rfl rfl fun b_5 a w hf hc => cNil ?_
        refine xThenN ?_
        intro ds u hau
        replace hc := hc.drop k2
        replace hc := hc.pick k0
        replace hc := hc.pick k1
        refine ⟨(setT θ 0 ⟨b_5,none,0,(fun _ => (none,0))⟩),he.put hi hau hf rfl [] trivial ⟨qq,qq,qq,qq,qq,qq,qq,qq,qq,qq,qq,qq,qq,qq,trivial⟩,?_⟩
        try dsimp only
        rw [updE_self E 0,updE_fls 0 e3 rfl,updE_fls 0 e6 rfl]
        exact hc
       ·intro E θ a w hD hi hp he hc
        have hf := he.h0
        replace hf := hf.more he 1 rfl onT
        refine stP hf rfl rfl rfl (pFA fa_60_4 rfl) fun a hf => cNil ?_
        refine xThenN ?_
        intro ds u hau
        refine ⟨θ,he.put0 hi hau hf rfl 7 rfl rfl,?_⟩
        exact hc
       ·intro E θ a w hD hi hp he hc
        have e1 := hp.of (k := 1) rfl
        have e8 := hD.f 2 rfl hi
        try dsimp only at hc
        rw [e8] at hc
        have hf := he.h0
        replace hf := hf.more he 7 rfl (onP e1)
        refine stE hf hc rfl rfl rfl (eLd1 sc_58 rfl (cell_box m5 rfl)) fun a w hf hc => cNil ?_
        refine xThenN ?_
        intro ds u hau
        refine ⟨θ,he.put0 hi hau hf rfl 8 rfl rfl,?_⟩
        try dsimp only
        rw [updE_fls 2 e8 rfl]
        exact hc
       ·intro E θ a w hD hi hp he hc
        have e0 := hp.of (k := 0) rfl
        have e2 := hp.of (k := 2) rfl
        have e6 := hD.f 1 rfl hi
        try dsimp only at hc
        rw [e0,hi,e6] at hc
        have hf := he.h0
        replace hf := hf.more he 6 rfl (onP e0)
        replace hf := hf.more he 8 rfl (onP e2)
        refine stApm (xs := ([] : List ref11_Ride)) (ys := x) hf hc rfl rfl sl_58 rfl rfl rfl rfl rfl one_enc_ref11_Ride (src_row hc m3) (fun _ _ => u1) (by simpa using room_spec hun) fun p_5 c_5 a w hf hc => cNil ?_
        refine xThenN ?_
        intro ds u hau
        refine ⟨(setT θ 24 ⟨0,p_5,c_5,(fun _ => (none,0))⟩),he.put hi hau hf rfl [] trivial ⟨qq,qq,qq,qq,qq,qq,qq,qq,qq,qq,qq,qq,qq,qq,trivial⟩,?_⟩
        try dsimp only
        rw [updE_tru 3 e0,updE_self E 3,updE_fls 3 e6 rfl]
        exact hc
       ·intro E θ a w hD hi hp he hc
        have hf := he.h0
        replace hf := hf.more he 4 rfl onT
        refine stE hf hc rfl rfl rfl (eLdN (vs := [i6 best,i6 e_1.Long,i6 e_1.Weight.Lo,i6 e_1.Weight.Hi]) ag_156 rfl rfl (cells_box (n := 4) m2 rfl)) fun a w hf hc => cNil ?_
        refine xThenN ?_
        intro ds u hau
        refine ⟨θ,he.put0 hi hau hf rfl 10 rfl rfl,?_⟩
        exact hc
       ·intro E θ a w hD hi hp he hc
        have e4 := hp.of (k := 4) rfl
        try dsimp only at hc
        rw [hi] at hc
        have hf := he.h0
        replace hf := hf.more he 10 rfl (onP e4)
        refine stBS (rows := ([(⟨best,e_1.Long,e_1.Weight⟩ : ref11_Ride)] : List ref11_Ride).map enc_ref11_Ride) (vs := [(0,.agg #[i6 best,i6 e_1.Long,i6 e_1.Weight.Lo,i6 e_1.Weight.Hi])]) hf hc rfl rfl sl_58 rfl ⟨rfl,rfl,rfl,trivial⟩ rfl rfl fun b_6 a w hf hc => cNil ?_
        refine xThenN ?_
        intro ds u hau
        replace hc := hc.drop k1
        refine ⟨(setT θ 40 ⟨b_6,none,0,(fun _ => (none,0))⟩),he.put hi hau hf rfl [] trivial ⟨qq,qq,qq,qq,qq,qq,qq,qq,qq,qq,qq,qq,qq,qq,trivial⟩,?_⟩
        try dsimp only
        rw [updE_self E 5]
        exact hc
       ·intro E θ a w hD hi hp he hc
        have e3 := hp.of (k := 3) rfl
        have e5 := hp.of (k := 5) rfl
        have e0 := hD.t 0 rfl e3
        have e8 := hD.f 3 rfl hi
        try dsimp only at hc
        rw [e5,e0,e3,hi,e8] at hc
        have hf := he.h0
        replace hf := hf.more he 9 rfl (onP e3)
        replace hf := hf.more he 11 rfl (onP e5)
        refine stApm (xs := x) (ys := ([(⟨best,e_1.Long,e_1.Weight⟩ : ref11_Ride)] : List ref11_Ride)) hf hc rfl rfl sl_58 rfl rfl rfl rfl rfl one_enc_ref11_Ride (src_row hc m0) (fun _ _ => u1) (by simpa using room_spec hun_1) fun p_6 c_6 a w hf hc => cNil ?_
        refine xThenN ?_
        intro ds u hau
        refine ⟨(setT θ 48 ⟨0,p_6,c_6,(fun _ => (none,0))⟩),he.put hi hau hf rfl [] trivial ⟨qq,qq,qq,qq,qq,qq,qq,qq,qq,qq,qq,qq,qq,qq,trivial⟩,?_⟩
        try dsimp only
        rw [updE_tru 6 e5,updE_tru 6 e0,updE_tru 6 e3,updE_self E 6,updE_fls 6 e8 rfl]
        exact hc
       ·intro E θ a w hD hi hp he hc
        have hf := he.h0
        replace hf := hf.more he 1 rfl onT
        refine stP hf rfl rfl rfl (pFA fa_60_4 rfl) fun a hf => cNil ?_
        refine xThenN ?_
        intro ds u hau
        refine ⟨θ,he.put0 hi hau hf rfl 13 rfl rfl,?_⟩
        exact hc
       ·intro E θ a w hD hi hp he hc
        have e6 := hp.of (k := 6) rfl
        have e7 := hp.of (k := 7) rfl
        try dsimp only at hc
        rw [hi] at hc
        have hf := he.h0
        replace hf := hf.more he 12 rfl (onP e6)
        replace hf := hf.more he 13 rfl (onP e7)
        refine stSt (vs := [.slice ((θ 48).p) ((x ++ [(⟨best,e_1.Long,e_1.Weight⟩ : ref11_Ride)]).length) ((θ 48).c)]) hf hc rfl rfl rfl rfl sz_58 rfl rfl u5 fun w hc => cNil ?_
        refine xThenN ?_
        intro ds u hau
        refine ⟨θ,he.stay0 hi hau hf rfl,?_⟩
        try dsimp only
        rw [updE_self E 8]
        exact hc
       ·intro E θ a w hall he hc
        have hf := he.h0
        have e0 := hall 0 rfl
        have e3 := hall 3 rfl
        have e5 := hall 5 rfl
        have e6 := hall 6 rfl
        have e8 := hall 8 rfl
        replace hf := hf.more he 5 rfl (onT)
        replace hf := hf.more he 3 rfl (onT)
        replace hf := hf.more he 2 rfl (onT)
        replace hf := hf.more he 1 rfl (onT)
        replace hf := hf.more he 0 rfl (onT)
        try dsimp only at hc
        rw [e0,e3,e5,e6,e8] at hc
        exact ⟨(θ 40).b,(θ 48).p,(θ 48).c,hf.kp rfl,hc⟩
       rintro a w ⟨b_7,p_7,c_7,hf,hc⟩
       refine h30 _ _ ?_
       refine cReg ?_
       refine stP hf rfl rfl rfl (pM rfl) fun a hf => stP hf rfl rfl rfl (pM rfl) fun a hf => stBS (rows := ([best] : List Int).map encI_i64) (vs := [(0,i6 best)]) hf hc rfl rfl sl_25 rfl ⟨rfl,rfl,rfl,trivial⟩ rfl rfl fun b_8 a w hf hc => ?_
       obtain ⟨un_2,hun_2,hF⟩ := bnd_some hF
       refine stApm (xs := out) (ys := ([best] : List Int)) hf hc rfl rfl sl_25 rfl rfl rfl rfl rfl one_encI_i64 (src_row hc m0) (fun _ _ => u5) (by simpa using room_spec hun_2) fun p_8 c_8 a w hf hc => stP hf rfl rfl rfl (pA rfl) fun a hf => cNil ?_
       refine h21 _ _ ?_
       refine cReg ?_
       refine stP hf rfl rfl rfl (pM rfl) fun a hf => stP hf rfl rfl rfl (pAdd rfl rfl) fun a hf => stP hf rfl rfl rfl (pA rfl) fun a hf => cNil ?_
       replace hc := hc.drop k4
       replace hc := hc.drop k3
       replace hc := hc.drop k1
       replace hc := hc.drop k0
       exact hK17 ((out ++ [best]),W (i_2 + 1),(x ++ [(⟨best,e_1.Long,e_1.Weight⟩ : ref11_Ride)])) _ _ (sj hF).symm ⟨p_8,c_8,p_7,c_7,hf.kp rfl,hc⟩
      have ho28 : ∀ r,x28 = .out r → r = st17 := by
       rintro r rfl
       exact sj hF
      refine cLoop N (loopW (S := S28) (x := x28) ?_ N ((-1),(-1)) _ _ ⟨p_2,c_2,hf.kp rfl,hc⟩ hx28)
      clear hF hf hc
      rintro ⟨best,k⟩ st28 a w KB28 ⟨p_4,c_4,hf,hc⟩ hF hfin28 hK28
      unfold ref11_Queue_b28 at hF
      refine wp_seq_k fun K31 h31 => wp_seq_k fun K32 h32 => cReg ?_
      refine stP hf rfl rfl rfl (pM rfl) fun a hf => stP hf rfl rfl rfl (pFA fa_60_4 rfl) fun a hf => stE hf hc rfl rfl rfl (eLd1 sc_58 rfl (cell_box m3 rfl)) fun a w hf hc => stP hf rfl rfl rfl (pLenS Tryz.underlying58 rfl) fun a hf => stP hf rfl rfl rfl (pLt rfl rfl) fun a hf => cNil ?_
      refine h32 _ _ ?_
      refine cCond (b := (decide (k < ((x.length : Nat) : Int)))) hf rfl (fun hb => ?_) (fun hb => ?_)
      ·replace hF := condT hb hF
       clear hb
       refine wp_skip ?_
       refine h31 _ _ ?_
       refine wp_seq_k fun K33 h33 => ?_
       have hj33 : ∀ (best_1 : Int) (p_9 : Option Addr) (c_9 : Nat) a w,Has 168 a [(1,pq b_1),(6,pq b_2),(7,.slice p_3 out.length c_3),(8,i6 i_2),(9,pq b_4),(10,i6 first),(11,i6 best_1),(12,i6 k)] → Ctx G (.box b_4 [i6 e_1.From,i6 e_1.Long,i6 e_1.Weight.Lo,i6 e_1.Weight.Hi] 156::.row p_9 c_9 (x.map enc_ref11_Ride) 156 4::.row p_3 c_3 (out.map encI_i64) 3 1::.box b_2 [i6 c_.Car,i6 c_.Wide,i6 c_.Sag,i6 c_.Most,.slice p_9 x.length c_9] 60::.box b_1 [i6 c_.Car,i6 c_.Wide,i6 c_.Sag,i6 c_.Most,.slice c__Rides_p c_.Rides.length c__Rides_c] 60::Lf) w → ref11_Queue_j33 N k best_1 = some st28 → K33 a w := by
        repeat (clear hF)
        repeat (clear hc)
        repeat (clear hf)
        intro best_1 p_9 c_9 a w hf hc hF
        unfold ref11_Queue_j33 at hF
        refine h33 _ _ ?_
        refine cReg ?_
        refine stP hf rfl rfl rfl (pM rfl) fun a hf => stP hf rfl rfl rfl (pAdd rfl rfl) fun a hf => stP hf rfl rfl rfl (pA rfl) fun a hf => cNil ?_
        exact hK28 (best_1,W (k + 1)) _ _ (sj hF).symm ⟨p_9,c_9,hf.kp rfl,hc⟩
       refine wp_block ?_
       refine wp_seq_k fun K34 h34 => cReg ?_
       refine stP hf rfl rfl rfl (pM rfl) fun a hf => stP hf rfl rfl rfl (pA rfl) fun a hf => cNil ?_
       refine h34 _ _ ?_
       refine wp_seq_k fun K35 h35 => ?_
       have hj35 : ∀ (at_ : Int) (p_10 : Option Addr) (c_10 : Nat) a w,Has 168 a [(1,pq b_1),(6,pq b_2),(7,.slice p_3 out.length c_3),(8,i6 i_2),(9,pq b_4),(10,i6 first),(11,i6 best),(12,i6 k),(13,i6 at_)] → Ctx G (.box b_4 [i6 e_1.From,i6 e_1.Long,i6 e_1.Weight.Lo,i6 e_1.Weight.Hi] 156::.row p_10 c_10 (x.map enc_ref11_Ride) 156 4::.row p_3 c_3 (out.map encI_i64) 3 1::.box b_2 [i6 c_.Car,i6 c_.Wide,i6 c_.Sag,i6 c_.Most,.slice p_10 x.length c_10] 60::.box b_1 [i6 c_.Car,i6 c_.Wide,i6 c_.Sag,i6 c_.Most,.slice c__Rides_p c_.Rides.length c__Rides_c] 60::Lf) w → ref11_Queue_j35 N c_ x e_1 first best k at_ = some st28 → K35 a w := by
        repeat (clear hF)
        repeat (clear hc)
        repeat (clear hf)
        intro at_ p_10 c_10 a w hf hc hF
        unfold ref11_Queue_j35 at hF
        refine h35 _ _ ?_
        refine wp_seq_k fun K36 h36 => wp_seq_k fun K37 h37 => cReg ?_
        refine stP hf rfl rfl rfl (pM rfl) fun a hf => stP hf rfl rfl rfl (pM rfl) fun a hf => stP hf rfl rfl rfl (pLt rfl rfl) fun a hf => stP hf rfl rfl rfl (pM rfl) fun a hf => stCut 8 (fun a w => Has 168 a [(1,pq b_1),(6,pq b_2),(7,.slice p_3 out.length c_3),(8,i6 i_2),(9,pq b_4),(10,i6 first),(11,i6 best),(12,i6 k),(13,i6 at_),(100,i6 at_),(101,i6 first),(102,.bool (decide (at_ < first))),(103,.bool (decide (at_ < first))),(111,.bool ((decide (at_ < first)) || ((best != (-1)) && (decide (best ≤ at_)))))] ∧ Ctx G (.box b_4 [i6 e_1.From,i6 e_1.Long,i6 e_1.Weight.Lo,i6 e_1.Weight.Hi] 156::.row p_10 c_10 (x.map enc_ref11_Ride) 156 4::.row p_3 c_3 (out.map encI_i64) 3 1::.box b_2 [i6 c_.Car,i6 c_.Wide,i6 c_.Sag,i6 c_.Most,.slice p_10 x.length c_10] 60::.box b_1 [i6 c_.Car,i6 c_.Wide,i6 c_.Sag,i6 c_.Most,.slice c__Rides_p c_.Rides.length c__Rides_c] 60::Lf) w) ?_ ?_
        ·cases hb : (decide (at_ < first))
         ·rw [hb] at hf
          refine stP hf rfl rfl rfl (pM rfl) fun a hf => stP hf rfl rfl rfl (pNe rfl rfl) fun a hf => stP hf rfl rfl rfl (pM rfl) fun a hf => stCut 4 (fun a w => Has 168 a [(1,pq b_1),(6,pq b_2),(7,.slice p_3 out.length c_3),(8,i6 i_2),(9,pq b_4),(10,i6 first),(11,i6 best),(12,i6 k),(13,i6 at_),(100,i6 at_),(101,i6 first),(102,.bool false),(103,.bool false),(104,i6 best),(105,.bool (best != (-1))),(106,.bool (best != (-1))),(110,.bool ((best != (-1)) && (decide (best ≤ at_))))] ∧ Ctx G (.box b_4 [i6 e_1.From,i6 e_1.Long,i6 e_1.Weight.Lo,i6 e_1.Weight.Hi] 156::.row p_10 c_10 (x.map enc_ref11_Ride) 156 4::.row p_3 c_3 (out.map encI_i64) 3 1::.box b_2 [i6 c_.Car,i6 c_.Wide,i6 c_.Sag,i6 c_.Most,.slice p_10 x.length c_10] 60::.box b_1 [i6 c_.Car,i6 c_.Wide,i6 c_.Sag,i6 c_.Most,.slice c__Rides_p c_.Rides.length c__Rides_c] 60::Lf) w) ?_ ?_
          ·cases hb : (best != (-1))
           ·rw [hb] at hf
            refine stS hf rfl rfl rfl fun a hf => stS hf rfl rfl rfl fun a hf => stS hf rfl rfl rfl fun a hf => stP hf rfl rfl rfl (pPf rfl rfl) fun a hf => cNil ⟨hf.kp rfl,hc⟩
           ·rw [hb] at hf
            refine stP hf rfl rfl rfl (pM rfl) fun a hf => stP hf rfl rfl rfl (pM rfl) fun a hf => stP hf rfl rfl rfl (pGe rfl rfl) fun a hf => stP hf rfl rfl rfl (pPt rfl rfl) fun a hf => cNil ⟨hf.kp rfl,hc⟩
          intro a w ⟨hf,hc⟩
          refine stP hf rfl rfl rfl (pPf rfl rfl) fun a hf => cNil ⟨hf.kp rfl,hc⟩
         ·rw [hb] at hf
          refine stS hf rfl rfl rfl fun a hf => stS hf rfl rfl rfl fun a hf => stS hf rfl rfl rfl fun a hf => stS hf rfl rfl rfl fun a hf => stS hf rfl rfl rfl fun a hf => stS hf rfl rfl rfl fun a hf => stS hf rfl rfl rfl fun a hf => stP hf rfl rfl rfl (pPt rfl rfl) fun a hf => cNil ⟨hf.kp rfl,hc⟩
        intro a w ⟨hf,hc⟩
        refine cNil ?_
        refine h37 _ _ ?_
        refine cCond (b := ((decide (at_ < first)) || ((best != (-1)) && (decide (best ≤ at_))))) hf rfl (fun hb => ?_) (fun hb => ?_)
        ·replace hF := condT hb hF
         clear hb
         refine wp_exit ?_
         refine xThen ?_
         refine cHit ?_
         exact hj33 best p_10 c_10 _ _  (hf.kp rfl) hc hF
        ·replace hF := condF hb hF
         clear hb
         refine wp_skip ?_
         refine h36 _ _ ?_
         refine wp_seq_k fun K38 h38 => cReg ?_
         refine stP hf rfl rfl rfl (pA rfl) fun a hf => cNil ?_
         refine h38 _ _ ?_
         refine wp_seq_k fun K39 h39 => wp_seq_k fun K40 h40 => cReg ?_
         refine stP hf rfl rfl rfl (pA rfl) fun a hf => cNil ?_
         refine h40 _ _ ?_
         refine wp_block ?_
         obtain ⟨x41,hx41,hF⟩ := bnd_some hF
         let S41 : (Bool × Int) → Act → World → Prop := (fun (zz : Bool × Int) a w => ∃ (p_11 : Option Addr) (c_11 : Nat),Has 168 a [(1,pq b_1),(6,pq b_2),(7,.slice p_3 out.length c_3),(8,i6 i_2),(9,pq b_4),(10,i6 first),(11,i6 best),(12,i6 k),(13,i6 at_),(14,.bool zz.1),(15,i6 zz.2)] ∧ Ctx G (.box b_4 [i6 e_1.From,i6 e_1.Long,i6 e_1.Weight.Lo,i6 e_1.Weight.Hi] 156::.row p_11 c_11 (x.map enc_ref11_Ride) 156 4::.row p_3 c_3 (out.map encI_i64) 3 1::.box b_2 [i6 c_.Car,i6 c_.Wide,i6 c_.Sag,i6 c_.Most,.slice p_11 x.length c_11] 60::.box b_1 [i6 c_.Car,i6 c_.Wide,i6 c_.Sag,i6 c_.Most,.slice c__Rides_p c_.Rides.length c__Rides_c] 60::Lf) w)
         have hr41 : ∀ (zz : Bool × Int) a w,x41 = .go zz → S41 zz a w → K39 a w := by
          rintro ⟨good,j_1⟩ a w rfl ⟨p_11,c_11,hf,hc⟩
          replace hF := exK_go hF
          refine h39 _ _ ?_
          refine wp_seq_k fun K42 h42 => cReg ?_
          refine stP hf rfl rfl rfl (pM rfl) fun a hf => cNil ?_
          refine h42 _ _ ?_
          refine cCond (b := good) hf rfl (fun hb => ?_) (fun hb => ?_)
          ·replace hF := condT hb hF
           clear hb
           refine cReg ?_
           refine stP hf rfl rfl rfl (pM rfl) fun a hf => stP hf rfl rfl rfl (pA rfl) fun a hf => cNil ?_
           exact hj33 at_ p_11 c_11 _ _  (hf.kp rfl) hc hF
          ·replace hF := condF hb hF
           clear hb
           refine wp_skip ?_
           exact hj33 best p_11 c_11 _ _  (hf.kp rfl) hc hF
         have ho41 : ∀ r,x41 = .out r → r = st28 := by
          rintro r rfl
          exact sj hF
         refine cLoop N (loopW (S := S41) (x := x41) ?_ N (true,(-1)) _ _ ⟨p_10,c_10,hf.kp rfl,hc⟩ hx41)
         clear hF hf hc
         rintro ⟨good,j_1⟩ st41 a w KB41 ⟨p_11,c_11,hf,hc⟩ hF hfin41 hK41
         unfold ref11_Queue_b41 at hF
         refine wp_seq_k fun K43 h43 => wp_seq_k fun K44 h44 => cReg ?_
         refine stP hf rfl rfl rfl (pM rfl) fun a hf => stP hf rfl rfl rfl (pFA fa_60_4 rfl) fun a hf => stE hf hc rfl rfl rfl (eLd1 sc_58 rfl (cell_box m3 rfl)) fun a w hf hc => stP hf rfl rfl rfl (pLenS Tryz.underlying58 rfl) fun a hf => stP hf rfl rfl rfl (pLt rfl rfl) fun a hf => cNil ?_
         refine h44 _ _ ?_
         refine cCond (b := (decide (j_1 < ((x.length : Nat) : Int)))) hf rfl (fun hb => ?_) (fun hb => ?_)
         ·replace hF := condT hb hF
          clear hb
          refine wp_skip ?_
          refine h43 _ _ ?_
          refine wp_seq_k fun K45 h45 => ?_
          have hj45 : ∀ (good_1 : Bool) (p_12 : Option Addr) (c_12 : Nat) a w,Has 168 a [(1,pq b_1),(6,pq b_2),(7,.slice p_3 out.length c_3),(8,i6 i_2),(9,pq b_4),(10,i6 first),(11,i6 best),(12,i6 k),(13,i6 at_),(14,.bool good_1),(15,i6 j_1)] → Ctx G (.box b_4 [i6 e_1.From,i6 e_1.Long,i6 e_1.Weight.Lo,i6 e_1.Weight.Hi] 156::.row p_12 c_12 (x.map enc_ref11_Ride) 156 4::.row p_3 c_3 (out.map encI_i64) 3 1::.box b_2 [i6 c_.Car,i6 c_.Wide,i6 c_.Sag,i6 c_.Most,.slice p_12 x.length c_12] 60::.box b_1 [i6 c_.Car,i6 c_.Wide,i6 c_.Sag,i6 c_.Most,.slice c__Rides_p c_.Rides.length c__Rides_c] 60::Lf) w → ref11_Queue_j45 N j_1 good_1 = some st41 → K45 a w := by
           repeat (clear hF)
           repeat (clear hc)
           repeat (clear hf)
           intro good_1 p_12 c_12 a w hf hc hF
           unfold ref11_Queue_j45 at hF
           refine h45 _ _ ?_
           refine cReg ?_
           refine stP hf rfl rfl rfl (pM rfl) fun a hf => stP hf rfl rfl rfl (pAdd rfl rfl) fun a hf => stP hf rfl rfl rfl (pA rfl) fun a hf => cNil ?_
           exact hK41 (good_1,W (j_1 + 1)) _ _ (sj hF).symm ⟨p_12,c_12,hf.kp rfl,hc⟩
          refine wp_block ?_
          refine wp_seq_k fun K46 h46 => cReg ?_
          refine stP hf rfl rfl rfl (pM rfl) fun a hf => stP hf rfl rfl rfl (pA rfl) fun a hf => cNil ?_
          refine h46 _ _ ?_
          refine wp_seq_k fun K47 h47 => ?_
          have hj47 : ∀ (minute : Int) (p_13 : Option Addr) (c_13 : Nat) a w,Has 168 a [(1,pq b_1),(6,pq b_2),(7,.slice p_3 out.length c_3),(8,i6 i_2),(9,pq b_4),(10,i6 first),(11,i6 best),(12,i6 k),(13,i6 at_),(14,.bool good),(15,i6 j_1),(16,i6 minute)] → Ctx G (.box b_4 [i6 e_1.From,i6 e_1.Long,i6 e_1.Weight.Lo,i6 e_1.Weight.Hi] 156::.row p_13 c_13 (x.map enc_ref11_Ride) 156 4::.row p_3 c_3 (out.map encI_i64) 3 1::.box b_2 [i6 c_.Car,i6 c_.Wide,i6 c_.Sag,i6 c_.Most,.slice p_13 x.length c_13] 60::.box b_1 [i6 c_.Car,i6 c_.Wide,i6 c_.Sag,i6 c_.Most,.slice c__Rides_p c_.Rides.length c__Rides_c] 60::Lf) w → ref11_Queue_j47 N c_ x e_1 at_ good j_1 minute = some st41 → K47 a w := by
           repeat (clear hF)
           repeat (clear hc)
           repeat (clear hf)
           intro minute p_13 c_13 a w hf hc hF
           unfold ref11_Queue_j47 at hF
           refine h47 _ _ ?_
           refine wp_seq_k fun K48 h48 => ?_
           obtain ⟨t_1,ht_1,hF⟩ := bnd_some hF
           refine cQ hc follows_mx (by kernel_rfl) ?_
           refine qE hf rfl rfl rfl (Pu.ev (pM rfl)) fun a hf => qE hf rfl rfl rfl (Pu.ev (pM rfl)) fun a hf => qE hf rfl rfl rfl (Pu.ev (pGe rfl rfl)) fun a hf => qE hf rfl rfl rfl (Pu.ev (pM rfl)) fun a hf => qCut 7 (fun a => Has 168 a [(1,pq b_1),(6,pq b_2),(7,.slice p_3 out.length c_3),(8,i6 i_2),(9,pq b_4),(10,i6 first),(11,i6 best),(12,i6 k),(13,i6 at_),(14,.bool good),(15,i6 j_1),(16,i6 minute),(128,i6 minute),(129,i6 at_),(130,.bool (decide (at_ ≤ minute))),(131,.bool (decide (at_ ≤ minute))),(138,.bool ((decide (at_ ≤ minute)) && (decide (minute < (W (at_ + e_1.Long))))))]) ?_ ?_
           ·cases hb : (decide (at_ ≤ minute))
            ·rw [hb] at hf
             refine qS hf rfl rfl rfl fun a hf => qS hf rfl rfl rfl fun a hf => qS hf rfl rfl rfl fun a hf => qS hf rfl rfl rfl fun a hf => qS hf rfl rfl rfl fun a hf => qS hf rfl rfl rfl fun a hf => qE hf rfl rfl rfl (Pu.ev (pPf rfl rfl)) fun a hf => qNil (hf.kp rfl)
            ·rw [hb] at hf
             refine qE hf rfl rfl rfl (Pu.ev (pM rfl)) fun a hf => qE hf rfl rfl rfl (Pu.ev (pM rfl)) fun a hf => qE hf rfl rfl rfl (Pu.ev (pFA fa_156_1 rfl)) fun a hf => qE hf rfl rfl rfl (eLd1 sc_3 rfl (cell_box m0 rfl)) fun a hf => qE hf rfl rfl rfl (Pu.ev (pAdd rfl rfl)) fun a hf => qE hf rfl rfl rfl (Pu.ev (pLt rfl rfl)) fun a hf => qE hf rfl rfl rfl (Pu.ev (pPt rfl rfl)) fun a hf => qNil (hf.kp rfl)
           intro a hf
           refine qE hf rfl rfl rfl (Pu.ev (pM rfl)) fun a hf => qCut 11 (fun a => Has 168 a [(1,pq b_1),(6,pq b_2),(7,.slice p_3 out.length c_3),(8,i6 i_2),(9,pq b_4),(10,i6 first),(11,i6 best),(12,i6 k),(13,i6 at_),(14,.bool good),(15,i6 j_1),(16,i6 minute),(128,i6 minute),(129,i6 at_),(130,.bool (decide (at_ ≤ minute))),(131,.bool (decide (at_ ≤ minute))),(138,.bool ((decide (at_ ≤ minute)) && (decide (minute < (W (at_ + e_1.Long)))))),(139,.bool ((decide (at_ ≤ minute)) && (decide (minute < (W (at_ + e_1.Long)))))),(150,.bool t_1)]) ?_ ?_
           ·cases hb : ((decide (at_ ≤ minute)) && (decide (minute < (W (at_ + e_1.Long)))))
            ·rw [hb] at hf
             have hF := condF hb ht_1
             obtain rfl := sj hF
             refine qS hf rfl rfl rfl fun a hf => qS hf rfl rfl rfl fun a hf => qS hf rfl rfl rfl fun a hf => qS hf rfl rfl rfl fun a hf => qS hf rfl rfl rfl fun a hf => qS hf rfl rfl rfl fun a hf => qS hf rfl rfl rfl fun a hf => qS hf rfl rfl rfl fun a hf => qS hf rfl rfl rfl fun a hf => qS hf rfl rfl rfl fun a hf => qE hf rfl rfl rfl (Pu.ev (pPf rfl rfl)) fun a hf => qNil (hf.kp rfl)
            ·rw [hb] at hf
             have hF := condT hb ht_1
             obtain ⟨r_1,hr_1,hF⟩ := bnd_some hF
             refine qE hf rfl rfl rfl (eLdN (vs := [i6 c_.Car,i6 c_.Wide,i6 c_.Sag,i6 c_.Most,.slice c__Rides_p c_.Rides.length c__Rides_c]) ag_60 rfl rfl (cells_box (n := 5) m4 rfl)) fun a hf => qE hf rfl rfl rfl (eLdN (vs := [i6 c_.Car,i6 c_.Wide,i6 c_.Sag,i6 c_.Most,.slice p_13 x.length c_13]) ag_60 rfl rfl (cells_box (n := 5) m3 rfl)) fun a hf => qE hf rfl rfl rfl (Pu.ev (pM rfl)) fun a hf => qE hf rfl rfl rfl (eC (v := .agg #[i6 r_1.Lo,i6 r_1.Hi]) (vs := [.agg #[i6 c_.Car,i6 c_.Wide,i6 c_.Sag,i6 c_.Most,.slice p_13 x.length c_13],i6 minute]) (caps := []) en_94 rfl rfl rfl rfl (fun w hc => by obtain ⟨G1,hle1,hrd1,hc,hth1⟩ := lend hc k1; exact (ref11_load_ok (⟨c_.Car,c_.Wide,c_.Sag,c_.Most,x⟩ : ref11_Cable) minute hrd1 hc hr_1).mono fun e w h => ⟨h.1,((hth1 _ _ h.2).unpick k1)⟩)) fun a hf => qE hf rfl rfl rfl (Pu.ev (pField1 Tryz.underlying29 rfl sc_3 rfl rfl)) fun a hf => qE hf rfl rfl rfl (Pu.ev (pFA fa_156_2 rfl)) fun a hf => qE hf rfl rfl rfl (Pu.ev (pFA fa_29_1 rfl)) fun a hf => qE hf rfl rfl rfl (eLd1 sc_3 rfl (cell_box m0 rfl)) fun a hf => qE hf rfl rfl rfl (Pu.ev (pAdd rfl rfl)) fun a hf => qE hf rfl rfl rfl (eC (v := .bool (ref11_beyond c_ (W (r_1.Hi + e_1.Weight.Hi)))) (vs := [.agg #[i6 c_.Car,i6 c_.Wide,i6 c_.Sag,i6 c_.Most,.slice c__Rides_p c_.Rides.length c__Rides_c],i6 (W (r_1.Hi + e_1.Weight.Hi))]) (caps := []) en_100 rfl rfl rfl rfl (fun w hc => ref11_beyond_ok c_ (W (r_1.Hi + e_1.Weight.Hi)) h_c__Rides hc rfl)) fun a hf => qE hf rfl rfl rfl (Pu.ev (pPt rfl rfl)) fun a hf => ?_
             obtain rfl := sj hF
             exact qNil (hf.kp rfl)
           intro a hf
           intro w hc
           refine h48 _ _ ?_
           refine cCond (b := t_1) hf rfl (fun hb => ?_) (fun hb => ?_)
           ·replace hF := condT hb hF
            clear hb
            refine cReg ?_
            refine stP hf rfl rfl rfl (pA rfl) fun a hf => cNil ?_
            exact hj45 false p_13 c_13 _ _  (hf.kp rfl) hc hF
           ·replace hF := condF hb hF
            clear hb
            refine wp_skip ?_
            exact hj45 good p_13 c_13 _ _  (hf.kp rfl) hc hF
          refine wp_seq_k fun K49 h49 => cReg ?_
          refine stP hf rfl rfl rfl (pM rfl) fun a hf => stP hf rfl rfl rfl (pGe rfl rfl) fun a hf => cNil ?_
          refine h49 _ _ ?_
          refine cCond (b := (decide (0 ≤ j_1))) hf rfl (fun hb => ?_) (fun hb => ?_)
          ·replace hF := condT hb hF
           clear hb
           refine cReg ?_
           refine stP hf rfl rfl rfl (pFA fa_60_4 rfl) fun a hf => stE hf hc rfl rfl rfl (eLd1 sc_58 rfl (cell_box m3 rfl)) fun a w hf hc => stP hf rfl rfl rfl (pM rfl) fun a hf => ?_
           obtain ⟨e_2,he_2,hF⟩ := bnd_some hF
           obtain ⟨g,rfl,qa_1,qr⟩ := row_atm hc m1 he_2
           refine stP hf rfl rfl rfl (pIA Tryz.underlying58 sz_156 rfl rfl qa_1) fun a hf => stP hf rfl rfl rfl (pFA fa_156_0 rfl) fun a hf => stE hf hc rfl rfl rfl (eLd1 sc_3 rfl (cell_row (sz := 4) (i := j_1.toNat) (j := 0) m1 qr rfl)) fun a w hf hc => stP hf rfl rfl rfl (pA rfl) fun a hf => cNil ?_
           exact hj47 e_2.From (some ⟨g,0,none⟩) c_11 _ _  (hf.kp rfl) hc hF
          ·replace hF := condF hb hF
           clear hb
           refine wp_skip ?_
           exact hj47 at_ p_11 c_11 _ _  (hf.kp rfl) hc hF
         ·replace hF := condF hb hF
          clear hb
          refine wp_exit ?_
          refine xThen ?_
          refine xThen ?_
          have he := sj hF
          rw [← he] at hfin41
          refine cHit ?_
          exact hr41 _ _ _ hfin41 ⟨p_11,c_11,hf.kp rfl,hc⟩
       refine wp_seq_k fun K50 h50 => cReg ?_
       refine stP hf rfl rfl rfl (pM rfl) fun a hf => stP hf rfl rfl rfl (pGe rfl rfl) fun a hf => cNil ?_
       refine h50 _ _ ?_
       refine cCond (b := (decide (0 ≤ k))) hf rfl (fun hb => ?_) (fun hb => ?_)
       ·replace hF := condT hb hF
        clear hb
        obtain ⟨e_3,he_3,hF⟩ := bnd_some hF
        obtain ⟨g_1,rfl,qa_2,qr_1⟩ := row_atm hc m1 he_3
        obtain ⟨e_4,he_4,hF⟩ := bnd_some hF
        obtain ⟨qa_3,qr_2⟩ := row_atk hc m1 he_4
        refine cQ hc follows_mx (by kernel_rfl) ?_
        refine qE hf rfl rfl rfl (Pu.ev (pFA fa_60_4 rfl)) fun a hf => qE hf rfl rfl rfl (eLd1 sc_58 rfl (cell_box m3 rfl)) fun a hf => qE hf rfl rfl rfl (Pu.ev (pM rfl)) fun a hf => qE hf rfl rfl rfl (Pu.ev (pIA Tryz.underlying58 sz_156 rfl rfl qa_2)) fun a hf => qE hf rfl rfl rfl (Pu.ev (pFA fa_156_0 rfl)) fun a hf => qE hf rfl rfl rfl (eLd1 sc_3 rfl (cell_row (sz := 4) (i := k.toNat) (j := 0) m1 qr_1 rfl)) fun a hf => qE hf rfl rfl rfl (Pu.ev (pFA fa_60_4 rfl)) fun a hf => qE hf rfl rfl rfl (eLd1 sc_58 rfl (cell_box m3 rfl)) fun a hf => qE hf rfl rfl rfl (Pu.ev (pM rfl)) fun a hf => qE hf rfl rfl rfl (Pu.ev (pIA Tryz.underlying58 sz_156 rfl rfl qa_3)) fun a hf => qE hf rfl rfl rfl (Pu.ev (pFA fa_156_1 rfl)) fun a hf => qE hf rfl rfl rfl (eLd1 sc_3 rfl (cell_row (sz := 4) (i := k.toNat) (j := 1) m1 qr_2 rfl)) fun a hf => qE hf rfl rfl rfl (Pu.ev (pAdd rfl rfl)) fun a hf => ?_
        refine qE hf rfl rfl rfl (Pu.ev (pA rfl)) fun a hf => ?_
        intro w hc
        exact hj35 (W (e_3.From + e_4.Long)) (some ⟨g_1,0,none⟩) c_4 _ _  (hf.kp rfl) hc hF
       ·replace hF := condF hb hF
        clear hb
        refine wp_skip ?_
        exact hj35 first p_4 c_4 _ _  (hf.kp rfl) hc hF
      ·replace hF := condF hb hF
       clear hb
       refine wp_exit ?_
       refine xThen ?_
       refine xThen ?_
       have he := sj hF
       rw [← he] at hfin28
       refine cHit ?_
       exact hr28 _ _ _ hfin28 ⟨p_4,c_4,hf.kp rfl,hc⟩
     refine wp_seq_k fun K51 h51 => cReg ?_
     refine stP hf rfl rfl rfl (pM rfl) fun a hf => stP hf rfl rfl rfl (pGt rfl rfl) fun a hf => stP hf rfl rfl rfl (pM rfl) fun a hf => ?_
     obtain ⟨t_2,ht_2,hF⟩ := bnd_some hF
     refine stCut 8 (fun a w => Has 168 a [(1,pq b_1),(6,pq b_2),(7,.slice p_1 out.length c_1),(8,i6 i_2),(9,pq b_4),(10,i6 e_1.From),(61,i6 i_2),(62,.bool (decide (0 < i_2))),(63,.bool (decide (0 < i_2))),(71,.bool t_2)] ∧ Ctx G (.box b_4 [i6 e_1.From,i6 e_1.Long,i6 e_1.Weight.Lo,i6 e_1.Weight.Hi] 156::.row p_2 c_2 (x.map enc_ref11_Ride) 156 4::.row p_1 c_1 (out.map encI_i64) 3 1::.box b_2 [i6 c_.Car,i6 c_.Wide,i6 c_.Sag,i6 c_.Most,.slice p_2 x.length c_2] 60::.box b_1 [i6 c_.Car,i6 c_.Wide,i6 c_.Sag,i6 c_.Most,.slice c__Rides_p c_.Rides.length c__Rides_c] 60::Lf) w) ?_ ?_
     ·cases hb : (decide (0 < i_2))
      ·rw [hb] at hf
       have hF := condF hb ht_2
       obtain rfl := sj hF
       refine stS hf rfl rfl rfl fun a hf => stS hf rfl rfl rfl fun a hf => stS hf rfl rfl rfl fun a hf => stS hf rfl rfl rfl fun a hf => stS hf rfl rfl rfl fun a hf => stS hf rfl rfl rfl fun a hf => stS hf rfl rfl rfl fun a hf => stP hf rfl rfl rfl (pPf rfl rfl) fun a hf => cNil ⟨hf.kp rfl,hc⟩
      ·rw [hb] at hf
       have hF := condT hb ht_2
       refine stP hf rfl rfl rfl (pM rfl) fun a hf => stP hf rfl rfl rfl (pM rfl) fun a hf => stP hf rfl rfl rfl (pSub rfl rfl) fun a hf => ?_
       obtain ⟨e_5,he_5,hF⟩ := bnd_some hF
       obtain ⟨g_2,rfl,qa_4,qr_3⟩ := row_atm hc m2 he_5
       refine stP hf rfl rfl rfl (pIA Tryz.underlying25 sz_3 rfl rfl qa_4) fun a hf => stE hf hc rfl rfl rfl (eLd1 sc_3 rfl (cell_row (sz := 1) (i := (W (i_2 - 1)).toNat) (j := 0) m2 qr_3 rfl)) fun a w hf hc => stP hf rfl rfl rfl (pM rfl) fun a hf => stP hf rfl rfl rfl (pGt rfl rfl) fun a hf => stP hf rfl rfl rfl (pPt rfl rfl) fun a hf => ?_
       obtain rfl := sj hF
       exact cNil ⟨hf.kp rfl,hc⟩
     intro a w ⟨hf,hc⟩
     refine cNil ?_
     refine h51 _ _ ?_
     refine cCond (b := t_2) hf rfl (fun hb => ?_) (fun hb => ?_)
     ·replace hF := condT hb hF
      clear hb
      refine cReg ?_
      refine stP hf rfl rfl rfl (pM rfl) fun a hf => stP hf rfl rfl rfl (pM rfl) fun a hf => stP hf rfl rfl rfl (pSub rfl rfl) fun a hf => ?_
      obtain ⟨e_6,he_6,hF⟩ := bnd_some hF
      obtain ⟨g_3,rfl,qa_5,qr_4⟩ := row_atm hc m2 he_6
      refine stP hf rfl rfl rfl (pIA Tryz.underlying25 sz_3 rfl rfl qa_5) fun a hf => stE hf hc rfl rfl rfl (eLd1 sc_3 rfl (cell_row (sz := 1) (i := (W (i_2 - 1)).toNat) (j := 0) m2 qr_4 rfl)) fun a w hf hc => stP hf rfl rfl rfl (pA rfl) fun a hf => cNil ?_
      exact hj24 e_6 (some ⟨g_3,0,none⟩) c_1 _ _  (hf.kp rfl) hc hF
     ·replace hF := condF hb hF
      clear hb
      refine wp_skip ?_
      exact hj24 e_1.From p_1 c_1 _ _  (hf.kp rfl) hc hF
    ·replace hF := condF hb hF
     clear hb
     refine wp_exit ?_
     refine xThen ?_
     refine xThen ?_
     have he := sj hF
     rw [← he] at hfin17
     refine cHit ?_
     exact hr17 _ _ _ hfin17 ⟨p_1,c_1,p_2,c_2,hf.kp rfl,hc⟩
   have ho11 : ∀ r,x11 = .out r → r = res := by
    rintro r rfl
    exact sj hF
   refine cLoop N (loopW (S := S11) (x := x11) ?_ N 0 _ _ ⟨hf.kp rfl,hc⟩ hx11)
   clear hF hf hc
   rintro i_1 st11 a w KB11 ⟨hf,hc⟩ hF hfin11 hK11
   unfold ref11_Queue_b11 at hF
   refine wp_seq_k fun K52 h52 => wp_seq_k fun K53 h53 => cReg ?_
   refine stP hf rfl rfl rfl (pM rfl) fun a hf => stP hf rfl rfl rfl (pFA fa_60_4 rfl) fun a hf => stE hf hc rfl rfl rfl (eLd1 sc_58 rfl (cell_box m0 rfl)) fun a w hf hc => stP hf rfl rfl rfl (pLenS Tryz.underlying58 rfl) fun a hf => stP hf rfl rfl rfl (pLt rfl rfl) fun a hf => cNil ?_
   refine h53 _ _ ?_
   refine cCond (b := (decide (i_1 < ((c_.Rides.length : Nat) : Int)))) hf rfl (fun hb => ?_) (fun hb => ?_)
   ·replace hF := condT hb hF
    clear hb
    refine wp_skip ?_
    refine h52 _ _ ?_
    refine wp_seq_k fun K54 h54 => wp_block ?_
    refine wp_seq_k fun K55 h55 => ?_
    obtain ⟨e_7,he_7,hF⟩ := bnd_some hF
    obtain ⟨b_9,o_1,qa_6,qp_1⟩ := h_c__Rides.atm he_7
    refine cQ hc follows_mx (by kernel_rfl) ?_
    refine qE hf rfl rfl rfl (eLdN (vs := [i6 c_.Car,i6 c_.Wide,i6 c_.Sag,i6 c_.Most,.slice c__Rides_p c_.Rides.length c__Rides_c]) ag_60 rfl rfl (cells_box (n := 5) m0 rfl)) fun a hf => qE hf rfl rfl rfl (Pu.ev (pFA fa_60_0 rfl)) fun a hf => qE hf rfl rfl rfl (eLd1 sc_3 rfl (cell_box m0 rfl)) fun a hf => qE hf rfl rfl rfl (Pu.ev (pFA fa_60_4 rfl)) fun a hf => qE hf rfl rfl rfl (eLd1 sc_58 rfl (cell_box m0 rfl)) fun a hf => qE hf rfl rfl rfl (Pu.ev (pM rfl)) fun a hf => qE hf rfl rfl rfl (Pu.ev (pIA Tryz.underlying58 sz_156 rfl rfl qa_6)) fun a hf => qE hf rfl rfl rfl (Pu.ev (pFA fa_156_2 rfl)) fun a hf => qE hf rfl rfl rfl (Pu.ev (pFA fa_29_1 rfl)) fun a hf => qE hf rfl rfl rfl (eLd1 sc_3 rfl (cell_pc (j := 3) qp_1 rfl)) fun a hf => qE hf rfl rfl rfl (Pu.ev (pAdd rfl rfl)) fun a hf => qE hf rfl rfl rfl (eC (v := .bool (ref11_beyond c_ (W (c_.Car + e_7.Weight.Hi)))) (vs := [.agg #[i6 c_.Car,i6 c_.Wide,i6 c_.Sag,i6 c_.Most,.slice c__Rides_p c_.Rides.length c__Rides_c],i6 (W (c_.Car + e_7.Weight.Hi))]) (caps := []) en_100 rfl rfl rfl rfl (fun w hc => ref11_beyond_ok c_ (W (c_.Car + e_7.Weight.Hi)) h_c__Rides hc rfl)) fun a hf => ?_
    intro w hc
    refine h55 _ _ ?_
    refine cCond (b := (ref11_beyond c_ (W (c_.Car + e_7.Weight.Hi)))) hf rfl (fun hb => ?_) (fun hb => ?_)
    ·replace hF := condT hb hF
     clear hb
     refine wp_seq_k fun K56 h56 => cReg ?_
     refine stP hf rfl rfl rfl (pA rfl) fun a hf => stP hf rfl rfl rfl (pA rfl) fun a hf => cNil ?_
     refine h56 _ _ ?_
     refine wp_ret ?_
     refine xBlkR ?_
     refine xThenR ?_
     refine xThenR ?_
     have he := sj hF
     rw [← he] at hfin11
     replace hF := ho11 _ hfin11
     refine xBlkR ?_
     refine xThenR ?_
     obtain rfl := hF
     replace hc := hc.nilRow 3 1
     replace hc := hc.drop k1
     exact fnOut2 (by simp) rfl Tryz.results39 hf hc (show look _ 2 = _ from rfl) (show look _ 3 = _ from rfl) ⟨none,0,rfl,hc⟩
    ·replace hF := condF hb hF
     clear hb
     refine wp_skip ?_
     refine h54 _ _ ?_
     refine cReg ?_
     refine stP hf rfl rfl rfl (pM rfl) fun a hf => stP hf rfl rfl rfl (pAdd rfl rfl) fun a hf => stP hf rfl rfl rfl (pA rfl) fun a hf => cNil ?_
     exact hK11 (W (i_1 + 1)) _ _ (sj hF).symm ⟨hf.kp rfl,hc⟩
   ·replace hF := condF hb hF
    clear hb
    refine wp_exit ?_
    refine xThen ?_
    refine xThen ?_
    have he := sj hF
    rw [← he] at hfin11
    refine cHit ?_
    exact hr11 _ _ _ hfin11 ⟨hf.kp rfl,hc⟩

def kit_Same_crew_Ride_b7 (N : Nat) (a_ : List crew_Ride) (b_ : List crew_Ride) (i_1 : Int) : Option (Step (Int) (Bool)) :=
 cond (decide (i_1 < ((a_.length : Nat) : Int)))
 (Option.bind (getI a_ i_1) fun e_1 =>
 Option.bind (getI b_ i_1) fun e_2 =>
 cond (!(e_1.From == e_2.From && e_1.Long == e_2.Long && e_1.Weight.Lo == e_2.Weight.Lo && e_1.Weight.Hi == e_2.Weight.Hi))
 (some (.ret false))
 (some (.cont (W (i_1 + 1)))))
 (some (.brk i_1))
def kit_Same_crew_Ride (N : Nat) (a_ : List crew_Ride) (b_ : List crew_Ride) : Option (Bool) :=
 cond (((a_.length : Nat) : Int) != ((b_.length : Nat) : Int))
 (some false)
 (Option.bind (loopO (fun s7 => kit_Same_crew_Ride_b7 N a_ b_ s7) N 0) fun x7 =>
 exK x7 (fun s7 => some true) some)
theorem kit_Same_crew_Ride_ok {N : Nat} {G : Pers} {Lf : List Ent} {w : World} (a_ : List crew_Ride) (b_ : List crew_Ride) {a__p : Option Addr} {a__c : Nat} {b__p : Option Addr} {b__c : Nat} (h_a_ : Rd G 4 a__p a__c (a_.map enc_crew_Ride)) (h_b_ : Rd G 4 b__p b__c (b_.map enc_crew_Ride)) (hc : Ctx G (Lf) w) {res : Bool} (hF : kit_Same_crew_Ride N a_ b_ = some res) : Calls Tryz.prog 40 #[.slice a__p a_.length a__c,.slice b__p b_.length b__c] w (fun e w => e = .returned (.bool res) ∧ Ctx G (Lf) w) := by
 unfold kit_Same_crew_Ride at hF
 refine fnIn (args := [.slice a__p a_.length a__c,.slice b__p b_.length b__c]) Tryz.func40 rfl Tryz.ntmps40 rfl fun a hf => wp_seq_k fun K1 h1 => cReg ?_
 refine stP hf rfl rfl rfl (pA rfl) fun a hf => cNil ?_
 refine h1 _ _ ?_
 refine wp_seq_k fun K2 h2 => wp_seq_k fun K3 h3 => cReg ?_
 refine stP hf rfl rfl rfl (pM rfl) fun a hf => stP hf rfl rfl rfl (pLenS Tryz.underlying52 rfl) fun a hf => stP hf rfl rfl rfl (pM rfl) fun a hf => stP hf rfl rfl rfl (pLenS Tryz.underlying52 rfl) fun a hf => stP hf rfl rfl rfl (pNe rfl rfl) fun a hf => cNil ?_
 refine h3 _ _ ?_
 refine cCond (b := (((a_.length : Nat) : Int) != ((b_.length : Nat) : Int))) hf rfl (fun hb => ?_) (fun hb => ?_)
 ·replace hF := condT hb hF
  clear hb
  refine wp_seq_k fun K4 h4 => cReg ?_
  refine stP hf rfl rfl rfl (pA rfl) fun a hf => cNil ?_
  refine h4 _ _ ?_
  refine wp_ret ?_
  refine xThenR ?_
  obtain rfl := sj hF
  exact fnOut1 (by simp) rfl Tryz.results40 hf hc (show look _ 4 = _ from rfl) ⟨rfl,hc⟩
 ·replace hF := condF hb hF
  clear hb
  refine wp_skip ?_
  refine h2 _ _ ?_
  refine wp_seq_k fun K5 h5 => wp_seq_k fun K6 h6 => cReg ?_
  refine stP hf rfl rfl rfl (pA rfl) fun a hf => cNil ?_
  refine h6 _ _ ?_
  refine wp_block ?_
  obtain ⟨x7,hx7,hF⟩ := bnd_some hF
  let S7 : Int → Act → World → Prop := (fun (zz : Int) a w => Has 26 a [(0,.slice a__p a_.length a__c),(1,.slice b__p b_.length b__c),(5,i6 zz)] ∧ Ctx G (Lf) w)
  have hr7 : ∀ (zz : Int) a w,x7 = .go zz → S7 zz a w → K5 a w := by
   rintro i_1 a w rfl ⟨hf,hc⟩
   replace hF := exK_go hF
   refine h5 _ _ ?_
   refine wp_seq_k fun K8 h8 => cReg ?_
   refine stP hf rfl rfl rfl (pA rfl) fun a hf => cNil ?_
   refine h8 _ _ ?_
   refine wp_ret ?_
   obtain rfl := sj hF
   exact fnOut1 (by simp) rfl Tryz.results40 hf hc (show look _ 4 = _ from rfl) ⟨rfl,hc⟩
  have ho7 : ∀ r,x7 = .out r → r = res := by
   rintro r rfl
   exact sj hF
  refine cLoop N (loopW (S := S7) (x := x7) ?_ N 0 _ _ ⟨hf.kp rfl,hc⟩ hx7)
  clear hF hf hc
  rintro i_1 st7 a w KB7 ⟨hf,hc⟩ hF hfin7 hK7
  unfold kit_Same_crew_Ride_b7 at hF
  refine wp_seq_k fun K9 h9 => wp_seq_k fun K10 h10 => cReg ?_
  refine stP hf rfl rfl rfl (pM rfl) fun a hf => stP hf rfl rfl rfl (pM rfl) fun a hf => stP hf rfl rfl rfl (pLenS Tryz.underlying52 rfl) fun a hf => stP hf rfl rfl rfl (pLt rfl rfl) fun a hf => cNil ?_
  refine h10 _ _ ?_
  refine cCond (b := (decide (i_1 < ((a_.length : Nat) : Int)))) hf rfl (fun hb => ?_) (fun hb => ?_)
  ·replace hF := condT hb hF
   clear hb
   refine wp_skip ?_
   refine h9 _ _ ?_
   refine wp_seq_k fun K11 h11 => wp_block ?_
   refine wp_seq_k fun K12 h12 => ?_
   obtain ⟨e_1,he_1,hF⟩ := bnd_some hF
   obtain ⟨b_1,o,qa,qp⟩ := h_a_.atm he_1
   obtain ⟨e_2,he_2,hF⟩ := bnd_some hF
   obtain ⟨b_2,o_1,qa_1,qp_1⟩ := h_b_.atm he_2
   refine cQ hc follows_mx (by kernel_rfl) ?_
   refine qE hf rfl rfl rfl (Pu.ev (pM rfl)) fun a hf => qE hf rfl rfl rfl (Pu.ev (pM rfl)) fun a hf => qE hf rfl rfl rfl (Pu.ev (pIA Tryz.underlying52 sz_72 rfl rfl qa)) fun a hf => qE hf rfl rfl rfl (eLdN (vs := [i6 e_1.From,i6 e_1.Long,i6 e_1.Weight.Lo,i6 e_1.Weight.Hi]) ag_72 rfl rfl (cells_pc qp (n := 4) (o' := 0) rfl)) fun a hf => qE hf rfl rfl rfl (Pu.ev (pM rfl)) fun a hf => qE hf rfl rfl rfl (Pu.ev (pM rfl)) fun a hf => qE hf rfl rfl rfl (Pu.ev (pIA Tryz.underlying52 sz_72 rfl rfl qa_1)) fun a hf => qE hf rfl rfl rfl (eLdN (vs := [i6 e_2.From,i6 e_2.Long,i6 e_2.Weight.Lo,i6 e_2.Weight.Hi]) ag_72 rfl rfl (cells_pc qp_1 (n := 4) (o' := 0) rfl)) fun a hf => qE hf rfl rfl rfl (Pu.ev (pNeA ge_72 rfl rfl (eqs_72 _ _ _ _ _ _ _ _))) fun a hf => ?_
   intro w hc
   refine h12 _ _ ?_
   refine cCond (b := (!(e_1.From == e_2.From && e_1.Long == e_2.Long && e_1.Weight.Lo == e_2.Weight.Lo && e_1.Weight.Hi == e_2.Weight.Hi))) hf rfl (fun hb => ?_) (fun hb => ?_)
   ·replace hF := condT hb hF
    clear hb
    refine wp_seq_k fun K13 h13 => cReg ?_
    refine stP hf rfl rfl rfl (pA rfl) fun a hf => cNil ?_
    refine h13 _ _ ?_
    refine wp_ret ?_
    refine xBlkR ?_
    refine xThenR ?_
    refine xThenR ?_
    have he := sj hF
    rw [← he] at hfin7
    replace hF := ho7 _ hfin7
    refine xBlkR ?_
    refine xThenR ?_
    obtain rfl := hF
    exact fnOut1 (by simp) rfl Tryz.results40 hf hc (show look _ 4 = _ from rfl) ⟨rfl,hc⟩
   ·replace hF := condF hb hF
    clear hb
    refine wp_skip ?_
    refine h11 _ _ ?_
    refine cReg ?_
    refine stP hf rfl rfl rfl (pM rfl) fun a hf => stP hf rfl rfl rfl (pAdd rfl rfl) fun a hf => stP hf rfl rfl rfl (pA rfl) fun a hf => cNil ?_
    exact hK7 (W (i_1 + 1)) _ _ (sj hF).symm ⟨hf.kp rfl,hc⟩
  ·replace hF := condF hb hF
   clear hb
   refine wp_exit ?_
   refine xThen ?_
   refine xThen ?_
   have he := sj hF
   rw [← he] at hfin7
   refine cHit ?_
   exact hr7 _ _ _ hfin7 ⟨hf.kp rfl,hc⟩

def law11_CrewCables (N : Nat) (c_ : crew_Cable) (minute : Int) : Option (Bool) :=
 cond (decide (35 < ((c_.Rides.length : Nat) : Int)))
 (Option.bind (law11_awake N) fun r =>
 some r)
 (Option.bind (law11_CopyCable N c_) fun r_1 =>
 Option.bind (crew_CheckCable N r_1) fun r_2 =>
 Option.bind (law11_Cable N c_) fun r_3 =>
 Option.bind (ref11_CheckCable N r_3) fun r_4 =>
 cond (r_2 != r_4)
 (some false)
 (Option.bind (crew_Load N r_1 minute) fun r_5 =>
 Option.bind (law11_Cable N c_) fun r_6 =>
 Option.bind (ref11_Load N r_6 minute) fun r_7 =>
 cond ((!(r_5.1.Lo == r_7.1.Lo && r_5.1.Hi == r_7.1.Hi)) || (r_5.2 != r_7.2))
 (some false)
 (Option.bind (crew_Beyond N r_1) fun r_8 =>
 Option.bind (law11_Cable N c_) fun r_9 =>
 Option.bind (ref11_Beyond N r_9) fun r_10 =>
 cond (((r_8.1 != r_10.1) || (r_8.2.1 != r_10.2.1)) || (r_8.2.2 != r_10.2.2))
 (some false)
 (Option.bind (crew_Queue N r_1) fun r_11 =>
 Option.bind (law11_Cable N c_) fun r_12 =>
 Option.bind (ref11_Queue N r_12) fun r_13 =>
 Option.bind (kit_Same_int N r_11.1 r_13.1) fun r_14 =>
 Option.bind (cond (((((r_14 && (r_11.2 == r_13.2)) && (r_1.Car == c_.Car)) && (r_1.Wide == c_.Wide)) && (r_1.Sag == c_.Sag)) && (r_1.Most == c_.Most)) (Option.bind (kit_Same_crew_Ride N r_1.Rides c_.Rides) fun r_15 =>
 some r_15) (some false)) fun t_1 =>
 Option.bind (cond t_1 (Option.bind (law11_awake N) fun r_16 =>
 some r_16) (some false)) fun t_2 =>
 some t_2))))
theorem law11_CrewCables_ok {N : Nat} {G : Pers} {Lf : List Ent} {w : World} (c_ : crew_Cable) (minute : Int) {c__Rides_p : Option Addr} {c__Rides_c : Nat} (h_c__Rides : Rd G 4 c__Rides_p c__Rides_c (c_.Rides.map enc_crew_Ride)) (hc : Ctx G (Lf) w) {res : Bool} (hF : law11_CrewCables N c_ minute = some res) : Calls Tryz.prog 4 #[.agg #[i6 c_.Car,i6 c_.Wide,i6 c_.Sag,i6 c_.Most,.slice c__Rides_p c_.Rides.length c__Rides_c],i6 minute] w (fun e w => e = .returned (.bool res) ∧ Ctx G (Lf) w) := by
 unfold law11_CrewCables at hF
 refine fnIn (args := [.agg #[i6 c_.Car,i6 c_.Wide,i6 c_.Sag,i6 c_.Most,.slice c__Rides_p c_.Rides.length c__Rides_c],i6 minute]) Tryz.func4 rfl Tryz.ntmps4 rfl fun a hf => wp_seq_k fun K1 h1 => cReg ?_
 refine stBx (cs := [i6 c_.Car,i6 c_.Wide,i6 c_.Sag,i6 c_.Most,.slice c__Rides_p c_.Rides.length c__Rides_c]) hf hc rfl rfl rfl rfl fun b_1 a w hf hc => stP hf rfl rfl rfl (pA rfl) fun a hf => cNil ?_
 refine h1 _ _ ?_
 refine wp_seq_k fun K2 h2 => wp_seq_k fun K3 h3 => cReg ?_
 refine stP hf rfl rfl rfl (pFA fa_54_4 rfl) fun a hf => stE hf hc rfl rfl rfl (eLd1 sc_52 rfl (cell_box m0 rfl)) fun a w hf hc => stP hf rfl rfl rfl (pLenS Tryz.underlying52 rfl) fun a hf => stP hf rfl rfl rfl (pGt rfl rfl) fun a hf => cNil ?_
 refine h3 _ _ ?_
 refine cCond (b := (decide (35 < ((c_.Rides.length : Nat) : Int)))) hf rfl (fun hb => ?_) (fun hb => ?_)
 ·replace hF := condT hb hF
  clear hb
  refine wp_seq_k fun K4 h4 => cReg ?_
  obtain ⟨r,hr,hF⟩ := bnd_some hF
  refine stE hf hc rfl rfl rfl (eC (v := .bool r) (vs := []) (caps := []) en_15 rfl rfl rfl rfl (fun w hc => law11_awake_ok hc hr)) fun a w hf hc => stP hf rfl rfl rfl (pA rfl) fun a hf => cNil ?_
  refine h4 _ _ ?_
  refine wp_ret ?_
  refine xThenR ?_
  obtain rfl := sj hF
  replace hc := hc.drop k0
  exact fnOut1 (by simp) rfl Tryz.results4 hf hc (show look _ 4 = _ from rfl) ⟨rfl,hc⟩
 ·replace hF := condF hb hF
  clear hb
  refine wp_skip ?_
  refine h2 _ _ ?_
  refine wp_seq_k fun K5 h5 => cReg ?_
  refine stE hf hc rfl rfl rfl (eLdN (vs := [i6 c_.Car,i6 c_.Wide,i6 c_.Sag,i6 c_.Most,.slice c__Rides_p c_.Rides.length c__Rides_c]) ag_54 rfl rfl (cells_box (n := 5) m0 rfl)) fun a w hf hc => ?_
  obtain ⟨r_1,hr_1,hF⟩ := bnd_some hF
  refine stC (vs := [.agg #[i6 c_.Car,i6 c_.Wide,i6 c_.Sag,i6 c_.Most,.slice c__Rides_p c_.Rides.length c__Rides_c]]) (caps := []) hf rfl rfl rfl en_30 rfl rfl rfl rfl (law11_CopyCable_ok c_ h_c__Rides hc hr_1) ?_
  rintro _ w ⟨p_1,c_1,rfl,hc⟩
  refine ⟨_,rfl,fun a hf => ?_⟩
  refine stAl (cs := [i6 0,i6 0,i6 0,i6 0,.slice none 0 0]) hf hc rfl rfl zr_54 rfl fun b_2 a w hf hc => stSt (vs := [i6 r_1.Car,i6 r_1.Wide,i6 r_1.Sag,i6 r_1.Most,.slice p_1 r_1.Rides.length c_1]) hf hc rfl rfl rfl rfl sz_54 rfl rfl u0 fun w hc => cNil ?_
  refine h5 _ _ ?_
  refine wp_seq_k fun K6 h6 => wp_seq_k fun K7 h7 => ?_
  obtain ⟨r_2,hr_2,hF⟩ := bnd_some hF
  obtain ⟨r_3,hr_3,hF⟩ := bnd_some hF
  obtain ⟨r_4,hr_4,hF⟩ := bnd_some hF
  replace hc := hc.nilRow 0 0
  refine regionE (fun θ => [⟨none,none,1,i6 minute⟩,⟨none,none,2,pq b_1⟩,⟨none,none,5,pq b_2⟩,⟨some 0,none,23,.agg #[i6 r_1.Car,i6 r_1.Wide,i6 r_1.Sag,i6 r_1.Most,.slice p_1 r_1.Rides.length c_1]⟩,⟨some 1,none,24,i6 r_2⟩,⟨some 2,none,25,.agg #[i6 c_.Car,i6 c_.Wide,i6 c_.Sag,i6 c_.Most,.slice c__Rides_p c_.Rides.length c__Rides_c]⟩,⟨some 3,none,26,.agg #[i6 r_3.Car,i6 r_3.Wide,i6 r_3.Sag,i6 r_3.Most,.slice ((θ 24).p) r_3.Rides.length ((θ 24).c)]⟩,⟨some 4,none,27,i6 r_4⟩,⟨some 5,none,28,.bool (r_2 != r_4)⟩]) (fun E θ => (bif E 3 then .row ((θ 24).p) ((θ 24).c) (r_3.Rides.map enc_ref11_Ride) 156 4 else .row none 0 [] 0 0)::.box b_2 [i6 r_1.Car,i6 r_1.Wide,i6 r_1.Sag,i6 r_1.Most,.slice p_1 r_1.Rides.length c_1] 54::.row p_1 c_1 (r_1.Rides.map enc_crew_Ride) 72 4::.box b_1 [i6 c_.Car,i6 c_.Wide,i6 c_.Sag,i6 c_.Most,.slice c__Rides_p c_.Rides.length c__Rides_c] 54::Lf) [] (fun a w => ∃ (p_3 : Option Addr) (c_3 : Nat),Has 133 a [(1,i6 minute),(2,pq b_1),(5,pq b_2),(28,.bool (r_2 != r_4))] ∧ Ctx G (.row p_3 c_3 (r_3.Rides.map enc_ref11_Ride) 156 4::.box b_2 [i6 r_1.Car,i6 r_1.Wide,i6 r_1.Sag,i6 r_1.Most,.slice p_1 r_1.Rides.length c_1] 54::.row p_1 c_1 (r_1.Rides.map enc_crew_Ride) 72 4::.box b_1 [i6 c_.Car,i6 c_.Wide,i6 c_.Sag,i6 c_.Most,.slice c__Rides_p c_.Rides.length c__Rides_c] 54::Lf) w) follows_mx (by kernel_rfl) (by kernel_rfl) (HasE.of hf ⟨rfl,rfl,rfl,trivial,trivial,trivial,trivial,trivial,trivial,trivial⟩) hc ⟨?_,?_,?_,?_,?_,?_,trivial⟩ ?_ ?_
  ·intro E θ a w hD hi hp he hc
   have hf := he.h0
   replace hf := hf.more he 2 rfl onT
   refine stE hf hc rfl rfl rfl (eLdN (vs := [i6 r_1.Car,i6 r_1.Wide,i6 r_1.Sag,i6 r_1.Most,.slice p_1 r_1.Rides.length c_1]) ag_54 rfl rfl (cells_box (n := 5) m1 rfl)) fun a w hf hc => cNil ?_
   refine xThenN ?_
   intro ds u hau
   refine ⟨θ,he.put0 hi hau hf rfl 3 rfl rfl,?_⟩
   exact hc
  ·intro E θ a w hD hi hp he hc
   have e0 := hp.of (k := 0) rfl
   have hf := he.h0
   replace hf := hf.more he 3 rfl (onP e0)
   refine stE hf hc rfl rfl rfl (eC (v := i6 r_2) (vs := [.agg #[i6 r_1.Car,i6 r_1.Wide,i6 r_1.Sag,i6 r_1.Most,.slice p_1 r_1.Rides.length c_1]]) (caps := []) en_31 rfl rfl rfl rfl (fun w hc => by obtain ⟨G1,hle1,hrd1,hc,hth1⟩ := lend hc k2; exact (crew_CheckCable_ok r_1 hrd1 hc hr_2).mono fun e w h => ⟨h.1,((hth1 _ _ h.2).unpick k2)⟩)) fun a w hf hc => cNil ?_
   refine xThenN ?_
   intro ds u hau
   refine ⟨θ,he.put0 hi hau hf rfl 4 rfl rfl,?_⟩
   exact hc
  ·intro E θ a w hD hi hp he hc
   have hf := he.h0
   replace hf := hf.more he 1 rfl onT
   refine stE hf hc rfl rfl rfl (eLdN (vs := [i6 c_.Car,i6 c_.Wide,i6 c_.Sag,i6 c_.Most,.slice c__Rides_p c_.Rides.length c__Rides_c]) ag_54 rfl rfl (cells_box (n := 5) m3 rfl)) fun a w hf hc => cNil ?_
   refine xThenN ?_
   intro ds u hau
   refine ⟨θ,he.put0 hi hau hf rfl 5 rfl rfl,?_⟩
   exact hc
  ·intro E θ a w hD hi hp he hc
   have e2 := hp.of (k := 2) rfl
   try dsimp only at hc
   rw [hi] at hc
   have hf := he.h0
   replace hf := hf.more he 5 rfl (onP e2)
   refine stC (vs := [.agg #[i6 c_.Car,i6 c_.Wide,i6 c_.Sag,i6 c_.Most,.slice c__Rides_p c_.Rides.length c__Rides_c]]) (caps := []) hf rfl rfl rfl en_33 rfl rfl rfl rfl (law11_Cable_ok c_ h_c__Rides hc hr_3) ?_
   rintro _ w ⟨p_2,c_2,rfl,hc⟩
   refine ⟨_,rfl,fun a hf => ?_⟩
   refine cNil ?_
   refine xThenN ?_
   intro ds u hau
   replace hc := hc.drop k1
   refine ⟨(setT θ 24 ⟨0,p_2,c_2,(fun _ => (none,0))⟩),he.put hi hau hf rfl [] trivial ⟨qq,qq,qq,qq,qq,qq,qq,qq,qq,trivial⟩,?_⟩
   try dsimp only
   rw [updE_self E 3]
   exact hc
  ·intro E θ a w hD hi hp he hc
   have e3 := hp.of (k := 3) rfl
   try dsimp only at hc
   rw [e3] at hc
   have hf := he.h0
   replace hf := hf.more he 6 rfl (onP e3)
   refine stE hf hc rfl rfl rfl (eC (v := i6 r_4) (vs := [.agg #[i6 r_3.Car,i6 r_3.Wide,i6 r_3.Sag,i6 r_3.Most,.slice ((θ 24).p) r_3.Rides.length ((θ 24).c)]]) (caps := []) en_32 rfl rfl rfl rfl (fun w hc => by obtain ⟨G1,hle1,hrd1,hc,hth1⟩ := lend hc k0; exact (ref11_CheckCable_ok r_3 hrd1 hc hr_4).mono fun e w h => ⟨h.1,((hth1 _ _ h.2).unpick k0)⟩)) fun a w hf hc => cNil ?_
   refine xThenN ?_
   intro ds u hau
   refine ⟨θ,he.put0 hi hau hf rfl 7 rfl rfl,?_⟩
   try dsimp only
   rw [updE_tru 4 e3]
   exact hc
  ·intro E θ a w hD hi hp he hc
   have e1 := hp.of (k := 1) rfl
   have e4 := hp.of (k := 4) rfl
   have hf := he.h0
   replace hf := hf.more he 4 rfl (onP e1)
   replace hf := hf.more he 7 rfl (onP e4)
   refine stP hf rfl rfl rfl (pNe rfl rfl) fun a hf => cNil ?_
   refine xThenN ?_
   intro ds u hau
   refine ⟨θ,he.put0 hi hau hf rfl 8 rfl rfl,?_⟩
   exact hc
  ·intro E θ a w hall he hc
   have hf := he.h0
   have e3 := hall 3 rfl
   have e5 := hall 5 rfl
   replace hf := hf.more he 8 rfl (onP e5)
   replace hf := hf.more he 2 rfl (onT)
   replace hf := hf.more he 1 rfl (onT)
   replace hf := hf.more he 0 rfl (onT)
   try dsimp only at hc
   rw [e3] at hc
   exact ⟨(θ 24).p,(θ 24).c,hf.kp rfl,hc⟩
  rintro a w ⟨p_3,c_3,hf,hc⟩
  refine h7 _ _ ?_
  refine cCond (b := (r_2 != r_4)) hf rfl (fun hb => ?_) (fun hb => ?_)
  ·replace hF := condT hb hF
   clear hb
   refine wp_seq_k fun K8 h8 => cReg ?_
   refine stP hf rfl rfl rfl (pA rfl) fun a hf => cNil ?_
   refine h8 _ _ ?_
   refine wp_ret ?_
   refine xThenR ?_
   obtain rfl := sj hF
   replace hc := hc.drop k3
   replace hc := hc.drop k2
   replace hc := hc.drop k1
   replace hc := hc.drop k0
   exact fnOut1 (by simp) rfl Tryz.results4 hf hc (show look _ 4 = _ from rfl) ⟨rfl,hc⟩
  ·replace hF := condF hb hF
   clear hb
   refine wp_skip ?_
   refine h6 _ _ ?_
   refine wp_seq_k fun K9 h9 => cReg ?_
   refine stE hf hc rfl rfl rfl (eLdN (vs := [i6 r_1.Car,i6 r_1.Wide,i6 r_1.Sag,i6 r_1.Most,.slice p_1 r_1.Rides.length c_1]) ag_54 rfl rfl (cells_box (n := 5) m1 rfl)) fun a w hf hc => stP hf rfl rfl rfl (pM rfl) fun a hf => ?_
   obtain ⟨r_5,hr_5,hF⟩ := bnd_some hF
   refine stE hf hc rfl rfl rfl (eC (v := .tuple #[.agg #[i6 r_5.1.Lo,i6 r_5.1.Hi],i6 r_5.2]) (vs := [.agg #[i6 r_1.Car,i6 r_1.Wide,i6 r_1.Sag,i6 r_1.Most,.slice p_1 r_1.Rides.length c_1],i6 minute]) (caps := []) en_34 rfl rfl rfl rfl (fun w hc => by obtain ⟨G1,hle1,hrd1,hc,hth1⟩ := lend hc k2; exact (crew_Load_ok r_1 minute hrd1 hc hr_5).mono fun e w h => ⟨h.1,((hth1 _ _ h.2).unpick k2)⟩)) fun a w hf hc => stP hf rfl rfl rfl (pM rfl) fun a hf => stP hf rfl rfl rfl (pX rfl rfl) fun a hf => stP hf rfl rfl rfl (pX rfl rfl) fun a hf => stAl (cs := [i6 0,i6 0]) hf hc rfl rfl zr_29 rfl fun b_3 a w hf hc => stSt (vs := [i6 r_5.1.Lo,i6 r_5.1.Hi]) hf hc rfl rfl rfl rfl sz_29 rfl rfl u0 fun w hc => stP hf rfl rfl rfl (pA rfl) fun a hf => cNil ?_
   refine h9 _ _ ?_
   refine wp_seq_k fun K10 h10 => cReg ?_
   refine stE hf hc rfl rfl rfl (eLdN (vs := [i6 c_.Car,i6 c_.Wide,i6 c_.Sag,i6 c_.Most,.slice c__Rides_p c_.Rides.length c__Rides_c]) ag_54 rfl rfl (cells_box (n := 5) m4 rfl)) fun a w hf hc => ?_
   obtain ⟨r_6,hr_6,hF⟩ := bnd_some hF
   refine stC (vs := [.agg #[i6 c_.Car,i6 c_.Wide,i6 c_.Sag,i6 c_.Most,.slice c__Rides_p c_.Rides.length c__Rides_c]]) (caps := []) hf rfl rfl rfl en_33 rfl rfl rfl rfl (law11_Cable_ok c_ h_c__Rides hc hr_6) ?_
   rintro _ w ⟨p_4,c_4,rfl,hc⟩
   refine ⟨_,rfl,fun a hf => ?_⟩
   refine stP hf rfl rfl rfl (pM rfl) fun a hf => ?_
   obtain ⟨r_7,hr_7,hF⟩ := bnd_some hF
   refine stE hf hc rfl rfl rfl (eC (v := .tuple #[.agg #[i6 r_7.1.Lo,i6 r_7.1.Hi],i6 r_7.2]) (vs := [.agg #[i6 r_6.Car,i6 r_6.Wide,i6 r_6.Sag,i6 r_6.Most,.slice p_4 r_6.Rides.length c_4],i6 minute]) (caps := []) en_35 rfl rfl rfl rfl (fun w hc => by obtain ⟨G1,hle1,hrd1,hc,hth1⟩ := lend hc k0; exact (ref11_Load_ok r_6 minute hrd1 hc hr_7).mono fun e w h => ⟨h.1,((hth1 _ _ h.2).unpick k0)⟩)) fun a w hf hc => stP hf rfl rfl rfl (pM rfl) fun a hf => stP hf rfl rfl rfl (pX rfl rfl) fun a hf => stP hf rfl rfl rfl (pX rfl rfl) fun a hf => stAl (cs := [i6 0,i6 0]) hf hc rfl rfl zr_29 rfl fun b_4 a w hf hc => stSt (vs := [i6 r_7.1.Lo,i6 r_7.1.Hi]) hf hc rfl rfl rfl rfl sz_29 rfl rfl u0 fun w hc => stP hf rfl rfl rfl (pA rfl) fun a hf => cNil ?_
   refine h10 _ _ ?_
   refine wp_seq_k fun K11 h11 => wp_seq_k fun K12 h12 => cReg ?_
   refine stE hf hc rfl rfl rfl (eLdN (vs := [i6 r_5.1.Lo,i6 r_5.1.Hi]) ag_29 rfl rfl (cells_box (n := 2) m2 rfl)) fun a w hf hc => stE hf hc rfl rfl rfl (eLdN (vs := [i6 r_7.1.Lo,i6 r_7.1.Hi]) ag_29 rfl rfl (cells_box (n := 2) m0 rfl)) fun a w hf hc => stP hf rfl rfl rfl (pNeA ge_29 rfl rfl (eqs_29 _ _ _ _)) fun a hf => stP hf rfl rfl rfl (pM rfl) fun a hf => stCut 4 (fun a w => Has 133 a [(2,pq b_1),(5,pq b_2),(6,pq b_3),(7,i6 r_5.2),(8,pq b_4),(9,i6 r_7.2),(42,.agg #[i6 r_5.1.Lo,i6 r_5.1.Hi]),(43,.agg #[i6 r_7.1.Lo,i6 r_7.1.Hi]),(44,.bool (!(r_5.1.Lo == r_7.1.Lo && r_5.1.Hi == r_7.1.Hi))),(45,.bool (!(r_5.1.Lo == r_7.1.Lo && r_5.1.Hi == r_7.1.Hi))),(49,.bool ((!(r_5.1.Lo == r_7.1.Lo && r_5.1.Hi == r_7.1.Hi)) || (r_5.2 != r_7.2)))] ∧ Ctx G (.box b_4 [i6 r_7.1.Lo,i6 r_7.1.Hi] 29::.row p_4 c_4 (r_6.Rides.map enc_ref11_Ride) 156 4::.box b_3 [i6 r_5.1.Lo,i6 r_5.1.Hi] 29::.row p_3 c_3 (r_3.Rides.map enc_ref11_Ride) 156 4::.box b_2 [i6 r_1.Car,i6 r_1.Wide,i6 r_1.Sag,i6 r_1.Most,.slice p_1 r_1.Rides.length c_1] 54::.row p_1 c_1 (r_1.Rides.map enc_crew_Ride) 72 4::.box b_1 [i6 c_.Car,i6 c_.Wide,i6 c_.Sag,i6 c_.Most,.slice c__Rides_p c_.Rides.length c__Rides_c] 54::Lf) w) ?_ ?_
   ·cases hb : (!(r_5.1.Lo == r_7.1.Lo && r_5.1.Hi == r_7.1.Hi))
    ·rw [hb] at hf
     refine stP hf rfl rfl rfl (pM rfl) fun a hf => stP hf rfl rfl rfl (pM rfl) fun a hf => stP hf rfl rfl rfl (pNe rfl rfl) fun a hf => stP hf rfl rfl rfl (pPf rfl rfl) fun a hf => cNil ⟨hf.kp rfl,hc⟩
    ·rw [hb] at hf
     refine stS hf rfl rfl rfl fun a hf => stS hf rfl rfl rfl fun a hf => stS hf rfl rfl rfl fun a hf => stP hf rfl rfl rfl (pPt rfl rfl) fun a hf => cNil ⟨hf.kp rfl,hc⟩
   intro a w ⟨hf,hc⟩
   refine cNil ?_
   refine h12 _ _ ?_
   refine cCond (b := ((!(r_5.1.Lo == r_7.1.Lo && r_5.1.Hi == r_7.1.Hi)) || (r_5.2 != r_7.2))) hf rfl (fun hb => ?_) (fun hb => ?_)
   ·replace hF := condT hb hF
    clear hb
    refine wp_seq_k fun K13 h13 => cReg ?_
    refine stP hf rfl rfl rfl (pA rfl) fun a hf => cNil ?_
    refine h13 _ _ ?_
    refine wp_ret ?_
    refine xThenR ?_
    obtain rfl := sj hF
    replace hc := hc.drop k6
    replace hc := hc.drop k5
    replace hc := hc.drop k4
    replace hc := hc.drop k3
    replace hc := hc.drop k2
    replace hc := hc.drop k1
    replace hc := hc.drop k0
    exact fnOut1 (by simp) rfl Tryz.results4 hf hc (show look _ 4 = _ from rfl) ⟨rfl,hc⟩
   ·replace hF := condF hb hF
    clear hb
    refine wp_skip ?_
    refine h11 _ _ ?_
    refine wp_seq_k fun K14 h14 => cReg ?_
    refine stE hf hc rfl rfl rfl (eLdN (vs := [i6 r_1.Car,i6 r_1.Wide,i6 r_1.Sag,i6 r_1.Most,.slice p_1 r_1.Rides.length c_1]) ag_54 rfl rfl (cells_box (n := 5) m4 rfl)) fun a w hf hc => ?_
    obtain ⟨r_8,hr_8,hF⟩ := bnd_some hF
    refine stE hf hc rfl rfl rfl (eC (v := .tuple #[i6 r_8.1,i6 r_8.2.1,i6 r_8.2.2]) (vs := [.agg #[i6 r_1.Car,i6 r_1.Wide,i6 r_1.Sag,i6 r_1.Most,.slice p_1 r_1.Rides.length c_1]]) (caps := []) en_36 rfl rfl rfl rfl (fun w hc => by obtain ⟨G1,hle1,hrd1,hc,hth1⟩ := lend hc k5; exact (crew_Beyond_ok r_1 hrd1 hc hr_8).mono fun e w h => ⟨h.1,((hth1 _ _ h.2).unpick k5)⟩)) fun a w hf hc => stP hf rfl rfl rfl (pM rfl) fun a hf => stP hf rfl rfl rfl (pX rfl rfl) fun a hf => stP hf rfl rfl rfl (pX rfl rfl) fun a hf => stP hf rfl rfl rfl (pX rfl rfl) fun a hf => stP hf rfl rfl rfl (pA rfl) fun a hf => stP hf rfl rfl rfl (pA rfl) fun a hf => stP hf rfl rfl rfl (pA rfl) fun a hf => cNil ?_
    refine h14 _ _ ?_
    refine wp_seq_k fun K15 h15 => cReg ?_
    refine stE hf hc rfl rfl rfl (eLdN (vs := [i6 c_.Car,i6 c_.Wide,i6 c_.Sag,i6 c_.Most,.slice c__Rides_p c_.Rides.length c__Rides_c]) ag_54 rfl rfl (cells_box (n := 5) m6 rfl)) fun a w hf hc => ?_
    obtain ⟨r_9,hr_9,hF⟩ := bnd_some hF
    refine stC (vs := [.agg #[i6 c_.Car,i6 c_.Wide,i6 c_.Sag,i6 c_.Most,.slice c__Rides_p c_.Rides.length c__Rides_c]]) (caps := []) hf rfl rfl rfl en_33 rfl rfl rfl rfl (law11_Cable_ok c_ h_c__Rides hc hr_9) ?_
    rintro _ w ⟨p_5,c_5,rfl,hc⟩
    refine ⟨_,rfl,fun a hf => ?_⟩
    obtain ⟨r_10,hr_10,hF⟩ := bnd_some hF
    refine stE hf hc rfl rfl rfl (eC (v := .tuple #[i6 r_10.1,i6 r_10.2.1,i6 r_10.2.2]) (vs := [.agg #[i6 r_9.Car,i6 r_9.Wide,i6 r_9.Sag,i6 r_9.Most,.slice p_5 r_9.Rides.length c_5]]) (caps := []) en_37 rfl rfl rfl rfl (fun w hc => by obtain ⟨G1,hle1,hrd1,hc,hth1⟩ := lend hc k0; exact (ref11_Beyond_ok r_9 hrd1 hc hr_10).mono fun e w h => ⟨h.1,((hth1 _ _ h.2).unpick k0)⟩)) fun a w hf hc => stP hf rfl rfl rfl (pM rfl) fun a hf => stP hf rfl rfl rfl (pX rfl rfl) fun a hf => stP hf rfl rfl rfl (pX rfl rfl) fun a hf => stP hf rfl rfl rfl (pX rfl rfl) fun a hf => stP hf rfl rfl rfl (pA rfl) fun a hf => stP hf rfl rfl rfl (pA rfl) fun a hf => stP hf rfl rfl rfl (pA rfl) fun a hf => cNil ?_
    refine h15 _ _ ?_
    refine wp_seq_k fun K16 h16 => wp_seq_k fun K17 h17 => cReg ?_
    refine stP hf rfl rfl rfl (pM rfl) fun a hf => stP hf rfl rfl rfl (pM rfl) fun a hf => stP hf rfl rfl rfl (pNe rfl rfl) fun a hf => stP hf rfl rfl rfl (pM rfl) fun a hf => stCut 4 (fun a w => Has 133 a [(2,pq b_1),(5,pq b_2),(7,i6 r_8.2.2),(9,i6 r_10.2.2),(10,i6 r_8.1),(11,i6 r_8.2.1),(12,i6 r_10.1),(13,i6 r_10.2.1),(63,i6 r_8.1),(64,i6 r_10.1),(65,.bool (r_8.1 != r_10.1)),(66,.bool (r_8.1 != r_10.1)),(70,.bool ((r_8.1 != r_10.1) || (r_8.2.1 != r_10.2.1)))] ∧ Ctx G (.row p_5 c_5 (r_9.Rides.map enc_ref11_Ride) 156 4::.box b_4 [i6 r_7.1.Lo,i6 r_7.1.Hi] 29::.row p_4 c_4 (r_6.Rides.map enc_ref11_Ride) 156 4::.box b_3 [i6 r_5.1.Lo,i6 r_5.1.Hi] 29::.row p_3 c_3 (r_3.Rides.map enc_ref11_Ride) 156 4::.box b_2 [i6 r_1.Car,i6 r_1.Wide,i6 r_1.Sag,i6 r_1.Most,.slice p_1 r_1.Rides.length c_1] 54::.row p_1 c_1 (r_1.Rides.map enc_crew_Ride) 72 4::.box b_1 [i6 c_.Car,i6 c_.Wide,i6 c_.Sag,i6 c_.Most,.slice c__Rides_p c_.Rides.length c__Rides_c] 54::Lf) w) ?_ ?_
    ·cases hb : (r_8.1 != r_10.1)
     ·rw [hb] at hf
      refine stP hf rfl rfl rfl (pM rfl) fun a hf => stP hf rfl rfl rfl (pM rfl) fun a hf => stP hf rfl rfl rfl (pNe rfl rfl) fun a hf => stP hf rfl rfl rfl (pPf rfl rfl) fun a hf => cNil ⟨hf.kp rfl,hc⟩
     ·rw [hb] at hf
      refine stS hf rfl rfl rfl fun a hf => stS hf rfl rfl rfl fun a hf => stS hf rfl rfl rfl fun a hf => stP hf rfl rfl rfl (pPt rfl rfl) fun a hf => cNil ⟨hf.kp rfl,hc⟩
    intro a w ⟨hf,hc⟩
    refine stP hf rfl rfl rfl (pM rfl) fun a hf => stCut 4 (fun a w => Has 133 a [(2,pq b_1),(5,pq b_2),(7,i6 r_8.2.2),(9,i6 r_10.2.2),(10,i6 r_8.1),(11,i6 r_8.2.1),(12,i6 r_10.1),(13,i6 r_10.2.1),(63,i6 r_8.1),(64,i6 r_10.1),(65,.bool (r_8.1 != r_10.1)),(66,.bool (r_8.1 != r_10.1)),(70,.bool ((r_8.1 != r_10.1) || (r_8.2.1 != r_10.2.1))),(71,.bool ((r_8.1 != r_10.1) || (r_8.2.1 != r_10.2.1))),(75,.bool (((r_8.1 != r_10.1) || (r_8.2.1 != r_10.2.1)) || (r_8.2.2 != r_10.2.2)))] ∧ Ctx G (.row p_5 c_5 (r_9.Rides.map enc_ref11_Ride) 156 4::.box b_4 [i6 r_7.1.Lo,i6 r_7.1.Hi] 29::.row p_4 c_4 (r_6.Rides.map enc_ref11_Ride) 156 4::.box b_3 [i6 r_5.1.Lo,i6 r_5.1.Hi] 29::.row p_3 c_3 (r_3.Rides.map enc_ref11_Ride) 156 4::.box b_2 [i6 r_1.Car,i6 r_1.Wide,i6 r_1.Sag,i6 r_1.Most,.slice p_1 r_1.Rides.length c_1] 54::.row p_1 c_1 (r_1.Rides.map enc_crew_Ride) 72 4::.box b_1 [i6 c_.Car,i6 c_.Wide,i6 c_.Sag,i6 c_.Most,.slice c__Rides_p c_.Rides.length c__Rides_c] 54::Lf) w) ?_ ?_
    ·cases hb : ((r_8.1 != r_10.1) || (r_8.2.1 != r_10.2.1))
     ·rw [hb] at hf
      refine stP hf rfl rfl rfl (pM rfl) fun a hf => stP hf rfl rfl rfl (pM rfl) fun a hf => stP hf rfl rfl rfl (pNe rfl rfl) fun a hf => stP hf rfl rfl rfl (pPf rfl rfl) fun a hf => cNil ⟨hf.kp rfl,hc⟩
     ·rw [hb] at hf
      refine stS hf rfl rfl rfl fun a hf => stS hf rfl rfl rfl fun a hf => stS hf rfl rfl rfl fun a hf => stP hf rfl rfl rfl (pPt rfl rfl) fun a hf => cNil ⟨hf.kp rfl,hc⟩
    intro a w ⟨hf,hc⟩
    refine cNil ?_
    refine h17 _ _ ?_
    refine cCond (b := (((r_8.1 != r_10.1) || (r_8.2.1 != r_10.2.1)) || (r_8.2.2 != r_10.2.2))) hf rfl (fun hb => ?_) (fun hb => ?_)
    ·replace hF := condT hb hF
     clear hb
     refine wp_seq_k fun K18 h18 => cReg ?_
     refine stP hf rfl rfl rfl (pA rfl) fun a hf => cNil ?_
     refine h18 _ _ ?_
     refine wp_ret ?_
     refine xThenR ?_
     obtain rfl := sj hF
     replace hc := hc.drop k7
     replace hc := hc.drop k6
     replace hc := hc.drop k5
     replace hc := hc.drop k4
     replace hc := hc.drop k3
     replace hc := hc.drop k2
     replace hc := hc.drop k1
     replace hc := hc.drop k0
     exact fnOut1 (by simp) rfl Tryz.results4 hf hc (show look _ 4 = _ from rfl) ⟨rfl,hc⟩
    ·replace hF := condF hb hF
     clear hb
     refine wp_skip ?_
     refine h16 _ _ ?_
     refine wp_seq_k fun K19 h19 => cReg ?_
     refine stE hf hc rfl rfl rfl (eLdN (vs := [i6 r_1.Car,i6 r_1.Wide,i6 r_1.Sag,i6 r_1.Most,.slice p_1 r_1.Rides.length c_1]) ag_54 rfl rfl (cells_box (n := 5) m5 rfl)) fun a w hf hc => ?_
     obtain ⟨r_11,hr_11,hF⟩ := bnd_some hF
     obtain ⟨G1,hle1,hrd1,hc,hth1⟩ := lend hc k6
     refine stC (vs := [.agg #[i6 r_1.Car,i6 r_1.Wide,i6 r_1.Sag,i6 r_1.Most,.slice p_1 r_1.Rides.length c_1]]) (caps := []) hf rfl rfl rfl en_38 rfl rfl rfl rfl (crew_Queue_ok r_1 hrd1 hc hr_11) ?_
     rintro _ w ⟨p_6,c_6,rfl,hc⟩
     refine ⟨_,rfl,fun a hf => ?_⟩
     replace hc := hth1 _ _ hc
     refine stP hf rfl rfl rfl (pM rfl) fun a hf => stP hf rfl rfl rfl (pX rfl rfl) fun a hf => stP hf rfl rfl rfl (pX rfl rfl) fun a hf => stP hf rfl rfl rfl (pA rfl) fun a hf => stP hf rfl rfl rfl (pA rfl) fun a hf => cNil ?_
     replace hc := hc.drop k6
     replace hc := hc.drop k5
     replace hc := hc.drop k4
     replace hc := hc.drop k3
     replace hc := hc.drop k2
     refine h19 _ _ ?_
     refine wp_seq_k fun K20 h20 => cReg ?_
     refine stE hf hc rfl rfl rfl (eLdN (vs := [i6 c_.Car,i6 c_.Wide,i6 c_.Sag,i6 c_.Most,.slice c__Rides_p c_.Rides.length c__Rides_c]) ag_54 rfl rfl (cells_box (n := 5) m3 rfl)) fun a w hf hc => ?_
     obtain ⟨r_12,hr_12,hF⟩ := bnd_some hF
     refine stC (vs := [.agg #[i6 c_.Car,i6 c_.Wide,i6 c_.Sag,i6 c_.Most,.slice c__Rides_p c_.Rides.length c__Rides_c]]) (caps := []) hf rfl rfl rfl en_33 rfl rfl rfl rfl (law11_Cable_ok c_ h_c__Rides hc hr_12) ?_
     rintro _ w ⟨p_7,c_7,rfl,hc⟩
     refine ⟨_,rfl,fun a hf => ?_⟩
     obtain ⟨r_13,hr_13,hF⟩ := bnd_some hF
     obtain ⟨G1,hle1,hrd1,hc,hth1⟩ := lend hc k0
     refine stC (vs := [.agg #[i6 r_12.Car,i6 r_12.Wide,i6 r_12.Sag,i6 r_12.Most,.slice p_7 r_12.Rides.length c_7]]) (caps := []) hf rfl rfl rfl en_39 rfl rfl rfl rfl (ref11_Queue_ok r_12 hrd1 hc hr_13) ?_
     rintro _ w ⟨p_8,c_8,rfl,hc⟩
     refine ⟨_,rfl,fun a hf => ?_⟩
     replace hc := hth1 _ _ hc
     refine stP hf rfl rfl rfl (pM rfl) fun a hf => stP hf rfl rfl rfl (pX rfl rfl) fun a hf => stP hf rfl rfl rfl (pX rfl rfl) fun a hf => stP hf rfl rfl rfl (pA rfl) fun a hf => stP hf rfl rfl rfl (pA rfl) fun a hf => cNil ?_
     refine h20 _ _ ?_
     refine wp_seq_k fun K21 h21 => cReg ?_
     refine stP hf rfl rfl rfl (pM rfl) fun a hf => stP hf rfl rfl rfl (pM rfl) fun a hf => ?_
     obtain ⟨r_14,hr_14,hF⟩ := bnd_some hF
     refine stE hf hc rfl rfl rfl (eC (v := .bool r_14) (vs := [.slice p_6 r_11.1.length c_6,.slice p_8 r_13.1.length c_8]) (caps := []) en_29 rfl rfl rfl rfl (fun w hc => by obtain ⟨G1,hle1,hrd1,hc,hth1⟩ := lend hc k3; obtain ⟨G2,hle2,hrd2,hc,hth2⟩ := lend hc k1; exact (kit_Same_int_ok r_11.1 r_13.1 (hrd1.mono hle2) hrd2 hc hr_14).mono fun e w h => ⟨h.1,((hth1 _ _ ((hth2 _ _ h.2).unpick k1)).unpick k3)⟩)) fun a w hf hc => stP hf rfl rfl rfl (pM rfl) fun a hf => stCut 4 (fun a w => Has 133 a [(2,pq b_1),(5,pq b_2),(7,i6 r_11.2),(9,i6 r_13.2),(14,.slice p_6 r_11.1.length c_6),(15,.slice p_8 r_13.1.length c_8),(87,.slice p_6 r_11.1.length c_6),(88,.slice p_8 r_13.1.length c_8),(89,.bool r_14),(90,.bool r_14),(94,.bool (r_14 && (r_11.2 == r_13.2)))] ∧ Ctx G (.row p_7 c_7 (r_12.Rides.map enc_ref11_Ride) 156 4::.row p_8 c_8 (r_13.1.map encI_i64) 3 1::.row p_1 c_1 (r_1.Rides.map enc_crew_Ride) 72 4::.row p_6 c_6 (r_11.1.map encI_i64) 3 1::.box b_2 [i6 r_1.Car,i6 r_1.Wide,i6 r_1.Sag,i6 r_1.Most,.slice p_1 r_1.Rides.length c_1] 54::.box b_1 [i6 c_.Car,i6 c_.Wide,i6 c_.Sag,i6 c_.Most,.slice c__Rides_p c_.Rides.length c__Rides_c] 54::Lf) w) ?_ ?_
     ·cases hb : r_14
      ·rw [hb] at hf
       try rw [hb] at hc
       refine stS hf rfl rfl rfl fun a hf => stS hf rfl rfl rfl fun a hf => stS hf rfl rfl rfl fun a hf => stP hf rfl rfl rfl (pPf rfl rfl) fun a hf => cNil ⟨hf.kp rfl,hc⟩
      ·rw [hb] at hf
       try rw [hb] at hc
       refine stP hf rfl rfl rfl (pM rfl) fun a hf => stP hf rfl rfl rfl (pM rfl) fun a hf => stP hf rfl rfl rfl (pEq rfl rfl) fun a hf => stP hf rfl rfl rfl (pPt rfl rfl) fun a hf => cNil ⟨hf.kp rfl,hc⟩
     intro a w ⟨hf,hc⟩
     refine stP hf rfl rfl rfl (pM rfl) fun a hf => stCut 6 (fun a w => Has 133 a [(2,pq b_1),(5,pq b_2),(7,i6 r_11.2),(9,i6 r_13.2),(14,.slice p_6 r_11.1.length c_6),(15,.slice p_8 r_13.1.length c_8),(87,.slice p_6 r_11.1.length c_6),(88,.slice p_8 r_13.1.length c_8),(89,.bool r_14),(90,.bool r_14),(94,.bool (r_14 && (r_11.2 == r_13.2))),(95,.bool (r_14 && (r_11.2 == r_13.2))),(101,.bool ((r_14 && (r_11.2 == r_13.2)) && (r_1.Car == c_.Car)))] ∧ Ctx G (.row p_7 c_7 (r_12.Rides.map enc_ref11_Ride) 156 4::.row p_8 c_8 (r_13.1.map encI_i64) 3 1::.row p_1 c_1 (r_1.Rides.map enc_crew_Ride) 72 4::.row p_6 c_6 (r_11.1.map encI_i64) 3 1::.box b_2 [i6 r_1.Car,i6 r_1.Wide,i6 r_1.Sag,i6 r_1.Most,.slice p_1 r_1.Rides.length c_1] 54::.box b_1 [i6 c_.Car,i6 c_.Wide,i6 c_.Sag,i6 c_.Most,.slice c__Rides_p c_.Rides.length c__Rides_c] 54::Lf) w) ?_ ?_
     ·cases hb : (r_14 && (r_11.2 == r_13.2))
      ·rw [hb] at hf
       refine stS hf rfl rfl rfl fun a hf => stS hf rfl rfl rfl fun a hf => stS hf rfl rfl rfl fun a hf => stS hf rfl rfl rfl fun a hf => stS hf rfl rfl rfl fun a hf => stP hf rfl rfl rfl (pPf rfl rfl) fun a hf => cNil ⟨hf.kp rfl,hc⟩
      ·rw [hb] at hf
       refine stP hf rfl rfl rfl (pFA fa_54_0 rfl) fun a hf => stE hf hc rfl rfl rfl (eLd1 sc_3 rfl (cell_box m4 rfl)) fun a w hf hc => stP hf rfl rfl rfl (pFA fa_54_0 rfl) fun a hf => stE hf hc rfl rfl rfl (eLd1 sc_3 rfl (cell_box m5 rfl)) fun a w hf hc => stP hf rfl rfl rfl (pEq rfl rfl) fun a hf => stP hf rfl rfl rfl (pPt rfl rfl) fun a hf => cNil ⟨hf.kp rfl,hc⟩
     intro a w ⟨hf,hc⟩
     refine stP hf rfl rfl rfl (pM rfl) fun a hf => stCut 6 (fun a w => Has 133 a [(2,pq b_1),(5,pq b_2),(7,i6 r_11.2),(9,i6 r_13.2),(14,.slice p_6 r_11.1.length c_6),(15,.slice p_8 r_13.1.length c_8),(87,.slice p_6 r_11.1.length c_6),(88,.slice p_8 r_13.1.length c_8),(89,.bool r_14),(90,.bool r_14),(94,.bool (r_14 && (r_11.2 == r_13.2))),(95,.bool (r_14 && (r_11.2 == r_13.2))),(101,.bool ((r_14 && (r_11.2 == r_13.2)) && (r_1.Car == c_.Car))),(102,.bool ((r_14 && (r_11.2 == r_13.2)) && (r_1.Car == c_.Car))),(108,.bool (((r_14 && (r_11.2 == r_13.2)) && (r_1.Car == c_.Car)) && (r_1.Wide == c_.Wide)))] ∧ Ctx G (.row p_7 c_7 (r_12.Rides.map enc_ref11_Ride) 156 4::.row p_8 c_8 (r_13.1.map encI_i64) 3 1::.row p_1 c_1 (r_1.Rides.map enc_crew_Ride) 72 4::.row p_6 c_6 (r_11.1.map encI_i64) 3 1::.box b_2 [i6 r_1.Car,i6 r_1.Wide,i6 r_1.Sag,i6 r_1.Most,.slice p_1 r_1.Rides.length c_1] 54::.box b_1 [i6 c_.Car,i6 c_.Wide,i6 c_.Sag,i6 c_.Most,.slice c__Rides_p c_.Rides.length c__Rides_c] 54::Lf) w) ?_ ?_
     ·cases hb : ((r_14 && (r_11.2 == r_13.2)) && (r_1.Car == c_.Car))
      ·rw [hb] at hf
       refine stS hf rfl rfl rfl fun a hf => stS hf rfl rfl rfl fun a hf => stS hf rfl rfl rfl fun a hf => stS hf rfl rfl rfl fun a hf => stS hf rfl rfl rfl fun a hf => stP hf rfl rfl rfl (pPf rfl rfl) fun a hf => cNil ⟨hf.kp rfl,hc⟩
      ·rw [hb] at hf
       refine stP hf rfl rfl rfl (pFA fa_54_1 rfl) fun a hf => stE hf hc rfl rfl rfl (eLd1 sc_3 rfl (cell_box m4 rfl)) fun a w hf hc => stP hf rfl rfl rfl (pFA fa_54_1 rfl) fun a hf => stE hf hc rfl rfl rfl (eLd1 sc_3 rfl (cell_box m5 rfl)) fun a w hf hc => stP hf rfl rfl rfl (pEq rfl rfl) fun a hf => stP hf rfl rfl rfl (pPt rfl rfl) fun a hf => cNil ⟨hf.kp rfl,hc⟩
     intro a w ⟨hf,hc⟩
     refine stP hf rfl rfl rfl (pM rfl) fun a hf => stCut 6 (fun a w => Has 133 a [(2,pq b_1),(5,pq b_2),(7,i6 r_11.2),(9,i6 r_13.2),(14,.slice p_6 r_11.1.length c_6),(15,.slice p_8 r_13.1.length c_8),(87,.slice p_6 r_11.1.length c_6),(88,.slice p_8 r_13.1.length c_8),(89,.bool r_14),(90,.bool r_14),(94,.bool (r_14 && (r_11.2 == r_13.2))),(95,.bool (r_14 && (r_11.2 == r_13.2))),(101,.bool ((r_14 && (r_11.2 == r_13.2)) && (r_1.Car == c_.Car))),(102,.bool ((r_14 && (r_11.2 == r_13.2)) && (r_1.Car == c_.Car))),(108,.bool (((r_14 && (r_11.2 == r_13.2)) && (r_1.Car == c_.Car)) && (r_1.Wide == c_.Wide))),(109,.bool (((r_14 && (r_11.2 == r_13.2)) && (r_1.Car == c_.Car)) && (r_1.Wide == c_.Wide))),(115,.bool ((((r_14 && (r_11.2 == r_13.2)) && (r_1.Car == c_.Car)) && (r_1.Wide == c_.Wide)) && (r_1.Sag == c_.Sag)))] ∧ Ctx G (.row p_7 c_7 (r_12.Rides.map enc_ref11_Ride) 156 4::.row p_8 c_8 (r_13.1.map encI_i64) 3 1::.row p_1 c_1 (r_1.Rides.map enc_crew_Ride) 72 4::.row p_6 c_6 (r_11.1.map encI_i64) 3 1::.box b_2 [i6 r_1.Car,i6 r_1.Wide,i6 r_1.Sag,i6 r_1.Most,.slice p_1 r_1.Rides.length c_1] 54::.box b_1 [i6 c_.Car,i6 c_.Wide,i6 c_.Sag,i6 c_.Most,.slice c__Rides_p c_.Rides.length c__Rides_c] 54::Lf) w) ?_ ?_
     ·cases hb : (((r_14 && (r_11.2 == r_13.2)) && (r_1.Car == c_.Car)) && (r_1.Wide == c_.Wide))
      ·rw [hb] at hf
       refine stS hf rfl rfl rfl fun a hf => stS hf rfl rfl rfl fun a hf => stS hf rfl rfl rfl fun a hf => stS hf rfl rfl rfl fun a hf => stS hf rfl rfl rfl fun a hf => stP hf rfl rfl rfl (pPf rfl rfl) fun a hf => cNil ⟨hf.kp rfl,hc⟩
      ·rw [hb] at hf
       refine stP hf rfl rfl rfl (pFA fa_54_2 rfl) fun a hf => stE hf hc rfl rfl rfl (eLd1 sc_3 rfl (cell_box m4 rfl)) fun a w hf hc => stP hf rfl rfl rfl (pFA fa_54_2 rfl) fun a hf => stE hf hc rfl rfl rfl (eLd1 sc_3 rfl (cell_box m5 rfl)) fun a w hf hc => stP hf rfl rfl rfl (pEq rfl rfl) fun a hf => stP hf rfl rfl rfl (pPt rfl rfl) fun a hf => cNil ⟨hf.kp rfl,hc⟩
     intro a w ⟨hf,hc⟩
     refine stP hf rfl rfl rfl (pM rfl) fun a hf => stCut 6 (fun a w => Has 133 a [(2,pq b_1),(5,pq b_2),(7,i6 r_11.2),(9,i6 r_13.2),(14,.slice p_6 r_11.1.length c_6),(15,.slice p_8 r_13.1.length c_8),(87,.slice p_6 r_11.1.length c_6),(88,.slice p_8 r_13.1.length c_8),(89,.bool r_14),(90,.bool r_14),(94,.bool (r_14 && (r_11.2 == r_13.2))),(95,.bool (r_14 && (r_11.2 == r_13.2))),(101,.bool ((r_14 && (r_11.2 == r_13.2)) && (r_1.Car == c_.Car))),(102,.bool ((r_14 && (r_11.2 == r_13.2)) && (r_1.Car == c_.Car))),(108,.bool (((r_14 && (r_11.2 == r_13.2)) && (r_1.Car == c_.Car)) && (r_1.Wide == c_.Wide))),(109,.bool (((r_14 && (r_11.2 == r_13.2)) && (r_1.Car == c_.Car)) && (r_1.Wide == c_.Wide))),(115,.bool ((((r_14 && (r_11.2 == r_13.2)) && (r_1.Car == c_.Car)) && (r_1.Wide == c_.Wide)) && (r_1.Sag == c_.Sag))),(116,.bool ((((r_14 && (r_11.2 == r_13.2)) && (r_1.Car == c_.Car)) && (r_1.Wide == c_.Wide)) && (r_1.Sag == c_.Sag))),(122,.bool (((((r_14 && (r_11.2 == r_13.2)) && (r_1.Car == c_.Car)) && (r_1.Wide == c_.Wide)) && (r_1.Sag == c_.Sag)) && (r_1.Most == c_.Most)))] ∧ Ctx G (.row p_7 c_7 (r_12.Rides.map enc_ref11_Ride) 156 4::.row p_8 c_8 (r_13.1.map encI_i64) 3 1::.row p_1 c_1 (r_1.Rides.map enc_crew_Ride) 72 4::.row p_6 c_6 (r_11.1.map encI_i64) 3 1::.box b_2 [i6 r_1.Car,i6 r_1.Wide,i6 r_1.Sag,i6 r_1.Most,.slice p_1 r_1.Rides.length c_1] 54::.box b_1 [i6 c_.Car,i6 c_.Wide,i6 c_.Sag,i6 c_.Most,.slice c__Rides_p c_.Rides.length c__Rides_c] 54::Lf) w) ?_ ?_
     ·cases hb : ((((r_14 && (r_11.2 == r_13.2)) && (r_1.Car == c_.Car)) && (r_1.Wide == c_.Wide)) && (r_1.Sag == c_.Sag))
      ·rw [hb] at hf
       refine stS hf rfl rfl rfl fun a hf => stS hf rfl rfl rfl fun a hf => stS hf rfl rfl rfl fun a hf => stS hf rfl rfl rfl fun a hf => stS hf rfl rfl rfl fun a hf => stP hf rfl rfl rfl (pPf rfl rfl) fun a hf => cNil ⟨hf.kp rfl,hc⟩
      ·rw [hb] at hf
       refine stP hf rfl rfl rfl (pFA fa_54_3 rfl) fun a hf => stE hf hc rfl rfl rfl (eLd1 sc_3 rfl (cell_box m4 rfl)) fun a w hf hc => stP hf rfl rfl rfl (pFA fa_54_3 rfl) fun a hf => stE hf hc rfl rfl rfl (eLd1 sc_3 rfl (cell_box m5 rfl)) fun a w hf hc => stP hf rfl rfl rfl (pEq rfl rfl) fun a hf => stP hf rfl rfl rfl (pPt rfl rfl) fun a hf => cNil ⟨hf.kp rfl,hc⟩
     intro a w ⟨hf,hc⟩
     refine stP hf rfl rfl rfl (pM rfl) fun a hf => ?_
     obtain ⟨t_1,ht_1,hF⟩ := bnd_some hF
     refine stCut 6 (fun a w => Has 133 a [(2,pq b_1),(5,pq b_2),(7,i6 r_11.2),(9,i6 r_13.2),(14,.slice p_6 r_11.1.length c_6),(15,.slice p_8 r_13.1.length c_8),(87,.slice p_6 r_11.1.length c_6),(88,.slice p_8 r_13.1.length c_8),(89,.bool r_14),(90,.bool r_14),(94,.bool (r_14 && (r_11.2 == r_13.2))),(95,.bool (r_14 && (r_11.2 == r_13.2))),(101,.bool ((r_14 && (r_11.2 == r_13.2)) && (r_1.Car == c_.Car))),(102,.bool ((r_14 && (r_11.2 == r_13.2)) && (r_1.Car == c_.Car))),(108,.bool (((r_14 && (r_11.2 == r_13.2)) && (r_1.Car == c_.Car)) && (r_1.Wide == c_.Wide))),(109,.bool (((r_14 && (r_11.2 == r_13.2)) && (r_1.Car == c_.Car)) && (r_1.Wide == c_.Wide))),(115,.bool ((((r_14 && (r_11.2 == r_13.2)) && (r_1.Car == c_.Car)) && (r_1.Wide == c_.Wide)) && (r_1.Sag == c_.Sag))),(116,.bool ((((r_14 && (r_11.2 == r_13.2)) && (r_1.Car == c_.Car)) && (r_1.Wide == c_.Wide)) && (r_1.Sag == c_.Sag))),(122,.bool (((((r_14 && (r_11.2 == r_13.2)) && (r_1.Car == c_.Car)) && (r_1.Wide == c_.Wide)) && (r_1.Sag == c_.Sag)) && (r_1.Most == c_.Most))),(123,.bool (((((r_14 && (r_11.2 == r_13.2)) && (r_1.Car == c_.Car)) && (r_1.Wide == c_.Wide)) && (r_1.Sag == c_.Sag)) && (r_1.Most == c_.Most))),(129,.bool t_1)] ∧ Ctx G (.row p_7 c_7 (r_12.Rides.map enc_ref11_Ride) 156 4::.row p_8 c_8 (r_13.1.map encI_i64) 3 1::.row p_1 c_1 (r_1.Rides.map enc_crew_Ride) 72 4::.row p_6 c_6 (r_11.1.map encI_i64) 3 1::.box b_2 [i6 r_1.Car,i6 r_1.Wide,i6 r_1.Sag,i6 r_1.Most,.slice p_1 r_1.Rides.length c_1] 54::.box b_1 [i6 c_.Car,i6 c_.Wide,i6 c_.Sag,i6 c_.Most,.slice c__Rides_p c_.Rides.length c__Rides_c] 54::Lf) w) ?_ ?_
     ·cases hb : (((((r_14 && (r_11.2 == r_13.2)) && (r_1.Car == c_.Car)) && (r_1.Wide == c_.Wide)) && (r_1.Sag == c_.Sag)) && (r_1.Most == c_.Most))
      ·rw [hb] at hf
       have hF := condF hb ht_1
       obtain rfl := sj hF
       refine stS hf rfl rfl rfl fun a hf => stS hf rfl rfl rfl fun a hf => stS hf rfl rfl rfl fun a hf => stS hf rfl rfl rfl fun a hf => stS hf rfl rfl rfl fun a hf => stP hf rfl rfl rfl (pPf rfl rfl) fun a hf => cNil ⟨hf.kp rfl,hc⟩
      ·rw [hb] at hf
       have hF := condT hb ht_1
       refine stP hf rfl rfl rfl (pFA fa_54_4 rfl) fun a hf => stE hf hc rfl rfl rfl (eLd1 sc_52 rfl (cell_box m4 rfl)) fun a w hf hc => stP hf rfl rfl rfl (pFA fa_54_4 rfl) fun a hf => stE hf hc rfl rfl rfl (eLd1 sc_52 rfl (cell_box m5 rfl)) fun a w hf hc => ?_
       obtain ⟨r_15,hr_15,hF⟩ := bnd_some hF
       refine stE hf hc rfl rfl rfl (eC (v := .bool r_15) (vs := [.slice p_1 r_1.Rides.length c_1,.slice c__Rides_p c_.Rides.length c__Rides_c]) (caps := []) en_40 rfl rfl rfl rfl (fun w hc => by obtain ⟨G1,hle1,hrd1,hc,hth1⟩ := lend hc k2; exact (kit_Same_crew_Ride_ok r_1.Rides c_.Rides hrd1 (h_c__Rides.mono hle1) hc hr_15).mono fun e w h => ⟨h.1,((hth1 _ _ h.2).unpick k2)⟩)) fun a w hf hc => stP hf rfl rfl rfl (pPt rfl rfl) fun a hf => ?_
       obtain rfl := sj hF
       exact cNil ⟨hf.kp rfl,hc⟩
     intro a w ⟨hf,hc⟩
     refine stP hf rfl rfl rfl (pM rfl) fun a hf => ?_
     obtain ⟨t_2,ht_2,hF⟩ := bnd_some hF
     refine stCut 2 (fun a w => Has 133 a [(2,pq b_1),(5,pq b_2),(7,i6 r_11.2),(9,i6 r_13.2),(14,.slice p_6 r_11.1.length c_6),(15,.slice p_8 r_13.1.length c_8),(87,.slice p_6 r_11.1.length c_6),(88,.slice p_8 r_13.1.length c_8),(89,.bool r_14),(90,.bool r_14),(94,.bool (r_14 && (r_11.2 == r_13.2))),(95,.bool (r_14 && (r_11.2 == r_13.2))),(101,.bool ((r_14 && (r_11.2 == r_13.2)) && (r_1.Car == c_.Car))),(102,.bool ((r_14 && (r_11.2 == r_13.2)) && (r_1.Car == c_.Car))),(108,.bool (((r_14 && (r_11.2 == r_13.2)) && (r_1.Car == c_.Car)) && (r_1.Wide == c_.Wide))),(109,.bool (((r_14 && (r_11.2 == r_13.2)) && (r_1.Car == c_.Car)) && (r_1.Wide == c_.Wide))),(115,.bool ((((r_14 && (r_11.2 == r_13.2)) && (r_1.Car == c_.Car)) && (r_1.Wide == c_.Wide)) && (r_1.Sag == c_.Sag))),(116,.bool ((((r_14 && (r_11.2 == r_13.2)) && (r_1.Car == c_.Car)) && (r_1.Wide == c_.Wide)) && (r_1.Sag == c_.Sag))),(122,.bool (((((r_14 && (r_11.2 == r_13.2)) && (r_1.Car == c_.Car)) && (r_1.Wide == c_.Wide)) && (r_1.Sag == c_.Sag)) && (r_1.Most == c_.Most))),(123,.bool (((((r_14 && (r_11.2 == r_13.2)) && (r_1.Car == c_.Car)) && (r_1.Wide == c_.Wide)) && (r_1.Sag == c_.Sag)) && (r_1.Most == c_.Most))),(129,.bool t_1),(130,.bool t_1),(132,.bool t_2)] ∧ Ctx G (.row p_7 c_7 (r_12.Rides.map enc_ref11_Ride) 156 4::.row p_8 c_8 (r_13.1.map encI_i64) 3 1::.row p_1 c_1 (r_1.Rides.map enc_crew_Ride) 72 4::.row p_6 c_6 (r_11.1.map encI_i64) 3 1::.box b_2 [i6 r_1.Car,i6 r_1.Wide,i6 r_1.Sag,i6 r_1.Most,.slice p_1 r_1.Rides.length c_1] 54::.box b_1 [i6 c_.Car,i6 c_.Wide,i6 c_.Sag,i6 c_.Most,.slice c__Rides_p c_.Rides.length c__Rides_c] 54::Lf) w) ?_ ?_
     ·cases hb : t_1
      ·rw [hb] at hf
       try rw [hb] at hc
       have hF := condF hb ht_2
       obtain rfl := sj hF
       refine stS hf rfl rfl rfl fun a hf => stP hf rfl rfl rfl (pPf rfl rfl) fun a hf => cNil ⟨hf.kp rfl,hc⟩
      ·rw [hb] at hf
       try rw [hb] at hc
       have hF := condT hb ht_2
       obtain ⟨r_16,hr_16,hF⟩ := bnd_some hF
       refine stE hf hc rfl rfl rfl (eC (v := .bool r_16) (vs := []) (caps := []) en_15 rfl rfl rfl rfl (fun w hc => law11_awake_ok hc hr_16)) fun a w hf hc => stP hf rfl rfl rfl (pPt rfl rfl) fun a hf => ?_
       obtain rfl := sj hF
       exact cNil ⟨hf.kp rfl,hc⟩
     intro a w ⟨hf,hc⟩
     refine stP hf rfl rfl rfl (pA rfl) fun a hf => cNil ?_
     refine h21 _ _ ?_
     refine wp_ret ?_
     obtain rfl := sj hF
     replace hc := hc.drop k5
     replace hc := hc.drop k4
     replace hc := hc.drop k3
     replace hc := hc.drop k2
     replace hc := hc.drop k1
     replace hc := hc.drop k0
     exact fnOut1 (by simp) rfl Tryz.results4 hf hc (show look _ 4 = _ from rfl) ⟨rfl,hc⟩

end Go.Nilo
