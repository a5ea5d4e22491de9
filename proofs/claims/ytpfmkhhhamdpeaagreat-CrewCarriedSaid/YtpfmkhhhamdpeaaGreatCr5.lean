/-
 What functions of the Go text compute, as plain functions, and that they do, part 5 of 5. Conditions: what each theorem names.
-/
import Derived.Test.YtpfmkhhhamdpeaaGreatCr4
import Derived.Test.YtpfmkhhhamdpeaaGreatProg
set_option linter.unusedVariables false
set_option linter.unusedSimpArgs false
set_option maxRecDepth 100000
set_option maxHeartbeats 4000000
namespace Go.Nilo
open Go.Proofs


def law11_CrewCarried_b10 (N : Nat) (r_1 : crew_Cable × Int × Int) (heavy : Bool) (x : Int) : Option (Step (Bool × Int) (Bool)) :=
 cond (decide (x < ((r_1.1.Rides.length : Nat) : Int)))
 (Option.bind (getI r_1.1.Rides x) fun e_1 =>
 some (.cont ((heavy || (decide ((W (r_1.1.Most * r_1.1.Sag)) < (W ((W ((W (r_1.1.Car + e_1.Weight.Hi)) * r_1.1.Wide)) * 25))))),W (x + 1))))
 (some (.brk (heavy,x)))
def law11_CrewCarried_j56 (N : Nat) (x_6 : Int) (load_1 : Int) (x_9 : Int) (x_10 : Int) : Option (Step (Int × Int × Int × Int) (Step (Int × Int × Int) (Bool))) :=
 some (.cont (load_1,W (x_6 + 1),x_9,x_10))
def law11_CrewCarried_b50 (N : Nat) (weights : List Int) (x_2 : List crew_Ride) (e_8 : Int) (load : Int) (x_6 : Int) (x_7 : Int) (x_8 : Int) : Option (Step (Int × Int × Int × Int) (Step (Int × Int × Int) (Bool))) :=
 cond (decide (x_6 < ((x_2.length : Nat) : Int)))
 (Option.bind (getI x_2 x_6) fun e_9 =>
 cond ((decide (e_9.From ≤ e_8)) && (decide (e_8 < (W (e_9.From + e_9.Long)))))
 (Option.bind (kit_Stream_Within N (⟨weights,x_7,x_8⟩ : kit_Stream) e_9.Weight.Lo e_9.Weight.Hi) fun r_15 =>
 law11_CrewCarried_j56 N x_6 (W (load + r_15.1)) r_15.2.1 r_15.2.2)
 (law11_CrewCarried_j56 N x_6 load x_7 x_8))
 (some (.brk (load,x_6,x_7,x_8)))
def law11_CrewCarried_b30 (N : Nat) (weights : List Int) (r_1 : crew_Cable × Int × Int) (r_3 : (List Int) × Int) (r_5 : crew_Cable) (x_2 : List crew_Ride) (x_3 : Int) (x_4 : Int) (x_5 : Int) : Option (Step (Int × Int × Int) (Bool)) :=
 cond (decide (x_3 < ((r_3.1.length : Nat) : Int)))
 (Option.bind (getI r_3.1 x_3) fun e_8 =>
 Option.bind (loopO (fun s50 => law11_CrewCarried_b50 N weights x_2 e_8 s50.1 s50.2.1 s50.2.2.1 s50.2.2.2) N (r_1.1.Car,0,x_4,x_5)) fun x50 =>
 exK x50 (fun s50 => Option.bind (crew_Load N (⟨r_5.Car,r_5.Wide,r_5.Sag,r_5.Most,x_2⟩ : crew_Cable) e_8) fun r_14 =>
 cond ((((r_14.2 != 0) || (decide (s50.1 < r_14.1.Lo))) || (decide (r_14.1.Hi < s50.1))) || (decide ((W (r_1.1.Most * r_1.1.Sag)) < (W ((W (s50.1 * r_1.1.Wide)) * 25)))))
 (some (.ret false))
 (some (.cont (W (x_3 + 1),s50.2.2.1,s50.2.2.2)))) some)
 (some (.brk (x_3,x_4,x_5)))
def law11_CrewCarried_b22 (N : Nat) (r_1 : crew_Cable × Int × Int) (r_3 : (List Int) × Int) (x_1 : Int) (x_2 : List crew_Ride) : Option (Step (Int × (List crew_Ride)) (Bool)) :=
 cond (decide (x_1 < ((r_3.1.length : Nat) : Int)))
 (Option.bind (getI r_3.1 x_1) fun e_10 =>
 Option.bind (getI r_1.1.Rides x_1) fun e_11 =>
 Option.bind (cond (decide (e_10 < e_11.From)) (some true) (Option.bind (getI r_3.1 x_1) fun e_12 =>
 some (decide (1000 < e_12)))) fun t_6 =>
 Option.bind (cond t_6 (some true) (Option.bind (cond (decide (0 < x_1)) (Option.bind (getI r_3.1 x_1) fun e_13 =>
 Option.bind (getI r_3.1 (W (x_1 - 1))) fun e_14 =>
 some (decide (e_13 < e_14))) (some false)) fun t_7 =>
 some t_7)) fun t_8 =>
 cond t_8
 (some (.ret false))
 (Option.bind (getI r_3.1 x_1) fun e_15 =>
 Option.bind (getI x_2 x_1) fun e_16 =>
 some (.cont (W (x_1 + 1),(x_2.set x_1.toNat (⟨e_15,e_16.Long,e_16.Weight⟩ : crew_Ride))))))
 (some (.brk (x_1,x_2)))
def law11_CrewCarried (N : Nat) (numbers : List Int) (weights : List Int) (which : Int) : Option (Bool) :=
 Option.bind (kit_New N numbers) fun r =>
 Option.bind (law11_Hung N (⟨numbers,r.1,r.2⟩ : kit_Stream) 10) fun r_1 =>
 Option.bind (kit_New N weights) fun r_2 =>
 Option.bind (crew_Queue N r_1.1) fun r_3 =>
 cond (r_3.2 != 0)
 (Option.bind (loopO (fun s10 => law11_CrewCarried_b10 N r_1 s10.1 s10.2) N ((decide ((W (r_1.1.Most * r_1.1.Sag)) < (W ((W (r_1.1.Car * r_1.1.Wide)) * 25)))),0)) fun x10 =>
 exK x10 (fun s10 => Option.bind (cond ((r_3.2 == 6) && s10.1) (Option.bind (law11_awake N) fun r_4 =>
 some r_4) (some false)) fun t_1 =>
 some t_1) some)
 (cond (((r_3.1.length : Nat) : Int) != ((r_1.1.Rides.length : Nat) : Int))
 (some false)
 (Option.bind (law11_CopyCable N r_1.1) fun r_5 =>
 Option.bind (loopO (fun s22 => law11_CrewCarried_b22 N r_1 r_3 s22.1 s22.2) N (0,r_5.Rides)) fun x22 =>
 exK x22 (fun s22 => Option.bind (crew_Beyond N (⟨r_5.Car,r_5.Wide,r_5.Sag,r_5.Most,s22.2⟩ : crew_Cable)) fun r_6 =>
 Option.bind (crew_Queue N (⟨r_5.Car,r_5.Wide,r_5.Sag,r_5.Most,s22.2⟩ : crew_Cable)) fun r_7 =>
 Option.bind (cond ((((r_6.2.2 != 0) || (r_7.2 != 0)) || (r_6.1 != (-1))) || (r_6.2.1 != (-1))) (some true) (Option.bind (kit_Same_int N r_7.1 r_3.1) fun r_8 =>
 some (!r_8))) fun t_2 =>
 cond t_2
 (some false)
 (Option.bind (loopO (fun s30 => law11_CrewCarried_b30 N weights r_1 r_3 r_5 s22.2 s30.1 s30.2.1 s30.2.2) N (0,r_2.1,r_2.2)) fun x30 =>
 exK x30 (fun s30 => cond (((r_3.1.length : Nat) : Int) == 0)
 (Option.bind (law11_awake N) fun r_9 =>
 some r_9)
 (Option.bind (nz ((r_3.1.length : Nat) : Int)) fun un =>
 Option.bind (getI r_3.1 ((W (which)).tmod ((r_3.1.length : Nat) : Int))) fun e_2 =>
 Option.bind (getI r_1.1.Rides ((W (which)).tmod ((r_3.1.length : Nat) : Int))) fun e_3 =>
 Option.bind (cond (e_2 == e_3.From) (some true) (Option.bind (cond (decide (0 < ((W (which)).tmod ((r_3.1.length : Nat) : Int)))) (Option.bind (getI r_3.1 ((W (which)).tmod ((r_3.1.length : Nat) : Int))) fun e_4 =>
 Option.bind (getI r_3.1 (W (((W (which)).tmod ((r_3.1.length : Nat) : Int)) - 1))) fun e_5 =>
 some (e_4 == e_5)) (some false)) fun t_3 =>
 some t_3)) fun t_4 =>
 cond t_4
 (Option.bind (law11_awake N) fun r_10 =>
 some r_10)
 (Option.bind (law11_CopyCable N (⟨r_5.Car,r_5.Wide,r_5.Sag,r_5.Most,s22.2⟩ : crew_Cable)) fun r_11 =>
 Option.bind (subO r_11.Rides 0 (W (((W (which)).tmod ((r_3.1.length : Nat) : Int)) + 1))) fun sub =>
 Option.bind (getI sub ((W (which)).tmod ((r_3.1.length : Nat) : Int))) fun e_6 =>
 Option.bind (getI sub ((W (which)).tmod ((r_3.1.length : Nat) : Int))) fun e_7 =>
 Option.bind (crew_Beyond N (⟨r_11.Car,r_11.Wide,r_11.Sag,r_11.Most,(sub.set ((W (which)).tmod ((r_3.1.length : Nat) : Int)).toNat (⟨W (e_6.From - 1),e_7.Long,e_7.Weight⟩ : crew_Ride))⟩ : crew_Cable)) fun r_12 =>
 Option.bind (cond ((r_12.2.2 == 0) && (r_12.1 != (-1))) (Option.bind (law11_awake N) fun r_13 =>
 some r_13) (some false)) fun t_5 =>
 some t_5))) some)) some))
theorem law11_CrewCarried_ok {N : Nat} {G : Pers} {Lf : List Ent} {w : World} (numbers : List Int) (weights : List Int) (which : Int) {numbers_p : Option Addr} {numbers_c : Nat} {weights_p : Option Addr} {weights_c : Nat} (h_numbers : Rd G 1 numbers_p numbers_c (numbers.map encI_u8)) (h_weights : Rd G 1 weights_p weights_c (weights.map encI_u8)) (hc : Ctx G (Lf) w) {res : Bool} (hF : law11_CrewCarried N numbers weights which = some res) : Calls Tryz.prog 7 #[.slice numbers_p numbers.length numbers_c,.slice weights_p weights.length weights_c,.int .u8 which] w (fun e w => e = .returned (.bool res) ∧ Ctx G (Lf) w) := by
 unfold law11_CrewCarried at hF
 refine fnIn (args := [.slice numbers_p numbers.length numbers_c,.slice weights_p weights.length weights_c,.int .u8 which]) Tryz.func7 rfl Tryz.ntmps7 rfl fun a hf => wp_seq_k fun K1 h1 => cReg ?_
 refine stP hf rfl rfl rfl (pA rfl) fun a hf => cNil ?_
 refine h1 _ _ ?_
 refine wp_seq_k fun K2 h2 => cReg ?_
 refine stP hf rfl rfl rfl (pM rfl) fun a hf => ?_
 obtain ⟨r,hr,hF⟩ := bnd_some hF
 refine stC (vs := [.slice numbers_p numbers.length numbers_c]) (caps := []) hf rfl rfl rfl en_42 rfl rfl rfl rfl (kit_New_ok numbers h_numbers hc hr) ?_
 rintro _ w ⟨b_1,rfl,hc⟩
 refine ⟨_,rfl,fun a hf => ?_⟩
 obtain ⟨r_1,hr_1,hF⟩ := bnd_some hF
 refine stC (vs := [pq b_1,i6 10]) (caps := []) hf rfl rfl rfl en_52 rfl rfl rfl rfl (law11_Hung_ok (⟨numbers,r.1,r.2⟩ : kit_Stream) 10 h_numbers (hc.pick k0) hr_1) ?_
 rintro _ w ⟨p_1,c_1,rfl,hc⟩
 refine ⟨_,rfl,fun a hf => ?_⟩
 refine stAl (cs := [i6 0,i6 0,i6 0,i6 0,.slice none 0 0]) hf hc rfl rfl zr_54 rfl fun b_2 a w hf hc => stSt (vs := [i6 r_1.1.Car,i6 r_1.1.Wide,i6 r_1.1.Sag,i6 r_1.1.Most,.slice p_1 r_1.1.Rides.length c_1]) hf hc rfl rfl rfl rfl sz_54 rfl rfl u0 fun w hc => cNil ?_
 refine h2 _ _ ?_
 refine wp_seq_k fun K3 h3 => cReg ?_
 refine stP hf rfl rfl rfl (pM rfl) fun a hf => ?_
 obtain ⟨r_2,hr_2,hF⟩ := bnd_some hF
 refine stC (vs := [.slice weights_p weights.length weights_c]) (caps := []) hf rfl rfl rfl en_42 rfl rfl rfl rfl (kit_New_ok weights h_weights hc hr_2) ?_
 rintro _ w ⟨b_3,rfl,hc⟩
 refine ⟨_,rfl,fun a hf => ?_⟩
 refine stP hf rfl rfl rfl (pA rfl) fun a hf => cNil ?_
 refine h3 _ _ ?_
 refine wp_seq_k fun K4 h4 => cReg ?_
 refine stE hf hc rfl rfl rfl (eLdN (vs := [i6 r_1.1.Car,i6 r_1.1.Wide,i6 r_1.1.Sag,i6 r_1.1.Most,.slice p_1 r_1.1.Rides.length c_1]) ag_54 rfl rfl (cells_box (n := 5) m1 rfl)) fun a w hf hc => ?_
 obtain ⟨r_3,hr_3,hF⟩ := bnd_some hF
 obtain ⟨G1,hle1,hrd1,hc,hth1⟩ := lend hc k2
 refine stC (vs := [.agg #[i6 r_1.1.Car,i6 r_1.1.Wide,i6 r_1.1.Sag,i6 r_1.1.Most,.slice p_1 r_1.1.Rides.length c_1]]) (caps := []) hf rfl rfl rfl en_38 rfl rfl rfl rfl (crew_Queue_ok r_1.1 hrd1 hc hr_3) ?_
 rintro _ w ⟨p_2,c_2,rfl,hc⟩
 refine ⟨_,rfl,fun a hf => ?_⟩
 replace hc := hth1 _ _ hc
 refine stP hf rfl rfl rfl (pM rfl) fun a hf => stP hf rfl rfl rfl (pX rfl rfl) fun a hf => stP hf rfl rfl rfl (pX rfl rfl) fun a hf => stP hf rfl rfl rfl (pA rfl) fun a hf => stP hf rfl rfl rfl (pA rfl) fun a hf => cNil ?_
 refine h4 _ _ ?_
 refine wp_seq_k fun K5 h5 => wp_seq_k fun K6 h6 => cReg ?_
 refine stP hf rfl rfl rfl (pM rfl) fun a hf => stP hf rfl rfl rfl (pNe rfl rfl) fun a hf => cNil ?_
 refine h6 _ _ ?_
 refine cCond (b := (r_3.2 != 0)) hf rfl (fun hb => ?_) (fun hb => ?_)
 ·replace hF := condT hb hF
  clear hb
  refine wp_seq_k fun K7 h7 => cReg ?_
  refine stP hf rfl rfl rfl (pFA fa_54_0 rfl) fun a hf => stE hf hc rfl rfl rfl (eLd1 sc_3 rfl (cell_box m3 rfl)) fun a w hf hc => stP hf rfl rfl rfl (pFA fa_54_1 rfl) fun a hf => stE hf hc rfl rfl rfl (eLd1 sc_3 rfl (cell_box m3 rfl)) fun a w hf hc => stP hf rfl rfl rfl (pMul rfl rfl) fun a hf => stP hf rfl rfl rfl (pMul rfl rfl) fun a hf => stP hf rfl rfl rfl (pFA fa_54_3 rfl) fun a hf => stE hf hc rfl rfl rfl (eLd1 sc_3 rfl (cell_box m3 rfl)) fun a w hf hc => stP hf rfl rfl rfl (pFA fa_54_2 rfl) fun a hf => stE hf hc rfl rfl rfl (eLd1 sc_3 rfl (cell_box m3 rfl)) fun a w hf hc => stP hf rfl rfl rfl (pMul rfl rfl) fun a hf => stP hf rfl rfl rfl (pGt rfl rfl) fun a hf => stP hf rfl rfl rfl (pA rfl) fun a hf => ?_
  refine cNil ?_
  refine h7 _ _ ?_
  refine wp_seq_k fun K8 h8 => wp_seq_k fun K9 h9 => cReg ?_
  refine stP hf rfl rfl rfl (pFA fa_54_4 rfl) fun a hf => stE hf hc rfl rfl rfl (eLd1 sc_52 rfl (cell_box m3 rfl)) fun a w hf hc => stP hf rfl rfl rfl (pLenS Tryz.underlying52 rfl) fun a hf => stP hf rfl rfl rfl (pM rfl) fun a hf => cNil ?_
  refine h9 _ _ ?_
  refine wp_block ?_
  obtain ⟨x10,hx10,hF⟩ := bnd_some hF
  let S10 : (Bool × Int) → Act → World → Prop := (fun (zz : Bool × Int) a w => ∃ (p_3 : Option Addr) (c_3 : Nat),Has 318 a [(7,pq b_2),(10,i6 r_3.2),(11,.bool zz.1),(54,.slice p_3 r_1.1.Rides.length c_3),(55,i6 ((r_1.1.Rides.length : Nat) : Int)),(56,i6 zz.2)] ∧ Ctx G (.row p_3 c_3 (r_1.1.Rides.map enc_crew_Ride) 72 4::.box b_2 [i6 r_1.1.Car,i6 r_1.1.Wide,i6 r_1.1.Sag,i6 r_1.1.Most,.slice p_3 r_1.1.Rides.length c_3] 54::Lf) w)
  have hr10 : ∀ (zz : Bool × Int) a w,x10 = .go zz → S10 zz a w → K8 a w := by
   rintro ⟨heavy,x⟩ a w rfl ⟨p_3,c_3,hf,hc⟩
   replace hF := exK_go hF
   refine h8 _ _ ?_
   refine wp_seq_k fun K11 h11 => cReg ?_
   refine stP hf rfl rfl rfl (pM rfl) fun a hf => stP hf rfl rfl rfl (pEq rfl rfl) fun a hf => stP hf rfl rfl rfl (pM rfl) fun a hf => stCut 2 (fun a w => Has 318 a [(10,i6 r_3.2),(11,.bool heavy),(80,i6 r_3.2),(81,.bool (r_3.2 == 6)),(82,.bool (r_3.2 == 6)),(84,.bool ((r_3.2 == 6) && heavy))] ∧ Ctx G (.row p_3 c_3 (r_1.1.Rides.map enc_crew_Ride) 72 4::.box b_2 [i6 r_1.1.Car,i6 r_1.1.Wide,i6 r_1.1.Sag,i6 r_1.1.Most,.slice p_3 r_1.1.Rides.length c_3] 54::Lf) w) ?_ ?_
   ·cases hb : (r_3.2 == 6)
    ·rw [hb] at hf
     refine stS hf rfl rfl rfl fun a hf => stP hf rfl rfl rfl (pPf rfl rfl) fun a hf => cNil ⟨hf.kp rfl,hc⟩
    ·rw [hb] at hf
     refine stP hf rfl rfl rfl (pM rfl) fun a hf => stP hf rfl rfl rfl (pPt rfl rfl) fun a hf => cNil ⟨hf.kp rfl,hc⟩
   intro a w ⟨hf,hc⟩
   refine stP hf rfl rfl rfl (pM rfl) fun a hf => ?_
   obtain ⟨t_1,ht_1,hF⟩ := bnd_some hF
   refine stCut 2 (fun a w => Has 318 a [(10,i6 r_3.2),(11,.bool heavy),(80,i6 r_3.2),(81,.bool (r_3.2 == 6)),(82,.bool (r_3.2 == 6)),(84,.bool ((r_3.2 == 6) && heavy)),(85,.bool ((r_3.2 == 6) && heavy)),(87,.bool t_1)] ∧ Ctx G (.row p_3 c_3 (r_1.1.Rides.map enc_crew_Ride) 72 4::.box b_2 [i6 r_1.1.Car,i6 r_1.1.Wide,i6 r_1.1.Sag,i6 r_1.1.Most,.slice p_3 r_1.1.Rides.length c_3] 54::Lf) w) ?_ ?_
   ·cases hb : ((r_3.2 == 6) && heavy)
    ·rw [hb] at hf
     have hF := condF hb ht_1
     obtain rfl := sj hF
     refine stS hf rfl rfl rfl fun a hf => stP hf rfl rfl rfl (pPf rfl rfl) fun a hf => cNil ⟨hf.kp rfl,hc⟩
    ·rw [hb] at hf
     have hF := condT hb ht_1
     obtain ⟨r_4,hr_4,hF⟩ := bnd_some hF
     refine stE hf hc rfl rfl rfl (eC (v := .bool r_4) (vs := []) (caps := []) en_15 rfl rfl rfl rfl (fun w hc => law11_awake_ok hc hr_4)) fun a w hf hc => stP hf rfl rfl rfl (pPt rfl rfl) fun a hf => ?_
     obtain rfl := sj hF
     exact cNil ⟨hf.kp rfl,hc⟩
   intro a w ⟨hf,hc⟩
   refine stP hf rfl rfl rfl (pA rfl) fun a hf => cNil ?_
   refine h11 _ _ ?_
   refine wp_ret ?_
   refine xThenR ?_
   obtain rfl := sj hF
   replace hc := hc.drop k1
   replace hc := hc.drop k0
   exact fnOut1 (by simp) rfl Tryz.results7 hf hc (show look _ 6 = _ from rfl) ⟨rfl,hc⟩
  have ho10 : ∀ r,x10 = .out r → r = res := by
   rintro r rfl
   exact sj hF
  replace hc := hc.drop k4
  replace hc := hc.drop k2
  replace hc := hc.drop k1
  refine cLoop N (loopW (S := S10) (x := x10) ?_ N ((decide ((W (r_1.1.Most * r_1.1.Sag)) < (W ((W (r_1.1.Car * r_1.1.Wide)) * 25)))),0) _ _ ⟨p_1,c_1,hf.kp rfl,hc⟩ hx10)
  clear hF hf hc
  rintro ⟨heavy,x⟩ st10 a w KB10 ⟨p_3,c_3,hf,hc⟩ hF hfin10 hK10
  unfold law11_CrewCarried_b10 at hF
  refine wp_seq_k fun K12 h12 => cReg ?_
  refine stP hf rfl rfl rfl (pLt rfl rfl) fun a hf => cNil ?_
  refine h12 _ _ ?_
  refine wp_seq_k fun K13 h13 => cCond (b := (decide (x < ((r_1.1.Rides.length : Nat) : Int)))) hf rfl (fun hb => ?_) (fun hb => ?_)
  ·replace hF := condT hb hF
   clear hb
   refine wp_skip ?_
   refine h13 _ _ ?_
   refine wp_seq_k fun K14 h14 => wp_block ?_
   refine wp_seq_k fun K15 h15 => cReg ?_
   obtain ⟨e_1,he_1,hF⟩ := bnd_some hF
   obtain ⟨g,rfl,qa,qr⟩ := row_atm hc m0 he_1
   refine stP hf rfl rfl rfl (pIA Tryz.underlying52 sz_72 rfl rfl qa) fun a hf => stE hf hc rfl rfl rfl (eLdN (vs := [i6 e_1.From,i6 e_1.Long,i6 e_1.Weight.Lo,i6 e_1.Weight.Hi]) ag_72 rfl rfl (cells_rw (sz := 4) (i := x.toNat) m0 qr (n := 4) (o' := 0) rfl)) fun a w hf hc => stAl (cs := [i6 0,i6 0,i6 0,i6 0]) hf hc rfl rfl zr_72 rfl fun b_4 a w hf hc => stSt (vs := [i6 e_1.From,i6 e_1.Long,i6 e_1.Weight.Lo,i6 e_1.Weight.Hi]) hf hc rfl rfl rfl rfl sz_72 rfl rfl u0 fun w hc => cNil ?_
   refine h15 _ _ ?_
   refine cReg ?_
   refine stP hf rfl rfl rfl (pM rfl) fun a hf => stP hf rfl rfl rfl (pM rfl) fun a hf => stCut 17 (fun a w => Has 318 a [(7,pq b_2),(10,i6 r_3.2),(11,.bool heavy),(54,.slice (some ⟨g,0,none⟩) r_1.1.Rides.length c_3),(55,i6 ((r_1.1.Rides.length : Nat) : Int)),(56,i6 x),(13,pq b_4),(60,.bool heavy),(61,.bool heavy),(78,.bool (heavy || (decide ((W (r_1.1.Most * r_1.1.Sag)) < (W ((W ((W (r_1.1.Car + e_1.Weight.Hi)) * r_1.1.Wide)) * 25))))))] ∧ Ctx G (.box b_4 [i6 e_1.From,i6 e_1.Long,i6 e_1.Weight.Lo,i6 e_1.Weight.Hi] 72::.row (some ⟨g,0,none⟩) c_3 (r_1.1.Rides.map enc_crew_Ride) 72 4::.box b_2 [i6 r_1.1.Car,i6 r_1.1.Wide,i6 r_1.1.Sag,i6 r_1.1.Most,.slice (some ⟨g,0,none⟩) r_1.1.Rides.length c_3] 54::Lf) w) ?_ ?_
   ·cases hb : heavy
    ·rw [hb] at hf
     try rw [hb] at hc
     refine stP hf rfl rfl rfl (pFA fa_54_0 rfl) fun a hf => stE hf hc rfl rfl rfl (eLd1 sc_3 rfl (cell_box m2 rfl)) fun a w hf hc => stP hf rfl rfl rfl (pFA fa_72_2 rfl) fun a hf => stP hf rfl rfl rfl (pFA fa_29_1 rfl) fun a hf => stE hf hc rfl rfl rfl (eLd1 sc_3 rfl (cell_box m0 rfl)) fun a w hf hc => stP hf rfl rfl rfl (pAdd rfl rfl) fun a hf => stP hf rfl rfl rfl (pFA fa_54_1 rfl) fun a hf => stE hf hc rfl rfl rfl (eLd1 sc_3 rfl (cell_box m2 rfl)) fun a w hf hc => stP hf rfl rfl rfl (pMul rfl rfl) fun a hf => stP hf rfl rfl rfl (pMul rfl rfl) fun a hf => stP hf rfl rfl rfl (pFA fa_54_3 rfl) fun a hf => stE hf hc rfl rfl rfl (eLd1 sc_3 rfl (cell_box m2 rfl)) fun a w hf hc => stP hf rfl rfl rfl (pFA fa_54_2 rfl) fun a hf => ?_
     refine stE hf hc rfl rfl rfl (eLd1 sc_3 rfl (cell_box m2 rfl)) fun a w hf hc => stP hf rfl rfl rfl (pMul rfl rfl) fun a hf => stP hf rfl rfl rfl (pGt rfl rfl) fun a hf => stP hf rfl rfl rfl (pPf rfl rfl) fun a hf => cNil ⟨hf.kp rfl,hc⟩
    ·rw [hb] at hf
     try rw [hb] at hc
     refine stS hf rfl rfl rfl fun a hf => stS hf rfl rfl rfl fun a hf => stS hf rfl rfl rfl fun a hf => stS hf rfl rfl rfl fun a hf => stS hf rfl rfl rfl fun a hf => stS hf rfl rfl rfl fun a hf => stS hf rfl rfl rfl fun a hf => stS hf rfl rfl rfl fun a hf => stS hf rfl rfl rfl fun a hf => stS hf rfl rfl rfl fun a hf => stS hf rfl rfl rfl fun a hf => stS hf rfl rfl rfl fun a hf => stS hf rfl rfl rfl fun a hf => ?_
     refine stS hf rfl rfl rfl fun a hf => stS hf rfl rfl rfl fun a hf => stS hf rfl rfl rfl fun a hf => stP hf rfl rfl rfl (pPt rfl rfl) fun a hf => cNil ⟨hf.kp rfl,hc⟩
   intro a w ⟨hf,hc⟩
   refine stP hf rfl rfl rfl (pA rfl) fun a hf => cNil ?_
   refine h14 _ _ ?_
   refine cReg ?_
   refine stP hf rfl rfl rfl (pAdd rfl rfl) fun a hf => stP hf rfl rfl rfl (pM rfl) fun a hf => cNil ?_
   replace hc := hc.drop k0
   exact hK10 ((heavy || (decide ((W (r_1.1.Most * r_1.1.Sag)) < (W ((W ((W (r_1.1.Car + e_1.Weight.Hi)) * r_1.1.Wide)) * 25))))),W (x + 1)) _ _ (sj hF).symm ⟨(some ⟨g,0,none⟩),c_3,hf.kp rfl,hc⟩
  ·replace hF := condF hb hF
   clear hb
   refine wp_exit ?_
   refine xThen ?_
   refine xThen ?_
   have he := sj hF
   rw [← he] at hfin10
   refine cHit ?_
   exact hr10 _ _ _ hfin10 ⟨p_3,c_3,hf.kp rfl,hc⟩
 ·replace hF := condF hb hF
  clear hb
  refine wp_skip ?_
  refine h5 _ _ ?_
  refine wp_seq_k fun K16 h16 => wp_seq_k fun K17 h17 => cReg ?_
  refine stP hf rfl rfl rfl (pM rfl) fun a hf => stP hf rfl rfl rfl (pLenS Tryz.underlying25 rfl) fun a hf => stP hf rfl rfl rfl (pFA fa_54_4 rfl) fun a hf => stE hf hc rfl rfl rfl (eLd1 sc_52 rfl (cell_box m3 rfl)) fun a w hf hc => stP hf rfl rfl rfl (pLenS Tryz.underlying52 rfl) fun a hf => stP hf rfl rfl rfl (pNe rfl rfl) fun a hf => cNil ?_
  refine h17 _ _ ?_
  refine cCond (b := (((r_3.1.length : Nat) : Int) != ((r_1.1.Rides.length : Nat) : Int))) hf rfl (fun hb => ?_) (fun hb => ?_)
  ·replace hF := condT hb hF
   clear hb
   refine wp_seq_k fun K18 h18 => cReg ?_
   refine stP hf rfl rfl rfl (pA rfl) fun a hf => cNil ?_
   refine h18 _ _ ?_
   refine wp_ret ?_
   refine xThenR ?_
   obtain rfl := sj hF
   replace hc := hc.drop k4
   replace hc := hc.drop k3
   replace hc := hc.drop k2
   replace hc := hc.drop k1
   replace hc := hc.drop k0
   exact fnOut1 (by simp) rfl Tryz.results7 hf hc (show look _ 6 = _ from rfl) ⟨rfl,hc⟩
  ·replace hF := condF hb hF
   clear hb
   refine wp_skip ?_
   refine h16 _ _ ?_
   refine wp_seq_k fun K19 h19 => cReg ?_
   refine stE hf hc rfl rfl rfl (eLdN (vs := [i6 r_1.1.Car,i6 r_1.1.Wide,i6 r_1.1.Sag,i6 r_1.1.Most,.slice p_1 r_1.1.Rides.length c_1]) ag_54 rfl rfl (cells_box (n := 5) m3 rfl)) fun a w hf hc => ?_
   obtain ⟨r_5,hr_5,hF⟩ := bnd_some hF
   obtain ⟨G1,hle1,hrd1,hc,hth1⟩ := lend hc k0
   refine stC (vs := [.agg #[i6 r_1.1.Car,i6 r_1.1.Wide,i6 r_1.1.Sag,i6 r_1.1.Most,.slice p_1 r_1.1.Rides.length c_1]]) (caps := []) hf rfl rfl rfl en_30 rfl rfl rfl rfl (law11_CopyCable_ok r_1.1 hrd1 hc hr_5) ?_
   rintro _ w ⟨p_4,c_4,rfl,hc⟩
   refine ⟨_,rfl,fun a hf => ?_⟩
   replace hc := hth1 _ _ hc
   refine stAl (cs := [i6 0,i6 0,i6 0,i6 0,.slice none 0 0]) hf hc rfl rfl zr_54 rfl fun b_5 a w hf hc => stSt (vs := [i6 r_5.Car,i6 r_5.Wide,i6 r_5.Sag,i6 r_5.Most,.slice p_4 r_5.Rides.length c_4]) hf hc rfl rfl rfl rfl sz_54 rfl rfl u0 fun w hc => cNil ?_
   refine h19 _ _ ?_
   refine wp_seq_k fun K20 h20 => wp_seq_k fun K21 h21 => cReg ?_
   refine stP hf rfl rfl rfl (pM rfl) fun a hf => stP hf rfl rfl rfl (pLenS Tryz.underlying25 rfl) fun a hf => stP hf rfl rfl rfl (pM rfl) fun a hf => cNil ?_
   refine h21 _ _ ?_
   refine wp_block ?_
   obtain ⟨x22,hx22,hF⟩ := bnd_some hF
   let S22 : (Int × (List crew_Ride)) → Act → World → Prop := (fun (zz : Int × (List crew_Ride)) a w => ∃ (p_5 : Option Addr) (c_5 : Nat) (p_6 : Option Addr) (c_6 : Nat) (p_7 : Option Addr) (c_7 : Nat),Has 318 a [(2,.int .u8 which),(7,pq b_2),(8,pq b_3),(9,.slice p_5 r_3.1.length c_5),(14,pq b_5),(97,i6 ((r_3.1.length : Nat) : Int)),(98,i6 zz.1)] ∧ Ctx G (.box b_5 [i6 r_5.Car,i6 r_5.Wide,i6 r_5.Sag,i6 r_5.Most,.slice p_7 zz.2.length c_7] 54::.row p_6 c_6 (r_1.1.Rides.map enc_crew_Ride) 72 4::.row p_7 c_7 (zz.2.map enc_crew_Ride) 72 4::.row p_5 c_5 (r_3.1.map encI_i64) 3 1::.box b_3 [.slice weights_p weights.length weights_c,i6 r_2.1,i6 r_2.2] 165::.box b_2 [i6 r_1.1.Car,i6 r_1.1.Wide,i6 r_1.1.Sag,i6 r_1.1.Most,.slice p_6 r_1.1.Rides.length c_6] 54::Lf) w)
   have hr22 : ∀ (zz : Int × (List crew_Ride)) a w,x22 = .go zz → S22 zz a w → K20 a w := by
    rintro ⟨x_1,x_2⟩ a w rfl ⟨p_5,c_5,p_6,c_6,p_7,c_7,hf,hc⟩
    replace hF := exK_go hF
    refine h20 _ _ ?_
    refine wp_seq_k fun K23 h23 => cReg ?_
    refine stE hf hc rfl rfl rfl (eLdN (vs := [i6 r_5.Car,i6 r_5.Wide,i6 r_5.Sag,i6 r_5.Most,.slice p_7 x_2.length c_7]) ag_54 rfl rfl (cells_box (n := 5) m0 rfl)) fun a w hf hc => ?_
    obtain ⟨r_6,hr_6,hF⟩ := bnd_some hF
    refine stE hf hc rfl rfl rfl (eC (v := .tuple #[i6 r_6.1,i6 r_6.2.1,i6 r_6.2.2]) (vs := [.agg #[i6 r_5.Car,i6 r_5.Wide,i6 r_5.Sag,i6 r_5.Most,.slice p_7 x_2.length c_7]]) (caps := []) en_36 rfl rfl rfl rfl (fun w hc => by obtain ⟨G1,hle1,hrd1,hc,hth1⟩ := lend hc k2; exact (crew_Beyond_ok (⟨r_5.Car,r_5.Wide,r_5.Sag,r_5.Most,x_2⟩ : crew_Cable) hrd1 hc hr_6).mono fun e w h => ⟨h.1,((hth1 _ _ h.2).unpick k2)⟩)) fun a w hf hc => stP hf rfl rfl rfl (pM rfl) fun a hf => stP hf rfl rfl rfl (pX rfl rfl) fun a hf => stP hf rfl rfl rfl (pX rfl rfl) fun a hf => stP hf rfl rfl rfl (pX rfl rfl) fun a hf => stP hf rfl rfl rfl (pA rfl) fun a hf => stP hf rfl rfl rfl (pA rfl) fun a hf => stP hf rfl rfl rfl (pA rfl) fun a hf => cNil ?_
    refine h23 _ _ ?_
    refine wp_seq_k fun K24 h24 => cReg ?_
    refine stE hf hc rfl rfl rfl (eLdN (vs := [i6 r_5.Car,i6 r_5.Wide,i6 r_5.Sag,i6 r_5.Most,.slice p_7 x_2.length c_7]) ag_54 rfl rfl (cells_box (n := 5) m0 rfl)) fun a w hf hc => ?_
    obtain ⟨r_7,hr_7,hF⟩ := bnd_some hF
    obtain ⟨G1,hle1,hrd1,hc,hth1⟩ := lend hc k2
    refine stC (vs := [.agg #[i6 r_5.Car,i6 r_5.Wide,i6 r_5.Sag,i6 r_5.Most,.slice p_7 x_2.length c_7]]) (caps := []) hf rfl rfl rfl en_38 rfl rfl rfl rfl (crew_Queue_ok (⟨r_5.Car,r_5.Wide,r_5.Sag,r_5.Most,x_2⟩ : crew_Cable) hrd1 hc hr_7) ?_
    rintro _ w ⟨p_8,c_8,rfl,hc⟩
    refine ⟨_,rfl,fun a hf => ?_⟩
    replace hc := hth1 _ _ hc
    refine stP hf rfl rfl rfl (pM rfl) fun a hf => stP hf rfl rfl rfl (pX rfl rfl) fun a hf => stP hf rfl rfl rfl (pX rfl rfl) fun a hf => stP hf rfl rfl rfl (pA rfl) fun a hf => stP hf rfl rfl rfl (pA rfl) fun a hf => cNil ?_
    refine h24 _ _ ?_
    refine wp_seq_k fun K25 h25 => wp_seq_k fun K26 h26 => cReg ?_
    refine stP hf rfl rfl rfl (pM rfl) fun a hf => stP hf rfl rfl rfl (pNe rfl rfl) fun a hf => stP hf rfl rfl rfl (pM rfl) fun a hf => stCut 3 (fun a w => Has 318 a [(2,.int .u8 which),(7,pq b_2),(8,pq b_3),(9,.slice p_5 r_3.1.length c_5),(14,pq b_5),(16,i6 r_6.1),(17,i6 r_6.2.1),(10,i6 r_6.2.2),(18,.slice p_8 r_7.1.length c_8),(19,i6 r_7.2),(156,i6 r_6.2.2),(157,.bool (r_6.2.2 != 0)),(158,.bool (r_6.2.2 != 0)),(161,.bool ((r_6.2.2 != 0) || (r_7.2 != 0)))] ∧ Ctx G (.row p_7 c_7 (x_2.map enc_crew_Ride) 72 4::.row p_8 c_8 (r_7.1.map encI_i64) 3 1::.box b_5 [i6 r_5.Car,i6 r_5.Wide,i6 r_5.Sag,i6 r_5.Most,.slice p_7 x_2.length c_7] 54::.row p_6 c_6 (r_1.1.Rides.map enc_crew_Ride) 72 4::.row p_5 c_5 (r_3.1.map encI_i64) 3 1::.box b_3 [.slice weights_p weights.length weights_c,i6 r_2.1,i6 r_2.2] 165::.box b_2 [i6 r_1.1.Car,i6 r_1.1.Wide,i6 r_1.1.Sag,i6 r_1.1.Most,.slice p_6 r_1.1.Rides.length c_6] 54::Lf) w) ?_ ?_
    ·cases hb : (r_6.2.2 != 0)
     ·rw [hb] at hf
      refine stP hf rfl rfl rfl (pM rfl) fun a hf => stP hf rfl rfl rfl (pNe rfl rfl) fun a hf => stP hf rfl rfl rfl (pPf rfl rfl) fun a hf => cNil ⟨hf.kp rfl,hc⟩
     ·rw [hb] at hf
      refine stS hf rfl rfl rfl fun a hf => stS hf rfl rfl rfl fun a hf => stP hf rfl rfl rfl (pPt rfl rfl) fun a hf => cNil ⟨hf.kp rfl,hc⟩
    intro a w ⟨hf,hc⟩
    refine stP hf rfl rfl rfl (pM rfl) fun a hf => stCut 3 (fun a w => Has 318 a [(2,.int .u8 which),(7,pq b_2),(8,pq b_3),(9,.slice p_5 r_3.1.length c_5),(14,pq b_5),(16,i6 r_6.1),(17,i6 r_6.2.1),(10,i6 r_6.2.2),(18,.slice p_8 r_7.1.length c_8),(19,i6 r_7.2),(156,i6 r_6.2.2),(157,.bool (r_6.2.2 != 0)),(158,.bool (r_6.2.2 != 0)),(161,.bool ((r_6.2.2 != 0) || (r_7.2 != 0))),(162,.bool ((r_6.2.2 != 0) || (r_7.2 != 0))),(165,.bool (((r_6.2.2 != 0) || (r_7.2 != 0)) || (r_6.1 != (-1))))] ∧ Ctx G (.row p_7 c_7 (x_2.map enc_crew_Ride) 72 4::.row p_8 c_8 (r_7.1.map encI_i64) 3 1::.box b_5 [i6 r_5.Car,i6 r_5.Wide,i6 r_5.Sag,i6 r_5.Most,.slice p_7 x_2.length c_7] 54::.row p_6 c_6 (r_1.1.Rides.map enc_crew_Ride) 72 4::.row p_5 c_5 (r_3.1.map encI_i64) 3 1::.box b_3 [.slice weights_p weights.length weights_c,i6 r_2.1,i6 r_2.2] 165::.box b_2 [i6 r_1.1.Car,i6 r_1.1.Wide,i6 r_1.1.Sag,i6 r_1.1.Most,.slice p_6 r_1.1.Rides.length c_6] 54::Lf) w) ?_ ?_
    ·cases hb : ((r_6.2.2 != 0) || (r_7.2 != 0))
     ·rw [hb] at hf
      refine stP hf rfl rfl rfl (pM rfl) fun a hf => stP hf rfl rfl rfl (pNe rfl rfl) fun a hf => stP hf rfl rfl rfl (pPf rfl rfl) fun a hf => cNil ⟨hf.kp rfl,hc⟩
     ·rw [hb] at hf
      refine stS hf rfl rfl rfl fun a hf => stS hf rfl rfl rfl fun a hf => stP hf rfl rfl rfl (pPt rfl rfl) fun a hf => cNil ⟨hf.kp rfl,hc⟩
    intro a w ⟨hf,hc⟩
    refine stP hf rfl rfl rfl (pM rfl) fun a hf => stCut 3 (fun a w => Has 318 a [(2,.int .u8 which),(7,pq b_2),(8,pq b_3),(9,.slice p_5 r_3.1.length c_5),(14,pq b_5),(16,i6 r_6.1),(17,i6 r_6.2.1),(10,i6 r_6.2.2),(18,.slice p_8 r_7.1.length c_8),(19,i6 r_7.2),(156,i6 r_6.2.2),(157,.bool (r_6.2.2 != 0)),(158,.bool (r_6.2.2 != 0)),(161,.bool ((r_6.2.2 != 0) || (r_7.2 != 0))),(162,.bool ((r_6.2.2 != 0) || (r_7.2 != 0))),(165,.bool (((r_6.2.2 != 0) || (r_7.2 != 0)) || (r_6.1 != (-1)))),(166,.bool (((r_6.2.2 != 0) || (r_7.2 != 0)) || (r_6.1 != (-1)))),(169,.bool ((((r_6.2.2 != 0) || (r_7.2 != 0)) || (r_6.1 != (-1))) || (r_6.2.1 != (-1))))] ∧ Ctx G (.row p_7 c_7 (x_2.map enc_crew_Ride) 72 4::.row p_8 c_8 (r_7.1.map encI_i64) 3 1::.box b_5 [i6 r_5.Car,i6 r_5.Wide,i6 r_5.Sag,i6 r_5.Most,.slice p_7 x_2.length c_7] 54::.row p_6 c_6 (r_1.1.Rides.map enc_crew_Ride) 72 4::.row p_5 c_5 (r_3.1.map encI_i64) 3 1::.box b_3 [.slice weights_p weights.length weights_c,i6 r_2.1,i6 r_2.2] 165::.box b_2 [i6 r_1.1.Car,i6 r_1.1.Wide,i6 r_1.1.Sag,i6 r_1.1.Most,.slice p_6 r_1.1.Rides.length c_6] 54::Lf) w) ?_ ?_
    ·cases hb : (((r_6.2.2 != 0) || (r_7.2 != 0)) || (r_6.1 != (-1)))
     ·rw [hb] at hf
      refine stP hf rfl rfl rfl (pM rfl) fun a hf => stP hf rfl rfl rfl (pNe rfl rfl) fun a hf => stP hf rfl rfl rfl (pPf rfl rfl) fun a hf => cNil ⟨hf.kp rfl,hc⟩
     ·rw [hb] at hf
      refine stS hf rfl rfl rfl fun a hf => stS hf rfl rfl rfl fun a hf => stP hf rfl rfl rfl (pPt rfl rfl) fun a hf => cNil ⟨hf.kp rfl,hc⟩
    intro a w ⟨hf,hc⟩
    refine stP hf rfl rfl rfl (pM rfl) fun a hf => ?_
    obtain ⟨t_2,ht_2,hF⟩ := bnd_some hF
    refine stCut 5 (fun a w => Has 318 a [(2,.int .u8 which),(7,pq b_2),(8,pq b_3),(9,.slice p_5 r_3.1.length c_5),(14,pq b_5),(16,i6 r_6.1),(17,i6 r_6.2.1),(10,i6 r_6.2.2),(18,.slice p_8 r_7.1.length c_8),(19,i6 r_7.2),(156,i6 r_6.2.2),(157,.bool (r_6.2.2 != 0)),(158,.bool (r_6.2.2 != 0)),(161,.bool ((r_6.2.2 != 0) || (r_7.2 != 0))),(162,.bool ((r_6.2.2 != 0) || (r_7.2 != 0))),(165,.bool (((r_6.2.2 != 0) || (r_7.2 != 0)) || (r_6.1 != (-1)))),(166,.bool (((r_6.2.2 != 0) || (r_7.2 != 0)) || (r_6.1 != (-1)))),(169,.bool ((((r_6.2.2 != 0) || (r_7.2 != 0)) || (r_6.1 != (-1))) || (r_6.2.1 != (-1)))),(170,.bool ((((r_6.2.2 != 0) || (r_7.2 != 0)) || (r_6.1 != (-1))) || (r_6.2.1 != (-1)))),(175,.bool t_2)] ∧ Ctx G (.row p_7 c_7 (x_2.map enc_crew_Ride) 72 4::.row p_8 c_8 (r_7.1.map encI_i64) 3 1::.box b_5 [i6 r_5.Car,i6 r_5.Wide,i6 r_5.Sag,i6 r_5.Most,.slice p_7 x_2.length c_7] 54::.row p_6 c_6 (r_1.1.Rides.map enc_crew_Ride) 72 4::.row p_5 c_5 (r_3.1.map encI_i64) 3 1::.box b_3 [.slice weights_p weights.length weights_c,i6 r_2.1,i6 r_2.2] 165::.box b_2 [i6 r_1.1.Car,i6 r_1.1.Wide,i6 r_1.1.Sag,i6 r_1.1.Most,.slice p_6 r_1.1.Rides.length c_6] 54::Lf) w) ?_ ?_
    ·cases hb : ((((r_6.2.2 != 0) || (r_7.2 != 0)) || (r_6.1 != (-1))) || (r_6.2.1 != (-1)))
     ·rw [hb] at hf
      have hF := condF hb ht_2
      refine stP hf rfl rfl rfl (pM rfl) fun a hf => stP hf rfl rfl rfl (pM rfl) fun a hf => ?_
      obtain ⟨r_8,hr_8,hF⟩ := bnd_some hF
      refine stE hf hc rfl rfl rfl (eC (v := .bool r_8) (vs := [.slice p_8 r_7.1.length c_8,.slice p_5 r_3.1.length c_5]) (caps := []) en_29 rfl rfl rfl rfl (fun w hc => by obtain ⟨G1,hle1,hrd1,hc,hth1⟩ := lend hc k1; obtain ⟨G2,hle2,hrd2,hc,hth2⟩ := lend hc k3; exact (kit_Same_int_ok r_7.1 r_3.1 (hrd1.mono hle2) hrd2 hc hr_8).mono fun e w h => ⟨h.1,((hth1 _ _ ((hth2 _ _ h.2).unpick k3)).unpick k1)⟩)) fun a w hf hc => stP hf rfl rfl rfl (pNot rfl) fun a hf => stP hf rfl rfl rfl (pPf rfl rfl) fun a hf => ?_
      obtain rfl := sj hF
      exact cNil ⟨hf.kp rfl,hc⟩
     ·rw [hb] at hf
      have hF := condT hb ht_2
      obtain rfl := sj hF
      refine stS hf rfl rfl rfl fun a hf => stS hf rfl rfl rfl fun a hf => stS hf rfl rfl rfl fun a hf => stS hf rfl rfl rfl fun a hf => stP hf rfl rfl rfl (pPt rfl rfl) fun a hf => cNil ⟨hf.kp rfl,hc⟩
    intro a w ⟨hf,hc⟩
    refine cNil ?_
    refine h26 _ _ ?_
    refine cCond (b := t_2) hf rfl (fun hb => ?_) (fun hb => ?_)
    ·replace hF := condT hb hF
     clear hb
     refine wp_seq_k fun K27 h27 => cReg ?_
     refine stP hf rfl rfl rfl (pA rfl) fun a hf => cNil ?_
     refine h27 _ _ ?_
     refine wp_ret ?_
     refine xThenR ?_
     obtain rfl := sj hF
     replace hc := hc.drop k6
     replace hc := hc.drop k5
     replace hc := hc.drop k4
     replace hc := hc.drop k3
     replace hc := hc.drop k2
     replace hc := hc.drop k1
     replace hc := hc.drop k0
     exact fnOut1 (by simp) rfl Tryz.results7 hf hc (show look _ 6 = _ from rfl) ⟨rfl,hc⟩
    ·replace hF := condF hb hF
     clear hb
     refine wp_skip ?_
     refine h25 _ _ ?_
     refine wp_seq_k fun K28 h28 => wp_seq_k fun K29 h29 => cReg ?_
     refine stP hf rfl rfl rfl (pM rfl) fun a hf => stP hf rfl rfl rfl (pLenS Tryz.underlying25 rfl) fun a hf => stP hf rfl rfl rfl (pM rfl) fun a hf => cNil ?_
     refine h29 _ _ ?_
     refine wp_block ?_
     obtain ⟨x30,hx30,hF⟩ := bnd_some hF
     let S30 : (Int × Int × Int) → Act → World → Prop := (fun (zz : Int × Int × Int) a w => ∃ (p_9 : Option Addr) (c_9 : Nat) (p_10 : Option Addr) (c_10 : Nat),Has 318 a [(2,.int .u8 which),(7,pq b_2),(8,pq b_3),(9,.slice p_9 r_3.1.length c_9),(14,pq b_5),(176,.slice p_9 r_3.1.length c_9),(177,i6 ((r_3.1.length : Nat) : Int)),(178,i6 zz.1)] ∧ Ctx G (.row p_10 c_10 (x_2.map enc_crew_Ride) 72 4::.box b_5 [i6 r_5.Car,i6 r_5.Wide,i6 r_5.Sag,i6 r_5.Most,.slice p_10 x_2.length c_10] 54::.row p_6 c_6 (r_1.1.Rides.map enc_crew_Ride) 72 4::.row p_9 c_9 (r_3.1.map encI_i64) 3 1::.box b_3 [.slice weights_p weights.length weights_c,i6 zz.2.1,i6 zz.2.2] 165::.box b_2 [i6 r_1.1.Car,i6 r_1.1.Wide,i6 r_1.1.Sag,i6 r_1.1.Most,.slice p_6 r_1.1.Rides.length c_6] 54::Lf) w)
     have hr30 : ∀ (zz : Int × Int × Int) a w,x30 = .go zz → S30 zz a w → K28 a w := by
      rintro ⟨x_3,x_4,x_5⟩ a w rfl ⟨p_9,c_9,p_10,c_10,hf,hc⟩
      replace hF := exK_go hF
      refine h28 _ _ ?_
      refine wp_seq_k fun K31 h31 => wp_seq_k fun K32 h32 => cReg ?_
      refine stP hf rfl rfl rfl (pM rfl) fun a hf => stP hf rfl rfl rfl (pLenS Tryz.underlying25 rfl) fun a hf => stP hf rfl rfl rfl (pEq rfl rfl) fun a hf => cNil ?_
      refine h32 _ _ ?_
      refine cCond (b := (((r_3.1.length : Nat) : Int) == 0)) hf rfl (fun hb => ?_) (fun hb => ?_)
      ·replace hF := condT hb hF
       clear hb
       refine wp_seq_k fun K33 h33 => cReg ?_
       obtain ⟨r_9,hr_9,hF⟩ := bnd_some hF
       refine stE hf hc rfl rfl rfl (eC (v := .bool r_9) (vs := []) (caps := []) en_15 rfl rfl rfl rfl (fun w hc => law11_awake_ok hc hr_9)) fun a w hf hc => stP hf rfl rfl rfl (pA rfl) fun a hf => cNil ?_
       refine h33 _ _ ?_
       refine wp_ret ?_
       refine xThenR ?_
       obtain rfl := sj hF
       replace hc := hc.drop k5
       replace hc := hc.drop k4
       replace hc := hc.drop k3
       replace hc := hc.drop k2
       replace hc := hc.drop k1
       replace hc := hc.drop k0
       exact fnOut1 (by simp) rfl Tryz.results7 hf hc (show look _ 6 = _ from rfl) ⟨rfl,hc⟩
      ·replace hF := condF hb hF
       clear hb
       refine wp_skip ?_
       refine h31 _ _ ?_
       refine wp_seq_k fun K34 h34 => cReg ?_
       refine stP hf rfl rfl rfl (pM rfl) fun a hf => stP hf rfl rfl rfl (pCv Tryz.underlying5 Tryz.underlying3 rfl) fun a hf => stP hf rfl rfl rfl (pM rfl) fun a hf => stP hf rfl rfl rfl (pLenS Tryz.underlying25 rfl) fun a hf => ?_
       obtain ⟨un,hun,hF⟩ := bnd_some hF
       refine stP hf rfl rfl rfl (pRem rfl rfl (nz_spec hun)) fun a hf => stP hf rfl rfl rfl (pA rfl) fun a hf => cNil ?_
       refine h34 _ _ ?_
       refine wp_seq_k fun K35 h35 => wp_seq_k fun K36 h36 => ?_
       obtain ⟨e_2,he_2,hF⟩ := bnd_some hF
       obtain ⟨g_1,rfl,qa_1,qr_1⟩ := row_atm hc m3 he_2
       obtain ⟨e_3,he_3,hF⟩ := bnd_some hF
       obtain ⟨g_2,rfl,qa_2,qr_2⟩ := row_atm hc m2 he_3
       obtain ⟨t_4,ht_4,hF⟩ := bnd_some hF
       refine cQ hc follows_mx (by kernel_rfl) ?_
       refine qE hf rfl rfl rfl (Pu.ev (pM rfl)) fun a hf => qE hf rfl rfl rfl (Pu.ev (pM rfl)) fun a hf => qE hf rfl rfl rfl (Pu.ev (pIA Tryz.underlying25 sz_3 rfl rfl qa_1)) fun a hf => qE hf rfl rfl rfl (eLd1 sc_3 rfl (cell_row (sz := 1) (i := ((W (which)).tmod ((r_3.1.length : Nat) : Int)).toNat) (j := 0) m3 qr_1 rfl)) fun a hf => qE hf rfl rfl rfl (Pu.ev (pFA fa_54_4 rfl)) fun a hf => qE hf rfl rfl rfl (eLd1 sc_52 rfl (cell_box m5 rfl)) fun a hf => qE hf rfl rfl rfl (Pu.ev (pM rfl)) fun a hf => qE hf rfl rfl rfl (Pu.ev (pIA Tryz.underlying52 sz_72 rfl rfl qa_2)) fun a hf => qE hf rfl rfl rfl (Pu.ev (pFA fa_72_0 rfl)) fun a hf => qE hf rfl rfl rfl (eLd1 sc_3 rfl (cell_row (sz := 4) (i := ((W (which)).tmod ((r_3.1.length : Nat) : Int)).toNat) (j := 0) m2 qr_2 rfl)) fun a hf => qE hf rfl rfl rfl (Pu.ev (pEq rfl rfl)) fun a hf => qE hf rfl rfl rfl (Pu.ev (pM rfl)) fun a hf => qCut 15 (fun a => Has 318 a [(7,pq b_2),(9,.slice (some ⟨g_1,0,none⟩) r_3.1.length c_9),(14,pq b_5),(27,i6 ((W (which)).tmod ((r_3.1.length : Nat) : Int))),(258,.slice (some ⟨g_1,0,none⟩) r_3.1.length c_9),(259,i6 ((W (which)).tmod ((r_3.1.length : Nat) : Int))),(260,.pointer (some ⟨g_1,((W (which)).tmod ((r_3.1.length : Nat) : Int)).toNat * 1,none⟩)),(261,i6 e_2),(262,.pointer (some ⟨b_2,4,none⟩)),(263,.slice (some ⟨g_2,0,none⟩) r_1.1.Rides.length c_6),(264,i6 ((W (which)).tmod ((r_3.1.length : Nat) : Int))),(265,.pointer (some ⟨g_2,((W (which)).tmod ((r_3.1.length : Nat) : Int)).toNat * 4,none⟩)),(266,.pointer (some ⟨g_2,((W (which)).tmod ((r_3.1.length : Nat) : Int)).toNat * 4 + 0,none⟩)),(267,i6 e_3.From),(268,.bool (e_2 == e_3.From)),(269,.bool (e_2 == e_3.From)),(284,.bool t_4)]) ?_ ?_
       ·cases hb : (e_2 == e_3.From)
        ·rw [hb] at hf
         have hF := condF hb ht_4
         obtain ⟨t_3,ht_3,hF⟩ := bnd_some hF
         refine qE hf rfl rfl rfl (Pu.ev (pM rfl)) fun a hf => qE hf rfl rfl rfl (Pu.ev (pGt rfl rfl)) fun a hf => qE hf rfl rfl rfl (Pu.ev (pM rfl)) fun a hf => qCut 11 (fun a => Has 318 a [(7,pq b_2),(9,.slice (some ⟨g_1,0,none⟩) r_3.1.length c_9),(14,pq b_5),(27,i6 ((W (which)).tmod ((r_3.1.length : Nat) : Int))),(258,.slice (some ⟨g_1,0,none⟩) r_3.1.length c_9),(259,i6 ((W (which)).tmod ((r_3.1.length : Nat) : Int))),(260,.pointer (some ⟨g_1,((W (which)).tmod ((r_3.1.length : Nat) : Int)).toNat * 1,none⟩)),(261,i6 e_2),(262,.pointer (some ⟨b_2,4,none⟩)),(263,.slice (some ⟨g_2,0,none⟩) r_1.1.Rides.length c_6),(264,i6 ((W (which)).tmod ((r_3.1.length : Nat) : Int))),(265,.pointer (some ⟨g_2,((W (which)).tmod ((r_3.1.length : Nat) : Int)).toNat * 4,none⟩)),(266,.pointer (some ⟨g_2,((W (which)).tmod ((r_3.1.length : Nat) : Int)).toNat * 4 + 0,none⟩)),(267,i6 e_3.From),(268,.bool false),(269,.bool false),(270,i6 ((W (which)).tmod ((r_3.1.length : Nat) : Int))),(271,.bool (decide (0 < ((W (which)).tmod ((r_3.1.length : Nat) : Int))))),(272,.bool (decide (0 < ((W (which)).tmod ((r_3.1.length : Nat) : Int))))),(283,.bool t_3)]) ?_ ?_
         ·cases hb : (decide (0 < ((W (which)).tmod ((r_3.1.length : Nat) : Int))))
          ·rw [hb] at hf
           have hF := condF hb ht_3
           obtain rfl := sj hF
           refine qS hf rfl rfl rfl fun a hf => qS hf rfl rfl rfl fun a hf => qS hf rfl rfl rfl fun a hf => qS hf rfl rfl rfl fun a hf => qS hf rfl rfl rfl fun a hf => qS hf rfl rfl rfl fun a hf => qS hf rfl rfl rfl fun a hf => qS hf rfl rfl rfl fun a hf => qS hf rfl rfl rfl fun a hf => qS hf rfl rfl rfl fun a hf => qE hf rfl rfl rfl (Pu.ev (pPf rfl rfl)) fun a hf => qNil (hf.kp rfl)
          ·rw [hb] at hf
           have hF := condT hb ht_3
           obtain ⟨e_4,he_4,hF⟩ := bnd_some hF
           obtain ⟨qa_3,qr_3⟩ := row_atk hc m3 he_4
           obtain ⟨e_5,he_5,hF⟩ := bnd_some hF
           obtain ⟨qa_4,qr_4⟩ := row_atk hc m3 he_5
           refine qE hf rfl rfl rfl (Pu.ev (pM rfl)) fun a hf => qE hf rfl rfl rfl (Pu.ev (pM rfl)) fun a hf => qE hf rfl rfl rfl (Pu.ev (pIA Tryz.underlying25 sz_3 rfl rfl qa_3)) fun a hf => qE hf rfl rfl rfl (eLd1 sc_3 rfl (cell_row (sz := 1) (i := ((W (which)).tmod ((r_3.1.length : Nat) : Int)).toNat) (j := 0) m3 qr_3 rfl)) fun a hf => qE hf rfl rfl rfl (Pu.ev (pM rfl)) fun a hf => qE hf rfl rfl rfl (Pu.ev (pM rfl)) fun a hf => qE hf rfl rfl rfl (Pu.ev (pSub rfl rfl)) fun a hf => qE hf rfl rfl rfl (Pu.ev (pIA Tryz.underlying25 sz_3 rfl rfl qa_4)) fun a hf => qE hf rfl rfl rfl (eLd1 sc_3 rfl (cell_row (sz := 1) (i := (W (((W (which)).tmod ((r_3.1.length : Nat) : Int)) - 1)).toNat) (j := 0) m3 qr_4 rfl)) fun a hf => qE hf rfl rfl rfl (Pu.ev (pEq rfl rfl)) fun a hf => qE hf rfl rfl rfl (Pu.ev (pPt rfl rfl)) fun a hf => ?_
           obtain rfl := sj hF
           exact qNil (hf.kp rfl)
         intro a hf
         refine qE hf rfl rfl rfl (Pu.ev (pPf rfl rfl)) fun a hf => ?_
         obtain rfl := sj hF
         exact qNil (hf.kp rfl)
        ·rw [hb] at hf
         have hF := condT hb ht_4
         obtain rfl := sj hF
         refine qS hf rfl rfl rfl fun a hf => qS hf rfl rfl rfl fun a hf => qS hf rfl rfl rfl fun a hf => qS hf rfl rfl rfl fun a hf => qS hf rfl rfl rfl fun a hf => qS hf rfl rfl rfl fun a hf => qS hf rfl rfl rfl fun a hf => qS hf rfl rfl rfl fun a hf => qS hf rfl rfl rfl fun a hf => qS hf rfl rfl rfl fun a hf => qS hf rfl rfl rfl fun a hf => qS hf rfl rfl rfl fun a hf => qS hf rfl rfl rfl fun a hf => ?_
         refine qS hf rfl rfl rfl fun a hf => qE hf rfl rfl rfl (Pu.ev (pPt rfl rfl)) fun a hf => qNil (hf.kp rfl)
       intro a hf
       intro w hc
       refine h36 _ _ ?_
       refine cCond (b := t_4) hf rfl (fun hb => ?_) (fun hb => ?_)
       ·replace hF := condT hb hF
        clear hb
        refine wp_seq_k fun K37 h37 => cReg ?_
        obtain ⟨r_10,hr_10,hF⟩ := bnd_some hF
        refine stE hf hc rfl rfl rfl (eC (v := .bool r_10) (vs := []) (caps := []) en_15 rfl rfl rfl rfl (fun w hc => law11_awake_ok hc hr_10)) fun a w hf hc => stP hf rfl rfl rfl (pA rfl) fun a hf => cNil ?_
        refine h37 _ _ ?_
        refine wp_ret ?_
        refine xThenR ?_
        obtain rfl := sj hF
        replace hc := hc.drop k5
        replace hc := hc.drop k4
        replace hc := hc.drop k3
        replace hc := hc.drop k2
        replace hc := hc.drop k1
        replace hc := hc.drop k0
        exact fnOut1 (by simp) rfl Tryz.results7 hf hc (show look _ 6 = _ from rfl) ⟨rfl,hc⟩
       ·replace hF := condF hb hF
        clear hb
        refine wp_skip ?_
        refine h35 _ _ ?_
        refine wp_seq_k fun K38 h38 => cReg ?_
        refine stE hf hc rfl rfl rfl (eLdN (vs := [i6 r_5.Car,i6 r_5.Wide,i6 r_5.Sag,i6 r_5.Most,.slice p_10 x_2.length c_10]) ag_54 rfl rfl (cells_box (n := 5) m1 rfl)) fun a w hf hc => ?_
        obtain ⟨r_11,hr_11,hF⟩ := bnd_some hF
        obtain ⟨G1,hle1,hrd1,hc,hth1⟩ := lend hc k0
        refine stC (vs := [.agg #[i6 r_5.Car,i6 r_5.Wide,i6 r_5.Sag,i6 r_5.Most,.slice p_10 x_2.length c_10]]) (caps := []) hf rfl rfl rfl en_30 rfl rfl rfl rfl (law11_CopyCable_ok (⟨r_5.Car,r_5.Wide,r_5.Sag,r_5.Most,x_2⟩ : crew_Cable) hrd1 hc hr_11) ?_
        rintro _ w ⟨p_11,c_11,rfl,hc⟩
        refine ⟨_,rfl,fun a hf => ?_⟩
        replace hc := hth1 _ _ hc
        refine stAl (cs := [i6 0,i6 0,i6 0,i6 0,.slice none 0 0]) hf hc rfl rfl zr_54 rfl fun b_6 a w hf hc => stSt (vs := [i6 r_11.Car,i6 r_11.Wide,i6 r_11.Sag,i6 r_11.Most,.slice p_11 r_11.Rides.length c_11]) hf hc rfl rfl rfl rfl sz_54 rfl rfl u0 fun w hc => cNil ?_
        refine h38 _ _ ?_
        refine wp_seq_k fun K39 h39 => cReg ?_
        refine stP hf rfl rfl rfl (pFA fa_54_4 rfl) fun a hf => stE hf hc rfl rfl rfl (eLd1 sc_52 rfl (cell_box m0 rfl)) fun a w hf hc => stP hf rfl rfl rfl (pM rfl) fun a hf => stP hf rfl rfl rfl (pAdd rfl rfl) fun a hf => ?_
        have qc := row_cap hc m2
        obtain ⟨sub,hsub,hF⟩ := bnd_some hF
        refine stP hf rfl rfl rfl (pSl Tryz.underlying52 sz_72 rfl rfl qc rfl rfl hsub) fun a hf => stP hf rfl rfl rfl (pFA fa_54_4 rfl) fun a hf => ?_
        replace hf := hf.castAt 292 (v' := .slice p_11 sub.length c_11) rfl (by rw [sub0_eq hc m2]; rfl)
        replace hc := hc.trunc u2 hsub
        refine stSt (vs := [.slice p_11 sub.length c_11]) hf hc rfl rfl rfl rfl sz_52 rfl rfl u0 fun w hc => cNil ?_
        refine h39 _ _ ?_
        refine wp_seq_k fun K40 h40 => cReg ?_
        refine stP hf rfl rfl rfl (pFA fa_54_4 rfl) fun a hf => stE hf hc rfl rfl rfl (eLd1 sc_52 rfl (cell_box m0 rfl)) fun a w hf hc => stP hf rfl rfl rfl (pM rfl) fun a hf => ?_
        obtain ⟨e_6,he_6,hF⟩ := bnd_some hF
        obtain ⟨g_3,rfl,qa_5,qr_5⟩ := row_atm hc m2 he_6
        refine stP hf rfl rfl rfl (pIA Tryz.underlying52 sz_72 rfl rfl qa_5) fun a hf => stP hf rfl rfl rfl (pFA fa_72_0 rfl) fun a hf => stE hf hc rfl rfl rfl (eLd1 sc_3 rfl (cell_row (sz := 4) (i := ((W (which)).tmod ((r_3.1.length : Nat) : Int)).toNat) (j := 0) m2 qr_5 rfl)) fun a w hf hc => stP hf rfl rfl rfl (pSub rfl rfl) fun a hf => ?_
        obtain ⟨e_7,he_7,hF⟩ := bnd_some hF
        obtain ⟨qa_6,qr_6⟩ := row_atk hc m2 he_7
        refine stP hf rfl rfl rfl (pIA Tryz.underlying52 sz_72 rfl rfl qa_6) fun a hf => stP hf rfl rfl rfl (pFA fa_72_0 rfl) fun a hf => stRw (vs := [i6 (W (e_6.From - 1))]) (o' := 0) (z := (⟨W (e_6.From - 1),e_7.Long,e_7.Weight⟩ : crew_Ride)) (xs := sub) hf hc rfl rfl rfl rfl sz_3 rfl (fun x => (one_enc_crew_Ride x).1) (getI_lt he_7) (fun e' he' => by cases (he'.symm.trans (getI_spec he_7).2); rfl) rfl u2 fun w hc => cNil ?_
        refine h40 _ _ ?_
        refine wp_seq_k fun K41 h41 => cReg ?_
        refine stE hf hc rfl rfl rfl (eLdN (vs := [i6 r_11.Car,i6 r_11.Wide,i6 r_11.Sag,i6 r_11.Most,.slice (some ⟨g_3,0,none⟩) sub.length c_11]) ag_54 rfl rfl (cells_box (n := 5) m0 rfl)) fun a w hf hc => ?_
        obtain ⟨r_12,hr_12,hF⟩ := bnd_some hF
        refine stE hf hc rfl rfl rfl (eC (v := .tuple #[i6 r_12.1,i6 r_12.2.1,i6 r_12.2.2]) (vs := [.agg #[i6 r_11.Car,i6 r_11.Wide,i6 r_11.Sag,i6 r_11.Most,.slice (some ⟨g_3,0,none⟩) sub.length c_11]]) (caps := []) en_36 rfl rfl rfl rfl (fun w hc => by obtain ⟨G1,hle1,hrd1,hc,hth1⟩ := lend hc k2; have hq := crew_Beyond_ok (⟨r_11.Car,r_11.Wide,r_11.Sag,r_11.Most,(sub.set ((W (which)).tmod ((r_3.1.length : Nat) : Int)).toNat (⟨W (e_6.From - 1),e_7.Long,e_7.Weight⟩ : crew_Ride))⟩ : crew_Cable) hrd1 hc hr_12; simp only [List.length_set] at hq; exact (hq).mono fun e w h => ⟨h.1,((hth1 _ _ h.2).unpick k2)⟩)) fun a w hf hc => stP hf rfl rfl rfl (pM rfl) fun a hf => stP hf rfl rfl rfl (pX rfl rfl) fun a hf => stP hf rfl rfl rfl (pX rfl rfl) fun a hf => stP hf rfl rfl rfl (pX rfl rfl) fun a hf => stP hf rfl rfl rfl (pA rfl) fun a hf => stP hf rfl rfl rfl (pA rfl) fun a hf => cNil ?_
        refine h41 _ _ ?_
        refine wp_seq_k fun K42 h42 => cReg ?_
        refine stP hf rfl rfl rfl (pM rfl) fun a hf => stP hf rfl rfl rfl (pEq rfl rfl) fun a hf => stP hf rfl rfl rfl (pM rfl) fun a hf => stCut 3 (fun a w => Has 318 a [(16,i6 r_12.1),(10,i6 r_12.2.2),(309,i6 r_12.2.2),(310,.bool (r_12.2.2 == 0)),(311,.bool (r_12.2.2 == 0)),(314,.bool ((r_12.2.2 == 0) && (r_12.1 != (-1))))] ∧ Ctx G (.box b_6 [i6 r_11.Car,i6 r_11.Wide,i6 r_11.Sag,i6 r_11.Most,.slice (some ⟨g_3,0,none⟩) sub.length c_11] 54::.row p_10 c_10 (x_2.map enc_crew_Ride) 72 4::.row (some ⟨g_3,0,none⟩) c_11 ((sub.set ((W (which)).tmod ((r_3.1.length : Nat) : Int)).toNat (⟨W (e_6.From - 1),e_7.Long,e_7.Weight⟩ : crew_Ride)).map enc_crew_Ride) 72 4::.box b_5 [i6 r_5.Car,i6 r_5.Wide,i6 r_5.Sag,i6 r_5.Most,.slice p_10 x_2.length c_10] 54::.row (some ⟨g_2,0,none⟩) c_6 (r_1.1.Rides.map enc_crew_Ride) 72 4::.row (some ⟨g_1,0,none⟩) c_9 (r_3.1.map encI_i64) 3 1::.box b_3 [.slice weights_p weights.length weights_c,i6 x_4,i6 x_5] 165::.box b_2 [i6 r_1.1.Car,i6 r_1.1.Wide,i6 r_1.1.Sag,i6 r_1.1.Most,.slice (some ⟨g_2,0,none⟩) r_1.1.Rides.length c_6] 54::Lf) w) ?_ ?_
        ·cases hb : (r_12.2.2 == 0)
         ·rw [hb] at hf
          refine stS hf rfl rfl rfl fun a hf => stS hf rfl rfl rfl fun a hf => stP hf rfl rfl rfl (pPf rfl rfl) fun a hf => cNil ⟨hf.kp rfl,hc⟩
         ·rw [hb] at hf
          refine stP hf rfl rfl rfl (pM rfl) fun a hf => stP hf rfl rfl rfl (pNe rfl rfl) fun a hf => stP hf rfl rfl rfl (pPt rfl rfl) fun a hf => cNil ⟨hf.kp rfl,hc⟩
        intro a w ⟨hf,hc⟩
        refine stP hf rfl rfl rfl (pM rfl) fun a hf => ?_
        obtain ⟨t_5,ht_5,hF⟩ := bnd_some hF
        refine stCut 2 (fun a w => Has 318 a [(16,i6 r_12.1),(10,i6 r_12.2.2),(309,i6 r_12.2.2),(310,.bool (r_12.2.2 == 0)),(311,.bool (r_12.2.2 == 0)),(314,.bool ((r_12.2.2 == 0) && (r_12.1 != (-1)))),(315,.bool ((r_12.2.2 == 0) && (r_12.1 != (-1)))),(317,.bool t_5)] ∧ Ctx G (.box b_6 [i6 r_11.Car,i6 r_11.Wide,i6 r_11.Sag,i6 r_11.Most,.slice (some ⟨g_3,0,none⟩) sub.length c_11] 54::.row p_10 c_10 (x_2.map enc_crew_Ride) 72 4::.row (some ⟨g_3,0,none⟩) c_11 ((sub.set ((W (which)).tmod ((r_3.1.length : Nat) : Int)).toNat (⟨W (e_6.From - 1),e_7.Long,e_7.Weight⟩ : crew_Ride)).map enc_crew_Ride) 72 4::.box b_5 [i6 r_5.Car,i6 r_5.Wide,i6 r_5.Sag,i6 r_5.Most,.slice p_10 x_2.length c_10] 54::.row (some ⟨g_2,0,none⟩) c_6 (r_1.1.Rides.map enc_crew_Ride) 72 4::.row (some ⟨g_1,0,none⟩) c_9 (r_3.1.map encI_i64) 3 1::.box b_3 [.slice weights_p weights.length weights_c,i6 x_4,i6 x_5] 165::.box b_2 [i6 r_1.1.Car,i6 r_1.1.Wide,i6 r_1.1.Sag,i6 r_1.1.Most,.slice (some ⟨g_2,0,none⟩) r_1.1.Rides.length c_6] 54::Lf) w) ?_ ?_
        ·cases hb : ((r_12.2.2 == 0) && (r_12.1 != (-1)))
         ·rw [hb] at hf
          have hF := condF hb ht_5
          obtain rfl := sj hF
          refine stS hf rfl rfl rfl fun a hf => stP hf rfl rfl rfl (pPf rfl rfl) fun a hf => cNil ⟨hf.kp rfl,hc⟩
         ·rw [hb] at hf
          have hF := condT hb ht_5
          obtain ⟨r_13,hr_13,hF⟩ := bnd_some hF
          refine stE hf hc rfl rfl rfl (eC (v := .bool r_13) (vs := []) (caps := []) en_15 rfl rfl rfl rfl (fun w hc => law11_awake_ok hc hr_13)) fun a w hf hc => stP hf rfl rfl rfl (pPt rfl rfl) fun a hf => ?_
          obtain rfl := sj hF
          exact cNil ⟨hf.kp rfl,hc⟩
        intro a w ⟨hf,hc⟩
        refine stP hf rfl rfl rfl (pA rfl) fun a hf => cNil ?_
        refine h42 _ _ ?_
        refine wp_ret ?_
        obtain rfl := sj hF
        replace hc := hc.drop k7
        replace hc := hc.drop k6
        replace hc := hc.drop k5
        replace hc := hc.drop k4
        replace hc := hc.drop k3
        replace hc := hc.drop k2
        replace hc := hc.drop k1
        replace hc := hc.drop k0
        exact fnOut1 (by simp) rfl Tryz.results7 hf hc (show look _ 6 = _ from rfl) ⟨rfl,hc⟩
     have ho30 : ∀ r,x30 = .out r → r = res := by
      rintro r rfl
      exact sj hF
     replace hc := hc.drop k1
     refine cLoop N (loopW (S := S30) (x := x30) ?_ N (0,r_2.1,r_2.2) _ _ ⟨p_5,c_5,p_7,c_7,hf.kp rfl,hc⟩ hx30)
     clear hF hf hc
     rintro ⟨x_3,x_4,x_5⟩ st30 a w KB30 ⟨p_9,c_9,p_10,c_10,hf,hc⟩ hF hfin30 hK30
     unfold law11_CrewCarried_b30 at hF
     refine wp_seq_k fun K43 h43 => cReg ?_
     refine stP hf rfl rfl rfl (pLt rfl rfl) fun a hf => cNil ?_
     refine h43 _ _ ?_
     refine wp_seq_k fun K44 h44 => cCond (b := (decide (x_3 < ((r_3.1.length : Nat) : Int)))) hf rfl (fun hb => ?_) (fun hb => ?_)
     ·replace hF := condT hb hF
      clear hb
      refine wp_skip ?_
      refine h44 _ _ ?_
      refine wp_seq_k fun K45 h45 => wp_block ?_
      refine wp_seq_k fun K46 h46 => cReg ?_
      obtain ⟨e_8,he_8,hF⟩ := bnd_some hF
      obtain ⟨g_4,rfl,qa_7,qr_7⟩ := row_atm hc m3 he_8
      refine stP hf rfl rfl rfl (pIA Tryz.underlying25 sz_3 rfl rfl qa_7) fun a hf => stE hf hc rfl rfl rfl (eLd1 sc_3 rfl (cell_row (sz := 1) (i := x_3.toNat) (j := 0) m3 qr_7 rfl)) fun a w hf hc => stP hf rfl rfl rfl (pA rfl) fun a hf => cNil ?_
      refine h46 _ _ ?_
      refine wp_seq_k fun K47 h47 => cReg ?_
      refine stP hf rfl rfl rfl (pFA fa_54_0 rfl) fun a hf => stE hf hc rfl rfl rfl (eLd1 sc_3 rfl (cell_box m5 rfl)) fun a w hf hc => stP hf rfl rfl rfl (pA rfl) fun a hf => cNil ?_
      refine h47 _ _ ?_
      refine wp_seq_k fun K48 h48 => wp_seq_k fun K49 h49 => cReg ?_
      refine stP hf rfl rfl rfl (pFA fa_54_4 rfl) fun a hf => stE hf hc rfl rfl rfl (eLd1 sc_52 rfl (cell_box m1 rfl)) fun a w hf hc => stP hf rfl rfl rfl (pLenS Tryz.underlying52 rfl) fun a hf => stP hf rfl rfl rfl (pM rfl) fun a hf => cNil ?_
      refine h49 _ _ ?_
      refine wp_block ?_
      obtain ⟨x50,hx50,hF⟩ := bnd_some hF
      let S50 : (Int × Int × Int × Int) → Act → World → Prop := (fun (zz : Int × Int × Int × Int) a w => ∃ (p_12 : Option Addr) (c_12 : Nat),Has 318 a [(2,.int .u8 which),(7,pq b_2),(8,pq b_3),(9,.slice (some ⟨g_4,0,none⟩) r_3.1.length c_9),(14,pq b_5),(21,i6 e_8),(22,i6 zz.1),(176,.slice (some ⟨g_4,0,none⟩) r_3.1.length c_9),(177,i6 ((r_3.1.length : Nat) : Int)),(178,i6 x_3),(185,.slice p_12 x_2.length c_12),(186,i6 ((x_2.length : Nat) : Int)),(187,i6 zz.2.1)] ∧ Ctx G (.row p_12 c_12 (x_2.map enc_crew_Ride) 72 4::.box b_5 [i6 r_5.Car,i6 r_5.Wide,i6 r_5.Sag,i6 r_5.Most,.slice p_12 x_2.length c_12] 54::.row p_6 c_6 (r_1.1.Rides.map enc_crew_Ride) 72 4::.row (some ⟨g_4,0,none⟩) c_9 (r_3.1.map encI_i64) 3 1::.box b_3 [.slice weights_p weights.length weights_c,i6 zz.2.2.1,i6 zz.2.2.2] 165::.box b_2 [i6 r_1.1.Car,i6 r_1.1.Wide,i6 r_1.1.Sag,i6 r_1.1.Most,.slice p_6 r_1.1.Rides.length c_6] 54::Lf) w)
      have hr50 : ∀ (zz : Int × Int × Int × Int) a w,x50 = .go zz → S50 zz a w → K48 a w := by
       rintro ⟨load,x_6,x_7,x_8⟩ a w rfl ⟨p_12,c_12,hf,hc⟩
       replace hF := exK_go hF
       refine h48 _ _ ?_
       refine wp_seq_k fun K51 h51 => cReg ?_
       refine stE hf hc rfl rfl rfl (eLdN (vs := [i6 r_5.Car,i6 r_5.Wide,i6 r_5.Sag,i6 r_5.Most,.slice p_12 x_2.length c_12]) ag_54 rfl rfl (cells_box (n := 5) m1 rfl)) fun a w hf hc => stP hf rfl rfl rfl (pM rfl) fun a hf => ?_
       obtain ⟨r_14,hr_14,hF⟩ := bnd_some hF
       refine stE hf hc rfl rfl rfl (eC (v := .tuple #[.agg #[i6 r_14.1.Lo,i6 r_14.1.Hi],i6 r_14.2]) (vs := [.agg #[i6 r_5.Car,i6 r_5.Wide,i6 r_5.Sag,i6 r_5.Most,.slice p_12 x_2.length c_12],i6 e_8]) (caps := []) en_34 rfl rfl rfl rfl (fun w hc => by obtain ⟨G1,hle1,hrd1,hc,hth1⟩ := lend hc k0; exact (crew_Load_ok (⟨r_5.Car,r_5.Wide,r_5.Sag,r_5.Most,x_2⟩ : crew_Cable) e_8 hrd1 hc hr_14).mono fun e w h => ⟨h.1,((hth1 _ _ h.2).unpick k0)⟩)) fun a w hf hc => stP hf rfl rfl rfl (pM rfl) fun a hf => stP hf rfl rfl rfl (pX rfl rfl) fun a hf => stP hf rfl rfl rfl (pX rfl rfl) fun a hf => stAl (cs := [i6 0,i6 0]) hf hc rfl rfl zr_29 rfl fun b_7 a w hf hc => stSt (vs := [i6 r_14.1.Lo,i6 r_14.1.Hi]) hf hc rfl rfl rfl rfl sz_29 rfl rfl u0 fun w hc => stP hf rfl rfl rfl (pA rfl) fun a hf => cNil ?_
       refine h51 _ _ ?_
       refine wp_seq_k fun K52 h52 => cReg ?_
       refine stP hf rfl rfl rfl (pM rfl) fun a hf => stP hf rfl rfl rfl (pNe rfl rfl) fun a hf => stP hf rfl rfl rfl (pM rfl) fun a hf => stCut 5 (fun a w => Has 318 a [(2,.int .u8 which),(7,pq b_2),(8,pq b_3),(9,.slice (some ⟨g_4,0,none⟩) r_3.1.length c_9),(14,pq b_5),(22,i6 load),(176,.slice (some ⟨g_4,0,none⟩) r_3.1.length c_9),(177,i6 ((r_3.1.length : Nat) : Int)),(178,i6 x_3),(25,pq b_7),(26,i6 r_14.2),(221,i6 r_14.2),(222,.bool (r_14.2 != 0)),(223,.bool (r_14.2 != 0)),(228,.bool ((r_14.2 != 0) || (decide (load < r_14.1.Lo))))] ∧ Ctx G (.box b_7 [i6 r_14.1.Lo,i6 r_14.1.Hi] 29::.row p_12 c_12 (x_2.map enc_crew_Ride) 72 4::.box b_5 [i6 r_5.Car,i6 r_5.Wide,i6 r_5.Sag,i6 r_5.Most,.slice p_12 x_2.length c_12] 54::.row p_6 c_6 (r_1.1.Rides.map enc_crew_Ride) 72 4::.row (some ⟨g_4,0,none⟩) c_9 (r_3.1.map encI_i64) 3 1::.box b_3 [.slice weights_p weights.length weights_c,i6 x_7,i6 x_8] 165::.box b_2 [i6 r_1.1.Car,i6 r_1.1.Wide,i6 r_1.1.Sag,i6 r_1.1.Most,.slice p_6 r_1.1.Rides.length c_6] 54::Lf) w) ?_ ?_
       ·cases hb : (r_14.2 != 0)
        ·rw [hb] at hf
         refine stP hf rfl rfl rfl (pM rfl) fun a hf => stP hf rfl rfl rfl (pFA fa_29_0 rfl) fun a hf => stE hf hc rfl rfl rfl (eLd1 sc_3 rfl (cell_box m0 rfl)) fun a w hf hc => stP hf rfl rfl rfl (pLt rfl rfl) fun a hf => stP hf rfl rfl rfl (pPf rfl rfl) fun a hf => cNil ⟨hf.kp rfl,hc⟩
        ·rw [hb] at hf
         refine stS hf rfl rfl rfl fun a hf => stS hf rfl rfl rfl fun a hf => stS hf rfl rfl rfl fun a hf => stS hf rfl rfl rfl fun a hf => stP hf rfl rfl rfl (pPt rfl rfl) fun a hf => cNil ⟨hf.kp rfl,hc⟩
       intro a w ⟨hf,hc⟩
       refine stP hf rfl rfl rfl (pM rfl) fun a hf => stCut 5 (fun a w => Has 318 a [(2,.int .u8 which),(7,pq b_2),(8,pq b_3),(9,.slice (some ⟨g_4,0,none⟩) r_3.1.length c_9),(14,pq b_5),(22,i6 load),(176,.slice (some ⟨g_4,0,none⟩) r_3.1.length c_9),(177,i6 ((r_3.1.length : Nat) : Int)),(178,i6 x_3),(25,pq b_7),(26,i6 r_14.2),(221,i6 r_14.2),(222,.bool (r_14.2 != 0)),(223,.bool (r_14.2 != 0)),(228,.bool ((r_14.2 != 0) || (decide (load < r_14.1.Lo)))),(229,.bool ((r_14.2 != 0) || (decide (load < r_14.1.Lo)))),(234,.bool (((r_14.2 != 0) || (decide (load < r_14.1.Lo))) || (decide (r_14.1.Hi < load))))] ∧ Ctx G (.box b_7 [i6 r_14.1.Lo,i6 r_14.1.Hi] 29::.row p_12 c_12 (x_2.map enc_crew_Ride) 72 4::.box b_5 [i6 r_5.Car,i6 r_5.Wide,i6 r_5.Sag,i6 r_5.Most,.slice p_12 x_2.length c_12] 54::.row p_6 c_6 (r_1.1.Rides.map enc_crew_Ride) 72 4::.row (some ⟨g_4,0,none⟩) c_9 (r_3.1.map encI_i64) 3 1::.box b_3 [.slice weights_p weights.length weights_c,i6 x_7,i6 x_8] 165::.box b_2 [i6 r_1.1.Car,i6 r_1.1.Wide,i6 r_1.1.Sag,i6 r_1.1.Most,.slice p_6 r_1.1.Rides.length c_6] 54::Lf) w) ?_ ?_
       ·cases hb : ((r_14.2 != 0) || (decide (load < r_14.1.Lo)))
        ·rw [hb] at hf
         refine stP hf rfl rfl rfl (pM rfl) fun a hf => stP hf rfl rfl rfl (pFA fa_29_1 rfl) fun a hf => stE hf hc rfl rfl rfl (eLd1 sc_3 rfl (cell_box m0 rfl)) fun a w hf hc => stP hf rfl rfl rfl (pGt rfl rfl) fun a hf => stP hf rfl rfl rfl (pPf rfl rfl) fun a hf => cNil ⟨hf.kp rfl,hc⟩
        ·rw [hb] at hf
         refine stS hf rfl rfl rfl fun a hf => stS hf rfl rfl rfl fun a hf => stS hf rfl rfl rfl fun a hf => stS hf rfl rfl rfl fun a hf => stP hf rfl rfl rfl (pPt rfl rfl) fun a hf => cNil ⟨hf.kp rfl,hc⟩
       intro a w ⟨hf,hc⟩
       refine stP hf rfl rfl rfl (pM rfl) fun a hf => stCut 12 (fun a w => Has 318 a [(2,.int .u8 which),(7,pq b_2),(8,pq b_3),(9,.slice (some ⟨g_4,0,none⟩) r_3.1.length c_9),(14,pq b_5),(22,i6 load),(176,.slice (some ⟨g_4,0,none⟩) r_3.1.length c_9),(177,i6 ((r_3.1.length : Nat) : Int)),(178,i6 x_3),(25,pq b_7),(26,i6 r_14.2),(221,i6 r_14.2),(222,.bool (r_14.2 != 0)),(223,.bool (r_14.2 != 0)),(228,.bool ((r_14.2 != 0) || (decide (load < r_14.1.Lo)))),(229,.bool ((r_14.2 != 0) || (decide (load < r_14.1.Lo)))),(234,.bool (((r_14.2 != 0) || (decide (load < r_14.1.Lo))) || (decide (r_14.1.Hi < load)))),(235,.bool (((r_14.2 != 0) || (decide (load < r_14.1.Lo))) || (decide (r_14.1.Hi < load)))),(247,.bool ((((r_14.2 != 0) || (decide (load < r_14.1.Lo))) || (decide (r_14.1.Hi < load))) || (decide ((W (r_1.1.Most * r_1.1.Sag)) < (W ((W (load * r_1.1.Wide)) * 25))))))] ∧ Ctx G (.box b_7 [i6 r_14.1.Lo,i6 r_14.1.Hi] 29::.row p_12 c_12 (x_2.map enc_crew_Ride) 72 4::.box b_5 [i6 r_5.Car,i6 r_5.Wide,i6 r_5.Sag,i6 r_5.Most,.slice p_12 x_2.length c_12] 54::.row p_6 c_6 (r_1.1.Rides.map enc_crew_Ride) 72 4::.row (some ⟨g_4,0,none⟩) c_9 (r_3.1.map encI_i64) 3 1::.box b_3 [.slice weights_p weights.length weights_c,i6 x_7,i6 x_8] 165::.box b_2 [i6 r_1.1.Car,i6 r_1.1.Wide,i6 r_1.1.Sag,i6 r_1.1.Most,.slice p_6 r_1.1.Rides.length c_6] 54::Lf) w) ?_ ?_
       ·cases hb : (((r_14.2 != 0) || (decide (load < r_14.1.Lo))) || (decide (r_14.1.Hi < load)))
        ·rw [hb] at hf
         refine stP hf rfl rfl rfl (pM rfl) fun a hf => stP hf rfl rfl rfl (pFA fa_54_1 rfl) fun a hf => stE hf hc rfl rfl rfl (eLd1 sc_3 rfl (cell_box m6 rfl)) fun a w hf hc => stP hf rfl rfl rfl (pMul rfl rfl) fun a hf => stP hf rfl rfl rfl (pMul rfl rfl) fun a hf => stP hf rfl rfl rfl (pFA fa_54_3 rfl) fun a hf => stE hf hc rfl rfl rfl (eLd1 sc_3 rfl (cell_box m6 rfl)) fun a w hf hc => stP hf rfl rfl rfl (pFA fa_54_2 rfl) fun a hf => stE hf hc rfl rfl rfl (eLd1 sc_3 rfl (cell_box m6 rfl)) fun a w hf hc => stP hf rfl rfl rfl (pMul rfl rfl) fun a hf => stP hf rfl rfl rfl (pGt rfl rfl) fun a hf => stP hf rfl rfl rfl (pPf rfl rfl) fun a hf => cNil ⟨hf.kp rfl,hc⟩
        ·rw [hb] at hf
         refine stS hf rfl rfl rfl fun a hf => stS hf rfl rfl rfl fun a hf => stS hf rfl rfl rfl fun a hf => stS hf rfl rfl rfl fun a hf => stS hf rfl rfl rfl fun a hf => stS hf rfl rfl rfl fun a hf => stS hf rfl rfl rfl fun a hf => stS hf rfl rfl rfl fun a hf => stS hf rfl rfl rfl fun a hf => stS hf rfl rfl rfl fun a hf => stS hf rfl rfl rfl fun a hf => stP hf rfl rfl rfl (pPt rfl rfl) fun a hf => cNil ⟨hf.kp rfl,hc⟩
       intro a w ⟨hf,hc⟩
       refine cNil ?_
       refine h52 _ _ ?_
       refine cCond (b := ((((r_14.2 != 0) || (decide (load < r_14.1.Lo))) || (decide (r_14.1.Hi < load))) || (decide ((W (r_1.1.Most * r_1.1.Sag)) < (W ((W (load * r_1.1.Wide)) * 25)))))) hf rfl (fun hb => ?_) (fun hb => ?_)
       ·replace hF := condT hb hF
        clear hb
        refine wp_seq_k fun K53 h53 => cReg ?_
        refine stP hf rfl rfl rfl (pA rfl) fun a hf => cNil ?_
        refine h53 _ _ ?_
        refine wp_ret ?_
        refine xBlkR ?_
        refine xThenR ?_
        refine xThenR ?_
        have he := sj hF
        rw [← he] at hfin30
        replace hF := ho30 _ hfin30
        refine xBlkR ?_
        refine xThenR ?_
        obtain rfl := hF
        replace hc := hc.drop k6
        replace hc := hc.drop k5
        replace hc := hc.drop k4
        replace hc := hc.drop k3
        replace hc := hc.drop k2
        replace hc := hc.drop k1
        replace hc := hc.drop k0
        exact fnOut1 (by simp) rfl Tryz.results7 hf hc (show look _ 6 = _ from rfl) ⟨rfl,hc⟩
       ·replace hF := condF hb hF
        clear hb
        refine wp_skip ?_
        refine h45 _ _ ?_
        refine cReg ?_
        refine stP hf rfl rfl rfl (pAdd rfl rfl) fun a hf => stP hf rfl rfl rfl (pM rfl) fun a hf => cNil ?_
        replace hc := hc.drop k0
        exact hK30 (W (x_3 + 1),x_7,x_8) _ _ (sj hF).symm ⟨(some ⟨g_4,0,none⟩),c_9,p_12,c_12,hf.kp rfl,hc⟩
      have ho50 : ∀ r,x50 = .out r → r = st30 := by
       rintro r rfl
       exact sj hF
      refine cLoop N (loopW (S := S50) (x := x50) ?_ N (r_1.1.Car,0,x_4,x_5) _ _ ⟨p_10,c_10,hf.kp rfl,hc⟩ hx50)
      clear hF hf hc
      rintro ⟨load,x_6,x_7,x_8⟩ st50 a w KB50 ⟨p_12,c_12,hf,hc⟩ hF hfin50 hK50
      unfold law11_CrewCarried_b50 at hF
      refine wp_seq_k fun K54 h54 => cReg ?_
      refine stP hf rfl rfl rfl (pLt rfl rfl) fun a hf => cNil ?_
      refine h54 _ _ ?_
      refine wp_seq_k fun K55 h55 => cCond (b := (decide (x_6 < ((x_2.length : Nat) : Int)))) hf rfl (fun hb => ?_) (fun hb => ?_)
      ·replace hF := condT hb hF
       clear hb
       refine wp_skip ?_
       refine h55 _ _ ?_
       refine wp_seq_k fun K56 h56 => ?_
       have hj56 : ∀ (load_1 : Int) (x_9 : Int) (x_10 : Int) (p_13 : Option Addr) (c_13 : Nat) a w,Has 318 a [(2,.int .u8 which),(7,pq b_2),(8,pq b_3),(9,.slice (some ⟨g_4,0,none⟩) r_3.1.length c_9),(14,pq b_5),(21,i6 e_8),(22,i6 load_1),(176,.slice (some ⟨g_4,0,none⟩) r_3.1.length c_9),(177,i6 ((r_3.1.length : Nat) : Int)),(178,i6 x_3),(185,.slice p_13 x_2.length c_13),(186,i6 ((x_2.length : Nat) : Int)),(187,i6 x_6)] → Ctx G (.box b_3 [.slice weights_p weights.length weights_c,i6 x_9,i6 x_10] 165::.row p_13 c_13 (x_2.map enc_crew_Ride) 72 4::.box b_5 [i6 r_5.Car,i6 r_5.Wide,i6 r_5.Sag,i6 r_5.Most,.slice p_13 x_2.length c_13] 54::.row p_6 c_6 (r_1.1.Rides.map enc_crew_Ride) 72 4::.row (some ⟨g_4,0,none⟩) c_9 (r_3.1.map encI_i64) 3 1::.box b_2 [i6 r_1.1.Car,i6 r_1.1.Wide,i6 r_1.1.Sag,i6 r_1.1.Most,.slice p_6 r_1.1.Rides.length c_6] 54::Lf) w → law11_CrewCarried_j56 N x_6 load_1 x_9 x_10 = some st50 → K56 a w := by
        repeat (clear hF)
        repeat (clear hc)
        repeat (clear hf)
        intro load_1 x_9 x_10 p_13 c_13 a w hf hc hF
        unfold law11_CrewCarried_j56 at hF
        refine h56 _ _ ?_
        refine cReg ?_
        refine stP hf rfl rfl rfl (pAdd rfl rfl) fun a hf => stP hf rfl rfl rfl (pM rfl) fun a hf => cNil ?_
        replace hc := hc.pick k0
        replace hc := hc.pick k4
        replace hc := hc.pick k4
        replace hc := hc.pick k4
        replace hc := hc.pick k4
        exact hK50 (load_1,W (x_6 + 1),x_9,x_10) _ _ (sj hF).symm ⟨p_13,c_13,hf.kp rfl,hc⟩
       refine wp_block ?_
       refine wp_seq_k fun K57 h57 => cReg ?_
       obtain ⟨e_9,he_9,hF⟩ := bnd_some hF
       obtain ⟨g_5,rfl,qa_8,qr_8⟩ := row_atm hc m0 he_9
       refine stP hf rfl rfl rfl (pIA Tryz.underlying52 sz_72 rfl rfl qa_8) fun a hf => stE hf hc rfl rfl rfl (eLdN (vs := [i6 e_9.From,i6 e_9.Long,i6 e_9.Weight.Lo,i6 e_9.Weight.Hi]) ag_72 rfl rfl (cells_rw (sz := 4) (i := x_6.toNat) m0 qr_8 (n := 4) (o' := 0) rfl)) fun a w hf hc => stAl (cs := [i6 0,i6 0,i6 0,i6 0]) hf hc rfl rfl zr_72 rfl fun b_8 a w hf hc => stSt (vs := [i6 e_9.From,i6 e_9.Long,i6 e_9.Weight.Lo,i6 e_9.Weight.Hi]) hf hc rfl rfl rfl rfl sz_72 rfl rfl u0 fun w hc => cNil ?_
       refine h57 _ _ ?_
       refine wp_seq_k fun K58 h58 => cReg ?_
       refine stP hf rfl rfl rfl (pFA fa_72_0 rfl) fun a hf => stE hf hc rfl rfl rfl (eLd1 sc_3 rfl (cell_box m0 rfl)) fun a w hf hc => stP hf rfl rfl rfl (pM rfl) fun a hf => stP hf rfl rfl rfl (pLe rfl rfl) fun a hf => stP hf rfl rfl rfl (pM rfl) fun a hf => stCut 8 (fun a w => Has 318 a [(2,.int .u8 which),(7,pq b_2),(8,pq b_3),(9,.slice (some ⟨g_4,0,none⟩) r_3.1.length c_9),(14,pq b_5),(21,i6 e_8),(22,i6 load),(176,.slice (some ⟨g_4,0,none⟩) r_3.1.length c_9),(177,i6 ((r_3.1.length : Nat) : Int)),(178,i6 x_3),(185,.slice (some ⟨g_5,0,none⟩) x_2.length c_12),(186,i6 ((x_2.length : Nat) : Int)),(187,i6 x_6),(24,pq b_8),(191,pq b_8),(192,i6 e_9.From),(193,i6 e_8),(194,.bool (decide (e_9.From ≤ e_8))),(195,.bool (decide (e_9.From ≤ e_8))),(203,.bool ((decide (e_9.From ≤ e_8)) && (decide (e_8 < (W (e_9.From + e_9.Long))))))] ∧ Ctx G (.box b_8 [i6 e_9.From,i6 e_9.Long,i6 e_9.Weight.Lo,i6 e_9.Weight.Hi] 72::.row (some ⟨g_5,0,none⟩) c_12 (x_2.map enc_crew_Ride) 72 4::.box b_5 [i6 r_5.Car,i6 r_5.Wide,i6 r_5.Sag,i6 r_5.Most,.slice (some ⟨g_5,0,none⟩) x_2.length c_12] 54::.row p_6 c_6 (r_1.1.Rides.map enc_crew_Ride) 72 4::.row (some ⟨g_4,0,none⟩) c_9 (r_3.1.map encI_i64) 3 1::.box b_3 [.slice weights_p weights.length weights_c,i6 x_7,i6 x_8] 165::.box b_2 [i6 r_1.1.Car,i6 r_1.1.Wide,i6 r_1.1.Sag,i6 r_1.1.Most,.slice p_6 r_1.1.Rides.length c_6] 54::Lf) w) ?_ ?_
       ·cases hb : (decide (e_9.From ≤ e_8))
        ·rw [hb] at hf
         refine stS hf rfl rfl rfl fun a hf => stS hf rfl rfl rfl fun a hf => stS hf rfl rfl rfl fun a hf => stS hf rfl rfl rfl fun a hf => stS hf rfl rfl rfl fun a hf => stS hf rfl rfl rfl fun a hf => stS hf rfl rfl rfl fun a hf => stP hf rfl rfl rfl (pPf rfl rfl) fun a hf => cNil ⟨hf.kp rfl,hc⟩
        ·rw [hb] at hf
         refine stP hf rfl rfl rfl (pM rfl) fun a hf => stP hf rfl rfl rfl (pFA fa_72_0 rfl) fun a hf => stE hf hc rfl rfl rfl (eLd1 sc_3 rfl (cell_box m0 rfl)) fun a w hf hc => stP hf rfl rfl rfl (pFA fa_72_1 rfl) fun a hf => stE hf hc rfl rfl rfl (eLd1 sc_3 rfl (cell_box m0 rfl)) fun a w hf hc => stP hf rfl rfl rfl (pAdd rfl rfl) fun a hf => stP hf rfl rfl rfl (pLt rfl rfl) fun a hf => stP hf rfl rfl rfl (pPt rfl rfl) fun a hf => cNil ⟨hf.kp rfl,hc⟩
       intro a w ⟨hf,hc⟩
       refine cNil ?_
       refine h58 _ _ ?_
       refine cCond (b := ((decide (e_9.From ≤ e_8)) && (decide (e_8 < (W (e_9.From + e_9.Long)))))) hf rfl (fun hb => ?_) (fun hb => ?_)
       ·replace hF := condT hb hF
        clear hb
        refine cReg ?_
        refine stP hf rfl rfl rfl (pM rfl) fun a hf => stP hf rfl rfl rfl (pM rfl) fun a hf => stP hf rfl rfl rfl (pFA fa_72_2 rfl) fun a hf => stP hf rfl rfl rfl (pFA fa_29_0 rfl) fun a hf => stE hf hc rfl rfl rfl (eLd1 sc_3 rfl (cell_box m0 rfl)) fun a w hf hc => stP hf rfl rfl rfl (pFA fa_72_2 rfl) fun a hf => stP hf rfl rfl rfl (pFA fa_29_1 rfl) fun a hf => stE hf hc rfl rfl rfl (eLd1 sc_3 rfl (cell_box m0 rfl)) fun a w hf hc => ?_
        obtain ⟨r_15,hr_15,hF⟩ := bnd_some hF
        refine stC (vs := [pq b_3,i6 e_9.Weight.Lo,i6 e_9.Weight.Hi]) (caps := []) hf rfl rfl rfl en_50 rfl rfl rfl rfl (kit_Stream_Within_ok (⟨weights,x_7,x_8⟩ : kit_Stream) e_9.Weight.Lo e_9.Weight.Hi h_weights (hc.pick k5) hr_15) ?_
        rintro _ w ⟨rfl,hc⟩
        refine ⟨_,rfl,fun a hf => ?_⟩
        refine stP hf rfl rfl rfl (pAdd rfl rfl) fun a hf => stP hf rfl rfl rfl (pA rfl) fun a hf => cNil ?_
        replace hc := hc.drop k1
        exact hj56 (W (load + r_15.1)) r_15.2.1 r_15.2.2 (some ⟨g_5,0,none⟩) c_12 _ _  (hf.kp rfl) hc hF
       ·replace hF := condF hb hF
        clear hb
        refine wp_skip ?_
        replace hc := hc.drop k0
        replace hc := hc.pick k3
        replace hc := hc.pick k3
        replace hc := hc.pick k3
        replace hc := hc.pick k3
        replace hc := hc.pick k4
        exact hj56 load x_7 x_8 (some ⟨g_5,0,none⟩) c_12 _ _  (hf.kp rfl) hc hF
      ·replace hF := condF hb hF
       clear hb
       refine wp_exit ?_
       refine xThen ?_
       refine xThen ?_
       have he := sj hF
       rw [← he] at hfin50
       refine cHit ?_
       exact hr50 _ _ _ hfin50 ⟨p_12,c_12,hf.kp rfl,hc⟩
     ·replace hF := condF hb hF
      clear hb
      refine wp_exit ?_
      refine xThen ?_
      refine xThen ?_
      have he := sj hF
      rw [← he] at hfin30
      refine cHit ?_
      exact hr30 _ _ _ hfin30 ⟨p_9,c_9,p_10,c_10,hf.kp rfl,hc⟩
   have ho22 : ∀ r,x22 = .out r → r = res := by
    rintro r rfl
    exact sj hF
   replace hc := hc.drop k6
   refine cLoop N (loopW (S := S22) (x := x22) ?_ N (0,r_5.Rides) _ _ ⟨p_2,c_2,p_1,c_1,p_4,c_4,hf.kp rfl,hc⟩ hx22)
   clear hF hf hc
   rintro ⟨x_1,x_2⟩ st22 a w KB22 ⟨p_5,c_5,p_6,c_6,p_7,c_7,hf,hc⟩ hF hfin22 hK22
   unfold law11_CrewCarried_b22 at hF
   refine wp_seq_k fun K59 h59 => cReg ?_
   refine stP hf rfl rfl rfl (pLt rfl rfl) fun a hf => cNil ?_
   refine h59 _ _ ?_
   refine wp_seq_k fun K60 h60 => cCond (b := (decide (x_1 < ((r_3.1.length : Nat) : Int)))) hf rfl (fun hb => ?_) (fun hb => ?_)
   ·replace hF := condT hb hF
    clear hb
    refine wp_skip ?_
    refine h60 _ _ ?_
    refine wp_seq_k fun K61 h61 => wp_block ?_
    refine wp_seq_k fun K62 h62 => cReg ?_
    refine stP hf rfl rfl rfl (pM rfl) fun a hf => stP hf rfl rfl rfl (pA rfl) fun a hf => cNil ?_
    refine h62 _ _ ?_
    refine wp_seq_k fun K63 h63 => wp_seq_k fun K64 h64 => ?_
    obtain ⟨e_10,he_10,hF⟩ := bnd_some hF
    obtain ⟨g_6,rfl,qa_9,qr_9⟩ := row_atm hc m3 he_10
    obtain ⟨e_11,he_11,hF⟩ := bnd_some hF
    obtain ⟨g_7,rfl,qa_10,qr_10⟩ := row_atm hc m1 he_11
    obtain ⟨t_6,ht_6,hF⟩ := bnd_some hF
    obtain ⟨t_8,ht_8,hF⟩ := bnd_some hF
    refine cQ hc follows_mx (by kernel_rfl) ?_
    refine qE hf rfl rfl rfl (Pu.ev (pM rfl)) fun a hf => qE hf rfl rfl rfl (Pu.ev (pM rfl)) fun a hf => qE hf rfl rfl rfl (Pu.ev (pIA Tryz.underlying25 sz_3 rfl rfl qa_9)) fun a hf => qE hf rfl rfl rfl (eLd1 sc_3 rfl (cell_row (sz := 1) (i := x_1.toNat) (j := 0) m3 qr_9 rfl)) fun a hf => qE hf rfl rfl rfl (Pu.ev (pFA fa_54_4 rfl)) fun a hf => qE hf rfl rfl rfl (eLd1 sc_52 rfl (cell_box m5 rfl)) fun a hf => qE hf rfl rfl rfl (Pu.ev (pM rfl)) fun a hf => qE hf rfl rfl rfl (Pu.ev (pIA Tryz.underlying52 sz_72 rfl rfl qa_10)) fun a hf => qE hf rfl rfl rfl (Pu.ev (pFA fa_72_0 rfl)) fun a hf => qE hf rfl rfl rfl (eLd1 sc_3 rfl (cell_row (sz := 4) (i := x_1.toNat) (j := 0) m1 qr_10 rfl)) fun a hf => qE hf rfl rfl rfl (Pu.ev (pLt rfl rfl)) fun a hf => qE hf rfl rfl rfl (Pu.ev (pM rfl)) fun a hf => qCut 6 (fun a => Has 318 a [(2,.int .u8 which),(7,pq b_2),(8,pq b_3),(9,.slice (some ⟨g_6,0,none⟩) r_3.1.length c_5),(14,pq b_5),(97,i6 ((r_3.1.length : Nat) : Int)),(98,i6 x_1),(15,i6 x_1),(101,.slice (some ⟨g_6,0,none⟩) r_3.1.length c_5),(102,i6 x_1),(103,.pointer (some ⟨g_6,x_1.toNat * 1,none⟩)),(104,i6 e_10),(105,.pointer (some ⟨b_2,4,none⟩)),(106,.slice (some ⟨g_7,0,none⟩) r_1.1.Rides.length c_6),(107,i6 x_1),(108,.pointer (some ⟨g_7,x_1.toNat * 4,none⟩)),(109,.pointer (some ⟨g_7,x_1.toNat * 4 + 0,none⟩)),(110,i6 e_11.From),(111,.bool (decide (e_10 < e_11.From))),(112,.bool (decide (e_10 < e_11.From))),(118,.bool t_6)]) ?_ ?_
    ·cases hb : (decide (e_10 < e_11.From))
     ·rw [hb] at hf
      have hF := condF hb ht_6
      obtain ⟨e_12,he_12,hF⟩ := bnd_some hF
      obtain ⟨qa_11,qr_11⟩ := row_atk hc m3 he_12
      refine qE hf rfl rfl rfl (Pu.ev (pM rfl)) fun a hf => qE hf rfl rfl rfl (Pu.ev (pM rfl)) fun a hf => qE hf rfl rfl rfl (Pu.ev (pIA Tryz.underlying25 sz_3 rfl rfl qa_11)) fun a hf => qE hf rfl rfl rfl (eLd1 sc_3 rfl (cell_row (sz := 1) (i := x_1.toNat) (j := 0) m3 qr_11 rfl)) fun a hf => qE hf rfl rfl rfl (Pu.ev (pGt rfl rfl)) fun a hf => qE hf rfl rfl rfl (Pu.ev (pPf rfl rfl)) fun a hf => ?_
      obtain rfl := sj hF
      exact qNil (hf.kp rfl)
     ·rw [hb] at hf
      have hF := condT hb ht_6
      obtain rfl := sj hF
      refine qS hf rfl rfl rfl fun a hf => qS hf rfl rfl rfl fun a hf => qS hf rfl rfl rfl fun a hf => qS hf rfl rfl rfl fun a hf => qS hf rfl rfl rfl fun a hf => qE hf rfl rfl rfl (Pu.ev (pPt rfl rfl)) fun a hf => qNil (hf.kp rfl)
    intro a hf
    refine qE hf rfl rfl rfl (Pu.ev (pM rfl)) fun a hf => qCut 15 (fun a => Has 318 a [(2,.int .u8 which),(7,pq b_2),(8,pq b_3),(9,.slice (some ⟨g_6,0,none⟩) r_3.1.length c_5),(14,pq b_5),(97,i6 ((r_3.1.length : Nat) : Int)),(98,i6 x_1),(15,i6 x_1),(101,.slice (some ⟨g_6,0,none⟩) r_3.1.length c_5),(102,i6 x_1),(103,.pointer (some ⟨g_6,x_1.toNat * 1,none⟩)),(104,i6 e_10),(105,.pointer (some ⟨b_2,4,none⟩)),(106,.slice (some ⟨g_7,0,none⟩) r_1.1.Rides.length c_6),(107,i6 x_1),(108,.pointer (some ⟨g_7,x_1.toNat * 4,none⟩)),(109,.pointer (some ⟨g_7,x_1.toNat * 4 + 0,none⟩)),(110,i6 e_11.From),(111,.bool (decide (e_10 < e_11.From))),(112,.bool (decide (e_10 < e_11.From))),(118,.bool t_6),(119,.bool t_6),(134,.bool t_8)]) ?_ ?_
    ·cases hb : t_6
     ·rw [hb] at hf
      have hF := condF hb ht_8
      obtain ⟨t_7,ht_7,hF⟩ := bnd_some hF
      refine qE hf rfl rfl rfl (Pu.ev (pM rfl)) fun a hf => qE hf rfl rfl rfl (Pu.ev (pGt rfl rfl)) fun a hf => qE hf rfl rfl rfl (Pu.ev (pM rfl)) fun a hf => qCut 11 (fun a => Has 318 a [(2,.int .u8 which),(7,pq b_2),(8,pq b_3),(9,.slice (some ⟨g_6,0,none⟩) r_3.1.length c_5),(14,pq b_5),(97,i6 ((r_3.1.length : Nat) : Int)),(98,i6 x_1),(15,i6 x_1),(101,.slice (some ⟨g_6,0,none⟩) r_3.1.length c_5),(102,i6 x_1),(103,.pointer (some ⟨g_6,x_1.toNat * 1,none⟩)),(104,i6 e_10),(105,.pointer (some ⟨b_2,4,none⟩)),(106,.slice (some ⟨g_7,0,none⟩) r_1.1.Rides.length c_6),(107,i6 x_1),(108,.pointer (some ⟨g_7,x_1.toNat * 4,none⟩)),(109,.pointer (some ⟨g_7,x_1.toNat * 4 + 0,none⟩)),(110,i6 e_11.From),(111,.bool (decide (e_10 < e_11.From))),(112,.bool (decide (e_10 < e_11.From))),(118,.bool false),(119,.bool false),(120,i6 x_1),(121,.bool (decide (0 < x_1))),(122,.bool (decide (0 < x_1))),(133,.bool t_7)]) ?_ ?_
      ·cases hb : (decide (0 < x_1))
       ·rw [hb] at hf
        have hF := condF hb ht_7
        obtain rfl := sj hF
        refine qS hf rfl rfl rfl fun a hf => qS hf rfl rfl rfl fun a hf => qS hf rfl rfl rfl fun a hf => qS hf rfl rfl rfl fun a hf => qS hf rfl rfl rfl fun a hf => qS hf rfl rfl rfl fun a hf => qS hf rfl rfl rfl fun a hf => qS hf rfl rfl rfl fun a hf => qS hf rfl rfl rfl fun a hf => qS hf rfl rfl rfl fun a hf => qE hf rfl rfl rfl (Pu.ev (pPf rfl rfl)) fun a hf => qNil (hf.kp rfl)
       ·rw [hb] at hf
        have hF := condT hb ht_7
        obtain ⟨e_13,he_13,hF⟩ := bnd_some hF
        obtain ⟨qa_12,qr_12⟩ := row_atk hc m3 he_13
        obtain ⟨e_14,he_14,hF⟩ := bnd_some hF
        obtain ⟨qa_13,qr_13⟩ := row_atk hc m3 he_14
        refine qE hf rfl rfl rfl (Pu.ev (pM rfl)) fun a hf => qE hf rfl rfl rfl (Pu.ev (pM rfl)) fun a hf => qE hf rfl rfl rfl (Pu.ev (pIA Tryz.underlying25 sz_3 rfl rfl qa_12)) fun a hf => qE hf rfl rfl rfl (eLd1 sc_3 rfl (cell_row (sz := 1) (i := x_1.toNat) (j := 0) m3 qr_12 rfl)) fun a hf => qE hf rfl rfl rfl (Pu.ev (pM rfl)) fun a hf => qE hf rfl rfl rfl (Pu.ev (pM rfl)) fun a hf => qE hf rfl rfl rfl (Pu.ev (pSub rfl rfl)) fun a hf => qE hf rfl rfl rfl (Pu.ev (pIA Tryz.underlying25 sz_3 rfl rfl qa_13)) fun a hf => qE hf rfl rfl rfl (eLd1 sc_3 rfl (cell_row (sz := 1) (i := (W (x_1 - 1)).toNat) (j := 0) m3 qr_13 rfl)) fun a hf => qE hf rfl rfl rfl (Pu.ev (pLt rfl rfl)) fun a hf => qE hf rfl rfl rfl (Pu.ev (pPt rfl rfl)) fun a hf => ?_
        obtain rfl := sj hF
        exact qNil (hf.kp rfl)
      intro a hf
      refine qE hf rfl rfl rfl (Pu.ev (pPf rfl rfl)) fun a hf => ?_
      obtain rfl := sj hF
      exact qNil (hf.kp rfl)
     ·rw [hb] at hf
      have hF := condT hb ht_8
      obtain rfl := sj hF
      refine qS hf rfl rfl rfl fun a hf => qS hf rfl rfl rfl fun a hf => qS hf rfl rfl rfl fun a hf => qS hf rfl rfl rfl fun a hf => qS hf rfl rfl rfl fun a hf => qS hf rfl rfl rfl fun a hf => qS hf rfl rfl rfl fun a hf => qS hf rfl rfl rfl fun a hf => qS hf rfl rfl rfl fun a hf => qS hf rfl rfl rfl fun a hf => qS hf rfl rfl rfl fun a hf => qS hf rfl rfl rfl fun a hf => qS hf rfl rfl rfl fun a hf => ?_
      refine qS hf rfl rfl rfl fun a hf => qE hf rfl rfl rfl (Pu.ev (pPt rfl rfl)) fun a hf => qNil (hf.kp rfl)
    intro a hf
    intro w hc
    refine h64 _ _ ?_
    refine cCond (b := t_8) hf rfl (fun hb => ?_) (fun hb => ?_)
    ·replace hF := condT hb hF
     clear hb
     refine wp_seq_k fun K65 h65 => cReg ?_
     refine stP hf rfl rfl rfl (pA rfl) fun a hf => cNil ?_
     refine h65 _ _ ?_
     refine wp_ret ?_
     refine xThenR ?_
     refine xBlkR ?_
     refine xThenR ?_
     refine xThenR ?_
     have he := sj hF
     rw [← he] at hfin22
     replace hF := ho22 _ hfin22
     refine xBlkR ?_
     refine xThenR ?_
     obtain rfl := hF
     replace hc := hc.drop k5
     replace hc := hc.drop k4
     replace hc := hc.drop k3
     replace hc := hc.drop k2
     replace hc := hc.drop k1
     replace hc := hc.drop k0
     exact fnOut1 (by simp) rfl Tryz.results7 hf hc (show look _ 6 = _ from rfl) ⟨rfl,hc⟩
    ·replace hF := condF hb hF
     clear hb
     refine wp_skip ?_
     refine h63 _ _ ?_
     obtain ⟨e_15,he_15,hF⟩ := bnd_some hF
     obtain ⟨qa_14,qr_14⟩ := row_atk hc m3 he_15
     obtain ⟨e_16,he_16,hF⟩ := bnd_some hF
     obtain ⟨g_8,rfl,qa_15,qr_15⟩ := row_atm hc m2 he_16
     refine regionE (fun θ => [⟨none,none,2,.int .u8 which⟩,⟨none,none,7,pq b_2⟩,⟨none,none,8,pq b_3⟩,⟨none,none,9,.slice (some ⟨g_6,0,none⟩) r_3.1.length c_5⟩,⟨none,none,14,pq b_5⟩,⟨none,none,15,i6 x_1⟩,⟨none,none,97,i6 ((r_3.1.length : Nat) : Int)⟩,⟨none,none,98,i6 x_1⟩,⟨some 0,none,135,.pointer (some ⟨b_5,4,none⟩)⟩,⟨some 1,none,136,.slice (some ⟨g_8,0,none⟩) x_2.length c_7⟩,⟨some 2,none,137,i6 x_1⟩,⟨some 3,none,138,.slice (some ⟨g_6,0,none⟩) r_3.1.length c_5⟩,⟨some 4,none,139,i6 x_1⟩,⟨some 5,none,140,.pointer (some ⟨g_6,x_1.toNat * 1,none⟩)⟩,⟨some 6,none,141,i6 e_15⟩,⟨some 7,none,142,.pointer (some ⟨g_8,x_1.toNat * 4,none⟩)⟩,⟨some 8,none,143,.pointer (some ⟨g_8,x_1.toNat * 4 + 0,none⟩)⟩]) (fun E θ => .box b_5 [i6 r_5.Car,i6 r_5.Wide,i6 r_5.Sag,i6 r_5.Most,.slice (some ⟨g_8,0,none⟩) x_2.length c_7] 54::.row (some ⟨g_7,0,none⟩) c_6 (r_1.1.Rides.map enc_crew_Ride) 72 4::(bif E 9 then .row (some ⟨g_8,0,none⟩) c_7 ((x_2.set x_1.toNat (⟨e_15,e_16.Long,e_16.Weight⟩ : crew_Ride)).map enc_crew_Ride) 72 4 else .row (some ⟨g_8,0,none⟩) c_7 (x_2.map enc_crew_Ride) 72 4)::.row (some ⟨g_6,0,none⟩) c_5 (r_3.1.map encI_i64) 3 1::.box b_3 [.slice weights_p weights.length weights_c,i6 r_2.1,i6 r_2.2] 165::.box b_2 [i6 r_1.1.Car,i6 r_1.1.Wide,i6 r_1.1.Sag,i6 r_1.1.Most,.slice (some ⟨g_7,0,none⟩) r_1.1.Rides.length c_6] 54::Lf) [(8,7),(9,8)] (fun a w => Has 318 a [(2,.int .u8 which),(7,pq b_2),(8,pq b_3),(9,.slice (some ⟨g_6,0,none⟩) r_3.1.length c_5),(14,pq b_5),(97,i6 ((r_3.1.length : Nat) : Int)),(98,i6 x_1)] ∧ Ctx G (.box b_5 [i6 r_5.Car,i6 r_5.Wide,i6 r_5.Sag,i6 r_5.Most,.slice (some ⟨g_8,0,none⟩) x_2.length c_7] 54::.row (some ⟨g_7,0,none⟩) c_6 (r_1.1.Rides.map enc_crew_Ride) 72 4::.row (some ⟨g_8,0,none⟩) c_7 ((x_2.set x_1.toNat (⟨e_15,e_16.Long,e_16.Weight⟩ : crew_Ride)).map enc_crew_Ride) 72 4::.row (some ⟨g_6,0,none⟩) c_5 (r_3.1.map encI_i64) 3 1::.box b_3 [.slice weights_p weights.length weights_c,i6 r_2.1,i6 r_2.2] 165::.box b_2 [i6 r_1.1.Car,i6 r_1.1.Wide,i6 r_1.1.Sag,i6 r_1.1.Most,.slice (some ⟨g_7,0,none⟩) r_1.1.Rides.length c_6] 54::Lf) w) follows_mx (by kernel_rfl) (by kernel_rfl) (HasE.of hf ⟨rfl,rfl,rfl,rfl,rfl,rfl,rfl,rfl,trivial,trivial,trivial,trivial,trivial,trivial,trivial,trivial,trivial,trivial⟩) hc ⟨?_,?_,?_,?_,?_,?_,?_,?_,?_,?_,trivial⟩ ?_ ?_
     ·intro E θ a w hD hi hp he hc
      have hf := he.h0
      replace hf := hf.more he 4 rfl onT
      refine stP hf rfl rfl rfl (pFA fa_54_4 rfl) fun a hf => cNil ?_
      refine xThenN ?_
      intro ds u hau
      refine ⟨θ,he.put0 hi hau hf rfl 8 rfl rfl,?_⟩
      exact hc
     ·intro E θ a w hD hi hp he hc
      have e0 := hp.of (k := 0) rfl
      have hf := he.h0
      replace hf := hf.more he 8 rfl (onP e0)
      refine stE hf hc rfl rfl rfl (eLd1 sc_52 rfl (cell_box m0 rfl)) fun a w hf hc => cNil ?_
      refine xThenN ?_
      intro ds u hau
      refine ⟨θ,he.put0 hi hau hf rfl 9 rfl rfl,?_⟩
      exact hc
     ·intro E θ a w hD hi hp he hc
      have hf := he.h0
      replace hf := hf.more he 5 rfl onT
      refine stP hf rfl rfl rfl (pM rfl) fun a hf => cNil ?_
      refine xThenN ?_
      intro ds u hau
      refine ⟨θ,he.put0 hi hau hf rfl 10 rfl rfl,?_⟩
      exact hc
     ·intro E θ a w hD hi hp he hc
      have hf := he.h0
      replace hf := hf.more he 3 rfl onT
      refine stP hf rfl rfl rfl (pM rfl) fun a hf => cNil ?_
      refine xThenN ?_
      intro ds u hau
      refine ⟨θ,he.put0 hi hau hf rfl 11 rfl rfl,?_⟩
      exact hc
     ·intro E θ a w hD hi hp he hc
      have hf := he.h0
      replace hf := hf.more he 5 rfl onT
      refine stP hf rfl rfl rfl (pM rfl) fun a hf => cNil ?_
      refine xThenN ?_
      intro ds u hau
      refine ⟨θ,he.put0 hi hau hf rfl 12 rfl rfl,?_⟩
      exact hc
     ·intro E θ a w hD hi hp he hc
      have e3 := hp.of (k := 3) rfl
      have e4 := hp.of (k := 4) rfl
      have hf := he.h0
      replace hf := hf.more he 11 rfl (onP e3)
      replace hf := hf.more he 12 rfl (onP e4)
      refine stP hf rfl rfl rfl (pIA Tryz.underlying25 sz_3 rfl rfl qa_14) fun a hf => cNil ?_
      refine xThenN ?_
      intro ds u hau
      refine ⟨θ,he.put0 hi hau hf rfl 13 rfl rfl,?_⟩
      exact hc
     ·intro E θ a w hD hi hp he hc
      have e5 := hp.of (k := 5) rfl
      have hf := he.h0
      replace hf := hf.more he 13 rfl (onP e5)
      refine stE hf hc rfl rfl rfl (eLd1 sc_3 rfl (cell_row (sz := 1) (i := x_1.toNat) (j := 0) m3 qr_14 rfl)) fun a w hf hc => cNil ?_
      refine xThenN ?_
      intro ds u hau
      refine ⟨θ,he.put0 hi hau hf rfl 14 rfl rfl,?_⟩
      exact hc
     ·intro E θ a w hD hi hp he hc
      have e1 := hp.of (k := 1) rfl
      have e2 := hp.of (k := 2) rfl
      have e8 := hD.f 0 rfl hi
      have e9 := hD.f 1 rfl e8
      try dsimp only at hc
      rw [e9] at hc
      have hf := he.h0
      replace hf := hf.more he 9 rfl (onP e1)
      replace hf := hf.more he 10 rfl (onP e2)
      refine stP hf rfl rfl rfl (pIA Tryz.underlying52 sz_72 rfl rfl qa_15) fun a hf => cNil ?_
      refine xThenN ?_
      intro ds u hau
      refine ⟨θ,he.put0 hi hau hf rfl 15 rfl rfl,?_⟩
      try dsimp only
      rw [updE_fls 7 e9 rfl]
      exact hc
     ·intro E θ a w hD hi hp he hc
      have e7 := hp.of (k := 7) rfl
      have hf := he.h0
      replace hf := hf.more he 15 rfl (onP e7)
      refine stP hf rfl rfl rfl (pFA fa_72_0 rfl) fun a hf => cNil ?_
      refine xThenN ?_
      intro ds u hau
      refine ⟨θ,he.put0 hi hau hf rfl 16 rfl rfl,?_⟩
      exact hc
     ·intro E θ a w hD hi hp he hc
      have e6 := hp.of (k := 6) rfl
      have e8 := hp.of (k := 8) rfl
      try dsimp only at hc
      rw [hi] at hc
      have hf := he.h0
      replace hf := hf.more he 14 rfl (onP e6)
      replace hf := hf.more he 16 rfl (onP e8)
      refine stRw (vs := [i6 e_15]) (o' := 0) (z := (⟨e_15,e_16.Long,e_16.Weight⟩ : crew_Ride)) (xs := x_2) hf hc rfl rfl rfl rfl sz_3 rfl (fun x => (one_enc_crew_Ride x).1) (getI_lt he_16) (fun e' he' => by cases (he'.symm.trans (getI_spec he_16).2); rfl) rfl u2 fun w hc => cNil ?_
      refine xThenN ?_
      intro ds u hau
      refine ⟨θ,he.stay0 hi hau hf rfl,?_⟩
      try dsimp only
      rw [updE_self E 9]
      exact hc
     ·intro E θ a w hall he hc
      have hf := he.h0
      have e9 := hall 9 rfl
      replace hf := hf.more he 7 rfl (onT)
      replace hf := hf.more he 6 rfl (onT)
      replace hf := hf.more he 4 rfl (onT)
      replace hf := hf.more he 3 rfl (onT)
      replace hf := hf.more he 2 rfl (onT)
      replace hf := hf.more he 1 rfl (onT)
      replace hf := hf.more he 0 rfl (onT)
      try dsimp only at hc
      rw [e9] at hc
      exact ⟨hf.kp rfl,hc⟩
     rintro a w ⟨hf,hc⟩
     refine h61 _ _ ?_
     refine cReg ?_
     refine stP hf rfl rfl rfl (pAdd rfl rfl) fun a hf => stP hf rfl rfl rfl (pM rfl) fun a hf => cNil ?_
     replace hc : Ctx G (.box b_5 [i6 r_5.Car,i6 r_5.Wide,i6 r_5.Sag,i6 r_5.Most,.slice (some ⟨g_8,0,none⟩) ((x_2.set x_1.toNat (⟨e_15,e_16.Long,e_16.Weight⟩ : crew_Ride)).length) c_7] 54::.row (some ⟨g_7,0,none⟩) c_6 (r_1.1.Rides.map enc_crew_Ride) 72 4::.row (some ⟨g_8,0,none⟩) c_7 ((x_2.set x_1.toNat (⟨e_15,e_16.Long,e_16.Weight⟩ : crew_Ride)).map enc_crew_Ride) 72 4::.row (some ⟨g_6,0,none⟩) c_5 (r_3.1.map encI_i64) 3 1::.box b_3 [.slice weights_p weights.length weights_c,i6 r_2.1,i6 r_2.2] 165::.box b_2 [i6 r_1.1.Car,i6 r_1.1.Wide,i6 r_1.1.Sag,i6 r_1.1.Most,.slice (some ⟨g_7,0,none⟩) r_1.1.Rides.length c_6] 54::Lf) w := by simp only [List.length_set] at hc ⊢; exact hc
     exact hK22 (W (x_1 + 1),(x_2.set x_1.toNat (⟨e_15,e_16.Long,e_16.Weight⟩ : crew_Ride))) _ _ (sj hF).symm ⟨(some ⟨g_6,0,none⟩),c_5,(some ⟨g_7,0,none⟩),c_6,(some ⟨g_8,0,none⟩),c_7,hf.kp rfl,hc⟩
   ·replace hF := condF hb hF
    clear hb
    refine wp_exit ?_
    refine xThen ?_
    refine xThen ?_
    have he := sj hF
    rw [← he] at hfin22
    refine cHit ?_
    exact hr22 _ _ _ hfin22 ⟨p_5,c_5,p_6,c_6,p_7,c_7,hf.kp rfl,hc⟩

end Go.Nilo
