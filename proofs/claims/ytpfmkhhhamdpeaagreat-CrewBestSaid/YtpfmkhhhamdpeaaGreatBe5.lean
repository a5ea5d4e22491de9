/-
 What functions of the Go text compute, as plain functions, and that they do, part 5 of 5. Conditions: what each theorem names.
-/
import Derived.Test.YtpfmkhhhamdpeaaGreatBe4
import Derived.Test.YtpfmkhhhamdpeaaGreatProg
set_option linter.unusedVariables false
set_option linter.unusedSimpArgs false
set_option maxRecDepth 100000
set_option maxHeartbeats 4000000
namespace Go.Nilo
open Go.Proofs


def law11_awake (N : Nat)  : Option (Bool) :=
 Option.bind (law11_Two N) fun r =>
 Option.bind (crew_Assign N r) fun r_1 =>
 Option.bind (law11_Two N) fun r_2 =>
 Option.bind (crew_Blocks N r_2 ([0,1] : List Int)) fun r_3 =>
 Option.bind (law11_Two N) fun r_4 =>
 Option.bind (crew_Holds N r_4 ([(⟨0,0⟩ : crew_Refusal)] : List crew_Refusal)) fun r_5 =>
 Option.bind (law11_Trip N 70) fun r_6 =>
 Option.bind (crew_Hours N 0 r_6) fun r_7 =>
 Option.bind (law11_Trip N 70) fun r_8 =>
 Option.bind (crew_Late N 0 r_8) fun r_9 =>
 Option.bind (cond (((((r_1.2 != 0) || (r_3.2 != 0)) || (r_5.2 != 0)) || (r_7.2 != 0)) || (r_9.2.2 != 0)) (some true) (Option.bind (kit_Same_int N r_1.1 ([1,0] : List Int)) fun r_10 =>
 some (!r_10))) fun t_1 =>
 Option.bind (cond ((t_1 || (!(r_3.1.Person == 1 && r_3.1.Station == 0))) || (!r_5.1)) (some true) (Option.bind (kit_Same_api_Span N r_7.1 ([(⟨35,40⟩ : api_Span),(⟨65,75⟩ : api_Span)] : List api_Span)) fun r_11 =>
 some (!r_11))) fun t_2 =>
 cond ((t_2 || (r_9.1 != 1)) || (r_9.2.1 != (-1)))
 (some false)
 (Option.bind (law11_Trip N 80) fun r_12 =>
 Option.bind (crew_Latest N r_12) fun r_13 =>
 Option.bind (law11_Wire N) fun r_14 =>
 Option.bind (crew_Load N r_14 5) fun r_15 =>
 Option.bind (law11_Wire N) fun r_16 =>
 Option.bind (crew_Beyond N r_16) fun r_17 =>
 Option.bind (law11_Wire N) fun r_18 =>
 Option.bind (law11_span N 90 90) fun r_19 =>
 Option.bind (room ((r_18.Rides ++ [(⟨5,5,r_19⟩ : crew_Ride)])).length) fun un =>
 Option.bind (crew_Queue N (⟨r_18.Car,r_18.Wide,r_18.Sag,r_18.Most,(r_18.Rides ++ [(⟨5,5,r_19⟩ : crew_Ride)])⟩ : crew_Cable)) fun r_20 =>
 Option.bind (crew_Paid N (⟨600,480,500⟩ : crew_Pay) ([481] : List Int)) fun r_21 =>
 Option.bind (cond ((((((r_13.2 == 0) && (r_15.2 == 0)) && (r_17.2.2 == 0)) && (r_20.2 == 0)) && (r_21.2 == 0)) && (r_13.1 == 5)) (law11_span N 290 320) (some (⟨0,0⟩ : api_Span))) fun r_22 =>
 Option.bind (cond (((((((((r_13.2 == 0) && (r_15.2 == 0)) && (r_17.2.2 == 0)) && (r_20.2 == 0)) && (r_21.2 == 0)) && (r_13.1 == 5)) && (r_15.1.Lo == r_22.Lo && r_15.1.Hi == r_22.Hi)) && (r_17.1 == 5)) && (r_17.2.1 == (-1))) (kit_Same_int N r_20.1 ([0,10,15] : List Int)) (some false)) fun r_23 =>
 some (((((((((((r_13.2 == 0) && (r_15.2 == 0)) && (r_17.2.2 == 0)) && (r_20.2 == 0)) && (r_21.2 == 0)) && (r_13.1 == 5)) && (r_15.1.Lo == r_22.Lo && r_15.1.Hi == r_22.Hi)) && (r_17.1 == 5)) && (r_17.2.1 == (-1))) && r_23) && (r_21.1 == 4815)))
theorem law11_awake_ok {N : Nat} {G : Pers} {Lf : List Ent} {w : World}    (hc : Ctx G (Lf) w) {res : Bool} (hF : law11_awake N = some res) : Calls Tryz.prog 15 #[] w (fun e w => e = .returned (.bool res) ∧ Ctx G (Lf) w) := by
 unfold law11_awake at hF
 refine fnIn (args := []) Tryz.func15 rfl Tryz.ntmps15 rfl fun a hf => wp_seq_k fun K1 h1 => cReg ?_
 refine stP hf rfl rfl rfl (pA rfl) fun a hf => cNil ?_
 refine h1 _ _ ?_
 refine wp_seq_k fun K2 h2 => cReg ?_
 obtain ⟨r,hr,hF⟩ := bnd_some hF
 refine stC (vs := []) (caps := []) hf rfl rfl rfl en_67 rfl rfl rfl rfl (law11_Two_ok hc hr) ?_
 rintro _ w ⟨p_1,tcq,p_2,tcq_1,rfl,hc⟩
 refine ⟨_,rfl,fun a hf => ?_⟩
 obtain ⟨r_1,hr_1,hF⟩ := bnd_some hF
 obtain ⟨G1,hle1,hrd1,hc,hth1⟩ := lendT kdo_25 hc k0 k0
 obtain ⟨G2,hle2,hrd2,hc,hth2⟩ := lendT kdo_101 hc k0 k0
 refine stC (vs := [.agg #[.slice p_1 r.People.length tcq.1,.slice p_2 r.Stations.length tcq_1.1]]) (caps := []) hf rfl rfl rfl en_43 rfl rfl rfl rfl (crew_Assign_ok r (hrd1.mono hle2) hrd2 hc hr_1) ?_
 rintro _ w ⟨p_3,c_1,rfl,hc⟩
 refine ⟨_,rfl,fun a hf => ?_⟩
 replace hc := hth2 _ _ hc
 replace hc := hth1 _ _ hc
 refine stP hf rfl rfl rfl (pM rfl) fun a hf => stP hf rfl rfl rfl (pX rfl rfl) fun a hf => stP hf rfl rfl rfl (pX rfl rfl) fun a hf => stP hf rfl rfl rfl (pA rfl) fun a hf => stP hf rfl rfl rfl (pA rfl) fun a hf => cNil ?_
 refine h2 _ _ ?_
 refine wp_seq_k fun K3 h3 => cReg ?_
 obtain ⟨r_2,hr_2,hF⟩ := bnd_some hF
 refine stC (vs := []) (caps := []) hf rfl rfl rfl en_67 rfl rfl rfl rfl (law11_Two_ok hc hr_2) ?_
 rintro _ w ⟨p_4,tcq_2,p_5,tcq_3,rfl,hc⟩
 refine ⟨_,rfl,fun a hf => ?_⟩
 refine stBS (rows := ([0,1] : List Int).map encI_i64) (vs := [(0,i6 0),(1,i6 1)]) hf hc rfl rfl sl_25 rfl ⟨rfl,rfl,rfl,rfl,rfl,rfl,trivial⟩ rfl rfl fun b_1 a w hf hc => ?_
 obtain ⟨r_3,hr_3,hF⟩ := bnd_some hF
 refine stE hf hc rfl rfl rfl (eC (v := .tuple #[.agg #[i6 r_3.1.Person,i6 r_3.1.Station],i6 r_3.2]) (vs := [.agg #[.slice p_4 r_2.People.length tcq_2.1,.slice p_5 r_2.Stations.length tcq_3.1],.slice (some ⟨b_1,0,none⟩) 2 2]) (caps := []) en_46 rfl rfl rfl rfl (fun w hc => by obtain ⟨G1,hle1,hrd1,hc,hth1⟩ := lendT kdo_25 hc k1 k1; obtain ⟨G2,hle2,hrd2,hc,hth2⟩ := lendT kdo_101 hc k1 k1; obtain ⟨G3,hle3,hrd3,hc,hth3⟩ := lend hc k0; exact (crew_Blocks_ok r_2 ([0,1] : List Int) ((hrd1.mono hle2).mono hle3) (hrd2.mono hle3) hrd3 hc hr_3).mono fun e w h => ⟨h.1,(unpickT (hth1 _ _ (unpickT (hth2 _ _ ((hth3 _ _ h.2).unpick k0)) k1 k1)) k1 k1)⟩)) fun a w hf hc => stP hf rfl rfl rfl (pM rfl) fun a hf => stP hf rfl rfl rfl (pX rfl rfl) fun a hf => stP hf rfl rfl rfl (pX rfl rfl) fun a hf => stAl (cs := [i6 0,i6 0]) hf hc rfl rfl zr_86 rfl fun b_2 a w hf hc => stSt (vs := [i6 r_3.1.Person,i6 r_3.1.Station]) hf hc rfl rfl rfl rfl sz_86 rfl rfl u0 fun w hc => stP hf rfl rfl rfl (pA rfl) fun a hf => cNil ?_
 replace hc := hc.drop k9
 replace hc := hc.drop k8
 replace hc := hc.drop k7
 replace hc := hc.drop k6
 replace hc := hc.drop k5
 replace hc := hc.drop k4
 replace hc := hc.drop k3
 replace hc := hc.drop k2
 replace hc := hc.drop k1
 refine h3 _ _ ?_
 refine wp_seq_k fun K4 h4 => cReg ?_
 obtain ⟨r_4,hr_4,hF⟩ := bnd_some hF
 refine stC (vs := []) (caps := []) hf rfl rfl rfl en_67 rfl rfl rfl rfl (law11_Two_ok hc hr_4) ?_
 rintro _ w ⟨p_6,tcq_4,p_7,tcq_5,rfl,hc⟩
 refine ⟨_,rfl,fun a hf => ?_⟩
 refine stP hf rfl rfl rfl (pBuildS (cells := [i6 0,i6 0]) bt_86 rfl rfl) fun a hf => stBS (rows := ([(⟨0,0⟩ : crew_Refusal)] : List crew_Refusal).map enc_crew_Refusal) (vs := [(0,.agg #[i6 0,i6 0])]) hf hc rfl rfl sl_99 rfl ⟨rfl,rfl,rfl,trivial⟩ rfl rfl fun b_3 a w hf hc => ?_
 obtain ⟨r_5,hr_5,hF⟩ := bnd_some hF
 refine stE hf hc rfl rfl rfl (eC (v := .tuple #[.bool r_5.1,i6 r_5.2]) (vs := [.agg #[.slice p_6 r_4.People.length tcq_4.1,.slice p_7 r_4.Stations.length tcq_5.1],.slice (some ⟨b_3,0,none⟩) 1 1]) (caps := []) en_59 rfl rfl rfl rfl (fun w hc => by obtain ⟨G1,hle1,hrd1,hc,hth1⟩ := lendT kdo_25 hc k1 k1; obtain ⟨G2,hle2,hrd2,hc,hth2⟩ := lendT kdo_101 hc k1 k1; obtain ⟨G3,hle3,hrd3,hc,hth3⟩ := lend hc k0; exact (crew_Holds_ok r_4 ([(⟨0,0⟩ : crew_Refusal)] : List crew_Refusal) ((hrd1.mono hle2).mono hle3) (hrd2.mono hle3) hrd3 hc hr_5).mono fun e w h => ⟨h.1,(unpickT (hth1 _ _ (unpickT (hth2 _ _ ((hth3 _ _ h.2).unpick k0)) k1 k1)) k1 k1)⟩)) fun a w hf hc => stP hf rfl rfl rfl (pM rfl) fun a hf => stP hf rfl rfl rfl (pX rfl rfl) fun a hf => stP hf rfl rfl rfl (pX rfl rfl) fun a hf => stP hf rfl rfl rfl (pA rfl) fun a hf => stP hf rfl rfl rfl (pA rfl) fun a hf => cNil ?_
 refine h4 _ _ ?_
 refine wp_seq_k fun K5 h5 => cReg ?_
 obtain ⟨r_6,hr_6,hF⟩ := bnd_some hF
 refine stC (vs := [i6 70]) (caps := []) hf rfl rfl rfl en_68 rfl rfl rfl rfl (law11_Trip_ok 70 hc hr_6) ?_
 rintro _ w ⟨p_8,c_2,rfl,hc⟩
 refine ⟨_,rfl,fun a hf => ?_⟩
 obtain ⟨r_7,hr_7,hF⟩ := bnd_some hF
 obtain ⟨G1,hle1,hrd1,hc,hth1⟩ := lend hc k0
 refine stC (vs := [i6 0,.slice p_8 r_6.length c_2]) (caps := []) hf rfl rfl rfl en_18 rfl rfl rfl rfl (crew_Hours_ok 0 r_6 hrd1 hc hr_7) ?_
 rintro _ w ⟨p_9,c_3,rfl,hc⟩
 refine ⟨_,rfl,fun a hf => ?_⟩
 replace hc := hth1 _ _ hc
 refine stP hf rfl rfl rfl (pM rfl) fun a hf => stP hf rfl rfl rfl (pX rfl rfl) fun a hf => stP hf rfl rfl rfl (pX rfl rfl) fun a hf => stP hf rfl rfl rfl (pA rfl) fun a hf => stP hf rfl rfl rfl (pA rfl) fun a hf => cNil ?_
 replace hc := hc.drop k6
 replace hc := hc.drop k5
 replace hc := hc.drop k4
 replace hc := hc.drop k3
 replace hc := hc.drop k2
 replace hc := hc.drop k0
 refine h5 _ _ ?_
 refine wp_seq_k fun K6 h6 => cReg ?_
 obtain ⟨r_8,hr_8,hF⟩ := bnd_some hF
 refine stC (vs := [i6 70]) (caps := []) hf rfl rfl rfl en_68 rfl rfl rfl rfl (law11_Trip_ok 70 hc hr_8) ?_
 rintro _ w ⟨p_10,c_4,rfl,hc⟩
 refine ⟨_,rfl,fun a hf => ?_⟩
 obtain ⟨r_9,hr_9,hF⟩ := bnd_some hF
 refine stE hf hc rfl rfl rfl (eC (v := .tuple #[i6 r_9.1,i6 r_9.2.1,i6 r_9.2.2]) (vs := [i6 0,.slice p_10 r_8.length c_4]) (caps := []) en_22 rfl rfl rfl rfl (fun w hc => by obtain ⟨G1,hle1,hrd1,hc,hth1⟩ := lend hc k0; exact (crew_Late_ok 0 r_8 hrd1 hc hr_9).mono fun e w h => ⟨h.1,((hth1 _ _ h.2).unpick k0)⟩)) fun a w hf hc => stP hf rfl rfl rfl (pM rfl) fun a hf => stP hf rfl rfl rfl (pX rfl rfl) fun a hf => stP hf rfl rfl rfl (pX rfl rfl) fun a hf => stP hf rfl rfl rfl (pX rfl rfl) fun a hf => stP hf rfl rfl rfl (pA rfl) fun a hf => stP hf rfl rfl rfl (pA rfl) fun a hf => stP hf rfl rfl rfl (pA rfl) fun a hf => cNil ?_
 refine h6 _ _ ?_
 refine wp_seq_k fun K7 h7 => wp_seq_k fun K8 h8 => cReg ?_
 refine stP hf rfl rfl rfl (pM rfl) fun a hf => stP hf rfl rfl rfl (pNe rfl rfl) fun a hf => stP hf rfl rfl rfl (pM rfl) fun a hf => stCut 3 (fun a w => Has 174 a [(1,.slice p_3 r_1.1.length c_1),(2,i6 r_1.2),(3,pq b_2),(4,i6 r_3.2),(5,.bool r_5.1),(6,i6 r_5.2),(7,.slice p_9 r_7.1.length c_3),(8,i6 r_7.2),(9,i6 r_9.1),(10,i6 r_9.2.1),(11,i6 r_9.2.2),(46,i6 r_1.2),(47,.bool (r_1.2 != 0)),(48,.bool (r_1.2 != 0)),(51,.bool ((r_1.2 != 0) || (r_3.2 != 0)))] ∧ Ctx G (.row p_10 c_4 (r_8.map enc_crew_Visit) 31 6::.row p_9 c_3 (r_7.1.map enc_api_Span) 29 2::.box b_2 [i6 r_3.1.Person,i6 r_3.1.Station] 86::.row p_3 c_1 (r_1.1.map encI_i64) 3 1::Lf) w) ?_ ?_
 ·cases hb : (r_1.2 != 0)
  ·rw [hb] at hf
   refine stP hf rfl rfl rfl (pM rfl) fun a hf => stP hf rfl rfl rfl (pNe rfl rfl) fun a hf => stP hf rfl rfl rfl (pPf rfl rfl) fun a hf => cNil ⟨hf.kp rfl,hc⟩
  ·rw [hb] at hf
   refine stS hf rfl rfl rfl fun a hf => stS hf rfl rfl rfl fun a hf => stP hf rfl rfl rfl (pPt rfl rfl) fun a hf => cNil ⟨hf.kp rfl,hc⟩
 intro a w ⟨hf,hc⟩
 refine stP hf rfl rfl rfl (pM rfl) fun a hf => stCut 3 (fun a w => Has 174 a [(1,.slice p_3 r_1.1.length c_1),(2,i6 r_1.2),(3,pq b_2),(4,i6 r_3.2),(5,.bool r_5.1),(6,i6 r_5.2),(7,.slice p_9 r_7.1.length c_3),(8,i6 r_7.2),(9,i6 r_9.1),(10,i6 r_9.2.1),(11,i6 r_9.2.2),(46,i6 r_1.2),(47,.bool (r_1.2 != 0)),(48,.bool (r_1.2 != 0)),(51,.bool ((r_1.2 != 0) || (r_3.2 != 0))),(52,.bool ((r_1.2 != 0) || (r_3.2 != 0))),(55,.bool (((r_1.2 != 0) || (r_3.2 != 0)) || (r_5.2 != 0)))] ∧ Ctx G (.row p_10 c_4 (r_8.map enc_crew_Visit) 31 6::.row p_9 c_3 (r_7.1.map enc_api_Span) 29 2::.box b_2 [i6 r_3.1.Person,i6 r_3.1.Station] 86::.row p_3 c_1 (r_1.1.map encI_i64) 3 1::Lf) w) ?_ ?_
 ·cases hb : ((r_1.2 != 0) || (r_3.2 != 0))
  ·rw [hb] at hf
   refine stP hf rfl rfl rfl (pM rfl) fun a hf => stP hf rfl rfl rfl (pNe rfl rfl) fun a hf => stP hf rfl rfl rfl (pPf rfl rfl) fun a hf => cNil ⟨hf.kp rfl,hc⟩
  ·rw [hb] at hf
   refine stS hf rfl rfl rfl fun a hf => stS hf rfl rfl rfl fun a hf => stP hf rfl rfl rfl (pPt rfl rfl) fun a hf => cNil ⟨hf.kp rfl,hc⟩
 intro a w ⟨hf,hc⟩
 refine stP hf rfl rfl rfl (pM rfl) fun a hf => stCut 3 (fun a w => Has 174 a [(1,.slice p_3 r_1.1.length c_1),(2,i6 r_1.2),(3,pq b_2),(4,i6 r_3.2),(5,.bool r_5.1),(6,i6 r_5.2),(7,.slice p_9 r_7.1.length c_3),(8,i6 r_7.2),(9,i6 r_9.1),(10,i6 r_9.2.1),(11,i6 r_9.2.2),(46,i6 r_1.2),(47,.bool (r_1.2 != 0)),(48,.bool (r_1.2 != 0)),(51,.bool ((r_1.2 != 0) || (r_3.2 != 0))),(52,.bool ((r_1.2 != 0) || (r_3.2 != 0))),(55,.bool (((r_1.2 != 0) || (r_3.2 != 0)) || (r_5.2 != 0))),(56,.bool (((r_1.2 != 0) || (r_3.2 != 0)) || (r_5.2 != 0))),(59,.bool ((((r_1.2 != 0) || (r_3.2 != 0)) || (r_5.2 != 0)) || (r_7.2 != 0)))] ∧ Ctx G (.row p_10 c_4 (r_8.map enc_crew_Visit) 31 6::.row p_9 c_3 (r_7.1.map enc_api_Span) 29 2::.box b_2 [i6 r_3.1.Person,i6 r_3.1.Station] 86::.row p_3 c_1 (r_1.1.map encI_i64) 3 1::Lf) w) ?_ ?_
 ·cases hb : (((r_1.2 != 0) || (r_3.2 != 0)) || (r_5.2 != 0))
  ·rw [hb] at hf
   refine stP hf rfl rfl rfl (pM rfl) fun a hf => stP hf rfl rfl rfl (pNe rfl rfl) fun a hf => stP hf rfl rfl rfl (pPf rfl rfl) fun a hf => cNil ⟨hf.kp rfl,hc⟩
  ·rw [hb] at hf
   refine stS hf rfl rfl rfl fun a hf => stS hf rfl rfl rfl fun a hf => stP hf rfl rfl rfl (pPt rfl rfl) fun a hf => cNil ⟨hf.kp rfl,hc⟩
 intro a w ⟨hf,hc⟩
 refine stP hf rfl rfl rfl (pM rfl) fun a hf => stCut 3 (fun a w => Has 174 a [(1,.slice p_3 r_1.1.length c_1),(2,i6 r_1.2),(3,pq b_2),(4,i6 r_3.2),(5,.bool r_5.1),(6,i6 r_5.2),(7,.slice p_9 r_7.1.length c_3),(8,i6 r_7.2),(9,i6 r_9.1),(10,i6 r_9.2.1),(11,i6 r_9.2.2),(46,i6 r_1.2),(47,.bool (r_1.2 != 0)),(48,.bool (r_1.2 != 0)),(51,.bool ((r_1.2 != 0) || (r_3.2 != 0))),(52,.bool ((r_1.2 != 0) || (r_3.2 != 0))),(55,.bool (((r_1.2 != 0) || (r_3.2 != 0)) || (r_5.2 != 0))),(56,.bool (((r_1.2 != 0) || (r_3.2 != 0)) || (r_5.2 != 0))),(59,.bool ((((r_1.2 != 0) || (r_3.2 != 0)) || (r_5.2 != 0)) || (r_7.2 != 0))),(60,.bool ((((r_1.2 != 0) || (r_3.2 != 0)) || (r_5.2 != 0)) || (r_7.2 != 0))),(63,.bool (((((r_1.2 != 0) || (r_3.2 != 0)) || (r_5.2 != 0)) || (r_7.2 != 0)) || (r_9.2.2 != 0)))] ∧ Ctx G (.row p_10 c_4 (r_8.map enc_crew_Visit) 31 6::.row p_9 c_3 (r_7.1.map enc_api_Span) 29 2::.box b_2 [i6 r_3.1.Person,i6 r_3.1.Station] 86::.row p_3 c_1 (r_1.1.map encI_i64) 3 1::Lf) w) ?_ ?_
 ·cases hb : ((((r_1.2 != 0) || (r_3.2 != 0)) || (r_5.2 != 0)) || (r_7.2 != 0))
  ·rw [hb] at hf
   refine stP hf rfl rfl rfl (pM rfl) fun a hf => stP hf rfl rfl rfl (pNe rfl rfl) fun a hf => stP hf rfl rfl rfl (pPf rfl rfl) fun a hf => cNil ⟨hf.kp rfl,hc⟩
  ·rw [hb] at hf
   refine stS hf rfl rfl rfl fun a hf => stS hf rfl rfl rfl fun a hf => stP hf rfl rfl rfl (pPt rfl rfl) fun a hf => cNil ⟨hf.kp rfl,hc⟩
 intro a w ⟨hf,hc⟩
 refine stP hf rfl rfl rfl (pM rfl) fun a hf => ?_
 obtain ⟨t_1,ht_1,hF⟩ := bnd_some hF
 refine stCut 5 (fun a w => Has 174 a [(1,.slice p_3 r_1.1.length c_1),(2,i6 r_1.2),(3,pq b_2),(4,i6 r_3.2),(5,.bool r_5.1),(6,i6 r_5.2),(7,.slice p_9 r_7.1.length c_3),(8,i6 r_7.2),(9,i6 r_9.1),(10,i6 r_9.2.1),(11,i6 r_9.2.2),(46,i6 r_1.2),(47,.bool (r_1.2 != 0)),(48,.bool (r_1.2 != 0)),(51,.bool ((r_1.2 != 0) || (r_3.2 != 0))),(52,.bool ((r_1.2 != 0) || (r_3.2 != 0))),(55,.bool (((r_1.2 != 0) || (r_3.2 != 0)) || (r_5.2 != 0))),(56,.bool (((r_1.2 != 0) || (r_3.2 != 0)) || (r_5.2 != 0))),(59,.bool ((((r_1.2 != 0) || (r_3.2 != 0)) || (r_5.2 != 0)) || (r_7.2 != 0))),(60,.bool ((((r_1.2 != 0) || (r_3.2 != 0)) || (r_5.2 != 0)) || (r_7.2 != 0))),(63,.bool (((((r_1.2 != 0) || (r_3.2 != 0)) || (r_5.2 != 0)) || (r_7.2 != 0)) || (r_9.2.2 != 0))),(64,.bool (((((r_1.2 != 0) || (r_3.2 != 0)) || (r_5.2 != 0)) || (r_7.2 != 0)) || (r_9.2.2 != 0))),(69,.bool t_1)] ∧ Ctx G (.row p_10 c_4 (r_8.map enc_crew_Visit) 31 6::.row p_9 c_3 (r_7.1.map enc_api_Span) 29 2::.box b_2 [i6 r_3.1.Person,i6 r_3.1.Station] 86::.row p_3 c_1 (r_1.1.map encI_i64) 3 1::Lf) w) ?_ ?_
 ·cases hb : (((((r_1.2 != 0) || (r_3.2 != 0)) || (r_5.2 != 0)) || (r_7.2 != 0)) || (r_9.2.2 != 0))
  ·rw [hb] at hf
   have hF := condF hb ht_1
   refine stP hf rfl rfl rfl (pM rfl) fun a hf => stBS (rows := ([1,0] : List Int).map encI_i64) (vs := [(0,i6 1),(1,i6 0)]) hf hc rfl rfl sl_25 rfl ⟨rfl,rfl,rfl,rfl,rfl,rfl,trivial⟩ rfl rfl fun b_4 a w hf hc => ?_
   obtain ⟨r_10,hr_10,hF⟩ := bnd_some hF
   refine stE hf hc rfl rfl rfl (eC (v := .bool r_10) (vs := [.slice p_3 r_1.1.length c_1,.slice (some ⟨b_4,0,none⟩) 2 2]) (caps := []) en_29 rfl rfl rfl rfl (fun w hc => by obtain ⟨G1,hle1,hrd1,hc,hth1⟩ := lend hc k4; obtain ⟨G2,hle2,hrd2,hc,hth2⟩ := lend hc k0; exact (kit_Same_int_ok r_1.1 ([1,0] : List Int) (hrd1.mono hle2) hrd2 hc hr_10).mono fun e w h => ⟨h.1,((hth1 _ _ ((hth2 _ _ h.2).unpick k0)).unpick k4)⟩)) fun a w hf hc => stP hf rfl rfl rfl (pNot rfl) fun a hf => stP hf rfl rfl rfl (pPf rfl rfl) fun a hf => ?_
   replace hc := hc.drop k0
   obtain rfl := sj hF
   exact cNil ⟨hf.kp rfl,hc⟩
  ·rw [hb] at hf
   have hF := condT hb ht_1
   obtain rfl := sj hF
   refine stS hf rfl rfl rfl fun a hf => stS hf rfl rfl rfl fun a hf => stS hf rfl rfl rfl fun a hf => stS hf rfl rfl rfl fun a hf => stP hf rfl rfl rfl (pPt rfl rfl) fun a hf => cNil ⟨hf.kp rfl,hc⟩
 intro a w ⟨hf,hc⟩
 refine stP hf rfl rfl rfl (pM rfl) fun a hf => stCut 4 (fun a w => Has 174 a [(1,.slice p_3 r_1.1.length c_1),(2,i6 r_1.2),(3,pq b_2),(4,i6 r_3.2),(5,.bool r_5.1),(6,i6 r_5.2),(7,.slice p_9 r_7.1.length c_3),(8,i6 r_7.2),(9,i6 r_9.1),(10,i6 r_9.2.1),(11,i6 r_9.2.2),(46,i6 r_1.2),(47,.bool (r_1.2 != 0)),(48,.bool (r_1.2 != 0)),(51,.bool ((r_1.2 != 0) || (r_3.2 != 0))),(52,.bool ((r_1.2 != 0) || (r_3.2 != 0))),(55,.bool (((r_1.2 != 0) || (r_3.2 != 0)) || (r_5.2 != 0))),(56,.bool (((r_1.2 != 0) || (r_3.2 != 0)) || (r_5.2 != 0))),(59,.bool ((((r_1.2 != 0) || (r_3.2 != 0)) || (r_5.2 != 0)) || (r_7.2 != 0))),(60,.bool ((((r_1.2 != 0) || (r_3.2 != 0)) || (r_5.2 != 0)) || (r_7.2 != 0))),(63,.bool (((((r_1.2 != 0) || (r_3.2 != 0)) || (r_5.2 != 0)) || (r_7.2 != 0)) || (r_9.2.2 != 0))),(64,.bool (((((r_1.2 != 0) || (r_3.2 != 0)) || (r_5.2 != 0)) || (r_7.2 != 0)) || (r_9.2.2 != 0))),(69,.bool t_1),(70,.bool t_1),(74,.bool (t_1 || (!(r_3.1.Person == 1 && r_3.1.Station == 0))))] ∧ Ctx G (.row p_10 c_4 (r_8.map enc_crew_Visit) 31 6::.row p_9 c_3 (r_7.1.map enc_api_Span) 29 2::.box b_2 [i6 r_3.1.Person,i6 r_3.1.Station] 86::.row p_3 c_1 (r_1.1.map encI_i64) 3 1::Lf) w) ?_ ?_
 ·cases hb : t_1
  ·rw [hb] at hf
   try rw [hb] at hc
   refine stE hf hc rfl rfl rfl (eLdN (vs := [i6 r_3.1.Person,i6 r_3.1.Station]) ag_86 rfl rfl (cells_box (n := 2) m2 rfl)) fun a w hf hc => stP hf rfl rfl rfl (pBuildS (cells := [i6 1,i6 0]) bt_86 rfl rfl) fun a hf => stP hf rfl rfl rfl (pNeA ge_86 rfl rfl (eqs_86 _ _ _ _)) fun a hf => stP hf rfl rfl rfl (pPf rfl rfl) fun a hf => cNil ⟨hf.kp rfl,hc⟩
  ·rw [hb] at hf
   try rw [hb] at hc
   refine stS hf rfl rfl rfl fun a hf => stS hf rfl rfl rfl fun a hf => stS hf rfl rfl rfl fun a hf => stP hf rfl rfl rfl (pPt rfl rfl) fun a hf => cNil ⟨hf.kp rfl,hc⟩
 intro a w ⟨hf,hc⟩
 refine stP hf rfl rfl rfl (pM rfl) fun a hf => stCut 3 (fun a w => Has 174 a [(1,.slice p_3 r_1.1.length c_1),(2,i6 r_1.2),(3,pq b_2),(4,i6 r_3.2),(5,.bool r_5.1),(6,i6 r_5.2),(7,.slice p_9 r_7.1.length c_3),(8,i6 r_7.2),(9,i6 r_9.1),(10,i6 r_9.2.1),(11,i6 r_9.2.2),(46,i6 r_1.2),(47,.bool (r_1.2 != 0)),(48,.bool (r_1.2 != 0)),(51,.bool ((r_1.2 != 0) || (r_3.2 != 0))),(52,.bool ((r_1.2 != 0) || (r_3.2 != 0))),(55,.bool (((r_1.2 != 0) || (r_3.2 != 0)) || (r_5.2 != 0))),(56,.bool (((r_1.2 != 0) || (r_3.2 != 0)) || (r_5.2 != 0))),(59,.bool ((((r_1.2 != 0) || (r_3.2 != 0)) || (r_5.2 != 0)) || (r_7.2 != 0))),(60,.bool ((((r_1.2 != 0) || (r_3.2 != 0)) || (r_5.2 != 0)) || (r_7.2 != 0))),(63,.bool (((((r_1.2 != 0) || (r_3.2 != 0)) || (r_5.2 != 0)) || (r_7.2 != 0)) || (r_9.2.2 != 0))),(64,.bool (((((r_1.2 != 0) || (r_3.2 != 0)) || (r_5.2 != 0)) || (r_7.2 != 0)) || (r_9.2.2 != 0))),(69,.bool t_1),(70,.bool t_1),(74,.bool (t_1 || (!(r_3.1.Person == 1 && r_3.1.Station == 0)))),(75,.bool (t_1 || (!(r_3.1.Person == 1 && r_3.1.Station == 0)))),(78,.bool ((t_1 || (!(r_3.1.Person == 1 && r_3.1.Station == 0))) || (!r_5.1)))] ∧ Ctx G (.row p_10 c_4 (r_8.map enc_crew_Visit) 31 6::.row p_9 c_3 (r_7.1.map enc_api_Span) 29 2::.box b_2 [i6 r_3.1.Person,i6 r_3.1.Station] 86::.row p_3 c_1 (r_1.1.map encI_i64) 3 1::Lf) w) ?_ ?_
 ·cases hb : (t_1 || (!(r_3.1.Person == 1 && r_3.1.Station == 0)))
  ·rw [hb] at hf
   refine stP hf rfl rfl rfl (pM rfl) fun a hf => stP hf rfl rfl rfl (pNot rfl) fun a hf => stP hf rfl rfl rfl (pPf rfl rfl) fun a hf => cNil ⟨hf.kp rfl,hc⟩
  ·rw [hb] at hf
   refine stS hf rfl rfl rfl fun a hf => stS hf rfl rfl rfl fun a hf => stP hf rfl rfl rfl (pPt rfl rfl) fun a hf => cNil ⟨hf.kp rfl,hc⟩
 intro a w ⟨hf,hc⟩
 refine stP hf rfl rfl rfl (pM rfl) fun a hf => ?_
 obtain ⟨t_2,ht_2,hF⟩ := bnd_some hF
 refine stCut 7 (fun a w => Has 174 a [(1,.slice p_3 r_1.1.length c_1),(2,i6 r_1.2),(3,pq b_2),(4,i6 r_3.2),(5,.bool r_5.1),(6,i6 r_5.2),(7,.slice p_9 r_7.1.length c_3),(8,i6 r_7.2),(9,i6 r_9.1),(10,i6 r_9.2.1),(11,i6 r_9.2.2),(46,i6 r_1.2),(47,.bool (r_1.2 != 0)),(48,.bool (r_1.2 != 0)),(51,.bool ((r_1.2 != 0) || (r_3.2 != 0))),(52,.bool ((r_1.2 != 0) || (r_3.2 != 0))),(55,.bool (((r_1.2 != 0) || (r_3.2 != 0)) || (r_5.2 != 0))),(56,.bool (((r_1.2 != 0) || (r_3.2 != 0)) || (r_5.2 != 0))),(59,.bool ((((r_1.2 != 0) || (r_3.2 != 0)) || (r_5.2 != 0)) || (r_7.2 != 0))),(60,.bool ((((r_1.2 != 0) || (r_3.2 != 0)) || (r_5.2 != 0)) || (r_7.2 != 0))),(63,.bool (((((r_1.2 != 0) || (r_3.2 != 0)) || (r_5.2 != 0)) || (r_7.2 != 0)) || (r_9.2.2 != 0))),(64,.bool (((((r_1.2 != 0) || (r_3.2 != 0)) || (r_5.2 != 0)) || (r_7.2 != 0)) || (r_9.2.2 != 0))),(69,.bool t_1),(70,.bool t_1),(74,.bool (t_1 || (!(r_3.1.Person == 1 && r_3.1.Station == 0)))),(75,.bool (t_1 || (!(r_3.1.Person == 1 && r_3.1.Station == 0)))),(78,.bool ((t_1 || (!(r_3.1.Person == 1 && r_3.1.Station == 0))) || (!r_5.1))),(79,.bool ((t_1 || (!(r_3.1.Person == 1 && r_3.1.Station == 0))) || (!r_5.1))),(86,.bool t_2)] ∧ Ctx G (.row p_10 c_4 (r_8.map enc_crew_Visit) 31 6::.row p_9 c_3 (r_7.1.map enc_api_Span) 29 2::.box b_2 [i6 r_3.1.Person,i6 r_3.1.Station] 86::.row p_3 c_1 (r_1.1.map encI_i64) 3 1::Lf) w) ?_ ?_
 ·cases hb : ((t_1 || (!(r_3.1.Person == 1 && r_3.1.Station == 0))) || (!r_5.1))
  ·rw [hb] at hf
   have hF := condF hb ht_2
   refine stP hf rfl rfl rfl (pM rfl) fun a hf => stP hf rfl rfl rfl (pBuildS (cells := [i6 35,i6 40]) bt_29 rfl rfl) fun a hf => stP hf rfl rfl rfl (pBuildS (cells := [i6 65,i6 75]) bt_29 rfl rfl) fun a hf => stBS (rows := ([(⟨35,40⟩ : api_Span),(⟨65,75⟩ : api_Span)] : List api_Span).map enc_api_Span) (vs := [(0,.agg #[i6 35,i6 40]),(1,.agg #[i6 65,i6 75])]) hf hc rfl rfl sl_33 rfl ⟨rfl,rfl,rfl,rfl,rfl,rfl,trivial⟩ rfl rfl fun b_5 a w hf hc => ?_
   obtain ⟨r_11,hr_11,hF⟩ := bnd_some hF
   refine stE hf hc rfl rfl rfl (eC (v := .bool r_11) (vs := [.slice p_9 r_7.1.length c_3,.slice (some ⟨b_5,0,none⟩) 2 2]) (caps := []) en_21 rfl rfl rfl rfl (fun w hc => by obtain ⟨G1,hle1,hrd1,hc,hth1⟩ := lend hc k2; obtain ⟨G2,hle2,hrd2,hc,hth2⟩ := lend hc k0; exact (kit_Same_api_Span_ok r_7.1 ([(⟨35,40⟩ : api_Span),(⟨65,75⟩ : api_Span)] : List api_Span) (hrd1.mono hle2) hrd2 hc hr_11).mono fun e w h => ⟨h.1,((hth1 _ _ ((hth2 _ _ h.2).unpick k0)).unpick k2)⟩)) fun a w hf hc => stP hf rfl rfl rfl (pNot rfl) fun a hf => stP hf rfl rfl rfl (pPf rfl rfl) fun a hf => ?_
   replace hc := hc.drop k0
   obtain rfl := sj hF
   exact cNil ⟨hf.kp rfl,hc⟩
  ·rw [hb] at hf
   have hF := condT hb ht_2
   obtain rfl := sj hF
   refine stS hf rfl rfl rfl fun a hf => stS hf rfl rfl rfl fun a hf => stS hf rfl rfl rfl fun a hf => stS hf rfl rfl rfl fun a hf => stS hf rfl rfl rfl fun a hf => stS hf rfl rfl rfl fun a hf => stP hf rfl rfl rfl (pPt rfl rfl) fun a hf => cNil ⟨hf.kp rfl,hc⟩
 intro a w ⟨hf,hc⟩
 refine stP hf rfl rfl rfl (pM rfl) fun a hf => stCut 3 (fun a w => Has 174 a ((1,.slice p_3 r_1.1.length c_1)::(2,i6 r_1.2)::(3,pq b_2)::(4,i6 r_3.2)::(5,.bool r_5.1)::(6,i6 r_5.2)::(7,.slice p_9 r_7.1.length c_3)::(8,i6 r_7.2)::(9,i6 r_9.1)::(10,i6 r_9.2.1)::(11,i6 r_9.2.2)::(46,i6 r_1.2)::(47,.bool (r_1.2 != 0))::(48,.bool (r_1.2 != 0))::(51,.bool ((r_1.2 != 0) || (r_3.2 != 0)))::(52,.bool ((r_1.2 != 0) || (r_3.2 != 0)))::(55,.bool (((r_1.2 != 0) || (r_3.2 != 0)) || (r_5.2 != 0)))::(56,.bool (((r_1.2 != 0) || (r_3.2 != 0)) || (r_5.2 != 0)))::(59,.bool ((((r_1.2 != 0) || (r_3.2 != 0)) || (r_5.2 != 0)) || (r_7.2 != 0)))::(60,.bool ((((r_1.2 != 0) || (r_3.2 != 0)) || (r_5.2 != 0)) || (r_7.2 != 0)))::(63,.bool (((((r_1.2 != 0) || (r_3.2 != 0)) || (r_5.2 != 0)) || (r_7.2 != 0)) || (r_9.2.2 != 0)))::(64,.bool (((((r_1.2 != 0) || (r_3.2 != 0)) || (r_5.2 != 0)) || (r_7.2 != 0)) || (r_9.2.2 != 0)))::(69,.bool t_1)::(70,.bool t_1)::(74,.bool (t_1 || (!(r_3.1.Person == 1 && r_3.1.Station == 0))))::(75,.bool (t_1 || (!(r_3.1.Person == 1 && r_3.1.Station == 0))))::(78,.bool ((t_1 || (!(r_3.1.Person == 1 && r_3.1.Station == 0))) || (!r_5.1)))::(79,.bool ((t_1 || (!(r_3.1.Person == 1 && r_3.1.Station == 0))) || (!r_5.1)))::(86,.bool t_2)::(87,.bool t_2)::(90,.bool (t_2 || (r_9.1 != 1)))::[]) ∧ Ctx G (.row p_10 c_4 (r_8.map enc_crew_Visit) 31 6::.row p_9 c_3 (r_7.1.map enc_api_Span) 29 2::.box b_2 [i6 r_3.1.Person,i6 r_3.1.Station] 86::.row p_3 c_1 (r_1.1.map encI_i64) 3 1::Lf) w) ?_ ?_
 ·cases hb : t_2
  ·rw [hb] at hf
   try rw [hb] at hc
   refine stP hf rfl rfl rfl (pM rfl) fun a hf => stP hf rfl rfl rfl (pNe rfl rfl) fun a hf => stP hf rfl rfl rfl (pPf rfl rfl) fun a hf => cNil ⟨hf.kp rfl,hc⟩
  ·rw [hb] at hf
   try rw [hb] at hc
   refine stS hf rfl rfl rfl fun a hf => stS hf rfl rfl rfl fun a hf => stP hf rfl rfl rfl (pPt rfl rfl) fun a hf => cNil ⟨hf.kp rfl,hc⟩
 intro a w ⟨hf,hc⟩
 refine stP hf rfl rfl rfl (pM rfl) fun a hf => stCut 3 (fun a w => Has 174 a ((1,.slice p_3 r_1.1.length c_1)::(2,i6 r_1.2)::(3,pq b_2)::(4,i6 r_3.2)::(5,.bool r_5.1)::(6,i6 r_5.2)::(7,.slice p_9 r_7.1.length c_3)::(8,i6 r_7.2)::(9,i6 r_9.1)::(10,i6 r_9.2.1)::(11,i6 r_9.2.2)::(46,i6 r_1.2)::(47,.bool (r_1.2 != 0))::(48,.bool (r_1.2 != 0))::(51,.bool ((r_1.2 != 0) || (r_3.2 != 0)))::(52,.bool ((r_1.2 != 0) || (r_3.2 != 0)))::(55,.bool (((r_1.2 != 0) || (r_3.2 != 0)) || (r_5.2 != 0)))::(56,.bool (((r_1.2 != 0) || (r_3.2 != 0)) || (r_5.2 != 0)))::(59,.bool ((((r_1.2 != 0) || (r_3.2 != 0)) || (r_5.2 != 0)) || (r_7.2 != 0)))::(60,.bool ((((r_1.2 != 0) || (r_3.2 != 0)) || (r_5.2 != 0)) || (r_7.2 != 0)))::(63,.bool (((((r_1.2 != 0) || (r_3.2 != 0)) || (r_5.2 != 0)) || (r_7.2 != 0)) || (r_9.2.2 != 0)))::(64,.bool (((((r_1.2 != 0) || (r_3.2 != 0)) || (r_5.2 != 0)) || (r_7.2 != 0)) || (r_9.2.2 != 0)))::(69,.bool t_1)::(70,.bool t_1)::(74,.bool (t_1 || (!(r_3.1.Person == 1 && r_3.1.Station == 0))))::(75,.bool (t_1 || (!(r_3.1.Person == 1 && r_3.1.Station == 0))))::(78,.bool ((t_1 || (!(r_3.1.Person == 1 && r_3.1.Station == 0))) || (!r_5.1)))::(79,.bool ((t_1 || (!(r_3.1.Person == 1 && r_3.1.Station == 0))) || (!r_5.1)))::(86,.bool t_2)::(87,.bool t_2)::(90,.bool (t_2 || (r_9.1 != 1)))::(91,.bool (t_2 || (r_9.1 != 1)))::(94,.bool ((t_2 || (r_9.1 != 1)) || (r_9.2.1 != (-1))))::[]) ∧ Ctx G (.row p_10 c_4 (r_8.map enc_crew_Visit) 31 6::.row p_9 c_3 (r_7.1.map enc_api_Span) 29 2::.box b_2 [i6 r_3.1.Person,i6 r_3.1.Station] 86::.row p_3 c_1 (r_1.1.map encI_i64) 3 1::Lf) w) ?_ ?_
 ·cases hb : (t_2 || (r_9.1 != 1))
  ·rw [hb] at hf
   refine stP hf rfl rfl rfl (pM rfl) fun a hf => stP hf rfl rfl rfl (pNe rfl rfl) fun a hf => stP hf rfl rfl rfl (pPf rfl rfl) fun a hf => cNil ⟨hf.kp rfl,hc⟩
  ·rw [hb] at hf
   refine stS hf rfl rfl rfl fun a hf => stS hf rfl rfl rfl fun a hf => stP hf rfl rfl rfl (pPt rfl rfl) fun a hf => cNil ⟨hf.kp rfl,hc⟩
 intro a w ⟨hf,hc⟩
 refine cNil ?_
 refine h8 _ _ ?_
 refine cCond (b := ((t_2 || (r_9.1 != 1)) || (r_9.2.1 != (-1)))) hf rfl (fun hb => ?_) (fun hb => ?_)
 ·replace hF := condT hb hF
  clear hb
  refine wp_seq_k fun K9 h9 => cReg ?_
  refine stP hf rfl rfl rfl (pA rfl) fun a hf => cNil ?_
  refine h9 _ _ ?_
  refine wp_ret ?_
  refine xThenR ?_
  obtain rfl := sj hF
  replace hc := hc.drop k3
  replace hc := hc.drop k2
  replace hc := hc.drop k1
  replace hc := hc.drop k0
  exact fnOut1 (by simp) rfl Tryz.results15 hf hc (show look _ 0 = _ from rfl) ⟨rfl,hc⟩
 ·replace hF := condF hb hF
  clear hb
  refine wp_skip ?_
  refine h7 _ _ ?_
  refine wp_seq_k fun K10 h10 => cReg ?_
  obtain ⟨r_12,hr_12,hF⟩ := bnd_some hF
  refine stC (vs := [i6 80]) (caps := []) hf rfl rfl rfl en_68 rfl rfl rfl rfl (law11_Trip_ok 80 hc hr_12) ?_
  rintro _ w ⟨p_11,c_5,rfl,hc⟩
  refine ⟨_,rfl,fun a hf => ?_⟩
  obtain ⟨r_13,hr_13,hF⟩ := bnd_some hF
  refine stE hf hc rfl rfl rfl (eC (v := .tuple #[i6 r_13.1,i6 r_13.2]) (vs := [.slice p_11 r_12.length c_5]) (caps := []) en_24 rfl rfl rfl rfl (fun w hc => by obtain ⟨G1,hle1,hrd1,hc,hth1⟩ := lend hc k0; exact (crew_Latest_ok r_12 hrd1 hc hr_13).mono fun e w h => ⟨h.1,((hth1 _ _ h.2).unpick k0)⟩)) fun a w hf hc => stP hf rfl rfl rfl (pM rfl) fun a hf => stP hf rfl rfl rfl (pX rfl rfl) fun a hf => stP hf rfl rfl rfl (pX rfl rfl) fun a hf => stP hf rfl rfl rfl (pA rfl) fun a hf => stP hf rfl rfl rfl (pA rfl) fun a hf => cNil ?_
  refine h10 _ _ ?_
  refine wp_seq_k fun K11 h11 => cReg ?_
  obtain ⟨r_14,hr_14,hF⟩ := bnd_some hF
  refine stC (vs := []) (caps := []) hf rfl rfl rfl en_69 rfl rfl rfl rfl (law11_Wire_ok hc hr_14) ?_
  rintro _ w ⟨p_12,c_6,rfl,hc⟩
  refine ⟨_,rfl,fun a hf => ?_⟩
  obtain ⟨r_15,hr_15,hF⟩ := bnd_some hF
  refine stE hf hc rfl rfl rfl (eC (v := .tuple #[.agg #[i6 r_15.1.Lo,i6 r_15.1.Hi],i6 r_15.2]) (vs := [.agg #[i6 r_14.Car,i6 r_14.Wide,i6 r_14.Sag,i6 r_14.Most,.slice p_12 r_14.Rides.length c_6],i6 5]) (caps := []) en_34 rfl rfl rfl rfl (fun w hc => by obtain ⟨G1,hle1,hrd1,hc,hth1⟩ := lend hc k0; exact (crew_Load_ok r_14 5 hrd1 hc hr_15).mono fun e w h => ⟨h.1,((hth1 _ _ h.2).unpick k0)⟩)) fun a w hf hc => stP hf rfl rfl rfl (pM rfl) fun a hf => stP hf rfl rfl rfl (pX rfl rfl) fun a hf => stP hf rfl rfl rfl (pX rfl rfl) fun a hf => stAl (cs := [i6 0,i6 0]) hf hc rfl rfl zr_29 rfl fun b_6 a w hf hc => stSt (vs := [i6 r_15.1.Lo,i6 r_15.1.Hi]) hf hc rfl rfl rfl rfl sz_29 rfl rfl u0 fun w hc => stP hf rfl rfl rfl (pA rfl) fun a hf => cNil ?_
  refine h11 _ _ ?_
  refine wp_seq_k fun K12 h12 => cReg ?_
  obtain ⟨r_16,hr_16,hF⟩ := bnd_some hF
  refine stC (vs := []) (caps := []) hf rfl rfl rfl en_69 rfl rfl rfl rfl (law11_Wire_ok hc hr_16) ?_
  rintro _ w ⟨p_13,c_7,rfl,hc⟩
  refine ⟨_,rfl,fun a hf => ?_⟩
  obtain ⟨r_17,hr_17,hF⟩ := bnd_some hF
  refine stE hf hc rfl rfl rfl (eC (v := .tuple #[i6 r_17.1,i6 r_17.2.1,i6 r_17.2.2]) (vs := [.agg #[i6 r_16.Car,i6 r_16.Wide,i6 r_16.Sag,i6 r_16.Most,.slice p_13 r_16.Rides.length c_7]]) (caps := []) en_36 rfl rfl rfl rfl (fun w hc => by obtain ⟨G1,hle1,hrd1,hc,hth1⟩ := lend hc k0; exact (crew_Beyond_ok r_16 hrd1 hc hr_17).mono fun e w h => ⟨h.1,((hth1 _ _ h.2).unpick k0)⟩)) fun a w hf hc => stP hf rfl rfl rfl (pM rfl) fun a hf => stP hf rfl rfl rfl (pX rfl rfl) fun a hf => stP hf rfl rfl rfl (pX rfl rfl) fun a hf => stP hf rfl rfl rfl (pX rfl rfl) fun a hf => stP hf rfl rfl rfl (pA rfl) fun a hf => stP hf rfl rfl rfl (pA rfl) fun a hf => stP hf rfl rfl rfl (pA rfl) fun a hf => cNil ?_
  refine h12 _ _ ?_
  refine wp_seq_k fun K13 h13 => cReg ?_
  obtain ⟨r_18,hr_18,hF⟩ := bnd_some hF
  refine stC (vs := []) (caps := []) hf rfl rfl rfl en_69 rfl rfl rfl rfl (law11_Wire_ok hc hr_18) ?_
  rintro _ w ⟨p_14,c_8,rfl,hc⟩
  refine ⟨_,rfl,fun a hf => ?_⟩
  refine stAl (cs := [i6 0,i6 0,i6 0,i6 0,.slice none 0 0]) hf hc rfl rfl zr_54 rfl fun b_7 a w hf hc => stSt (vs := [i6 r_18.Car,i6 r_18.Wide,i6 r_18.Sag,i6 r_18.Most,.slice p_14 r_18.Rides.length c_8]) hf hc rfl rfl rfl rfl sz_54 rfl rfl u0 fun w hc => cNil ?_
  replace hc := hc.drop k9
  replace hc := hc.drop k8
  replace hc := hc.drop k7
  replace hc := hc.drop k6
  replace hc := hc.drop k5
  replace hc := hc.drop k4
  replace hc := hc.drop k2
  refine h13 _ _ ?_
  refine wp_seq_k fun K14 h14 => ?_
  obtain ⟨r_19,hr_19,hF⟩ := bnd_some hF
  obtain ⟨un,hun,hF⟩ := bnd_some hF
  replace hc := hc.nilRow 0 0
  refine regionE (fun θ => [⟨none,none,2,i6 r_13.2⟩,⟨none,none,4,i6 r_15.2⟩,⟨none,none,6,i6 r_17.2.2⟩,⟨none,none,9,i6 r_17.1⟩,⟨none,none,10,i6 r_17.2.1⟩,⟨none,none,12,i6 r_13.1⟩,⟨none,none,13,pq b_6⟩,⟨none,none,14,pq b_7⟩,⟨some 0,none,112,.pointer (some ⟨b_7,4,none⟩)⟩,⟨some 1,none,113,.slice p_14 r_18.Rides.length c_8⟩,⟨some 2,none,114,.agg #[i6 r_19.Lo,i6 r_19.Hi]⟩,⟨some 3,none,115,.agg #[i6 5,i6 5,i6 r_19.Lo,i6 r_19.Hi]⟩,⟨some 4,none,116,.slice (some ⟨(θ 32).b,0,none⟩) 1 1⟩,⟨some 5,none,117,.slice ((θ 40).p) ((r_18.Rides ++ [(⟨5,5,r_19⟩ : crew_Ride)]).length) ((θ 40).c)⟩,⟨some 6,none,118,.pointer (some ⟨b_7,4,none⟩)⟩]) (fun E θ => (bif E 4 then .row (some ⟨(θ 32).b,0,none⟩) 1 (([(⟨5,5,r_19⟩ : crew_Ride)] : List crew_Ride).map enc_crew_Ride) 72 4 else .row none 0 [] 0 0)::(bif E 7 then .box b_7 [i6 r_18.Car,i6 r_18.Wide,i6 r_18.Sag,i6 r_18.Most,.slice ((θ 40).p) ((r_18.Rides ++ [(⟨5,5,r_19⟩ : crew_Ride)]).length) ((θ 40).c)] 54 else .box b_7 [i6 r_18.Car,i6 r_18.Wide,i6 r_18.Sag,i6 r_18.Most,.slice p_14 r_18.Rides.length c_8] 54)::(bif E 5 then .row ((θ 40).p) ((θ 40).c) ((r_18.Rides ++ [(⟨5,5,r_19⟩ : crew_Ride)]).map enc_crew_Ride) 72 4 else .row p_14 c_8 (r_18.Rides.map enc_crew_Ride) 72 4)::.box b_6 [i6 r_15.1.Lo,i6 r_15.1.Hi] 29::Lf) [(7,1),(7,5)] (fun a w => ∃ (b_9 : Nat) (p_16 : Option Addr) (c_10 : Nat),Has 174 a [(2,i6 r_13.2),(4,i6 r_15.2),(6,i6 r_17.2.2),(9,i6 r_17.1),(10,i6 r_17.2.1),(12,i6 r_13.1),(13,pq b_6),(14,pq b_7)] ∧ Ctx G (.row (some ⟨b_9,0,none⟩) 1 (([(⟨5,5,r_19⟩ : crew_Ride)] : List crew_Ride).map enc_crew_Ride) 72 4::.box b_7 [i6 r_18.Car,i6 r_18.Wide,i6 r_18.Sag,i6 r_18.Most,.slice p_16 ((r_18.Rides ++ [(⟨5,5,r_19⟩ : crew_Ride)]).length) c_10] 54::.row p_16 c_10 ((r_18.Rides ++ [(⟨5,5,r_19⟩ : crew_Ride)]).map enc_crew_Ride) 72 4::.box b_6 [i6 r_15.1.Lo,i6 r_15.1.Hi] 29::Lf) w) follows_mx (by kernel_rfl) (by kernel_rfl) (HasE.of hf ⟨rfl,rfl,rfl,rfl,rfl,rfl,rfl,rfl,trivial,trivial,trivial,trivial,trivial,trivial,trivial,trivial⟩) hc ⟨?_,?_,?_,?_,?_,?_,?_,?_,trivial⟩ ?_ ?_
  ·intro E θ a w hD hi hp he hc
   have hf := he.h0
   replace hf := hf.more he 7 rfl onT
   refine stP hf rfl rfl rfl (pFA fa_54_4 rfl) fun a hf => cNil ?_
   refine xThenN ?_
   intro ds u hau
   refine ⟨θ,he.put0 hi hau hf rfl 8 rfl rfl,?_⟩
   exact hc
  ·intro E θ a w hD hi hp he hc
   have e0 := hp.of (k := 0) rfl
   have e7 := hD.f 0 rfl hi
   try dsimp only at hc
   rw [e7] at hc
   have hf := he.h0
   replace hf := hf.more he 8 rfl (onP e0)
   refine stE hf hc rfl rfl rfl (eLd1 sc_52 rfl (cell_box m1 rfl)) fun a w hf hc => cNil ?_
   refine xThenN ?_
   intro ds u hau
   refine ⟨θ,he.put0 hi hau hf rfl 9 rfl rfl,?_⟩
   try dsimp only
   rw [updE_fls 1 e7 rfl]
   exact hc
  ·intro E θ a w hD hi hp he hc
   have hf := he.h0
   refine stE hf hc rfl rfl rfl (eC (v := .agg #[i6 r_19.Lo,i6 r_19.Hi]) (vs := [i6 90,i6 90]) (caps := []) en_51 rfl rfl rfl rfl (fun w hc => law11_span_ok 90 90 hc hr_19)) fun a w hf hc => cNil ?_
   refine xThenN ?_
   intro ds u hau
   refine ⟨θ,he.put0 hi hau hf rfl 10 rfl rfl,?_⟩
   exact hc
  ·intro E θ a w hD hi hp he hc
   have e2 := hp.of (k := 2) rfl
   have hf := he.h0
   replace hf := hf.more he 10 rfl (onP e2)
   refine stP hf rfl rfl rfl (pBuildS (cells := [i6 5,i6 5,i6 r_19.Lo,i6 r_19.Hi]) bt_72 rfl rfl) fun a hf => cNil ?_
   refine xThenN ?_
   intro ds u hau
   refine ⟨θ,he.put0 hi hau hf rfl 11 rfl rfl,?_⟩
   exact hc
  ·intro E θ a w hD hi hp he hc
   have e3 := hp.of (k := 3) rfl
   try dsimp only at hc
   rw [hi] at hc
   have hf := he.h0
   replace hf := hf.more he 11 rfl (onP e3)
   refine stBS (rows := ([(⟨5,5,r_19⟩ : crew_Ride)] : List crew_Ride).map enc_crew_Ride) (vs := [(0,.agg #[i6 5,i6 5,i6 r_19.Lo,i6 r_19.Hi])]) hf hc rfl rfl sl_52 rfl ⟨rfl,rfl,rfl,trivial⟩ rfl rfl fun b_8 a w hf hc => cNil ?_
   refine xThenN ?_
   intro ds u hau
   replace hc := hc.drop k1
   refine ⟨(setT θ 32 ⟨b_8,none,0,(fun _ => (none,0))⟩),he.put hi hau hf rfl [] trivial ⟨qq,qq,qq,qq,qq,qq,qq,qq,qq,qq,qq,qq,qq,qq,qq,trivial⟩,?_⟩
   try dsimp only
   rw [updE_self E 4]
   exact hc
  ·intro E θ a w hD hi hp he hc
   have e1 := hp.of (k := 1) rfl
   have e4 := hp.of (k := 4) rfl
   have e7 := hD.f 1 rfl hi
   try dsimp only at hc
   rw [e4,hi,e7] at hc
   have hf := he.h0
   replace hf := hf.more he 9 rfl (onP e1)
   replace hf := hf.more he 12 rfl (onP e4)
   refine stApm (xs := r_18.Rides) (ys := ([(⟨5,5,r_19⟩ : crew_Ride)] : List crew_Ride)) hf hc rfl rfl sl_52 rfl rfl rfl rfl rfl one_enc_crew_Ride (src_row hc m0) (fun _ _ => u2) (by simpa using room_spec hun) fun p_15 c_9 a w hf hc => cNil ?_
   refine xThenN ?_
   intro ds u hau
   refine ⟨(setT θ 40 ⟨0,p_15,c_9,(fun _ => (none,0))⟩),he.put hi hau hf rfl [] trivial ⟨qq,qq,qq,qq,qq,qq,qq,qq,qq,qq,qq,qq,qq,qq,qq,trivial⟩,?_⟩
   try dsimp only
   rw [updE_tru 5 e4,updE_self E 5,updE_fls 5 e7 rfl]
   exact hc
  ·intro E θ a w hD hi hp he hc
   have hf := he.h0
   replace hf := hf.more he 7 rfl onT
   refine stP hf rfl rfl rfl (pFA fa_54_4 rfl) fun a hf => cNil ?_
   refine xThenN ?_
   intro ds u hau
   refine ⟨θ,he.put0 hi hau hf rfl 14 rfl rfl,?_⟩
   exact hc
  ·intro E θ a w hD hi hp he hc
   have e5 := hp.of (k := 5) rfl
   have e6 := hp.of (k := 6) rfl
   try dsimp only at hc
   rw [hi] at hc
   have hf := he.h0
   replace hf := hf.more he 13 rfl (onP e5)
   replace hf := hf.more he 14 rfl (onP e6)
   refine stSt (vs := [.slice ((θ 40).p) ((r_18.Rides ++ [(⟨5,5,r_19⟩ : crew_Ride)]).length) ((θ 40).c)]) hf hc rfl rfl rfl rfl sz_52 rfl rfl u1 fun w hc => cNil ?_
   refine xThenN ?_
   intro ds u hau
   refine ⟨θ,he.stay0 hi hau hf rfl,?_⟩
   try dsimp only
   rw [updE_self E 7]
   exact hc
  ·intro E θ a w hall he hc
   have hf := he.h0
   have e4 := hall 4 rfl
   have e5 := hall 5 rfl
   have e7 := hall 7 rfl
   replace hf := hf.more he 7 rfl (onT)
   replace hf := hf.more he 6 rfl (onT)
   replace hf := hf.more he 5 rfl (onT)
   replace hf := hf.more he 4 rfl (onT)
   replace hf := hf.more he 3 rfl (onT)
   replace hf := hf.more he 2 rfl (onT)
   replace hf := hf.more he 1 rfl (onT)
   replace hf := hf.more he 0 rfl (onT)
   try dsimp only at hc
   rw [e4,e5,e7] at hc
   exact ⟨(θ 32).b,(θ 40).p,(θ 40).c,hf.kp rfl,hc⟩
  rintro a w ⟨b_9,p_16,c_10,hf,hc⟩
  refine h14 _ _ ?_
  refine wp_seq_k fun K15 h15 => cReg ?_
  refine stE hf hc rfl rfl rfl (eLdN (vs := [i6 r_18.Car,i6 r_18.Wide,i6 r_18.Sag,i6 r_18.Most,.slice p_16 ((r_18.Rides ++ [(⟨5,5,r_19⟩ : crew_Ride)]).length) c_10]) ag_54 rfl rfl (cells_box (n := 5) m1 rfl)) fun a w hf hc => ?_
  obtain ⟨r_20,hr_20,hF⟩ := bnd_some hF
  obtain ⟨G1,hle1,hrd1,hc,hth1⟩ := lend hc k2
  refine stC (vs := [.agg #[i6 r_18.Car,i6 r_18.Wide,i6 r_18.Sag,i6 r_18.Most,.slice p_16 ((r_18.Rides ++ [(⟨5,5,r_19⟩ : crew_Ride)]).length) c_10]]) (caps := []) hf rfl rfl rfl en_38 rfl rfl rfl rfl (crew_Queue_ok (⟨r_18.Car,r_18.Wide,r_18.Sag,r_18.Most,(r_18.Rides ++ [(⟨5,5,r_19⟩ : crew_Ride)])⟩ : crew_Cable) hrd1 hc hr_20) ?_
  rintro _ w ⟨p_17,c_11,rfl,hc⟩
  refine ⟨_,rfl,fun a hf => ?_⟩
  replace hc := hth1 _ _ hc
  refine stP hf rfl rfl rfl (pM rfl) fun a hf => stP hf rfl rfl rfl (pX rfl rfl) fun a hf => stP hf rfl rfl rfl (pX rfl rfl) fun a hf => stP hf rfl rfl rfl (pA rfl) fun a hf => stP hf rfl rfl rfl (pA rfl) fun a hf => cNil ?_
  refine h15 _ _ ?_
  refine wp_seq_k fun K16 h16 => cReg ?_
  refine stP hf rfl rfl rfl (pBuildS (cells := [i6 600,i6 480,i6 500]) bt_24 rfl rfl) fun a hf => stBS (rows := ([481] : List Int).map encI_i64) (vs := [(0,i6 481)]) hf hc rfl rfl sl_25 rfl ⟨rfl,rfl,rfl,trivial⟩ rfl rfl fun b_10 a w hf hc => ?_
  obtain ⟨r_21,hr_21,hF⟩ := bnd_some hF
  refine stE hf hc rfl rfl rfl (eC (v := .tuple #[i6 r_21.1,i6 r_21.2]) (vs := [.agg #[i6 600,i6 480,i6 500],.slice (some ⟨b_10,0,none⟩) 1 1]) (caps := []) en_26 rfl rfl rfl rfl (fun w hc => by obtain ⟨G1,hle1,hrd1,hc,hth1⟩ := lend hc k0; exact (crew_Paid_ok (⟨600,480,500⟩ : crew_Pay) ([481] : List Int) hrd1 hc hr_21).mono fun e w h => ⟨h.1,((hth1 _ _ h.2).unpick k0)⟩)) fun a w hf hc => stP hf rfl rfl rfl (pM rfl) fun a hf => stP hf rfl rfl rfl (pX rfl rfl) fun a hf => stP hf rfl rfl rfl (pX rfl rfl) fun a hf => stP hf rfl rfl rfl (pA rfl) fun a hf => stP hf rfl rfl rfl (pA rfl) fun a hf => cNil ?_
  refine h16 _ _ ?_
  refine wp_seq_k fun K17 h17 => ?_
  obtain ⟨r_22,hr_22,hF⟩ := bnd_some hF
  obtain ⟨r_23,hr_23,hF⟩ := bnd_some hF
  replace hc := hc.nilRow 0 0
  refine regionE (fun θ => (⟨none,none,2,i6 r_13.2⟩::⟨none,none,4,i6 r_15.2⟩::⟨none,none,6,i6 r_17.2.2⟩::⟨none,none,8,i6 r_20.2⟩::⟨none,none,9,i6 r_17.1⟩::⟨none,none,10,i6 r_17.2.1⟩::⟨none,none,11,i6 r_21.2⟩::⟨none,none,12,i6 r_13.1⟩::⟨none,none,13,pq b_6⟩::⟨none,none,15,.slice p_17 r_20.1.length c_11⟩::⟨none,none,16,i6 r_21.1⟩::⟨some 0,none,130,i6 r_13.2⟩::⟨some 1,none,131,.bool (r_13.2 == 0)⟩::⟨some 2,none,132,.bool (r_13.2 == 0)⟩::⟨some 3,none,133,(bif (r_13.2 == 0) then i6 r_15.2 else undef)⟩::⟨some 4,none,134,(bif (r_13.2 == 0) then .bool (r_15.2 == 0) else undef)⟩::⟨some 5,none,135,.bool ((r_13.2 == 0) && (r_15.2 == 0))⟩::⟨some 6,none,136,.bool ((r_13.2 == 0) && (r_15.2 == 0))⟩::⟨some 7,none,137,(bif ((r_13.2 == 0) && (r_15.2 == 0)) then i6 r_17.2.2 else undef)⟩::⟨some 8,none,138,(bif ((r_13.2 == 0) && (r_15.2 == 0)) then .bool (r_17.2.2 == 0) else undef)⟩::⟨some 9,none,139,.bool (((r_13.2 == 0) && (r_15.2 == 0)) && (r_17.2.2 == 0))⟩::⟨some 10,none,140,.bool (((r_13.2 == 0) && (r_15.2 == 0)) && (r_17.2.2 == 0))⟩::⟨some 11,none,141,(bif (((r_13.2 == 0) && (r_15.2 == 0)) && (r_17.2.2 == 0)) then i6 r_20.2 else undef)⟩::⟨some 12,none,142,(bif (((r_13.2 == 0) && (r_15.2 == 0)) && (r_17.2.2 == 0)) then .bool (r_20.2 == 0) else undef)⟩::⟨some 13,none,143,.bool ((((r_13.2 == 0) && (r_15.2 == 0)) && (r_17.2.2 == 0)) && (r_20.2 == 0))⟩::⟨some 14,none,144,.bool ((((r_13.2 == 0) && (r_15.2 == 0)) && (r_17.2.2 == 0)) && (r_20.2 == 0))⟩::⟨some 15,none,145,(bif ((((r_13.2 == 0) && (r_15.2 == 0)) && (r_17.2.2 == 0)) && (r_20.2 == 0)) then i6 r_21.2 else undef)⟩::⟨some 16,none,146,(bif ((((r_13.2 == 0) && (r_15.2 == 0)) && (r_17.2.2 == 0)) && (r_20.2 == 0)) then .bool (r_21.2 == 0) else undef)⟩::⟨some 17,none,147,.bool (((((r_13.2 == 0) && (r_15.2 == 0)) && (r_17.2.2 == 0)) && (r_20.2 == 0)) && (r_21.2 == 0))⟩::⟨some 18,none,148,.bool (((((r_13.2 == 0) && (r_15.2 == 0)) && (r_17.2.2 == 0)) && (r_20.2 == 0)) && (r_21.2 == 0))⟩::⟨some 19,none,149,(bif (((((r_13.2 == 0) && (r_15.2 == 0)) && (r_17.2.2 == 0)) && (r_20.2 == 0)) && (r_21.2 == 0)) then i6 r_13.1 else undef)⟩::⟨some 20,none,150,(bif (((((r_13.2 == 0) && (r_15.2 == 0)) && (r_17.2.2 == 0)) && (r_20.2 == 0)) && (r_21.2 == 0)) then .bool (r_13.1 == 5) else undef)⟩::⟨some 21,none,151,.bool ((((((r_13.2 == 0) && (r_15.2 == 0)) && (r_17.2.2 == 0)) && (r_20.2 == 0)) && (r_21.2 == 0)) && (r_13.1 == 5))⟩::⟨some 22,none,152,.bool ((((((r_13.2 == 0) && (r_15.2 == 0)) && (r_17.2.2 == 0)) && (r_20.2 == 0)) && (r_21.2 == 0)) && (r_13.1 == 5))⟩::⟨some 23,none,153,(bif ((((((r_13.2 == 0) && (r_15.2 == 0)) && (r_17.2.2 == 0)) && (r_20.2 == 0)) && (r_21.2 == 0)) && (r_13.1 == 5)) then .agg #[i6 r_15.1.Lo,i6 r_15.1.Hi] else undef)⟩::⟨some 24,none,154,(bif ((((((r_13.2 == 0) && (r_15.2 == 0)) && (r_17.2.2 == 0)) && (r_20.2 == 0)) && (r_21.2 == 0)) && (r_13.1 == 5)) then .agg #[i6 r_22.Lo,i6 r_22.Hi] else undef)⟩::⟨some 25,none,155,(bif ((((((r_13.2 == 0) && (r_15.2 == 0)) && (r_17.2.2 == 0)) && (r_20.2 == 0)) && (r_21.2 == 0)) && (r_13.1 == 5)) then .bool (r_15.1.Lo == r_22.Lo && r_15.1.Hi == r_22.Hi) else undef)⟩::⟨some 26,none,156,.bool (((((((r_13.2 == 0) && (r_15.2 == 0)) && (r_17.2.2 == 0)) && (r_20.2 == 0)) && (r_21.2 == 0)) && (r_13.1 == 5)) && (r_15.1.Lo == r_22.Lo && r_15.1.Hi == r_22.Hi))⟩::⟨some 27,none,157,.bool (((((((r_13.2 == 0) && (r_15.2 == 0)) && (r_17.2.2 == 0)) && (r_20.2 == 0)) && (r_21.2 == 0)) && (r_13.1 == 5)) && (r_15.1.Lo == r_22.Lo && r_15.1.Hi == r_22.Hi))⟩::⟨some 28,none,158,(bif (((((((r_13.2 == 0) && (r_15.2 == 0)) && (r_17.2.2 == 0)) && (r_20.2 == 0)) && (r_21.2 == 0)) && (r_13.1 == 5)) && (r_15.1.Lo == r_22.Lo && r_15.1.Hi == r_22.Hi)) then i6 r_17.1 else undef)⟩::⟨some 29,none,159,(bif (((((((r_13.2 == 0) && (r_15.2 == 0)) && (r_17.2.2 == 0)) && (r_20.2 == 0)) && (r_21.2 == 0)) && (r_13.1 == 5)) && (r_15.1.Lo == r_22.Lo && r_15.1.Hi == r_22.Hi)) then .bool (r_17.1 == 5) else undef)⟩::⟨some 30,none,160,.bool ((((((((r_13.2 == 0) && (r_15.2 == 0)) && (r_17.2.2 == 0)) && (r_20.2 == 0)) && (r_21.2 == 0)) && (r_13.1 == 5)) && (r_15.1.Lo == r_22.Lo && r_15.1.Hi == r_22.Hi)) && (r_17.1 == 5))⟩::⟨some 31,none,161,.bool ((((((((r_13.2 == 0) && (r_15.2 == 0)) && (r_17.2.2 == 0)) && (r_20.2 == 0)) && (r_21.2 == 0)) && (r_13.1 == 5)) && (r_15.1.Lo == r_22.Lo && r_15.1.Hi == r_22.Hi)) && (r_17.1 == 5))⟩::⟨some 32,none,162,(bif ((((((((r_13.2 == 0) && (r_15.2 == 0)) && (r_17.2.2 == 0)) && (r_20.2 == 0)) && (r_21.2 == 0)) && (r_13.1 == 5)) && (r_15.1.Lo == r_22.Lo && r_15.1.Hi == r_22.Hi)) && (r_17.1 == 5)) then i6 r_17.2.1 else undef)⟩::⟨some 33,none,163,(bif ((((((((r_13.2 == 0) && (r_15.2 == 0)) && (r_17.2.2 == 0)) && (r_20.2 == 0)) && (r_21.2 == 0)) && (r_13.1 == 5)) && (r_15.1.Lo == r_22.Lo && r_15.1.Hi == r_22.Hi)) && (r_17.1 == 5)) then .bool (r_17.2.1 == (-1)) else undef)⟩::⟨some 34,none,164,.bool (((((((((r_13.2 == 0) && (r_15.2 == 0)) && (r_17.2.2 == 0)) && (r_20.2 == 0)) && (r_21.2 == 0)) && (r_13.1 == 5)) && (r_15.1.Lo == r_22.Lo && r_15.1.Hi == r_22.Hi)) && (r_17.1 == 5)) && (r_17.2.1 == (-1)))⟩::⟨some 35,none,165,.bool (((((((((r_13.2 == 0) && (r_15.2 == 0)) && (r_17.2.2 == 0)) && (r_20.2 == 0)) && (r_21.2 == 0)) && (r_13.1 == 5)) && (r_15.1.Lo == r_22.Lo && r_15.1.Hi == r_22.Hi)) && (r_17.1 == 5)) && (r_17.2.1 == (-1)))⟩::⟨some 36,none,166,(bif (((((((((r_13.2 == 0) && (r_15.2 == 0)) && (r_17.2.2 == 0)) && (r_20.2 == 0)) && (r_21.2 == 0)) && (r_13.1 == 5)) && (r_15.1.Lo == r_22.Lo && r_15.1.Hi == r_22.Hi)) && (r_17.1 == 5)) && (r_17.2.1 == (-1))) then .slice p_17 r_20.1.length c_11 else undef)⟩::⟨some 37,none,167,(bif (((((((((r_13.2 == 0) && (r_15.2 == 0)) && (r_17.2.2 == 0)) && (r_20.2 == 0)) && (r_21.2 == 0)) && (r_13.1 == 5)) && (r_15.1.Lo == r_22.Lo && r_15.1.Hi == r_22.Hi)) && (r_17.1 == 5)) && (r_17.2.1 == (-1))) then .slice (some ⟨(θ 296).b,0,none⟩) 3 3 else undef)⟩::⟨some 38,none,168,(bif (((((((((r_13.2 == 0) && (r_15.2 == 0)) && (r_17.2.2 == 0)) && (r_20.2 == 0)) && (r_21.2 == 0)) && (r_13.1 == 5)) && (r_15.1.Lo == r_22.Lo && r_15.1.Hi == r_22.Hi)) && (r_17.1 == 5)) && (r_17.2.1 == (-1))) then .bool r_23 else undef)⟩::⟨some 39,none,169,.bool ((((((((((r_13.2 == 0) && (r_15.2 == 0)) && (r_17.2.2 == 0)) && (r_20.2 == 0)) && (r_21.2 == 0)) && (r_13.1 == 5)) && (r_15.1.Lo == r_22.Lo && r_15.1.Hi == r_22.Hi)) && (r_17.1 == 5)) && (r_17.2.1 == (-1))) && r_23)⟩::⟨some 40,none,170,.bool ((((((((((r_13.2 == 0) && (r_15.2 == 0)) && (r_17.2.2 == 0)) && (r_20.2 == 0)) && (r_21.2 == 0)) && (r_13.1 == 5)) && (r_15.1.Lo == r_22.Lo && r_15.1.Hi == r_22.Hi)) && (r_17.1 == 5)) && (r_17.2.1 == (-1))) && r_23)⟩::⟨some 41,none,171,(bif ((((((((((r_13.2 == 0) && (r_15.2 == 0)) && (r_17.2.2 == 0)) && (r_20.2 == 0)) && (r_21.2 == 0)) && (r_13.1 == 5)) && (r_15.1.Lo == r_22.Lo && r_15.1.Hi == r_22.Hi)) && (r_17.1 == 5)) && (r_17.2.1 == (-1))) && r_23) then i6 r_21.1 else undef)⟩::⟨some 42,none,172,(bif ((((((((((r_13.2 == 0) && (r_15.2 == 0)) && (r_17.2.2 == 0)) && (r_20.2 == 0)) && (r_21.2 == 0)) && (r_13.1 == 5)) && (r_15.1.Lo == r_22.Lo && r_15.1.Hi == r_22.Hi)) && (r_17.1 == 5)) && (r_17.2.1 == (-1))) && r_23) then .bool (r_21.1 == 4815) else undef)⟩::⟨some 43,none,173,.bool (((((((((((r_13.2 == 0) && (r_15.2 == 0)) && (r_17.2.2 == 0)) && (r_20.2 == 0)) && (r_21.2 == 0)) && (r_13.1 == 5)) && (r_15.1.Lo == r_22.Lo && r_15.1.Hi == r_22.Hi)) && (r_17.1 == 5)) && (r_17.2.1 == (-1))) && r_23) && (r_21.1 == 4815))⟩::⟨some 44,none,0,.bool (((((((((((r_13.2 == 0) && (r_15.2 == 0)) && (r_17.2.2 == 0)) && (r_20.2 == 0)) && (r_21.2 == 0)) && (r_13.1 == 5)) && (r_15.1.Lo == r_22.Lo && r_15.1.Hi == r_22.Hi)) && (r_17.1 == 5)) && (r_17.2.1 == (-1))) && r_23) && (r_21.1 == 4815))⟩::[])) (fun E θ => (bif E 37 then (gE (((((((((r_13.2 == 0) && (r_15.2 == 0)) && (r_17.2.2 == 0)) && (r_20.2 == 0)) && (r_21.2 == 0)) && (r_13.1 == 5)) && (r_15.1.Lo == r_22.Lo && r_15.1.Hi == r_22.Hi)) && (r_17.1 == 5)) && (r_17.2.1 == (-1))) (.row (some ⟨(θ 296).b,0,none⟩) 3 (([0,10,15] : List Int).map encI_i64) 3 1)) else .row none 0 [] 0 0)::.row (some ⟨b_10,0,none⟩) 1 (([481] : List Int).map encI_i64) 3 1::.row p_16 c_10 ((r_18.Rides ++ [(⟨5,5,r_19⟩ : crew_Ride)]).map enc_crew_Ride) 72 4::.row p_17 c_11 (r_20.1.map encI_i64) 3 1::.row (some ⟨b_9,0,none⟩) 1 (([(⟨5,5,r_19⟩ : crew_Ride)] : List crew_Ride).map enc_crew_Ride) 72 4::.box b_7 [i6 r_18.Car,i6 r_18.Wide,i6 r_18.Sag,i6 r_18.Most,.slice p_16 ((r_18.Rides ++ [(⟨5,5,r_19⟩ : crew_Ride)]).length) c_10] 54::.box b_6 [i6 r_15.1.Lo,i6 r_15.1.Hi] 29::Lf) [] (fun a w => Has 174 a [(0,.bool (((((((((((r_13.2 == 0) && (r_15.2 == 0)) && (r_17.2.2 == 0)) && (r_20.2 == 0)) && (r_21.2 == 0)) && (r_13.1 == 5)) && (r_15.1.Lo == r_22.Lo && r_15.1.Hi == r_22.Hi)) && (r_17.1 == 5)) && (r_17.2.1 == (-1))) && r_23) && (r_21.1 == 4815)))] ∧ Ctx G (.row (some ⟨b_10,0,none⟩) 1 (([481] : List Int).map encI_i64) 3 1::.row p_16 c_10 ((r_18.Rides ++ [(⟨5,5,r_19⟩ : crew_Ride)]).map enc_crew_Ride) 72 4::.row p_17 c_11 (r_20.1.map encI_i64) 3 1::.row (some ⟨b_9,0,none⟩) 1 (([(⟨5,5,r_19⟩ : crew_Ride)] : List crew_Ride).map enc_crew_Ride) 72 4::.box b_7 [i6 r_18.Car,i6 r_18.Wide,i6 r_18.Sag,i6 r_18.Most,.slice p_16 ((r_18.Rides ++ [(⟨5,5,r_19⟩ : crew_Ride)]).length) c_10] 54::.box b_6 [i6 r_15.1.Lo,i6 r_15.1.Hi] 29::Lf) w) follows_mx (by kernel_rfl) (by kernel_rfl) (HasE.of hf ⟨rfl,rfl,rfl,rfl,rfl,rfl,rfl,rfl,rfl,rfl,rfl,trivial,trivial,trivial,trivial,trivial,trivial,trivial,trivial,trivial,trivial,trivial,trivial,trivial,trivial,trivial,trivial,trivial,trivial,trivial,trivial,trivial,trivial,trivial,trivial,trivial,trivial,trivial,trivial,trivial,trivial,trivial,trivial,trivial,trivial,trivial,trivial,trivial,trivial,trivial,trivial,trivial,trivial,trivial,trivial,trivial,trivial⟩) hc ⟨?_,?_,?_,?_,?_,?_,?_,?_,?_,?_,?_,?_,?_,?_,?_,?_,?_,?_,?_,?_,?_,?_,?_,?_,?_,?_,?_,?_,?_,?_,?_,?_,?_,?_,?_,?_,?_,?_,?_,?_,?_,?_,?_,?_,?_,trivial⟩ ?_ ?_
  ·intro E θ a w hD hi hp he hc
   have hf := he.h0
   replace hf := hf.more he 0 rfl onT
   refine stP hf rfl rfl rfl (pM rfl) fun a hf => cNil ?_
   refine xThenN ?_
   intro ds u hau
   refine ⟨θ,he.put0 hi hau hf rfl 11 rfl rfl,?_⟩
   exact hc
  ·intro E θ a w hD hi hp he hc
   have e0 := hp.of (k := 0) rfl
   have hf := he.h0
   replace hf := hf.more he 11 rfl (onP e0)
   refine stP hf rfl rfl rfl (pEq rfl rfl) fun a hf => cNil ?_
   refine xThenN ?_
   intro ds u hau
   refine ⟨θ,he.put0 hi hau hf rfl 12 rfl rfl,?_⟩
   exact hc
  ·intro E θ a w hD hi hp he hc
   have e1 := hp.of (k := 1) rfl
   have hf := he.h0
   replace hf := hf.more he 12 rfl (onP e1)
   refine stP hf rfl rfl rfl (pM rfl) fun a hf => cNil ?_
   refine xThenN ?_
   intro ds u hau
   refine ⟨θ,he.put0 hi hau hf rfl 13 rfl rfl,?_⟩
   exact hc
  ·intro E θ a w hD hi hp he hc
   have e2 := hp.of (k := 2) rfl
   rcases boolEq (r_13.2 == 0) with hb | hb
   ·have hf := he.h0
    replace hf := hf.more he 1 rfl onT
    replace hf := hf.more he 13 rfl (onP e2)
    replace hf := castB hb hf
    refine stP hf rfl rfl rfl (pM rfl) fun a hf => ?_
    replace hf := castI (u := undef) hb hf
    refine cNil ?_
    refine xThenN ?_
    intro ds u hau
    refine ⟨θ,he.put0 hi hau hf rfl 14 rfl rfl,?_⟩
    exact hc
   ·have hf := he.h0
    replace hf := hf.more he 1 rfl onT
    replace hf := hf.more he 13 rfl (onP e2)
    replace hf := castB hb hf
    refine stS hf rfl rfl rfl fun a hf => ?_
    replace hf := castJ (u := i6 r_15.2) hb hf
    refine cNil ?_
    refine xThenN ?_
    intro ds u hau
    refine ⟨θ,he.put0 hi hau hf rfl 14 rfl rfl,?_⟩
    exact hc
  ·intro E θ a w hD hi hp he hc
   have e2 := hp.of (k := 2) rfl
   have e3 := hp.of (k := 3) rfl
   rcases boolEq (r_13.2 == 0) with hb | hb
   ·have hf := he.h0
    replace hf := hf.more he 13 rfl (onP e2)
    replace hf := castB hb hf
    replace hf := hf.more he 14 rfl (onP e3)
    replace hf := castCT hb hf
    refine stP hf rfl rfl rfl (pEq rfl rfl) fun a hf => ?_
    replace hf := castI (u := undef) hb hf
    refine cNil ?_
    refine xThenN ?_
    intro ds u hau
    refine ⟨θ,he.put0 hi hau hf rfl 15 rfl rfl,?_⟩
    exact hc
   ·have hf := he.h0
    replace hf := hf.more he 13 rfl (onP e2)
    replace hf := castB hb hf
    replace hf := hf.more he 14 rfl (onP e3)
    replace hf := castCF hb hf
    refine stS hf rfl rfl rfl fun a hf => ?_
    replace hf := castJ (u := .bool (r_15.2 == 0)) hb hf
    refine cNil ?_
    refine xThenN ?_
    intro ds u hau
    refine ⟨θ,he.put0 hi hau hf rfl 15 rfl rfl,?_⟩
    exact hc
  ·intro E θ a w hD hi hp he hc
   have e2 := hp.of (k := 2) rfl
   have e4 := hp.of (k := 4) rfl
   rcases boolEq (r_13.2 == 0) with hb | hb
   ·have hf := he.h0
    replace hf := hf.more he 13 rfl (onP e2)
    replace hf := castB hb hf
    replace hf := hf.more he 15 rfl (onP e4)
    replace hf := castCT hb hf
    refine stP hf rfl rfl rfl (pPt rfl rfl) fun a hf => ?_
    replace hf := castV (v' := .bool ((r_13.2 == 0) && (r_15.2 == 0))) (congrArg Value.bool (andT hb)) hf
    refine cNil ?_
    refine xThenN ?_
    intro ds u hau
    refine ⟨θ,he.put0 hi hau hf rfl 16 rfl rfl,?_⟩
    exact hc
   ·have hf := he.h0
    replace hf := hf.more he 13 rfl (onP e2)
    replace hf := castB hb hf
    replace hf := hf.more he 15 rfl (onP e4)
    replace hf := castCF hb hf
    refine stP hf rfl rfl rfl (pPf rfl rfl) fun a hf => ?_
    replace hf := castV (v' := .bool ((r_13.2 == 0) && (r_15.2 == 0))) (congrArg Value.bool (andF hb)) hf
    refine cNil ?_
    refine xThenN ?_
    intro ds u hau
    refine ⟨θ,he.put0 hi hau hf rfl 16 rfl rfl,?_⟩
    exact hc
  ·intro E θ a w hD hi hp he hc
   have e5 := hp.of (k := 5) rfl
   have hf := he.h0
   replace hf := hf.more he 16 rfl (onP e5)
   refine stP hf rfl rfl rfl (pM rfl) fun a hf => cNil ?_
   refine xThenN ?_
   intro ds u hau
   refine ⟨θ,he.put0 hi hau hf rfl 17 rfl rfl,?_⟩
   exact hc
  ·intro E θ a w hD hi hp he hc
   have e6 := hp.of (k := 6) rfl
   rcases boolEq ((r_13.2 == 0) && (r_15.2 == 0)) with hb | hb
   ·have hf := he.h0
    replace hf := hf.more he 2 rfl onT
    replace hf := hf.more he 17 rfl (onP e6)
    replace hf := castB hb hf
    refine stP hf rfl rfl rfl (pM rfl) fun a hf => ?_
    replace hf := castI (u := undef) hb hf
    refine cNil ?_
    refine xThenN ?_
    intro ds u hau
    refine ⟨θ,he.put0 hi hau hf rfl 18 rfl rfl,?_⟩
    exact hc
   ·have hf := he.h0
    replace hf := hf.more he 2 rfl onT
    replace hf := hf.more he 17 rfl (onP e6)
    replace hf := castB hb hf
    refine stS hf rfl rfl rfl fun a hf => ?_
    replace hf := castJ (u := i6 r_17.2.2) hb hf
    refine cNil ?_
    refine xThenN ?_
    intro ds u hau
    refine ⟨θ,he.put0 hi hau hf rfl 18 rfl rfl,?_⟩
    exact hc
  ·intro E θ a w hD hi hp he hc
   have e6 := hp.of (k := 6) rfl
   have e7 := hp.of (k := 7) rfl
   rcases boolEq ((r_13.2 == 0) && (r_15.2 == 0)) with hb | hb
   ·have hf := he.h0
    replace hf := hf.more he 17 rfl (onP e6)
    replace hf := castB hb hf
    replace hf := hf.more he 18 rfl (onP e7)
    replace hf := castCT hb hf
    refine stP hf rfl rfl rfl (pEq rfl rfl) fun a hf => ?_
    replace hf := castI (u := undef) hb hf
    refine cNil ?_
    refine xThenN ?_
    intro ds u hau
    refine ⟨θ,he.put0 hi hau hf rfl 19 rfl rfl,?_⟩
    exact hc
   ·have hf := he.h0
    replace hf := hf.more he 17 rfl (onP e6)
    replace hf := castB hb hf
    replace hf := hf.more he 18 rfl (onP e7)
    replace hf := castCF hb hf
    refine stS hf rfl rfl rfl fun a hf => ?_
    replace hf := castJ (u := .bool (r_17.2.2 == 0)) hb hf
    refine cNil ?_
    refine xThenN ?_
    intro ds u hau
    refine ⟨θ,he.put0 hi hau hf rfl 19 rfl rfl,?_⟩
    exact hc
  ·intro E θ a w hD hi hp he hc
   have e6 := hp.of (k := 6) rfl
   have e8 := hp.of (k := 8) rfl
   rcases boolEq ((r_13.2 == 0) && (r_15.2 == 0)) with hb | hb
   ·have hf := he.h0
    replace hf := hf.more he 17 rfl (onP e6)
    replace hf := castB hb hf
    replace hf := hf.more he 19 rfl (onP e8)
    replace hf := castCT hb hf
    refine stP hf rfl rfl rfl (pPt rfl rfl) fun a hf => ?_
    replace hf := castV (v' := .bool (((r_13.2 == 0) && (r_15.2 == 0)) && (r_17.2.2 == 0))) (congrArg Value.bool (andT hb)) hf
    refine cNil ?_
    refine xThenN ?_
    intro ds u hau
    refine ⟨θ,he.put0 hi hau hf rfl 20 rfl rfl,?_⟩
    exact hc
   ·have hf := he.h0
    replace hf := hf.more he 17 rfl (onP e6)
    replace hf := castB hb hf
    replace hf := hf.more he 19 rfl (onP e8)
    replace hf := castCF hb hf
    refine stP hf rfl rfl rfl (pPf rfl rfl) fun a hf => ?_
    replace hf := castV (v' := .bool (((r_13.2 == 0) && (r_15.2 == 0)) && (r_17.2.2 == 0))) (congrArg Value.bool (andF hb)) hf
    refine cNil ?_
    refine xThenN ?_
    intro ds u hau
    refine ⟨θ,he.put0 hi hau hf rfl 20 rfl rfl,?_⟩
    exact hc
  ·intro E θ a w hD hi hp he hc
   have e9 := hp.of (k := 9) rfl
   have hf := he.h0
   replace hf := hf.more he 20 rfl (onP e9)
   refine stP hf rfl rfl rfl (pM rfl) fun a hf => cNil ?_
   refine xThenN ?_
   intro ds u hau
   refine ⟨θ,he.put0 hi hau hf rfl 21 rfl rfl,?_⟩
   exact hc
  ·intro E θ a w hD hi hp he hc
   have e10 := hp.of (k := 10) rfl
   rcases boolEq (((r_13.2 == 0) && (r_15.2 == 0)) && (r_17.2.2 == 0)) with hb | hb
   ·have hf := he.h0
    replace hf := hf.more he 3 rfl onT
    replace hf := hf.more he 21 rfl (onP e10)
    replace hf := castB hb hf
    refine stP hf rfl rfl rfl (pM rfl) fun a hf => ?_
    replace hf := castI (u := undef) hb hf
    refine cNil ?_
    refine xThenN ?_
    intro ds u hau
    refine ⟨θ,he.put0 hi hau hf rfl 22 rfl rfl,?_⟩
    exact hc
   ·have hf := he.h0
    replace hf := hf.more he 3 rfl onT
    replace hf := hf.more he 21 rfl (onP e10)
    replace hf := castB hb hf
    refine stS hf rfl rfl rfl fun a hf => ?_
    replace hf := castJ (u := i6 r_20.2) hb hf
    refine cNil ?_
    refine xThenN ?_
    intro ds u hau
    refine ⟨θ,he.put0 hi hau hf rfl 22 rfl rfl,?_⟩
    exact hc
  ·intro E θ a w hD hi hp he hc
   have e10 := hp.of (k := 10) rfl
   have e11 := hp.of (k := 11) rfl
   rcases boolEq (((r_13.2 == 0) && (r_15.2 == 0)) && (r_17.2.2 == 0)) with hb | hb
   ·have hf := he.h0
    replace hf := hf.more he 21 rfl (onP e10)
    replace hf := castB hb hf
    replace hf := hf.more he 22 rfl (onP e11)
    replace hf := castCT hb hf
    refine stP hf rfl rfl rfl (pEq rfl rfl) fun a hf => ?_
    replace hf := castI (u := undef) hb hf
    refine cNil ?_
    refine xThenN ?_
    intro ds u hau
    refine ⟨θ,he.put0 hi hau hf rfl 23 rfl rfl,?_⟩
    exact hc
   ·have hf := he.h0
    replace hf := hf.more he 21 rfl (onP e10)
    replace hf := castB hb hf
    replace hf := hf.more he 22 rfl (onP e11)
    replace hf := castCF hb hf
    refine stS hf rfl rfl rfl fun a hf => ?_
    replace hf := castJ (u := .bool (r_20.2 == 0)) hb hf
    refine cNil ?_
    refine xThenN ?_
    intro ds u hau
    refine ⟨θ,he.put0 hi hau hf rfl 23 rfl rfl,?_⟩
    exact hc
  ·intro E θ a w hD hi hp he hc
   have e10 := hp.of (k := 10) rfl
   have e12 := hp.of (k := 12) rfl
   rcases boolEq (((r_13.2 == 0) && (r_15.2 == 0)) && (r_17.2.2 == 0)) with hb | hb
   ·have hf := he.h0
    replace hf := hf.more he 21 rfl (onP e10)
    replace hf := castB hb hf
    replace hf := hf.more he 23 rfl (onP e12)
    replace hf := castCT hb hf
    refine stP hf rfl rfl rfl (pPt rfl rfl) fun a hf => ?_
    replace hf := castV (v' := .bool ((((r_13.2 == 0) && (r_15.2 == 0)) && (r_17.2.2 == 0)) && (r_20.2 == 0))) (congrArg Value.bool (andT hb)) hf
    refine cNil ?_
    refine xThenN ?_
    intro ds u hau
    refine ⟨θ,he.put0 hi hau hf rfl 24 rfl rfl,?_⟩
    exact hc
   ·have hf := he.h0
    replace hf := hf.more he 21 rfl (onP e10)
    replace hf := castB hb hf
    replace hf := hf.more he 23 rfl (onP e12)
    replace hf := castCF hb hf
    refine stP hf rfl rfl rfl (pPf rfl rfl) fun a hf => ?_
    replace hf := castV (v' := .bool ((((r_13.2 == 0) && (r_15.2 == 0)) && (r_17.2.2 == 0)) && (r_20.2 == 0))) (congrArg Value.bool (andF hb)) hf
    refine cNil ?_
    refine xThenN ?_
    intro ds u hau
    refine ⟨θ,he.put0 hi hau hf rfl 24 rfl rfl,?_⟩
    exact hc
  ·intro E θ a w hD hi hp he hc
   have e13 := hp.of (k := 13) rfl
   have hf := he.h0
   replace hf := hf.more he 24 rfl (onP e13)
   refine stP hf rfl rfl rfl (pM rfl) fun a hf => cNil ?_
   refine xThenN ?_
   intro ds u hau
   refine ⟨θ,he.put0 hi hau hf rfl 25 rfl rfl,?_⟩
   exact hc
  ·intro E θ a w hD hi hp he hc
   have e14 := hp.of (k := 14) rfl
   rcases boolEq ((((r_13.2 == 0) && (r_15.2 == 0)) && (r_17.2.2 == 0)) && (r_20.2 == 0)) with hb | hb
   ·have hf := he.h0
    replace hf := hf.more he 6 rfl onT
    replace hf := hf.more he 25 rfl (onP e14)
    replace hf := castB hb hf
    refine stP hf rfl rfl rfl (pM rfl) fun a hf => ?_
    replace hf := castI (u := undef) hb hf
    refine cNil ?_
    refine xThenN ?_
    intro ds u hau
    refine ⟨θ,he.put0 hi hau hf rfl 26 rfl rfl,?_⟩
    exact hc
   ·have hf := he.h0
    replace hf := hf.more he 6 rfl onT
    replace hf := hf.more he 25 rfl (onP e14)
    replace hf := castB hb hf
    refine stS hf rfl rfl rfl fun a hf => ?_
    replace hf := castJ (u := i6 r_21.2) hb hf
    refine cNil ?_
    refine xThenN ?_
    intro ds u hau
    refine ⟨θ,he.put0 hi hau hf rfl 26 rfl rfl,?_⟩
    exact hc
  ·intro E θ a w hD hi hp he hc
   have e14 := hp.of (k := 14) rfl
   have e15 := hp.of (k := 15) rfl
   rcases boolEq ((((r_13.2 == 0) && (r_15.2 == 0)) && (r_17.2.2 == 0)) && (r_20.2 == 0)) with hb | hb
   ·have hf := he.h0
    replace hf := hf.more he 25 rfl (onP e14)
    replace hf := castB hb hf
    replace hf := hf.more he 26 rfl (onP e15)
    replace hf := castCT hb hf
    refine stP hf rfl rfl rfl (pEq rfl rfl) fun a hf => ?_
    replace hf := castI (u := undef) hb hf
    refine cNil ?_
    refine xThenN ?_
    intro ds u hau
    refine ⟨θ,he.put0 hi hau hf rfl 27 rfl rfl,?_⟩
    exact hc
   ·have hf := he.h0
    replace hf := hf.more he 25 rfl (onP e14)
    replace hf := castB hb hf
    replace hf := hf.more he 26 rfl (onP e15)
    replace hf := castCF hb hf
    refine stS hf rfl rfl rfl fun a hf => ?_
    replace hf := castJ (u := .bool (r_21.2 == 0)) hb hf
    refine cNil ?_
    refine xThenN ?_
    intro ds u hau
    refine ⟨θ,he.put0 hi hau hf rfl 27 rfl rfl,?_⟩
    exact hc
  ·intro E θ a w hD hi hp he hc
   have e14 := hp.of (k := 14) rfl
   have e16 := hp.of (k := 16) rfl
   rcases boolEq ((((r_13.2 == 0) && (r_15.2 == 0)) && (r_17.2.2 == 0)) && (r_20.2 == 0)) with hb | hb
   ·have hf := he.h0
    replace hf := hf.more he 25 rfl (onP e14)
    replace hf := castB hb hf
    replace hf := hf.more he 27 rfl (onP e16)
    replace hf := castCT hb hf
    refine stP hf rfl rfl rfl (pPt rfl rfl) fun a hf => ?_
    replace hf := castV (v' := .bool (((((r_13.2 == 0) && (r_15.2 == 0)) && (r_17.2.2 == 0)) && (r_20.2 == 0)) && (r_21.2 == 0))) (congrArg Value.bool (andT hb)) hf
    refine cNil ?_
    refine xThenN ?_
    intro ds u hau
    refine ⟨θ,he.put0 hi hau hf rfl 28 rfl rfl,?_⟩
    exact hc
   ·have hf := he.h0
    replace hf := hf.more he 25 rfl (onP e14)
    replace hf := castB hb hf
    replace hf := hf.more he 27 rfl (onP e16)
    replace hf := castCF hb hf
    refine stP hf rfl rfl rfl (pPf rfl rfl) fun a hf => ?_
    replace hf := castV (v' := .bool (((((r_13.2 == 0) && (r_15.2 == 0)) && (r_17.2.2 == 0)) && (r_20.2 == 0)) && (r_21.2 == 0))) (congrArg Value.bool (andF hb)) hf
    refine cNil ?_
    refine xThenN ?_
    intro ds u hau
    refine ⟨θ,he.put0 hi hau hf rfl 28 rfl rfl,?_⟩
    exact hc
  ·intro E θ a w hD hi hp he hc
   have e17 := hp.of (k := 17) rfl
   have hf := he.h0
   replace hf := hf.more he 28 rfl (onP e17)
   refine stP hf rfl rfl rfl (pM rfl) fun a hf => cNil ?_
   refine xThenN ?_
   intro ds u hau
   refine ⟨θ,he.put0 hi hau hf rfl 29 rfl rfl,?_⟩
   exact hc
  ·intro E θ a w hD hi hp he hc
   have e18 := hp.of (k := 18) rfl
   rcases boolEq (((((r_13.2 == 0) && (r_15.2 == 0)) && (r_17.2.2 == 0)) && (r_20.2 == 0)) && (r_21.2 == 0)) with hb | hb
   ·have hf := he.h0
    replace hf := hf.more he 7 rfl onT
    replace hf := hf.more he 29 rfl (onP e18)
    replace hf := castB hb hf
    refine stP hf rfl rfl rfl (pM rfl) fun a hf => ?_
    replace hf := castI (u := undef) hb hf
    refine cNil ?_
    refine xThenN ?_
    intro ds u hau
    refine ⟨θ,he.put0 hi hau hf rfl 30 rfl rfl,?_⟩
    exact hc
   ·have hf := he.h0
    replace hf := hf.more he 7 rfl onT
    replace hf := hf.more he 29 rfl (onP e18)
    replace hf := castB hb hf
    refine stS hf rfl rfl rfl fun a hf => ?_
    replace hf := castJ (u := i6 r_13.1) hb hf
    refine cNil ?_
    refine xThenN ?_
    intro ds u hau
    refine ⟨θ,he.put0 hi hau hf rfl 30 rfl rfl,?_⟩
    exact hc
  ·intro E θ a w hD hi hp he hc
   have e18 := hp.of (k := 18) rfl
   have e19 := hp.of (k := 19) rfl
   rcases boolEq (((((r_13.2 == 0) && (r_15.2 == 0)) && (r_17.2.2 == 0)) && (r_20.2 == 0)) && (r_21.2 == 0)) with hb | hb
   ·have hf := he.h0
    replace hf := hf.more he 29 rfl (onP e18)
    replace hf := castB hb hf
    replace hf := hf.more he 30 rfl (onP e19)
    replace hf := castCT hb hf
    refine stP hf rfl rfl rfl (pEq rfl rfl) fun a hf => ?_
    replace hf := castI (u := undef) hb hf
    refine cNil ?_
    refine xThenN ?_
    intro ds u hau
    refine ⟨θ,he.put0 hi hau hf rfl 31 rfl rfl,?_⟩
    exact hc
   ·have hf := he.h0
    replace hf := hf.more he 29 rfl (onP e18)
    replace hf := castB hb hf
    replace hf := hf.more he 30 rfl (onP e19)
    replace hf := castCF hb hf
    refine stS hf rfl rfl rfl fun a hf => ?_
    replace hf := castJ (u := .bool (r_13.1 == 5)) hb hf
    refine cNil ?_
    refine xThenN ?_
    intro ds u hau
    refine ⟨θ,he.put0 hi hau hf rfl 31 rfl rfl,?_⟩
    exact hc
  ·intro E θ a w hD hi hp he hc
   have e18 := hp.of (k := 18) rfl
   have e20 := hp.of (k := 20) rfl
   rcases boolEq (((((r_13.2 == 0) && (r_15.2 == 0)) && (r_17.2.2 == 0)) && (r_20.2 == 0)) && (r_21.2 == 0)) with hb | hb
   ·have hf := he.h0
    replace hf := hf.more he 29 rfl (onP e18)
    replace hf := castB hb hf
    replace hf := hf.more he 31 rfl (onP e20)
    replace hf := castCT hb hf
    refine stP hf rfl rfl rfl (pPt rfl rfl) fun a hf => ?_
    replace hf := castV (v' := .bool ((((((r_13.2 == 0) && (r_15.2 == 0)) && (r_17.2.2 == 0)) && (r_20.2 == 0)) && (r_21.2 == 0)) && (r_13.1 == 5))) (congrArg Value.bool (andT hb)) hf
    refine cNil ?_
    refine xThenN ?_
    intro ds u hau
    refine ⟨θ,he.put0 hi hau hf rfl 32 rfl rfl,?_⟩
    exact hc
   ·have hf := he.h0
    replace hf := hf.more he 29 rfl (onP e18)
    replace hf := castB hb hf
    replace hf := hf.more he 31 rfl (onP e20)
    replace hf := castCF hb hf
    refine stP hf rfl rfl rfl (pPf rfl rfl) fun a hf => ?_
    replace hf := castV (v' := .bool ((((((r_13.2 == 0) && (r_15.2 == 0)) && (r_17.2.2 == 0)) && (r_20.2 == 0)) && (r_21.2 == 0)) && (r_13.1 == 5))) (congrArg Value.bool (andF hb)) hf
    refine cNil ?_
    refine xThenN ?_
    intro ds u hau
    refine ⟨θ,he.put0 hi hau hf rfl 32 rfl rfl,?_⟩
    exact hc
  ·intro E θ a w hD hi hp he hc
   have e21 := hp.of (k := 21) rfl
   have hf := he.h0
   replace hf := hf.more he 32 rfl (onP e21)
   refine stP hf rfl rfl rfl (pM rfl) fun a hf => cNil ?_
   refine xThenN ?_
   intro ds u hau
   refine ⟨θ,he.put0 hi hau hf rfl 33 rfl rfl,?_⟩
   exact hc
  ·intro E θ a w hD hi hp he hc
   have e22 := hp.of (k := 22) rfl
   rcases boolEq ((((((r_13.2 == 0) && (r_15.2 == 0)) && (r_17.2.2 == 0)) && (r_20.2 == 0)) && (r_21.2 == 0)) && (r_13.1 == 5)) with hb | hb
   ·have hf := he.h0
    replace hf := hf.more he 8 rfl onT
    replace hf := hf.more he 33 rfl (onP e22)
    replace hf := castB hb hf
    refine stE hf hc rfl rfl rfl (eLdN (vs := [i6 r_15.1.Lo,i6 r_15.1.Hi]) ag_29 rfl rfl (cells_box (n := 2) m6 rfl)) fun a w hf hc => ?_
    replace hf := castI (u := undef) hb hf
    refine cNil ?_
    refine xThenN ?_
    intro ds u hau
    refine ⟨θ,he.put0 hi hau hf rfl 34 rfl rfl,?_⟩
    exact hc
   ·have hf := he.h0
    replace hf := hf.more he 8 rfl onT
    replace hf := hf.more he 33 rfl (onP e22)
    replace hf := castB hb hf
    refine stS hf rfl rfl rfl fun a hf => ?_
    replace hf := castJ (u := .agg #[i6 r_15.1.Lo,i6 r_15.1.Hi]) hb hf
    refine cNil ?_
    refine xThenN ?_
    intro ds u hau
    refine ⟨θ,he.put0 hi hau hf rfl 34 rfl rfl,?_⟩
    exact hc
  ·intro E θ a w hD hi hp he hc
   have e22 := hp.of (k := 22) rfl
   rcases boolEq ((((((r_13.2 == 0) && (r_15.2 == 0)) && (r_17.2.2 == 0)) && (r_20.2 == 0)) && (r_21.2 == 0)) && (r_13.1 == 5)) with hb | hb
   ·have hf := he.h0
    replace hf := hf.more he 33 rfl (onP e22)
    replace hf := castB hb hf
    refine stE hf hc rfl rfl rfl (eC (v := .agg #[i6 r_22.Lo,i6 r_22.Hi]) (vs := [i6 290,i6 320]) (caps := []) en_51 rfl rfl rfl rfl (fun w hc => law11_span_ok 290 320 hc (condT hb hr_22))) fun a w hf hc => ?_
    replace hf := castI (u := undef) hb hf
    refine cNil ?_
    refine xThenN ?_
    intro ds u hau
    refine ⟨θ,he.put0 hi hau hf rfl 35 rfl rfl,?_⟩
    exact hc
   ·have hf := he.h0
    replace hf := hf.more he 33 rfl (onP e22)
    replace hf := castB hb hf
    refine stS hf rfl rfl rfl fun a hf => ?_
    replace hf := castJ (u := .agg #[i6 r_22.Lo,i6 r_22.Hi]) hb hf
    refine cNil ?_
    refine xThenN ?_
    intro ds u hau
    refine ⟨θ,he.put0 hi hau hf rfl 35 rfl rfl,?_⟩
    exact hc
  ·intro E θ a w hD hi hp he hc
   have e22 := hp.of (k := 22) rfl
   have e23 := hp.of (k := 23) rfl
   have e24 := hp.of (k := 24) rfl
   rcases boolEq ((((((r_13.2 == 0) && (r_15.2 == 0)) && (r_17.2.2 == 0)) && (r_20.2 == 0)) && (r_21.2 == 0)) && (r_13.1 == 5)) with hb | hb
   ·have hf := he.h0
    replace hf := hf.more he 33 rfl (onP e22)
    replace hf := castB hb hf
    replace hf := hf.more he 34 rfl (onP e23)
    replace hf := castCT hb hf
    replace hf := hf.more he 35 rfl (onP e24)
    replace hf := castCT hb hf
    refine stP hf rfl rfl rfl (pEqA ge_29 rfl rfl (eqs_29 _ _ _ _)) fun a hf => ?_
    replace hf := castI (u := undef) hb hf
    refine cNil ?_
    refine xThenN ?_
    intro ds u hau
    refine ⟨θ,he.put0 hi hau hf rfl 36 rfl rfl,?_⟩
    exact hc
   ·have hf := he.h0
    replace hf := hf.more he 33 rfl (onP e22)
    replace hf := castB hb hf
    replace hf := hf.more he 34 rfl (onP e23)
    replace hf := castCF hb hf
    replace hf := hf.more he 35 rfl (onP e24)
    replace hf := castCF hb hf
    refine stS hf rfl rfl rfl fun a hf => ?_
    replace hf := castJ (u := .bool (r_15.1.Lo == r_22.Lo && r_15.1.Hi == r_22.Hi)) hb hf
    refine cNil ?_
    refine xThenN ?_
    intro ds u hau
    refine ⟨θ,he.put0 hi hau hf rfl 36 rfl rfl,?_⟩
    exact hc
  ·intro E θ a w hD hi hp he hc
   have e22 := hp.of (k := 22) rfl
   have e25 := hp.of (k := 25) rfl
   rcases boolEq ((((((r_13.2 == 0) && (r_15.2 == 0)) && (r_17.2.2 == 0)) && (r_20.2 == 0)) && (r_21.2 == 0)) && (r_13.1 == 5)) with hb | hb
   ·have hf := he.h0
    replace hf := hf.more he 33 rfl (onP e22)
    replace hf := castB hb hf
    replace hf := hf.more he 36 rfl (onP e25)
    replace hf := castCT hb hf
    refine stP hf rfl rfl rfl (pPt rfl rfl) fun a hf => ?_
    replace hf := castV (v' := .bool (((((((r_13.2 == 0) && (r_15.2 == 0)) && (r_17.2.2 == 0)) && (r_20.2 == 0)) && (r_21.2 == 0)) && (r_13.1 == 5)) && (r_15.1.Lo == r_22.Lo && r_15.1.Hi == r_22.Hi))) (congrArg Value.bool (andT hb)) hf
    refine cNil ?_
    refine xThenN ?_
    intro ds u hau
    refine ⟨θ,he.put0 hi hau hf rfl 37 rfl rfl,?_⟩
    exact hc
   ·have hf := he.h0
    replace hf := hf.more he 33 rfl (onP e22)
    replace hf := castB hb hf
    replace hf := hf.more he 36 rfl (onP e25)
    replace hf := castCF hb hf
    refine stP hf rfl rfl rfl (pPf rfl rfl) fun a hf => ?_
    replace hf := castV (v' := .bool (((((((r_13.2 == 0) && (r_15.2 == 0)) && (r_17.2.2 == 0)) && (r_20.2 == 0)) && (r_21.2 == 0)) && (r_13.1 == 5)) && (r_15.1.Lo == r_22.Lo && r_15.1.Hi == r_22.Hi))) (congrArg Value.bool (andF hb)) hf
    refine cNil ?_
    refine xThenN ?_
    intro ds u hau
    refine ⟨θ,he.put0 hi hau hf rfl 37 rfl rfl,?_⟩
    exact hc
  ·intro E θ a w hD hi hp he hc
   have e26 := hp.of (k := 26) rfl
   have hf := he.h0
   replace hf := hf.more he 37 rfl (onP e26)
   refine stP hf rfl rfl rfl (pM rfl) fun a hf => cNil ?_
   refine xThenN ?_
   intro ds u hau
   refine ⟨θ,he.put0 hi hau hf rfl 38 rfl rfl,?_⟩
   exact hc
  ·intro E θ a w hD hi hp he hc
   have e27 := hp.of (k := 27) rfl
   rcases boolEq (((((((r_13.2 == 0) && (r_15.2 == 0)) && (r_17.2.2 == 0)) && (r_20.2 == 0)) && (r_21.2 == 0)) && (r_13.1 == 5)) && (r_15.1.Lo == r_22.Lo && r_15.1.Hi == r_22.Hi)) with hb | hb
   ·have hf := he.h0
    replace hf := hf.more he 4 rfl onT
    replace hf := hf.more he 38 rfl (onP e27)
    replace hf := castB hb hf
    refine stP hf rfl rfl rfl (pM rfl) fun a hf => ?_
    replace hf := castI (u := undef) hb hf
    refine cNil ?_
    refine xThenN ?_
    intro ds u hau
    refine ⟨θ,he.put0 hi hau hf rfl 39 rfl rfl,?_⟩
    exact hc
   ·have hf := he.h0
    replace hf := hf.more he 4 rfl onT
    replace hf := hf.more he 38 rfl (onP e27)
    replace hf := castB hb hf
    refine stS hf rfl rfl rfl fun a hf => ?_
    replace hf := castJ (u := i6 r_17.1) hb hf
    refine cNil ?_
    refine xThenN ?_
    intro ds u hau
    refine ⟨θ,he.put0 hi hau hf rfl 39 rfl rfl,?_⟩
    exact hc
  ·intro E θ a w hD hi hp he hc
   have e27 := hp.of (k := 27) rfl
   have e28 := hp.of (k := 28) rfl
   rcases boolEq (((((((r_13.2 == 0) && (r_15.2 == 0)) && (r_17.2.2 == 0)) && (r_20.2 == 0)) && (r_21.2 == 0)) && (r_13.1 == 5)) && (r_15.1.Lo == r_22.Lo && r_15.1.Hi == r_22.Hi)) with hb | hb
   ·have hf := he.h0
    replace hf := hf.more he 38 rfl (onP e27)
    replace hf := castB hb hf
    replace hf := hf.more he 39 rfl (onP e28)
    replace hf := castCT hb hf
    refine stP hf rfl rfl rfl (pEq rfl rfl) fun a hf => ?_
    replace hf := castI (u := undef) hb hf
    refine cNil ?_
    refine xThenN ?_
    intro ds u hau
    refine ⟨θ,he.put0 hi hau hf rfl 40 rfl rfl,?_⟩
    exact hc
   ·have hf := he.h0
    replace hf := hf.more he 38 rfl (onP e27)
    replace hf := castB hb hf
    replace hf := hf.more he 39 rfl (onP e28)
    replace hf := castCF hb hf
    refine stS hf rfl rfl rfl fun a hf => ?_
    replace hf := castJ (u := .bool (r_17.1 == 5)) hb hf
    refine cNil ?_
    refine xThenN ?_
    intro ds u hau
    refine ⟨θ,he.put0 hi hau hf rfl 40 rfl rfl,?_⟩
    exact hc
  ·intro E θ a w hD hi hp he hc
   have e27 := hp.of (k := 27) rfl
   have e29 := hp.of (k := 29) rfl
   rcases boolEq (((((((r_13.2 == 0) && (r_15.2 == 0)) && (r_17.2.2 == 0)) && (r_20.2 == 0)) && (r_21.2 == 0)) && (r_13.1 == 5)) && (r_15.1.Lo == r_22.Lo && r_15.1.Hi == r_22.Hi)) with hb | hb
   ·have hf := he.h0
    replace hf := hf.more he 38 rfl (onP e27)
    replace hf := castB hb hf
    replace hf := hf.more he 40 rfl (onP e29)
    replace hf := castCT hb hf
    refine stP hf rfl rfl rfl (pPt rfl rfl) fun a hf => ?_
    replace hf := castV (v' := .bool ((((((((r_13.2 == 0) && (r_15.2 == 0)) && (r_17.2.2 == 0)) && (r_20.2 == 0)) && (r_21.2 == 0)) && (r_13.1 == 5)) && (r_15.1.Lo == r_22.Lo && r_15.1.Hi == r_22.Hi)) && (r_17.1 == 5))) (congrArg Value.bool (andT hb)) hf
    refine cNil ?_
    refine xThenN ?_
    intro ds u hau
    refine ⟨θ,he.put0 hi hau hf rfl 41 rfl rfl,?_⟩
    exact hc
   ·have hf := he.h0
    replace hf := hf.more he 38 rfl (onP e27)
    replace hf := castB hb hf
    replace hf := hf.more he 40 rfl (onP e29)
    replace hf := castCF hb hf
    refine stP hf rfl rfl rfl (pPf rfl rfl) fun a hf => ?_
    replace hf := castV (v' := .bool ((((((((r_13.2 == 0) && (r_15.2 == 0)) && (r_17.2.2 == 0)) && (r_20.2 == 0)) && (r_21.2 == 0)) && (r_13.1 == 5)) && (r_15.1.Lo == r_22.Lo && r_15.1.Hi == r_22.Hi)) && (r_17.1 == 5))) (congrArg Value.bool (andF hb)) hf
    refine cNil ?_
    refine xThenN ?_
    intro ds u hau
    refine ⟨θ,he.put0 hi hau hf rfl 41 rfl rfl,?_⟩
    exact hc
  ·intro E θ a w hD hi hp he hc
   have e30 := hp.of (k := 30) rfl
   have hf := he.h0
   replace hf := hf.more he 41 rfl (onP e30)
   refine stP hf rfl rfl rfl (pM rfl) fun a hf => cNil ?_
   refine xThenN ?_
   intro ds u hau
   refine ⟨θ,he.put0 hi hau hf rfl 42 rfl rfl,?_⟩
   exact hc
  ·intro E θ a w hD hi hp he hc
   have e31 := hp.of (k := 31) rfl
   rcases boolEq ((((((((r_13.2 == 0) && (r_15.2 == 0)) && (r_17.2.2 == 0)) && (r_20.2 == 0)) && (r_21.2 == 0)) && (r_13.1 == 5)) && (r_15.1.Lo == r_22.Lo && r_15.1.Hi == r_22.Hi)) && (r_17.1 == 5)) with hb | hb
   ·have hf := he.h0
    replace hf := hf.more he 5 rfl onT
    replace hf := hf.more he 42 rfl (onP e31)
    replace hf := castB hb hf
    refine stP hf rfl rfl rfl (pM rfl) fun a hf => ?_
    replace hf := castI (u := undef) hb hf
    refine cNil ?_
    refine xThenN ?_
    intro ds u hau
    refine ⟨θ,he.put0 hi hau hf rfl 43 rfl rfl,?_⟩
    exact hc
   ·have hf := he.h0
    replace hf := hf.more he 5 rfl onT
    replace hf := hf.more he 42 rfl (onP e31)
    replace hf := castB hb hf
    refine stS hf rfl rfl rfl fun a hf => ?_
    replace hf := castJ (u := i6 r_17.2.1) hb hf
    refine cNil ?_
    refine xThenN ?_
    intro ds u hau
    refine ⟨θ,he.put0 hi hau hf rfl 43 rfl rfl,?_⟩
    exact hc
  ·intro E θ a w hD hi hp he hc
   have e31 := hp.of (k := 31) rfl
   have e32 := hp.of (k := 32) rfl
   rcases boolEq ((((((((r_13.2 == 0) && (r_15.2 == 0)) && (r_17.2.2 == 0)) && (r_20.2 == 0)) && (r_21.2 == 0)) && (r_13.1 == 5)) && (r_15.1.Lo == r_22.Lo && r_15.1.Hi == r_22.Hi)) && (r_17.1 == 5)) with hb | hb
   ·have hf := he.h0
    replace hf := hf.more he 42 rfl (onP e31)
    replace hf := castB hb hf
    replace hf := hf.more he 43 rfl (onP e32)
    replace hf := castCT hb hf
    refine stP hf rfl rfl rfl (pEq rfl rfl) fun a hf => ?_
    replace hf := castI (u := undef) hb hf
    refine cNil ?_
    refine xThenN ?_
    intro ds u hau
    refine ⟨θ,he.put0 hi hau hf rfl 44 rfl rfl,?_⟩
    exact hc
   ·have hf := he.h0
    replace hf := hf.more he 42 rfl (onP e31)
    replace hf := castB hb hf
    replace hf := hf.more he 43 rfl (onP e32)
    replace hf := castCF hb hf
    refine stS hf rfl rfl rfl fun a hf => ?_
    replace hf := castJ (u := .bool (r_17.2.1 == (-1))) hb hf
    refine cNil ?_
    refine xThenN ?_
    intro ds u hau
    refine ⟨θ,he.put0 hi hau hf rfl 44 rfl rfl,?_⟩
    exact hc
  ·intro E θ a w hD hi hp he hc
   have e31 := hp.of (k := 31) rfl
   have e33 := hp.of (k := 33) rfl
   rcases boolEq ((((((((r_13.2 == 0) && (r_15.2 == 0)) && (r_17.2.2 == 0)) && (r_20.2 == 0)) && (r_21.2 == 0)) && (r_13.1 == 5)) && (r_15.1.Lo == r_22.Lo && r_15.1.Hi == r_22.Hi)) && (r_17.1 == 5)) with hb | hb
   ·have hf := he.h0
    replace hf := hf.more he 42 rfl (onP e31)
    replace hf := castB hb hf
    replace hf := hf.more he 44 rfl (onP e33)
    replace hf := castCT hb hf
    refine stP hf rfl rfl rfl (pPt rfl rfl) fun a hf => ?_
    replace hf := castV (v' := .bool (((((((((r_13.2 == 0) && (r_15.2 == 0)) && (r_17.2.2 == 0)) && (r_20.2 == 0)) && (r_21.2 == 0)) && (r_13.1 == 5)) && (r_15.1.Lo == r_22.Lo && r_15.1.Hi == r_22.Hi)) && (r_17.1 == 5)) && (r_17.2.1 == (-1)))) (congrArg Value.bool (andT hb)) hf
    refine cNil ?_
    refine xThenN ?_
    intro ds u hau
    refine ⟨θ,he.put0 hi hau hf rfl 45 rfl rfl,?_⟩
    exact hc
   ·have hf := he.h0
    replace hf := hf.more he 42 rfl (onP e31)
    replace hf := castB hb hf
    replace hf := hf.more he 44 rfl (onP e33)
    replace hf := castCF hb hf
    refine stP hf rfl rfl rfl (pPf rfl rfl) fun a hf => ?_
    replace hf := castV (v' := .bool (((((((((r_13.2 == 0) && (r_15.2 == 0)) && (r_17.2.2 == 0)) && (r_20.2 == 0)) && (r_21.2 == 0)) && (r_13.1 == 5)) && (r_15.1.Lo == r_22.Lo && r_15.1.Hi == r_22.Hi)) && (r_17.1 == 5)) && (r_17.2.1 == (-1)))) (congrArg Value.bool (andF hb)) hf
    refine cNil ?_
    refine xThenN ?_
    intro ds u hau
    refine ⟨θ,he.put0 hi hau hf rfl 45 rfl rfl,?_⟩
    exact hc
  ·intro E θ a w hD hi hp he hc
   have e34 := hp.of (k := 34) rfl
   have hf := he.h0
   replace hf := hf.more he 45 rfl (onP e34)
   refine stP hf rfl rfl rfl (pM rfl) fun a hf => cNil ?_
   refine xThenN ?_
   intro ds u hau
   refine ⟨θ,he.put0 hi hau hf rfl 46 rfl rfl,?_⟩
   exact hc
  ·intro E θ a w hD hi hp he hc
   have e35 := hp.of (k := 35) rfl
   rcases boolEq (((((((((r_13.2 == 0) && (r_15.2 == 0)) && (r_17.2.2 == 0)) && (r_20.2 == 0)) && (r_21.2 == 0)) && (r_13.1 == 5)) && (r_15.1.Lo == r_22.Lo && r_15.1.Hi == r_22.Hi)) && (r_17.1 == 5)) && (r_17.2.1 == (-1))) with hb | hb
   ·have hf := he.h0
    replace hf := hf.more he 9 rfl onT
    replace hf := hf.more he 46 rfl (onP e35)
    replace hf := castB hb hf
    refine stP hf rfl rfl rfl (pM rfl) fun a hf => ?_
    replace hf := castI (u := undef) hb hf
    refine cNil ?_
    refine xThenN ?_
    intro ds u hau
    refine ⟨θ,he.put0 hi hau hf rfl 47 rfl rfl,?_⟩
    exact hc
   ·have hf := he.h0
    replace hf := hf.more he 9 rfl onT
    replace hf := hf.more he 46 rfl (onP e35)
    replace hf := castB hb hf
    refine stS hf rfl rfl rfl fun a hf => ?_
    replace hf := castJ (u := .slice p_17 r_20.1.length c_11) hb hf
    refine cNil ?_
    refine xThenN ?_
    intro ds u hau
    refine ⟨θ,he.put0 hi hau hf rfl 47 rfl rfl,?_⟩
    exact hc
  ·intro E θ a w hD hi hp he hc
   have e35 := hp.of (k := 35) rfl
   try dsimp only at hc
   rw [hi] at hc
   rcases boolEq (((((((((r_13.2 == 0) && (r_15.2 == 0)) && (r_17.2.2 == 0)) && (r_20.2 == 0)) && (r_21.2 == 0)) && (r_13.1 == 5)) && (r_15.1.Lo == r_22.Lo && r_15.1.Hi == r_22.Hi)) && (r_17.1 == 5)) && (r_17.2.1 == (-1))) with hb | hb
   ·have hf := he.h0
    replace hf := hf.more he 46 rfl (onP e35)
    replace hf := castB hb hf
    refine stBS (rows := ([0,10,15] : List Int).map encI_i64) (vs := [(0,i6 0),(1,i6 10),(2,i6 15)]) hf hc rfl rfl sl_25 rfl ⟨rfl,rfl,rfl,rfl,rfl,rfl,rfl,rfl,rfl,trivial⟩ rfl rfl fun b_11 a w hf hc => ?_
    replace hf := castI (u := undef) hb hf
    refine cNil ?_
    refine xThenN ?_
    intro ds u hau
    replace hc := hc.drop k1
    refine ⟨(setT θ 296 ⟨b_11,none,0,(fun _ => (none,0))⟩),he.put hi hau hf rfl [] trivial ⟨qq,qq,qq,qq,qq,qq,qq,qq,qq,qq,qq,qq,qq,qq,qq,qq,qq,qq,qq,qq,qq,qq,qq,qq,qq,qq,qq,qq,qq,qq,qq,qq,qq,qq,qq,qq,qq,qq,qq,qq,qq,qq,qq,qq,qq,qq,qq,qq,qq,qq,qq,qq,qq,qq,qq,qq,trivial⟩,?_⟩
    try dsimp only
    rw [updE_self E 37]
    rw [gE_T hb]
    exact hc
   ·have hf := he.h0
    replace hf := hf.more he 46 rfl (onP e35)
    replace hf := castB hb hf
    refine stS hf rfl rfl rfl fun a hf => ?_
    replace hf := castJ (u := .slice (some ⟨(θ 296).b,0,none⟩) 3 3) hb hf
    refine cNil ?_
    refine xThenN ?_
    intro ds u hau
    refine ⟨θ,he.put0 hi hau hf rfl 48 rfl rfl,?_⟩
    try dsimp only
    rw [updE_self E 37]
    rw [gE_F hb]
    exact hc
  ·intro E θ a w hD hi hp he hc
   have e35 := hp.of (k := 35) rfl
   have e36 := hp.of (k := 36) rfl
   have e37 := hp.of (k := 37) rfl
   try dsimp only at hc
   rw [e37] at hc
   rcases boolEq (((((((((r_13.2 == 0) && (r_15.2 == 0)) && (r_17.2.2 == 0)) && (r_20.2 == 0)) && (r_21.2 == 0)) && (r_13.1 == 5)) && (r_15.1.Lo == r_22.Lo && r_15.1.Hi == r_22.Hi)) && (r_17.1 == 5)) && (r_17.2.1 == (-1))) with hb | hb
   ·have hf := he.h0
    replace hf := hf.more he 46 rfl (onP e35)
    replace hf := castB hb hf
    replace hf := hf.more he 47 rfl (onP e36)
    replace hf := castCT hb hf
    replace hf := hf.more he 48 rfl (onP e37)
    replace hf := castCT hb hf
    rw [gE_T hb] at hc
    refine stE hf hc rfl rfl rfl (eC (v := .bool r_23) (vs := [.slice p_17 r_20.1.length c_11,.slice (some ⟨(θ 296).b,0,none⟩) 3 3]) (caps := []) en_29 rfl rfl rfl rfl (fun w hc => by obtain ⟨G1,hle1,hrd1,hc,hth1⟩ := lend hc k3; obtain ⟨G2,hle2,hrd2,hc,hth2⟩ := lend hc k0; exact (kit_Same_int_ok r_20.1 ([0,10,15] : List Int) (hrd1.mono hle2) hrd2 hc (condT hb hr_23)).mono fun e w h => ⟨h.1,((hth1 _ _ ((hth2 _ _ h.2).unpick k0)).unpick k3)⟩)) fun a w hf hc => ?_
    replace hf := castI (u := undef) hb hf
    refine cNil ?_
    refine xThenN ?_
    intro ds u hau
    refine ⟨θ,he.put0 hi hau hf rfl 49 rfl rfl,?_⟩
    try dsimp only
    rw [updE_tru 38 e37]
    rw [gE_T hb]
    exact hc
   ·have hf := he.h0
    replace hf := hf.more he 46 rfl (onP e35)
    replace hf := castB hb hf
    replace hf := hf.more he 47 rfl (onP e36)
    replace hf := castCF hb hf
    replace hf := hf.more he 48 rfl (onP e37)
    replace hf := castCF hb hf
    rw [gE_F hb] at hc
    refine stS hf rfl rfl rfl fun a hf => ?_
    replace hf := castJ (u := .bool r_23) hb hf
    refine cNil ?_
    refine xThenN ?_
    intro ds u hau
    refine ⟨θ,he.put0 hi hau hf rfl 49 rfl rfl,?_⟩
    try dsimp only
    rw [updE_tru 38 e37]
    rw [gE_F hb]
    exact hc
  ·intro E θ a w hD hi hp he hc
   have e35 := hp.of (k := 35) rfl
   have e38 := hp.of (k := 38) rfl
   rcases boolEq (((((((((r_13.2 == 0) && (r_15.2 == 0)) && (r_17.2.2 == 0)) && (r_20.2 == 0)) && (r_21.2 == 0)) && (r_13.1 == 5)) && (r_15.1.Lo == r_22.Lo && r_15.1.Hi == r_22.Hi)) && (r_17.1 == 5)) && (r_17.2.1 == (-1))) with hb | hb
   ·have hf := he.h0
    replace hf := hf.more he 46 rfl (onP e35)
    replace hf := castB hb hf
    replace hf := hf.more he 49 rfl (onP e38)
    replace hf := castCT hb hf
    refine stP hf rfl rfl rfl (pPt rfl rfl) fun a hf => ?_
    replace hf := castV (v' := .bool ((((((((((r_13.2 == 0) && (r_15.2 == 0)) && (r_17.2.2 == 0)) && (r_20.2 == 0)) && (r_21.2 == 0)) && (r_13.1 == 5)) && (r_15.1.Lo == r_22.Lo && r_15.1.Hi == r_22.Hi)) && (r_17.1 == 5)) && (r_17.2.1 == (-1))) && r_23)) (congrArg Value.bool (andT hb)) hf
    refine cNil ?_
    refine xThenN ?_
    intro ds u hau
    refine ⟨θ,he.put0 hi hau hf rfl 50 rfl rfl,?_⟩
    exact hc
   ·have hf := he.h0
    replace hf := hf.more he 46 rfl (onP e35)
    replace hf := castB hb hf
    replace hf := hf.more he 49 rfl (onP e38)
    replace hf := castCF hb hf
    refine stP hf rfl rfl rfl (pPf rfl rfl) fun a hf => ?_
    replace hf := castV (v' := .bool ((((((((((r_13.2 == 0) && (r_15.2 == 0)) && (r_17.2.2 == 0)) && (r_20.2 == 0)) && (r_21.2 == 0)) && (r_13.1 == 5)) && (r_15.1.Lo == r_22.Lo && r_15.1.Hi == r_22.Hi)) && (r_17.1 == 5)) && (r_17.2.1 == (-1))) && r_23)) (congrArg Value.bool (andF hb)) hf
    refine cNil ?_
    refine xThenN ?_
    intro ds u hau
    refine ⟨θ,he.put0 hi hau hf rfl 50 rfl rfl,?_⟩
    exact hc
  ·intro E θ a w hD hi hp he hc
   have e39 := hp.of (k := 39) rfl
   have hf := he.h0
   replace hf := hf.more he 50 rfl (onP e39)
   refine stP hf rfl rfl rfl (pM rfl) fun a hf => cNil ?_
   refine xThenN ?_
   intro ds u hau
   refine ⟨θ,he.put0 hi hau hf rfl 51 rfl rfl,?_⟩
   exact hc
  ·intro E θ a w hD hi hp he hc
   have e40 := hp.of (k := 40) rfl
   rcases boolEq ((((((((((r_13.2 == 0) && (r_15.2 == 0)) && (r_17.2.2 == 0)) && (r_20.2 == 0)) && (r_21.2 == 0)) && (r_13.1 == 5)) && (r_15.1.Lo == r_22.Lo && r_15.1.Hi == r_22.Hi)) && (r_17.1 == 5)) && (r_17.2.1 == (-1))) && r_23) with hb | hb
   ·have hf := he.h0
    replace hf := hf.more he 10 rfl onT
    replace hf := hf.more he 51 rfl (onP e40)
    replace hf := castB hb hf
    refine stP hf rfl rfl rfl (pM rfl) fun a hf => ?_
    replace hf := castI (u := undef) hb hf
    refine cNil ?_
    refine xThenN ?_
    intro ds u hau
    refine ⟨θ,he.put0 hi hau hf rfl 52 rfl rfl,?_⟩
    exact hc
   ·have hf := he.h0
    replace hf := hf.more he 10 rfl onT
    replace hf := hf.more he 51 rfl (onP e40)
    replace hf := castB hb hf
    refine stS hf rfl rfl rfl fun a hf => ?_
    replace hf := castJ (u := i6 r_21.1) hb hf
    refine cNil ?_
    refine xThenN ?_
    intro ds u hau
    refine ⟨θ,he.put0 hi hau hf rfl 52 rfl rfl,?_⟩
    exact hc
  ·intro E θ a w hD hi hp he hc
   have e40 := hp.of (k := 40) rfl
   have e41 := hp.of (k := 41) rfl
   rcases boolEq ((((((((((r_13.2 == 0) && (r_15.2 == 0)) && (r_17.2.2 == 0)) && (r_20.2 == 0)) && (r_21.2 == 0)) && (r_13.1 == 5)) && (r_15.1.Lo == r_22.Lo && r_15.1.Hi == r_22.Hi)) && (r_17.1 == 5)) && (r_17.2.1 == (-1))) && r_23) with hb | hb
   ·have hf := he.h0
    replace hf := hf.more he 51 rfl (onP e40)
    replace hf := castB hb hf
    replace hf := hf.more he 52 rfl (onP e41)
    replace hf := castCT hb hf
    refine stP hf rfl rfl rfl (pEq rfl rfl) fun a hf => ?_
    replace hf := castI (u := undef) hb hf
    refine cNil ?_
    refine xThenN ?_
    intro ds u hau
    refine ⟨θ,he.put0 hi hau hf rfl 53 rfl rfl,?_⟩
    exact hc
   ·have hf := he.h0
    replace hf := hf.more he 51 rfl (onP e40)
    replace hf := castB hb hf
    replace hf := hf.more he 52 rfl (onP e41)
    replace hf := castCF hb hf
    refine stS hf rfl rfl rfl fun a hf => ?_
    replace hf := castJ (u := .bool (r_21.1 == 4815)) hb hf
    refine cNil ?_
    refine xThenN ?_
    intro ds u hau
    refine ⟨θ,he.put0 hi hau hf rfl 53 rfl rfl,?_⟩
    exact hc
  ·intro E θ a w hD hi hp he hc
   have e40 := hp.of (k := 40) rfl
   have e42 := hp.of (k := 42) rfl
   rcases boolEq ((((((((((r_13.2 == 0) && (r_15.2 == 0)) && (r_17.2.2 == 0)) && (r_20.2 == 0)) && (r_21.2 == 0)) && (r_13.1 == 5)) && (r_15.1.Lo == r_22.Lo && r_15.1.Hi == r_22.Hi)) && (r_17.1 == 5)) && (r_17.2.1 == (-1))) && r_23) with hb | hb
   ·have hf := he.h0
    replace hf := hf.more he 51 rfl (onP e40)
    replace hf := castB hb hf
    replace hf := hf.more he 53 rfl (onP e42)
    replace hf := castCT hb hf
    refine stP hf rfl rfl rfl (pPt rfl rfl) fun a hf => ?_
    replace hf := castV (v' := .bool (((((((((((r_13.2 == 0) && (r_15.2 == 0)) && (r_17.2.2 == 0)) && (r_20.2 == 0)) && (r_21.2 == 0)) && (r_13.1 == 5)) && (r_15.1.Lo == r_22.Lo && r_15.1.Hi == r_22.Hi)) && (r_17.1 == 5)) && (r_17.2.1 == (-1))) && r_23) && (r_21.1 == 4815))) (congrArg Value.bool (andT hb)) hf
    refine cNil ?_
    refine xThenN ?_
    intro ds u hau
    refine ⟨θ,he.put0 hi hau hf rfl 54 rfl rfl,?_⟩
    exact hc
   ·have hf := he.h0
    replace hf := hf.more he 51 rfl (onP e40)
    replace hf := castB hb hf
    replace hf := hf.more he 53 rfl (onP e42)
    replace hf := castCF hb hf
    refine stP hf rfl rfl rfl (pPf rfl rfl) fun a hf => ?_
    replace hf := castV (v' := .bool (((((((((((r_13.2 == 0) && (r_15.2 == 0)) && (r_17.2.2 == 0)) && (r_20.2 == 0)) && (r_21.2 == 0)) && (r_13.1 == 5)) && (r_15.1.Lo == r_22.Lo && r_15.1.Hi == r_22.Hi)) && (r_17.1 == 5)) && (r_17.2.1 == (-1))) && r_23) && (r_21.1 == 4815))) (congrArg Value.bool (andF hb)) hf
    refine cNil ?_
    refine xThenN ?_
    intro ds u hau
    refine ⟨θ,he.put0 hi hau hf rfl 54 rfl rfl,?_⟩
    exact hc
  ·intro E θ a w hD hi hp he hc
   have e43 := hp.of (k := 43) rfl
   have hf := he.h0
   replace hf := hf.more he 54 rfl (onP e43)
   refine stP hf rfl rfl rfl (pA rfl) fun a hf => cNil ?_
   refine xThenN ?_
   intro ds u hau
   refine ⟨θ,he.put0 hi hau hf rfl 55 rfl rfl,?_⟩
   exact hc
  ·intro E θ a w hall he hc
   have hf := he.h0
   have e37 := hall 37 rfl
   have e44 := hall 44 rfl
   replace hf := hf.more he 55 rfl (onP e44)
   try dsimp only at hc
   rw [e37] at hc
   replace hc := hc.drop k0
   exact ⟨hf.kp rfl,hc⟩
  rintro a w ⟨hf,hc⟩
  refine h17 _ _ ?_
  refine wp_ret ?_
  obtain rfl := sj hF
  replace hc := hc.drop k5
  replace hc := hc.drop k4
  replace hc := hc.drop k3
  replace hc := hc.drop k2
  replace hc := hc.drop k1
  replace hc := hc.drop k0
  exact fnOut1 (by simp) rfl Tryz.results15 hf hc (show look _ 0 = _ from rfl) ⟨rfl,hc⟩

def law11_CrewBest_j14 (N : Nat) (x : Int) (x_3 : Int) (x_4 : Int) : Option (Step (Int × Int × Int) (Bool)) :=
 some (.cont (W (x + 1),x_3,x_4))
def law11_CrewBest_b29 (N : Nat) (r_1 : crew_Roster × Int × Int) (r_3 : (List Int) × Int) (b_4 : List Int) (x_7 : Int) : Option (Step (Int) (Step (Int × Int × Int) (Bool))) :=
 cond (decide (x_7 < ((r_3.1.length : Nat) : Int)))
 (Option.bind (getI r_3.1 x_7) fun e_1 =>
 Option.bind (getI b_4 x_7) fun e_2 =>
 Option.bind (cond ((e_1 == (-1)) != (e_2 == (-1))) (some true) (Option.bind (getI b_4 x_7) fun e_3 =>
 Option.bind (law11_rank N r_1.1 x_7 e_3) fun r_10 =>
 Option.bind (getI r_3.1 x_7) fun e_4 =>
 Option.bind (law11_rank N r_1.1 x_7 e_4) fun r_11 =>
 some (decide (r_10 < r_11)))) fun t_1 =>
 cond t_1
 (some (.ret (.ret false)))
 (some (.cont (W (x_7 + 1)))))
 (some (.brk x_7))
def law11_CrewBest_j17 (N : Nat) (r_1 : crew_Roster × Int × Int) (r_3 : (List Int) × Int) (x : Int) (b_4 : List Int) (x_5 : Int) (x_6 : Int) : Option (Step (Int × Int × Int) (Bool)) :=
 Option.bind (crew_Blocks N r_1.1 b_4) fun r_6 =>
 cond ((x == 0) && (r_6.2 != 5))
 (some (.ret false))
 (cond (r_6.2 != 5)
 (law11_CrewBest_j14 N x x_5 x_6)
 (Option.bind (law11_has N r_1.1 r_3.1) fun r_7 =>
 Option.bind (law11_has N r_1.1 b_4) fun r_8 =>
 Option.bind (kit_Same_int N r_7 r_8) fun r_9 =>
 cond (!r_9)
 (some (.ret false))
 (Option.bind (loopO (fun s29 => law11_CrewBest_b29 N r_1 r_3 b_4 s29) N 0) fun x29 =>
 exK x29 (fun s29 => law11_CrewBest_j14 N x x_5 x_6) some)))
def law11_CrewBest_j41 (N : Nat) (x_8 : Int) (b_7 : List Int) (x_11 : Int) (x_12 : Int) : Option (Step ((List Int) × Int × Int × Int) (Step (Int × Int × Int) (Bool))) :=
 some (.cont (b_7,W (x_8 + 1),x_11,x_12))
def law11_CrewBest_b38 (N : Nat) (tries : List Int) (r_1 : crew_Roster × Int × Int) (r_3 : (List Int) × Int) (r_5 : (List Int)) (b_6 : List Int) (x_8 : Int) (x_9 : Int) (x_10 : Int) : Option (Step ((List Int) × Int × Int × Int) (Step (Int × Int × Int) (Bool))) :=
 cond (decide (x_8 < ((r_5.length : Nat) : Int)))
 (Option.bind (kit_Stream_Next N (⟨tries,x_9,x_10⟩ : kit_Stream) 3) fun r_12 =>
 cond (r_12.1 == 0)
 (Option.bind (getI r_3.1 x_8) fun e_5 =>
 Option.bind (getI b_6 x_8) fun e_6 =>
 law11_CrewBest_j41 N x_8 (b_6.set x_8.toNat e_5) r_12.2.1 r_12.2.2)
 (cond (r_12.1 == 1)
 (Option.bind (getI r_1.1.People x_8) fun e_7 =>
 cond (decide (0 < ((e_7.length : Nat) : Int)))
 (Option.bind (kit_Stream_Next N (⟨tries,r_12.2.1,r_12.2.2⟩ : kit_Stream) ((e_7.length : Nat) : Int)) fun r_13 =>
 Option.bind (getI e_7 r_13.1) fun e_8 =>
 Option.bind (getI b_6 x_8) fun e_9 =>
 law11_CrewBest_j41 N x_8 (b_6.set x_8.toNat e_8) r_13.2.1 r_13.2.2)
 (law11_CrewBest_j41 N x_8 b_6 r_12.2.1 r_12.2.2))
 (law11_CrewBest_j41 N x_8 b_6 r_12.2.1 r_12.2.2)))
 (some (.brk (b_6,x_8,x_9,x_10)))
def law11_CrewBest_b10 (N : Nat) (tries : List Int) (r_1 : crew_Roster × Int × Int) (r_3 : (List Int) × Int) (x : Int) (x_1 : Int) (x_2 : Int) : Option (Step (Int × Int × Int) (Bool)) :=
 cond (decide (x < 8))
 (Option.bind (law11_asked N r_1.1) fun r_5 =>
 cond (decide (0 < x))
 (Option.bind (loopO (fun s38 => law11_CrewBest_b38 N tries r_1 r_3 r_5 s38.1 s38.2.1 s38.2.2.1 s38.2.2.2) N (r_5,0,x_1,x_2)) fun x38 =>
 exK x38 (fun s38 => law11_CrewBest_j17 N r_1 r_3 x s38.1 s38.2.2.1 s38.2.2.2) some)
 (law11_CrewBest_j17 N r_1 r_3 x r_5 x_1 x_2))
 (some (.brk (x,x_1,x_2)))
def law11_CrewBest (N : Nat) (numbers : List Int) (tries : List Int) : Option (Bool) :=
 Option.bind (kit_New N numbers) fun r =>
 Option.bind (law11_Made N (⟨numbers,r.1,r.2⟩ : kit_Stream) 7) fun r_1 =>
 Option.bind (kit_New N tries) fun r_2 =>
 Option.bind (crew_Assign N r_1.1) fun r_3 =>
 cond ((r_3.2 != 0) || (((r_3.1.length : Nat) : Int) != ((r_1.1.People.length : Nat) : Int)))
 (some false)
 (Option.bind (loopO (fun s10 => law11_CrewBest_b10 N tries r_1 r_3 s10.1 s10.2.1 s10.2.2) N (0,r_2.1,r_2.2)) fun x10 =>
 exK x10 (fun s10 => Option.bind (law11_awake N) fun r_4 =>
 some r_4) some)
theorem law11_CrewBest_ok {N : Nat} {G : Pers} {Lf : List Ent} {w : World} (numbers : List Int) (tries : List Int) {numbers_p : Option Addr} {numbers_c : Nat} {tries_p : Option Addr} {tries_c : Nat} (h_numbers : Rd G 1 numbers_p numbers_c (numbers.map encI_u8)) (h_tries : Rd G 1 tries_p tries_c (tries.map encI_u8)) (hc : Ctx G (Lf) w) {res : Bool} (hF : law11_CrewBest N numbers tries = some res) : Calls Tryz.prog 5 #[.slice numbers_p numbers.length numbers_c,.slice tries_p tries.length tries_c] w (fun e w => e = .returned (.bool res) ∧ Ctx G (Lf) w) := by
 unfold law11_CrewBest at hF
 refine fnIn (args := [.slice numbers_p numbers.length numbers_c,.slice tries_p tries.length tries_c]) Tryz.func5 rfl Tryz.ntmps5 rfl fun a hf => wp_seq_k fun K1 h1 => cReg ?_
 refine stP hf rfl rfl rfl (pA rfl) fun a hf => cNil ?_
 refine h1 _ _ ?_
 refine wp_seq_k fun K2 h2 => cReg ?_
 refine stP hf rfl rfl rfl (pM rfl) fun a hf => ?_
 obtain ⟨r,hr,hF⟩ := bnd_some hF
 refine stC (vs := [.slice numbers_p numbers.length numbers_c]) (caps := []) hf rfl rfl rfl en_42 rfl rfl rfl rfl (kit_New_ok numbers h_numbers hc hr) ?_
 rintro _ w ⟨b_1,rfl,hc⟩
 refine ⟨_,rfl,fun a hf => ?_⟩
 obtain ⟨r_1,hr_1,hF⟩ := bnd_some hF
 refine stC (vs := [pq b_1,i6 7]) (caps := []) hf rfl rfl rfl en_41 rfl rfl rfl rfl (law11_Made_ok (⟨numbers,r.1,r.2⟩ : kit_Stream) 7 h_numbers (hc.pick k0) hr_1) ?_
 rintro _ w ⟨p_1,tcq,p_2,tcq_1,rfl,hc⟩
 refine ⟨_,rfl,fun a hf => ?_⟩
 refine stAl (cs := [.slice none 0 0,.slice none 0 0]) hf hc rfl rfl zr_78 rfl fun b_2 a w hf hc => stSt (vs := [.slice p_1 r_1.1.People.length tcq.1,.slice p_2 r_1.1.Stations.length tcq_1.1]) hf hc rfl rfl rfl rfl sz_78 rfl rfl u0 fun w hc => cNil ?_
 refine h2 _ _ ?_
 refine wp_seq_k fun K3 h3 => cReg ?_
 refine stP hf rfl rfl rfl (pM rfl) fun a hf => ?_
 obtain ⟨r_2,hr_2,hF⟩ := bnd_some hF
 refine stC (vs := [.slice tries_p tries.length tries_c]) (caps := []) hf rfl rfl rfl en_42 rfl rfl rfl rfl (kit_New_ok tries h_tries hc hr_2) ?_
 rintro _ w ⟨b_3,rfl,hc⟩
 refine ⟨_,rfl,fun a hf => ?_⟩
 refine stP hf rfl rfl rfl (pA rfl) fun a hf => cNil ?_
 refine h3 _ _ ?_
 refine wp_seq_k fun K4 h4 => cReg ?_
 refine stE hf hc rfl rfl rfl (eLdN (vs := [.slice p_1 r_1.1.People.length tcq.1,.slice p_2 r_1.1.Stations.length tcq_1.1]) ag_78 rfl rfl (cells_box (n := 2) m1 rfl)) fun a w hf hc => ?_
 obtain ⟨r_3,hr_3,hF⟩ := bnd_some hF
 obtain ⟨G1,hle1,hrd1,hc,hth1⟩ := lendT kdo_25 hc k2 k2
 obtain ⟨G2,hle2,hrd2,hc,hth2⟩ := lendT kdo_101 hc k2 k2
 refine stC (vs := [.agg #[.slice p_1 r_1.1.People.length tcq.1,.slice p_2 r_1.1.Stations.length tcq_1.1]]) (caps := []) hf rfl rfl rfl en_43 rfl rfl rfl rfl (crew_Assign_ok r_1.1 (hrd1.mono hle2) hrd2 hc hr_3) ?_
 rintro _ w ⟨p_3,c_1,rfl,hc⟩
 refine ⟨_,rfl,fun a hf => ?_⟩
 replace hc := hth2 _ _ hc
 replace hc := hth1 _ _ hc
 refine stP hf rfl rfl rfl (pM rfl) fun a hf => stP hf rfl rfl rfl (pX rfl rfl) fun a hf => stP hf rfl rfl rfl (pX rfl rfl) fun a hf => stP hf rfl rfl rfl (pA rfl) fun a hf => stP hf rfl rfl rfl (pA rfl) fun a hf => cNil ?_
 refine h4 _ _ ?_
 refine wp_seq_k fun K5 h5 => wp_seq_k fun K6 h6 => cReg ?_
 refine stP hf rfl rfl rfl (pM rfl) fun a hf => stP hf rfl rfl rfl (pNe rfl rfl) fun a hf => stP hf rfl rfl rfl (pM rfl) fun a hf => stCut 7 (fun a w => Has 138 a [(5,pq b_2),(6,pq b_3),(7,.slice p_3 r_3.1.length c_1),(8,i6 r_3.2),(26,i6 r_3.2),(27,.bool (r_3.2 != 0)),(28,.bool (r_3.2 != 0)),(35,.bool ((r_3.2 != 0) || (((r_3.1.length : Nat) : Int) != ((r_1.1.People.length : Nat) : Int))))] ∧ Ctx G (.row p_1 tcq.1 ((tabR tcq.2 r_1.1.People).map (Kd.v kd_25)) 25 1::tabI kd_25 (tabR tcq.2 r_1.1.People)::.row p_2 tcq_1.1 ((tabR tcq_1.2 r_1.1.Stations).map (Kd.v kd_101)) 101 2::tabI kd_101 (tabR tcq_1.2 r_1.1.Stations)::.row p_3 c_1 (r_3.1.map encI_i64) 3 1::.box b_3 [.slice tries_p tries.length tries_c,i6 r_2.1,i6 r_2.2] 165::.box b_2 [.slice p_1 r_1.1.People.length tcq.1,.slice p_2 r_1.1.Stations.length tcq_1.1] 78::.box b_1 [.slice numbers_p numbers.length numbers_c,i6 r_1.2.1,i6 r_1.2.2] 165::Lf) w) ?_ ?_
 ·cases hb : (r_3.2 != 0)
  ·rw [hb] at hf
   refine stP hf rfl rfl rfl (pM rfl) fun a hf => stP hf rfl rfl rfl (pLenS Tryz.underlying25 rfl) fun a hf => stP hf rfl rfl rfl (pFA fa_78_0 rfl) fun a hf => stE hf hc rfl rfl rfl (eLd1 sc_75 rfl (cell_box m6 rfl)) fun a w hf hc => stP hf rfl rfl rfl (pLenS Tryz.underlying75 rfl) fun a hf => stP hf rfl rfl rfl (pNe rfl rfl) fun a hf => stP hf rfl rfl rfl (pPf rfl rfl) fun a hf => cNil ⟨hf.kp rfl,hc⟩
  ·rw [hb] at hf
   refine stS hf rfl rfl rfl fun a hf => stS hf rfl rfl rfl fun a hf => stS hf rfl rfl rfl fun a hf => stS hf rfl rfl rfl fun a hf => stS hf rfl rfl rfl fun a hf => stS hf rfl rfl rfl fun a hf => stP hf rfl rfl rfl (pPt rfl rfl) fun a hf => cNil ⟨hf.kp rfl,hc⟩
 intro a w ⟨hf,hc⟩
 refine cNil ?_
 refine h6 _ _ ?_
 refine cCond (b := ((r_3.2 != 0) || (((r_3.1.length : Nat) : Int) != ((r_1.1.People.length : Nat) : Int)))) hf rfl (fun hb => ?_) (fun hb => ?_)
 ·replace hF := condT hb hF
  clear hb
  refine wp_seq_k fun K7 h7 => cReg ?_
  refine stP hf rfl rfl rfl (pA rfl) fun a hf => cNil ?_
  refine h7 _ _ ?_
  refine wp_ret ?_
  refine xThenR ?_
  obtain rfl := sj hF
  replace hc := hc.drop k7
  replace hc := hc.drop k6
  replace hc := hc.drop k5
  replace hc := hc.drop k4
  replace hc := hc.drop k3
  replace hc := hc.drop k2
  replace hc := hc.drop k1
  replace hc := hc.drop k0
  exact fnOut1 (by simp) rfl Tryz.results5 hf hc (show look _ 4 = _ from rfl) ⟨rfl,hc⟩
 ·replace hF := condF hb hF
  clear hb
  refine wp_skip ?_
  refine h5 _ _ ?_
  refine wp_seq_k fun K8 h8 => wp_seq_k fun K9 h9 => cReg ?_
  refine stP hf rfl rfl rfl (pM rfl) fun a hf => cNil ?_
  refine h9 _ _ ?_
  refine wp_block ?_
  obtain ⟨x10,hx10,hF⟩ := bnd_some hF
  let S10 : (Int × Int × Int) → Act → World → Prop := (fun (zz : Int × Int × Int) a w => ∃ (p_4 : Option Addr) (c_2 : Nat) (p_5 : Option Addr) (tcq_2 : TabH),Has 138 a [(5,pq b_2),(6,pq b_3),(7,.slice p_4 r_3.1.length c_2),(36,i6 zz.1)] ∧ Ctx G (.row p_5 tcq_2.1 ((tabR tcq_2.2 r_1.1.People).map (Kd.v kd_25)) 25 1::tabI kd_25 (tabR tcq_2.2 r_1.1.People)::.row p_2 tcq_1.1 ((tabR tcq_1.2 r_1.1.Stations).map (Kd.v kd_101)) 101 2::tabI kd_101 (tabR tcq_1.2 r_1.1.Stations)::.row p_4 c_2 (r_3.1.map encI_i64) 3 1::.box b_3 [.slice tries_p tries.length tries_c,i6 zz.2.1,i6 zz.2.2] 165::.box b_2 [.slice p_5 r_1.1.People.length tcq_2.1,.slice p_2 r_1.1.Stations.length tcq_1.1] 78::Lf) w)
  have hr10 : ∀ (zz : Int × Int × Int) a w,x10 = .go zz → S10 zz a w → K8 a w := by
   rintro ⟨x,x_1,x_2⟩ a w rfl ⟨p_4,c_2,p_5,tcq_2,hf,hc⟩
   replace hF := exK_go hF
   refine h8 _ _ ?_
   refine wp_seq_k fun K11 h11 => cReg ?_
   obtain ⟨r_4,hr_4,hF⟩ := bnd_some hF
   refine stE hf hc rfl rfl rfl (eC (v := .bool r_4) (vs := []) (caps := []) en_15 rfl rfl rfl rfl (fun w hc => law11_awake_ok hc hr_4)) fun a w hf hc => stP hf rfl rfl rfl (pA rfl) fun a hf => cNil ?_
   refine h11 _ _ ?_
   refine wp_ret ?_
   obtain rfl := sj hF
   replace hc := hc.drop k6
   replace hc := hc.drop k5
   replace hc := hc.drop k4
   replace hc := hc.drop k3
   replace hc := hc.drop k2
   replace hc := hc.drop k1
   replace hc := hc.drop k0
   exact fnOut1 (by simp) rfl Tryz.results5 hf hc (show look _ 4 = _ from rfl) ⟨rfl,hc⟩
  have ho10 : ∀ r,x10 = .out r → r = res := by
   rintro r rfl
   exact sj hF
  replace hc := hc.drop k7
  refine cLoop N (loopW (S := S10) (x := x10) ?_ N (0,r_2.1,r_2.2) _ _ ⟨p_3,c_1,p_1,tcq,hf.kp rfl,hc⟩ hx10)
  clear hF hf hc
  rintro ⟨x,x_1,x_2⟩ st10 a w KB10 ⟨p_4,c_2,p_5,tcq_2,hf,hc⟩ hF hfin10 hK10
  unfold law11_CrewBest_b10 at hF
  refine wp_seq_k fun K12 h12 => cReg ?_
  refine stP hf rfl rfl rfl (pLt rfl rfl) fun a hf => cNil ?_
  refine h12 _ _ ?_
  refine wp_seq_k fun K13 h13 => cCond (b := (decide (x < 8))) hf rfl (fun hb => ?_) (fun hb => ?_)
  ·replace hF := condT hb hF
   clear hb
   refine wp_skip ?_
   refine h13 _ _ ?_
   refine wp_seq_k fun K14 h14 => ?_
   have hj14 : ∀ (x_3 : Int) (x_4 : Int) (p_6 : Option Addr) (c_3 : Nat) (p_7 : Option Addr) (tcq_3 : TabH) a w,Has 138 a [(5,pq b_2),(6,pq b_3),(7,.slice p_6 r_3.1.length c_3),(36,i6 x)] → Ctx G (.row p_7 tcq_3.1 ((tabR tcq_3.2 r_1.1.People).map (Kd.v kd_25)) 25 1::tabI kd_25 (tabR tcq_3.2 r_1.1.People)::.row p_2 tcq_1.1 ((tabR tcq_1.2 r_1.1.Stations).map (Kd.v kd_101)) 101 2::tabI kd_101 (tabR tcq_1.2 r_1.1.Stations)::.row p_6 c_3 (r_3.1.map encI_i64) 3 1::.box b_3 [.slice tries_p tries.length tries_c,i6 x_3,i6 x_4] 165::.box b_2 [.slice p_7 r_1.1.People.length tcq_3.1,.slice p_2 r_1.1.Stations.length tcq_1.1] 78::Lf) w → law11_CrewBest_j14 N x x_3 x_4 = some st10 → K14 a w := by
    repeat (clear hF)
    repeat (clear hc)
    repeat (clear hf)
    intro x_3 x_4 p_6 c_3 p_7 tcq_3 a w hf hc hF
    unfold law11_CrewBest_j14 at hF
    refine h14 _ _ ?_
    refine cReg ?_
    refine stP hf rfl rfl rfl (pAdd rfl rfl) fun a hf => stP hf rfl rfl rfl (pM rfl) fun a hf => cNil ?_
    exact hK10 (W (x + 1),x_3,x_4) _ _ (sj hF).symm ⟨p_6,c_3,p_7,tcq_3,hf.kp rfl,hc⟩
   refine wp_block ?_
   refine wp_seq_k fun K15 h15 => cReg ?_
   refine stP hf rfl rfl rfl (pM rfl) fun a hf => stP hf rfl rfl rfl (pA rfl) fun a hf => cNil ?_
   refine h15 _ _ ?_
   refine wp_seq_k fun K16 h16 => cReg ?_
   refine stE hf hc rfl rfl rfl (eLdN (vs := [.slice p_5 r_1.1.People.length tcq_2.1,.slice p_2 r_1.1.Stations.length tcq_1.1]) ag_78 rfl rfl (cells_box (n := 2) m6 rfl)) fun a w hf hc => ?_
   obtain ⟨r_5,hr_5,hF⟩ := bnd_some hF
   obtain ⟨G1,hle1,hrd1,hc,hth1⟩ := lendT kdo_25 hc k0 k0
   obtain ⟨G2,hle2,hrd2,hc,hth2⟩ := lendT kdo_101 hc k0 k0
   refine stC (vs := [.agg #[.slice p_5 r_1.1.People.length tcq_2.1,.slice p_2 r_1.1.Stations.length tcq_1.1]]) (caps := []) hf rfl rfl rfl en_44 rfl rfl rfl rfl (law11_asked_ok r_1.1 (hrd1.mono hle2) hrd2 hc hr_5) ?_
   rintro _ w ⟨p_8,c_4,rfl,hc⟩
   refine ⟨_,rfl,fun a hf => ?_⟩
   replace hc := hth2 _ _ hc
   replace hc := hth1 _ _ hc
   refine stP hf rfl rfl rfl (pA rfl) fun a hf => cNil ?_
   refine h16 _ _ ?_
   refine wp_seq_k fun K17 h17 => ?_
   have hj17 : ∀ (b_4 : List Int) (x_5 : Int) (x_6 : Int) (p_9 : Option Addr) (c_5 : Nat) (p_10 : Option Addr) (c_6 : Nat) (p_11 : Option Addr) (tcq_4 : TabH) a w,Has 138 a [(5,pq b_2),(6,pq b_3),(7,.slice p_9 r_3.1.length c_5),(9,i6 x),(10,.slice p_10 b_4.length c_6),(36,i6 x)] → Ctx G (.row p_11 tcq_4.1 ((tabR tcq_4.2 r_1.1.People).map (Kd.v kd_25)) 25 1::tabI kd_25 (tabR tcq_4.2 r_1.1.People)::.row p_2 tcq_1.1 ((tabR tcq_1.2 r_1.1.Stations).map (Kd.v kd_101)) 101 2::tabI kd_101 (tabR tcq_1.2 r_1.1.Stations)::.row p_10 c_6 (b_4.map encI_i64) 3 1::.row p_9 c_5 (r_3.1.map encI_i64) 3 1::.box b_3 [.slice tries_p tries.length tries_c,i6 x_5,i6 x_6] 165::.box b_2 [.slice p_11 r_1.1.People.length tcq_4.1,.slice p_2 r_1.1.Stations.length tcq_1.1] 78::Lf) w → law11_CrewBest_j17 N r_1 r_3 x b_4 x_5 x_6 = some st10 → K17 a w := by
    repeat (clear hF)
    repeat (clear hc)
    repeat (clear hf)
    intro b_4 x_5 x_6 p_9 c_5 p_10 c_6 p_11 tcq_4 a w hf hc hF
    unfold law11_CrewBest_j17 at hF
    refine h17 _ _ ?_
    refine wp_seq_k fun K18 h18 => cReg ?_
    refine stE hf hc rfl rfl rfl (eLdN (vs := [.slice p_11 r_1.1.People.length tcq_4.1,.slice p_2 r_1.1.Stations.length tcq_1.1]) ag_78 rfl rfl (cells_box (n := 2) m7 rfl)) fun a w hf hc => stP hf rfl rfl rfl (pM rfl) fun a hf => ?_
    obtain ⟨r_6,hr_6,hF⟩ := bnd_some hF
    refine stE hf hc rfl rfl rfl (eC (v := .tuple #[.agg #[i6 r_6.1.Person,i6 r_6.1.Station],i6 r_6.2]) (vs := [.agg #[.slice p_11 r_1.1.People.length tcq_4.1,.slice p_2 r_1.1.Stations.length tcq_1.1],.slice p_10 b_4.length c_6]) (caps := []) en_46 rfl rfl rfl rfl (fun w hc => by obtain ⟨G1,hle1,hrd1,hc,hth1⟩ := lendT kdo_25 hc k0 k0; obtain ⟨G2,hle2,hrd2,hc,hth2⟩ := lendT kdo_101 hc k0 k0; obtain ⟨G3,hle3,hrd3,hc,hth3⟩ := lend hc k0; exact (crew_Blocks_ok r_1.1 b_4 ((hrd1.mono hle2).mono hle3) (hrd2.mono hle3) hrd3 hc hr_6).mono fun e w h => ⟨h.1,(unpickT (hth1 _ _ (unpickT (hth2 _ _ ((hth3 _ _ h.2).unpick k0)) k0 k0)) k0 k0)⟩)) fun a w hf hc => stP hf rfl rfl rfl (pM rfl) fun a hf => stP hf rfl rfl rfl (pX rfl rfl) fun a hf => stP hf rfl rfl rfl (pX rfl rfl) fun a hf => stAl (cs := [i6 0,i6 0]) hf hc rfl rfl zr_86 rfl fun b_5 a w hf hc => stSt (vs := [i6 r_6.1.Person,i6 r_6.1.Station]) hf hc rfl rfl rfl rfl sz_86 rfl rfl u0 fun w hc => stP hf rfl rfl rfl (pA rfl) fun a hf => cNil ?_
    replace hc := hc.drop k0
    refine h18 _ _ ?_
    refine wp_seq_k fun K19 h19 => wp_seq_k fun K20 h20 => cReg ?_
    refine stP hf rfl rfl rfl (pM rfl) fun a hf => stP hf rfl rfl rfl (pEq rfl rfl) fun a hf => stP hf rfl rfl rfl (pM rfl) fun a hf => stCut 3 (fun a w => Has 138 a [(5,pq b_2),(6,pq b_3),(7,.slice p_9 r_3.1.length c_5),(9,i6 x),(10,.slice p_10 b_4.length c_6),(36,i6 x),(14,i6 r_6.2),(86,i6 x),(87,.bool (x == 0)),(88,.bool (x == 0)),(91,.bool ((x == 0) && (r_6.2 != 5)))] ∧ Ctx G (.row p_11 tcq_4.1 ((tabR tcq_4.2 r_1.1.People).map (Kd.v kd_25)) 25 1::tabI kd_25 (tabR tcq_4.2 r_1.1.People)::.row p_2 tcq_1.1 ((tabR tcq_1.2 r_1.1.Stations).map (Kd.v kd_101)) 101 2::tabI kd_101 (tabR tcq_1.2 r_1.1.Stations)::.row p_10 c_6 (b_4.map encI_i64) 3 1::.row p_9 c_5 (r_3.1.map encI_i64) 3 1::.box b_3 [.slice tries_p tries.length tries_c,i6 x_5,i6 x_6] 165::.box b_2 [.slice p_11 r_1.1.People.length tcq_4.1,.slice p_2 r_1.1.Stations.length tcq_1.1] 78::Lf) w) ?_ ?_
    ·cases hb : (x == 0)
     ·rw [hb] at hf
      refine stS hf rfl rfl rfl fun a hf => stS hf rfl rfl rfl fun a hf => stP hf rfl rfl rfl (pPf rfl rfl) fun a hf => cNil ⟨hf.kp rfl,hc⟩
     ·rw [hb] at hf
      refine stP hf rfl rfl rfl (pM rfl) fun a hf => stP hf rfl rfl rfl (pNe rfl rfl) fun a hf => stP hf rfl rfl rfl (pPt rfl rfl) fun a hf => cNil ⟨hf.kp rfl,hc⟩
    intro a w ⟨hf,hc⟩
    refine cNil ?_
    refine h20 _ _ ?_
    refine cCond (b := ((x == 0) && (r_6.2 != 5))) hf rfl (fun hb => ?_) (fun hb => ?_)
    ·replace hF := condT hb hF
     clear hb
     refine wp_seq_k fun K21 h21 => cReg ?_
     refine stP hf rfl rfl rfl (pA rfl) fun a hf => cNil ?_
     refine h21 _ _ ?_
     refine wp_ret ?_
     refine xThenR ?_
     refine xBlkR ?_
     refine xThenR ?_
     refine xThenR ?_
     have he := sj hF
     rw [← he] at hfin10
     replace hF := ho10 _ hfin10
     refine xBlkR ?_
     refine xThenR ?_
     obtain rfl := hF
     replace hc := hc.drop k7
     replace hc := hc.drop k6
     replace hc := hc.drop k5
     replace hc := hc.drop k4
     replace hc := hc.drop k3
     replace hc := hc.drop k2
     replace hc := hc.drop k1
     replace hc := hc.drop k0
     exact fnOut1 (by simp) rfl Tryz.results5 hf hc (show look _ 4 = _ from rfl) ⟨rfl,hc⟩
    ·replace hF := condF hb hF
     clear hb
     refine wp_skip ?_
     refine h19 _ _ ?_
     refine wp_seq_k fun K22 h22 => wp_seq_k fun K23 h23 => cReg ?_
     refine stP hf rfl rfl rfl (pM rfl) fun a hf => stP hf rfl rfl rfl (pNe rfl rfl) fun a hf => cNil ?_
     refine h23 _ _ ?_
     refine cCond (b := (r_6.2 != 5)) hf rfl (fun hb => ?_) (fun hb => ?_)
     ·replace hF := condT hb hF
      clear hb
      refine wp_exit ?_
      refine xThen ?_
      refine cHit ?_
      replace hc := hc.drop k4
      exact hj14 x_5 x_6 p_9 c_5 p_11 tcq_4 _ _  (hf.kp rfl) hc hF
     ·replace hF := condF hb hF
      clear hb
      refine wp_skip ?_
      refine h22 _ _ ?_
      refine wp_seq_k fun K24 h24 => wp_seq_k fun K25 h25 => ?_
      obtain ⟨r_7,hr_7,hF⟩ := bnd_some hF
      obtain ⟨r_8,hr_8,hF⟩ := bnd_some hF
      obtain ⟨r_9,hr_9,hF⟩ := bnd_some hF
      replace hc := hc.nilRow 0 0
      replace hc := hc.nilRow 0 0
      refine regionE (fun θ => [⟨none,none,5,pq b_2⟩,⟨none,none,6,pq b_3⟩,⟨none,none,7,.slice p_9 r_3.1.length c_5⟩,⟨none,none,10,.slice p_10 b_4.length c_6⟩,⟨none,none,36,i6 x⟩,⟨some 0,none,94,.agg #[.slice p_11 r_1.1.People.length tcq_4.1,.slice p_2 r_1.1.Stations.length tcq_1.1]⟩,⟨some 1,none,95,.slice p_9 r_3.1.length c_5⟩,⟨some 2,none,96,.slice ((θ 16).p) r_7.length ((θ 16).c)⟩,⟨some 3,none,97,.agg #[.slice p_11 r_1.1.People.length tcq_4.1,.slice p_2 r_1.1.Stations.length tcq_1.1]⟩,⟨some 4,none,98,.slice p_10 b_4.length c_6⟩,⟨some 5,none,99,.slice ((θ 40).p) r_8.length ((θ 40).c)⟩,⟨some 6,none,100,.bool r_9⟩,⟨some 7,none,101,.bool (!r_9)⟩]) (fun E θ => (bif E 5 then .row ((θ 40).p) ((θ 40).c) (r_8.map encI_i64) 3 1 else .row none 0 [] 0 0)::(bif E 2 then .row ((θ 16).p) ((θ 16).c) (r_7.map encI_i64) 3 1 else .row none 0 [] 0 0)::.row p_11 tcq_4.1 ((tabR tcq_4.2 r_1.1.People).map (Kd.v kd_25)) 25 1::tabI kd_25 (tabR tcq_4.2 r_1.1.People)::.row p_2 tcq_1.1 ((tabR tcq_1.2 r_1.1.Stations).map (Kd.v kd_101)) 101 2::tabI kd_101 (tabR tcq_1.2 r_1.1.Stations)::.row p_10 c_6 (b_4.map encI_i64) 3 1::.row p_9 c_5 (r_3.1.map encI_i64) 3 1::.box b_3 [.slice tries_p tries.length tries_c,i6 x_5,i6 x_6] 165::.box b_2 [.slice p_11 r_1.1.People.length tcq_4.1,.slice p_2 r_1.1.Stations.length tcq_1.1] 78::Lf) [] (fun a w => ∃ (p_14 : Option Addr) (c_9 : Nat) (p_15 : Option Addr) (c_10 : Nat),Has 138 a [(5,pq b_2),(6,pq b_3),(7,.slice p_9 r_3.1.length c_5),(10,.slice p_10 b_4.length c_6),(36,i6 x),(101,.bool (!r_9))] ∧ Ctx G (.row p_14 c_9 (r_8.map encI_i64) 3 1::.row p_15 c_10 (r_7.map encI_i64) 3 1::.row p_11 tcq_4.1 ((tabR tcq_4.2 r_1.1.People).map (Kd.v kd_25)) 25 1::tabI kd_25 (tabR tcq_4.2 r_1.1.People)::.row p_2 tcq_1.1 ((tabR tcq_1.2 r_1.1.Stations).map (Kd.v kd_101)) 101 2::tabI kd_101 (tabR tcq_1.2 r_1.1.Stations)::.row p_10 c_6 (b_4.map encI_i64) 3 1::.row p_9 c_5 (r_3.1.map encI_i64) 3 1::.box b_3 [.slice tries_p tries.length tries_c,i6 x_5,i6 x_6] 165::.box b_2 [.slice p_11 r_1.1.People.length tcq_4.1,.slice p_2 r_1.1.Stations.length tcq_1.1] 78::Lf) w) follows_mx (by kernel_rfl) (by kernel_rfl) (HasE.of hf ⟨rfl,rfl,rfl,rfl,rfl,trivial,trivial,trivial,trivial,trivial,trivial,trivial,trivial,trivial⟩) hc ⟨?_,?_,?_,?_,?_,?_,?_,?_,trivial⟩ ?_ ?_
      ·intro E θ a w hD hi hp he hc
       have hf := he.h0
       replace hf := hf.more he 0 rfl onT
       refine stE hf hc rfl rfl rfl (eLdN (vs := [.slice p_11 r_1.1.People.length tcq_4.1,.slice p_2 r_1.1.Stations.length tcq_1.1]) ag_78 rfl rfl (cells_box (n := 2) m9 rfl)) fun a w hf hc => cNil ?_
       refine xThenN ?_
       intro ds u hau
       refine ⟨θ,he.put0 hi hau hf rfl 5 rfl rfl,?_⟩
       exact hc
      ·intro E θ a w hD hi hp he hc
       have hf := he.h0
       replace hf := hf.more he 2 rfl onT
       refine stP hf rfl rfl rfl (pM rfl) fun a hf => cNil ?_
       refine xThenN ?_
       intro ds u hau
       refine ⟨θ,he.put0 hi hau hf rfl 6 rfl rfl,?_⟩
       exact hc
      ·intro E θ a w hD hi hp he hc
       have e0 := hp.of (k := 0) rfl
       have e1 := hp.of (k := 1) rfl
       try dsimp only at hc
       rw [hi] at hc
       have hf := he.h0
       replace hf := hf.more he 5 rfl (onP e0)
       replace hf := hf.more he 6 rfl (onP e1)
       obtain ⟨G1,hle1,hrd1,hc,hth1⟩ := lendT kdo_25 hc k2 k2
       obtain ⟨G2,hle2,hrd2,hc,hth2⟩ := lendT kdo_101 hc k2 k2
       obtain ⟨G3,hle3,hrd3,hc,hth3⟩ := lend hc k3
       refine stC (vs := [.agg #[.slice p_11 r_1.1.People.length tcq_4.1,.slice p_2 r_1.1.Stations.length tcq_1.1],.slice p_9 r_3.1.length c_5]) (caps := []) hf rfl rfl rfl en_47 rfl rfl rfl rfl (law11_has_ok r_1.1 r_3.1 ((hrd1.mono hle2).mono hle3) (hrd2.mono hle3) hrd3 hc hr_7) ?_
       rintro _ w ⟨p_12,c_7,rfl,hc⟩
       refine ⟨_,rfl,fun a hf => ?_⟩
       replace hc := hth3 _ _ hc
       replace hc := hth2 _ _ hc
       replace hc := hth1 _ _ hc
       refine cNil ?_
       refine xThenN ?_
       intro ds u hau
       replace hc := hc.drop k7
       replace hc := hc.pick k4
       replace hc := hc.pick k7
       replace hc := hc.pick k5
       replace hc := hc.pick k5
       replace hc := hc.pick k5
       replace hc := hc.pick k5
       replace hc := hc.pick k6
       replace hc := hc.pick k7
       refine ⟨(setT θ 16 ⟨0,p_12,c_7,(fun _ => (none,0))⟩),he.put hi hau hf rfl [] trivial ⟨qq,qq,qq,qq,qq,qq,qq,qq,qq,qq,qq,qq,qq,trivial⟩,?_⟩
       try dsimp only
       rw [updE_self E 2]
       exact hc
      ·intro E θ a w hD hi hp he hc
       have hf := he.h0
       replace hf := hf.more he 0 rfl onT
       refine stE hf hc rfl rfl rfl (eLdN (vs := [.slice p_11 r_1.1.People.length tcq_4.1,.slice p_2 r_1.1.Stations.length tcq_1.1]) ag_78 rfl rfl (cells_box (n := 2) m9 rfl)) fun a w hf hc => cNil ?_
       refine xThenN ?_
       intro ds u hau
       refine ⟨θ,he.put0 hi hau hf rfl 8 rfl rfl,?_⟩
       exact hc
      ·intro E θ a w hD hi hp he hc
       have hf := he.h0
       replace hf := hf.more he 3 rfl onT
       refine stP hf rfl rfl rfl (pM rfl) fun a hf => cNil ?_
       refine xThenN ?_
       intro ds u hau
       refine ⟨θ,he.put0 hi hau hf rfl 9 rfl rfl,?_⟩
       exact hc
      ·intro E θ a w hD hi hp he hc
       have e3 := hp.of (k := 3) rfl
       have e4 := hp.of (k := 4) rfl
       try dsimp only at hc
       rw [hi] at hc
       have hf := he.h0
       replace hf := hf.more he 8 rfl (onP e3)
       replace hf := hf.more he 9 rfl (onP e4)
       obtain ⟨G1,hle1,hrd1,hc,hth1⟩ := lendT kdo_25 hc k2 k2
       obtain ⟨G2,hle2,hrd2,hc,hth2⟩ := lendT kdo_101 hc k2 k2
       obtain ⟨G3,hle3,hrd3,hc,hth3⟩ := lend hc k2
       refine stC (vs := [.agg #[.slice p_11 r_1.1.People.length tcq_4.1,.slice p_2 r_1.1.Stations.length tcq_1.1],.slice p_10 b_4.length c_6]) (caps := []) hf rfl rfl rfl en_47 rfl rfl rfl rfl (law11_has_ok r_1.1 b_4 ((hrd1.mono hle2).mono hle3) (hrd2.mono hle3) hrd3 hc hr_8) ?_
       rintro _ w ⟨p_13,c_8,rfl,hc⟩
       refine ⟨_,rfl,fun a hf => ?_⟩
       replace hc := hth3 _ _ hc
       replace hc := hth2 _ _ hc
       replace hc := hth1 _ _ hc
       refine cNil ?_
       refine xThenN ?_
       intro ds u hau
       replace hc := hc.drop k6
       replace hc := hc.pick k4
       replace hc := hc.pick k4
       replace hc := hc.pick k4
       replace hc := hc.pick k4
       replace hc := hc.pick k4
       replace hc := hc.pick k6
       replace hc := hc.pick k6
       refine ⟨(setT θ 40 ⟨0,p_13,c_8,(fun _ => (none,0))⟩),he.put hi hau hf rfl [] trivial ⟨qq,qq,qq,qq,qq,qq,qq,qq,qq,qq,qq,qq,qq,trivial⟩,?_⟩
       try dsimp only
       rw [updE_self E 5]
       exact hc
      ·intro E θ a w hD hi hp he hc
       have e2 := hp.of (k := 2) rfl
       have e5 := hp.of (k := 5) rfl
       try dsimp only at hc
       rw [e5,e2] at hc
       have hf := he.h0
       replace hf := hf.more he 7 rfl (onP e2)
       replace hf := hf.more he 10 rfl (onP e5)
       refine stE hf hc rfl rfl rfl (eC (v := .bool r_9) (vs := [.slice ((θ 16).p) r_7.length ((θ 16).c),.slice ((θ 40).p) r_8.length ((θ 40).c)]) (caps := []) en_29 rfl rfl rfl rfl (fun w hc => by obtain ⟨G1,hle1,hrd1,hc,hth1⟩ := lend hc k1; obtain ⟨G2,hle2,hrd2,hc,hth2⟩ := lend hc k0; exact (kit_Same_int_ok r_7 r_8 (hrd1.mono hle2) hrd2 hc hr_9).mono fun e w h => ⟨h.1,((hth1 _ _ ((hth2 _ _ h.2).unpick k0)).unpick k1)⟩)) fun a w hf hc => cNil ?_
       refine xThenN ?_
       intro ds u hau
       refine ⟨θ,he.put0 hi hau hf rfl 11 rfl rfl,?_⟩
       try dsimp only
       rw [updE_tru 6 e5,updE_tru 6 e2]
       exact hc
      ·intro E θ a w hD hi hp he hc
       have e6 := hp.of (k := 6) rfl
       have hf := he.h0
       replace hf := hf.more he 11 rfl (onP e6)
       refine stP hf rfl rfl rfl (pNot rfl) fun a hf => cNil ?_
       refine xThenN ?_
       intro ds u hau
       refine ⟨θ,he.put0 hi hau hf rfl 12 rfl rfl,?_⟩
       exact hc
      ·intro E θ a w hall he hc
       have hf := he.h0
       have e2 := hall 2 rfl
       have e5 := hall 5 rfl
       have e7 := hall 7 rfl
       replace hf := hf.more he 12 rfl (onP e7)
       replace hf := hf.more he 4 rfl (onT)
       replace hf := hf.more he 3 rfl (onT)
       replace hf := hf.more he 2 rfl (onT)
       replace hf := hf.more he 1 rfl (onT)
       replace hf := hf.more he 0 rfl (onT)
       try dsimp only at hc
       rw [e2,e5] at hc
       exact ⟨(θ 40).p,(θ 40).c,(θ 16).p,(θ 16).c,hf.kp rfl,hc⟩
      rintro a w ⟨p_14,c_9,p_15,c_10,hf,hc⟩
      replace hc := hc.drop k1
      replace hc := hc.drop k0
      refine h25 _ _ ?_
      refine cCond (b := (!r_9)) hf rfl (fun hb => ?_) (fun hb => ?_)
      ·replace hF := condT hb hF
       clear hb
       refine wp_seq_k fun K26 h26 => cReg ?_
       refine stP hf rfl rfl rfl (pA rfl) fun a hf => cNil ?_
       refine h26 _ _ ?_
       refine wp_ret ?_
       refine xThenR ?_
       refine xBlkR ?_
       refine xThenR ?_
       refine xThenR ?_
       have he := sj hF
       rw [← he] at hfin10
       replace hF := ho10 _ hfin10
       refine xBlkR ?_
       refine xThenR ?_
       obtain rfl := hF
       replace hc := hc.drop k7
       replace hc := hc.drop k6
       replace hc := hc.drop k5
       replace hc := hc.drop k4
       replace hc := hc.drop k3
       replace hc := hc.drop k2
       replace hc := hc.drop k1
       replace hc := hc.drop k0
       exact fnOut1 (by simp) rfl Tryz.results5 hf hc (show look _ 4 = _ from rfl) ⟨rfl,hc⟩
      ·replace hF := condF hb hF
       clear hb
       refine wp_skip ?_
       refine h24 _ _ ?_
       refine wp_seq_k fun K27 h27 => cReg ?_
       refine stP hf rfl rfl rfl (pM rfl) fun a hf => stP hf rfl rfl rfl (pLenS Tryz.underlying25 rfl) fun a hf => stP hf rfl rfl rfl (pM rfl) fun a hf => cNil ?_
       refine h27 _ _ ?_
       refine wp_thenK fun K28 h28 => wp_block ?_
       obtain ⟨x29,hx29,hF⟩ := bnd_some hF
       let S29 : Int → Act → World → Prop := (fun (zz : Int) a w => ∃ (p_16 : Option Addr) (c_11 : Nat) (p_17 : Option Addr) (c_12 : Nat),Has 138 a [(5,pq b_2),(6,pq b_3),(7,.slice p_16 r_3.1.length c_11),(10,.slice p_17 b_4.length c_12),(36,i6 x),(103,i6 ((r_3.1.length : Nat) : Int)),(104,i6 zz)] ∧ Ctx G (.row p_11 tcq_4.1 ((tabR tcq_4.2 r_1.1.People).map (Kd.v kd_25)) 25 1::tabI kd_25 (tabR tcq_4.2 r_1.1.People)::.row p_2 tcq_1.1 ((tabR tcq_1.2 r_1.1.Stations).map (Kd.v kd_101)) 101 2::tabI kd_101 (tabR tcq_1.2 r_1.1.Stations)::.row p_17 c_12 (b_4.map encI_i64) 3 1::.row p_16 c_11 (r_3.1.map encI_i64) 3 1::.box b_3 [.slice tries_p tries.length tries_c,i6 x_5,i6 x_6] 165::.box b_2 [.slice p_11 r_1.1.People.length tcq_4.1,.slice p_2 r_1.1.Stations.length tcq_1.1] 78::Lf) w)
       have hr29 : ∀ (zz : Int) a w,x29 = .go zz → S29 zz a w → K28 a w := by
        rintro x_7 a w rfl ⟨p_16,c_11,p_17,c_12,hf,hc⟩
        replace hF := exK_go hF
        refine h28 _ _ ?_
        replace hc := hc.drop k4
        exact hj14 x_5 x_6 p_16 c_11 p_11 tcq_4 _ _  (hf.kp rfl) hc hF
       have ho29 : ∀ r,x29 = .out r → r = st10 := by
        rintro r rfl
        exact sj hF
       refine cLoop N (loopW (S := S29) (x := x29) ?_ N 0 _ _ ⟨p_9,c_5,p_10,c_6,hf.kp rfl,hc⟩ hx29)
       clear hF hf hc
       rintro x_7 st29 a w KB29 ⟨p_16,c_11,p_17,c_12,hf,hc⟩ hF hfin29 hK29
       unfold law11_CrewBest_b29 at hF
       refine wp_seq_k fun K30 h30 => cReg ?_
       refine stP hf rfl rfl rfl (pLt rfl rfl) fun a hf => cNil ?_
       refine h30 _ _ ?_
       refine wp_seq_k fun K31 h31 => cCond (b := (decide (x_7 < ((r_3.1.length : Nat) : Int)))) hf rfl (fun hb => ?_) (fun hb => ?_)
       ·replace hF := condT hb hF
        clear hb
        refine wp_skip ?_
        refine h31 _ _ ?_
        refine wp_seq_k fun K32 h32 => wp_block ?_
        refine wp_seq_k fun K33 h33 => cReg ?_
        refine stP hf rfl rfl rfl (pM rfl) fun a hf => stP hf rfl rfl rfl (pA rfl) fun a hf => cNil ?_
        refine h33 _ _ ?_
        refine wp_seq_k fun K34 h34 => ?_
        obtain ⟨e_1,he_1,hF⟩ := bnd_some hF
        obtain ⟨g,rfl,qa,qr⟩ := row_atm hc m5 he_1
        obtain ⟨e_2,he_2,hF⟩ := bnd_some hF
        obtain ⟨g_1,rfl,qa_1,qr_1⟩ := row_atm hc m4 he_2
        obtain ⟨t_1,ht_1,hF⟩ := bnd_some hF
        refine cQ hc follows_mx (by kernel_rfl) ?_
        refine qE hf rfl rfl rfl (Pu.ev (pM rfl)) fun a hf => qE hf rfl rfl rfl (Pu.ev (pM rfl)) fun a hf => qE hf rfl rfl rfl (Pu.ev (pIA Tryz.underlying25 sz_3 rfl rfl qa)) fun a hf => qE hf rfl rfl rfl (eLd1 sc_3 rfl (cell_row (sz := 1) (i := x_7.toNat) (j := 0) m5 qr rfl)) fun a hf => qE hf rfl rfl rfl (Pu.ev (pEq rfl rfl)) fun a hf => qE hf rfl rfl rfl (Pu.ev (pM rfl)) fun a hf => qE hf rfl rfl rfl (Pu.ev (pM rfl)) fun a hf => qE hf rfl rfl rfl (Pu.ev (pIA Tryz.underlying25 sz_3 rfl rfl qa_1)) fun a hf => qE hf rfl rfl rfl (eLd1 sc_3 rfl (cell_row (sz := 1) (i := x_7.toNat) (j := 0) m4 qr_1 rfl)) fun a hf => qE hf rfl rfl rfl (Pu.ev (pEq rfl rfl)) fun a hf => qE hf rfl rfl rfl (Pu.ev (pNeB Tryz.underlying4 rfl rfl)) fun a hf => qE hf rfl rfl rfl (Pu.ev (pM rfl)) fun a hf => qCut 16 (fun a => Has 138 a [(5,pq b_2),(6,pq b_3),(7,.slice (some ⟨g,0,none⟩) r_3.1.length c_11),(10,.slice (some ⟨g_1,0,none⟩) b_4.length c_12),(36,i6 x),(103,i6 ((r_3.1.length : Nat) : Int)),(104,i6 x_7),(15,i6 x_7),(107,.slice (some ⟨g,0,none⟩) r_3.1.length c_11),(108,i6 x_7),(109,.pointer (some ⟨g,x_7.toNat * 1,none⟩)),(110,i6 e_1),(111,.bool (e_1 == (-1))),(112,.slice (some ⟨g_1,0,none⟩) b_4.length c_12),(113,i6 x_7),(114,.pointer (some ⟨g_1,x_7.toNat * 1,none⟩)),(115,i6 e_2),(116,.bool (e_2 == (-1))),(117,.bool ((e_1 == (-1)) != (e_2 == (-1)))),(118,.bool ((e_1 == (-1)) != (e_2 == (-1)))),(134,.bool t_1)]) ?_ ?_
        ·cases hb : ((e_1 == (-1)) != (e_2 == (-1)))
         ·rw [hb] at hf
          have hF := condF hb ht_1
          obtain ⟨e_3,he_3,hF⟩ := bnd_some hF
          obtain ⟨qa_2,qr_2⟩ := row_atk hc m4 he_3
          obtain ⟨r_10,hr_10,hF⟩ := bnd_some hF
          obtain ⟨e_4,he_4,hF⟩ := bnd_some hF
          obtain ⟨qa_3,qr_3⟩ := row_atk hc m5 he_4
          obtain ⟨r_11,hr_11,hF⟩ := bnd_some hF
          refine qE hf rfl rfl rfl (eLdN (vs := [.slice p_11 r_1.1.People.length tcq_4.1,.slice p_2 r_1.1.Stations.length tcq_1.1]) ag_78 rfl rfl (cells_box (n := 2) m7 rfl)) fun a hf => qE hf rfl rfl rfl (Pu.ev (pM rfl)) fun a hf => qE hf rfl rfl rfl (Pu.ev (pM rfl)) fun a hf => qE hf rfl rfl rfl (Pu.ev (pM rfl)) fun a hf => qE hf rfl rfl rfl (Pu.ev (pIA Tryz.underlying25 sz_3 rfl rfl qa_2)) fun a hf => qE hf rfl rfl rfl (eLd1 sc_3 rfl (cell_row (sz := 1) (i := x_7.toNat) (j := 0) m4 qr_2 rfl)) fun a hf => qE hf rfl rfl rfl (eC (v := i6 r_10) (vs := [.agg #[.slice p_11 r_1.1.People.length tcq_4.1,.slice p_2 r_1.1.Stations.length tcq_1.1],i6 x_7,i6 e_3]) (caps := []) en_48 rfl rfl rfl rfl (fun w hc => by obtain ⟨G1,hle1,hrd1,hc,hth1⟩ := lendT kdo_25 hc k0 k0; obtain ⟨G2,hle2,hrd2,hc,hth2⟩ := lendT kdo_101 hc k0 k0; exact (law11_rank_ok r_1.1 x_7 e_3 (hrd1.mono hle2) hrd2 hc hr_10).mono fun e w h => ⟨h.1,(unpickT (hth1 _ _ (unpickT (hth2 _ _ h.2) k0 k0)) k0 k0)⟩)) fun a hf => qE hf rfl rfl rfl (eLdN (vs := [.slice p_11 r_1.1.People.length tcq_4.1,.slice p_2 r_1.1.Stations.length tcq_1.1]) ag_78 rfl rfl (cells_box (n := 2) m7 rfl)) fun a hf => qE hf rfl rfl rfl (Pu.ev (pM rfl)) fun a hf => qE hf rfl rfl rfl (Pu.ev (pM rfl)) fun a hf => qE hf rfl rfl rfl (Pu.ev (pM rfl)) fun a hf => qE hf rfl rfl rfl (Pu.ev (pIA Tryz.underlying25 sz_3 rfl rfl qa_3)) fun a hf => qE hf rfl rfl rfl (eLd1 sc_3 rfl (cell_row (sz := 1) (i := x_7.toNat) (j := 0) m5 qr_3 rfl)) fun a hf => ?_
          refine qE hf rfl rfl rfl (eC (v := i6 r_11) (vs := [.agg #[.slice p_11 r_1.1.People.length tcq_4.1,.slice p_2 r_1.1.Stations.length tcq_1.1],i6 x_7,i6 e_4]) (caps := []) en_48 rfl rfl rfl rfl (fun w hc => by obtain ⟨G1,hle1,hrd1,hc,hth1⟩ := lendT kdo_25 hc k0 k0; obtain ⟨G2,hle2,hrd2,hc,hth2⟩ := lendT kdo_101 hc k0 k0; exact (law11_rank_ok r_1.1 x_7 e_4 (hrd1.mono hle2) hrd2 hc hr_11).mono fun e w h => ⟨h.1,(unpickT (hth1 _ _ (unpickT (hth2 _ _ h.2) k0 k0)) k0 k0)⟩)) fun a hf => qE hf rfl rfl rfl (Pu.ev (pLt rfl rfl)) fun a hf => qE hf rfl rfl rfl (Pu.ev (pPf rfl rfl)) fun a hf => ?_
          obtain rfl := sj hF
          exact qNil (hf.kp rfl)
         ·rw [hb] at hf
          have hF := condT hb ht_1
          obtain rfl := sj hF
          refine qS hf rfl rfl rfl fun a hf => qS hf rfl rfl rfl fun a hf => qS hf rfl rfl rfl fun a hf => qS hf rfl rfl rfl fun a hf => qS hf rfl rfl rfl fun a hf => qS hf rfl rfl rfl fun a hf => qS hf rfl rfl rfl fun a hf => qS hf rfl rfl rfl fun a hf => qS hf rfl rfl rfl fun a hf => qS hf rfl rfl rfl fun a hf => qS hf rfl rfl rfl fun a hf => qS hf rfl rfl rfl fun a hf => qS hf rfl rfl rfl fun a hf => ?_
          refine qS hf rfl rfl rfl fun a hf => qS hf rfl rfl rfl fun a hf => qE hf rfl rfl rfl (Pu.ev (pPt rfl rfl)) fun a hf => qNil (hf.kp rfl)
        intro a hf
        intro w hc
        refine h34 _ _ ?_
        refine cCond (b := t_1) hf rfl (fun hb => ?_) (fun hb => ?_)
        ·replace hF := condT hb hF
         clear hb
         refine wp_seq_k fun K35 h35 => cReg ?_
         refine stP hf rfl rfl rfl (pA rfl) fun a hf => cNil ?_
         refine h35 _ _ ?_
         refine wp_ret ?_
         refine xBlkR ?_
         refine xThenR ?_
         refine xThenR ?_
         have he := sj hF
         rw [← he] at hfin29
         replace hF := ho29 _ hfin29
         refine xBlkR ?_
         refine xThenR ?_
         refine xBlkR ?_
         refine xThenR ?_
         refine xThenR ?_
         have he := hF
         rw [← he] at hfin10
         replace hF := ho10 _ hfin10
         refine xBlkR ?_
         refine xThenR ?_
         obtain rfl := hF
         replace hc := hc.drop k7
         replace hc := hc.drop k6
         replace hc := hc.drop k5
         replace hc := hc.drop k4
         replace hc := hc.drop k3
         replace hc := hc.drop k2
         replace hc := hc.drop k1
         replace hc := hc.drop k0
         exact fnOut1 (by simp) rfl Tryz.results5 hf hc (show look _ 4 = _ from rfl) ⟨rfl,hc⟩
        ·replace hF := condF hb hF
         clear hb
         refine wp_skip ?_
         refine h32 _ _ ?_
         refine cReg ?_
         refine stP hf rfl rfl rfl (pAdd rfl rfl) fun a hf => stP hf rfl rfl rfl (pM rfl) fun a hf => cNil ?_
         exact hK29 (W (x_7 + 1)) _ _ (sj hF).symm ⟨(some ⟨g,0,none⟩),c_11,(some ⟨g_1,0,none⟩),c_12,hf.kp rfl,hc⟩
       ·replace hF := condF hb hF
        clear hb
        refine wp_exit ?_
        refine xThen ?_
        refine xThen ?_
        have he := sj hF
        rw [← he] at hfin29
        refine cHit ?_
        exact hr29 _ _ _ hfin29 ⟨p_16,c_11,p_17,c_12,hf.kp rfl,hc⟩
   refine wp_seq_k fun K36 h36 => cReg ?_
   refine stP hf rfl rfl rfl (pM rfl) fun a hf => stP hf rfl rfl rfl (pGt rfl rfl) fun a hf => cNil ?_
   refine h36 _ _ ?_
   refine cCond (b := (decide (0 < x))) hf rfl (fun hb => ?_) (fun hb => ?_)
   ·replace hF := condT hb hF
    clear hb
    refine wp_seq_k fun K37 h37 => cReg ?_
    refine stP hf rfl rfl rfl (pM rfl) fun a hf => stP hf rfl rfl rfl (pLenS Tryz.underlying25 rfl) fun a hf => stP hf rfl rfl rfl (pM rfl) fun a hf => cNil ?_
    refine h37 _ _ ?_
    refine wp_block ?_
    obtain ⟨x38,hx38,hF⟩ := bnd_some hF
    let S38 : ((List Int) × Int × Int × Int) → Act → World → Prop := (fun (zz : (List Int) × Int × Int × Int) a w => ∃ (p_18 : Option Addr) (c_13 : Nat) (p_19 : Option Addr) (c_14 : Nat) (p_20 : Option Addr) (tcq_5 : TabH),Has 138 a [(5,pq b_2),(6,pq b_3),(7,.slice p_18 r_3.1.length c_13),(9,i6 x),(10,.slice p_19 zz.1.length c_14),(36,i6 x),(44,i6 ((r_5.length : Nat) : Int)),(45,i6 zz.2.1)] ∧ Ctx G (.row p_20 tcq_5.1 ((tabR tcq_5.2 r_1.1.People).map (Kd.v kd_25)) 25 1::tabI kd_25 (tabR tcq_5.2 r_1.1.People)::.row p_2 tcq_1.1 ((tabR tcq_1.2 r_1.1.Stations).map (Kd.v kd_101)) 101 2::tabI kd_101 (tabR tcq_1.2 r_1.1.Stations)::.row p_19 c_14 (zz.1.map encI_i64) 3 1::.row p_18 c_13 (r_3.1.map encI_i64) 3 1::.box b_3 [.slice tries_p tries.length tries_c,i6 zz.2.2.1,i6 zz.2.2.2] 165::.box b_2 [.slice p_20 r_1.1.People.length tcq_5.1,.slice p_2 r_1.1.Stations.length tcq_1.1] 78::Lf) w)
    have hr38 : ∀ (zz : (List Int) × Int × Int × Int) a w,x38 = .go zz → S38 zz a w → K17 a w := by
     rintro ⟨b_6,x_8,x_9,x_10⟩ a w rfl ⟨p_18,c_13,p_19,c_14,p_20,tcq_5,hf,hc⟩
     replace hF := exK_go hF
     exact hj17 b_6 x_9 x_10 p_18 c_13 p_19 c_14 p_20 tcq_5 _ _  (hf.kp rfl) hc hF
    have ho38 : ∀ r,x38 = .out r → r = st10 := by
     rintro r rfl
     exact sj hF
    refine cLoop N (loopW (S := S38) (x := x38) ?_ N (r_5,0,x_1,x_2) _ _ ⟨p_4,c_2,p_8,c_4,p_5,tcq_2,hf.kp rfl,hc⟩ hx38)
    clear hF hf hc
    rintro ⟨b_6,x_8,x_9,x_10⟩ st38 a w KB38 ⟨p_18,c_13,p_19,c_14,p_20,tcq_5,hf,hc⟩ hF hfin38 hK38
    unfold law11_CrewBest_b38 at hF
    refine wp_seq_k fun K39 h39 => cReg ?_
    refine stP hf rfl rfl rfl (pLt rfl rfl) fun a hf => cNil ?_
    refine h39 _ _ ?_
    refine wp_seq_k fun K40 h40 => cCond (b := (decide (x_8 < ((r_5.length : Nat) : Int)))) hf rfl (fun hb => ?_) (fun hb => ?_)
    ·replace hF := condT hb hF
     clear hb
     refine wp_skip ?_
     refine h40 _ _ ?_
     refine wp_seq_k fun K41 h41 => ?_
     have hj41 : ∀ (b_7 : List Int) (x_11 : Int) (x_12 : Int) (p_21 : Option Addr) (c_15 : Nat) (p_22 : Option Addr) (c_16 : Nat) (p_23 : Option Addr) (tcq_6 : TabH) a w,Has 138 a [(5,pq b_2),(6,pq b_3),(7,.slice p_21 r_3.1.length c_15),(9,i6 x),(10,.slice p_22 b_7.length c_16),(36,i6 x),(44,i6 ((r_5.length : Nat) : Int)),(45,i6 x_8)] → Ctx G (.box b_3 [.slice tries_p tries.length tries_c,i6 x_11,i6 x_12] 165::.row p_23 tcq_6.1 ((tabR tcq_6.2 r_1.1.People).map (Kd.v kd_25)) 25 1::tabI kd_25 (tabR tcq_6.2 r_1.1.People)::.row p_2 tcq_1.1 ((tabR tcq_1.2 r_1.1.Stations).map (Kd.v kd_101)) 101 2::tabI kd_101 (tabR tcq_1.2 r_1.1.Stations)::.row p_22 c_16 (b_7.map encI_i64) 3 1::.row p_21 c_15 (r_3.1.map encI_i64) 3 1::.box b_2 [.slice p_23 r_1.1.People.length tcq_6.1,.slice p_2 r_1.1.Stations.length tcq_1.1] 78::Lf) w → law11_CrewBest_j41 N x_8 b_7 x_11 x_12 = some st38 → K41 a w := by
      repeat (clear hF)
      repeat (clear hc)
      repeat (clear hf)
      intro b_7 x_11 x_12 p_21 c_15 p_22 c_16 p_23 tcq_6 a w hf hc hF
      unfold law11_CrewBest_j41 at hF
      refine h41 _ _ ?_
      refine cReg ?_
      refine stP hf rfl rfl rfl (pAdd rfl rfl) fun a hf => stP hf rfl rfl rfl (pM rfl) fun a hf => cNil ?_
      replace hc := hc.pick k0
      replace hc := hc.pick k6
      replace hc := hc.pick k6
      replace hc := hc.pick k6
      replace hc := hc.pick k6
      replace hc := hc.pick k6
      replace hc := hc.pick k6
      exact hK38 (b_7,W (x_8 + 1),x_11,x_12) _ _ (sj hF).symm ⟨p_21,c_15,p_22,c_16,p_23,tcq_6,hf.kp rfl,hc⟩
     refine wp_block ?_
     refine wp_seq_k fun K42 h42 => cReg ?_
     refine stP hf rfl rfl rfl (pM rfl) fun a hf => stP hf rfl rfl rfl (pA rfl) fun a hf => cNil ?_
     refine h42 _ _ ?_
     refine wp_seq_k fun K43 h43 => cReg ?_
     refine stP hf rfl rfl rfl (pM rfl) fun a hf => ?_
     obtain ⟨r_12,hr_12,hF⟩ := bnd_some hF
     refine stC (vs := [pq b_3,i6 3]) (caps := []) hf rfl rfl rfl en_45 rfl rfl rfl rfl (kit_Stream_Next_ok (⟨tries,x_9,x_10⟩ : kit_Stream) 3 h_tries (hc.pick k6) hr_12) ?_
     rintro _ w ⟨rfl,hc⟩
     refine ⟨_,rfl,fun a hf => ?_⟩
     refine cNil ?_
     refine h43 _ _ ?_
     refine wp_thenK fun K44 h44 => wp_block ?_
     refine wp_seq_k fun K45 h45 => cReg ?_
     refine stP hf rfl rfl rfl (pEq rfl rfl) fun a hf => stP hf rfl rfl rfl (pA rfl) fun a hf => cNil ?_
     refine h45 _ _ ?_
     refine cCond (b := (r_12.1 == 0)) hf rfl (fun hb => ?_) (fun hb => ?_)
     ·replace hF := condT hb hF
      clear hb
      refine cReg ?_
      refine stP hf rfl rfl rfl (pM rfl) fun a hf => stP hf rfl rfl rfl (pM rfl) fun a hf => stP hf rfl rfl rfl (pM rfl) fun a hf => stP hf rfl rfl rfl (pM rfl) fun a hf => ?_
      obtain ⟨e_5,he_5,hF⟩ := bnd_some hF
      obtain ⟨g_2,rfl,qa_4,qr_4⟩ := row_atm hc m6 he_5
      refine stP hf rfl rfl rfl (pIA Tryz.underlying25 sz_3 rfl rfl qa_4) fun a hf => stE hf hc rfl rfl rfl (eLd1 sc_3 rfl (cell_row (sz := 1) (i := x_8.toNat) (j := 0) m6 qr_4 rfl)) fun a w hf hc => ?_
      obtain ⟨e_6,he_6,hF⟩ := bnd_some hF
      obtain ⟨g_3,rfl,qa_5,qr_5⟩ := row_atm hc m5 he_6
      refine stP hf rfl rfl rfl (pIA Tryz.underlying25 sz_3 rfl rfl qa_5) fun a hf => stRw (vs := [i6 e_5]) (o' := 0) (z := e_5) (xs := b_6) hf hc rfl rfl rfl rfl sz_3 rfl (fun x => (one_encI_i64 x).1) (getI_lt he_6) (fun _ _ => rfl) rfl u5 fun w hc => cNil ?_
      refine h44 _ _ ?_
      replace hf := hf.castAt 10 (v' := .slice (some ⟨g_3,0,none⟩) ((b_6.set x_8.toNat e_5).length) c_14) rfl (congrArg (fun k => Value.slice (some ⟨g_3,0,none⟩) k c_14) (by simp))
      exact hj41 (b_6.set x_8.toNat e_5) r_12.2.1 r_12.2.2 (some ⟨g_2,0,none⟩) c_13 (some ⟨g_3,0,none⟩) c_14 p_20 tcq_5 _ _  (hf.kp rfl) hc hF
     ·replace hF := condF hb hF
      clear hb
      refine wp_seq_k fun K46 h46 => cReg ?_
      refine stP hf rfl rfl rfl (pEq rfl rfl) fun a hf => stP hf rfl rfl rfl (pA rfl) fun a hf => cNil ?_
      refine h46 _ _ ?_
      refine cCond (b := (r_12.1 == 1)) hf rfl (fun hb => ?_) (fun hb => ?_)
      ·replace hF := condT hb hF
       clear hb
       refine wp_seq_k fun K47 h47 => cReg ?_
       refine stP hf rfl rfl rfl (pFA fa_78_0 rfl) fun a hf => stE hf hc rfl rfl rfl (eLd1 sc_75 rfl (cell_box m7 rfl)) fun a w hf hc => stP hf rfl rfl rfl (pM rfl) fun a hf => ?_
       obtain ⟨e_7,he_7,hF⟩ := bnd_some hF
       obtain ⟨g_4,rfl,qa_6,qr_6⟩ := row_atm hc m1 (tabR_getI he_7)
       refine stP hf rfl rfl rfl (pIA Tryz.underlying75 sz_25 rfl rfl (At.len qa_6 (by simp only [tabR_len,List.length_set]))) fun a hf => stE hf hc rfl rfl rfl (eLd1 sc_25 rfl (cell_row (sz := 1) (i := x_8.toNat) (j := 0) m1 qr_6 rfl)) fun a w hf hc => stP hf rfl rfl rfl (pA rfl) fun a hf => cNil ?_
       refine h47 _ _ ?_
       refine wp_seq_k fun K48 h48 => cReg ?_
       refine stP hf rfl rfl rfl (pM rfl) fun a hf => stP hf rfl rfl rfl (pLenS Tryz.underlying25 rfl) fun a hf => stP hf rfl rfl rfl (pGt rfl rfl) fun a hf => cNil ?_
       refine h48 _ _ ?_
       refine cCond (b := (decide (0 < ((e_7.length : Nat) : Int)))) hf rfl (fun hb => ?_) (fun hb => ?_)
       ·replace hF := condT hb hF
        clear hb
        refine cReg ?_
        refine stP hf rfl rfl rfl (pM rfl) fun a hf => stP hf rfl rfl rfl (pM rfl) fun a hf => stP hf rfl rfl rfl (pM rfl) fun a hf => stP hf rfl rfl rfl (pM rfl) fun a hf => stP hf rfl rfl rfl (pM rfl) fun a hf => stP hf rfl rfl rfl (pLenS Tryz.underlying25 rfl) fun a hf => ?_
        obtain ⟨r_13,hr_13,hF⟩ := bnd_some hF
        refine stC (vs := [pq b_3,i6 ((e_7.length : Nat) : Int)]) (caps := []) hf rfl rfl rfl en_45 rfl rfl rfl rfl (kit_Stream_Next_ok (⟨tries,r_12.2.1,r_12.2.2⟩ : kit_Stream) ((e_7.length : Nat) : Int) h_tries (hc.pick k0) hr_13) ?_
        rintro _ w ⟨rfl,hc⟩
        refine ⟨_,rfl,fun a hf => ?_⟩
        obtain ⟨e_8,he_8,hF⟩ := bnd_some hF
        obtain ⟨g_5,qg,qa_7,qr_7⟩ := tr_at hc (tabS m2 he_7) he_8
        refine stP hf rfl rfl rfl (pIA Tryz.underlying25 sz_3 rfl rfl qa_7) fun a hf => stE hf hc rfl rfl rfl (eLd1 sc_3 rfl (cell_row (sz := 1) (i := r_13.1.toNat) (j := 0) (trS (tabS m2 he_7) qg) qr_7 rfl)) fun a w hf hc => ?_
        obtain ⟨e_9,he_9,hF⟩ := bnd_some hF
        obtain ⟨g_6,rfl,qa_8,qr_8⟩ := row_atm hc m5 he_9
        refine stP hf rfl rfl rfl (pIA Tryz.underlying25 sz_3 rfl rfl qa_8) fun a hf => stRw (vs := [i6 e_8]) (o' := 0) (z := e_8) (xs := b_6) hf hc rfl rfl rfl rfl sz_3 rfl (fun x => (one_encI_i64 x).1) (getI_lt he_9) (fun _ _ => rfl) rfl u5 fun w hc => cNil ?_
        refine h44 _ _ ?_
        replace hf := hf.castAt 10 (v' := .slice (some ⟨g_6,0,none⟩) ((b_6.set x_8.toNat e_8).length) c_14) rfl (congrArg (fun k => Value.slice (some ⟨g_6,0,none⟩) k c_14) (by simp))
        exact hj41 (b_6.set x_8.toNat e_8) r_13.2.1 r_13.2.2 p_18 c_13 (some ⟨g_6,0,none⟩) c_14 (some ⟨g_4,0,none⟩) tcq_5 _ _  (hf.kp rfl) hc hF
       ·replace hF := condF hb hF
        clear hb
        refine wp_skip ?_
        refine h44 _ _ ?_
        exact hj41 b_6 r_12.2.1 r_12.2.2 p_18 c_13 p_19 c_14 (some ⟨g_4,0,none⟩) tcq_5 _ _  (hf.kp rfl) hc hF
      ·replace hF := condF hb hF
       clear hb
       refine wp_skip ?_
       refine h44 _ _ ?_
       exact hj41 b_6 r_12.2.1 r_12.2.2 p_18 c_13 p_19 c_14 p_20 tcq_5 _ _  (hf.kp rfl) hc hF
    ·replace hF := condF hb hF
     clear hb
     refine wp_exit ?_
     refine xThen ?_
     refine xThen ?_
     have he := sj hF
     rw [← he] at hfin38
     refine cHit ?_
     exact hr38 _ _ _ hfin38 ⟨p_18,c_13,p_19,c_14,p_20,tcq_5,hf.kp rfl,hc⟩
   ·replace hF := condF hb hF
    clear hb
    refine wp_skip ?_
    exact hj17 r_5 x_1 x_2 p_4 c_2 p_8 c_4 p_5 tcq_2 _ _  (hf.kp rfl) hc hF
  ·replace hF := condF hb hF
   clear hb
   refine wp_exit ?_
   refine xThen ?_
   refine xThen ?_
   have he := sj hF
   rw [← he] at hfin10
   refine cHit ?_
   exact hr10 _ _ _ hfin10 ⟨p_4,c_2,p_5,tcq_2,hf.kp rfl,hc⟩

end Go.Nilo
