/-
 What functions of the Go text compute, as plain functions, and that they do, part 5 of 5. Conditions: what each theorem names.
-/
import Derived.Test.YtpfmkhhhamdpeaaGreatSt4
import Derived.Test.YtpfmkhhhamdpeaaGreatProg
set_option linter.unusedVariables false
set_option linter.unusedSimpArgs false
set_option maxRecDepth 100000
set_option maxHeartbeats 4000000
namespace Go.Nilo
open Go.Proofs


def law11_awake (N : Nat)  : Option (Bool) :=
 Option.bind (law11_Two N) fun r =>
 Option.bind (crew_Assign N r) fun r_1 =>
 Option.bind (law11_Two N) fun r_2 =>
 Option.bind (crew_Blocks N r_2 ([0,1] : List Int)) fun r_3 =>
 Option.bind (law11_Two N) fun r_4 =>
 Option.bind (crew_Holds N r_4 ([(⟨0,0⟩ : crew_Refusal)] : List crew_Refusal)) fun r_5 =>
 Option.bind (law11_Trip N 70) fun r_6 =>
 Option.bind (crew_Hours N 0 r_6) fun r_7 =>
 Option.bind (law11_Trip N 70) fun r_8 =>
 Option.bind (crew_Late N 0 r_8) fun r_9 =>
 Option.bind (cond (((((r_1.2 != 0) || (r_3.2 != 0)) || (r_5.2 != 0)) || (r_7.2 != 0)) || (r_9.2.2 != 0)) (some true) (Option.bind (kit_Same_int N r_1.1 ([1,0] : List Int)) fun r_10 =>
 some (!r_10))) fun t_1 =>
 Option.bind (cond ((t_1 || (!(r_3.1.Person == 1 && r_3.1.Station == 0))) || (!r_5.1)) (some true) (Option.bind (kit_Same_api_Span N r_7.1 ([(⟨35,40⟩ : api_Span),(⟨65,75⟩ : api_Span)] : List api_Span)) fun r_11 =>
 some (!r_11))) fun t_2 =>
 cond ((t_2 || (r_9.1 != 1)) || (r_9.2.1 != (-1)))
 (some false)
 (Option.bind (law11_Trip N 80) fun r_12 =>
 Option.bind (crew_Latest N r_12) fun r_13 =>
 Option.bind (law11_Wire N) fun r_14 =>
 Option.bind (crew_Load N r_14 5) fun r_15 =>
 Option.bind (law11_Wire N) fun r_16 =>
 Option.bind (crew_Beyond N r_16) fun r_17 =>
 Option.bind (law11_Wire N) fun r_18 =>
 Option.bind (law11_span N 90 90) fun r_19 =>
 Option.bind (room ((r_18.Rides ++ [(⟨5,5,r_19⟩ : crew_Ride)])).length) fun un =>
 Option.bind (crew_Queue N (⟨r_18.Car,r_18.Wide,r_18.Sag,r_18.Most,(r_18.Rides ++ [(⟨5,5,r_19⟩ : crew_Ride)])⟩ : crew_Cable)) fun r_20 =>
 Option.bind (crew_Paid N (⟨600,480,500⟩ : crew_Pay) ([481] : List Int)) fun r_21 =>
 Option.bind (cond ((((((r_13.2 == 0) && (r_15.2 == 0)) && (r_17.2.2 == 0)) && (r_20.2 == 0)) && (r_21.2 == 0)) && (r_13.1 == 5)) (law11_span N 290 320) (some (⟨0,0⟩ : api_Span))) fun r_22 =>
 Option.bind (cond (((((((((r_13.2 == 0) && (r_15.2 == 0)) && (r_17.2.2 == 0)) && (r_20.2 == 0)) && (r_21.2 == 0)) && (r_13.1 == 5)) && (r_15.1.Lo == r_22.Lo && r_15.1.Hi == r_22.Hi)) && (r_17.1 == 5)) && (r_17.2.1 == (-1))) (kit_Same_int N r_20.1 ([0,10,15] : List Int)) (some false)) fun r_23 =>
 some (((((((((((r_13.2 == 0) && (r_15.2 == 0)) && (r_17.2.2 == 0)) && (r_20.2 == 0)) && (r_21.2 == 0)) && (r_13.1 == 5)) && (r_15.1.Lo == r_22.Lo && r_15.1.Hi == r_22.Hi)) && (r_17.1 == 5)) && (r_17.2.1 == (-1))) && r_23) && (r_21.1 == 4815)))
theorem law11_awake_ok {N : Nat} {G : Pers} {Lf : List Ent} {w : World}    (hc : Ctx G (Lf) w) {res : Bool} (hF : law11_awake N = some res) : Calls Tryz.prog 15 #[] w (fun e w => e = .returned (.bool res) ∧ Ctx G (Lf) w) := by
 unfold law11_awake at hF
 refine fnIn (args := []) Tryz.func15 rfl Tryz.ntmps15 rfl fun a hf => wp_seq_k fun K1 h1 => cReg ?_
 refine stP hf rfl rfl rfl (pA rfl) fun a hf => cNil ?_
 refine h1 _ _ ?_
 refine wp_seq_k fun K2 h2 => cReg ?_
 obtain ⟨r,hr,hF⟩ := bnd_some hF
 refine stC (vs := []) (caps := []) hf rfl rfl rfl en_67 rfl rfl rfl rfl (law11_Two_ok hc hr) ?_
 rintro _ w ⟨p_1,tcq,p_2,tcq_1,rfl,hc⟩
 refine ⟨_,rfl,fun a hf => ?_⟩
 obtain ⟨r_1,hr_1,hF⟩ := bnd_some hF
 obtain ⟨G1,hle1,hrd1,hc,hth1⟩ := lendT kdo_25 hc k0 k0
 obtain ⟨G2,hle2,hrd2,hc,hth2⟩ := lendT kdo_101 hc k0 k0
 refine stC (vs := [.agg #[.slice p_1 r.People.length tcq.1,.slice p_2 r.Stations.length tcq_1.1]]) (caps := []) hf rfl rfl rfl en_43 rfl rfl rfl rfl (crew_Assign_ok r (hrd1.mono hle2) hrd2 hc hr_1) ?_
 rintro _ w ⟨p_3,c_1,rfl,hc⟩
 refine ⟨_,rfl,fun a hf => ?_⟩
 replace hc := hth2 _ _ hc
 replace hc := hth1 _ _ hc
 refine stP hf rfl rfl rfl (pM rfl) fun a hf => stP hf rfl rfl rfl (pX rfl rfl) fun a hf => stP hf rfl rfl rfl (pX rfl rfl) fun a hf => stP hf rfl rfl rfl (pA rfl) fun a hf => stP hf rfl rfl rfl (pA rfl) fun a hf => cNil ?_
 refine h2 _ _ ?_
 refine wp_seq_k fun K3 h3 => cReg ?_
 obtain ⟨r_2,hr_2,hF⟩ := bnd_some hF
 refine stC (vs := []) (caps := []) hf rfl rfl rfl en_67 rfl rfl rfl rfl (law11_Two_ok hc hr_2) ?_
 rintro _ w ⟨p_4,tcq_2,p_5,tcq_3,rfl,hc⟩
 refine ⟨_,rfl,fun a hf => ?_⟩
 refine stBS (rows := ([0,1] : List Int).map encI_i64) (vs := [(0,i6 0),(1,i6 1)]) hf hc rfl rfl sl_25 rfl ⟨rfl,rfl,rfl,rfl,rfl,rfl,trivial⟩ rfl rfl fun b_1 a w hf hc => ?_
 obtain ⟨r_3,hr_3,hF⟩ := bnd_some hF
 refine stE hf hc rfl rfl rfl (eC (v := .tuple #[.agg #[i6 r_3.1.Person,i6 r_3.1.Station],i6 r_3.2]) (vs := [.agg #[.slice p_4 r_2.People.length tcq_2.1,.slice p_5 r_2.Stations.length tcq_3.1],.slice (some ⟨b_1,0,none⟩) 2 2]) (caps := []) en_46 rfl rfl rfl rfl (fun w hc => by obtain ⟨G1,hle1,hrd1,hc,hth1⟩ := lendT kdo_25 hc k1 k1; obtain ⟨G2,hle2,hrd2,hc,hth2⟩ := lendT kdo_101 hc k1 k1; obtain ⟨G3,hle3,hrd3,hc,hth3⟩ := lend hc k0; exact (crew_Blocks_ok r_2 ([0,1] : List Int) ((hrd1.mono hle2).mono hle3) (hrd2.mono hle3) hrd3 hc hr_3).mono fun e w h => ⟨h.1,(unpickT (hth1 _ _ (unpickT (hth2 _ _ ((hth3 _ _ h.2).unpick k0)) k1 k1)) k1 k1)⟩)) fun a w hf hc => stP hf rfl rfl rfl (pM rfl) fun a hf => stP hf rfl rfl rfl (pX rfl rfl) fun a hf => stP hf rfl rfl rfl (pX rfl rfl) fun a hf => stAl (cs := [i6 0,i6 0]) hf hc rfl rfl zr_86 rfl fun b_2 a w hf hc => stSt (vs := [i6 r_3.1.Person,i6 r_3.1.Station]) hf hc rfl rfl rfl rfl sz_86 rfl rfl u0 fun w hc => stP hf rfl rfl rfl (pA rfl) fun a hf => cNil ?_
 replace hc := hc.drop k9
 replace hc := hc.drop k8
 replace hc := hc.drop k7
 replace hc := hc.drop k6
 replace hc := hc.drop k5
 replace hc := hc.drop k4
 replace hc := hc.drop k3
 replace hc := hc.drop k2
 replace hc := hc.drop k1
 refine h3 _ _ ?_
 refine wp_seq_k fun K4 h4 => cReg ?_
 obtain ⟨r_4,hr_4,hF⟩ := bnd_some hF
 refine stC (vs := []) (caps := []) hf rfl rfl rfl en_67 rfl rfl rfl rfl (law11_Two_ok hc hr_4) ?_
 rintro _ w ⟨p_6,tcq_4,p_7,tcq_5,rfl,hc⟩
 refine ⟨_,rfl,fun a hf => ?_⟩
 refine stP hf rfl rfl rfl (pBuildS (cells := [i6 0,i6 0]) bt_86 rfl rfl) fun a hf => stBS (rows := ([(⟨0,0⟩ : crew_Refusal)] : List crew_Refusal).map enc_crew_Refusal) (vs := [(0,.agg #[i6 0,i6 0])]) hf hc rfl rfl sl_99 rfl ⟨rfl,rfl,rfl,trivial⟩ rfl rfl fun b_3 a w hf hc => ?_
 obtain ⟨r_5,hr_5,hF⟩ := bnd_some hF
 refine stE hf hc rfl rfl rfl (eC (v := .tuple #[.bool r_5.1,i6 r_5.2]) (vs := [.agg #[.slice p_6 r_4.People.length tcq_4.1,.slice p_7 r_4.Stations.length tcq_5.1],.slice (some ⟨b_3,0,none⟩) 1 1]) (caps := []) en_59 rfl rfl rfl rfl (fun w hc => by obtain ⟨G1,hle1,hrd1,hc,hth1⟩ := lendT kdo_25 hc k1 k1; obtain ⟨G2,hle2,hrd2,hc,hth2⟩ := lendT kdo_101 hc k1 k1; obtain ⟨G3,hle3,hrd3,hc,hth3⟩ := lend hc k0; exact (crew_Holds_ok r_4 ([(⟨0,0⟩ : crew_Refusal)] : List crew_Refusal) ((hrd1.mono hle2).mono hle3) (hrd2.mono hle3) hrd3 hc hr_5).mono fun e w h => ⟨h.1,(unpickT (hth1 _ _ (unpickT (hth2 _ _ ((hth3 _ _ h.2).unpick k0)) k1 k1)) k1 k1)⟩)) fun a w hf hc => stP hf rfl rfl rfl (pM rfl) fun a hf => stP hf rfl rfl rfl (pX rfl rfl) fun a hf => stP hf rfl rfl rfl (pX rfl rfl) fun a hf => stP hf rfl rfl rfl (pA rfl) fun a hf => stP hf rfl rfl rfl (pA rfl) fun a hf => cNil ?_
 refine h4 _ _ ?_
 refine wp_seq_k fun K5 h5 => cReg ?_
 obtain ⟨r_6,hr_6,hF⟩ := bnd_some hF
 refine stC (vs := [i6 70]) (caps := []) hf rfl rfl rfl en_68 rfl rfl rfl rfl (law11_Trip_ok 70 hc hr_6) ?_
 rintro _ w ⟨p_8,c_2,rfl,hc⟩
 refine ⟨_,rfl,fun a hf => ?_⟩
 obtain ⟨r_7,hr_7,hF⟩ := bnd_some hF
 obtain ⟨G1,hle1,hrd1,hc,hth1⟩ := lend hc k0
 refine stC (vs := [i6 0,.slice p_8 r_6.length c_2]) (caps := []) hf rfl rfl rfl en_18 rfl rfl rfl rfl (crew_Hours_ok 0 r_6 hrd1 hc hr_7) ?_
 rintro _ w ⟨p_9,c_3,rfl,hc⟩
 refine ⟨_,rfl,fun a hf => ?_⟩
 replace hc := hth1 _ _ hc
 refine stP hf rfl rfl rfl (pM rfl) fun a hf => stP hf rfl rfl rfl (pX rfl rfl) fun a hf => stP hf rfl rfl rfl (pX rfl rfl) fun a hf => stP hf rfl rfl rfl (pA rfl) fun a hf => stP hf rfl rfl rfl (pA rfl) fun a hf => cNil ?_
 replace hc := hc.drop k6
 replace hc := hc.drop k5
 replace hc := hc.drop k4
 replace hc := hc.drop k3
 replace hc := hc.drop k2
 replace hc := hc.drop k0
 refine h5 _ _ ?_
 refine wp_seq_k fun K6 h6 => cReg ?_
 obtain ⟨r_8,hr_8,hF⟩ := bnd_some hF
 refine stC (vs := [i6 70]) (caps := []) hf rfl rfl rfl en_68 rfl rfl rfl rfl (law11_Trip_ok 70 hc hr_8) ?_
 rintro _ w ⟨p_10,c_4,rfl,hc⟩
 refine ⟨_,rfl,fun a hf => ?_⟩
 obtain ⟨r_9,hr_9,hF⟩ := bnd_some hF
 refine stE hf hc rfl rfl rfl (eC (v := .tuple #[i6 r_9.1,i6 r_9.2.1,i6 r_9.2.2]) (vs := [i6 0,.slice p_10 r_8.length c_4]) (caps := []) en_22 rfl rfl rfl rfl (fun w hc => by obtain ⟨G1,hle1,hrd1,hc,hth1⟩ := lend hc k0; exact (crew_Late_ok 0 r_8 hrd1 hc hr_9).mono fun e w h => ⟨h.1,((hth1 _ _ h.2).unpick k0)⟩)) fun a w hf hc => stP hf rfl rfl rfl (pM rfl) fun a hf => stP hf rfl rfl rfl (pX rfl rfl) fun a hf => stP hf rfl rfl rfl (pX rfl rfl) fun a hf => stP hf rfl rfl rfl (pX rfl rfl) fun a hf => stP hf rfl rfl rfl (pA rfl) fun a hf => stP hf rfl rfl rfl (pA rfl) fun a hf => stP hf rfl rfl rfl (pA rfl) fun a hf => cNil ?_
 refine h6 _ _ ?_
 refine wp_seq_k fun K7 h7 => wp_seq_k fun K8 h8 => cReg ?_
 refine stP hf rfl rfl rfl (pM rfl) fun a hf => stP hf rfl rfl rfl (pNe rfl rfl) fun a hf => stP hf rfl rfl rfl (pM rfl) fun a hf => stCut 3 (fun a w => Has 174 a [(1,.slice p_3 r_1.1.length c_1),(2,i6 r_1.2),(3,pq b_2),(4,i6 r_3.2),(5,.bool r_5.1),(6,i6 r_5.2),(7,.slice p_9 r_7.1.length c_3),(8,i6 r_7.2),(9,i6 r_9.1),(10,i6 r_9.2.1),(11,i6 r_9.2.2),(46,i6 r_1.2),(47,.bool (r_1.2 != 0)),(48,.bool (r_1.2 != 0)),(51,.bool ((r_1.2 != 0) || (r_3.2 != 0)))] ∧ Ctx G (.row p_10 c_4 (r_8.map enc_crew_Visit) 31 6::.row p_9 c_3 (r_7.1.map enc_api_Span) 29 2::.box b_2 [i6 r_3.1.Person,i6 r_3.1.Station] 86::.row p_3 c_1 (r_1.1.map encI_i64) 3 1::Lf) w) ?_ ?_
 ·cases hb : (r_1.2 != 0)
  ·rw [hb] at hf
   refine stP hf rfl rfl rfl (pM rfl) fun a hf => stP hf rfl rfl rfl (pNe rfl rfl) fun a hf => stP hf rfl rfl rfl (pPf rfl rfl) fun a hf => cNil ⟨hf.kp rfl,hc⟩
  ·rw [hb] at hf
   refine stS hf rfl rfl rfl fun a hf => stS hf rfl rfl rfl fun a hf => stP hf rfl rfl rfl (pPt rfl rfl) fun a hf => cNil ⟨hf.kp rfl,hc⟩
 intro a w ⟨hf,hc⟩
 refine stP hf rfl rfl rfl (pM rfl) fun a hf => stCut 3 (fun a w => Has 174 a [(1,.slice p_3 r_1.1.length c_1),(2,i6 r_1.2),(3,pq b_2),(4,i6 r_3.2),(5,.bool r_5.1),(6,i6 r_5.2),(7,.slice p_9 r_7.1.length c_3),(8,i6 r_7.2),(9,i6 r_9.1),(10,i6 r_9.2.1),(11,i6 r_9.2.2),(46,i6 r_1.2),(47,.bool (r_1.2 != 0)),(48,.bool (r_1.2 != 0)),(51,.bool ((r_1.2 != 0) || (r_3.2 != 0))),(52,.bool ((r_1.2 != 0) || (r_3.2 != 0))),(55,.bool (((r_1.2 != 0) || (r_3.2 != 0)) || (r_5.2 != 0)))] ∧ Ctx G (.row p_10 c_4 (r_8.map enc_crew_Visit) 31 6::.row p_9 c_3 (r_7.1.map enc_api_Span) 29 2::.box b_2 [i6 r_3.1.Person,i6 r_3.1.Station] 86::.row p_3 c_1 (r_1.1.map encI_i64) 3 1::Lf) w) ?_ ?_
 ·cases hb : ((r_1.2 != 0) || (r_3.2 != 0))
  ·rw [hb] at hf
   refine stP hf rfl rfl rfl (pM rfl) fun a hf => stP hf rfl rfl rfl (pNe rfl rfl) fun a hf => stP hf rfl rfl rfl (pPf rfl rfl) fun a hf => cNil ⟨hf.kp rfl,hc⟩
  ·rw [hb] at hf
   refine stS hf rfl rfl rfl fun a hf => stS hf rfl rfl rfl fun a hf => stP hf rfl rfl rfl (pPt rfl rfl) fun a hf => cNil ⟨hf.kp rfl,hc⟩
 intro a w ⟨hf,hc⟩
 refine stP hf rfl rfl rfl (pM rfl) fun a hf => stCut 3 (fun a w => Has 174 a [(1,.slice p_3 r_1.1.length c_1),(2,i6 r_1.2),(3,pq b_2),(4,i6 r_3.2),(5,.bool r_5.1),(6,i6 r_5.2),(7,.slice p_9 r_7.1.length c_3),(8,i6 r_7.2),(9,i6 r_9.1),(10,i6 r_9.2.1),(11,i6 r_9.2.2),(46,i6 r_1.2),(47,.bool (r_1.2 != 0)),(48,.bool (r_1.2 != 0)),(51,.bool ((r_1.2 != 0) || (r_3.2 != 0))),(52,.bool ((r_1.2 != 0) || (r_3.2 != 0))),(55,.bool (((r_1.2 != 0) || (r_3.2 != 0)) || (r_5.2 != 0))),(56,.bool (((r_1.2 != 0) || (r_3.2 != 0)) || (r_5.2 != 0))),(59,.bool ((((r_1.2 != 0) || (r_3.2 != 0)) || (r_5.2 != 0)) || (r_7.2 != 0)))] ∧ Ctx G (.row p_10 c_4 (r_8.map enc_crew_Visit) 31 6::.row p_9 c_3 (r_7.1.map enc_api_Span) 29 2::.box b_2 [i6 r_3.1.Person,i6 r_3.1.Station] 86::.row p_3 c_1 (r_1.1.map encI_i64) 3 1::Lf) w) ?_ ?_
 ·cases hb : (((r_1.2 != 0) || (r_3.2 != 0)) || (r_5.2 != 0))
  ·rw [hb] at hf
   refine stP hf rfl rfl rfl (pM rfl) fun a hf => stP hf rfl rfl rfl (pNe rfl rfl) fun a hf => stP hf rfl rfl rfl (pPf rfl rfl) fun a hf => cNil ⟨hf.kp rfl,hc⟩
  ·rw [hb] at hf
   refine stS hf rfl rfl rfl fun a hf => stS hf rfl rfl rfl fun a hf => stP hf rfl rfl rfl (pPt rfl rfl) fun a hf => cNil ⟨hf.kp rfl,hc⟩
 intro a w ⟨hf,hc⟩
 refine stP hf rfl rfl rfl (pM rfl) fun a hf => stCut 3 (fun a w => Has 174 a [(1,.slice p_3 r_1.1.length c_1),(2,i6 r_1.2),(3,pq b_2),(4,i6 r_3.2),(5,.bool r_5.1),(6,i6 r_5.2),(7,.slice p_9 r_7.1.length c_3),(8,i6 r_7.2),(9,i6 r_9.1),(10,i6 r_9.2.1),(11,i6 r_9.2.2),(46,i6 r_1.2),(47,.bool (r_1.2 != 0)),(48,.bool (r_1.2 != 0)),(51,.bool ((r_1.2 != 0) || (r_3.2 != 0))),(52,.bool ((r_1.2 != 0) || (r_3.2 != 0))),(55,.bool (((r_1.2 != 0) || (r_3.2 != 0)) || (r_5.2 != 0))),(56,.bool (((r_1.2 != 0) || (r_3.2 != 0)) || (r_5.2 != 0))),(59,.bool ((((r_1.2 != 0) || (r_3.2 != 0)) || (r_5.2 != 0)) || (r_7.2 != 0))),(60,.bool ((((r_1.2 != 0) || (r_3.2 != 0)) || (r_5.2 != 0)) || (r_7.2 != 0))),(63,.bool (((((r_1.2 != 0) || (r_3.2 != 0)) || (r_5.2 != 0)) || (r_7.2 != 0)) || (r_9.2.2 != 0)))] ∧ Ctx G (.row p_10 c_4 (r_8.map enc_crew_Visit) 31 6::.row p_9 c_3 (r_7.1.map enc_api_Span) 29 2::.box b_2 [i6 r_3.1.Person,i6 r_3.1.Station] 86::.row p_3 c_1 (r_1.1.map encI_i64) 3 1::Lf) w) ?_ ?_
 ·cases hb : ((((r_1.2 != 0) || (r_3.2 != 0)) || (r_5.2 != 0)) || (r_7.2 != 0))
  ·rw [hb] at hf
   refine stP hf rfl rfl rfl (pM rfl) fun a hf => stP hf rfl rfl rfl (pNe rfl rfl) fun a hf => stP hf rfl rfl rfl (pPf rfl rfl) fun a hf => cNil ⟨hf.kp rfl,hc⟩
  ·rw [hb] at hf
   refine stS hf rfl rfl rfl fun a hf => stS hf rfl rfl rfl fun a hf => stP hf rfl rfl rfl (pPt rfl rfl) fun a hf => cNil ⟨hf.kp rfl,hc⟩
 intro a w ⟨hf,hc⟩
 refine stP hf rfl rfl rfl (pM rfl) fun a hf => ?_
 obtain ⟨t_1,ht_1,hF⟩ := bnd_some hF
 refine stCut 5 (fun a w => Has 174 a [(1,.slice p_3 r_1.1.length c_1),(2,i6 r_1.2),(3,pq b_2),(4,i6 r_3.2),(5,.bool r_5.1),(6,i6 r_5.2),(7,.slice p_9 r_7.1.length c_3),(8,i6 r_7.2),(9,i6 r_9.1),(10,i6 r_9.2.1),(11,i6 r_9.2.2),(46,i6 r_1.2),(47,.bool (r_1.2 != 0)),(48,.bool (r_1.2 != 0)),(51,.bool ((r_1.2 != 0) || (r_3.2 != 0))),(52,.bool ((r_1.2 != 0) || (r_3.2 != 0))),(55,.bool (((r_1.2 != 0) || (r_3.2 != 0)) || (r_5.2 != 0))),(56,.bool (((r_1.2 != 0) || (r_3.2 != 0)) || (r_5.2 != 0))),(59,.bool ((((r_1.2 != 0) || (r_3.2 != 0)) || (r_5.2 != 0)) || (r_7.2 != 0))),(60,.bool ((((r_1.2 != 0) || (r_3.2 != 0)) || (r_5.2 != 0)) || (r_7.2 != 0))),(63,.bool (((((r_1.2 != 0) || (r_3.2 != 0)) || (r_5.2 != 0)) || (r_7.2 != 0)) || (r_9.2.2 != 0))),(64,.bool (((((r_1.2 != 0) || (r_3.2 != 0)) || (r_5.2 != 0)) || (r_7.2 != 0)) || (r_9.2.2 != 0))),(69,.bool t_1)] ∧ Ctx G (.row p_10 c_4 (r_8.map enc_crew_Visit) 31 6::.row p_9 c_3 (r_7.1.map enc_api_Span) 29 2::.box b_2 [i6 r_3.1.Person,i6 r_3.1.Station] 86::.row p_3 c_1 (r_1.1.map encI_i64) 3 1::Lf) w) ?_ ?_
 ·cases hb : (((((r_1.2 != 0) || (r_3.2 != 0)) || (r_5.2 != 0)) || (r_7.2 != 0)) || (r_9.2.2 != 0))
  ·rw [hb] at hf
   have hF := condF hb ht_1
   refine stP hf rfl rfl rfl (pM rfl) fun a hf => stBS (rows := ([1,0] : List Int).map encI_i64) (vs := [(0,i6 1),(1,i6 0)]) hf hc rfl rfl sl_25 rfl ⟨rfl,rfl,rfl,rfl,rfl,rfl,trivial⟩ rfl rfl fun b_4 a w hf hc => ?_
   obtain ⟨r_10,hr_10,hF⟩ := bnd_some hF
   refine stE hf hc rfl rfl rfl (eC (v := .bool r_10) (vs := [.slice p_3 r_1.1.length c_1,.slice (some ⟨b_4,0,none⟩) 2 2]) (caps := []) en_29 rfl rfl rfl rfl (fun w hc => by obtain ⟨G1,hle1,hrd1,hc,hth1⟩ := lend hc k4; obtain ⟨G2,hle2,hrd2,hc,hth2⟩ := lend hc k0; exact (kit_Same_int_ok r_1.1 ([1,0] : List Int) (hrd1.mono hle2) hrd2 hc hr_10).mono fun e w h => ⟨h.1,((hth1 _ _ ((hth2 _ _ h.2).unpick k0)).unpick k4)⟩)) fun a w hf hc => stP hf rfl rfl rfl (pNot rfl) fun a hf => stP hf rfl rfl rfl (pPf rfl rfl) fun a hf => ?_
   replace hc := hc.drop k0
   obtain rfl := sj hF
   exact cNil ⟨hf.kp rfl,hc⟩
  ·rw [hb] at hf
   have hF := condT hb ht_1
   obtain rfl := sj hF
   refine stS hf rfl rfl rfl fun a hf => stS hf rfl rfl rfl fun a hf => stS hf rfl rfl rfl fun a hf => stS hf rfl rfl rfl fun a hf => stP hf rfl rfl rfl (pPt rfl rfl) fun a hf => cNil ⟨hf.kp rfl,hc⟩
 intro a w ⟨hf,hc⟩
 refine stP hf rfl rfl rfl (pM rfl) fun a hf => stCut 4 (fun a w => Has 174 a [(1,.slice p_3 r_1.1.length c_1),(2,i6 r_1.2),(3,pq b_2),(4,i6 r_3.2),(5,.bool r_5.1),(6,i6 r_5.2),(7,.slice p_9 r_7.1.length c_3),(8,i6 r_7.2),(9,i6 r_9.1),(10,i6 r_9.2.1),(11,i6 r_9.2.2),(46,i6 r_1.2),(47,.bool (r_1.2 != 0)),(48,.bool (r_1.2 != 0)),(51,.bool ((r_1.2 != 0) || (r_3.2 != 0))),(52,.bool ((r_1.2 != 0) || (r_3.2 != 0))),(55,.bool (((r_1.2 != 0) || (r_3.2 != 0)) || (r_5.2 != 0))),(56,.bool (((r_1.2 != 0) || (r_3.2 != 0)) || (r_5.2 != 0))),(59,.bool ((((r_1.2 != 0) || (r_3.2 != 0)) || (r_5.2 != 0)) || (r_7.2 != 0))),(60,.bool ((((r_1.2 != 0) || (r_3.2 != 0)) || (r_5.2 != 0)) || (r_7.2 != 0))),(63,.bool (((((r_1.2 != 0) || (r_3.2 != 0)) || (r_5.2 != 0)) || (r_7.2 != 0)) || (r_9.2.2 != 0))),(64,.bool (((((r_1.2 != 0) || (r_3.2 != 0)) || (r_5.2 != 0)) || (r_7.2 != 0)) || (r_9.2.2 != 0))),(69,.bool t_1),(70,.bool t_1),(74,.bool (t_1 || (!(r_3.1.Person == 1 && r_3.1.Station == 0))))] ∧ Ctx G (.row p_10 c_4 (r_8.map enc_crew_Visit) 31 6::.row p_9 c_3 (r_7.1.map enc_api_Span) 29 2::.box b_2 [i6 r_3.1.Person,i6 r_3.1.Station] 86::.row p_3 c_1 (r_1.1.map encI_i64) 3 1::Lf) w) ?_ ?_
 ·cases hb : t_1
  ·rw [hb] at hf
   try rw [hb] at hc
   refine stE hf hc rfl rfl rfl (eLdN (vs := [i6 r_3.1.Person,i6 r_3.1.Station]) ag_86 rfl rfl (cells_box (n := 2) m2 rfl)) fun a w hf hc => stP hf rfl rfl rfl (pBuildS (cells := [i6 1,i6 0]) bt_86 rfl rfl) fun a hf => stP hf rfl rfl rfl (pNeA ge_86 rfl rfl (eqs_86 _ _ _ _)) fun a hf => stP hf rfl rfl rfl (pPf rfl rfl) fun a hf => cNil ⟨hf.kp rfl,hc⟩
  ·rw [hb] at hf
   try rw [hb] at hc
   refine stS hf rfl rfl rfl fun a hf => stS hf rfl rfl rfl fun a hf => stS hf rfl rfl rfl fun a hf => stP hf rfl rfl rfl (pPt rfl rfl) fun a hf => cNil ⟨hf.kp rfl,hc⟩
 intro a w ⟨hf,hc⟩
 refine stP hf rfl rfl rfl (pM rfl) fun a hf => stCut 3 (fun a w => Has 174 a [(1,.slice p_3 r_1.1.length c_1),(2,i6 r_1.2),(3,pq b_2),(4,i6 r_3.2),(5,.bool r_5.1),(6,i6 r_5.2),(7,.slice p_9 r_7.1.length c_3),(8,i6 r_7.2),(9,i6 r_9.1),(10,i6 r_9.2.1),(11,i6 r_9.2.2),(46,i6 r_1.2),(47,.bool (r_1.2 != 0)),(48,.bool (r_1.2 != 0)),(51,.bool ((r_1.2 != 0) || (r_3.2 != 0))),(52,.bool ((r_1.2 != 0) || (r_3.2 != 0))),(55,.bool (((r_1.2 != 0) || (r_3.2 != 0)) || (r_5.2 != 0))),(56,.bool (((r_1.2 != 0) || (r_3.2 != 0)) || (r_5.2 != 0))),(59,.bool ((((r_1.2 != 0) || (r_3.2 != 0)) || (r_5.2 != 0)) || (r_7.2 != 0))),(60,.bool ((((r_1.2 != 0) || (r_3.2 != 0)) || (r_5.2 != 0)) || (r_7.2 != 0))),(63,.bool (((((r_1.2 != 0) || (r_3.2 != 0)) || (r_5.2 != 0)) || (r_7.2 != 0)) || (r_9.2.2 != 0))),(64,.bool (((((r_1.2 != 0) || (r_3.2 != 0)) || (r_5.2 != 0)) || (r_7.2 != 0)) || (r_9.2.2 != 0))),(69,.bool t_1),(70,.bool t_1),(74,.bool (t_1 || (!(r_3.1.Person == 1 && r_3.1.Station == 0)))),(75,.bool (t_1 || (!(r_3.1.Person == 1 && r_3.1.Station == 0)))),(78,.bool ((t_1 || (!(r_3.1.Person == 1 && r_3.1.Station == 0))) || (!r_5.1)))] ∧ Ctx G (.row p_10 c_4 (r_8.map enc_crew_Visit) 31 6::.row p_9 c_3 (r_7.1.map enc_api_Span) 29 2::.box b_2 [i6 r_3.1.Person,i6 r_3.1.Station] 86::.row p_3 c_1 (r_1.1.map encI_i64) 3 1::Lf) w) ?_ ?_
 ·cases hb : (t_1 || (!(r_3.1.Person == 1 && r_3.1.Station == 0)))
  ·rw [hb] at hf
   refine stP hf rfl rfl rfl (pM rfl) fun a hf => stP hf rfl rfl rfl (pNot rfl) fun a hf => stP hf rfl rfl rfl (pPf rfl rfl) fun a hf => cNil ⟨hf.kp rfl,hc⟩
  ·rw [hb] at hf
   refine stS hf rfl rfl rfl fun a hf => stS hf rfl rfl rfl fun a hf => stP hf rfl rfl rfl (pPt rfl rfl) fun a hf => cNil ⟨hf.kp rfl,hc⟩
 intro a w ⟨hf,hc⟩
 refine stP hf rfl rfl rfl (pM rfl) fun a hf => ?_
 obtain ⟨t_2,ht_2,hF⟩ := bnd_some hF
 refine stCut 7 (fun a w => Has 174 a [(1,.slice p_3 r_1.1.length c_1),(2,i6 r_1.2),(3,pq b_2),(4,i6 r_3.2),(5,.bool r_5.1),(6,i6 r_5.2),(7,.slice p_9 r_7.1.length c_3),(8,i6 r_7.2),(9,i6 r_9.1),(10,i6 r_9.2.1),(11,i6 r_9.2.2),(46,i6 r_1.2),(47,.bool (r_1.2 != 0)),(48,.bool (r_1.2 != 0)),(51,.bool ((r_1.2 != 0) || (r_3.2 != 0))),(52,.bool ((r_1.2 != 0) || (r_3.2 != 0))),(55,.bool (((r_1.2 != 0) || (r_3.2 != 0)) || (r_5.2 != 0))),(56,.bool (((r_1.2 != 0) || (r_3.2 != 0)) || (r_5.2 != 0))),(59,.bool ((((r_1.2 != 0) || (r_3.2 != 0)) || (r_5.2 != 0)) || (r_7.2 != 0))),(60,.bool ((((r_1.2 != 0) || (r_3.2 != 0)) || (r_5.2 != 0)) || (r_7.2 != 0))),(63,.bool (((((r_1.2 != 0) || (r_3.2 != 0)) || (r_5.2 != 0)) || (r_7.2 != 0)) || (r_9.2.2 != 0))),(64,.bool (((((r_1.2 != 0) || (r_3.2 != 0)) || (r_5.2 != 0)) || (r_7.2 != 0)) || (r_9.2.2 != 0))),(69,.bool t_1),(70,.bool t_1),(74,.bool (t_1 || (!(r_3.1.Person == 1 && r_3.1.Station == 0)))),(75,.bool (t_1 || (!(r_3.1.Person == 1 && r_3.1.Station == 0)))),(78,.bool ((t_1 || (!(r_3.1.Person == 1 && r_3.1.Station == 0))) || (!r_5.1))),(79,.bool ((t_1 || (!(r_3.1.Person == 1 && r_3.1.Station == 0))) || (!r_5.1))),(86,.bool t_2)] ∧ Ctx G (.row p_10 c_4 (r_8.map enc_crew_Visit) 31 6::.row p_9 c_3 (r_7.1.map enc_api_Span) 29 2::.box b_2 [i6 r_3.1.Person,i6 r_3.1.Station] 86::.row p_3 c_1 (r_1.1.map encI_i64) 3 1::Lf) w) ?_ ?_
 ·cases hb : ((t_1 || (!(r_3.1.Person == 1 && r_3.1.Station == 0))) || (!r_5.1))
  ·rw [hb] at hf
   have hF := condF hb ht_2
   refine stP hf rfl rfl rfl (pM rfl) fun a hf => stP hf rfl rfl rfl (pBuildS (cells := [i6 35,i6 40]) bt_29 rfl rfl) fun a hf => stP hf rfl rfl rfl (pBuildS (cells := [i6 65,i6 75]) bt_29 rfl rfl) fun a hf => stBS (rows := ([(⟨35,40⟩ : api_Span),(⟨65,75⟩ : api_Span)] : List api_Span).map enc_api_Span) (vs := [(0,.agg #[i6 35,i6 40]),(1,.agg #[i6 65,i6 75])]) hf hc rfl rfl sl_33 rfl ⟨rfl,rfl,rfl,rfl,rfl,rfl,trivial⟩ rfl rfl fun b_5 a w hf hc => ?_
   obtain ⟨r_11,hr_11,hF⟩ := bnd_some hF
   refine stE hf hc rfl rfl rfl (eC (v := .bool r_11) (vs := [.slice p_9 r_7.1.length c_3,.slice (some ⟨b_5,0,none⟩) 2 2]) (caps := []) en_21 rfl rfl rfl rfl (fun w hc => by obtain ⟨G1,hle1,hrd1,hc,hth1⟩ := lend hc k2; obtain ⟨G2,hle2,hrd2,hc,hth2⟩ := lend hc k0; exact (kit_Same_api_Span_ok r_7.1 ([(⟨35,40⟩ : api_Span),(⟨65,75⟩ : api_Span)] : List api_Span) (hrd1.mono hle2) hrd2 hc hr_11).mono fun e w h => ⟨h.1,((hth1 _ _ ((hth2 _ _ h.2).unpick k0)).unpick k2)⟩)) fun a w hf hc => stP hf rfl rfl rfl (pNot rfl) fun a hf => stP hf rfl rfl rfl (pPf rfl rfl) fun a hf => ?_
   replace hc := hc.drop k0
   obtain rfl := sj hF
   exact cNil ⟨hf.kp rfl,hc⟩
  ·rw [hb] at hf
   have hF := condT hb ht_2
   obtain rfl := sj hF
   refine stS hf rfl rfl rfl fun a hf => stS hf rfl rfl rfl fun a hf => stS hf rfl rfl rfl fun a hf => stS hf rfl rfl rfl fun a hf => stS hf rfl rfl rfl fun a hf => stS hf rfl rfl rfl fun a hf => stP hf rfl rfl rfl (pPt rfl rfl) fun a hf => cNil ⟨hf.kp rfl,hc⟩
 intro a w ⟨hf,hc⟩
 refine stP hf rfl rfl rfl (pM rfl) fun a hf => stCut 3 (fun a w => Has 174 a ((1,.slice p_3 r_1.1.length c_1)::(2,i6 r_1.2)::(3,pq b_2)::(4,i6 r_3.2)::(5,.bool r_5.1)::(6,i6 r_5.2)::(7,.slice p_9 r_7.1.length c_3)::(8,i6 r_7.2)::(9,i6 r_9.1)::(10,i6 r_9.2.1)::(11,i6 r_9.2.2)::(46,i6 r_1.2)::(47,.bool (r_1.2 != 0))::(48,.bool (r_1.2 != 0))::(51,.bool ((r_1.2 != 0) || (r_3.2 != 0)))::(52,.bool ((r_1.2 != 0) || (r_3.2 != 0)))::(55,.bool (((r_1.2 != 0) || (r_3.2 != 0)) || (r_5.2 != 0)))::(56,.bool (((r_1.2 != 0) || (r_3.2 != 0)) || (r_5.2 != 0)))::(59,.bool ((((r_1.2 != 0) || (r_3.2 != 0)) || (r_5.2 != 0)) || (r_7.2 != 0)))::(60,.bool ((((r_1.2 != 0) || (r_3.2 != 0)) || (r_5.2 != 0)) || (r_7.2 != 0)))::(63,.bool (((((r_1.2 != 0) || (r_3.2 != 0)) || (r_5.2 != 0)) || (r_7.2 != 0)) || (r_9.2.2 != 0)))::(64,.bool (((((r_1.2 != 0) || (r_3.2 != 0)) || (r_5.2 != 0)) || (r_7.2 != 0)) || (r_9.2.2 != 0)))::(69,.bool t_1)::(70,.bool t_1)::(74,.bool (t_1 || (!(r_3.1.Person == 1 && r_3.1.Station == 0))))::(75,.bool (t_1 || (!(r_3.1.Person == 1 && r_3.1.Station == 0))))::(78,.bool ((t_1 || (!(r_3.1.Person == 1 && r_3.1.Station == 0))) || (!r_5.1)))::(79,.bool ((t_1 || (!(r_3.1.Person == 1 && r_3.1.Station == 0))) || (!r_5.1)))::(86,.bool t_2)::(87,.bool t_2)::(90,.bool (t_2 || (r_9.1 != 1)))::[]) ∧ Ctx G (.row p_10 c_4 (r_8.map enc_crew_Visit) 31 6::.row p_9 c_3 (r_7.1.map enc_api_Span) 29 2::.box b_2 [i6 r_3.1.Person,i6 r_3.1.Station] 86::.row p_3 c_1 (r_1.1.map encI_i64) 3 1::Lf) w) ?_ ?_
 ·cases hb : t_2
  ·rw [hb] at hf
   try rw [hb] at hc
   refine stP hf rfl rfl rfl (pM rfl) fun a hf => stP hf rfl rfl rfl (pNe rfl rfl) fun a hf => stP hf rfl rfl rfl (pPf rfl rfl) fun a hf => cNil ⟨hf.kp rfl,hc⟩
  ·rw [hb] at hf
   try rw [hb] at hc
   refine stS hf rfl rfl rfl fun a hf => stS hf rfl rfl rfl fun a hf => stP hf rfl rfl rfl (pPt rfl rfl) fun a hf => cNil ⟨hf.kp rfl,hc⟩
 intro a w ⟨hf,hc⟩
 refine stP hf rfl rfl rfl (pM rfl) fun a hf => stCut 3 (fun a w => Has 174 a ((1,.slice p_3 r_1.1.length c_1)::(2,i6 r_1.2)::(3,pq b_2)::(4,i6 r_3.2)::(5,.bool r_5.1)::(6,i6 r_5.2)::(7,.slice p_9 r_7.1.length c_3)::(8,i6 r_7.2)::(9,i6 r_9.1)::(10,i6 r_9.2.1)::(11,i6 r_9.2.2)::(46,i6 r_1.2)::(47,.bool (r_1.2 != 0))::(48,.bool (r_1.2 != 0))::(51,.bool ((r_1.2 != 0) || (r_3.2 != 0)))::(52,.bool ((r_1.2 != 0) || (r_3.2 != 0)))::(55,.bool (((r_1.2 != 0) || (r_3.2 != 0)) || (r_5.2 != 0)))::(56,.bool (((r_1.2 != 0) || (r_3.2 != 0)) || (r_5.2 != 0)))::(59,.bool ((((r_1.2 != 0) || (r_3.2 != 0)) || (r_5.2 != 0)) || (r_7.2 != 0)))::(60,.bool ((((r_1.2 != 0) || (r_3.2 != 0)) || (r_5.2 != 0)) || (r_7.2 != 0)))::(63,.bool (((((r_1.2 != 0) || (r_3.2 != 0)) || (r_5.2 != 0)) || (r_7.2 != 0)) || (r_9.2.2 != 0)))::(64,.bool (((((r_1.2 != 0) || (r_3.2 != 0)) || (r_5.2 != 0)) || (r_7.2 != 0)) || (r_9.2.2 != 0)))::(69,.bool t_1)::(70,.bool t_1)::(74,.bool (t_1 || (!(r_3.1.Person == 1 && r_3.1.Station == 0))))::(75,.bool (t_1 || (!(r_3.1.Person == 1 && r_3.1.Station == 0))))::(78,.bool ((t_1 || (!(r_3.1.Person == 1 && r_3.1.Station == 0))) || (!r_5.1)))::(79,.bool ((t_1 || (!(r_3.1.Person == 1 && r_3.1.Station == 0))) || (!r_5.1)))::(86,.bool t_2)::(87,.bool t_2)::(90,.bool (t_2 || (r_9.1 != 1)))::(91,.bool (t_2 || (r_9.1 != 1)))::(94,.bool ((t_2 || (r_9.1 != 1)) || (r_9.2.1 != (-1))))::[]) ∧ Ctx G (.row p_10 c_4 (r_8.map enc_crew_Visit) 31 6::.row p_9 c_3 (r_7.1.map enc_api_Span) 29 2::.box b_2 [i6 r_3.1.Person,i6 r_3.1.Station] 86::.row p_3 c_1 (r_1.1.map encI_i64) 3 1::Lf) w) ?_ ?_
 ·cases hb : (t_2 || (r_9.1 != 1))
  ·rw [hb] at hf
   refine stP hf rfl rfl rfl (pM rfl) fun a hf => stP hf rfl rfl rfl (pNe rfl rfl) fun a hf => stP hf rfl rfl rfl (pPf rfl rfl) fun a hf => cNil ⟨hf.kp rfl,hc⟩
  ·rw [hb] at hf
   refine stS hf rfl rfl rfl fun a hf => stS hf rfl rfl rfl fun a hf => stP hf rfl rfl rfl (pPt rfl rfl) fun a hf => cNil ⟨hf.kp rfl,hc⟩
 intro a w ⟨hf,hc⟩
 refine cNil ?_
 refine h8 _ _ ?_
 refine cCond (b := ((t_2 || (r_9.1 != 1)) || (r_9.2.1 != (-1)))) hf rfl (fun hb => ?_) (fun hb => ?_)
 ·replace hF := condT hb hF
  clear hb
  refine wp_seq_k fun K9 h9 => cReg ?_
  refine stP hf rfl rfl rfl (pA rfl) fun a hf => cNil ?_
  refine h9 _ _ ?_
  refine wp_ret ?_
  refine xThenR ?_
  obtain rfl := sj hF
  replace hc := hc.drop k3
  replace hc := hc.drop k2
  replace hc := hc.drop k1
  replace hc := hc.drop k0
  exact fnOut1 (by simp) rfl Tryz.results15 hf hc (show look _ 0 = _ from rfl) ⟨rfl,hc⟩
 ·replace hF := condF hb hF
  clear hb
  refine wp_skip ?_
  refine h7 _ _ ?_
  refine wp_seq_k fun K10 h10 => cReg ?_
  obtain ⟨r_12,hr_12,hF⟩ := bnd_some hF
  refine stC (vs := [i6 80]) (caps := []) hf rfl rfl rfl en_68 rfl rfl rfl rfl (law11_Trip_ok 80 hc hr_12) ?_
  rintro _ w ⟨p_11,c_5,rfl,hc⟩
  refine ⟨_,rfl,fun a hf => ?_⟩
  obtain ⟨r_13,hr_13,hF⟩ := bnd_some hF
  refine stE hf hc rfl rfl rfl (eC (v := .tuple #[i6 r_13.1,i6 r_13.2]) (vs := [.slice p_11 r_12.length c_5]) (caps := []) en_24 rfl rfl rfl rfl (fun w hc => by obtain ⟨G1,hle1,hrd1,hc,hth1⟩ := lend hc k0; exact (crew_Latest_ok r_12 hrd1 hc hr_13).mono fun e w h => ⟨h.1,((hth1 _ _ h.2).unpick k0)⟩)) fun a w hf hc => stP hf rfl rfl rfl (pM rfl) fun a hf => stP hf rfl rfl rfl (pX rfl rfl) fun a hf => stP hf rfl rfl rfl (pX rfl rfl) fun a hf => stP hf rfl rfl rfl (pA rfl) fun a hf => stP hf rfl rfl rfl (pA rfl) fun a hf => cNil ?_
  refine h10 _ _ ?_
  refine wp_seq_k fun K11 h11 => cReg ?_
  obtain ⟨r_14,hr_14,hF⟩ := bnd_some hF
  refine stC (vs := []) (caps := []) hf rfl rfl rfl en_69 rfl rfl rfl rfl (law11_Wire_ok hc hr_14) ?_
  rintro _ w ⟨p_12,c_6,rfl,hc⟩
  refine ⟨_,rfl,fun a hf => ?_⟩
  obtain ⟨r_15,hr_15,hF⟩ := bnd_some hF
  refine stE hf hc rfl rfl rfl (eC (v := .tuple #[.agg #[i6 r_15.1.Lo,i6 r_15.1.Hi],i6 r_15.2]) (vs := [.agg #[i6 r_14.Car,i6 r_14.Wide,i6 r_14.Sag,i6 r_14.Most,.slice p_12 r_14.Rides.length c_6],i6 5]) (caps := []) en_34 rfl rfl rfl rfl (fun w hc => by obtain ⟨G1,hle1,hrd1,hc,hth1⟩ := lend hc k0; exact (crew_Load_ok r_14 5 hrd1 hc hr_15).mono fun e w h => ⟨h.1,((hth1 _ _ h.2).unpick k0)⟩)) fun a w hf hc => stP hf rfl rfl rfl (pM rfl) fun a hf => stP hf rfl rfl rfl (pX rfl rfl) fun a hf => stP hf rfl rfl rfl (pX rfl rfl) fun a hf => stAl (cs := [i6 0,i6 0]) hf hc rfl rfl zr_29 rfl fun b_6 a w hf hc => stSt (vs := [i6 r_15.1.Lo,i6 r_15.1.Hi]) hf hc rfl rfl rfl rfl sz_29 rfl rfl u0 fun w hc => stP hf rfl rfl rfl (pA rfl) fun a hf => cNil ?_
  refine h11 _ _ ?_
  refine wp_seq_k fun K12 h12 => cReg ?_
  obtain ⟨r_16,hr_16,hF⟩ := bnd_some hF
  refine stC (vs := []) (caps := []) hf rfl rfl rfl en_69 rfl rfl rfl rfl (law11_Wire_ok hc hr_16) ?_
  rintro _ w ⟨p_13,c_7,rfl,hc⟩
  refine ⟨_,rfl,fun a hf => ?_⟩
  obtain ⟨r_17,hr_17,hF⟩ := bnd_some hF
  refine stE hf hc rfl rfl rfl (eC (v := .tuple #[i6 r_17.1,i6 r_17.2.1,i6 r_17.2.2]) (vs := [.agg #[i6 r_16.Car,i6 r_16.Wide,i6 r_16.Sag,i6 r_16.Most,.slice p_13 r_16.Rides.length c_7]]) (caps := []) en_36 rfl rfl rfl rfl (fun w hc => by obtain ⟨G1,hle1,hrd1,hc,hth1⟩ := lend hc k0; exact (crew_Beyond_ok r_16 hrd1 hc hr_17).mono fun e w h => ⟨h.1,((hth1 _ _ h.2).unpick k0)⟩)) fun a w hf hc => stP hf rfl rfl rfl (pM rfl) fun a hf => stP hf rfl rfl rfl (pX rfl rfl) fun a hf => stP hf rfl rfl rfl (pX rfl rfl) fun a hf => stP hf rfl rfl rfl (pX rfl rfl) fun a hf => stP hf rfl rfl rfl (pA rfl) fun a hf => stP hf rfl rfl rfl (pA rfl) fun a hf => stP hf rfl rfl rfl (pA rfl) fun a hf => cNil ?_
  refine h12 _ _ ?_
  refine wp_seq_k fun K13 h13 => cReg ?_
  obtain ⟨r_18,hr_18,hF⟩ := bnd_some hF
  refine stC (vs := []) (caps := []) hf rfl rfl rfl en_69 rfl rfl rfl rfl (law11_Wire_ok hc hr_18) ?_
  rintro _ w ⟨p_14,c_8,rfl,hc⟩
  refine ⟨_,rfl,fun a hf => ?_⟩
  refine stAl (cs := [i6 0,i6 0,i6 0,i6 0,.slice none 0 0]) hf hc rfl rfl zr_54 rfl fun b_7 a w hf hc => stSt (vs := [i6 r_18.Car,i6 r_18.Wide,i6 r_18.Sag,i6 r_18.Most,.slice p_14 r_18.Rides.length c_8]) hf hc rfl rfl rfl rfl sz_54 rfl rfl u0 fun w hc => cNil ?_
  replace hc := hc.drop k9
  replace hc := hc.drop k8
  replace hc := hc.drop k7
  replace hc := hc.drop k6
  replace hc := hc.drop k5
  replace hc := hc.drop k4
  replace hc := hc.drop k2
  refine h13 _ _ ?_
  refine wp_seq_k fun K14 h14 => ?_
  obtain ⟨r_19,hr_19,hF⟩ := bnd_some hF
  obtain ⟨un,hun,hF⟩ := bnd_some hF
  replace hc := hc.nilRow 0 0
  refine regionE (fun θ => [⟨none,none,2,i6 r_13.2⟩,⟨none,none,4,i6 r_15.2⟩,⟨none,none,6,i6 r_17.2.2⟩,⟨none,none,9,i6 r_17.1⟩,⟨none,none,10,i6 r_17.2.1⟩,⟨none,none,12,i6 r_13.1⟩,⟨none,none,13,pq b_6⟩,⟨none,none,14,pq b_7⟩,⟨some 0,none,112,.pointer (some ⟨b_7,4,none⟩)⟩,⟨some 1,none,113,.slice p_14 r_18.Rides.length c_8⟩,⟨some 2,none,114,.agg #[i6 r_19.Lo,i6 r_19.Hi]⟩,⟨some 3,none,115,.agg #[i6 5,i6 5,i6 r_19.Lo,i6 r_19.Hi]⟩,⟨some 4,none,116,.slice (some ⟨(θ 32).b,0,none⟩) 1 1⟩,⟨some 5,none,117,.slice ((θ 40).p) ((r_18.Rides ++ [(⟨5,5,r_19⟩ : crew_Ride)]).length) ((θ 40).c)⟩,⟨some 6,none,118,.pointer (some ⟨b_7,4,none⟩)⟩]) (fun E θ => (bif E 4 then .row (some ⟨(θ 32).b,0,none⟩) 1 (([(⟨5,5,r_19⟩ : crew_Ride)] : List crew_Ride).map enc_crew_Ride) 72 4 else .row none 0 [] 0 0)::(bif E 7 then .box b_7 [i6 r_18.Car,i6 r_18.Wide,i6 r_18.Sag,i6 r_18.Most,.slice ((θ 40).p) ((r_18.Rides ++ [(⟨5,5,r_19⟩ : crew_Ride)]).length) ((θ 40).c)] 54 else .box b_7 [i6 r_18.Car,i6 r_18.Wide,i6 r_18.Sag,i6 r_18.Most,.slice p_14 r_18.Rides.length c_8] 54)::(bif E 5 then .row ((θ 40).p) ((θ 40).c) ((r_18.Rides ++ [(⟨5,5,r_19⟩ : crew_Ride)]).map enc_crew_Ride) 72 4 else .row p_14 c_8 (r_18.Rides.map enc_crew_Ride) 72 4)::.box b_6 [i6 r_15.1.Lo,i6 r_15.1.Hi] 29::Lf) [(7,1),(7,5)] (fun a w => ∃ (b_9 : Nat) (p_16 : Option Addr) (c_10 : Nat),Has 174 a [(2,i6 r_13.2),(4,i6 r_15.2),(6,i6 r_17.2.2),(9,i6 r_17.1),(10,i6 r_17.2.1),(12,i6 r_13.1),(13,pq b_6),(14,pq b_7)] ∧ Ctx G (.row (some ⟨b_9,0,none⟩) 1 (([(⟨5,5,r_19⟩ : crew_Ride)] : List crew_Ride).map enc_crew_Ride) 72 4::.box b_7 [i6 r_18.Car,i6 r_18.Wide,i6 r_18.Sag,i6 r_18.Most,.slice p_16 ((r_18.Rides ++ [(⟨5,5,r_19⟩ : crew_Ride)]).length) c_10] 54::.row p_16 c_10 ((r_18.Rides ++ [(⟨5,5,r_19⟩ : crew_Ride)]).map enc_crew_Ride) 72 4::.box b_6 [i6 r_15.1.Lo,i6 r_15.1.Hi] 29::Lf) w) follows_mx (by kernel_rfl) (by kernel_rfl) (HasE.of hf ⟨rfl,rfl,rfl,rfl,rfl,rfl,rfl,rfl,trivial,trivial,trivial,trivial,trivial,trivial,trivial,trivial⟩) hc ⟨?_,?_,?_,?_,?_,?_,?_,?_,trivial⟩ ?_ ?_
  ·intro E θ a w hD hi hp he hc
   have hf := he.h0
   replace hf := hf.more he 7 rfl onT
   refine stP hf rfl rfl rfl (pFA fa_54_4 rfl) fun a hf => cNil ?_
   refine xThenN ?_
   intro ds u hau
   refine ⟨θ,he.put0 hi hau hf rfl 8 rfl rfl,?_⟩
   exact hc
  ·intro E θ a w hD hi hp he hc
   have e0 := hp.of (k := 0) rfl
   have e7 := hD.f 0 rfl hi
   try dsimp only at hc
   rw [e7] at hc
   have hf := he.h0
   replace hf := hf.more he 8 rfl (onP e0)
   refine stE hf hc rfl rfl rfl (eLd1 sc_52 rfl (cell_box m1 rfl)) fun a w hf hc => cNil ?_
   refine xThenN ?_
   intro ds u hau
   refine ⟨θ,he.put0 hi hau hf rfl 9 rfl rfl,?_⟩
   try dsimp only
   rw [updE_fls 1 e7 rfl]
   exact hc
  ·intro E θ a w hD hi hp he hc
   have hf := he.h0
   refine stE hf hc rfl rfl rfl (eC (v := .agg #[i6 r_19.Lo,i6 r_19.Hi]) (vs := [i6 90,i6 90]) (caps := []) en_51 rfl rfl rfl rfl (fun w hc => law11_span_ok 90 90 hc hr_19)) fun a w hf hc => cNil ?_
   refine xThenN ?_
   intro ds u hau
   refine ⟨θ,he.put0 hi hau hf rfl 10 rfl rfl,?_⟩
   exact hc
  ·intro E θ a w hD hi hp he hc
   have e2 := hp.of (k := 2) rfl
   have hf := he.h0
   replace hf := hf.more he 10 rfl (onP e2)
   refine stP hf rfl rfl rfl (pBuildS (cells := [i6 5,i6 5,i6 r_19.Lo,i6 r_19.Hi]) bt_72 rfl rfl) fun a hf => cNil ?_
   refine xThenN ?_
   intro ds u hau
   refine ⟨θ,he.put0 hi hau hf rfl 11 rfl rfl,?_⟩
   exact hc
  ·intro E θ a w hD hi hp he hc
   have e3 := hp.of (k := 3) rfl
   try dsimp only at hc
   rw [hi] at hc
   have hf := he.h0
   replace hf := hf.more he 11 rfl (onP e3)
   refine stBS (rows := ([(⟨5,5,r_19⟩ : crew_Ride)] : List crew_Ride).map enc_crew_Ride) (vs := [(0,.agg #[i6 5,i6 5,i6 r_19.Lo,i6 r_19.Hi])]) hf hc rfl rfl sl_52 rfl ⟨rfl,rfl,rfl,trivial⟩ rfl rfl fun b_8 a w hf hc => cNil ?_
   refine xThenN ?_
   intro ds u hau
   replace hc := hc.drop k1
   refine ⟨(setT θ 32 ⟨b_8,none,0,(fun _ => (none,0))⟩),he.put hi hau hf rfl [] trivial ⟨qq,qq,qq,qq,qq,qq,qq,qq,qq,qq,qq,qq,qq,qq,qq,trivial⟩,?_⟩
   try dsimp only
   rw [updE_self E 4]
   exact hc
  ·intro E θ a w hD hi hp he hc
   have e1 := hp.of (k := 1) rfl
   have e4 := hp.of (k := 4) rfl
   have e7 := hD.f 1 rfl hi
   try dsimp only at hc
   rw [e4,hi,e7] at hc
   have hf := he.h0
   replace hf := hf.more he 9 rfl (onP e1)
   replace hf := hf.more he 12 rfl (onP e4)
   refine stApm (xs := r_18.Rides) (ys := ([(⟨5,5,r_19⟩ : crew_Ride)] : List crew_Ride)) hf hc rfl rfl sl_52 rfl rfl rfl rfl rfl one_enc_crew_Ride (src_row hc m0) (fun _ _ => u2) (by simpa using room_spec hun) fun p_15 c_9 a w hf hc => cNil ?_
   refine xThenN ?_
   intro ds u hau
   refine ⟨(setT θ 40 ⟨0,p_15,c_9,(fun _ => (none,0))⟩),he.put hi hau hf rfl [] trivial ⟨qq,qq,qq,qq,qq,qq,qq,qq,qq,qq,qq,qq,qq,qq,qq,trivial⟩,?_⟩
   try dsimp only
   rw [updE_tru 5 e4,updE_self E 5,updE_fls 5 e7 rfl]
   exact hc
  ·intro E θ a w hD hi hp he hc
   have hf := he.h0
   replace hf := hf.more he 7 rfl onT
   refine stP hf rfl rfl rfl (pFA fa_54_4 rfl) fun a hf => cNil ?_
   refine xThenN ?_
   intro ds u hau
   refine ⟨θ,he.put0 hi hau hf rfl 14 rfl rfl,?_⟩
   exact hc
  ·intro E θ a w hD hi hp he hc
   have e5 := hp.of (k := 5) rfl
   have e6 := hp.of (k := 6) rfl
   try dsimp only at hc
   rw [hi] at hc
   have hf := he.h0
   replace hf := hf.more he 13 rfl (onP e5)
   replace hf := hf.more he 14 rfl (onP e6)
   refine stSt (vs := [.slice ((θ 40).p) ((r_18.Rides ++ [(⟨5,5,r_19⟩ : crew_Ride)]).length) ((θ 40).c)]) hf hc rfl rfl rfl rfl sz_52 rfl rfl u1 fun w hc => cNil ?_
   refine xThenN ?_
   intro ds u hau
   refine ⟨θ,he.stay0 hi hau hf rfl,?_⟩
   try dsimp only
   rw [updE_self E 7]
   exact hc
  ·intro E θ a w hall he hc
   have hf := he.h0
   have e4 := hall 4 rfl
   have e5 := hall 5 rfl
   have e7 := hall 7 rfl
   replace hf := hf.more he 7 rfl (onT)
   replace hf := hf.more he 6 rfl (onT)
   replace hf := hf.more he 5 rfl (onT)
   replace hf := hf.more he 4 rfl (onT)
   replace hf := hf.more he 3 rfl (onT)
   replace hf := hf.more he 2 rfl (onT)
   replace hf := hf.more he 1 rfl (onT)
   replace hf := hf.more he 0 rfl (onT)
   try dsimp only at hc
   rw [e4,e5,e7] at hc
   exact ⟨(θ 32).b,(θ 40).p,(θ 40).c,hf.kp rfl,hc⟩
  rintro a w ⟨b_9,p_16,c_10,hf,hc⟩
  refine h14 _ _ ?_
  refine wp_seq_k fun K15 h15 => cReg ?_
  refine stE hf hc rfl rfl rfl (eLdN (vs := [i6 r_18.Car,i6 r_18.Wide,i6 r_18.Sag,i6 r_18.Most,.slice p_16 ((r_18.Rides ++ [(⟨5,5,r_19⟩ : crew_Ride)]).length) c_10]) ag_54 rfl rfl (cells_box (n := 5) m1 rfl)) fun a w hf hc => ?_
  obtain ⟨r_20,hr_20,hF⟩ := bnd_some hF
  obtain ⟨G1,hle1,hrd1,hc,hth1⟩ := lend hc k2
  refine stC (vs := [.agg #[i6 r_18.Car,i6 r_18.Wide,i6 r_18.Sag,i6 r_18.Most,.slice p_16 ((r_18.Rides ++ [(⟨5,5,r_19⟩ : crew_Ride)]).length) c_10]]) (caps := []) hf rfl rfl rfl en_38 rfl rfl rfl rfl (crew_Queue_ok (⟨r_18.Car,r_18.Wide,r_18.Sag,r_18.Most,(r_18.Rides ++ [(⟨5,5,r_19⟩ : crew_Ride)])⟩ : crew_Cable) hrd1 hc hr_20) ?_
  rintro _ w ⟨p_17,c_11,rfl,hc⟩
  refine ⟨_,rfl,fun a hf => ?_⟩
  replace hc := hth1 _ _ hc
  refine stP hf rfl rfl rfl (pM rfl) fun a hf => stP hf rfl rfl rfl (pX rfl rfl) fun a hf => stP hf rfl rfl rfl (pX rfl rfl) fun a hf => stP hf rfl rfl rfl (pA rfl) fun a hf => stP hf rfl rfl rfl (pA rfl) fun a hf => cNil ?_
  refine h15 _ _ ?_
  refine wp_seq_k fun K16 h16 => cReg ?_
  refine stP hf rfl rfl rfl (pBuildS (cells := [i6 600,i6 480,i6 500]) bt_24 rfl rfl) fun a hf => stBS (rows := ([481] : List Int).map encI_i64) (vs := [(0,i6 481)]) hf hc rfl rfl sl_25 rfl ⟨rfl,rfl,rfl,trivial⟩ rfl rfl fun b_10 a w hf hc => ?_
  obtain ⟨r_21,hr_21,hF⟩ := bnd_some hF
  refine stE hf hc rfl rfl rfl (eC (v := .tuple #[i6 r_21.1,i6 r_21.2]) (vs := [.agg #[i6 600,i6 480,i6 500],.slice (some ⟨b_10,0,none⟩) 1 1]) (caps := []) en_26 rfl rfl rfl rfl (fun w hc => by obtain ⟨G1,hle1,hrd1,hc,hth1⟩ := lend hc k0; exact (crew_Paid_ok (⟨600,480,500⟩ : crew_Pay) ([481] : List Int) hrd1 hc hr_21).mono fun e w h => ⟨h.1,((hth1 _ _ h.2).unpick k0)⟩)) fun a w hf hc => stP hf rfl rfl rfl (pM rfl) fun a hf => stP hf rfl rfl rfl (pX rfl rfl) fun a hf => stP hf rfl rfl rfl (pX rfl rfl) fun a hf => stP hf rfl rfl rfl (pA rfl) fun a hf => stP hf rfl rfl rfl (pA rfl) fun a hf => cNil ?_
  refine h16 _ _ ?_
  refine wp_seq_k fun K17 h17 => ?_
  obtain ⟨r_22,hr_22,hF⟩ := bnd_some hF
  obtain ⟨r_23,hr_23,hF⟩ := bnd_some hF
  replace hc := hc.nilRow 0 0
  refine regionE (fun θ => (⟨none,none,2,i6 r_13.2⟩::⟨none,none,4,i6 r_15.2⟩::⟨none,none,6,i6 r_17.2.2⟩::⟨none,none,8,i6 r_20.2⟩::⟨none,none,9,i6 r_17.1⟩::⟨none,none,10,i6 r_17.2.1⟩::⟨none,none,11,i6 r_21.2⟩::⟨none,none,12,i6 r_13.1⟩::⟨none,none,13,pq b_6⟩::⟨none,none,15,.slice p_17 r_20.1.length c_11⟩::⟨none,none,16,i6 r_21.1⟩::⟨some 0,none,130,i6 r_13.2⟩::⟨some 1,none,131,.bool (r_13.2 == 0)⟩::⟨some 2,none,132,.bool (r_13.2 == 0)⟩::⟨some 3,none,133,(bif (r_13.2 == 0) then i6 r_15.2 else undef)⟩::⟨some 4,none,134,(bif (r_13.2 == 0) then .bool (r_15.2 == 0) else undef)⟩::⟨some 5,none,135,.bool ((r_13.2 == 0) && (r_15.2 == 0))⟩::⟨some 6,none,136,.bool ((r_13.2 == 0) && (r_15.2 == 0))⟩::⟨some 7,none,137,(bif ((r_13.2 == 0) && (r_15.2 == 0)) then i6 r_17.2.2 else undef)⟩::⟨some 8,none,138,(bif ((r_13.2 == 0) && (r_15.2 == 0)) then .bool (r_17.2.2 == 0) else undef)⟩::⟨some 9,none,139,.bool (((r_13.2 == 0) && (r_15.2 == 0)) && (r_17.2.2 == 0))⟩::⟨some 10,none,140,.bool (((r_13.2 == 0) && (r_15.2 == 0)) && (r_17.2.2 == 0))⟩::⟨some 11,none,141,(bif (((r_13.2 == 0) && (r_15.2 == 0)) && (r_17.2.2 == 0)) then i6 r_20.2 else undef)⟩::⟨some 12,none,142,(bif (((r_13.2 == 0) && (r_15.2 == 0)) && (r_17.2.2 == 0)) then .bool (r_20.2 == 0) else undef)⟩::⟨some 13,none,143,.bool ((((r_13.2 == 0) && (r_15.2 == 0)) && (r_17.2.2 == 0)) && (r_20.2 == 0))⟩::⟨some 14,none,144,.bool ((((r_13.2 == 0) && (r_15.2 == 0)) && (r_17.2.2 == 0)) && (r_20.2 == 0))⟩::⟨some 15,none,145,(bif ((((r_13.2 == 0) && (r_15.2 == 0)) && (r_17.2.2 == 0)) && (r_20.2 == 0)) then i6 r_21.2 else undef)⟩::⟨some 16,none,146,(bif ((((r_13.2 == 0) && (r_15.2 == 0)) && (r_17.2.2 == 0)) && (r_20.2 == 0)) then .bool (r_21.2 == 0) else undef)⟩::⟨some 17,none,147,.bool (((((r_13.2 == 0) && (r_15.2 == 0)) && (r_17.2.2 == 0)) && (r_20.2 == 0)) && (r_21.2 == 0))⟩::⟨some 18,none,148,.bool (((((r_13.2 == 0) && (r_15.2 == 0)) && (r_17.2.2 == 0)) && (r_20.2 == 0)) && (r_21.2 == 0))⟩::⟨some 19,none,149,(bif (((((r_13.2 == 0) && (r_15.2 == 0)) && (r_17.2.2 == 0)) && (r_20.2 == 0)) && (r_21.2 == 0)) then i6 r_13.1 else undef)⟩::⟨some 20,none,150,(bif (((((r_13.2 == 0) && (r_15.2 == 0)) && (r_17.2.2 == 0)) && (r_20.2 == 0)) && (r_21.2 == 0)) then .bool (r_13.1 == 5) else undef)⟩::⟨some 21,none,151,.bool ((((((r_13.2 == 0) && (r_15.2 == 0)) && (r_17.2.2 == 0)) && (r_20.2 == 0)) && (r_21.2 == 0)) && (r_13.1 == 5))⟩::⟨some 22,none,152,.bool ((((((r_13.2 == 0) && (r_15.2 == 0)) && (r_17.2.2 == 0)) && (r_20.2 == 0)) && (r_21.2 == 0)) && (r_13.1 == 5))⟩::⟨some 23,none,153,(bif ((((((r_13.2 == 0) && (r_15.2 == 0)) && (r_17.2.2 == 0)) && (r_20.2 == 0)) && (r_21.2 == 0)) && (r_13.1 == 5)) then .agg #[i6 r_15.1.Lo,i6 r_15.1.Hi] else undef)⟩::⟨some 24,none,154,(bif ((((((r_13.2 == 0) && (r_15.2 == 0)) && (r_17.2.2 == 0)) && (r_20.2 == 0)) && (r_21.2 == 0)) && (r_13.1 == 5)) then .agg #[i6 r_22.Lo,i6 r_22.Hi] else undef)⟩::⟨some 25,none,155,(bif ((((((r_13.2 == 0) && (r_15.2 == 0)) && (r_17.2.2 == 0)) && (r_20.2 == 0)) && (r_21.2 == 0)) && (r_13.1 == 5)) then .bool (r_15.1.Lo == r_22.Lo && r_15.1.Hi == r_22.Hi) else undef)⟩::⟨some 26,none,156,.bool (((((((r_13.2 == 0) && (r_15.2 == 0)) && (r_17.2.2 == 0)) && (r_20.2 == 0)) && (r_21.2 == 0)) && (r_13.1 == 5)) && (r_15.1.Lo == r_22.Lo && r_15.1.Hi == r_22.Hi))⟩::⟨some 27,none,157,.bool (((((((r_13.2 == 0) && (r_15.2 == 0)) && (r_17.2.2 == 0)) && (r_20.2 == 0)) && (r_21.2 == 0)) && (r_13.1 == 5)) && (r_15.1.Lo == r_22.Lo && r_15.1.Hi == r_22.Hi))⟩::⟨some 28,none,158,(bif (((((((r_13.2 == 0) && (r_15.2 == 0)) && (r_17.2.2 == 0)) && (r_20.2 == 0)) && (r_21.2 == 0)) && (r_13.1 == 5)) && (r_15.1.Lo == r_22.Lo && r_15.1.Hi == r_22.Hi)) then i6 r_17.1 else undef)⟩::⟨some 29,none,159,(bif (((((((r_13.2 == 0) && (r_15.2 == 0)) && (r_17.2.2 == 0)) && (r_20.2 == 0)) && (r_21.2 == 0)) && (r_13.1 == 5)) && (r_15.1.Lo == r_22.Lo && r_15.1.Hi == r_22.Hi)) then .bool (r_17.1 == 5) else undef)⟩::⟨some 30,none,160,.bool ((((((((r_13.2 == 0) && (r_15.2 == 0)) && (r_17.2.2 == 0)) && (r_20.2 == 0)) && (r_21.2 == 0)) && (r_13.1 == 5)) && (r_15.1.Lo == r_22.Lo && r_15.1.Hi == r_22.Hi)) && (r_17.1 == 5))⟩::⟨some 31,none,161,.bool ((((((((r_13.2 == 0) && (r_15.2 == 0)) && (r_17.2.2 == 0)) && (r_20.2 == 0)) && (r_21.2 == 0)) && (r_13.1 == 5)) && (r_15.1.Lo == r_22.Lo && r_15.1.Hi == r_22.Hi)) && (r_17.1 == 5))⟩::⟨some 32,none,162,(bif ((((((((r_13.2 == 0) && (r_15.2 == 0)) && (r_17.2.2 == 0)) && (r_20.2 == 0)) && (r_21.2 == 0)) && (r_13.1 == 5)) && (r_15.1.Lo == r_22.Lo && r_15.1.Hi == r_22.Hi)) && (r_17.1 == 5)) then i6 r_17.2.1 else undef)⟩::⟨some 33,none,163,(bif ((((((((r_13.2 == 0) && (r_15.2 == 0)) && (r_17.2.2 == 0)) && (r_20.2 == 0)) && (r_21.2 == 0)) && (r_13.1 == 5)) && (r_15.1.Lo == r_22.Lo && r_15.1.Hi == r_22.Hi)) && (r_17.1 == 5)) then .bool (r_17.2.1 == (-1)) else undef)⟩::⟨some 34,none,164,.bool (((((((((r_13.2 == 0) && (r_15.2 == 0)) && (r_17.2.2 == 0)) && (r_20.2 == 0)) && (r_21.2 == 0)) && (r_13.1 == 5)) && (r_15.1.Lo == r_22.Lo && r_15.1.Hi == r_22.Hi)) && (r_17.1 == 5)) && (r_17.2.1 == (-1)))⟩::⟨some 35,none,165,.bool (((((((((r_13.2 == 0) && (r_15.2 == 0)) && (r_17.2.2 == 0)) && (r_20.2 == 0)) && (r_21.2 == 0)) && (r_13.1 == 5)) && (r_15.1.Lo == r_22.Lo && r_15.1.Hi == r_22.Hi)) && (r_17.1 == 5)) && (r_17.2.1 == (-1)))⟩::⟨some 36,none,166,(bif (((((((((r_13.2 == 0) && (r_15.2 == 0)) && (r_17.2.2 == 0)) && (r_20.2 == 0)) && (r_21.2 == 0)) && (r_13.1 == 5)) && (r_15.1.Lo == r_22.Lo && r_15.1.Hi == r_22.Hi)) && (r_17.1 == 5)) && (r_17.2.1 == (-1))) then .slice p_17 r_20.1.length c_11 else undef)⟩::⟨some 37,none,167,(bif (((((((((r_13.2 == 0) && (r_15.2 == 0)) && (r_17.2.2 == 0)) && (r_20.2 == 0)) && (r_21.2 == 0)) && (r_13.1 == 5)) && (r_15.1.Lo == r_22.Lo && r_15.1.Hi == r_22.Hi)) && (r_17.1 == 5)) && (r_17.2.1 == (-1))) then .slice (some ⟨(θ 296).b,0,none⟩) 3 3 else undef)⟩::⟨some 38,none,168,(bif (((((((((r_13.2 == 0) && (r_15.2 == 0)) && (r_17.2.2 == 0)) && (r_20.2 == 0)) && (r_21.2 == 0)) && (r_13.1 == 5)) && (r_15.1.Lo == r_22.Lo && r_15.1.Hi == r_22.Hi)) && (r_17.1 == 5)) && (r_17.2.1 == (-1))) then .bool r_23 else undef)⟩::⟨some 39,none,169,.bool ((((((((((r_13.2 == 0) && (r_15.2 == 0)) && (r_17.2.2 == 0)) && (r_20.2 == 0)) && (r_21.2 == 0)) && (r_13.1 == 5)) && (r_15.1.Lo == r_22.Lo && r_15.1.Hi == r_22.Hi)) && (r_17.1 == 5)) && (r_17.2.1 == (-1))) && r_23)⟩::⟨some 40,none,170,.bool ((((((((((r_13.2 == 0) && (r_15.2 == 0)) && (r_17.2.2 == 0)) && (r_20.2 == 0)) && (r_21.2 == 0)) && (r_13.1 == 5)) && (r_15.1.Lo == r_22.Lo && r_15.1.Hi == r_22.Hi)) && (r_17.1 == 5)) && (r_17.2.1 == (-1))) && r_23)⟩::⟨some 41,none,171,(bif ((((((((((r_13.2 == 0) && (r_15.2 == 0)) && (r_17.2.2 == 0)) && (r_20.2 == 0)) && (r_21.2 == 0)) && (r_13.1 == 5)) && (r_15.1.Lo == r_22.Lo && r_15.1.Hi == r_22.Hi)) && (r_17.1 == 5)) && (r_17.2.1 == (-1))) && r_23) then i6 r_21.1 else undef)⟩::⟨some 42,none,172,(bif ((((((((((r_13.2 == 0) && (r_15.2 == 0)) && (r_17.2.2 == 0)) && (r_20.2 == 0)) && (r_21.2 == 0)) && (r_13.1 == 5)) && (r_15.1.Lo == r_22.Lo && r_15.1.Hi == r_22.Hi)) && (r_17.1 == 5)) && (r_17.2.1 == (-1))) && r_23) then .bool (r_21.1 == 4815) else undef)⟩::⟨some 43,none,173,.bool (((((((((((r_13.2 == 0) && (r_15.2 == 0)) && (r_17.2.2 == 0)) && (r_20.2 == 0)) && (r_21.2 == 0)) && (r_13.1 == 5)) && (r_15.1.Lo == r_22.Lo && r_15.1.Hi == r_22.Hi)) && (r_17.1 == 5)) && (r_17.2.1 == (-1))) && r_23) && (r_21.1 == 4815))⟩::⟨some 44,none,0,.bool (((((((((((r_13.2 == 0) && (r_15.2 == 0)) && (r_17.2.2 == 0)) && (r_20.2 == 0)) && (r_21.2 == 0)) && (r_13.1 == 5)) && (r_15.1.Lo == r_22.Lo && r_15.1.Hi == r_22.Hi)) && (r_17.1 == 5)) && (r_17.2.1 == (-1))) && r_23) && (r_21.1 == 4815))⟩::[])) (fun E θ => (bif E 37 then (gE (((((((((r_13.2 == 0) && (r_15.2 == 0)) && (r_17.2.2 == 0)) && (r_20.2 == 0)) && (r_21.2 == 0)) && (r_13.1 == 5)) && (r_15.1.Lo == r_22.Lo && r_15.1.Hi == r_22.Hi)) && (r_17.1 == 5)) && (r_17.2.1 == (-1))) (.row (some ⟨(θ 296).b,0,none⟩) 3 (([0,10,15] : List Int).map encI_i64) 3 1)) else .row none 0 [] 0 0)::.row (some ⟨b_10,0,none⟩) 1 (([481] : List Int).map encI_i64) 3 1::.row p_16 c_10 ((r_18.Rides ++ [(⟨5,5,r_19⟩ : crew_Ride)]).map enc_crew_Ride) 72 4::.row p_17 c_11 (r_20.1.map encI_i64) 3 1::.row (some ⟨b_9,0,none⟩) 1 (([(⟨5,5,r_19⟩ : crew_Ride)] : List crew_Ride).map enc_crew_Ride) 72 4::.box b_7 [i6 r_18.Car,i6 r_18.Wide,i6 r_18.Sag,i6 r_18.Most,.slice p_16 ((r_18.Rides ++ [(⟨5,5,r_19⟩ : crew_Ride)]).length) c_10] 54::.box b_6 [i6 r_15.1.Lo,i6 r_15.1.Hi] 29::Lf) [] (fun a w => Has 174 a [(0,.bool (((((((((((r_13.2 == 0) && (r_15.2 == 0)) && (r_17.2.2 == 0)) && (r_20.2 == 0)) && (r_21.2 == 0)) && (r_13.1 == 5)) && (r_15.1.Lo == r_22.Lo && r_15.1.Hi == r_22.Hi)) && (r_17.1 == 5)) && (r_17.2.1 == (-1))) && r_23) && (r_21.1 == 4815)))] ∧ Ctx G (.row (some ⟨b_10,0,none⟩) 1 (([481] : List Int).map encI_i64) 3 1::.row p_16 c_10 ((r_18.Rides ++ [(⟨5,5,r_19⟩ : crew_Ride)]).map enc_crew_Ride) 72 4::.row p_17 c_11 (r_20.1.map encI_i64) 3 1::.row (some ⟨b_9,0,none⟩) 1 (([(⟨5,5,r_19⟩ : crew_Ride)] : List crew_Ride).map enc_crew_Ride) 72 4::.box b_7 [i6 r_18.Car,i6 r_18.Wide,i6 r_18.Sag,i6 r_18.Most,.slice p_16 ((r_18.Rides ++ [(⟨5,5,r_19⟩ : crew_Ride)]).length) c_10] 54::.box b_6 [i6 r_15.1.Lo,i6 r_15.1.Hi] 29::Lf) w) follows_mx (by kernel_rfl) (by kernel_rfl) (HasE.of hf ⟨rfl,rfl,rfl,rfl,rfl,rfl,rfl,rfl,rfl,rfl,rfl,trivial,trivial,trivial,trivial,trivial,trivial,trivial,trivial,trivial,trivial,trivial,trivial,trivial,trivial,trivial,trivial,trivial,trivial,trivial,trivial,trivial,trivial,trivial,trivial,trivial,trivial,trivial,trivial,trivial,trivial,trivial,trivial,trivial,trivial,trivial,trivial,trivial,trivial,trivial,trivial,trivial,trivial,trivial,trivial,trivial,trivial⟩) hc ⟨?_,?_,?_,?_,?_,?_,?_,?_,?_,?_,?_,?_,?_,?_,?_,?_,?_,?_,?_,?_,?_,?_,?_,?_,?_,?_,?_,?_,?_,?_,?_,?_,?_,?_,?_,?_,?_,?_,?_,?_,?_,?_,?_,?_,?_,trivial⟩ ?_ ?_
  ·intro E θ a w hD hi hp he hc
   have hf := he.h0
   replace hf := hf.more he 0 rfl onT
   refine stP hf rfl rfl rfl (pM rfl) fun a hf => cNil ?_
   refine xThenN ?_
   intro ds u hau
   refine ⟨θ,he.put0 hi hau hf rfl 11 rfl rfl,?_⟩
   exact hc
  ·intro E θ a w hD hi hp he hc
   have e0 := hp.of (k := 0) rfl
   have hf := he.h0
   replace hf := hf.more he 11 rfl (onP e0)
   refine stP hf rfl rfl rfl (pEq rfl rfl) fun a hf => cNil ?_
   refine xThenN ?_
   intro ds u hau
   refine ⟨θ,he.put0 hi hau hf rfl 12 rfl rfl,?_⟩
   exact hc
  ·intro E θ a w hD hi hp he hc
   have e1 := hp.of (k := 1) rfl
   have hf := he.h0
   replace hf := hf.more he 12 rfl (onP e1)
   refine stP hf rfl rfl rfl (pM rfl) fun a hf => cNil ?_
   refine xThenN ?_
   intro ds u hau
   refine ⟨θ,he.put0 hi hau hf rfl 13 rfl rfl,?_⟩
   exact hc
  ·intro E θ a w hD hi hp he hc
   have e2 := hp.of (k := 2) rfl
   rcases boolEq (r_13.2 == 0) with hb | hb
   ·have hf := he.h0
    replace hf := hf.more he 1 rfl onT
    replace hf := hf.more he 13 rfl (onP e2)
    replace hf := castB hb hf
    refine stP hf rfl rfl rfl (pM rfl) fun a hf => ?_
    replace hf := castI (u := undef) hb hf
    refine cNil ?_
    refine xThenN ?_
    intro ds u hau
    refine ⟨θ,he.put0 hi hau hf rfl 14 rfl rfl,?_⟩
    exact hc
   ·have hf := he.h0
    replace hf := hf.more he 1 rfl onT
    replace hf := hf.more he 13 rfl (onP e2)
    replace hf := castB hb hf
    refine stS hf rfl rfl rfl fun a hf => ?_
    replace hf := castJ (u := i6 r_15.2) hb hf
    refine cNil ?_
    refine xThenN ?_
    intro ds u hau
    refine ⟨θ,he.put0 hi hau hf rfl 14 rfl rfl,?_⟩
    exact hc
  ·intro E θ a w hD hi hp he hc
   have e2 := hp.of (k := 2) rfl
   have e3 := hp.of (k := 3) rfl
   rcases boolEq (r_13.2 == 0) with hb | hb
   ·have hf := he.h0
    replace hf := hf.more he 13 rfl (onP e2)
    replace hf := castB hb hf
    replace hf := hf.more he 14 rfl (onP e3)
    replace hf := castCT hb hf
    refine stP hf rfl rfl rfl (pEq rfl rfl) fun a hf => ?_
    replace hf := castI (u := undef) hb hf
    refine cNil ?_
    refine xThenN ?_
    intro ds u hau
    refine ⟨θ,he.put0 hi hau hf rfl 15 rfl rfl,?_⟩
    exact hc
   ·have hf := he.h0
    replace hf := hf.more he 13 rfl (onP e2)
    replace hf := castB hb hf
    replace hf := hf.more he 14 rfl (onP e3)
    replace hf := castCF hb hf
    refine stS hf rfl rfl rfl fun a hf => ?_
    replace hf := castJ (u := .bool (r_15.2 == 0)) hb hf
    refine cNil ?_
    refine xThenN ?_
    intro ds u hau
    refine ⟨θ,he.put0 hi hau hf rfl 15 rfl rfl,?_⟩
    exact hc
  ·intro E θ a w hD hi hp he hc
   have e2 := hp.of (k := 2) rfl
   have e4 := hp.of (k := 4) rfl
   rcases boolEq (r_13.2 == 0) with hb | hb
   ·have hf := he.h0
    replace hf := hf.more he 13 rfl (onP e2)
    replace hf := castB hb hf
    replace hf := hf.more he 15 rfl (onP e4)
    replace hf := castCT hb hf
    refine stP hf rfl rfl rfl (pPt rfl rfl) fun a hf => ?_
    replace hf := castV (v' := .bool ((r_13.2 == 0) && (r_15.2 == 0))) (congrArg Value.bool (andT hb)) hf
    refine cNil ?_
    refine xThenN ?_
    intro ds u hau
    refine ⟨θ,he.put0 hi hau hf rfl 16 rfl rfl,?_⟩
    exact hc
   ·have hf := he.h0
    replace hf := hf.more he 13 rfl (onP e2)
    replace hf := castB hb hf
    replace hf := hf.more he 15 rfl (onP e4)
    replace hf := castCF hb hf
    refine stP hf rfl rfl rfl (pPf rfl rfl) fun a hf => ?_
    replace hf := castV (v' := .bool ((r_13.2 == 0) && (r_15.2 == 0))) (congrArg Value.bool (andF hb)) hf
    refine cNil ?_
    refine xThenN ?_
    intro ds u hau
    refine ⟨θ,he.put0 hi hau hf rfl 16 rfl rfl,?_⟩
    exact hc
  ·intro E θ a w hD hi hp he hc
   have e5 := hp.of (k := 5) rfl
   have hf := he.h0
   replace hf := hf.more he 16 rfl (onP e5)
   refine stP hf rfl rfl rfl (pM rfl) fun a hf => cNil ?_
   refine xThenN ?_
   intro ds u hau
   refine ⟨θ,he.put0 hi hau hf rfl 17 rfl rfl,?_⟩
   exact hc
  ·intro E θ a w hD hi hp he hc
   have e6 := hp.of (k := 6) rfl
   rcases boolEq ((r_13.2 == 0) && (r_15.2 == 0)) with hb | hb
   ·have hf := he.h0
    replace hf := hf.more he 2 rfl onT
    replace hf := hf.more he 17 rfl (onP e6)
    replace hf := castB hb hf
    refine stP hf rfl rfl rfl (pM rfl) fun a hf => ?_
    replace hf := castI (u := undef) hb hf
    refine cNil ?_
    refine xThenN ?_
    intro ds u hau
    refine ⟨θ,he.put0 hi hau hf rfl 18 rfl rfl,?_⟩
    exact hc
   ·have hf := he.h0
    replace hf := hf.more he 2 rfl onT
    replace hf := hf.more he 17 rfl (onP e6)
    replace hf := castB hb hf
    refine stS hf rfl rfl rfl fun a hf => ?_
    replace hf := castJ (u := i6 r_17.2.2) hb hf
    refine cNil ?_
    refine xThenN ?_
    intro ds u hau
    refine ⟨θ,he.put0 hi hau hf rfl 18 rfl rfl,?_⟩
    exact hc
  ·intro E θ a w hD hi hp he hc
   have e6 := hp.of (k := 6) rfl
   have e7 := hp.of (k := 7) rfl
   rcases boolEq ((r_13.2 == 0) && (r_15.2 == 0)) with hb | hb
   ·have hf := he.h0
    replace hf := hf.more he 17 rfl (onP e6)
    replace hf := castB hb hf
    replace hf := hf.more he 18 rfl (onP e7)
    replace hf := castCT hb hf
    refine stP hf rfl rfl rfl (pEq rfl rfl) fun a hf => ?_
    replace hf := castI (u := undef) hb hf
    refine cNil ?_
    refine xThenN ?_
    intro ds u hau
    refine ⟨θ,he.put0 hi hau hf rfl 19 rfl rfl,?_⟩
    exact hc
   ·have hf := he.h0
    replace hf := hf.more he 17 rfl (onP e6)
    replace hf := castB hb hf
    replace hf := hf.more he 18 rfl (onP e7)
    replace hf := castCF hb hf
    refine stS hf rfl rfl rfl fun a hf => ?_
    replace hf := castJ (u := .bool (r_17.2.2 == 0)) hb hf
    refine cNil ?_
    refine xThenN ?_
    intro ds u hau
    refine ⟨θ,he.put0 hi hau hf rfl 19 rfl rfl,?_⟩
    exact hc
  ·intro E θ a w hD hi hp he hc
   have e6 := hp.of (k := 6) rfl
   have e8 := hp.of (k := 8) rfl
   rcases boolEq ((r_13.2 == 0) && (r_15.2 == 0)) with hb | hb
   ·have hf := he.h0
    replace hf := hf.more he 17 rfl (onP e6)
    replace hf := castB hb hf
    replace hf := hf.more he 19 rfl (onP e8)
    replace hf := castCT hb hf
    refine stP hf rfl rfl rfl (pPt rfl rfl) fun a hf => ?_
    replace hf := castV (v' := .bool (((r_13.2 == 0) && (r_15.2 == 0)) && (r_17.2.2 == 0))) (congrArg Value.bool (andT hb)) hf
    refine cNil ?_
    refine xThenN ?_
    intro ds u hau
    refine ⟨θ,he.put0 hi hau hf rfl 20 rfl rfl,?_⟩
    exact hc
   ·have hf := he.h0
    replace hf := hf.more he 17 rfl (onP e6)
    replace hf := castB hb hf
    replace hf := hf.more he 19 rfl (onP e8)
    replace hf := castCF hb hf
    refine stP hf rfl rfl rfl (pPf rfl rfl) fun a hf => ?_
    replace hf := castV (v' := .bool (((r_13.2 == 0) && (r_15.2 == 0)) && (r_17.2.2 == 0))) (congrArg Value.bool (andF hb)) hf
    refine cNil ?_
    refine xThenN ?_
    intro ds u hau
    refine ⟨θ,he.put0 hi hau hf rfl 20 rfl rfl,?_⟩
    exact hc
  ·intro E θ a w hD hi hp he hc
   have e9 := hp.of (k := 9) rfl
   have hf := he.h0
   replace hf := hf.more he 20 rfl (onP e9)
   refine stP hf rfl rfl rfl (pM rfl) fun a hf => cNil ?_
   refine xThenN ?_
   intro ds u hau
   refine ⟨θ,he.put0 hi hau hf rfl 21 rfl rfl,?_⟩
   exact hc
  ·intro E θ a w hD hi hp he hc
   have e10 := hp.of (k := 10) rfl
   rcases boolEq (((r_13.2 == 0) && (r_15.2 == 0)) && (r_17.2.2 == 0)) with hb | hb
   ·have hf := he.h0
    replace hf := hf.more he 3 rfl onT
    replace hf := hf.more he 21 rfl (onP e10)
    replace hf := castB hb hf
    refine stP hf rfl rfl rfl (pM rfl) fun a hf => ?_
    replace hf := castI (u := undef) hb hf
    refine cNil ?_
    refine xThenN ?_
    intro ds u hau
    refine ⟨θ,he.put0 hi hau hf rfl 22 rfl rfl,?_⟩
    exact hc
   ·have hf := he.h0
    replace hf := hf.more he 3 rfl onT
    replace hf := hf.more he 21 rfl (onP e10)
    replace hf := castB hb hf
    refine stS hf rfl rfl rfl fun a hf => ?_
    replace hf := castJ (u := i6 r_20.2) hb hf
    refine cNil ?_
    refine xThenN ?_
    intro ds u hau
    refine ⟨θ,he.put0 hi hau hf rfl 22 rfl rfl,?_⟩
    exact hc
  ·intro E θ a w hD hi hp he hc
   have e10 := hp.of (k := 10) rfl
   have e11 := hp.of (k := 11) rfl
   rcases boolEq (((r_13.2 == 0) && (r_15.2 == 0)) && (r_17.2.2 == 0)) with hb | hb
   ·have hf := he.h0
    replace hf := hf.more he 21 rfl (onP e10)
    replace hf := castB hb hf
    replace hf := hf.more he 22 rfl (onP e11)
    replace hf := castCT hb hf
    refine stP hf rfl rfl rfl (pEq rfl rfl) fun a hf => ?_
    replace hf := castI (u := undef) hb hf
    refine cNil ?_
    refine xThenN ?_
    intro ds u hau
    refine ⟨θ,he.put0 hi hau hf rfl 23 rfl rfl,?_⟩
    exact hc
   ·have hf := he.h0
    replace hf := hf.more he 21 rfl (onP e10)
    replace hf := castB hb hf
    replace hf := hf.more he 22 rfl (onP e11)
    replace hf := castCF hb hf
    refine stS hf rfl rfl rfl fun a hf => ?_
    replace hf := castJ (u := .bool (r_20.2 == 0)) hb hf
    refine cNil ?_
    refine xThenN ?_
    intro ds u hau
    refine ⟨θ,he.put0 hi hau hf rfl 23 rfl rfl,?_⟩
    exact hc
  ·intro E θ a w hD hi hp he hc
   have e10 := hp.of (k := 10) rfl
   have e12 := hp.of (k := 12) rfl
   rcases boolEq (((r_13.2 == 0) && (r_15.2 == 0)) && (r_17.2.2 == 0)) with hb | hb
   ·have hf := he.h0
    replace hf := hf.more he 21 rfl (onP e10)
    replace hf := castB hb hf
    replace hf := hf.more he 23 rfl (onP e12)
    replace hf := castCT hb hf
    refine stP hf rfl rfl rfl (pPt rfl rfl) fun a hf => ?_
    replace hf := castV (v' := .bool ((((r_13.2 == 0) && (r_15.2 == 0)) && (r_17.2.2 == 0)) && (r_20.2 == 0))) (congrArg Value.bool (andT hb)) hf
    refine cNil ?_
    refine xThenN ?_
    intro ds u hau
    refine ⟨θ,he.put0 hi hau hf rfl 24 rfl rfl,?_⟩
    exact hc
   ·have hf := he.h0
    replace hf := hf.more he 21 rfl (onP e10)
    replace hf := castB hb hf
    replace hf := hf.more he 23 rfl (onP e12)
    replace hf := castCF hb hf
    refine stP hf rfl rfl rfl (pPf rfl rfl) fun a hf => ?_
    replace hf := castV (v' := .bool ((((r_13.2 == 0) && (r_15.2 == 0)) && (r_17.2.2 == 0)) && (r_20.2 == 0))) (congrArg Value.bool (andF hb)) hf
    refine cNil ?_
    refine xThenN ?_
    intro ds u hau
    refine ⟨θ,he.put0 hi hau hf rfl 24 rfl rfl,?_⟩
    exact hc
  ·intro E θ a w hD hi hp he hc
   have e13 := hp.of (k := 13) rfl
   have hf := he.h0
   replace hf := hf.more he 24 rfl (onP e13)
   refine stP hf rfl rfl rfl (pM rfl) fun a hf => cNil ?_
   refine xThenN ?_
   intro ds u hau
   refine ⟨θ,he.put0 hi hau hf rfl 25 rfl rfl,?_⟩
   exact hc
  ·intro E θ a w hD hi hp he hc
   have e14 := hp.of (k := 14) rfl
   rcases boolEq ((((r_13.2 == 0) && (r_15.2 == 0)) && (r_17.2.2 == 0)) && (r_20.2 == 0)) with hb | hb
   ·have hf := he.h0
    replace hf := hf.more he 6 rfl onT
    replace hf := hf.more he 25 rfl (onP e14)
    replace hf := castB hb hf
    refine stP hf rfl rfl rfl (pM rfl) fun a hf => ?_
    replace hf := castI (u := undef) hb hf
    refine cNil ?_
    refine xThenN ?_
    intro ds u hau
    refine ⟨θ,he.put0 hi hau hf rfl 26 rfl rfl,?_⟩
    exact hc
   ·have hf := he.h0
    replace hf := hf.more he 6 rfl onT
    replace hf := hf.more he 25 rfl (onP e14)
    replace hf := castB hb hf
    refine stS hf rfl rfl rfl fun a hf => ?_
    replace hf := castJ (u := i6 r_21.2) hb hf
    refine cNil ?_
    refine xThenN ?_
    intro ds u hau
    refine ⟨θ,he.put0 hi hau hf rfl 26 rfl rfl,?_⟩
    exact hc
  ·intro E θ a w hD hi hp he hc
   have e14 := hp.of (k := 14) rfl
   have e15 := hp.of (k := 15) rfl
   rcases boolEq ((((r_13.2 == 0) && (r_15.2 == 0)) && (r_17.2.2 == 0)) && (r_20.2 == 0)) with hb | hb
   ·have hf := he.h0
    replace hf := hf.more he 25 rfl (onP e14)
    replace hf := castB hb hf
    replace hf := hf.more he 26 rfl (onP e15)
    replace hf := castCT hb hf
    refine stP hf rfl rfl rfl (pEq rfl rfl) fun a hf => ?_
    replace hf := castI (u := undef) hb hf
    refine cNil ?_
    refine xThenN ?_
    intro ds u hau
    refine ⟨θ,he.put0 hi hau hf rfl 27 rfl rfl,?_⟩
    exact hc
   ·have hf := he.h0
    replace hf := hf.more he 25 rfl (onP e14)
    replace hf := castB hb hf
    replace hf := hf.more he 26 rfl (onP e15)
    replace hf := castCF hb hf
    refine stS hf rfl rfl rfl fun a hf => ?_
    replace hf := castJ (u := .bool (r_21.2 == 0)) hb hf
    refine cNil ?_
    refine xThenN ?_
    intro ds u hau
    refine ⟨θ,he.put0 hi hau hf rfl 27 rfl rfl,?_⟩
    exact hc
  ·intro E θ a w hD hi hp he hc
   have e14 := hp.of (k := 14) rfl
   have e16 := hp.of (k := 16) rfl
   rcases boolEq ((((r_13.2 == 0) && (r_15.2 == 0)) && (r_17.2.2 == 0)) && (r_20.2 == 0)) with hb | hb
   ·have hf := he.h0
    replace hf := hf.more he 25 rfl (onP e14)
    replace hf := castB hb hf
    replace hf := hf.more he 27 rfl (onP e16)
    replace hf := castCT hb hf
    refine stP hf rfl rfl rfl (pPt rfl rfl) fun a hf => ?_
    replace hf := castV (v' := .bool (((((r_13.2 == 0) && (r_15.2 == 0)) && (r_17.2.2 == 0)) && (r_20.2 == 0)) && (r_21.2 == 0))) (congrArg Value.bool (andT hb)) hf
    refine cNil ?_
    refine xThenN ?_
    intro ds u hau
    refine ⟨θ,he.put0 hi hau hf rfl 28 rfl rfl,?_⟩
    exact hc
   ·have hf := he.h0
    replace hf := hf.more he 25 rfl (onP e14)
    replace hf := castB hb hf
    replace hf := hf.more he 27 rfl (onP e16)
    replace hf := castCF hb hf
    refine stP hf rfl rfl rfl (pPf rfl rfl) fun a hf => ?_
    replace hf := castV (v' := .bool (((((r_13.2 == 0) && (r_15.2 == 0)) && (r_17.2.2 == 0)) && (r_20.2 == 0)) && (r_21.2 == 0))) (congrArg Value.bool (andF hb)) hf
    refine cNil ?_
    refine xThenN ?_
    intro ds u hau
    refine ⟨θ,he.put0 hi hau hf rfl 28 rfl rfl,?_⟩
    exact hc
  ·intro E θ a w hD hi hp he hc
   have e17 := hp.of (k := 17) rfl
   have hf := he.h0
   replace hf := hf.more he 28 rfl (onP e17)
   refine stP hf rfl rfl rfl (pM rfl) fun a hf => cNil ?_
   refine xThenN ?_
   intro ds u hau
   refine ⟨θ,he.put0 hi hau hf rfl 29 rfl rfl,?_⟩
   exact hc
  ·intro E θ a w hD hi hp he hc
   have e18 := hp.of (k := 18) rfl
   rcases boolEq (((((r_13.2 == 0) && (r_15.2 == 0)) && (r_17.2.2 == 0)) && (r_20.2 == 0)) && (r_21.2 == 0)) with hb | hb
   ·have hf := he.h0
    replace hf := hf.more he 7 rfl onT
    replace hf := hf.more he 29 rfl (onP e18)
    replace hf := castB hb hf
    refine stP hf rfl rfl rfl (pM rfl) fun a hf => ?_
    replace hf := castI (u := undef) hb hf
    refine cNil ?_
    refine xThenN ?_
    intro ds u hau
    refine ⟨θ,he.put0 hi hau hf rfl 30 rfl rfl,?_⟩
    exact hc
   ·have hf := he.h0
    replace hf := hf.more he 7 rfl onT
    replace hf := hf.more he 29 rfl (onP e18)
    replace hf := castB hb hf
    refine stS hf rfl rfl rfl fun a hf => ?_
    replace hf := castJ (u := i6 r_13.1) hb hf
    refine cNil ?_
    refine xThenN ?_
    intro ds u hau
    refine ⟨θ,he.put0 hi hau hf rfl 30 rfl rfl,?_⟩
    exact hc
  ·intro E θ a w hD hi hp he hc
   have e18 := hp.of (k := 18) rfl
   have e19 := hp.of (k := 19) rfl
   rcases boolEq (((((r_13.2 == 0) && (r_15.2 == 0)) && (r_17.2.2 == 0)) && (r_20.2 == 0)) && (r_21.2 == 0)) with hb | hb
   ·have hf := he.h0
    replace hf := hf.more he 29 rfl (onP e18)
    replace hf := castB hb hf
    replace hf := hf.more he 30 rfl (onP e19)
    replace hf := castCT hb hf
    refine stP hf rfl rfl rfl (pEq rfl rfl) fun a hf => ?_
    replace hf := castI (u := undef) hb hf
    refine cNil ?_
    refine xThenN ?_
    intro ds u hau
    refine ⟨θ,he.put0 hi hau hf rfl 31 rfl rfl,?_⟩
    exact hc
   ·have hf := he.h0
    replace hf := hf.more he 29 rfl (onP e18)
    replace hf := castB hb hf
    replace hf := hf.more he 30 rfl (onP e19)
    replace hf := castCF hb hf
    refine stS hf rfl rfl rfl fun a hf => ?_
    replace hf := castJ (u := .bool (r_13.1 == 5)) hb hf
    refine cNil ?_
    refine xThenN ?_
    intro ds u hau
    refine ⟨θ,he.put0 hi hau hf rfl 31 rfl rfl,?_⟩
    exact hc
  ·intro E θ a w hD hi hp he hc
   have e18 := hp.of (k := 18) rfl
   have e20 := hp.of (k := 20) rfl
   rcases boolEq (((((r_13.2 == 0) && (r_15.2 == 0)) && (r_17.2.2 == 0)) && (r_20.2 == 0)) && (r_21.2 == 0)) with hb | hb
   ·have hf := he.h0
    replace hf := hf.more he 29 rfl (onP e18)
    replace hf := castB hb hf
    replace hf := hf.more he 31 rfl (onP e20)
    replace hf := castCT hb hf
    refine stP hf rfl rfl rfl (pPt rfl rfl) fun a hf => ?_
    replace hf := castV (v' := .bool ((((((r_13.2 == 0) && (r_15.2 == 0)) && (r_17.2.2 == 0)) && (r_20.2 == 0)) && (r_21.2 == 0)) && (r_13.1 == 5))) (congrArg Value.bool (andT hb)) hf
    refine cNil ?_
    refine xThenN ?_
    intro ds u hau
    refine ⟨θ,he.put0 hi hau hf rfl 32 rfl rfl,?_⟩
    exact hc
   ·have hf := he.h0
    replace hf := hf.more he 29 rfl (onP e18)
    replace hf := castB hb hf
    replace hf := hf.more he 31 rfl (onP e20)
    replace hf := castCF hb hf
    refine stP hf rfl rfl rfl (pPf rfl rfl) fun a hf => ?_
    replace hf := castV (v' := .bool ((((((r_13.2 == 0) && (r_15.2 == 0)) && (r_17.2.2 == 0)) && (r_20.2 == 0)) && (r_21.2 == 0)) && (r_13.1 == 5))) (congrArg Value.bool (andF hb)) hf
    refine cNil ?_
    refine xThenN ?_
    intro ds u hau
    refine ⟨θ,he.put0 hi hau hf rfl 32 rfl rfl,?_⟩
    exact hc
  ·intro E θ a w hD hi hp he hc
   have e21 := hp.of (k := 21) rfl
   have hf := he.h0
   replace hf := hf.more he 32 rfl (onP e21)
   refine stP hf rfl rfl rfl (pM rfl) fun a hf => cNil ?_
   refine xThenN ?_
   intro ds u hau
   refine ⟨θ,he.put0 hi hau hf rfl 33 rfl rfl,?_⟩
   exact hc
  ·intro E θ a w hD hi hp he hc
   have e22 := hp.of (k := 22) rfl
   rcases boolEq ((((((r_13.2 == 0) && (r_15.2 == 0)) && (r_17.2.2 == 0)) && (r_20.2 == 0)) && (r_21.2 == 0)) && (r_13.1 == 5)) with hb | hb
   ·have hf := he.h0
    replace hf := hf.more he 8 rfl onT
    replace hf := hf.more he 33 rfl (onP e22)
    replace hf := castB hb hf
    refine stE hf hc rfl rfl rfl (eLdN (vs := [i6 r_15.1.Lo,i6 r_15.1.Hi]) ag_29 rfl rfl (cells_box (n := 2) m6 rfl)) fun a w hf hc => ?_
    replace hf := castI (u := undef) hb hf
    refine cNil ?_
    refine xThenN ?_
    intro ds u hau
    refine ⟨θ,he.put0 hi hau hf rfl 34 rfl rfl,?_⟩
    exact hc
   ·have hf := he.h0
    replace hf := hf.more he 8 rfl onT
    replace hf := hf.more he 33 rfl (onP e22)
    replace hf := castB hb hf
    refine stS hf rfl rfl rfl fun a hf => ?_
    replace hf := castJ (u := .agg #[i6 r_15.1.Lo,i6 r_15.1.Hi]) hb hf
    refine cNil ?_
    refine xThenN ?_
    intro ds u hau
    refine ⟨θ,he.put0 hi hau hf rfl 34 rfl rfl,?_⟩
    exact hc
  ·intro E θ a w hD hi hp he hc
   have e22 := hp.of (k := 22) rfl
   rcases boolEq ((((((r_13.2 == 0) && (r_15.2 == 0)) && (r_17.2.2 == 0)) && (r_20.2 == 0)) && (r_21.2 == 0)) && (r_13.1 == 5)) with hb | hb
   ·have hf := he.h0
    replace hf := hf.more he 33 rfl (onP e22)
    replace hf := castB hb hf
    refine stE hf hc rfl rfl rfl (eC (v := .agg #[i6 r_22.Lo,i6 r_22.Hi]) (vs := [i6 290,i6 320]) (caps := []) en_51 rfl rfl rfl rfl (fun w hc => law11_span_ok 290 320 hc (condT hb hr_22))) fun a w hf hc => ?_
    replace hf := castI (u := undef) hb hf
    refine cNil ?_
    refine xThenN ?_
    intro ds u hau
    refine ⟨θ,he.put0 hi hau hf rfl 35 rfl rfl,?_⟩
    exact hc
   ·have hf := he.h0
    replace hf := hf.more he 33 rfl (onP e22)
    replace hf := castB hb hf
    refine stS hf rfl rfl rfl fun a hf => ?_
    replace hf := castJ (u := .agg #[i6 r_22.Lo,i6 r_22.Hi]) hb hf
    refine cNil ?_
    refine xThenN ?_
    intro ds u hau
    refine ⟨θ,he.put0 hi hau hf rfl 35 rfl rfl,?_⟩
    exact hc
  ·intro E θ a w hD hi hp he hc
   have e22 := hp.of (k := 22) rfl
   have e23 := hp.of (k := 23) rfl
   have e24 := hp.of (k := 24) rfl
   rcases boolEq ((((((r_13.2 == 0) && (r_15.2 == 0)) && (r_17.2.2 == 0)) && (r_20.2 == 0)) && (r_21.2 == 0)) && (r_13.1 == 5)) with hb | hb
   ·have hf := he.h0
    replace hf := hf.more he 33 rfl (onP e22)
    replace hf := castB hb hf
    replace hf := hf.more he 34 rfl (onP e23)
    replace hf := castCT hb hf
    replace hf := hf.more he 35 rfl (onP e24)
    replace hf := castCT hb hf
    refine stP hf rfl rfl rfl (pEqA ge_29 rfl rfl (eqs_29 _ _ _ _)) fun a hf => ?_
    replace hf := castI (u := undef) hb hf
    refine cNil ?_
    refine xThenN ?_
    intro ds u hau
    refine ⟨θ,he.put0 hi hau hf rfl 36 rfl rfl,?_⟩
    exact hc
   ·have hf := he.h0
    replace hf := hf.more he 33 rfl (onP e22)
    replace hf := castB hb hf
    replace hf := hf.more he 34 rfl (onP e23)
    replace hf := castCF hb hf
    replace hf := hf.more he 35 rfl (onP e24)
    replace hf := castCF hb hf
    refine stS hf rfl rfl rfl fun a hf => ?_
    replace hf := castJ (u := .bool (r_15.1.Lo == r_22.Lo && r_15.1.Hi == r_22.Hi)) hb hf
    refine cNil ?_
    refine xThenN ?_
    intro ds u hau
    refine ⟨θ,he.put0 hi hau hf rfl 36 rfl rfl,?_⟩
    exact hc
  ·intro E θ a w hD hi hp he hc
   have e22 := hp.of (k := 22) rfl
   have e25 := hp.of (k := 25) rfl
   rcases boolEq ((((((r_13.2 == 0) && (r_15.2 == 0)) && (r_17.2.2 == 0)) && (r_20.2 == 0)) && (r_21.2 == 0)) && (r_13.1 == 5)) with hb | hb
   ·have hf := he.h0
    replace hf := hf.more he 33 rfl (onP e22)
    replace hf := castB hb hf
    replace hf := hf.more he 36 rfl (onP e25)
    replace hf := castCT hb hf
    refine stP hf rfl rfl rfl (pPt rfl rfl) fun a hf => ?_
    replace hf := castV (v' := .bool (((((((r_13.2 == 0) && (r_15.2 == 0)) && (r_17.2.2 == 0)) && (r_20.2 == 0)) && (r_21.2 == 0)) && (r_13.1 == 5)) && (r_15.1.Lo == r_22.Lo && r_15.1.Hi == r_22.Hi))) (congrArg Value.bool (andT hb)) hf
    refine cNil ?_
    refine xThenN ?_
    intro ds u hau
    refine ⟨θ,he.put0 hi hau hf rfl 37 rfl rfl,?_⟩
    exact hc
   ·have hf := he.h0
    replace hf := hf.more he 33 rfl (onP e22)
    replace hf := castB hb hf
    replace hf := hf.more he 36 rfl (onP e25)
    replace hf := castCF hb hf
    refine stP hf rfl rfl rfl (pPf rfl rfl) fun a hf => ?_
    replace hf := castV (v' := .bool (((((((r_13.2 == 0) && (r_15.2 == 0)) && (r_17.2.2 == 0)) && (r_20.2 == 0)) && (r_21.2 == 0)) && (r_13.1 == 5)) && (r_15.1.Lo == r_22.Lo && r_15.1.Hi == r_22.Hi))) (congrArg Value.bool (andF hb)) hf
    refine cNil ?_
    refine xThenN ?_
    intro ds u hau
    refine ⟨θ,he.put0 hi hau hf rfl 37 rfl rfl,?_⟩
    exact hc
  ·intro E θ a w hD hi hp he hc
   have e26 := hp.of (k := 26) rfl
   have hf := he.h0
   replace hf := hf.more he 37 rfl (onP e26)
   refine stP hf rfl rfl rfl (pM rfl) fun a hf => cNil ?_
   refine xThenN ?_
   intro ds u hau
   refine ⟨θ,he.put0 hi hau hf rfl 38 rfl rfl,?_⟩
   exact hc
  ·intro E θ a w hD hi hp he hc
   have e27 := hp.of (k := 27) rfl
   rcases boolEq (((((((r_13.2 == 0) && (r_15.2 == 0)) && (r_17.2.2 == 0)) && (r_20.2 == 0)) && (r_21.2 == 0)) && (r_13.1 == 5)) && (r_15.1.Lo == r_22.Lo && r_15.1.Hi == r_22.Hi)) with hb | hb
   ·have hf := he.h0
    replace hf := hf.more he 4 rfl onT
    replace hf := hf.more he 38 rfl (onP e27)
    replace hf := castB hb hf
    refine stP hf rfl rfl rfl (pM rfl) fun a hf => ?_
    replace hf := castI (u := undef) hb hf
    refine cNil ?_
    refine xThenN ?_
    intro ds u hau
    refine ⟨θ,he.put0 hi hau hf rfl 39 rfl rfl,?_⟩
    exact hc
   ·have hf := he.h0
    replace hf := hf.more he 4 rfl onT
    replace hf := hf.more he 38 rfl (onP e27)
    replace hf := castB hb hf
    refine stS hf rfl rfl rfl fun a hf => ?_
    replace hf := castJ (u := i6 r_17.1) hb hf
    refine cNil ?_
    refine xThenN ?_
    intro ds u hau
    refine ⟨θ,he.put0 hi hau hf rfl 39 rfl rfl,?_⟩
    exact hc
  ·intro E θ a w hD hi hp he hc
   have e27 := hp.of (k := 27) rfl
   have e28 := hp.of (k := 28) rfl
   rcases boolEq (((((((r_13.2 == 0) && (r_15.2 == 0)) && (r_17.2.2 == 0)) && (r_20.2 == 0)) && (r_21.2 == 0)) && (r_13.1 == 5)) && (r_15.1.Lo == r_22.Lo && r_15.1.Hi == r_22.Hi)) with hb | hb
   ·have hf := he.h0
    replace hf := hf.more he 38 rfl (onP e27)
    replace hf := castB hb hf
    replace hf := hf.more he 39 rfl (onP e28)
    replace hf := castCT hb hf
    refine stP hf rfl rfl rfl (pEq rfl rfl) fun a hf => ?_
    replace hf := castI (u := undef) hb hf
    refine cNil ?_
    refine xThenN ?_
    intro ds u hau
    refine ⟨θ,he.put0 hi hau hf rfl 40 rfl rfl,?_⟩
    exact hc
   ·have hf := he.h0
    replace hf := hf.more he 38 rfl (onP e27)
    replace hf := castB hb hf
    replace hf := hf.more he 39 rfl (onP e28)
    replace hf := castCF hb hf
    refine stS hf rfl rfl rfl fun a hf => ?_
    replace hf := castJ (u := .bool (r_17.1 == 5)) hb hf
    refine cNil ?_
    refine xThenN ?_
    intro ds u hau
    refine ⟨θ,he.put0 hi hau hf rfl 40 rfl rfl,?_⟩
    exact hc
  ·intro E θ a w hD hi hp he hc
   have e27 := hp.of (k := 27) rfl
   have e29 := hp.of (k := 29) rfl
   rcases boolEq (((((((r_13.2 == 0) && (r_15.2 == 0)) && (r_17.2.2 == 0)) && (r_20.2 == 0)) && (r_21.2 == 0)) && (r_13.1 == 5)) && (r_15.1.Lo == r_22.Lo && r_15.1.Hi == r_22.Hi)) with hb | hb
   ·have hf := he.h0
    replace hf := hf.more he 38 rfl (onP e27)
    replace hf := castB hb hf
    replace hf := hf.more he 40 rfl (onP e29)
    replace hf := castCT hb hf
    refine stP hf rfl rfl rfl (pPt rfl rfl) fun a hf => ?_
    replace hf := castV (v' := .bool ((((((((r_13.2 == 0) && (r_15.2 == 0)) && (r_17.2.2 == 0)) && (r_20.2 == 0)) && (r_21.2 == 0)) && (r_13.1 == 5)) && (r_15.1.Lo == r_22.Lo && r_15.1.Hi == r_22.Hi)) && (r_17.1 == 5))) (congrArg Value.bool (andT hb)) hf
    refine cNil ?_
    refine xThenN ?_
    intro ds u hau
    refine ⟨θ,he.put0 hi hau hf rfl 41 rfl rfl,?_⟩
    exact hc
   ·have hf := he.h0
    replace hf := hf.more he 38 rfl (onP e27)
    replace hf := castB hb hf
    replace hf := hf.more he 40 rfl (onP e29)
    replace hf := castCF hb hf
    refine stP hf rfl rfl rfl (pPf rfl rfl) fun a hf => ?_
    replace hf := castV (v' := .bool ((((((((r_13.2 == 0) && (r_15.2 == 0)) && (r_17.2.2 == 0)) && (r_20.2 == 0)) && (r_21.2 == 0)) && (r_13.1 == 5)) && (r_15.1.Lo == r_22.Lo && r_15.1.Hi == r_22.Hi)) && (r_17.1 == 5))) (congrArg Value.bool (andF hb)) hf
    refine cNil ?_
    refine xThenN ?_
    intro ds u hau
    refine ⟨θ,he.put0 hi hau hf rfl 41 rfl rfl,?_⟩
    exact hc
  ·intro E θ a w hD hi hp he hc
   have e30 := hp.of (k := 30) rfl
   have hf := he.h0
   replace hf := hf.more he 41 rfl (onP e30)
   refine stP hf rfl rfl rfl (pM rfl) fun a hf => cNil ?_
   refine xThenN ?_
   intro ds u hau
   refine ⟨θ,he.put0 hi hau hf rfl 42 rfl rfl,?_⟩
   exact hc
  ·intro E θ a w hD hi hp he hc
   have e31 := hp.of (k := 31) rfl
   rcases boolEq ((((((((r_13.2 == 0) && (r_15.2 == 0)) && (r_17.2.2 == 0)) && (r_20.2 == 0)) && (r_21.2 == 0)) && (r_13.1 == 5)) && (r_15.1.Lo == r_22.Lo && r_15.1.Hi == r_22.Hi)) && (r_17.1 == 5)) with hb | hb
   ·have hf := he.h0
    replace hf := hf.more he 5 rfl onT
    replace hf := hf.more he 42 rfl (onP e31)
    replace hf := castB hb hf
    refine stP hf rfl rfl rfl (pM rfl) fun a hf => ?_
    replace hf := castI (u := undef) hb hf
    refine cNil ?_
    refine xThenN ?_
    intro ds u hau
    refine ⟨θ,he.put0 hi hau hf rfl 43 rfl rfl,?_⟩
    exact hc
   ·have hf := he.h0
    replace hf := hf.more he 5 rfl onT
    replace hf := hf.more he 42 rfl (onP e31)
    replace hf := castB hb hf
    refine stS hf rfl rfl rfl fun a hf => ?_
    replace hf := castJ (u := i6 r_17.2.1) hb hf
    refine cNil ?_
    refine xThenN ?_
    intro ds u hau
    refine ⟨θ,he.put0 hi hau hf rfl 43 rfl rfl,?_⟩
    exact hc
  ·intro E θ a w hD hi hp he hc
   have e31 := hp.of (k := 31) rfl
   have e32 := hp.of (k := 32) rfl
   rcases boolEq ((((((((r_13.2 == 0) && (r_15.2 == 0)) && (r_17.2.2 == 0)) && (r_20.2 == 0)) && (r_21.2 == 0)) && (r_13.1 == 5)) && (r_15.1.Lo == r_22.Lo && r_15.1.Hi == r_22.Hi)) && (r_17.1 == 5)) with hb | hb
   ·have hf := he.h0
    replace hf := hf.more he 42 rfl (onP e31)
    replace hf := castB hb hf
    replace hf := hf.more he 43 rfl (onP e32)
    replace hf := castCT hb hf
    refine stP hf rfl rfl rfl (pEq rfl rfl) fun a hf => ?_
    replace hf := castI (u := undef) hb hf
    refine cNil ?_
    refine xThenN ?_
    intro ds u hau
    refine ⟨θ,he.put0 hi hau hf rfl 44 rfl rfl,?_⟩
    exact hc
   ·have hf := he.h0
    replace hf := hf.more he 42 rfl (onP e31)
    replace hf := castB hb hf
    replace hf := hf.more he 43 rfl (onP e32)
    replace hf := castCF hb hf
    refine stS hf rfl rfl rfl fun a hf => ?_
    replace hf := castJ (u := .bool (r_17.2.1 == (-1))) hb hf
    refine cNil ?_
    refine xThenN ?_
    intro ds u hau
    refine ⟨θ,he.put0 hi hau hf rfl 44 rfl rfl,?_⟩
    exact hc
  ·intro E θ a w hD hi hp he hc
   have e31 := hp.of (k := 31) rfl
   have e33 := hp.of (k := 33) rfl
   rcases boolEq ((((((((r_13.2 == 0) && (r_15.2 == 0)) && (r_17.2.2 == 0)) && (r_20.2 == 0)) && (r_21.2 == 0)) && (r_13.1 == 5)) && (r_15.1.Lo == r_22.Lo && r_15.1.Hi == r_22.Hi)) && (r_17.1 == 5)) with hb | hb
   ·have hf := he.h0
    replace hf := hf.more he 42 rfl (onP e31)
    replace hf := castB hb hf
    replace hf := hf.more he 44 rfl (onP e33)
    replace hf := castCT hb hf
    refine stP hf rfl rfl rfl (pPt rfl rfl) fun a hf => ?_
    replace hf := castV (v' := .bool (((((((((r_13.2 == 0) && (r_15.2 == 0)) && (r_17.2.2 == 0)) && (r_20.2 == 0)) && (r_21.2 == 0)) && (r_13.1 == 5)) && (r_15.1.Lo == r_22.Lo && r_15.1.Hi == r_22.Hi)) && (r_17.1 == 5)) && (r_17.2.1 == (-1)))) (congrArg Value.bool (andT hb)) hf
    refine cNil ?_
    refine xThenN ?_
    intro ds u hau
    refine ⟨θ,he.put0 hi hau hf rfl 45 rfl rfl,?_⟩
    exact hc
   ·have hf := he.h0
    replace hf := hf.more he 42 rfl (onP e31)
    replace hf := castB hb hf
    replace hf := hf.more he 44 rfl (onP e33)
    replace hf := castCF hb hf
    refine stP hf rfl rfl rfl (pPf rfl rfl) fun a hf => ?_
    replace hf := castV (v' := .bool (((((((((r_13.2 == 0) && (r_15.2 == 0)) && (r_17.2.2 == 0)) && (r_20.2 == 0)) && (r_21.2 == 0)) && (r_13.1 == 5)) && (r_15.1.Lo == r_22.Lo && r_15.1.Hi == r_22.Hi)) && (r_17.1 == 5)) && (r_17.2.1 == (-1)))) (congrArg Value.bool (andF hb)) hf
    refine cNil ?_
    refine xThenN ?_
    intro ds u hau
    refine ⟨θ,he.put0 hi hau hf rfl 45 rfl rfl,?_⟩
    exact hc
  ·intro E θ a w hD hi hp he hc
   have e34 := hp.of (k := 34) rfl
   have hf := he.h0
   replace hf := hf.more he 45 rfl (onP e34)
   refine stP hf rfl rfl rfl (pM rfl) fun a hf => cNil ?_
   refine xThenN ?_
   intro ds u hau
   refine ⟨θ,he.put0 hi hau hf rfl 46 rfl rfl,?_⟩
   exact hc
  ·intro E θ a w hD hi hp he hc
   have e35 := hp.of (k := 35) rfl
   rcases boolEq (((((((((r_13.2 == 0) && (r_15.2 == 0)) && (r_17.2.2 == 0)) && (r_20.2 == 0)) && (r_21.2 == 0)) && (r_13.1 == 5)) && (r_15.1.Lo == r_22.Lo && r_15.1.Hi == r_22.Hi)) && (r_17.1 == 5)) && (r_17.2.1 == (-1))) with hb | hb
   ·have hf := he.h0
    replace hf := hf.more he 9 rfl onT
    replace hf := hf.more he 46 rfl (onP e35)
    replace hf := castB hb hf
    refine stP hf rfl rfl rfl (pM rfl) fun a hf => ?_
    replace hf := castI (u := undef) hb hf
    refine cNil ?_
    refine xThenN ?_
    intro ds u hau
    refine ⟨θ,he.put0 hi hau hf rfl 47 rfl rfl,?_⟩
    exact hc
   ·have hf := he.h0
    replace hf := hf.more he 9 rfl onT
    replace hf := hf.more he 46 rfl (onP e35)
    replace hf := castB hb hf
    refine stS hf rfl rfl rfl fun a hf => ?_
    replace hf := castJ (u := .slice p_17 r_20.1.length c_11) hb hf
    refine cNil ?_
    refine xThenN ?_
    intro ds u hau
    refine ⟨θ,he.put0 hi hau hf rfl 47 rfl rfl,?_⟩
    exact hc
  ·intro E θ a w hD hi hp he hc
   have e35 := hp.of (k := 35) rfl
   try dsimp only at hc
   rw [hi] at hc
   rcases boolEq (((((((((r_13.2 == 0) && (r_15.2 == 0)) && (r_17.2.2 == 0)) && (r_20.2 == 0)) && (r_21.2 == 0)) && (r_13.1 == 5)) && (r_15.1.Lo == r_22.Lo && r_15.1.Hi == r_22.Hi)) && (r_17.1 == 5)) && (r_17.2.1 == (-1))) with hb | hb
   ·have hf := he.h0
    replace hf := hf.more he 46 rfl (onP e35)
    replace hf := castB hb hf
    refine stBS (rows := ([0,10,15] : List Int).map encI_i64) (vs := [(0,i6 0),(1,i6 10),(2,i6 15)]) hf hc rfl rfl sl_25 rfl ⟨rfl,rfl,rfl,rfl,rfl,rfl,rfl,rfl,rfl,trivial⟩ rfl rfl fun b_11 a w hf hc => ?_
    replace hf := castI (u := undef) hb hf
    refine cNil ?_
    refine xThenN ?_
    intro ds u hau
    replace hc := hc.drop k1
    refine ⟨(setT θ 296 ⟨b_11,none,0,(fun _ => (none,0))⟩),he.put hi hau hf rfl [] trivial ⟨qq,qq,qq,qq,qq,qq,qq,qq,qq,qq,qq,qq,qq,qq,qq,qq,qq,qq,qq,qq,qq,qq,qq,qq,qq,qq,qq,qq,qq,qq,qq,qq,qq,qq,qq,qq,qq,qq,qq,qq,qq,qq,qq,qq,qq,qq,qq,qq,qq,qq,qq,qq,qq,qq,qq,qq,trivial⟩,?_⟩
    try dsimp only
    rw [updE_self E 37]
    rw [gE_T hb]
    exact hc
   ·have hf := he.h0
    replace hf := hf.more he 46 rfl (onP e35)
    replace hf := castB hb hf
    refine stS hf rfl rfl rfl fun a hf => ?_
    replace hf := castJ (u := .slice (some ⟨(θ 296).b,0,none⟩) 3 3) hb hf
    refine cNil ?_
    refine xThenN ?_
    intro ds u hau
    refine ⟨θ,he.put0 hi hau hf rfl 48 rfl rfl,?_⟩
    try dsimp only
    rw [updE_self E 37]
    rw [gE_F hb]
    exact hc
  ·intro E θ a w hD hi hp he hc
   have e35 := hp.of (k := 35) rfl
   have e36 := hp.of (k := 36) rfl
   have e37 := hp.of (k := 37) rfl
   try dsimp only at hc
   rw [e37] at hc
   rcases boolEq (((((((((r_13.2 == 0) && (r_15.2 == 0)) && (r_17.2.2 == 0)) && (r_20.2 == 0)) && (r_21.2 == 0)) && (r_13.1 == 5)) && (r_15.1.Lo == r_22.Lo && r_15.1.Hi == r_22.Hi)) && (r_17.1 == 5)) && (r_17.2.1 == (-1))) with hb | hb
   ·have hf := he.h0
    replace hf := hf.more he 46 rfl (onP e35)
    replace hf := castB hb hf
    replace hf := hf.more he 47 rfl (onP e36)
    replace hf := castCT hb hf
    replace hf := hf.more he 48 rfl (onP e37)
    replace hf := castCT hb hf
    rw [gE_T hb] at hc
    refine stE hf hc rfl rfl rfl (eC (v := .bool r_23) (vs := [.slice p_17 r_20.1.length c_11,.slice (some ⟨(θ 296).b,0,none⟩) 3 3]) (caps := []) en_29 rfl rfl rfl rfl (fun w hc => by obtain ⟨G1,hle1,hrd1,hc,hth1⟩ := lend hc k3; obtain ⟨G2,hle2,hrd2,hc,hth2⟩ := lend hc k0; exact (kit_Same_int_ok r_20.1 ([0,10,15] : List Int) (hrd1.mono hle2) hrd2 hc (condT hb hr_23)).mono fun e w h => ⟨h.1,((hth1 _ _ ((hth2 _ _ h.2).unpick k0)).unpick k3)⟩)) fun a w hf hc => ?_
    replace hf := castI (u := undef) hb hf
    refine cNil ?_
    refine xThenN ?_
    intro ds u hau
    refine ⟨θ,he.put0 hi hau hf rfl 49 rfl rfl,?_⟩
    try dsimp only
    rw [updE_tru 38 e37]
    rw [gE_T hb]
    exact hc
   ·have hf := he.h0
    replace hf := hf.more he 46 rfl (onP e35)
    replace hf := castB hb hf
    replace hf := hf.more he 47 rfl (onP e36)
    replace hf := castCF hb hf
    replace hf := hf.more he 48 rfl (onP e37)
    replace hf := castCF hb hf
    rw [gE_F hb] at hc
    refine stS hf rfl rfl rfl fun a hf => ?_
    replace hf := castJ (u := .bool r_23) hb hf
    refine cNil ?_
    refine xThenN ?_
    intro ds u hau
    refine ⟨θ,he.put0 hi hau hf rfl 49 rfl rfl,?_⟩
    try dsimp only
    rw [updE_tru 38 e37]
    rw [gE_F hb]
    exact hc
  ·intro E θ a w hD hi hp he hc
   have e35 := hp.of (k := 35) rfl
   have e38 := hp.of (k := 38) rfl
   rcases boolEq (((((((((r_13.2 == 0) && (r_15.2 == 0)) && (r_17.2.2 == 0)) && (r_20.2 == 0)) && (r_21.2 == 0)) && (r_13.1 == 5)) && (r_15.1.Lo == r_22.Lo && r_15.1.Hi == r_22.Hi)) && (r_17.1 == 5)) && (r_17.2.1 == (-1))) with hb | hb
   ·have hf := he.h0
    replace hf := hf.more he 46 rfl (onP e35)
    replace hf := castB hb hf
    replace hf := hf.more he 49 rfl (onP e38)
    replace hf := castCT hb hf
    refine stP hf rfl rfl rfl (pPt rfl rfl) fun a hf => ?_
    replace hf := castV (v' := .bool ((((((((((r_13.2 == 0) && (r_15.2 == 0)) && (r_17.2.2 == 0)) && (r_20.2 == 0)) && (r_21.2 == 0)) && (r_13.1 == 5)) && (r_15.1.Lo == r_22.Lo && r_15.1.Hi == r_22.Hi)) && (r_17.1 == 5)) && (r_17.2.1 == (-1))) && r_23)) (congrArg Value.bool (andT hb)) hf
    refine cNil ?_
    refine xThenN ?_
    intro ds u hau
    refine ⟨θ,he.put0 hi hau hf rfl 50 rfl rfl,?_⟩
    exact hc
   ·have hf := he.h0
    replace hf := hf.more he 46 rfl (onP e35)
    replace hf := castB hb hf
    replace hf := hf.more he 49 rfl (onP e38)
    replace hf := castCF hb hf
    refine stP hf rfl rfl rfl (pPf rfl rfl) fun a hf => ?_
    replace hf := castV (v' := .bool ((((((((((r_13.2 == 0) && (r_15.2 == 0)) && (r_17.2.2 == 0)) && (r_20.2 == 0)) && (r_21.2 == 0)) && (r_13.1 == 5)) && (r_15.1.Lo == r_22.Lo && r_15.1.Hi == r_22.Hi)) && (r_17.1 == 5)) && (r_17.2.1 == (-1))) && r_23)) (congrArg Value.bool (andF hb)) hf
    refine cNil ?_
    refine xThenN ?_
    intro ds u hau
    refine ⟨θ,he.put0 hi hau hf rfl 50 rfl rfl,?_⟩
    exact hc
  ·intro E θ a w hD hi hp he hc
   have e39 := hp.of (k := 39) rfl
   have hf := he.h0
   replace hf := hf.more he 50 rfl (onP e39)
   refine stP hf rfl rfl rfl (pM rfl) fun a hf => cNil ?_
   refine xThenN ?_
   intro ds u hau
   refine ⟨θ,he.put0 hi hau hf rfl 51 rfl rfl,?_⟩
   exact hc
  ·intro E θ a w hD hi hp he hc
   have e40 := hp.of (k := 40) rfl
   rcases boolEq ((((((((((r_13.2 == 0) && (r_15.2 == 0)) && (r_17.2.2 == 0)) && (r_20.2 == 0)) && (r_21.2 == 0)) && (r_13.1 == 5)) && (r_15.1.Lo == r_22.Lo && r_15.1.Hi == r_22.Hi)) && (r_17.1 == 5)) && (r_17.2.1 == (-1))) && r_23) with hb | hb
   ·have hf := he.h0
    replace hf := hf.more he 10 rfl onT
    replace hf := hf.more he 51 rfl (onP e40)
    replace hf := castB hb hf
    refine stP hf rfl rfl rfl (pM rfl) fun a hf => ?_
    replace hf := castI (u := undef) hb hf
    refine cNil ?_
    refine xThenN ?_
    intro ds u hau
    refine ⟨θ,he.put0 hi hau hf rfl 52 rfl rfl,?_⟩
    exact hc
   ·have hf := he.h0
    replace hf := hf.more he 10 rfl onT
    replace hf := hf.more he 51 rfl (onP e40)
    replace hf := castB hb hf
    refine stS hf rfl rfl rfl fun a hf => ?_
    replace hf := castJ (u := i6 r_21.1) hb hf
    refine cNil ?_
    refine xThenN ?_
    intro ds u hau
    refine ⟨θ,he.put0 hi hau hf rfl 52 rfl rfl,?_⟩
    exact hc
  ·intro E θ a w hD hi hp he hc
   have e40 := hp.of (k := 40) rfl
   have e41 := hp.of (k := 41) rfl
   rcases boolEq ((((((((((r_13.2 == 0) && (r_15.2 == 0)) && (r_17.2.2 == 0)) && (r_20.2 == 0)) && (r_21.2 == 0)) && (r_13.1 == 5)) && (r_15.1.Lo == r_22.Lo && r_15.1.Hi == r_22.Hi)) && (r_17.1 == 5)) && (r_17.2.1 == (-1))) && r_23) with hb | hb
   ·have hf := he.h0
    replace hf := hf.more he 51 rfl (onP e40)
    replace hf := castB hb hf
    replace hf := hf.more he 52 rfl (onP e41)
    replace hf := castCT hb hf
    refine stP hf rfl rfl rfl (pEq rfl rfl) fun a hf => ?_
    replace hf := castI (u := undef) hb hf
    refine cNil ?_
    refine xThenN ?_
    intro ds u hau
    refine ⟨θ,he.put0 hi hau hf rfl 53 rfl rfl,?_⟩
    exact hc
   ·have hf := he.h0
    replace hf := hf.more he 51 rfl (onP e40)
    replace hf := castB hb hf
    replace hf := hf.more he 52 rfl (onP e41)
    replace hf := castCF hb hf
    refine stS hf rfl rfl rfl fun a hf => ?_
    replace hf := castJ (u := .bool (r_21.1 == 4815)) hb hf
    refine cNil ?_
    refine xThenN ?_
    intro ds u hau
    refine ⟨θ,he.put0 hi hau hf rfl 53 rfl rfl,?_⟩
    exact hc
  ·intro E θ a w hD hi hp he hc
   have e40 := hp.of (k := 40) rfl
   have e42 := hp.of (k := 42) rfl
   rcases boolEq ((((((((((r_13.2 == 0) && (r_15.2 == 0)) && (r_17.2.2 == 0)) && (r_20.2 == 0)) && (r_21.2 == 0)) && (r_13.1 == 5)) && (r_15.1.Lo == r_22.Lo && r_15.1.Hi == r_22.Hi)) && (r_17.1 == 5)) && (r_17.2.1 == (-1))) && r_23) with hb | hb
   ·have hf := he.h0
    replace hf := hf.more he 51 rfl (onP e40)
    replace hf := castB hb hf
    replace hf := hf.more he 53 rfl (onP e42)
    replace hf := castCT hb hf
    refine stP hf rfl rfl rfl (pPt rfl rfl) fun a hf => ?_
    replace hf := castV (v' := .bool (((((((((((r_13.2 == 0) && (r_15.2 == 0)) && (r_17.2.2 == 0)) && (r_20.2 == 0)) && (r_21.2 == 0)) && (r_13.1 == 5)) && (r_15.1.Lo == r_22.Lo && r_15.1.Hi == r_22.Hi)) && (r_17.1 == 5)) && (r_17.2.1 == (-1))) && r_23) && (r_21.1 == 4815))) (congrArg Value.bool (andT hb)) hf
    refine cNil ?_
    refine xThenN ?_
    intro ds u hau
    refine ⟨θ,he.put0 hi hau hf rfl 54 rfl rfl,?_⟩
    exact hc
   ·have hf := he.h0
    replace hf := hf.more he 51 rfl (onP e40)
    replace hf := castB hb hf
    replace hf := hf.more he 53 rfl (onP e42)
    replace hf := castCF hb hf
    refine stP hf rfl rfl rfl (pPf rfl rfl) fun a hf => ?_
    replace hf := castV (v' := .bool (((((((((((r_13.2 == 0) && (r_15.2 == 0)) && (r_17.2.2 == 0)) && (r_20.2 == 0)) && (r_21.2 == 0)) && (r_13.1 == 5)) && (r_15.1.Lo == r_22.Lo && r_15.1.Hi == r_22.Hi)) && (r_17.1 == 5)) && (r_17.2.1 == (-1))) && r_23) && (r_21.1 == 4815))) (congrArg Value.bool (andF hb)) hf
    refine cNil ?_
    refine xThenN ?_
    intro ds u hau
    refine ⟨θ,he.put0 hi hau hf rfl 54 rfl rfl,?_⟩
    exact hc
  ·intro E θ a w hD hi hp he hc
   have e43 := hp.of (k := 43) rfl
   have hf := he.h0
   replace hf := hf.more he 54 rfl (onP e43)
   refine stP hf rfl rfl rfl (pA rfl) fun a hf => cNil ?_
   refine xThenN ?_
   intro ds u hau
   refine ⟨θ,he.put0 hi hau hf rfl 55 rfl rfl,?_⟩
   exact hc
  ·intro E θ a w hall he hc
   have hf := he.h0
   have e37 := hall 37 rfl
   have e44 := hall 44 rfl
   replace hf := hf.more he 55 rfl (onP e44)
   try dsimp only at hc
   rw [e37] at hc
   replace hc := hc.drop k0
   exact ⟨hf.kp rfl,hc⟩
  rintro a w ⟨hf,hc⟩
  refine h17 _ _ ?_
  refine wp_ret ?_
  obtain rfl := sj hF
  replace hc := hc.drop k5
  replace hc := hc.drop k4
  replace hc := hc.drop k3
  replace hc := hc.drop k2
  replace hc := hc.drop k1
  replace hc := hc.drop k0
  exact fnOut1 (by simp) rfl Tryz.results15 hf hc (show look _ 0 = _ from rfl) ⟨rfl,hc⟩

def kit_Copy_int (N : Nat) (l : List Int) : Option ((List Int)) :=
 Option.bind (room (l).length) fun un =>
 some l
theorem kit_Copy_int_ok {N : Nat} {G : Pers} {Lf : List Ent} {w : World} (l : List Int) {l_p : Option Addr} {l_c : Nat} (h_l : Rd G 1 l_p l_c (l.map encI_i64)) (hc : Ctx G (Lf) w) {res : (List Int)} (hF : kit_Copy_int N l = some res) : Calls Tryz.prog 17 #[.slice l_p l.length l_c] w (fun e w => ∃ (p'1 : Option Addr) (c'1 : Nat),e = .returned (.slice p'1 res.length c'1) ∧ Ctx G (.row p'1 c'1 (res.map encI_i64) 3 1::Lf) w) := by
 unfold kit_Copy_int at hF
 refine fnIn (args := [.slice l_p l.length l_c]) Tryz.func17 rfl Tryz.ntmps17 rfl fun a hf => wp_seq_k fun K1 h1 => cReg ?_
 refine stP hf rfl rfl rfl (pA rfl) fun a hf => cNil ?_
 refine h1 _ _ ?_
 refine wp_seq_k fun K2 h2 => cReg ?_
 refine stP hf rfl rfl rfl (pA rfl) fun a hf => cNil ?_
 refine h2 _ _ ?_
 refine wp_seq_k fun K3 h3 => cReg ?_
 refine stP hf rfl rfl rfl (pM rfl) fun a hf => stP hf rfl rfl rfl (pM rfl) fun a hf => ?_
 replace hc := hc.nilRow 3 1
 obtain ⟨un,hun,hF⟩ := bnd_some hF
 refine stApm (xs := ([] : List Int)) (ys := l) hf hc rfl rfl sl_25 rfl rfl rfl rfl rfl one_encI_i64 (src_rd hc h_l) (fun _ _ => u0) (by simpa using room_spec hun) fun p_1 c_1 a w hf hc => stP hf rfl rfl rfl (pA rfl) fun a hf => cNil ?_
 refine h3 _ _ ?_
 refine wp_ret ?_
 obtain rfl := sj hF
 exact fnOut1 (by simp) rfl Tryz.results17 hf hc (show look _ 2 = _ from rfl) ⟨p_1,c_1,rfl,hc⟩

def law11_has_j9 (N : Nat) (x : Int) (out_1 : List Int) : Option (Step ((List Int) × Int) ((List Int))) :=
 some (.cont (out_1,W (x + 1)))
def law11_has_b5 (N : Nat) (assignment : List Int) (out : List Int) (x : Int) : Option (Step ((List Int) × Int) ((List Int))) :=
 cond (decide (x < ((assignment.length : Nat) : Int)))
 (Option.bind (getI assignment x) fun e_1 =>
 cond ((decide (0 ≤ e_1)) && (decide (e_1 < ((out.length : Nat) : Int))))
 (Option.bind (getI out e_1) fun e_2 =>
 Option.bind (getI out e_1) fun e_3 =>
 law11_has_j9 N x (out.set e_1.toNat (W (e_2 + 1))))
 (law11_has_j9 N x out))
 (some (.brk (out,x)))
def law11_has (N : Nat) (r : crew_Roster) (assignment : List Int) : Option ((List Int)) :=
 Option.bind (inM ((r.Stations.length : Nat) : Int)) fun un =>
 Option.bind (loopO (fun s5 => law11_has_b5 N assignment s5.1 s5.2) N ((List.replicate ((r.Stations.length : Nat) : Int).toNat (0 : Int)),0)) fun x5 =>
 exK x5 (fun s5 => some s5.1) some
theorem law11_has_ok {N : Nat} {G : Pers} {Lf : List Ent} {w : World} (r : crew_Roster) (assignment : List Int) {r_People_p : Option Addr} {r_People_c : Nat} {r_Stations_p : Option Addr} {r_Stations_c : Nat} {assignment_p : Option Addr} {assignment_c : Nat} (h_r_People : RdT kd_25 G 1 r_People_p r_People_c r.People) (h_r_Stations : RdT kd_101 G 2 r_Stations_p r_Stations_c r.Stations) (h_assignment : Rd G 1 assignment_p assignment_c (assignment.map encI_i64)) (hc : Ctx G (Lf) w) {res : (List Int)} (hF : law11_has N r assignment = some res) : Calls Tryz.prog 47 #[.agg #[.slice r_People_p r.People.length r_People_c,.slice r_Stations_p r.Stations.length r_Stations_c],.slice assignment_p assignment.length assignment_c] w (fun e w => ∃ (p'1 : Option Addr) (c'1 : Nat),e = .returned (.slice p'1 res.length c'1) ∧ Ctx G (.row p'1 c'1 (res.map encI_i64) 3 1::Lf) w) := by
 unfold law11_has at hF
 refine fnIn (args := [.agg #[.slice r_People_p r.People.length r_People_c,.slice r_Stations_p r.Stations.length r_Stations_c],.slice assignment_p assignment.length assignment_c]) Tryz.func47 rfl Tryz.ntmps47 rfl fun a hf => wp_seq_k fun K1 h1 => cReg ?_
 refine stBx (cs := [.slice r_People_p r.People.length r_People_c,.slice r_Stations_p r.Stations.length r_Stations_c]) hf hc rfl rfl rfl rfl fun b_1 a w hf hc => stP hf rfl rfl rfl (pA rfl) fun a hf => cNil ?_
 refine h1 _ _ ?_
 refine wp_seq_k fun K2 h2 => cReg ?_
 refine stP hf rfl rfl rfl (pFA fa_78_1 rfl) fun a hf => stE hf hc rfl rfl rfl (eLd1 sc_76 rfl (cell_box m0 rfl)) fun a w hf hc => stP hf rfl rfl rfl (pLenS Tryz.underlying76 rfl) fun a hf => ?_
 obtain ⟨un,hun,hF⟩ := bnd_some hF
 refine stMk (m := (List.replicate ((r.Stations.length : Nat) : Int).toNat (0 : Int)).length) (rows := (List.replicate ((r.Stations.length : Nat) : Int).toNat (0 : Int)).map encI_i64) hf hc rfl rfl sl_25 rfl rfl (inM_spec hun) rfl rfl (by simp [List.map_replicate,Value.cells]) (by simp) fun b_2 a w hf hc => stP hf rfl rfl rfl (pA rfl) fun a hf => cNil ?_
 refine h2 _ _ ?_
 refine wp_seq_k fun K3 h3 => wp_seq_k fun K4 h4 => cReg ?_
 refine stP hf rfl rfl rfl (pM rfl) fun a hf => stP hf rfl rfl rfl (pLenS Tryz.underlying25 rfl) fun a hf => stP hf rfl rfl rfl (pM rfl) fun a hf => cNil ?_
 refine h4 _ _ ?_
 refine wp_block ?_
 obtain ⟨x5,hx5,hF⟩ := bnd_some hF
 let S5 : ((List Int) × Int) → Act → World → Prop := (fun (zz : (List Int) × Int) a w => ∃ (p_1 : Option Addr) (c_1 : Nat),Has 34 a [(5,.slice p_1 zz.1.length c_1),(12,.slice assignment_p assignment.length assignment_c),(13,i6 ((assignment.length : Nat) : Int)),(14,i6 zz.2)] ∧ Ctx G (.row p_1 c_1 (zz.1.map encI_i64) 3 1::Lf) w)
 have hr5 : ∀ (zz : (List Int) × Int) a w,x5 = .go zz → S5 zz a w → K3 a w := by
  rintro ⟨out,x⟩ a w rfl ⟨p_1,c_1,hf,hc⟩
  replace hF := exK_go hF
  refine h3 _ _ ?_
  refine wp_seq_k fun K6 h6 => cReg ?_
  refine stP hf rfl rfl rfl (pM rfl) fun a hf => stP hf rfl rfl rfl (pA rfl) fun a hf => cNil ?_
  refine h6 _ _ ?_
  refine wp_ret ?_
  obtain rfl := sj hF
  exact fnOut1 (by simp) rfl Tryz.results47 hf hc (show look _ 4 = _ from rfl) ⟨p_1,c_1,rfl,hc⟩
 have ho5 : ∀ r,x5 = .out r → r = res := by
  rintro r rfl
  exact sj hF
 replace hc := hc.drop k1
 refine cLoop N (loopW (S := S5) (x := x5) ?_ N ((List.replicate ((r.Stations.length : Nat) : Int).toNat (0 : Int)),0) _ _ ⟨(some ⟨b_2,0,none⟩),((r.Stations.length : Nat) : Int).toNat,hf.kp rfl,hc⟩ hx5)
 clear hF hf hc
 rintro ⟨out,x⟩ st5 a w KB5 ⟨p_1,c_1,hf,hc⟩ hF hfin5 hK5
 unfold law11_has_b5 at hF
 refine wp_seq_k fun K7 h7 => cReg ?_
 refine stP hf rfl rfl rfl (pLt rfl rfl) fun a hf => cNil ?_
 refine h7 _ _ ?_
 refine wp_seq_k fun K8 h8 => cCond (b := (decide (x < ((assignment.length : Nat) : Int)))) hf rfl (fun hb => ?_) (fun hb => ?_)
 ·replace hF := condT hb hF
  clear hb
  refine wp_skip ?_
  refine h8 _ _ ?_
  refine wp_seq_k fun K9 h9 => ?_
  have hj9 : ∀ (out_1 : List Int) (p_2 : Option Addr) (c_2 : Nat) a w,Has 34 a [(5,.slice p_2 out_1.length c_2),(12,.slice assignment_p assignment.length assignment_c),(13,i6 ((assignment.length : Nat) : Int)),(14,i6 x)] → Ctx G (.row p_2 c_2 (out_1.map encI_i64) 3 1::Lf) w → law11_has_j9 N x out_1 = some st5 → K9 a w := by
   repeat (clear hF)
   repeat (clear hc)
   repeat (clear hf)
   intro out_1 p_2 c_2 a w hf hc hF
   unfold law11_has_j9 at hF
   refine h9 _ _ ?_
   refine cReg ?_
   refine stP hf rfl rfl rfl (pAdd rfl rfl) fun a hf => stP hf rfl rfl rfl (pM rfl) fun a hf => cNil ?_
   exact hK5 (out_1,W (x + 1)) _ _ (sj hF).symm ⟨p_2,c_2,hf.kp rfl,hc⟩
  refine wp_block ?_
  refine wp_seq_k fun K10 h10 => cReg ?_
  obtain ⟨e_1,he_1,hF⟩ := bnd_some hF
  obtain ⟨b_3,o,qa,qp⟩ := h_assignment.atm he_1
  refine stP hf rfl rfl rfl (pIA Tryz.underlying25 sz_3 rfl rfl qa) fun a hf => stE hf hc rfl rfl rfl (eLd1 sc_3 rfl (cell_pc (j := 0) qp rfl)) fun a w hf hc => stP hf rfl rfl rfl (pA rfl) fun a hf => cNil ?_
  refine h10 _ _ ?_
  refine wp_seq_k fun K11 h11 => cReg ?_
  refine stP hf rfl rfl rfl (pM rfl) fun a hf => stP hf rfl rfl rfl (pGe rfl rfl) fun a hf => stP hf rfl rfl rfl (pM rfl) fun a hf => stCut 5 (fun a w => Has 34 a [(5,.slice p_1 out.length c_1),(12,.slice assignment_p assignment.length assignment_c),(13,i6 ((assignment.length : Nat) : Int)),(14,i6 x),(7,i6 e_1),(18,i6 e_1),(19,.bool (decide (0 ≤ e_1))),(20,.bool (decide (0 ≤ e_1))),(25,.bool ((decide (0 ≤ e_1)) && (decide (e_1 < ((out.length : Nat) : Int)))))] ∧ Ctx G (.row p_1 c_1 (out.map encI_i64) 3 1::Lf) w) ?_ ?_
  ·cases hb : (decide (0 ≤ e_1))
   ·rw [hb] at hf
    refine stS hf rfl rfl rfl fun a hf => stS hf rfl rfl rfl fun a hf => stS hf rfl rfl rfl fun a hf => stS hf rfl rfl rfl fun a hf => stP hf rfl rfl rfl (pPf rfl rfl) fun a hf => cNil ⟨hf.kp rfl,hc⟩
   ·rw [hb] at hf
    refine stP hf rfl rfl rfl (pM rfl) fun a hf => stP hf rfl rfl rfl (pM rfl) fun a hf => stP hf rfl rfl rfl (pLenS Tryz.underlying25 rfl) fun a hf => stP hf rfl rfl rfl (pLt rfl rfl) fun a hf => stP hf rfl rfl rfl (pPt rfl rfl) fun a hf => cNil ⟨hf.kp rfl,hc⟩
  intro a w ⟨hf,hc⟩
  refine cNil ?_
  refine h11 _ _ ?_
  refine cCond (b := ((decide (0 ≤ e_1)) && (decide (e_1 < ((out.length : Nat) : Int))))) hf rfl (fun hb => ?_) (fun hb => ?_)
  ·replace hF := condT hb hF
   clear hb
   refine cReg ?_
   refine stP hf rfl rfl rfl (pM rfl) fun a hf => stP hf rfl rfl rfl (pM rfl) fun a hf => ?_
   obtain ⟨e_2,he_2,hF⟩ := bnd_some hF
   obtain ⟨g,rfl,qa_1,qr⟩ := row_atm hc m0 he_2
   refine stP hf rfl rfl rfl (pIA Tryz.underlying25 sz_3 rfl rfl qa_1) fun a hf => stE hf hc rfl rfl rfl (eLd1 sc_3 rfl (cell_row (sz := 1) (i := e_1.toNat) (j := 0) m0 qr rfl)) fun a w hf hc => stP hf rfl rfl rfl (pAdd rfl rfl) fun a hf => ?_
   obtain ⟨e_3,he_3,hF⟩ := bnd_some hF
   obtain ⟨qa_2,qr_1⟩ := row_atk hc m0 he_3
   refine stP hf rfl rfl rfl (pIA Tryz.underlying25 sz_3 rfl rfl qa_2) fun a hf => stRw (vs := [i6 (W (e_2 + 1))]) (o' := 0) (z := W (e_2 + 1)) (xs := out) hf hc rfl rfl rfl rfl sz_3 rfl (fun x => (one_encI_i64 x).1) (getI_lt he_3) (fun _ _ => rfl) rfl u0 fun w hc => cNil ?_
   replace hf := hf.castAt 5 (v' := .slice (some ⟨g,0,none⟩) ((out.set e_1.toNat (W (e_2 + 1))).length) c_1) rfl (congrArg (fun k => Value.slice (some ⟨g,0,none⟩) k c_1) (by simp))
   exact hj9 (out.set e_1.toNat (W (e_2 + 1))) (some ⟨g,0,none⟩) c_1 _ _  (hf.kp rfl) hc hF
  ·replace hF := condF hb hF
   clear hb
   refine wp_skip ?_
   exact hj9 out p_1 c_1 _ _  (hf.kp rfl) hc hF
 ·replace hF := condF hb hF
  clear hb
  refine wp_exit ?_
  refine xThen ?_
  refine xThen ?_
  have he := sj hF
  rw [← he] at hfin5
  refine cHit ?_
  exact hr5 _ _ _ hfin5 ⟨p_1,c_1,hf.kp rfl,hc⟩

def law11_CrewStable_j27 (N : Nat) (r_1 : crew_Roster × Int × Int) (other : List Int) : Option (Bool) :=
 Option.bind (crew_Blocks N r_1.1 other) fun r_9 =>
 Option.bind (cond ((r_9.2 == 0) || (r_9.2 == 7)) (Option.bind (law11_awake N) fun r_10 =>
 some r_10) (some false)) fun t_1 =>
 some t_1
def law11_CrewStable_b33 (N : Nat) (e_1 : crew_Refusal) (r_8 : (List Int)) (other_1 : List Int) (x : Int) : Option (Step ((List Int) × Int) (Bool)) :=
 cond (decide (x < ((r_8.length : Nat) : Int)))
 (Option.bind (cond (x != e_1.Person) (Option.bind (getI other_1 x) fun e_5 =>
 some (e_5 == e_1.Station)) (some false)) fun t_2 =>
 cond t_2
 (Option.bind (getI other_1 x) fun e_6 =>
 some (.brk ((other_1.set x.toNat (-1)),x)))
 (some (.cont (other_1,W (x + 1)))))
 (some (.brk (other_1,x)))
def law11_CrewStable (N : Nat) (numbers : List Int) (which : Int) : Option (Bool) :=
 Option.bind (kit_New N numbers) fun r =>
 Option.bind (law11_Made N (⟨numbers,r.1,r.2⟩ : kit_Stream) 9) fun r_1 =>
 Option.bind (crew_Assign N r_1.1) fun r_2 =>
 Option.bind (crew_Refusals N r_1.1) fun r_3 =>
 cond ((((r_2.2 != 0) || (r_3.2 != 0)) || (((r_2.1.length : Nat) : Int) != ((r_1.1.People.length : Nat) : Int))) || (decide (144 < ((r_3.1.length : Nat) : Int))))
 (some false)
 (Option.bind (crew_Blocks N r_1.1 r_2.1) fun r_4 =>
 Option.bind (crew_Holds N r_1.1 r_3.1) fun r_5 =>
 cond (((r_4.2 != 5) || (r_5.2 != 0)) || (!r_5.1))
 (some false)
 (cond (((r_3.1.length : Nat) : Int) == 0)
 (Option.bind (law11_awake N) fun r_6 =>
 some r_6)
 (Option.bind (nz ((r_3.1.length : Nat) : Int)) fun un =>
 Option.bind (subO r_3.1 0 ((W (which)).tmod ((r_3.1.length : Nat) : Int))) fun sub =>
 Option.bind (crew_Holds N r_1.1 sub) fun r_7 =>
 cond ((r_7.2 != 0) || (!r_7.1))
 (some false)
 (Option.bind (getI r_3.1 ((W (which)).tmod ((r_3.1.length : Nat) : Int))) fun e_1 =>
 cond ((((decide (e_1.Person < 0)) || (decide (((r_2.1.length : Nat) : Int) ≤ e_1.Person))) || (decide (e_1.Station < 0))) || (decide (((r_1.1.Stations.length : Nat) : Int) ≤ e_1.Station)))
 (some false)
 (Option.bind (kit_Copy_int N r_2.1) fun r_8 =>
 Option.bind (getI r_8 e_1.Person) fun e_2 =>
 Option.bind (law11_has N r_1.1 (r_8.set e_1.Person.toNat e_1.Station)) fun r_11 =>
 Option.bind (getI r_11 e_1.Station) fun e_3 =>
 Option.bind (getI r_1.1.Stations e_1.Station) fun e_4 =>
 cond (decide (e_4.Places < e_3))
 (Option.bind (loopO (fun s33 => law11_CrewStable_b33 N e_1 r_8 s33.1 s33.2) N ((r_8.set e_1.Person.toNat e_1.Station),0)) fun x33 =>
 exK x33 (fun s33 => law11_CrewStable_j27 N r_1 s33.1) some)
 (law11_CrewStable_j27 N r_1 (r_8.set e_1.Person.toNat e_1.Station)))))))
theorem law11_CrewStable_ok {N : Nat} {G : Pers} {Lf : List Ent} {w : World} (numbers : List Int) (which : Int) {numbers_p : Option Addr} {numbers_c : Nat} (h_numbers : Rd G 1 numbers_p numbers_c (numbers.map encI_u8)) (hc : Ctx G (Lf) w) {res : Bool} (hF : law11_CrewStable N numbers which = some res) : Calls Tryz.prog 11 #[.slice numbers_p numbers.length numbers_c,.int .u8 which] w (fun e w => e = .returned (.bool res) ∧ Ctx G (Lf) w) := by
 unfold law11_CrewStable at hF
 refine fnIn (args := [.slice numbers_p numbers.length numbers_c,.int .u8 which]) Tryz.func11 rfl Tryz.ntmps11 rfl fun a hf => wp_seq_k fun K1 h1 => cReg ?_
 refine stP hf rfl rfl rfl (pA rfl) fun a hf => cNil ?_
 refine h1 _ _ ?_
 refine wp_seq_k fun K2 h2 => cReg ?_
 refine stP hf rfl rfl rfl (pM rfl) fun a hf => ?_
 obtain ⟨r,hr,hF⟩ := bnd_some hF
 refine stC (vs := [.slice numbers_p numbers.length numbers_c]) (caps := []) hf rfl rfl rfl en_42 rfl rfl rfl rfl (kit_New_ok numbers h_numbers hc hr) ?_
 rintro _ w ⟨b_1,rfl,hc⟩
 refine ⟨_,rfl,fun a hf => ?_⟩
 obtain ⟨r_1,hr_1,hF⟩ := bnd_some hF
 refine stC (vs := [pq b_1,i6 9]) (caps := []) hf rfl rfl rfl en_41 rfl rfl rfl rfl (law11_Made_ok (⟨numbers,r.1,r.2⟩ : kit_Stream) 9 h_numbers (hc.pick k0) hr_1) ?_
 rintro _ w ⟨p_1,tcq,p_2,tcq_1,rfl,hc⟩
 refine ⟨_,rfl,fun a hf => ?_⟩
 refine stAl (cs := [.slice none 0 0,.slice none 0 0]) hf hc rfl rfl zr_78 rfl fun b_2 a w hf hc => stSt (vs := [.slice p_1 r_1.1.People.length tcq.1,.slice p_2 r_1.1.Stations.length tcq_1.1]) hf hc rfl rfl rfl rfl sz_78 rfl rfl u0 fun w hc => cNil ?_
 refine h2 _ _ ?_
 refine wp_seq_k fun K3 h3 => cReg ?_
 refine stE hf hc rfl rfl rfl (eLdN (vs := [.slice p_1 r_1.1.People.length tcq.1,.slice p_2 r_1.1.Stations.length tcq_1.1]) ag_78 rfl rfl (cells_box (n := 2) m0 rfl)) fun a w hf hc => ?_
 obtain ⟨r_2,hr_2,hF⟩ := bnd_some hF
 obtain ⟨G1,hle1,hrd1,hc,hth1⟩ := lendT kdo_25 hc k1 k1
 obtain ⟨G2,hle2,hrd2,hc,hth2⟩ := lendT kdo_101 hc k1 k1
 refine stC (vs := [.agg #[.slice p_1 r_1.1.People.length tcq.1,.slice p_2 r_1.1.Stations.length tcq_1.1]]) (caps := []) hf rfl rfl rfl en_43 rfl rfl rfl rfl (crew_Assign_ok r_1.1 (hrd1.mono hle2) hrd2 hc hr_2) ?_
 rintro _ w ⟨p_3,c_1,rfl,hc⟩
 refine ⟨_,rfl,fun a hf => ?_⟩
 replace hc := hth2 _ _ hc
 replace hc := hth1 _ _ hc
 refine stP hf rfl rfl rfl (pM rfl) fun a hf => stP hf rfl rfl rfl (pX rfl rfl) fun a hf => stP hf rfl rfl rfl (pX rfl rfl) fun a hf => stP hf rfl rfl rfl (pA rfl) fun a hf => stP hf rfl rfl rfl (pA rfl) fun a hf => cNil ?_
 refine h3 _ _ ?_
 refine wp_seq_k fun K4 h4 => cReg ?_
 refine stE hf hc rfl rfl rfl (eLdN (vs := [.slice p_1 r_1.1.People.length tcq.1,.slice p_2 r_1.1.Stations.length tcq_1.1]) ag_78 rfl rfl (cells_box (n := 2) m5 rfl)) fun a w hf hc => ?_
 obtain ⟨r_3,hr_3,hF⟩ := bnd_some hF
 obtain ⟨G1,hle1,hrd1,hc,hth1⟩ := lendT kdo_25 hc k0 k0
 obtain ⟨G2,hle2,hrd2,hc,hth2⟩ := lendT kdo_101 hc k0 k0
 refine stC (vs := [.agg #[.slice p_1 r_1.1.People.length tcq.1,.slice p_2 r_1.1.Stations.length tcq_1.1]]) (caps := []) hf rfl rfl rfl en_63 rfl rfl rfl rfl (crew_Refusals_ok r_1.1 (hrd1.mono hle2) hrd2 hc hr_3) ?_
 rintro _ w ⟨p_4,c_2,rfl,hc⟩
 refine ⟨_,rfl,fun a hf => ?_⟩
 replace hc := hth2 _ _ hc
 replace hc := hth1 _ _ hc
 refine stP hf rfl rfl rfl (pM rfl) fun a hf => stP hf rfl rfl rfl (pX rfl rfl) fun a hf => stP hf rfl rfl rfl (pX rfl rfl) fun a hf => stP hf rfl rfl rfl (pA rfl) fun a hf => stP hf rfl rfl rfl (pA rfl) fun a hf => cNil ?_
 refine h4 _ _ ?_
 refine wp_seq_k fun K5 h5 => wp_seq_k fun K6 h6 => cReg ?_
 refine stP hf rfl rfl rfl (pM rfl) fun a hf => stP hf rfl rfl rfl (pNe rfl rfl) fun a hf => stP hf rfl rfl rfl (pM rfl) fun a hf => stCut 3 (fun a w => Has 181 a [(1,.int .u8 which),(5,pq b_2),(6,.slice p_3 r_2.1.length c_1),(7,i6 r_2.2),(8,.slice p_4 r_3.1.length c_2),(9,i6 r_3.2),(29,i6 r_2.2),(30,.bool (r_2.2 != 0)),(31,.bool (r_2.2 != 0)),(34,.bool ((r_2.2 != 0) || (r_3.2 != 0)))] ∧ Ctx G (.row p_1 tcq.1 ((tabR tcq.2 r_1.1.People).map (Kd.v kd_25)) 25 1::tabI kd_25 (tabR tcq.2 r_1.1.People)::.row p_2 tcq_1.1 ((tabR tcq_1.2 r_1.1.Stations).map (Kd.v kd_101)) 101 2::tabI kd_101 (tabR tcq_1.2 r_1.1.Stations)::.row p_4 c_2 (r_3.1.map enc_crew_Refusal) 86 2::.row p_3 c_1 (r_2.1.map encI_i64) 3 1::.box b_2 [.slice p_1 r_1.1.People.length tcq.1,.slice p_2 r_1.1.Stations.length tcq_1.1] 78::.box b_1 [.slice numbers_p numbers.length numbers_c,i6 r_1.2.1,i6 r_1.2.2] 165::Lf) w) ?_ ?_
 ·cases hb : (r_2.2 != 0)
  ·rw [hb] at hf
   refine stP hf rfl rfl rfl (pM rfl) fun a hf => stP hf rfl rfl rfl (pNe rfl rfl) fun a hf => stP hf rfl rfl rfl (pPf rfl rfl) fun a hf => cNil ⟨hf.kp rfl,hc⟩
  ·rw [hb] at hf
   refine stS hf rfl rfl rfl fun a hf => stS hf rfl rfl rfl fun a hf => stP hf rfl rfl rfl (pPt rfl rfl) fun a hf => cNil ⟨hf.kp rfl,hc⟩
 intro a w ⟨hf,hc⟩
 refine stP hf rfl rfl rfl (pM rfl) fun a hf => stCut 7 (fun a w => Has 181 a [(1,.int .u8 which),(5,pq b_2),(6,.slice p_3 r_2.1.length c_1),(7,i6 r_2.2),(8,.slice p_4 r_3.1.length c_2),(9,i6 r_3.2),(29,i6 r_2.2),(30,.bool (r_2.2 != 0)),(31,.bool (r_2.2 != 0)),(34,.bool ((r_2.2 != 0) || (r_3.2 != 0))),(35,.bool ((r_2.2 != 0) || (r_3.2 != 0))),(42,.bool (((r_2.2 != 0) || (r_3.2 != 0)) || (((r_2.1.length : Nat) : Int) != ((r_1.1.People.length : Nat) : Int))))] ∧ Ctx G (.row p_1 tcq.1 ((tabR tcq.2 r_1.1.People).map (Kd.v kd_25)) 25 1::tabI kd_25 (tabR tcq.2 r_1.1.People)::.row p_2 tcq_1.1 ((tabR tcq_1.2 r_1.1.Stations).map (Kd.v kd_101)) 101 2::tabI kd_101 (tabR tcq_1.2 r_1.1.Stations)::.row p_4 c_2 (r_3.1.map enc_crew_Refusal) 86 2::.row p_3 c_1 (r_2.1.map encI_i64) 3 1::.box b_2 [.slice p_1 r_1.1.People.length tcq.1,.slice p_2 r_1.1.Stations.length tcq_1.1] 78::.box b_1 [.slice numbers_p numbers.length numbers_c,i6 r_1.2.1,i6 r_1.2.2] 165::Lf) w) ?_ ?_
 ·cases hb : ((r_2.2 != 0) || (r_3.2 != 0))
  ·rw [hb] at hf
   refine stP hf rfl rfl rfl (pM rfl) fun a hf => stP hf rfl rfl rfl (pLenS Tryz.underlying25 rfl) fun a hf => stP hf rfl rfl rfl (pFA fa_78_0 rfl) fun a hf => stE hf hc rfl rfl rfl (eLd1 sc_75 rfl (cell_box m6 rfl)) fun a w hf hc => stP hf rfl rfl rfl (pLenS Tryz.underlying75 rfl) fun a hf => stP hf rfl rfl rfl (pNe rfl rfl) fun a hf => stP hf rfl rfl rfl (pPf rfl rfl) fun a hf => cNil ⟨hf.kp rfl,hc⟩
  ·rw [hb] at hf
   refine stS hf rfl rfl rfl fun a hf => stS hf rfl rfl rfl fun a hf => stS hf rfl rfl rfl fun a hf => stS hf rfl rfl rfl fun a hf => stS hf rfl rfl rfl fun a hf => stS hf rfl rfl rfl fun a hf => stP hf rfl rfl rfl (pPt rfl rfl) fun a hf => cNil ⟨hf.kp rfl,hc⟩
 intro a w ⟨hf,hc⟩
 refine stP hf rfl rfl rfl (pM rfl) fun a hf => stCut 4 (fun a w => Has 181 a [(1,.int .u8 which),(5,pq b_2),(6,.slice p_3 r_2.1.length c_1),(7,i6 r_2.2),(8,.slice p_4 r_3.1.length c_2),(9,i6 r_3.2),(29,i6 r_2.2),(30,.bool (r_2.2 != 0)),(31,.bool (r_2.2 != 0)),(34,.bool ((r_2.2 != 0) || (r_3.2 != 0))),(35,.bool ((r_2.2 != 0) || (r_3.2 != 0))),(42,.bool (((r_2.2 != 0) || (r_3.2 != 0)) || (((r_2.1.length : Nat) : Int) != ((r_1.1.People.length : Nat) : Int)))),(43,.bool (((r_2.2 != 0) || (r_3.2 != 0)) || (((r_2.1.length : Nat) : Int) != ((r_1.1.People.length : Nat) : Int)))),(47,.bool ((((r_2.2 != 0) || (r_3.2 != 0)) || (((r_2.1.length : Nat) : Int) != ((r_1.1.People.length : Nat) : Int))) || (decide (144 < ((r_3.1.length : Nat) : Int)))))] ∧ Ctx G (.row p_1 tcq.1 ((tabR tcq.2 r_1.1.People).map (Kd.v kd_25)) 25 1::tabI kd_25 (tabR tcq.2 r_1.1.People)::.row p_2 tcq_1.1 ((tabR tcq_1.2 r_1.1.Stations).map (Kd.v kd_101)) 101 2::tabI kd_101 (tabR tcq_1.2 r_1.1.Stations)::.row p_4 c_2 (r_3.1.map enc_crew_Refusal) 86 2::.row p_3 c_1 (r_2.1.map encI_i64) 3 1::.box b_2 [.slice p_1 r_1.1.People.length tcq.1,.slice p_2 r_1.1.Stations.length tcq_1.1] 78::.box b_1 [.slice numbers_p numbers.length numbers_c,i6 r_1.2.1,i6 r_1.2.2] 165::Lf) w) ?_ ?_
 ·cases hb : (((r_2.2 != 0) || (r_3.2 != 0)) || (((r_2.1.length : Nat) : Int) != ((r_1.1.People.length : Nat) : Int)))
  ·rw [hb] at hf
   refine stP hf rfl rfl rfl (pM rfl) fun a hf => stP hf rfl rfl rfl (pLenS Tryz.underlying99 rfl) fun a hf => stP hf rfl rfl rfl (pGt rfl rfl) fun a hf => stP hf rfl rfl rfl (pPf rfl rfl) fun a hf => cNil ⟨hf.kp rfl,hc⟩
  ·rw [hb] at hf
   refine stS hf rfl rfl rfl fun a hf => stS hf rfl rfl rfl fun a hf => stS hf rfl rfl rfl fun a hf => stP hf rfl rfl rfl (pPt rfl rfl) fun a hf => cNil ⟨hf.kp rfl,hc⟩
 intro a w ⟨hf,hc⟩
 refine cNil ?_
 refine h6 _ _ ?_
 refine cCond (b := ((((r_2.2 != 0) || (r_3.2 != 0)) || (((r_2.1.length : Nat) : Int) != ((r_1.1.People.length : Nat) : Int))) || (decide (144 < ((r_3.1.length : Nat) : Int))))) hf rfl (fun hb => ?_) (fun hb => ?_)
 ·replace hF := condT hb hF
  clear hb
  refine wp_seq_k fun K7 h7 => cReg ?_
  refine stP hf rfl rfl rfl (pA rfl) fun a hf => cNil ?_
  refine h7 _ _ ?_
  refine wp_ret ?_
  refine xThenR ?_
  obtain rfl := sj hF
  replace hc := hc.drop k7
  replace hc := hc.drop k6
  replace hc := hc.drop k5
  replace hc := hc.drop k4
  replace hc := hc.drop k3
  replace hc := hc.drop k2
  replace hc := hc.drop k1
  replace hc := hc.drop k0
  exact fnOut1 (by simp) rfl Tryz.results11 hf hc (show look _ 4 = _ from rfl) ⟨rfl,hc⟩
 ·replace hF := condF hb hF
  clear hb
  refine wp_skip ?_
  refine h5 _ _ ?_
  refine wp_seq_k fun K8 h8 => cReg ?_
  refine stE hf hc rfl rfl rfl (eLdN (vs := [.slice p_1 r_1.1.People.length tcq.1,.slice p_2 r_1.1.Stations.length tcq_1.1]) ag_78 rfl rfl (cells_box (n := 2) m6 rfl)) fun a w hf hc => stP hf rfl rfl rfl (pM rfl) fun a hf => ?_
  obtain ⟨r_4,hr_4,hF⟩ := bnd_some hF
  refine stE hf hc rfl rfl rfl (eC (v := .tuple #[.agg #[i6 r_4.1.Person,i6 r_4.1.Station],i6 r_4.2]) (vs := [.agg #[.slice p_1 r_1.1.People.length tcq.1,.slice p_2 r_1.1.Stations.length tcq_1.1],.slice p_3 r_2.1.length c_1]) (caps := []) en_46 rfl rfl rfl rfl (fun w hc => by obtain ⟨G1,hle1,hrd1,hc,hth1⟩ := lendT kdo_25 hc k0 k0; obtain ⟨G2,hle2,hrd2,hc,hth2⟩ := lendT kdo_101 hc k0 k0; obtain ⟨G3,hle3,hrd3,hc,hth3⟩ := lend hc k1; exact (crew_Blocks_ok r_1.1 r_2.1 ((hrd1.mono hle2).mono hle3) (hrd2.mono hle3) hrd3 hc hr_4).mono fun e w h => ⟨h.1,(unpickT (hth1 _ _ (unpickT (hth2 _ _ ((hth3 _ _ h.2).unpick k1)) k0 k0)) k0 k0)⟩)) fun a w hf hc => stP hf rfl rfl rfl (pM rfl) fun a hf => stP hf rfl rfl rfl (pX rfl rfl) fun a hf => stP hf rfl rfl rfl (pX rfl rfl) fun a hf => stP hf rfl rfl rfl (pA rfl) fun a hf => cNil ?_
  refine h8 _ _ ?_
  refine wp_seq_k fun K9 h9 => cReg ?_
  refine stE hf hc rfl rfl rfl (eLdN (vs := [.slice p_1 r_1.1.People.length tcq.1,.slice p_2 r_1.1.Stations.length tcq_1.1]) ag_78 rfl rfl (cells_box (n := 2) m6 rfl)) fun a w hf hc => stP hf rfl rfl rfl (pM rfl) fun a hf => ?_
  obtain ⟨r_5,hr_5,hF⟩ := bnd_some hF
  refine stE hf hc rfl rfl rfl (eC (v := .tuple #[.bool r_5.1,i6 r_5.2]) (vs := [.agg #[.slice p_1 r_1.1.People.length tcq.1,.slice p_2 r_1.1.Stations.length tcq_1.1],.slice p_4 r_3.1.length c_2]) (caps := []) en_59 rfl rfl rfl rfl (fun w hc => by obtain ⟨G1,hle1,hrd1,hc,hth1⟩ := lendT kdo_25 hc k0 k0; obtain ⟨G2,hle2,hrd2,hc,hth2⟩ := lendT kdo_101 hc k0 k0; obtain ⟨G3,hle3,hrd3,hc,hth3⟩ := lend hc k0; exact (crew_Holds_ok r_1.1 r_3.1 ((hrd1.mono hle2).mono hle3) (hrd2.mono hle3) hrd3 hc hr_5).mono fun e w h => ⟨h.1,(unpickT (hth1 _ _ (unpickT (hth2 _ _ ((hth3 _ _ h.2).unpick k0)) k0 k0)) k0 k0)⟩)) fun a w hf hc => stP hf rfl rfl rfl (pM rfl) fun a hf => stP hf rfl rfl rfl (pX rfl rfl) fun a hf => stP hf rfl rfl rfl (pX rfl rfl) fun a hf => stP hf rfl rfl rfl (pA rfl) fun a hf => stP hf rfl rfl rfl (pA rfl) fun a hf => cNil ?_
  refine h9 _ _ ?_
  refine wp_seq_k fun K10 h10 => wp_seq_k fun K11 h11 => cReg ?_
  refine stP hf rfl rfl rfl (pM rfl) fun a hf => stP hf rfl rfl rfl (pNe rfl rfl) fun a hf => stP hf rfl rfl rfl (pM rfl) fun a hf => stCut 3 (fun a w => Has 181 a [(1,.int .u8 which),(5,pq b_2),(6,.slice p_3 r_2.1.length c_1),(7,i6 r_4.2),(8,.slice p_4 r_3.1.length c_2),(9,i6 r_5.2),(10,.bool r_5.1),(60,i6 r_4.2),(61,.bool (r_4.2 != 5)),(62,.bool (r_4.2 != 5)),(65,.bool ((r_4.2 != 5) || (r_5.2 != 0)))] ∧ Ctx G (.row p_1 tcq.1 ((tabR tcq.2 r_1.1.People).map (Kd.v kd_25)) 25 1::tabI kd_25 (tabR tcq.2 r_1.1.People)::.row p_2 tcq_1.1 ((tabR tcq_1.2 r_1.1.Stations).map (Kd.v kd_101)) 101 2::tabI kd_101 (tabR tcq_1.2 r_1.1.Stations)::.row p_4 c_2 (r_3.1.map enc_crew_Refusal) 86 2::.row p_3 c_1 (r_2.1.map encI_i64) 3 1::.box b_2 [.slice p_1 r_1.1.People.length tcq.1,.slice p_2 r_1.1.Stations.length tcq_1.1] 78::.box b_1 [.slice numbers_p numbers.length numbers_c,i6 r_1.2.1,i6 r_1.2.2] 165::Lf) w) ?_ ?_
  ·cases hb : (r_4.2 != 5)
   ·rw [hb] at hf
    refine stP hf rfl rfl rfl (pM rfl) fun a hf => stP hf rfl rfl rfl (pNe rfl rfl) fun a hf => stP hf rfl rfl rfl (pPf rfl rfl) fun a hf => cNil ⟨hf.kp rfl,hc⟩
   ·rw [hb] at hf
    refine stS hf rfl rfl rfl fun a hf => stS hf rfl rfl rfl fun a hf => stP hf rfl rfl rfl (pPt rfl rfl) fun a hf => cNil ⟨hf.kp rfl,hc⟩
  intro a w ⟨hf,hc⟩
  refine stP hf rfl rfl rfl (pM rfl) fun a hf => stCut 3 (fun a w => Has 181 a [(1,.int .u8 which),(5,pq b_2),(6,.slice p_3 r_2.1.length c_1),(7,i6 r_4.2),(8,.slice p_4 r_3.1.length c_2),(9,i6 r_5.2),(10,.bool r_5.1),(60,i6 r_4.2),(61,.bool (r_4.2 != 5)),(62,.bool (r_4.2 != 5)),(65,.bool ((r_4.2 != 5) || (r_5.2 != 0))),(66,.bool ((r_4.2 != 5) || (r_5.2 != 0))),(69,.bool (((r_4.2 != 5) || (r_5.2 != 0)) || (!r_5.1)))] ∧ Ctx G (.row p_1 tcq.1 ((tabR tcq.2 r_1.1.People).map (Kd.v kd_25)) 25 1::tabI kd_25 (tabR tcq.2 r_1.1.People)::.row p_2 tcq_1.1 ((tabR tcq_1.2 r_1.1.Stations).map (Kd.v kd_101)) 101 2::tabI kd_101 (tabR tcq_1.2 r_1.1.Stations)::.row p_4 c_2 (r_3.1.map enc_crew_Refusal) 86 2::.row p_3 c_1 (r_2.1.map encI_i64) 3 1::.box b_2 [.slice p_1 r_1.1.People.length tcq.1,.slice p_2 r_1.1.Stations.length tcq_1.1] 78::.box b_1 [.slice numbers_p numbers.length numbers_c,i6 r_1.2.1,i6 r_1.2.2] 165::Lf) w) ?_ ?_
  ·cases hb : ((r_4.2 != 5) || (r_5.2 != 0))
   ·rw [hb] at hf
    refine stP hf rfl rfl rfl (pM rfl) fun a hf => stP hf rfl rfl rfl (pNot rfl) fun a hf => stP hf rfl rfl rfl (pPf rfl rfl) fun a hf => cNil ⟨hf.kp rfl,hc⟩
   ·rw [hb] at hf
    refine stS hf rfl rfl rfl fun a hf => stS hf rfl rfl rfl fun a hf => stP hf rfl rfl rfl (pPt rfl rfl) fun a hf => cNil ⟨hf.kp rfl,hc⟩
  intro a w ⟨hf,hc⟩
  refine cNil ?_
  refine h11 _ _ ?_
  refine cCond (b := (((r_4.2 != 5) || (r_5.2 != 0)) || (!r_5.1))) hf rfl (fun hb => ?_) (fun hb => ?_)
  ·replace hF := condT hb hF
   clear hb
   refine wp_seq_k fun K12 h12 => cReg ?_
   refine stP hf rfl rfl rfl (pA rfl) fun a hf => cNil ?_
   refine h12 _ _ ?_
   refine wp_ret ?_
   refine xThenR ?_
   obtain rfl := sj hF
   replace hc := hc.drop k7
   replace hc := hc.drop k6
   replace hc := hc.drop k5
   replace hc := hc.drop k4
   replace hc := hc.drop k3
   replace hc := hc.drop k2
   replace hc := hc.drop k1
   replace hc := hc.drop k0
   exact fnOut1 (by simp) rfl Tryz.results11 hf hc (show look _ 4 = _ from rfl) ⟨rfl,hc⟩
  ·replace hF := condF hb hF
   clear hb
   refine wp_skip ?_
   refine h10 _ _ ?_
   refine wp_seq_k fun K13 h13 => wp_seq_k fun K14 h14 => cReg ?_
   refine stP hf rfl rfl rfl (pM rfl) fun a hf => stP hf rfl rfl rfl (pLenS Tryz.underlying99 rfl) fun a hf => stP hf rfl rfl rfl (pEq rfl rfl) fun a hf => cNil ?_
   refine h14 _ _ ?_
   refine cCond (b := (((r_3.1.length : Nat) : Int) == 0)) hf rfl (fun hb => ?_) (fun hb => ?_)
   ·replace hF := condT hb hF
    clear hb
    refine wp_seq_k fun K15 h15 => cReg ?_
    obtain ⟨r_6,hr_6,hF⟩ := bnd_some hF
    refine stE hf hc rfl rfl rfl (eC (v := .bool r_6) (vs := []) (caps := []) en_15 rfl rfl rfl rfl (fun w hc => law11_awake_ok hc hr_6)) fun a w hf hc => stP hf rfl rfl rfl (pA rfl) fun a hf => cNil ?_
    refine h15 _ _ ?_
    refine wp_ret ?_
    refine xThenR ?_
    obtain rfl := sj hF
    replace hc := hc.drop k7
    replace hc := hc.drop k6
    replace hc := hc.drop k5
    replace hc := hc.drop k4
    replace hc := hc.drop k3
    replace hc := hc.drop k2
    replace hc := hc.drop k1
    replace hc := hc.drop k0
    exact fnOut1 (by simp) rfl Tryz.results11 hf hc (show look _ 4 = _ from rfl) ⟨rfl,hc⟩
   ·replace hF := condF hb hF
    clear hb
    refine wp_skip ?_
    refine h13 _ _ ?_
    refine wp_seq_k fun K16 h16 => cReg ?_
    refine stP hf rfl rfl rfl (pM rfl) fun a hf => stP hf rfl rfl rfl (pCv Tryz.underlying5 Tryz.underlying3 rfl) fun a hf => stP hf rfl rfl rfl (pM rfl) fun a hf => stP hf rfl rfl rfl (pLenS Tryz.underlying99 rfl) fun a hf => ?_
    obtain ⟨un,hun,hF⟩ := bnd_some hF
    refine stP hf rfl rfl rfl (pRem rfl rfl (nz_spec hun)) fun a hf => stP hf rfl rfl rfl (pA rfl) fun a hf => cNil ?_
    refine h16 _ _ ?_
    refine wp_seq_k fun K17 h17 => ?_
    have qc := row_cap hc m4
    obtain ⟨sub,hsub,hF⟩ := bnd_some hF
    obtain ⟨r_7,hr_7,hF⟩ := bnd_some hF
    refine cQ hc follows_mx (by kernel_rfl) ?_
    refine qE hf rfl rfl rfl (eLdN (vs := [.slice p_1 r_1.1.People.length tcq.1,.slice p_2 r_1.1.Stations.length tcq_1.1]) ag_78 rfl rfl (cells_box (n := 2) m6 rfl)) fun a hf => qE hf rfl rfl rfl (Pu.ev (pM rfl)) fun a hf => qE hf rfl rfl rfl (Pu.ev (pM rfl)) fun a hf => qE hf rfl rfl rfl (Pu.ev (pSl Tryz.underlying99 sz_86 rfl rfl qc rfl rfl hsub)) fun a hf => qE hf rfl rfl rfl (eC (v := .tuple #[.bool r_7.1,i6 r_7.2]) (vs := [.agg #[.slice p_1 r_1.1.People.length tcq.1,.slice p_2 r_1.1.Stations.length tcq_1.1],.slice (subP p_4 c_2 (0 : Int).toNat 2) sub.length (c_2 - (0 : Int).toNat)]) (caps := []) en_59 rfl rfl rfl rfl (fun w hc => by obtain ⟨G1,hle1,hrd1,hc,hth1⟩ := lendT kdo_25 hc k0 k0; obtain ⟨G2,hle2,hrd2,hc,hth2⟩ := lendT kdo_101 hc k0 k0; obtain ⟨G3,hle3,hrd3,hc,hth3⟩ := lend hc k0; exact (crew_Holds_ok r_1.1 sub ((hrd1.mono hle2).mono hle3) (hrd2.mono hle3) (Rd.sub hrd3 hsub) hc hr_7).mono fun e w h => ⟨h.1,(unpickT (hth1 _ _ (unpickT (hth2 _ _ ((hth3 _ _ h.2).unpick k0)) k0 k0)) k0 k0)⟩)) fun a hf => qE hf rfl rfl rfl (Pu.ev (pM rfl)) fun a hf => qE hf rfl rfl rfl (Pu.ev (pX rfl rfl)) fun a hf => qE hf rfl rfl rfl (Pu.ev (pX rfl rfl)) fun a hf => qE hf rfl rfl rfl (Pu.ev (pA rfl)) fun a hf => qE hf rfl rfl rfl (Pu.ev (pA rfl)) fun a hf => ?_
    intro w hc
    refine h17 _ _ ?_
    refine wp_seq_k fun K18 h18 => wp_seq_k fun K19 h19 => cReg ?_
    refine stP hf rfl rfl rfl (pM rfl) fun a hf => stP hf rfl rfl rfl (pNe rfl rfl) fun a hf => stP hf rfl rfl rfl (pM rfl) fun a hf => stCut 3 (fun a w => Has 181 a [(5,pq b_2),(6,.slice p_3 r_2.1.length c_1),(7,i6 r_7.2),(8,.slice p_4 r_3.1.length c_2),(10,.bool r_7.1),(11,i6 ((W (which)).tmod ((r_3.1.length : Nat) : Int))),(87,i6 r_7.2),(88,.bool (r_7.2 != 0)),(89,.bool (r_7.2 != 0)),(92,.bool ((r_7.2 != 0) || (!r_7.1)))] ∧ Ctx G (.row p_1 tcq.1 ((tabR tcq.2 r_1.1.People).map (Kd.v kd_25)) 25 1::tabI kd_25 (tabR tcq.2 r_1.1.People)::.row p_2 tcq_1.1 ((tabR tcq_1.2 r_1.1.Stations).map (Kd.v kd_101)) 101 2::tabI kd_101 (tabR tcq_1.2 r_1.1.Stations)::.row p_4 c_2 (r_3.1.map enc_crew_Refusal) 86 2::.row p_3 c_1 (r_2.1.map encI_i64) 3 1::.box b_2 [.slice p_1 r_1.1.People.length tcq.1,.slice p_2 r_1.1.Stations.length tcq_1.1] 78::.box b_1 [.slice numbers_p numbers.length numbers_c,i6 r_1.2.1,i6 r_1.2.2] 165::Lf) w) ?_ ?_
    ·cases hb : (r_7.2 != 0)
     ·rw [hb] at hf
      refine stP hf rfl rfl rfl (pM rfl) fun a hf => stP hf rfl rfl rfl (pNot rfl) fun a hf => stP hf rfl rfl rfl (pPf rfl rfl) fun a hf => cNil ⟨hf.kp rfl,hc⟩
     ·rw [hb] at hf
      refine stS hf rfl rfl rfl fun a hf => stS hf rfl rfl rfl fun a hf => stP hf rfl rfl rfl (pPt rfl rfl) fun a hf => cNil ⟨hf.kp rfl,hc⟩
    intro a w ⟨hf,hc⟩
    refine cNil ?_
    refine h19 _ _ ?_
    refine cCond (b := ((r_7.2 != 0) || (!r_7.1))) hf rfl (fun hb => ?_) (fun hb => ?_)
    ·replace hF := condT hb hF
     clear hb
     refine wp_seq_k fun K20 h20 => cReg ?_
     refine stP hf rfl rfl rfl (pA rfl) fun a hf => cNil ?_
     refine h20 _ _ ?_
     refine wp_ret ?_
     refine xThenR ?_
     obtain rfl := sj hF
     replace hc := hc.drop k7
     replace hc := hc.drop k6
     replace hc := hc.drop k5
     replace hc := hc.drop k4
     replace hc := hc.drop k3
     replace hc := hc.drop k2
     replace hc := hc.drop k1
     replace hc := hc.drop k0
     exact fnOut1 (by simp) rfl Tryz.results11 hf hc (show look _ 4 = _ from rfl) ⟨rfl,hc⟩
    ·replace hF := condF hb hF
     clear hb
     refine wp_skip ?_
     refine h18 _ _ ?_
     refine wp_seq_k fun K21 h21 => cReg ?_
     refine stP hf rfl rfl rfl (pM rfl) fun a hf => stP hf rfl rfl rfl (pM rfl) fun a hf => ?_
     obtain ⟨e_1,he_1,hF⟩ := bnd_some hF
     obtain ⟨g,rfl,qa,qr⟩ := row_atm hc m4 he_1
     refine stP hf rfl rfl rfl (pIA Tryz.underlying99 sz_86 rfl rfl qa) fun a hf => stE hf hc rfl rfl rfl (eLdN (vs := [i6 e_1.Person,i6 e_1.Station]) ag_86 rfl rfl (cells_rw (sz := 2) (i := ((W (which)).tmod ((r_3.1.length : Nat) : Int)).toNat) m4 qr (n := 2) (o' := 0) rfl)) fun a w hf hc => stAl (cs := [i6 0,i6 0]) hf hc rfl rfl zr_86 rfl fun b_3 a w hf hc => stSt (vs := [i6 e_1.Person,i6 e_1.Station]) hf hc rfl rfl rfl rfl sz_86 rfl rfl u0 fun w hc => cNil ?_
     replace hc := hc.drop k8
     replace hc := hc.drop k5
     refine h21 _ _ ?_
     refine wp_seq_k fun K22 h22 => wp_seq_k fun K23 h23 => cReg ?_
     refine stP hf rfl rfl rfl (pFA fa_86_0 rfl) fun a hf => stE hf hc rfl rfl rfl (eLd1 sc_3 rfl (cell_box m0 rfl)) fun a w hf hc => stP hf rfl rfl rfl (pLt rfl rfl) fun a hf => stP hf rfl rfl rfl (pM rfl) fun a hf => stCut 6 (fun a w => Has 181 a [(5,pq b_2),(6,.slice p_3 r_2.1.length c_1),(12,pq b_3),(97,pq b_3),(98,i6 e_1.Person),(99,.bool (decide (e_1.Person < 0))),(100,.bool (decide (e_1.Person < 0))),(106,.bool ((decide (e_1.Person < 0)) || (decide (((r_2.1.length : Nat) : Int) ≤ e_1.Person))))] ∧ Ctx G (.box b_3 [i6 e_1.Person,i6 e_1.Station] 86::.row p_1 tcq.1 ((tabR tcq.2 r_1.1.People).map (Kd.v kd_25)) 25 1::tabI kd_25 (tabR tcq.2 r_1.1.People)::.row p_2 tcq_1.1 ((tabR tcq_1.2 r_1.1.Stations).map (Kd.v kd_101)) 101 2::tabI kd_101 (tabR tcq_1.2 r_1.1.Stations)::.row p_3 c_1 (r_2.1.map encI_i64) 3 1::.box b_2 [.slice p_1 r_1.1.People.length tcq.1,.slice p_2 r_1.1.Stations.length tcq_1.1] 78::Lf) w) ?_ ?_
     ·cases hb : (decide (e_1.Person < 0))
      ·rw [hb] at hf
       refine stP hf rfl rfl rfl (pFA fa_86_0 rfl) fun a hf => stE hf hc rfl rfl rfl (eLd1 sc_3 rfl (cell_box m0 rfl)) fun a w hf hc => stP hf rfl rfl rfl (pM rfl) fun a hf => stP hf rfl rfl rfl (pLenS Tryz.underlying25 rfl) fun a hf => stP hf rfl rfl rfl (pGe rfl rfl) fun a hf => stP hf rfl rfl rfl (pPf rfl rfl) fun a hf => cNil ⟨hf.kp rfl,hc⟩
      ·rw [hb] at hf
       refine stS hf rfl rfl rfl fun a hf => stS hf rfl rfl rfl fun a hf => stS hf rfl rfl rfl fun a hf => stS hf rfl rfl rfl fun a hf => stS hf rfl rfl rfl fun a hf => stP hf rfl rfl rfl (pPt rfl rfl) fun a hf => cNil ⟨hf.kp rfl,hc⟩
     intro a w ⟨hf,hc⟩
     refine stP hf rfl rfl rfl (pM rfl) fun a hf => stCut 4 (fun a w => Has 181 a [(5,pq b_2),(6,.slice p_3 r_2.1.length c_1),(12,pq b_3),(97,pq b_3),(98,i6 e_1.Person),(99,.bool (decide (e_1.Person < 0))),(100,.bool (decide (e_1.Person < 0))),(106,.bool ((decide (e_1.Person < 0)) || (decide (((r_2.1.length : Nat) : Int) ≤ e_1.Person)))),(107,.bool ((decide (e_1.Person < 0)) || (decide (((r_2.1.length : Nat) : Int) ≤ e_1.Person)))),(111,.bool (((decide (e_1.Person < 0)) || (decide (((r_2.1.length : Nat) : Int) ≤ e_1.Person))) || (decide (e_1.Station < 0))))] ∧ Ctx G (.box b_3 [i6 e_1.Person,i6 e_1.Station] 86::.row p_1 tcq.1 ((tabR tcq.2 r_1.1.People).map (Kd.v kd_25)) 25 1::tabI kd_25 (tabR tcq.2 r_1.1.People)::.row p_2 tcq_1.1 ((tabR tcq_1.2 r_1.1.Stations).map (Kd.v kd_101)) 101 2::tabI kd_101 (tabR tcq_1.2 r_1.1.Stations)::.row p_3 c_1 (r_2.1.map encI_i64) 3 1::.box b_2 [.slice p_1 r_1.1.People.length tcq.1,.slice p_2 r_1.1.Stations.length tcq_1.1] 78::Lf) w) ?_ ?_
     ·cases hb : ((decide (e_1.Person < 0)) || (decide (((r_2.1.length : Nat) : Int) ≤ e_1.Person)))
      ·rw [hb] at hf
       refine stP hf rfl rfl rfl (pFA fa_86_1 rfl) fun a hf => stE hf hc rfl rfl rfl (eLd1 sc_3 rfl (cell_box m0 rfl)) fun a w hf hc => stP hf rfl rfl rfl (pLt rfl rfl) fun a hf => stP hf rfl rfl rfl (pPf rfl rfl) fun a hf => cNil ⟨hf.kp rfl,hc⟩
      ·rw [hb] at hf
       refine stS hf rfl rfl rfl fun a hf => stS hf rfl rfl rfl fun a hf => stS hf rfl rfl rfl fun a hf => stP hf rfl rfl rfl (pPt rfl rfl) fun a hf => cNil ⟨hf.kp rfl,hc⟩
     intro a w ⟨hf,hc⟩
     refine stP hf rfl rfl rfl (pM rfl) fun a hf => stCut 7 (fun a w => Has 181 a [(5,pq b_2),(6,.slice p_3 r_2.1.length c_1),(12,pq b_3),(97,pq b_3),(98,i6 e_1.Person),(99,.bool (decide (e_1.Person < 0))),(100,.bool (decide (e_1.Person < 0))),(106,.bool ((decide (e_1.Person < 0)) || (decide (((r_2.1.length : Nat) : Int) ≤ e_1.Person)))),(107,.bool ((decide (e_1.Person < 0)) || (decide (((r_2.1.length : Nat) : Int) ≤ e_1.Person)))),(111,.bool (((decide (e_1.Person < 0)) || (decide (((r_2.1.length : Nat) : Int) ≤ e_1.Person))) || (decide (e_1.Station < 0)))),(112,.bool (((decide (e_1.Person < 0)) || (decide (((r_2.1.length : Nat) : Int) ≤ e_1.Person))) || (decide (e_1.Station < 0)))),(119,.bool ((((decide (e_1.Person < 0)) || (decide (((r_2.1.length : Nat) : Int) ≤ e_1.Person))) || (decide (e_1.Station < 0))) || (decide (((r_1.1.Stations.length : Nat) : Int) ≤ e_1.Station))))] ∧ Ctx G (.box b_3 [i6 e_1.Person,i6 e_1.Station] 86::.row p_1 tcq.1 ((tabR tcq.2 r_1.1.People).map (Kd.v kd_25)) 25 1::tabI kd_25 (tabR tcq.2 r_1.1.People)::.row p_2 tcq_1.1 ((tabR tcq_1.2 r_1.1.Stations).map (Kd.v kd_101)) 101 2::tabI kd_101 (tabR tcq_1.2 r_1.1.Stations)::.row p_3 c_1 (r_2.1.map encI_i64) 3 1::.box b_2 [.slice p_1 r_1.1.People.length tcq.1,.slice p_2 r_1.1.Stations.length tcq_1.1] 78::Lf) w) ?_ ?_
     ·cases hb : (((decide (e_1.Person < 0)) || (decide (((r_2.1.length : Nat) : Int) ≤ e_1.Person))) || (decide (e_1.Station < 0)))
      ·rw [hb] at hf
       refine stP hf rfl rfl rfl (pFA fa_86_1 rfl) fun a hf => stE hf hc rfl rfl rfl (eLd1 sc_3 rfl (cell_box m0 rfl)) fun a w hf hc => stP hf rfl rfl rfl (pFA fa_78_1 rfl) fun a hf => stE hf hc rfl rfl rfl (eLd1 sc_76 rfl (cell_box m6 rfl)) fun a w hf hc => stP hf rfl rfl rfl (pLenS Tryz.underlying76 rfl) fun a hf => stP hf rfl rfl rfl (pGe rfl rfl) fun a hf => stP hf rfl rfl rfl (pPf rfl rfl) fun a hf => cNil ⟨hf.kp rfl,hc⟩
      ·rw [hb] at hf
       refine stS hf rfl rfl rfl fun a hf => stS hf rfl rfl rfl fun a hf => stS hf rfl rfl rfl fun a hf => stS hf rfl rfl rfl fun a hf => stS hf rfl rfl rfl fun a hf => stS hf rfl rfl rfl fun a hf => stP hf rfl rfl rfl (pPt rfl rfl) fun a hf => cNil ⟨hf.kp rfl,hc⟩
     intro a w ⟨hf,hc⟩
     refine cNil ?_
     refine h23 _ _ ?_
     refine cCond (b := ((((decide (e_1.Person < 0)) || (decide (((r_2.1.length : Nat) : Int) ≤ e_1.Person))) || (decide (e_1.Station < 0))) || (decide (((r_1.1.Stations.length : Nat) : Int) ≤ e_1.Station)))) hf rfl (fun hb => ?_) (fun hb => ?_)
     ·replace hF := condT hb hF
      clear hb
      refine wp_seq_k fun K24 h24 => cReg ?_
      refine stP hf rfl rfl rfl (pA rfl) fun a hf => cNil ?_
      refine h24 _ _ ?_
      refine wp_ret ?_
      refine xThenR ?_
      obtain rfl := sj hF
      replace hc := hc.drop k6
      replace hc := hc.drop k5
      replace hc := hc.drop k4
      replace hc := hc.drop k3
      replace hc := hc.drop k2
      replace hc := hc.drop k1
      replace hc := hc.drop k0
      exact fnOut1 (by simp) rfl Tryz.results11 hf hc (show look _ 4 = _ from rfl) ⟨rfl,hc⟩
     ·replace hF := condF hb hF
      clear hb
      refine wp_skip ?_
      refine h22 _ _ ?_
      refine wp_seq_k fun K25 h25 => cReg ?_
      refine stP hf rfl rfl rfl (pM rfl) fun a hf => ?_
      obtain ⟨r_8,hr_8,hF⟩ := bnd_some hF
      obtain ⟨G1,hle1,hrd1,hc,hth1⟩ := lend hc k5
      refine stC (vs := [.slice p_3 r_2.1.length c_1]) (caps := []) hf rfl rfl rfl en_17 rfl rfl rfl rfl (kit_Copy_int_ok r_2.1 hrd1 hc hr_8) ?_
      rintro _ w ⟨p_5,c_3,rfl,hc⟩
      refine ⟨_,rfl,fun a hf => ?_⟩
      replace hc := hth1 _ _ hc
      refine stP hf rfl rfl rfl (pA rfl) fun a hf => cNil ?_
      refine h25 _ _ ?_
      refine wp_seq_k fun K26 h26 => cReg ?_
      refine stP hf rfl rfl rfl (pM rfl) fun a hf => stP hf rfl rfl rfl (pFA fa_86_0 rfl) fun a hf => stE hf hc rfl rfl rfl (eLd1 sc_3 rfl (cell_box m2 rfl)) fun a w hf hc => stP hf rfl rfl rfl (pFA fa_86_1 rfl) fun a hf => stE hf hc rfl rfl rfl (eLd1 sc_3 rfl (cell_box m2 rfl)) fun a w hf hc => ?_
      obtain ⟨e_2,he_2,hF⟩ := bnd_some hF
      obtain ⟨g_1,rfl,qa_1,qr_1⟩ := row_atm hc m1 he_2
      refine stP hf rfl rfl rfl (pIA Tryz.underlying25 sz_3 rfl rfl qa_1) fun a hf => stRw (vs := [i6 e_1.Station]) (o' := 0) (z := e_1.Station) (xs := r_8) hf hc rfl rfl rfl rfl sz_3 rfl (fun x => (one_encI_i64 x).1) (getI_lt he_2) (fun _ _ => rfl) rfl u1 fun w hc => cNil ?_
      refine h26 _ _ ?_
      refine wp_seq_k fun K27 h27 => ?_
      have hj27 : ∀ (other : List Int) (p_6 : Option Addr) (c_4 : Nat) (p_7 : Option Addr) (tcq_2 : TabH) a w,Has 181 a [(5,pq b_2),(13,.slice p_6 other.length c_4)] → Ctx G (.row p_6 c_4 (other.map encI_i64) 3 1::.row p_1 tcq.1 ((tabR tcq.2 r_1.1.People).map (Kd.v kd_25)) 25 1::tabI kd_25 (tabR tcq.2 r_1.1.People)::.row p_7 tcq_2.1 ((tabR tcq_2.2 r_1.1.Stations).map (Kd.v kd_101)) 101 2::tabI kd_101 (tabR tcq_2.2 r_1.1.Stations)::.box b_2 [.slice p_1 r_1.1.People.length tcq.1,.slice p_7 r_1.1.Stations.length tcq_2.1] 78::Lf) w → law11_CrewStable_j27 N r_1 other = some res → K27 a w := by
       repeat (clear hF)
       repeat (clear hc)
       repeat (clear hf)
       intro other p_6 c_4 p_7 tcq_2 a w hf hc hF
       unfold law11_CrewStable_j27 at hF
       refine h27 _ _ ?_
       refine wp_seq_k fun K28 h28 => cReg ?_
       refine stE hf hc rfl rfl rfl (eLdN (vs := [.slice p_1 r_1.1.People.length tcq.1,.slice p_7 r_1.1.Stations.length tcq_2.1]) ag_78 rfl rfl (cells_box (n := 2) m5 rfl)) fun a w hf hc => stP hf rfl rfl rfl (pM rfl) fun a hf => ?_
       obtain ⟨r_9,hr_9,hF⟩ := bnd_some hF
       refine stE hf hc rfl rfl rfl (eC (v := .tuple #[.agg #[i6 r_9.1.Person,i6 r_9.1.Station],i6 r_9.2]) (vs := [.agg #[.slice p_1 r_1.1.People.length tcq.1,.slice p_7 r_1.1.Stations.length tcq_2.1],.slice p_6 other.length c_4]) (caps := []) en_46 rfl rfl rfl rfl (fun w hc => by obtain ⟨G1,hle1,hrd1,hc,hth1⟩ := lendT kdo_25 hc k1 k1; obtain ⟨G2,hle2,hrd2,hc,hth2⟩ := lendT kdo_101 hc k1 k1; obtain ⟨G3,hle3,hrd3,hc,hth3⟩ := lend hc k0; exact (crew_Blocks_ok r_1.1 other ((hrd1.mono hle2).mono hle3) (hrd2.mono hle3) hrd3 hc hr_9).mono fun e w h => ⟨h.1,(unpickT (hth1 _ _ (unpickT (hth2 _ _ ((hth3 _ _ h.2).unpick k0)) k1 k1)) k1 k1)⟩)) fun a w hf hc => stP hf rfl rfl rfl (pM rfl) fun a hf => stP hf rfl rfl rfl (pX rfl rfl) fun a hf => stP hf rfl rfl rfl (pX rfl rfl) fun a hf => stP hf rfl rfl rfl (pA rfl) fun a hf => cNil ?_
       refine h28 _ _ ?_
       refine wp_seq_k fun K29 h29 => cReg ?_
       refine stP hf rfl rfl rfl (pM rfl) fun a hf => stP hf rfl rfl rfl (pEq rfl rfl) fun a hf => stP hf rfl rfl rfl (pM rfl) fun a hf => stCut 3 (fun a w => Has 181 a [(7,i6 r_9.2),(172,i6 r_9.2),(173,.bool (r_9.2 == 0)),(174,.bool (r_9.2 == 0)),(177,.bool ((r_9.2 == 0) || (r_9.2 == 7)))] ∧ Ctx G (.row p_6 c_4 (other.map encI_i64) 3 1::.row p_1 tcq.1 ((tabR tcq.2 r_1.1.People).map (Kd.v kd_25)) 25 1::tabI kd_25 (tabR tcq.2 r_1.1.People)::.row p_7 tcq_2.1 ((tabR tcq_2.2 r_1.1.Stations).map (Kd.v kd_101)) 101 2::tabI kd_101 (tabR tcq_2.2 r_1.1.Stations)::.box b_2 [.slice p_1 r_1.1.People.length tcq.1,.slice p_7 r_1.1.Stations.length tcq_2.1] 78::Lf) w) ?_ ?_
       ·cases hb : (r_9.2 == 0)
        ·rw [hb] at hf
         refine stP hf rfl rfl rfl (pM rfl) fun a hf => stP hf rfl rfl rfl (pEq rfl rfl) fun a hf => stP hf rfl rfl rfl (pPf rfl rfl) fun a hf => cNil ⟨hf.kp rfl,hc⟩
        ·rw [hb] at hf
         refine stS hf rfl rfl rfl fun a hf => stS hf rfl rfl rfl fun a hf => stP hf rfl rfl rfl (pPt rfl rfl) fun a hf => cNil ⟨hf.kp rfl,hc⟩
       intro a w ⟨hf,hc⟩
       refine stP hf rfl rfl rfl (pM rfl) fun a hf => ?_
       obtain ⟨t_1,ht_1,hF⟩ := bnd_some hF
       refine stCut 2 (fun a w => Has 181 a [(7,i6 r_9.2),(172,i6 r_9.2),(173,.bool (r_9.2 == 0)),(174,.bool (r_9.2 == 0)),(177,.bool ((r_9.2 == 0) || (r_9.2 == 7))),(178,.bool ((r_9.2 == 0) || (r_9.2 == 7))),(180,.bool t_1)] ∧ Ctx G (.row p_6 c_4 (other.map encI_i64) 3 1::.row p_1 tcq.1 ((tabR tcq.2 r_1.1.People).map (Kd.v kd_25)) 25 1::tabI kd_25 (tabR tcq.2 r_1.1.People)::.row p_7 tcq_2.1 ((tabR tcq_2.2 r_1.1.Stations).map (Kd.v kd_101)) 101 2::tabI kd_101 (tabR tcq_2.2 r_1.1.Stations)::.box b_2 [.slice p_1 r_1.1.People.length tcq.1,.slice p_7 r_1.1.Stations.length tcq_2.1] 78::Lf) w) ?_ ?_
       ·cases hb : ((r_9.2 == 0) || (r_9.2 == 7))
        ·rw [hb] at hf
         have hF := condF hb ht_1
         obtain rfl := sj hF
         refine stS hf rfl rfl rfl fun a hf => stP hf rfl rfl rfl (pPf rfl rfl) fun a hf => cNil ⟨hf.kp rfl,hc⟩
        ·rw [hb] at hf
         have hF := condT hb ht_1
         obtain ⟨r_10,hr_10,hF⟩ := bnd_some hF
         refine stE hf hc rfl rfl rfl (eC (v := .bool r_10) (vs := []) (caps := []) en_15 rfl rfl rfl rfl (fun w hc => law11_awake_ok hc hr_10)) fun a w hf hc => stP hf rfl rfl rfl (pPt rfl rfl) fun a hf => ?_
         obtain rfl := sj hF
         exact cNil ⟨hf.kp rfl,hc⟩
       intro a w ⟨hf,hc⟩
       refine stP hf rfl rfl rfl (pA rfl) fun a hf => cNil ?_
       refine h29 _ _ ?_
       refine wp_ret ?_
       obtain rfl := sj hF
       replace hc := hc.drop k5
       replace hc := hc.drop k4
       replace hc := hc.drop k3
       replace hc := hc.drop k2
       replace hc := hc.drop k1
       replace hc := hc.drop k0
       exact fnOut1 (by simp) rfl Tryz.results11 hf hc (show look _ 4 = _ from rfl) ⟨rfl,hc⟩
      refine wp_seq_k fun K30 h30 => ?_
      obtain ⟨r_11,hr_11,hF⟩ := bnd_some hF
      obtain ⟨e_3,he_3,hF⟩ := bnd_some hF
      replace hc := hc.nilRow 0 0
      refine regionE (fun θ => [⟨none,none,5,pq b_2⟩,⟨none,none,12,pq b_3⟩,⟨none,none,13,.slice (some ⟨g_1,0,none⟩) r_8.length c_3⟩,⟨some 0,none,128,.agg #[.slice p_1 r_1.1.People.length tcq.1,.slice p_2 r_1.1.Stations.length tcq_1.1]⟩,⟨some 1,none,129,.slice (some ⟨g_1,0,none⟩) r_8.length c_3⟩,⟨some 2,none,130,.slice ((θ 16).p) r_11.length ((θ 16).c)⟩,⟨some 3,none,131,.pointer (some ⟨b_3,1,none⟩)⟩,⟨some 4,none,132,i6 e_1.Station⟩,⟨some 5,none,133,.pointer (some ⟨(blkOf ((θ 16).p)),e_1.Station.toNat * 1,none⟩)⟩,⟨some 6,none,134,i6 e_3⟩,⟨some 7,none,14,i6 e_3⟩]) (fun E θ => (bif E 2 then .row ((θ 16).p) ((θ 16).c) (r_11.map encI_i64) 3 1 else .row none 0 [] 0 0)::.row p_3 c_1 (r_2.1.map encI_i64) 3 1::.row (some ⟨g_1,0,none⟩) c_3 ((r_8.set e_1.Person.toNat e_1.Station).map encI_i64) 3 1::.box b_3 [i6 e_1.Person,i6 e_1.Station] 86::.row p_1 tcq.1 ((tabR tcq.2 r_1.1.People).map (Kd.v kd_25)) 25 1::tabI kd_25 (tabR tcq.2 r_1.1.People)::.row p_2 tcq_1.1 ((tabR tcq_1.2 r_1.1.Stations).map (Kd.v kd_101)) 101 2::tabI kd_101 (tabR tcq_1.2 r_1.1.Stations)::.box b_2 [.slice p_1 r_1.1.People.length tcq.1,.slice p_2 r_1.1.Stations.length tcq_1.1] 78::Lf) [(5,2)] (fun a w => ∃ (p_9 : Option Addr) (c_6 : Nat),Has 181 a [(5,pq b_2),(12,pq b_3),(13,.slice (some ⟨g_1,0,none⟩) r_8.length c_3),(14,i6 e_3)] ∧ Ctx G (.row p_9 c_6 (r_11.map encI_i64) 3 1::.row p_3 c_1 (r_2.1.map encI_i64) 3 1::.row (some ⟨g_1,0,none⟩) c_3 ((r_8.set e_1.Person.toNat e_1.Station).map encI_i64) 3 1::.box b_3 [i6 e_1.Person,i6 e_1.Station] 86::.row p_1 tcq.1 ((tabR tcq.2 r_1.1.People).map (Kd.v kd_25)) 25 1::tabI kd_25 (tabR tcq.2 r_1.1.People)::.row p_2 tcq_1.1 ((tabR tcq_1.2 r_1.1.Stations).map (Kd.v kd_101)) 101 2::tabI kd_101 (tabR tcq_1.2 r_1.1.Stations)::.box b_2 [.slice p_1 r_1.1.People.length tcq.1,.slice p_2 r_1.1.Stations.length tcq_1.1] 78::Lf) w) follows_mx (by kernel_rfl) (by kernel_rfl) (HasE.of hf ⟨rfl,rfl,rfl,trivial,trivial,trivial,trivial,trivial,trivial,trivial,trivial,trivial⟩) hc ⟨?_,?_,?_,?_,?_,?_,?_,?_,trivial⟩ ?_ ?_
      ·intro E θ a w hD hi hp he hc
       have hf := he.h0
       replace hf := hf.more he 0 rfl onT
       refine stE hf hc rfl rfl rfl (eLdN (vs := [.slice p_1 r_1.1.People.length tcq.1,.slice p_2 r_1.1.Stations.length tcq_1.1]) ag_78 rfl rfl (cells_box (n := 2) m8 rfl)) fun a w hf hc => cNil ?_
       refine xThenN ?_
       intro ds u hau
       refine ⟨θ,he.put0 hi hau hf rfl 3 rfl rfl,?_⟩
       exact hc
      ·intro E θ a w hD hi hp he hc
       have hf := he.h0
       replace hf := hf.more he 2 rfl onT
       refine stP hf rfl rfl rfl (pM rfl) fun a hf => cNil ?_
       refine xThenN ?_
       intro ds u hau
       refine ⟨θ,he.put0 hi hau hf rfl 4 rfl rfl,?_⟩
       exact hc
      ·intro E θ a w hD hi hp he hc
       have e0 := hp.of (k := 0) rfl
       have e1 := hp.of (k := 1) rfl
       have e5 := hD.f 0 rfl hi
       try dsimp only at hc
       rw [hi] at hc
       have hf := he.h0
       replace hf := hf.more he 3 rfl (onP e0)
       replace hf := hf.more he 4 rfl (onP e1)
       obtain ⟨G1,hle1,hrd1,hc,hth1⟩ := lendT kdo_25 hc k4 k4
       obtain ⟨G2,hle2,hrd2,hc,hth2⟩ := lendT kdo_101 hc k4 k4
       obtain ⟨G3,hle3,hrd3,hc,hth3⟩ := lend hc k2
       refine stC (vs := [.agg #[.slice p_1 r_1.1.People.length tcq.1,.slice p_2 r_1.1.Stations.length tcq_1.1],.slice (some ⟨g_1,0,none⟩) r_8.length c_3]) (caps := []) hf rfl rfl rfl en_47 rfl rfl rfl rfl (by have hq := law11_has_ok r_1.1 (r_8.set e_1.Person.toNat e_1.Station) ((hrd1.mono hle2).mono hle3) (hrd2.mono hle3) hrd3 hc hr_11; (try simp only [List.length_set] at hq); exact hq) ?_
       rintro _ w ⟨p_8,c_5,rfl,hc⟩
       refine ⟨_,rfl,fun a hf => ?_⟩
       replace hc := hth3 _ _ hc
       replace hc := hth2 _ _ hc
       replace hc := hth1 _ _ hc
       refine cNil ?_
       refine xThenN ?_
       intro ds u hau
       replace hc := hc.drop k6
       replace hc := hc.pick k3
       replace hc := hc.pick k3
       replace hc := hc.pick k3
       replace hc := hc.pick k3
       replace hc := hc.pick k7
       replace hc := hc.pick k5
       replace hc := hc.pick k7
       replace hc := hc.pick k7
       refine ⟨(setT θ 16 ⟨0,p_8,c_5,(fun _ => (none,0))⟩),he.put hi hau hf rfl [5] ⟨⟨e5,rfl⟩,trivial⟩ ⟨qq,qq,qq,qq,qq,qq,qq,qq,trivial,qq,qq,trivial⟩,?_⟩
       try dsimp only
       rw [updE_self E 2]
       exact hc
      ·intro E θ a w hD hi hp he hc
       have hf := he.h0
       replace hf := hf.more he 1 rfl onT
       refine stP hf rfl rfl rfl (pFA fa_86_1 rfl) fun a hf => cNil ?_
       refine xThenN ?_
       intro ds u hau
       refine ⟨θ,he.put0 hi hau hf rfl 6 rfl rfl,?_⟩
       exact hc
      ·intro E θ a w hD hi hp he hc
       have e3 := hp.of (k := 3) rfl
       have hf := he.h0
       replace hf := hf.more he 6 rfl (onP e3)
       refine stE hf hc rfl rfl rfl (eLd1 sc_3 rfl (cell_box m3 rfl)) fun a w hf hc => cNil ?_
       refine xThenN ?_
       intro ds u hau
       refine ⟨θ,he.put0 hi hau hf rfl 7 rfl rfl,?_⟩
       exact hc
      ·intro E θ a w hD hi hp he hc
       have e2 := hp.of (k := 2) rfl
       have e4 := hp.of (k := 4) rfl
       try dsimp only at hc
       rw [e2] at hc
       have hf := he.h0
       replace hf := hf.more he 5 rfl (onP e2)
       replace hf := hf.more he 7 rfl (onP e4)
       refine stP hf rfl rfl rfl (pIA Tryz.underlying25 sz_3 rfl rfl (row_atb hc m0 he_3)) fun a hf => cNil ?_
       refine xThenN ?_
       intro ds u hau
       refine ⟨θ,he.put0 hi hau hf rfl 8 rfl rfl,?_⟩
       try dsimp only
       rw [updE_tru 5 e2]
       exact hc
      ·intro E θ a w hD hi hp he hc
       have e5 := hp.of (k := 5) rfl
       have e2 := hD.t 0 rfl e5
       try dsimp only at hc
       rw [e2] at hc
       have hf := he.h0
       replace hf := hf.more he 8 rfl (onP e5)
       refine stE hf hc rfl rfl rfl (eLd1 sc_3 rfl (cell_rowb (sz := 1) (j := 0) m0 he_3 rfl)) fun a w hf hc => cNil ?_
       refine xThenN ?_
       intro ds u hau
       refine ⟨θ,he.put0 hi hau hf rfl 9 rfl rfl,?_⟩
       try dsimp only
       rw [updE_tru 6 e2]
       exact hc
      ·intro E θ a w hD hi hp he hc
       have e6 := hp.of (k := 6) rfl
       have hf := he.h0
       replace hf := hf.more he 9 rfl (onP e6)
       refine stP hf rfl rfl rfl (pA rfl) fun a hf => cNil ?_
       refine xThenN ?_
       intro ds u hau
       refine ⟨θ,he.put0 hi hau hf rfl 10 rfl rfl,?_⟩
       exact hc
      ·intro E θ a w hall he hc
       have hf := he.h0
       have e2 := hall 2 rfl
       have e7 := hall 7 rfl
       replace hf := hf.more he 10 rfl (onP e7)
       replace hf := hf.more he 2 rfl (onT)
       replace hf := hf.more he 1 rfl (onT)
       replace hf := hf.more he 0 rfl (onT)
       try dsimp only at hc
       rw [e2] at hc
       exact ⟨(θ 16).p,(θ 16).c,hf.kp rfl,hc⟩
      rintro a w ⟨p_9,c_6,hf,hc⟩
      replace hc := hc.drop k1
      replace hc := hc.drop k0
      refine h30 _ _ ?_
      refine wp_seq_k fun K31 h31 => cReg ?_
      refine stP hf rfl rfl rfl (pM rfl) fun a hf => stP hf rfl rfl rfl (pFA fa_78_1 rfl) fun a hf => stE hf hc rfl rfl rfl (eLd1 sc_76 rfl (cell_box m6 rfl)) fun a w hf hc => stP hf rfl rfl rfl (pFA fa_86_1 rfl) fun a hf => stE hf hc rfl rfl rfl (eLd1 sc_3 rfl (cell_box m1 rfl)) fun a w hf hc => ?_
      obtain ⟨e_4,he_4,hF⟩ := bnd_some hF
      obtain ⟨g_2,rfl,qa_2,qr_2⟩ := row_atm hc m4 (tabR_getI he_4)
      refine stP hf rfl rfl rfl (pIA Tryz.underlying76 sz_101 rfl rfl (At.len qa_2 (by simp only [tabR_len,List.length_set]))) fun a hf => stP hf rfl rfl rfl (pFA fa_101_0 rfl) fun a hf => stE hf hc rfl rfl rfl (eLd1 sc_3 rfl (cell_row (sz := 2) (i := e_1.Station.toNat) (j := 0) m4 qr_2 rfl)) fun a w hf hc => stP hf rfl rfl rfl (pGt rfl rfl) fun a hf => cNil ?_
      refine h31 _ _ ?_
      refine cCond (b := (decide (e_4.Places < e_3))) hf rfl (fun hb => ?_) (fun hb => ?_)
      ·replace hF := condT hb hF
       clear hb
       refine wp_seq_k fun K32 h32 => cReg ?_
       refine stP hf rfl rfl rfl (pM rfl) fun a hf => stP hf rfl rfl rfl (pLenS Tryz.underlying25 rfl) fun a hf => stP hf rfl rfl rfl (pM rfl) fun a hf => cNil ?_
       refine h32 _ _ ?_
       refine wp_block ?_
       obtain ⟨x33,hx33,hF⟩ := bnd_some hF
       let S33 : ((List Int) × Int) → Act → World → Prop := (fun (zz : (List Int) × Int) a w => ∃ (p_10 : Option Addr) (c_7 : Nat),Has 181 a [(5,pq b_2),(12,pq b_3),(13,.slice p_10 zz.1.length c_7),(145,i6 ((r_8.length : Nat) : Int)),(146,i6 zz.2)] ∧ Ctx G (.row p_10 c_7 (zz.1.map encI_i64) 3 1::.box b_3 [i6 e_1.Person,i6 e_1.Station] 86::.row p_1 tcq.1 ((tabR tcq.2 r_1.1.People).map (Kd.v kd_25)) 25 1::tabI kd_25 (tabR tcq.2 r_1.1.People)::.row (some ⟨g_2,0,none⟩) tcq_1.1 ((tabR tcq_1.2 r_1.1.Stations).map (Kd.v kd_101)) 101 2::tabI kd_101 (tabR tcq_1.2 r_1.1.Stations)::.box b_2 [.slice p_1 r_1.1.People.length tcq.1,.slice (some ⟨g_2,0,none⟩) r_1.1.Stations.length tcq_1.1] 78::Lf) w)
       have hr33 : ∀ (zz : (List Int) × Int) a w,x33 = .go zz → S33 zz a w → K27 a w := by
        rintro ⟨other_1,x⟩ a w rfl ⟨p_10,c_7,hf,hc⟩
        replace hF := exK_go hF
        replace hc := hc.drop k1
        exact hj27 other_1 p_10 c_7 (some ⟨g_2,0,none⟩) tcq_1 _ _  (hf.kp rfl) hc hF
       have ho33 : ∀ r,x33 = .out r → r = res := by
        rintro r rfl
        exact sj hF
       replace hf := hf.castAt 13 (v' := .slice (some ⟨g_1,0,none⟩) ((r_8.set e_1.Person.toNat e_1.Station).length) c_3) rfl (congrArg (fun k => Value.slice (some ⟨g_1,0,none⟩) k c_3) (by simp))
       refine cLoop N (loopW (S := S33) (x := x33) ?_ N ((r_8.set e_1.Person.toNat e_1.Station),0) _ _ ⟨(some ⟨g_1,0,none⟩),c_3,hf.kp rfl,hc⟩ hx33)
       clear hF hf hc
       rintro ⟨other_1,x⟩ st33 a w KB33 ⟨p_10,c_7,hf,hc⟩ hF hfin33 hK33
       unfold law11_CrewStable_b33 at hF
       refine wp_seq_k fun K34 h34 => cReg ?_
       refine stP hf rfl rfl rfl (pLt rfl rfl) fun a hf => cNil ?_
       refine h34 _ _ ?_
       refine wp_seq_k fun K35 h35 => cCond (b := (decide (x < ((r_8.length : Nat) : Int)))) hf rfl (fun hb => ?_) (fun hb => ?_)
       ·replace hF := condT hb hF
        clear hb
        refine wp_skip ?_
        refine h35 _ _ ?_
        refine wp_seq_k fun K36 h36 => wp_block ?_
        refine wp_seq_k fun K37 h37 => cReg ?_
        refine stP hf rfl rfl rfl (pM rfl) fun a hf => stP hf rfl rfl rfl (pA rfl) fun a hf => cNil ?_
        refine h37 _ _ ?_
        refine wp_seq_k fun K38 h38 => ?_
        obtain ⟨t_2,ht_2,hF⟩ := bnd_some hF
        refine cQ hc follows_mx (by kernel_rfl) ?_
        refine qE hf rfl rfl rfl (Pu.ev (pM rfl)) fun a hf => qE hf rfl rfl rfl (Pu.ev (pFA fa_86_0 rfl)) fun a hf => qE hf rfl rfl rfl (eLd1 sc_3 rfl (cell_box m1 rfl)) fun a hf => qE hf rfl rfl rfl (Pu.ev (pNe rfl rfl)) fun a hf => qE hf rfl rfl rfl (Pu.ev (pM rfl)) fun a hf => qCut 8 (fun a => Has 181 a [(5,pq b_2),(12,pq b_3),(13,.slice p_10 other_1.length c_7),(145,i6 ((r_8.length : Nat) : Int)),(146,i6 x),(15,i6 x),(149,i6 x),(150,pq b_3),(151,i6 e_1.Person),(152,.bool (x != e_1.Person)),(153,.bool (x != e_1.Person)),(161,.bool t_2)]) ?_ ?_
        ·cases hb : (x != e_1.Person)
         ·rw [hb] at hf
          have hF := condF hb ht_2
          obtain rfl := sj hF
          refine qS hf rfl rfl rfl fun a hf => qS hf rfl rfl rfl fun a hf => qS hf rfl rfl rfl fun a hf => qS hf rfl rfl rfl fun a hf => qS hf rfl rfl rfl fun a hf => qS hf rfl rfl rfl fun a hf => qS hf rfl rfl rfl fun a hf => qE hf rfl rfl rfl (Pu.ev (pPf rfl rfl)) fun a hf => qNil (hf.kp rfl)
         ·rw [hb] at hf
          have hF := condT hb ht_2
          obtain ⟨e_5,he_5,hF⟩ := bnd_some hF
          obtain ⟨g_3,rfl,qa_3,qr_3⟩ := row_atm hc m0 he_5
          refine qE hf rfl rfl rfl (Pu.ev (pM rfl)) fun a hf => qE hf rfl rfl rfl (Pu.ev (pM rfl)) fun a hf => qE hf rfl rfl rfl (Pu.ev (pIA Tryz.underlying25 sz_3 rfl rfl qa_3)) fun a hf => qE hf rfl rfl rfl (eLd1 sc_3 rfl (cell_row (sz := 1) (i := x.toNat) (j := 0) m0 qr_3 rfl)) fun a hf => qE hf rfl rfl rfl (Pu.ev (pFA fa_86_1 rfl)) fun a hf => qE hf rfl rfl rfl (eLd1 sc_3 rfl (cell_box m1 rfl)) fun a hf => qE hf rfl rfl rfl (Pu.ev (pEq rfl rfl)) fun a hf => qE hf rfl rfl rfl (Pu.ev (pPt rfl rfl)) fun a hf => ?_
          obtain rfl := sj hF
          exact qNil (hf.kp rfl)
        intro a hf
        intro w hc
        refine h38 _ _ ?_
        refine cCond (b := t_2) hf rfl (fun hb => ?_) (fun hb => ?_)
        ·replace hF := condT hb hF
         clear hb
         refine wp_seq_k fun K39 h39 => cReg ?_
         refine stP hf rfl rfl rfl (pM rfl) fun a hf => stP hf rfl rfl rfl (pM rfl) fun a hf => ?_
         obtain ⟨e_6,he_6,hF⟩ := bnd_some hF
         obtain ⟨g_4,rfl,qa_4,qr_4⟩ := row_atm hc m0 he_6
         refine stP hf rfl rfl rfl (pIA Tryz.underlying25 sz_3 rfl rfl qa_4) fun a hf => stRw (vs := [i6 (-1)]) (o' := 0) (z := (-1)) (xs := other_1) hf hc rfl rfl rfl rfl sz_3 rfl (fun x => (one_encI_i64 x).1) (getI_lt he_6) (fun _ _ => rfl) rfl u0 fun w hc => cNil ?_
         refine h39 _ _ ?_
         refine wp_exit ?_
         refine cMiss rfl ?_
         refine xThen ?_
         refine xThen ?_
         replace hf := hf.castAt 13 (v' := .slice (some ⟨g_4,0,none⟩) ((other_1.set x.toNat (-1)).length) c_7) rfl (congrArg (fun k => Value.slice (some ⟨g_4,0,none⟩) k c_7) (by simp))
         have he := sj hF
         rw [← he] at hfin33
         refine cHit ?_
         exact hr33 _ _ _ hfin33 ⟨(some ⟨g_4,0,none⟩),c_7,hf.kp rfl,hc⟩
        ·replace hF := condF hb hF
         clear hb
         refine wp_skip ?_
         refine h36 _ _ ?_
         refine cReg ?_
         refine stP hf rfl rfl rfl (pAdd rfl rfl) fun a hf => stP hf rfl rfl rfl (pM rfl) fun a hf => cNil ?_
         exact hK33 (other_1,W (x + 1)) _ _ (sj hF).symm ⟨p_10,c_7,hf.kp rfl,hc⟩
       ·replace hF := condF hb hF
        clear hb
        refine wp_exit ?_
        refine xThen ?_
        refine xThen ?_
        have he := sj hF
        rw [← he] at hfin33
        refine cHit ?_
        exact hr33 _ _ _ hfin33 ⟨p_10,c_7,hf.kp rfl,hc⟩
      ·replace hF := condF hb hF
       clear hb
       refine wp_skip ?_
       replace hf := hf.castAt 13 (v' := .slice (some ⟨g_1,0,none⟩) ((r_8.set e_1.Person.toNat e_1.Station).length) c_3) rfl (congrArg (fun k => Value.slice (some ⟨g_1,0,none⟩) k c_3) (by simp))
       replace hc := hc.drop k1
       exact hj27 (r_8.set e_1.Person.toNat e_1.Station) (some ⟨g_1,0,none⟩) c_3 (some ⟨g_2,0,none⟩) tcq_1 _ _  (hf.kp rfl) hc hF

end Go.Nilo
