/-
 What functions of the Go text compute, as plain functions, and that they do, part 5 of 5. Conditions: what each theorem names.
-/
import Derived.Test.YtpfmkhhhamdpeaaGreatTu4
import Derived.Test.YtpfmkhhhamdpeaaGreatProg
set_option linter.unusedVariables false
set_option linter.unusedSimpArgs false
set_option maxRecDepth 100000
set_option maxHeartbeats 4000000
namespace Go.Nilo
open Go.Proofs


def law11_awake (N : Nat)  : Option (Bool) :=
 Option.bind (law11_Two N) fun r =>
 Option.bind (crew_Assign N r) fun r_1 =>
 Option.bind (law11_Two N) fun r_2 =>
 Option.bind (crew_Blocks N r_2 ([0,1] : List Int)) fun r_3 =>
 Option.bind (law11_Two N) fun r_4 =>
 Option.bind (crew_Holds N r_4 ([(⟨0,0⟩ : crew_Refusal)] : List crew_Refusal)) fun r_5 =>
 Option.bind (law11_Trip N 70) fun r_6 =>
 Option.bind (crew_Hours N 0 r_6) fun r_7 =>
 Option.bind (law11_Trip N 70) fun r_8 =>
 Option.bind (crew_Late N 0 r_8) fun r_9 =>
 Option.bind (cond (((((r_1.2 != 0) || (r_3.2 != 0)) || (r_5.2 != 0)) || (r_7.2 != 0)) || (r_9.2.2 != 0)) (some true) (Option.bind (kit_Same_int N r_1.1 ([1,0] : List Int)) fun r_10 =>
 some (!r_10))) fun t_1 =>
 Option.bind (cond ((t_1 || (!(r_3.1.Person == 1 && r_3.1.Station == 0))) || (!r_5.1)) (some true) (Option.bind (kit_Same_api_Span N r_7.1 ([(⟨35,40⟩ : api_Span),(⟨65,75⟩ : api_Span)] : List api_Span)) fun r_11 =>
 some (!r_11))) fun t_2 =>
 cond ((t_2 || (r_9.1 != 1)) || (r_9.2.1 != (-1)))
 (some false)
 (Option.bind (law11_Trip N 80) fun r_12 =>
 Option.bind (crew_Latest N r_12) fun r_13 =>
 Option.bind (law11_Wire N) fun r_14 =>
 Option.bind (crew_Load N r_14 5) fun r_15 =>
 Option.bind (law11_Wire N) fun r_16 =>
 Option.bind (crew_Beyond N r_16) fun r_17 =>
 Option.bind (law11_Wire N) fun r_18 =>
 Option.bind (law11_span N 90 90) fun r_19 =>
 Option.bind (room ((r_18.Rides ++ [(⟨5,5,r_19⟩ : crew_Ride)])).length) fun un =>
 Option.bind (crew_Queue N (⟨r_18.Car,r_18.Wide,r_18.Sag,r_18.Most,(r_18.Rides ++ [(⟨5,5,r_19⟩ : crew_Ride)])⟩ : crew_Cable)) fun r_20 =>
 Option.bind (crew_Paid N (⟨600,480,500⟩ : crew_Pay) ([481] : List Int)) fun r_21 =>
 Option.bind (cond ((((((r_13.2 == 0) && (r_15.2 == 0)) && (r_17.2.2 == 0)) && (r_20.2 == 0)) && (r_21.2 == 0)) && (r_13.1 == 5)) (law11_span N 290 320) (some (⟨0,0⟩ : api_Span))) fun r_22 =>
 Option.bind (cond (((((((((r_13.2 == 0) && (r_15.2 == 0)) && (r_17.2.2 == 0)) && (r_20.2 == 0)) && (r_21.2 == 0)) && (r_13.1 == 5)) && (r_15.1.Lo == r_22.Lo && r_15.1.Hi == r_22.Hi)) && (r_17.1 == 5)) && (r_17.2.1 == (-1))) (kit_Same_int N r_20.1 ([0,10,15] : List Int)) (some false)) fun r_23 =>
 some (((((((((((r_13.2 == 0) && (r_15.2 == 0)) && (r_17.2.2 == 0)) && (r_20.2 == 0)) && (r_21.2 == 0)) && (r_13.1 == 5)) && (r_15.1.Lo == r_22.Lo && r_15.1.Hi == r_22.Hi)) && (r_17.1 == 5)) && (r_17.2.1 == (-1))) && r_23) && (r_21.1 == 4815)))
theorem law11_awake_ok {N : Nat} {G : Pers} {Lf : List Ent} {w : World}    (hc : Ctx G (Lf) w) {res : Bool} (hF : law11_awake N = some res) : Calls Tryz.prog 15 #[] w (fun e w => e = .returned (.bool res) ∧ Ctx G (Lf) w) := by
 unfold law11_awake at hF
 refine fnIn (args := []) Tryz.func15 rfl Tryz.ntmps15 rfl fun a hf => wp_seq_k fun K1 h1 => cReg ?_
 refine stP hf rfl rfl rfl (pA rfl) fun a hf => cNil ?_
 refine h1 _ _ ?_
 refine wp_seq_k fun K2 h2 => cReg ?_
 obtain ⟨r,hr,hF⟩ := bnd_some hF
 refine stC (vs := []) (caps := []) hf rfl rfl rfl en_67 rfl rfl rfl rfl (law11_Two_ok hc hr) ?_
 rintro _ w ⟨p_1,tcq,p_2,tcq_1,rfl,hc⟩
 refine ⟨_,rfl,fun a hf => ?_⟩
 obtain ⟨r_1,hr_1,hF⟩ := bnd_some hF
 obtain ⟨G1,hle1,hrd1,hc,hth1⟩ := lendT kdo_25 hc k0 k0
 obtain ⟨G2,hle2,hrd2,hc,hth2⟩ := lendT kdo_101 hc k0 k0
 refine stC (vs := [.agg #[.slice p_1 r.People.length tcq.1,.slice p_2 r.Stations.length tcq_1.1]]) (caps := []) hf rfl rfl rfl en_43 rfl rfl rfl rfl (crew_Assign_ok r (hrd1.mono hle2) hrd2 hc hr_1) ?_
 rintro _ w ⟨p_3,c_1,rfl,hc⟩
 refine ⟨_,rfl,fun a hf => ?_⟩
 replace hc := hth2 _ _ hc
 replace hc := hth1 _ _ hc
 refine stP hf rfl rfl rfl (pM rfl) fun a hf => stP hf rfl rfl rfl (pX rfl rfl) fun a hf => stP hf rfl rfl rfl (pX rfl rfl) fun a hf => stP hf rfl rfl rfl (pA rfl) fun a hf => stP hf rfl rfl rfl (pA rfl) fun a hf => cNil ?_
 refine h2 _ _ ?_
 refine wp_seq_k fun K3 h3 => cReg ?_
 obtain ⟨r_2,hr_2,hF⟩ := bnd_some hF
 refine stC (vs := []) (caps := []) hf rfl rfl rfl en_67 rfl rfl rfl rfl (law11_Two_ok hc hr_2) ?_
 rintro _ w ⟨p_4,tcq_2,p_5,tcq_3,rfl,hc⟩
 refine ⟨_,rfl,fun a hf => ?_⟩
 refine stBS (rows := ([0,1] : List Int).map encI_i64) (vs := [(0,i6 0),(1,i6 1)]) hf hc rfl rfl sl_25 rfl ⟨rfl,rfl,rfl,rfl,rfl,rfl,trivial⟩ rfl rfl fun b_1 a w hf hc => ?_
 obtain ⟨r_3,hr_3,hF⟩ := bnd_some hF
 refine stE hf hc rfl rfl rfl (eC (v := .tuple #[.agg #[i6 r_3.1.Person,i6 r_3.1.Station],i6 r_3.2]) (vs := [.agg #[.slice p_4 r_2.People.length tcq_2.1,.slice p_5 r_2.Stations.length tcq_3.1],.slice (some ⟨b_1,0,none⟩) 2 2]) (caps := []) en_46 rfl rfl rfl rfl (fun w hc => by obtain ⟨G1,hle1,hrd1,hc,hth1⟩ := lendT kdo_25 hc k1 k1; obtain ⟨G2,hle2,hrd2,hc,hth2⟩ := lendT kdo_101 hc k1 k1; obtain ⟨G3,hle3,hrd3,hc,hth3⟩ := lend hc k0; exact (crew_Blocks_ok r_2 ([0,1] : List Int) ((hrd1.mono hle2).mono hle3) (hrd2.mono hle3) hrd3 hc hr_3).mono fun e w h => ⟨h.1,(unpickT (hth1 _ _ (unpickT (hth2 _ _ ((hth3 _ _ h.2).unpick k0)) k1 k1)) k1 k1)⟩)) fun a w hf hc => stP hf rfl rfl rfl (pM rfl) fun a hf => stP hf rfl rfl rfl (pX rfl rfl) fun a hf => stP hf rfl rfl rfl (pX rfl rfl) fun a hf => stAl (cs := [i6 0,i6 0]) hf hc rfl rfl zr_86 rfl fun b_2 a w hf hc => stSt (vs := [i6 r_3.1.Person,i6 r_3.1.Station]) hf hc rfl rfl rfl rfl sz_86 rfl rfl u0 fun w hc => stP hf rfl rfl rfl (pA rfl) fun a hf => cNil ?_
 replace hc := hc.drop k9
 replace hc := hc.drop k8
 replace hc := hc.drop k7
 replace hc := hc.drop k6
 replace hc := hc.drop k5
 replace hc := hc.drop k4
 replace hc := hc.drop k3
 replace hc := hc.drop k2
 replace hc := hc.drop k1
 refine h3 _ _ ?_
 refine wp_seq_k fun K4 h4 => cReg ?_
 obtain ⟨r_4,hr_4,hF⟩ := bnd_some hF
 refine stC (vs := []) (caps := []) hf rfl rfl rfl en_67 rfl rfl rfl rfl (law11_Two_ok hc hr_4) ?_
 rintro _ w ⟨p_6,tcq_4,p_7,tcq_5,rfl,hc⟩
 refine ⟨_,rfl,fun a hf => ?_⟩
 refine stP hf rfl rfl rfl (pBuildS (cells := [i6 0,i6 0]) bt_86 rfl rfl) fun a hf => stBS (rows := ([(⟨0,0⟩ : crew_Refusal)] : List crew_Refusal).map enc_crew_Refusal) (vs := [(0,.agg #[i6 0,i6 0])]) hf hc rfl rfl sl_99 rfl ⟨rfl,rfl,rfl,trivial⟩ rfl rfl fun b_3 a w hf hc => ?_
 obtain ⟨r_5,hr_5,hF⟩ := bnd_some hF
 refine stE hf hc rfl rfl rfl (eC (v := .tuple #[.bool r_5.1,i6 r_5.2]) (vs := [.agg #[.slice p_6 r_4.People.length tcq_4.1,.slice p_7 r_4.Stations.length tcq_5.1],.slice (some ⟨b_3,0,none⟩) 1 1]) (caps := []) en_59 rfl rfl rfl rfl (fun w hc => by obtain ⟨G1,hle1,hrd1,hc,hth1⟩ := lendT kdo_25 hc k1 k1; obtain ⟨G2,hle2,hrd2,hc,hth2⟩ := lendT kdo_101 hc k1 k1; obtain ⟨G3,hle3,hrd3,hc,hth3⟩ := lend hc k0; exact (crew_Holds_ok r_4 ([(⟨0,0⟩ : crew_Refusal)] : List crew_Refusal) ((hrd1.mono hle2).mono hle3) (hrd2.mono hle3) hrd3 hc hr_5).mono fun e w h => ⟨h.1,(unpickT (hth1 _ _ (unpickT (hth2 _ _ ((hth3 _ _ h.2).unpick k0)) k1 k1)) k1 k1)⟩)) fun a w hf hc => stP hf rfl rfl rfl (pM rfl) fun a hf => stP hf rfl rfl rfl (pX rfl rfl) fun a hf => stP hf rfl rfl rfl (pX rfl rfl) fun a hf => stP hf rfl rfl rfl (pA rfl) fun a hf => stP hf rfl rfl rfl (pA rfl) fun a hf => cNil ?_
 refine h4 _ _ ?_
 refine wp_seq_k fun K5 h5 => cReg ?_
 obtain ⟨r_6,hr_6,hF⟩ := bnd_some hF
 refine stC (vs := [i6 70]) (caps := []) hf rfl rfl rfl en_68 rfl rfl rfl rfl (law11_Trip_ok 70 hc hr_6) ?_
 rintro _ w ⟨p_8,c_2,rfl,hc⟩
 refine ⟨_,rfl,fun a hf => ?_⟩
 obtain ⟨r_7,hr_7,hF⟩ := bnd_some hF
 obtain ⟨G1,hle1,hrd1,hc,hth1⟩ := lend hc k0
 refine stC (vs := [i6 0,.slice p_8 r_6.length c_2]) (caps := []) hf rfl rfl rfl en_18 rfl rfl rfl rfl (crew_Hours_ok 0 r_6 hrd1 hc hr_7) ?_
 rintro _ w ⟨p_9,c_3,rfl,hc⟩
 refine ⟨_,rfl,fun a hf => ?_⟩
 replace hc := hth1 _ _ hc
 refine stP hf rfl rfl rfl (pM rfl) fun a hf => stP hf rfl rfl rfl (pX rfl rfl) fun a hf => stP hf rfl rfl rfl (pX rfl rfl) fun a hf => stP hf rfl rfl rfl (pA rfl) fun a hf => stP hf rfl rfl rfl (pA rfl) fun a hf => cNil ?_
 replace hc := hc.drop k6
 replace hc := hc.drop k5
 replace hc := hc.drop k4
 replace hc := hc.drop k3
 replace hc := hc.drop k2
 replace hc := hc.drop k0
 refine h5 _ _ ?_
 refine wp_seq_k fun K6 h6 => cReg ?_
 obtain ⟨r_8,hr_8,hF⟩ := bnd_some hF
 refine stC (vs := [i6 70]) (caps := []) hf rfl rfl rfl en_68 rfl rfl rfl rfl (law11_Trip_ok 70 hc hr_8) ?_
 rintro _ w ⟨p_10,c_4,rfl,hc⟩
 refine ⟨_,rfl,fun a hf => ?_⟩
 obtain ⟨r_9,hr_9,hF⟩ := bnd_some hF
 refine stE hf hc rfl rfl rfl (eC (v := .tuple #[i6 r_9.1,i6 r_9.2.1,i6 r_9.2.2]) (vs := [i6 0,.slice p_10 r_8.length c_4]) (caps := []) en_22 rfl rfl rfl rfl (fun w hc => by obtain ⟨G1,hle1,hrd1,hc,hth1⟩ := lend hc k0; exact (crew_Late_ok 0 r_8 hrd1 hc hr_9).mono fun e w h => ⟨h.1,((hth1 _ _ h.2).unpick k0)⟩)) fun a w hf hc => stP hf rfl rfl rfl (pM rfl) fun a hf => stP hf rfl rfl rfl (pX rfl rfl) fun a hf => stP hf rfl rfl rfl (pX rfl rfl) fun a hf => stP hf rfl rfl rfl (pX rfl rfl) fun a hf => stP hf rfl rfl rfl (pA rfl) fun a hf => stP hf rfl rfl rfl (pA rfl) fun a hf => stP hf rfl rfl rfl (pA rfl) fun a hf => cNil ?_
 refine h6 _ _ ?_
 refine wp_seq_k fun K7 h7 => wp_seq_k fun K8 h8 => cReg ?_
 refine stP hf rfl rfl rfl (pM rfl) fun a hf => stP hf rfl rfl rfl (pNe rfl rfl) fun a hf => stP hf rfl rfl rfl (pM rfl) fun a hf => stCut 3 (fun a w => Has 174 a [(1,.slice p_3 r_1.1.length c_1),(2,i6 r_1.2),(3,pq b_2),(4,i6 r_3.2),(5,.bool r_5.1),(6,i6 r_5.2),(7,.slice p_9 r_7.1.length c_3),(8,i6 r_7.2),(9,i6 r_9.1),(10,i6 r_9.2.1),(11,i6 r_9.2.2),(46,i6 r_1.2),(47,.bool (r_1.2 != 0)),(48,.bool (r_1.2 != 0)),(51,.bool ((r_1.2 != 0) || (r_3.2 != 0)))] ∧ Ctx G (.row p_10 c_4 (r_8.map enc_crew_Visit) 31 6::.row p_9 c_3 (r_7.1.map enc_api_Span) 29 2::.box b_2 [i6 r_3.1.Person,i6 r_3.1.Station] 86::.row p_3 c_1 (r_1.1.map encI_i64) 3 1::Lf) w) ?_ ?_
 ·cases hb : (r_1.2 != 0)
  ·rw [hb] at hf
   refine stP hf rfl rfl rfl (pM rfl) fun a hf => stP hf rfl rfl rfl (pNe rfl rfl) fun a hf => stP hf rfl rfl rfl (pPf rfl rfl) fun a hf => cNil ⟨hf.kp rfl,hc⟩
  ·rw [hb] at hf
   refine stS hf rfl rfl rfl fun a hf => stS hf rfl rfl rfl fun a hf => stP hf rfl rfl rfl (pPt rfl rfl) fun a hf => cNil ⟨hf.kp rfl,hc⟩
 intro a w ⟨hf,hc⟩
 refine stP hf rfl rfl rfl (pM rfl) fun a hf => stCut 3 (fun a w => Has 174 a [(1,.slice p_3 r_1.1.length c_1),(2,i6 r_1.2),(3,pq b_2),(4,i6 r_3.2),(5,.bool r_5.1),(6,i6 r_5.2),(7,.slice p_9 r_7.1.length c_3),(8,i6 r_7.2),(9,i6 r_9.1),(10,i6 r_9.2.1),(11,i6 r_9.2.2),(46,i6 r_1.2),(47,.bool (r_1.2 != 0)),(48,.bool (r_1.2 != 0)),(51,.bool ((r_1.2 != 0) || (r_3.2 != 0))),(52,.bool ((r_1.2 != 0) || (r_3.2 != 0))),(55,.bool (((r_1.2 != 0) || (r_3.2 != 0)) || (r_5.2 != 0)))] ∧ Ctx G (.row p_10 c_4 (r_8.map enc_crew_Visit) 31 6::.row p_9 c_3 (r_7.1.map enc_api_Span) 29 2::.box b_2 [i6 r_3.1.Person,i6 r_3.1.Station] 86::.row p_3 c_1 (r_1.1.map encI_i64) 3 1::Lf) w) ?_ ?_
 ·cases hb : ((r_1.2 != 0) || (r_3.2 != 0))
  ·rw [hb] at hf
   refine stP hf rfl rfl rfl (pM rfl) fun a hf => stP hf rfl rfl rfl (pNe rfl rfl) fun a hf => stP hf rfl rfl rfl (pPf rfl rfl) fun a hf => cNil ⟨hf.kp rfl,hc⟩
  ·rw [hb] at hf
   refine stS hf rfl rfl rfl fun a hf => stS hf rfl rfl rfl fun a hf => stP hf rfl rfl rfl (pPt rfl rfl) fun a hf => cNil ⟨hf.kp rfl,hc⟩
 intro a w ⟨hf,hc⟩
 refine stP hf rfl rfl rfl (pM rfl) fun a hf => stCut 3 (fun a w => Has 174 a [(1,.slice p_3 r_1.1.length c_1),(2,i6 r_1.2),(3,pq b_2),(4,i6 r_3.2),(5,.bool r_5.1),(6,i6 r_5.2),(7,.slice p_9 r_7.1.length c_3),(8,i6 r_7.2),(9,i6 r_9.1),(10,i6 r_9.2.1),(11,i6 r_9.2.2),(46,i6 r_1.2),(47,.bool (r_1.2 != 0)),(48,.bool (r_1.2 != 0)),(51,.bool ((r_1.2 != 0) || (r_3.2 != 0))),(52,.bool ((r_1.2 != 0) || (r_3.2 != 0))),(55,.bool (((r_1.2 != 0) || (r_3.2 != 0)) || (r_5.2 != 0))),(56,.bool (((r_1.2 != 0) || (r_3.2 != 0)) || (r_5.2 != 0))),(59,.bool ((((r_1.2 != 0) || (r_3.2 != 0)) || (r_5.2 != 0)) || (r_7.2 != 0)))] ∧ Ctx G (.row p_10 c_4 (r_8.map enc_crew_Visit) 31 6::.row p_9 c_3 (r_7.1.map enc_api_Span) 29 2::.box b_2 [i6 r_3.1.Person,i6 r_3.1.Station] 86::.row p_3 c_1 (r_1.1.map encI_i64) 3 1::Lf) w) ?_ ?_
 ·cases hb : (((r_1.2 != 0) || (r_3.2 != 0)) || (r_5.2 != 0))
  ·rw [hb] at hf
   refine stP hf rfl rfl rfl (pM rfl) fun a hf => stP hf rfl rfl rfl (pNe rfl rfl) fun a hf => stP hf rfl rfl rfl (pPf rfl rfl) fun a hf => cNil ⟨hf.kp rfl,hc⟩
  ·rw [hb] at hf
   refine stS hf rfl rfl rfl fun a hf => stS hf rfl rfl rfl fun a hf => stP hf rfl rfl rfl (pPt rfl rfl) fun a hf => cNil ⟨hf.kp rfl,hc⟩
 intro a w ⟨hf,hc⟩
 refine stP hf rfl rfl rfl (pM rfl) fun a hf => stCut 3 (fun a w => Has 174 a [(1,.slice p_3 r_1.1.length c_1),(2,i6 r_1.2),(3,pq b_2),(4,i6 r_3.2),(5,.bool r_5.1),(6,i6 r_5.2),(7,.slice p_9 r_7.1.length c_3),(8,i6 r_7.2),(9,i6 r_9.1),(10,i6 r_9.2.1),(11,i6 r_9.2.2),(46,i6 r_1.2),(47,.bool (r_1.2 != 0)),(48,.bool (r_1.2 != 0)),(51,.bool ((r_1.2 != 0) || (r_3.2 != 0))),(52,.bool ((r_1.2 != 0) || (r_3.2 != 0))),(55,.bool (((r_1.2 != 0) || (r_3.2 != 0)) || (r_5.2 != 0))),(56,.bool (((r_1.2 != 0) || (r_3.2 != 0)) || (r_5.2 != 0))),(59,.bool ((((r_1.2 != 0) || (r_3.2 != 0)) || (r_5.2 != 0)) || (r_7.2 != 0))),(60,.bool ((((r_1.2 != 0) || (r_3.2 != 0)) || (r_5.2 != 0)) || (r_7.2 != 0))),(63,.bool (((((r_1.2 != 0) || (r_3.2 != 0)) || (r_5.2 != 0)) || (r_7.2 != 0)) || (r_9.2.2 != 0)))] ∧ Ctx G (.row p_10 c_4 (r_8.map enc_crew_Visit) 31 6::.row p_9 c_3 (r_7.1.map enc_api_Span) 29 2::.box b_2 [i6 r_3.1.Person,i6 r_3.1.Station] 86::.row p_3 c_1 (r_1.1.map encI_i64) 3 1::Lf) w) ?_ ?_
 ·cases hb : ((((r_1.2 != 0) || (r_3.2 != 0)) || (r_5.2 != 0)) || (r_7.2 != 0))
  ·rw [hb] at hf
   refine stP hf rfl rfl rfl (pM rfl) fun a hf => stP hf rfl rfl rfl (pNe rfl rfl) fun a hf => stP hf rfl rfl rfl (pPf rfl rfl) fun a hf => cNil ⟨hf.kp rfl,hc⟩
  ·rw [hb] at hf
   refine stS hf rfl rfl rfl fun a hf => stS hf rfl rfl rfl fun a hf => stP hf rfl rfl rfl (pPt rfl rfl) fun a hf => cNil ⟨hf.kp rfl,hc⟩
 intro a w ⟨hf,hc⟩
 refine stP hf rfl rfl rfl (pM rfl) fun a hf => ?_
 obtain ⟨t_1,ht_1,hF⟩ := bnd_some hF
 refine stCut 5 (fun a w => Has 174 a [(1,.slice p_3 r_1.1.length c_1),(2,i6 r_1.2),(3,pq b_2),(4,i6 r_3.2),(5,.bool r_5.1),(6,i6 r_5.2),(7,.slice p_9 r_7.1.length c_3),(8,i6 r_7.2),(9,i6 r_9.1),(10,i6 r_9.2.1),(11,i6 r_9.2.2),(46,i6 r_1.2),(47,.bool (r_1.2 != 0)),(48,.bool (r_1.2 != 0)),(51,.bool ((r_1.2 != 0) || (r_3.2 != 0))),(52,.bool ((r_1.2 != 0) || (r_3.2 != 0))),(55,.bool (((r_1.2 != 0) || (r_3.2 != 0)) || (r_5.2 != 0))),(56,.bool (((r_1.2 != 0) || (r_3.2 != 0)) || (r_5.2 != 0))),(59,.bool ((((r_1.2 != 0) || (r_3.2 != 0)) || (r_5.2 != 0)) || (r_7.2 != 0))),(60,.bool ((((r_1.2 != 0) || (r_3.2 != 0)) || (r_5.2 != 0)) || (r_7.2 != 0))),(63,.bool (((((r_1.2 != 0) || (r_3.2 != 0)) || (r_5.2 != 0)) || (r_7.2 != 0)) || (r_9.2.2 != 0))),(64,.bool (((((r_1.2 != 0) || (r_3.2 != 0)) || (r_5.2 != 0)) || (r_7.2 != 0)) || (r_9.2.2 != 0))),(69,.bool t_1)] ∧ Ctx G (.row p_10 c_4 (r_8.map enc_crew_Visit) 31 6::.row p_9 c_3 (r_7.1.map enc_api_Span) 29 2::.box b_2 [i6 r_3.1.Person,i6 r_3.1.Station] 86::.row p_3 c_1 (r_1.1.map encI_i64) 3 1::Lf) w) ?_ ?_
 ·cases hb : (((((r_1.2 != 0) || (r_3.2 != 0)) || (r_5.2 != 0)) || (r_7.2 != 0)) || (r_9.2.2 != 0))
  ·rw [hb] at hf
   have hF := condF hb ht_1
   refine stP hf rfl rfl rfl (pM rfl) fun a hf => stBS (rows := ([1,0] : List Int).map encI_i64) (vs := [(0,i6 1),(1,i6 0)]) hf hc rfl rfl sl_25 rfl ⟨rfl,rfl,rfl,rfl,rfl,rfl,trivial⟩ rfl rfl fun b_4 a w hf hc => ?_
   obtain ⟨r_10,hr_10,hF⟩ := bnd_some hF
   refine stE hf hc rfl rfl rfl (eC (v := .bool r_10) (vs := [.slice p_3 r_1.1.length c_1,.slice (some ⟨b_4,0,none⟩) 2 2]) (caps := []) en_29 rfl rfl rfl rfl (fun w hc => by obtain ⟨G1,hle1,hrd1,hc,hth1⟩ := lend hc k4; obtain ⟨G2,hle2,hrd2,hc,hth2⟩ := lend hc k0; exact (kit_Same_int_ok r_1.1 ([1,0] : List Int) (hrd1.mono hle2) hrd2 hc hr_10).mono fun e w h => ⟨h.1,((hth1 _ _ ((hth2 _ _ h.2).unpick k0)).unpick k4)⟩)) fun a w hf hc => stP hf rfl rfl rfl (pNot rfl) fun a hf => stP hf rfl rfl rfl (pPf rfl rfl) fun a hf => ?_
   replace hc := hc.drop k0
   obtain rfl := sj hF
   exact cNil ⟨hf.kp rfl,hc⟩
  ·rw [hb] at hf
   have hF := condT hb ht_1
   obtain rfl := sj hF
   refine stS hf rfl rfl rfl fun a hf => stS hf rfl rfl rfl fun a hf => stS hf rfl rfl rfl fun a hf => stS hf rfl rfl rfl fun a hf => stP hf rfl rfl rfl (pPt rfl rfl) fun a hf => cNil ⟨hf.kp rfl,hc⟩
 intro a w ⟨hf,hc⟩
 refine stP hf rfl rfl rfl (pM rfl) fun a hf => stCut 4 (fun a w => Has 174 a [(1,.slice p_3 r_1.1.length c_1),(2,i6 r_1.2),(3,pq b_2),(4,i6 r_3.2),(5,.bool r_5.1),(6,i6 r_5.2),(7,.slice p_9 r_7.1.length c_3),(8,i6 r_7.2),(9,i6 r_9.1),(10,i6 r_9.2.1),(11,i6 r_9.2.2),(46,i6 r_1.2),(47,.bool (r_1.2 != 0)),(48,.bool (r_1.2 != 0)),(51,.bool ((r_1.2 != 0) || (r_3.2 != 0))),(52,.bool ((r_1.2 != 0) || (r_3.2 != 0))),(55,.bool (((r_1.2 != 0) || (r_3.2 != 0)) || (r_5.2 != 0))),(56,.bool (((r_1.2 != 0) || (r_3.2 != 0)) || (r_5.2 != 0))),(59,.bool ((((r_1.2 != 0) || (r_3.2 != 0)) || (r_5.2 != 0)) || (r_7.2 != 0))),(60,.bool ((((r_1.2 != 0) || (r_3.2 != 0)) || (r_5.2 != 0)) || (r_7.2 != 0))),(63,.bool (((((r_1.2 != 0) || (r_3.2 != 0)) || (r_5.2 != 0)) || (r_7.2 != 0)) || (r_9.2.2 != 0))),(64,.bool (((((r_1.2 != 0) || (r_3.2 != 0)) || (r_5.2 != 0)) || (r_7.2 != 0)) || (r_9.2.2 != 0))),(69,.bool t_1),(70,.bool t_1),(74,.bool (t_1 || (!(r_3.1.Person == 1 && r_3.1.Station == 0))))] ∧ Ctx G (.row p_10 c_4 (r_8.map enc_crew_Visit) 31 6::.row p_9 c_3 (r_7.1.map enc_api_Span) 29 2::.box b_2 [i6 r_3.1.Person,i6 r_3.1.Station] 86::.row p_3 c_1 (r_1.1.map encI_i64) 3 1::Lf) w) ?_ ?_
 ·cases hb : t_1
  ·rw [hb] at hf
   try rw [hb] at hc
   refine stE hf hc rfl rfl rfl (eLdN (vs := [i6 r_3.1.Person,i6 r_3.1.Station]) ag_86 rfl rfl (cells_box (n := 2) m2 rfl)) fun a w hf hc => stP hf rfl rfl rfl (pBuildS (cells := [i6 1,i6 0]) bt_86 rfl rfl) fun a hf => stP hf rfl rfl rfl (pNeA ge_86 rfl rfl (eqs_86 _ _ _ _)) fun a hf => stP hf rfl rfl rfl (pPf rfl rfl) fun a hf => cNil ⟨hf.kp rfl,hc⟩
  ·rw [hb] at hf
   try rw [hb] at hc
   refine stS hf rfl rfl rfl fun a hf => stS hf rfl rfl rfl fun a hf => stS hf rfl rfl rfl fun a hf => stP hf rfl rfl rfl (pPt rfl rfl) fun a hf => cNil ⟨hf.kp rfl,hc⟩
 intro a w ⟨hf,hc⟩
 refine stP hf rfl rfl rfl (pM rfl) fun a hf => stCut 3 (fun a w => Has 174 a [(1,.slice p_3 r_1.1.length c_1),(2,i6 r_1.2),(3,pq b_2),(4,i6 r_3.2),(5,.bool r_5.1),(6,i6 r_5.2),(7,.slice p_9 r_7.1.length c_3),(8,i6 r_7.2),(9,i6 r_9.1),(10,i6 r_9.2.1),(11,i6 r_9.2.2),(46,i6 r_1.2),(47,.bool (r_1.2 != 0)),(48,.bool (r_1.2 != 0)),(51,.bool ((r_1.2 != 0) || (r_3.2 != 0))),(52,.bool ((r_1.2 != 0) || (r_3.2 != 0))),(55,.bool (((r_1.2 != 0) || (r_3.2 != 0)) || (r_5.2 != 0))),(56,.bool (((r_1.2 != 0) || (r_3.2 != 0)) || (r_5.2 != 0))),(59,.bool ((((r_1.2 != 0) || (r_3.2 != 0)) || (r_5.2 != 0)) || (r_7.2 != 0))),(60,.bool ((((r_1.2 != 0) || (r_3.2 != 0)) || (r_5.2 != 0)) || (r_7.2 != 0))),(63,.bool (((((r_1.2 != 0) || (r_3.2 != 0)) || (r_5.2 != 0)) || (r_7.2 != 0)) || (r_9.2.2 != 0))),(64,.bool (((((r_1.2 != 0) || (r_3.2 != 0)) || (r_5.2 != 0)) || (r_7.2 != 0)) || (r_9.2.2 != 0))),(69,.bool t_1),(70,.bool t_1),(74,.bool (t_1 || (!(r_3.1.Person == 1 && r_3.1.Station == 0)))),(75,.bool (t_1 || (!(r_3.1.Person == 1 && r_3.1.Station == 0)))),(78,.bool ((t_1 || (!(r_3.1.Person == 1 && r_3.1.Station == 0))) || (!r_5.1)))] ∧ Ctx G (.row p_10 c_4 (r_8.map enc_crew_Visit) 31 6::.row p_9 c_3 (r_7.1.map enc_api_Span) 29 2::.box b_2 [i6 r_3.1.Person,i6 r_3.1.Station] 86::.row p_3 c_1 (r_1.1.map encI_i64) 3 1::Lf) w) ?_ ?_
 ·cases hb : (t_1 || (!(r_3.1.Person == 1 && r_3.1.Station == 0)))
  ·rw [hb] at hf
   refine stP hf rfl rfl rfl (pM rfl) fun a hf => stP hf rfl rfl rfl (pNot rfl) fun a hf => stP hf rfl rfl rfl (pPf rfl rfl) fun a hf => cNil ⟨hf.kp rfl,hc⟩
  ·rw [hb] at hf
   refine stS hf rfl rfl rfl fun a hf => stS hf rfl rfl rfl fun a hf => stP hf rfl rfl rfl (pPt rfl rfl) fun a hf => cNil ⟨hf.kp rfl,hc⟩
 intro a w ⟨hf,hc⟩
 refine stP hf rfl rfl rfl (pM rfl) fun a hf => ?_
 obtain ⟨t_2,ht_2,hF⟩ := bnd_some hF
 refine stCut 7 (fun a w => Has 174 a [(1,.slice p_3 r_1.1.length c_1),(2,i6 r_1.2),(3,pq b_2),(4,i6 r_3.2),(5,.bool r_5.1),(6,i6 r_5.2),(7,.slice p_9 r_7.1.length c_3),(8,i6 r_7.2),(9,i6 r_9.1),(10,i6 r_9.2.1),(11,i6 r_9.2.2),(46,i6 r_1.2),(47,.bool (r_1.2 != 0)),(48,.bool (r_1.2 != 0)),(51,.bool ((r_1.2 != 0) || (r_3.2 != 0))),(52,.bool ((r_1.2 != 0) || (r_3.2 != 0))),(55,.bool (((r_1.2 != 0) || (r_3.2 != 0)) || (r_5.2 != 0))),(56,.bool (((r_1.2 != 0) || (r_3.2 != 0)) || (r_5.2 != 0))),(59,.bool ((((r_1.2 != 0) || (r_3.2 != 0)) || (r_5.2 != 0)) || (r_7.2 != 0))),(60,.bool ((((r_1.2 != 0) || (r_3.2 != 0)) || (r_5.2 != 0)) || (r_7.2 != 0))),(63,.bool (((((r_1.2 != 0) || (r_3.2 != 0)) || (r_5.2 != 0)) || (r_7.2 != 0)) || (r_9.2.2 != 0))),(64,.bool (((((r_1.2 != 0) || (r_3.2 != 0)) || (r_5.2 != 0)) || (r_7.2 != 0)) || (r_9.2.2 != 0))),(69,.bool t_1),(70,.bool t_1),(74,.bool (t_1 || (!(r_3.1.Person == 1 && r_3.1.Station == 0)))),(75,.bool (t_1 || (!(r_3.1.Person == 1 && r_3.1.Station == 0)))),(78,.bool ((t_1 || (!(r_3.1.Person == 1 && r_3.1.Station == 0))) || (!r_5.1))),(79,.bool ((t_1 || (!(r_3.1.Person == 1 && r_3.1.Station == 0))) || (!r_5.1))),(86,.bool t_2)] ∧ Ctx G (.row p_10 c_4 (r_8.map enc_crew_Visit) 31 6::.row p_9 c_3 (r_7.1.map enc_api_Span) 29 2::.box b_2 [i6 r_3.1.Person,i6 r_3.1.Station] 86::.row p_3 c_1 (r_1.1.map encI_i64) 3 1::Lf) w) ?_ ?_
 ·cases hb : ((t_1 || (!(r_3.1.Person == 1 && r_3.1.Station == 0))) || (!r_5.1))
  ·rw [hb] at hf
   have hF := condF hb ht_2
   refine stP hf rfl rfl rfl (pM rfl) fun a hf => stP hf rfl rfl rfl (pBuildS (cells := [i6 35,i6 40]) bt_29 rfl rfl) fun a hf => stP hf rfl rfl rfl (pBuildS (cells := [i6 65,i6 75]) bt_29 rfl rfl) fun a hf => stBS (rows := ([(⟨35,40⟩ : api_Span),(⟨65,75⟩ : api_Span)] : List api_Span).map enc_api_Span) (vs := [(0,.agg #[i6 35,i6 40]),(1,.agg #[i6 65,i6 75])]) hf hc rfl rfl sl_33 rfl ⟨rfl,rfl,rfl,rfl,rfl,rfl,trivial⟩ rfl rfl fun b_5 a w hf hc => ?_
   obtain ⟨r_11,hr_11,hF⟩ := bnd_some hF
   refine stE hf hc rfl rfl rfl (eC (v := .bool r_11) (vs := [.slice p_9 r_7.1.length c_3,.slice (some ⟨b_5,0,none⟩) 2 2]) (caps := []) en_21 rfl rfl rfl rfl (fun w hc => by obtain ⟨G1,hle1,hrd1,hc,hth1⟩ := lend hc k2; obtain ⟨G2,hle2,hrd2,hc,hth2⟩ := lend hc k0; exact (kit_Same_api_Span_ok r_7.1 ([(⟨35,40⟩ : api_Span),(⟨65,75⟩ : api_Span)] : List api_Span) (hrd1.mono hle2) hrd2 hc hr_11).mono fun e w h => ⟨h.1,((hth1 _ _ ((hth2 _ _ h.2).unpick k0)).unpick k2)⟩)) fun a w hf hc => stP hf rfl rfl rfl (pNot rfl) fun a hf => stP hf rfl rfl rfl (pPf rfl rfl) fun a hf => ?_
   replace hc := hc.drop k0
   obtain rfl := sj hF
   exact cNil ⟨hf.kp rfl,hc⟩
  ·rw [hb] at hf
   have hF := condT hb ht_2
   obtain rfl := sj hF
   refine stS hf rfl rfl rfl fun a hf => stS hf rfl rfl rfl fun a hf => stS hf rfl rfl rfl fun a hf => stS hf rfl rfl rfl fun a hf => stS hf rfl rfl rfl fun a hf => stS hf rfl rfl rfl fun a hf => stP hf rfl rfl rfl (pPt rfl rfl) fun a hf => cNil ⟨hf.kp rfl,hc⟩
 intro a w ⟨hf,hc⟩
 refine stP hf rfl rfl rfl (pM rfl) fun a hf => stCut 3 (fun a w => Has 174 a ((1,.slice p_3 r_1.1.length c_1)::(2,i6 r_1.2)::(3,pq b_2)::(4,i6 r_3.2)::(5,.bool r_5.1)::(6,i6 r_5.2)::(7,.slice p_9 r_7.1.length c_3)::(8,i6 r_7.2)::(9,i6 r_9.1)::(10,i6 r_9.2.1)::(11,i6 r_9.2.2)::(46,i6 r_1.2)::(47,.bool (r_1.2 != 0))::(48,.bool (r_1.2 != 0))::(51,.bool ((r_1.2 != 0) || (r_3.2 != 0)))::(52,.bool ((r_1.2 != 0) || (r_3.2 != 0)))::(55,.bool (((r_1.2 != 0) || (r_3.2 != 0)) || (r_5.2 != 0)))::(56,.bool (((r_1.2 != 0) || (r_3.2 != 0)) || (r_5.2 != 0)))::(59,.bool ((((r_1.2 != 0) || (r_3.2 != 0)) || (r_5.2 != 0)) || (r_7.2 != 0)))::(60,.bool ((((r_1.2 != 0) || (r_3.2 != 0)) || (r_5.2 != 0)) || (r_7.2 != 0)))::(63,.bool (((((r_1.2 != 0) || (r_3.2 != 0)) || (r_5.2 != 0)) || (r_7.2 != 0)) || (r_9.2.2 != 0)))::(64,.bool (((((r_1.2 != 0) || (r_3.2 != 0)) || (r_5.2 != 0)) || (r_7.2 != 0)) || (r_9.2.2 != 0)))::(69,.bool t_1)::(70,.bool t_1)::(74,.bool (t_1 || (!(r_3.1.Person == 1 && r_3.1.Station == 0))))::(75,.bool (t_1 || (!(r_3.1.Person == 1 && r_3.1.Station == 0))))::(78,.bool ((t_1 || (!(r_3.1.Person == 1 && r_3.1.Station == 0))) || (!r_5.1)))::(79,.bool ((t_1 || (!(r_3.1.Person == 1 && r_3.1.Station == 0))) || (!r_5.1)))::(86,.bool t_2)::(87,.bool t_2)::(90,.bool (t_2 || (r_9.1 != 1)))::[]) ∧ Ctx G (.row p_10 c_4 (r_8.map enc_crew_Visit) 31 6::.row p_9 c_3 (r_7.1.map enc_api_Span) 29 2::.box b_2 [i6 r_3.1.Person,i6 r_3.1.Station] 86::.row p_3 c_1 (r_1.1.map encI_i64) 3 1::Lf) w) ?_ ?_
 ·cases hb : t_2
  ·rw [hb] at hf
   try rw [hb] at hc
   refine stP hf rfl rfl rfl (pM rfl) fun a hf => stP hf rfl rfl rfl (pNe rfl rfl) fun a hf => stP hf rfl rfl rfl (pPf rfl rfl) fun a hf => cNil ⟨hf.kp rfl,hc⟩
  ·rw [hb] at hf
   try rw [hb] at hc
   refine stS hf rfl rfl rfl fun a hf => stS hf rfl rfl rfl fun a hf => stP hf rfl rfl rfl (pPt rfl rfl) fun a hf => cNil ⟨hf.kp rfl,hc⟩
 intro a w ⟨hf,hc⟩
 refine stP hf rfl rfl rfl (pM rfl) fun a hf => stCut 3 (fun a w => Has 174 a ((1,.slice p_3 r_1.1.length c_1)::(2,i6 r_1.2)::(3,pq b_2)::(4,i6 r_3.2)::(5,.bool r_5.1)::(6,i6 r_5.2)::(7,.slice p_9 r_7.1.length c_3)::(8,i6 r_7.2)::(9,i6 r_9.1)::(10,i6 r_9.2.1)::(11,i6 r_9.2.2)::(46,i6 r_1.2)::(47,.bool (r_1.2 != 0))::(48,.bool (r_1.2 != 0))::(51,.bool ((r_1.2 != 0) || (r_3.2 != 0)))::(52,.bool ((r_1.2 != 0) || (r_3.2 != 0)))::(55,.bool (((r_1.2 != 0) || (r_3.2 != 0)) || (r_5.2 != 0)))::(56,.bool (((r_1.2 != 0) || (r_3.2 != 0)) || (r_5.2 != 0)))::(59,.bool ((((r_1.2 != 0) || (r_3.2 != 0)) || (r_5.2 != 0)) || (r_7.2 != 0)))::(60,.bool ((((r_1.2 != 0) || (r_3.2 != 0)) || (r_5.2 != 0)) || (r_7.2 != 0)))::(63,.bool (((((r_1.2 != 0) || (r_3.2 != 0)) || (r_5.2 != 0)) || (r_7.2 != 0)) || (r_9.2.2 != 0)))::(64,.bool (((((r_1.2 != 0) || (r_3.2 != 0)) || (r_5.2 != 0)) || (r_7.2 != 0)) || (r_9.2.2 != 0)))::(69,.bool t_1)::(70,.bool t_1)::(74,.bool (t_1 || (!(r_3.1.Person == 1 && r_3.1.Station == 0))))::(75,.bool (t_1 || (!(r_3.1.Person == 1 && r_3.1.Station == 0))))::(78,.bool ((t_1 || (!(r_3.1.Person == 1 && r_3.1.Station == 0))) || (!r_5.1)))::(79,.bool ((t_1 || (!(r_3.1.Person == 1 && r_3.1.Station == 0))) || (!r_5.1)))::(86,.bool t_2)::(87,.bool t_2)::(90,.bool (t_2 || (r_9.1 != 1)))::(91,.bool (t_2 || (r_9.1 != 1)))::(94,.bool ((t_2 || (r_9.1 != 1)) || (r_9.2.1 != (-1))))::[]) ∧ Ctx G (.row p_10 c_4 (r_8.map enc_crew_Visit) 31 6::.row p_9 c_3 (r_7.1.map enc_api_Span) 29 2::.box b_2 [i6 r_3.1.Person,i6 r_3.1.Station] 86::.row p_3 c_1 (r_1.1.map encI_i64) 3 1::Lf) w) ?_ ?_
 ·cases hb : (t_2 || (r_9.1 != 1))
  ·rw [hb] at hf
   refine stP hf rfl rfl rfl (pM rfl) fun a hf => stP hf rfl rfl rfl (pNe rfl rfl) fun a hf => stP hf rfl rfl rfl (pPf rfl rfl) fun a hf => cNil ⟨hf.kp rfl,hc⟩
  ·rw [hb] at hf
   refine stS hf rfl rfl rfl fun a hf => stS hf rfl rfl rfl fun a hf => stP hf rfl rfl rfl (pPt rfl rfl) fun a hf => cNil ⟨hf.kp rfl,hc⟩
 intro a w ⟨hf,hc⟩
 refine cNil ?_
 refine h8 _ _ ?_
 refine cCond (b := ((t_2 || (r_9.1 != 1)) || (r_9.2.1 != (-1)))) hf rfl (fun hb => ?_) (fun hb => ?_)
 ·replace hF := condT hb hF
  clear hb
  refine wp_seq_k fun K9 h9 => cReg ?_
  refine stP hf rfl rfl rfl (pA rfl) fun a hf => cNil ?_
  refine h9 _ _ ?_
  refine wp_ret ?_
  refine xThenR ?_
  obtain rfl := sj hF
  replace hc := hc.drop k3
  replace hc := hc.drop k2
  replace hc := hc.drop k1
  replace hc := hc.drop k0
  exact fnOut1 (by simp) rfl Tryz.results15 hf hc (show look _ 0 = _ from rfl) ⟨rfl,hc⟩
 ·replace hF := condF hb hF
  clear hb
  refine wp_skip ?_
  refine h7 _ _ ?_
  refine wp_seq_k fun K10 h10 => cReg ?_
  obtain ⟨r_12,hr_12,hF⟩ := bnd_some hF
  refine stC (vs := [i6 80]) (caps := []) hf rfl rfl rfl en_68 rfl rfl rfl rfl (law11_Trip_ok 80 hc hr_12) ?_
  rintro _ w ⟨p_11,c_5,rfl,hc⟩
  refine ⟨_,rfl,fun a hf => ?_⟩
  obtain ⟨r_13,hr_13,hF⟩ := bnd_some hF
  refine stE hf hc rfl rfl rfl (eC (v := .tuple #[i6 r_13.1,i6 r_13.2]) (vs := [.slice p_11 r_12.length c_5]) (caps := []) en_24 rfl rfl rfl rfl (fun w hc => by obtain ⟨G1,hle1,hrd1,hc,hth1⟩ := lend hc k0; exact (crew_Latest_ok r_12 hrd1 hc hr_13).mono fun e w h => ⟨h.1,((hth1 _ _ h.2).unpick k0)⟩)) fun a w hf hc => stP hf rfl rfl rfl (pM rfl) fun a hf => stP hf rfl rfl rfl (pX rfl rfl) fun a hf => stP hf rfl rfl rfl (pX rfl rfl) fun a hf => stP hf rfl rfl rfl (pA rfl) fun a hf => stP hf rfl rfl rfl (pA rfl) fun a hf => cNil ?_
  refine h10 _ _ ?_
  refine wp_seq_k fun K11 h11 => cReg ?_
  obtain ⟨r_14,hr_14,hF⟩ := bnd_some hF
  refine stC (vs := []) (caps := []) hf rfl rfl rfl en_69 rfl rfl rfl rfl (law11_Wire_ok hc hr_14) ?_
  rintro _ w ⟨p_12,c_6,rfl,hc⟩
  refine ⟨_,rfl,fun a hf => ?_⟩
  obtain ⟨r_15,hr_15,hF⟩ := bnd_some hF
  refine stE hf hc rfl rfl rfl (eC (v := .tuple #[.agg #[i6 r_15.1.Lo,i6 r_15.1.Hi],i6 r_15.2]) (vs := [.agg #[i6 r_14.Car,i6 r_14.Wide,i6 r_14.Sag,i6 r_14.Most,.slice p_12 r_14.Rides.length c_6],i6 5]) (caps := []) en_34 rfl rfl rfl rfl (fun w hc => by obtain ⟨G1,hle1,hrd1,hc,hth1⟩ := lend hc k0; exact (crew_Load_ok r_14 5 hrd1 hc hr_15).mono fun e w h => ⟨h.1,((hth1 _ _ h.2).unpick k0)⟩)) fun a w hf hc => stP hf rfl rfl rfl (pM rfl) fun a hf => stP hf rfl rfl rfl (pX rfl rfl) fun a hf => stP hf rfl rfl rfl (pX rfl rfl) fun a hf => stAl (cs := [i6 0,i6 0]) hf hc rfl rfl zr_29 rfl fun b_6 a w hf hc => stSt (vs := [i6 r_15.1.Lo,i6 r_15.1.Hi]) hf hc rfl rfl rfl rfl sz_29 rfl rfl u0 fun w hc => stP hf rfl rfl rfl (pA rfl) fun a hf => cNil ?_
  refine h11 _ _ ?_
  refine wp_seq_k fun K12 h12 => cReg ?_
  obtain ⟨r_16,hr_16,hF⟩ := bnd_some hF
  refine stC (vs := []) (caps := []) hf rfl rfl rfl en_69 rfl rfl rfl rfl (law11_Wire_ok hc hr_16) ?_
  rintro _ w ⟨p_13,c_7,rfl,hc⟩
  refine ⟨_,rfl,fun a hf => ?_⟩
  obtain ⟨r_17,hr_17,hF⟩ := bnd_some hF
  refine stE hf hc rfl rfl rfl (eC (v := .tuple #[i6 r_17.1,i6 r_17.2.1,i6 r_17.2.2]) (vs := [.agg #[i6 r_16.Car,i6 r_16.Wide,i6 r_16.Sag,i6 r_16.Most,.slice p_13 r_16.Rides.length c_7]]) (caps := []) en_36 rfl rfl rfl rfl (fun w hc => by obtain ⟨G1,hle1,hrd1,hc,hth1⟩ := lend hc k0; exact (crew_Beyond_ok r_16 hrd1 hc hr_17).mono fun e w h => ⟨h.1,((hth1 _ _ h.2).unpick k0)⟩)) fun a w hf hc => stP hf rfl rfl rfl (pM rfl) fun a hf => stP hf rfl rfl rfl (pX rfl rfl) fun a hf => stP hf rfl rfl rfl (pX rfl rfl) fun a hf => stP hf rfl rfl rfl (pX rfl rfl) fun a hf => stP hf rfl rfl rfl (pA rfl) fun a hf => stP hf rfl rfl rfl (pA rfl) fun a hf => stP hf rfl rfl rfl (pA rfl) fun a hf => cNil ?_
  refine h12 _ _ ?_
  refine wp_seq_k fun K13 h13 => cReg ?_
  obtain ⟨r_18,hr_18,hF⟩ := bnd_some hF
  refine stC (vs := []) (caps := []) hf rfl rfl rfl en_69 rfl rfl rfl rfl (law11_Wire_ok hc hr_18) ?_
  rintro _ w ⟨p_14,c_8,rfl,hc⟩
  refine ⟨_,rfl,fun a hf => ?_⟩
  refine stAl (cs := [i6 0,i6 0,i6 0,i6 0,.slice none 0 0]) hf hc rfl rfl zr_54 rfl fun b_7 a w hf hc => stSt (vs := [i6 r_18.Car,i6 r_18.Wide,i6 r_18.Sag,i6 r_18.Most,.slice p_14 r_18.Rides.length c_8]) hf hc rfl rfl rfl rfl sz_54 rfl rfl u0 fun w hc => cNil ?_
  replace hc := hc.drop k9
  replace hc := hc.drop k8
  replace hc := hc.drop k7
  replace hc := hc.drop k6
  replace hc := hc.drop k5
  replace hc := hc.drop k4
  replace hc := hc.drop k2
  refine h13 _ _ ?_
  refine wp_seq_k fun K14 h14 => ?_
  obtain ⟨r_19,hr_19,hF⟩ := bnd_some hF
  obtain ⟨un,hun,hF⟩ := bnd_some hF
  replace hc := hc.nilRow 0 0
  refine regionE (fun θ => [⟨none,none,2,i6 r_13.2⟩,⟨none,none,4,i6 r_15.2⟩,⟨none,none,6,i6 r_17.2.2⟩,⟨none,none,9,i6 r_17.1⟩,⟨none,none,10,i6 r_17.2.1⟩,⟨none,none,12,i6 r_13.1⟩,⟨none,none,13,pq b_6⟩,⟨none,none,14,pq b_7⟩,⟨some 0,none,112,.pointer (some ⟨b_7,4,none⟩)⟩,⟨some 1,none,113,.slice p_14 r_18.Rides.length c_8⟩,⟨some 2,none,114,.agg #[i6 r_19.Lo,i6 r_19.Hi]⟩,⟨some 3,none,115,.agg #[i6 5,i6 5,i6 r_19.Lo,i6 r_19.Hi]⟩,⟨some 4,none,116,.slice (some ⟨(θ 32).b,0,none⟩) 1 1⟩,⟨some 5,none,117,.slice ((θ 40).p) ((r_18.Rides ++ [(⟨5,5,r_19⟩ : crew_Ride)]).length) ((θ 40).c)⟩,⟨some 6,none,118,.pointer (some ⟨b_7,4,none⟩)⟩]) (fun E θ => (bif E 4 then .row (some ⟨(θ 32).b,0,none⟩) 1 (([(⟨5,5,r_19⟩ : crew_Ride)] : List crew_Ride).map enc_crew_Ride) 72 4 else .row none 0 [] 0 0)::(bif E 7 then .box b_7 [i6 r_18.Car,i6 r_18.Wide,i6 r_18.Sag,i6 r_18.Most,.slice ((θ 40).p) ((r_18.Rides ++ [(⟨5,5,r_19⟩ : crew_Ride)]).length) ((θ 40).c)] 54 else .box b_7 [i6 r_18.Car,i6 r_18.Wide,i6 r_18.Sag,i6 r_18.Most,.slice p_14 r_18.Rides.length c_8] 54)::(bif E 5 then .row ((θ 40).p) ((θ 40).c) ((r_18.Rides ++ [(⟨5,5,r_19⟩ : crew_Ride)]).map enc_crew_Ride) 72 4 else .row p_14 c_8 (r_18.Rides.map enc_crew_Ride) 72 4)::.box b_6 [i6 r_15.1.Lo,i6 r_15.1.Hi] 29::Lf) [(7,1),(7,5)] (fun a w => ∃ (b_9 : Nat) (p_16 : Option Addr) (c_10 : Nat),Has 174 a [(2,i6 r_13.2),(4,i6 r_15.2),(6,i6 r_17.2.2),(9,i6 r_17.1),(10,i6 r_17.2.1),(12,i6 r_13.1),(13,pq b_6),(14,pq b_7)] ∧ Ctx G (.row (some ⟨b_9,0,none⟩) 1 (([(⟨5,5,r_19⟩ : crew_Ride)] : List crew_Ride).map enc_crew_Ride) 72 4::.box b_7 [i6 r_18.Car,i6 r_18.Wide,i6 r_18.Sag,i6 r_18.Most,.slice p_16 ((r_18.Rides ++ [(⟨5,5,r_19⟩ : crew_Ride)]).length) c_10] 54::.row p_16 c_10 ((r_18.Rides ++ [(⟨5,5,r_19⟩ : crew_Ride)]).map enc_crew_Ride) 72 4::.box b_6 [i6 r_15.1.Lo,i6 r_15.1.Hi] 29::Lf) w) follows_mx (by kernel_rfl) (by kernel_rfl) (HasE.of hf ⟨rfl,rfl,rfl,rfl,rfl,rfl,rfl,rfl,trivial,trivial,trivial,trivial,trivial,trivial,trivial,trivial⟩) hc ⟨?_,?_,?_,?_,?_,?_,?_,?_,trivial⟩ ?_ ?_
  ·intro E θ a w hD hi hp he hc
   have hf := he.h0
   replace hf := hf.more he 7 rfl onT
   refine stP hf rfl rfl rfl (pFA fa_54_4 rfl) fun a hf => cNil ?_
   refine xThenN ?_
   intro ds u hau
   refine ⟨θ,he.put0 hi hau hf rfl 8 rfl rfl,?_⟩
   exact hc
  ·intro E θ a w hD hi hp he hc
   have e0 := hp.of (k := 0) rfl
   have e7 := hD.f 0 rfl hi
   try dsimp only at hc
   rw [e7] at hc
   have hf := he.h0
   replace hf := hf.more he 8 rfl (onP e0)
   refine stE hf hc rfl rfl rfl (eLd1 sc_52 rfl (cell_box m1 rfl)) fun a w hf hc => cNil ?_
   refine xThenN ?_
   intro ds u hau
   refine ⟨θ,he.put0 hi hau hf rfl 9 rfl rfl,?_⟩
   try dsimp only
   rw [updE_fls 1 e7 rfl]
   exact hc
  ·intro E θ a w hD hi hp he hc
   have hf := he.h0
   refine stE hf hc rfl rfl rfl (eC (v := .agg #[i6 r_19.Lo,i6 r_19.Hi]) (vs := [i6 90,i6 90]) (caps := []) en_51 rfl rfl rfl rfl (fun w hc => law11_span_ok 90 90 hc hr_19)) fun a w hf hc => cNil ?_
   refine xThenN ?_
   intro ds u hau
   refine ⟨θ,he.put0 hi hau hf rfl 10 rfl rfl,?_⟩
   exact hc
  ·intro E θ a w hD hi hp he hc
   have e2 := hp.of (k := 2) rfl
   have hf := he.h0
   replace hf := hf.more he 10 rfl (onP e2)
   refine stP hf rfl rfl rfl (pBuildS (cells := [i6 5,i6 5,i6 r_19.Lo,i6 r_19.Hi]) bt_72 rfl rfl) fun a hf => cNil ?_
   refine xThenN ?_
   intro ds u hau
   refine ⟨θ,he.put0 hi hau hf rfl 11 rfl rfl,?_⟩
   exact hc
  ·intro E θ a w hD hi hp he hc
   have e3 := hp.of (k := 3) rfl
   try dsimp only at hc
   rw [hi] at hc
   have hf := he.h0
   replace hf := hf.more he 11 rfl (onP e3)
   refine stBS (rows := ([(⟨5,5,r_19⟩ : crew_Ride)] : List crew_Ride).map enc_crew_Ride) (vs := [(0,.agg #[i6 5,i6 5,i6 r_19.Lo,i6 r_19.Hi])]) hf hc rfl rfl sl_52 rfl ⟨rfl,rfl,rfl,trivial⟩ rfl rfl fun b_8 a w hf hc => cNil ?_
   refine xThenN ?_
   intro ds u hau
   replace hc := hc.drop k1
   refine ⟨(setT θ 32 ⟨b_8,none,0,(fun _ => (none,0))⟩),he.put hi hau hf rfl [] trivial ⟨qq,qq,qq,qq,qq,qq,qq,qq,qq,qq,qq,qq,qq,qq,qq,trivial⟩,?_⟩
   try dsimp only
   rw [updE_self E 4]
   exact hc
  ·intro E θ a w hD hi hp he hc
   have e1 := hp.of (k := 1) rfl
   have e4 := hp.of (k := 4) rfl
   have e7 := hD.f 1 rfl hi
   try dsimp only at hc
   rw [e4,hi,e7] at hc
   have hf := he.h0
   replace hf := hf.more he 9 rfl (onP e1)
   replace hf := hf.more he 12 rfl (onP e4)
   refine stApm (xs := r_18.Rides) (ys := ([(⟨5,5,r_19⟩ : crew_Ride)] : List crew_Ride)) hf hc rfl rfl sl_52 rfl rfl rfl rfl rfl one_enc_crew_Ride (src_row hc m0) (fun _ _ => u2) (by simpa using room_spec hun) fun p_15 c_9 a w hf hc => cNil ?_
   refine xThenN ?_
   intro ds u hau
   refine ⟨(setT θ 40 ⟨0,p_15,c_9,(fun _ => (none,0))⟩),he.put hi hau hf rfl [] trivial ⟨qq,qq,qq,qq,qq,qq,qq,qq,qq,qq,qq,qq,qq,qq,qq,trivial⟩,?_⟩
   try dsimp only
   rw [updE_tru 5 e4,updE_self E 5,updE_fls 5 e7 rfl]
   exact hc
  ·intro E θ a w hD hi hp he hc
   have hf := he.h0
   replace hf := hf.more he 7 rfl onT
   refine stP hf rfl rfl rfl (pFA fa_54_4 rfl) fun a hf => cNil ?_
   refine xThenN ?_
   intro ds u hau
   refine ⟨θ,he.put0 hi hau hf rfl 14 rfl rfl,?_⟩
   exact hc
  ·intro E θ a w hD hi hp he hc
   have e5 := hp.of (k := 5) rfl
   have e6 := hp.of (k := 6) rfl
   try dsimp only at hc
   rw [hi] at hc
   have hf := he.h0
   replace hf := hf.more he 13 rfl (onP e5)
   replace hf := hf.more he 14 rfl (onP e6)
   refine stSt (vs := [.slice ((θ 40).p) ((r_18.Rides ++ [(⟨5,5,r_19⟩ : crew_Ride)]).length) ((θ 40).c)]) hf hc rfl rfl rfl rfl sz_52 rfl rfl u1 fun w hc => cNil ?_
   refine xThenN ?_
   intro ds u hau
   refine ⟨θ,he.stay0 hi hau hf rfl,?_⟩
   try dsimp only
   rw [updE_self E 7]
   exact hc
  ·intro E θ a w hall he hc
   have hf := he.h0
   have e4 := hall 4 rfl
   have e5 := hall 5 rfl
   have e7 := hall 7 rfl
   replace hf := hf.more he 7 rfl (onT)
   replace hf := hf.more he 6 rfl (onT)
   replace hf := hf.more he 5 rfl (onT)
   replace hf := hf.more he 4 rfl (onT)
   replace hf := hf.more he 3 rfl (onT)
   replace hf := hf.more he 2 rfl (onT)
   replace hf := hf.more he 1 rfl (onT)
   replace hf := hf.more he 0 rfl (onT)
   try dsimp only at hc
   rw [e4,e5,e7] at hc
   exact ⟨(θ 32).b,(θ 40).p,(θ 40).c,hf.kp rfl,hc⟩
  rintro a w ⟨b_9,p_16,c_10,hf,hc⟩
  refine h14 _ _ ?_
  refine wp_seq_k fun K15 h15 => cReg ?_
  refine stE hf hc rfl rfl rfl (eLdN (vs := [i6 r_18.Car,i6 r_18.Wide,i6 r_18.Sag,i6 r_18.Most,.slice p_16 ((r_18.Rides ++ [(⟨5,5,r_19⟩ : crew_Ride)]).length) c_10]) ag_54 rfl rfl (cells_box (n := 5) m1 rfl)) fun a w hf hc => ?_
  obtain ⟨r_20,hr_20,hF⟩ := bnd_some hF
  obtain ⟨G1,hle1,hrd1,hc,hth1⟩ := lend hc k2
  refine stC (vs := [.agg #[i6 r_18.Car,i6 r_18.Wide,i6 r_18.Sag,i6 r_18.Most,.slice p_16 ((r_18.Rides ++ [(⟨5,5,r_19⟩ : crew_Ride)]).length) c_10]]) (caps := []) hf rfl rfl rfl en_38 rfl rfl rfl rfl (crew_Queue_ok (⟨r_18.Car,r_18.Wide,r_18.Sag,r_18.Most,(r_18.Rides ++ [(⟨5,5,r_19⟩ : crew_Ride)])⟩ : crew_Cable) hrd1 hc hr_20) ?_
  rintro _ w ⟨p_17,c_11,rfl,hc⟩
  refine ⟨_,rfl,fun a hf => ?_⟩
  replace hc := hth1 _ _ hc
  refine stP hf rfl rfl rfl (pM rfl) fun a hf => stP hf rfl rfl rfl (pX rfl rfl) fun a hf => stP hf rfl rfl rfl (pX rfl rfl) fun a hf => stP hf rfl rfl rfl (pA rfl) fun a hf => stP hf rfl rfl rfl (pA rfl) fun a hf => cNil ?_
  refine h15 _ _ ?_
  refine wp_seq_k fun K16 h16 => cReg ?_
  refine stP hf rfl rfl rfl (pBuildS (cells := [i6 600,i6 480,i6 500]) bt_24 rfl rfl) fun a hf => stBS (rows := ([481] : List Int).map encI_i64) (vs := [(0,i6 481)]) hf hc rfl rfl sl_25 rfl ⟨rfl,rfl,rfl,trivial⟩ rfl rfl fun b_10 a w hf hc => ?_
  obtain ⟨r_21,hr_21,hF⟩ := bnd_some hF
  refine stE hf hc rfl rfl rfl (eC (v := .tuple #[i6 r_21.1,i6 r_21.2]) (vs := [.agg #[i6 600,i6 480,i6 500],.slice (some ⟨b_10,0,none⟩) 1 1]) (caps := []) en_26 rfl rfl rfl rfl (fun w hc => by obtain ⟨G1,hle1,hrd1,hc,hth1⟩ := lend hc k0; exact (crew_Paid_ok (⟨600,480,500⟩ : crew_Pay) ([481] : List Int) hrd1 hc hr_21).mono fun e w h => ⟨h.1,((hth1 _ _ h.2).unpick k0)⟩)) fun a w hf hc => stP hf rfl rfl rfl (pM rfl) fun a hf => stP hf rfl rfl rfl (pX rfl rfl) fun a hf => stP hf rfl rfl rfl (pX rfl rfl) fun a hf => stP hf rfl rfl rfl (pA rfl) fun a hf => stP hf rfl rfl rfl (pA rfl) fun a hf => cNil ?_
  refine h16 _ _ ?_
  refine wp_seq_k fun K17 h17 => ?_
  obtain ⟨r_22,hr_22,hF⟩ := bnd_some hF
  obtain ⟨r_23,hr_23,hF⟩ := bnd_some hF
  replace hc := hc.nilRow 0 0
  refine regionE (fun θ => (⟨none,none,2,i6 r_13.2⟩::⟨none,none,4,i6 r_15.2⟩::⟨none,none,6,i6 r_17.2.2⟩::⟨none,none,8,i6 r_20.2⟩::⟨none,none,9,i6 r_17.1⟩::⟨none,none,10,i6 r_17.2.1⟩::⟨none,none,11,i6 r_21.2⟩::⟨none,none,12,i6 r_13.1⟩::⟨none,none,13,pq b_6⟩::⟨none,none,15,.slice p_17 r_20.1.length c_11⟩::⟨none,none,16,i6 r_21.1⟩::⟨some 0,none,130,i6 r_13.2⟩::⟨some 1,none,131,.bool (r_13.2 == 0)⟩::⟨some 2,none,132,.bool (r_13.2 == 0)⟩::⟨some 3,none,133,(bif (r_13.2 == 0) then i6 r_15.2 else undef)⟩::⟨some 4,none,134,(bif (r_13.2 == 0) then .bool (r_15.2 == 0) else undef)⟩::⟨some 5,none,135,.bool ((r_13.2 == 0) && (r_15.2 == 0))⟩::⟨some 6,none,136,.bool ((r_13.2 == 0) && (r_15.2 == 0))⟩::⟨some 7,none,137,(bif ((r_13.2 == 0) && (r_15.2 == 0)) then i6 r_17.2.2 else undef)⟩::⟨some 8,none,138,(bif ((r_13.2 == 0) && (r_15.2 == 0)) then .bool (r_17.2.2 == 0) else undef)⟩::⟨some 9,none,139,.bool (((r_13.2 == 0) && (r_15.2 == 0)) && (r_17.2.2 == 0))⟩::⟨some 10,none,140,.bool (((r_13.2 == 0) && (r_15.2 == 0)) && (r_17.2.2 == 0))⟩::⟨some 11,none,141,(bif (((r_13.2 == 0) && (r_15.2 == 0)) && (r_17.2.2 == 0)) then i6 r_20.2 else undef)⟩::⟨some 12,none,142,(bif (((r_13.2 == 0) && (r_15.2 == 0)) && (r_17.2.2 == 0)) then .bool (r_20.2 == 0) else undef)⟩::⟨some 13,none,143,.bool ((((r_13.2 == 0) && (r_15.2 == 0)) && (r_17.2.2 == 0)) && (r_20.2 == 0))⟩::⟨some 14,none,144,.bool ((((r_13.2 == 0) && (r_15.2 == 0)) && (r_17.2.2 == 0)) && (r_20.2 == 0))⟩::⟨some 15,none,145,(bif ((((r_13.2 == 0) && (r_15.2 == 0)) && (r_17.2.2 == 0)) && (r_20.2 == 0)) then i6 r_21.2 else undef)⟩::⟨some 16,none,146,(bif ((((r_13.2 == 0) && (r_15.2 == 0)) && (r_17.2.2 == 0)) && (r_20.2 == 0)) then .bool (r_21.2 == 0) else undef)⟩::⟨some 17,none,147,.bool (((((r_13.2 == 0) && (r_15.2 == 0)) && (r_17.2.2 == 0)) && (r_20.2 == 0)) && (r_21.2 == 0))⟩::⟨some 18,none,148,.bool (((((r_13.2 == 0) && (r_15.2 == 0)) && (r_17.2.2 == 0)) && (r_20.2 == 0)) && (r_21.2 == 0))⟩::⟨some 19,none,149,(bif (((((r_13.2 == 0) && (r_15.2 == 0)) && (r_17.2.2 == 0)) && (r_20.2 == 0)) && (r_21.2 == 0)) then i6 r_13.1 else undef)⟩::⟨some 20,none,150,(bif (((((r_13.2 == 0) && (r_15.2 == 0)) && (r_17.2.2 == 0)) && (r_20.2 == 0)) && (r_21.2 == 0)) then .bool (r_13.1 == 5) else undef)⟩::⟨some 21,none,151,.bool ((((((r_13.2 == 0) && (r_15.2 == 0)) && (r_17.2.2 == 0)) && (r_20.2 == 0)) && (r_21.2 == 0)) && (r_13.1 == 5))⟩::⟨some 22,none,152,.bool ((((((r_13.2 == 0) && (r_15.2 == 0)) && (r_17.2.2 == 0)) && (r_20.2 == 0)) && (r_21.2 == 0)) && (r_13.1 == 5))⟩::⟨some 23,none,153,(bif ((((((r_13.2 == 0) && (r_15.2 == 0)) && (r_17.2.2 == 0)) && (r_20.2 == 0)) && (r_21.2 == 0)) && (r_13.1 == 5)) then .agg #[i6 r_15.1.Lo,i6 r_15.1.Hi] else undef)⟩::⟨some 24,none,154,(bif ((((((r_13.2 == 0) && (r_15.2 == 0)) && (r_17.2.2 == 0)) && (r_20.2 == 0)) && (r_21.2 == 0)) && (r_13.1 == 5)) then .agg #[i6 r_22.Lo,i6 r_22.Hi] else undef)⟩::⟨some 25,none,155,(bif ((((((r_13.2 == 0) && (r_15.2 == 0)) && (r_17.2.2 == 0)) && (r_20.2 == 0)) && (r_21.2 == 0)) && (r_13.1 == 5)) then .bool (r_15.1.Lo == r_22.Lo && r_15.1.Hi == r_22.Hi) else undef)⟩::⟨some 26,none,156,.bool (((((((r_13.2 == 0) && (r_15.2 == 0)) && (r_17.2.2 == 0)) && (r_20.2 == 0)) && (r_21.2 == 0)) && (r_13.1 == 5)) && (r_15.1.Lo == r_22.Lo && r_15.1.Hi == r_22.Hi))⟩::⟨some 27,none,157,.bool (((((((r_13.2 == 0) && (r_15.2 == 0)) && (r_17.2.2 == 0)) && (r_20.2 == 0)) && (r_21.2 == 0)) && (r_13.1 == 5)) && (r_15.1.Lo == r_22.Lo && r_15.1.Hi == r_22.Hi))⟩::⟨some 28,none,158,(bif (((((((r_13.2 == 0) && (r_15.2 == 0)) && (r_17.2.2 == 0)) && (r_20.2 == 0)) && (r_21.2 == 0)) && (r_13.1 == 5)) && (r_15.1.Lo == r_22.Lo && r_15.1.Hi == r_22.Hi)) then i6 r_17.1 else undef)⟩::⟨some 29,none,159,(bif (((((((r_13.2 == 0) && (r_15.2 == 0)) && (r_17.2.2 == 0)) && (r_20.2 == 0)) && (r_21.2 == 0)) && (r_13.1 == 5)) && (r_15.1.Lo == r_22.Lo && r_15.1.Hi == r_22.Hi)) then .bool (r_17.1 == 5) else undef)⟩::⟨some 30,none,160,.bool ((((((((r_13.2 == 0) && (r_15.2 == 0)) && (r_17.2.2 == 0)) && (r_20.2 == 0)) && (r_21.2 == 0)) && (r_13.1 == 5)) && (r_15.1.Lo == r_22.Lo && r_15.1.Hi == r_22.Hi)) && (r_17.1 == 5))⟩::⟨some 31,none,161,.bool ((((((((r_13.2 == 0) && (r_15.2 == 0)) && (r_17.2.2 == 0)) && (r_20.2 == 0)) && (r_21.2 == 0)) && (r_13.1 == 5)) && (r_15.1.Lo == r_22.Lo && r_15.1.Hi == r_22.Hi)) && (r_17.1 == 5))⟩::⟨some 32,none,162,(bif ((((((((r_13.2 == 0) && (r_15.2 == 0)) && (r_17.2.2 == 0)) && (r_20.2 == 0)) && (r_21.2 == 0)) && (r_13.1 == 5)) && (r_15.1.Lo == r_22.Lo && r_15.1.Hi == r_22.Hi)) && (r_17.1 == 5)) then i6 r_17.2.1 else undef)⟩::⟨some 33,none,163,(bif ((((((((r_13.2 == 0) && (r_15.2 == 0)) && (r_17.2.2 == 0)) && (r_20.2 == 0)) && (r_21.2 == 0)) && (r_13.1 == 5)) && (r_15.1.Lo == r_22.Lo && r_15.1.Hi == r_22.Hi)) && (r_17.1 == 5)) then .bool (r_17.2.1 == (-1)) else undef)⟩::⟨some 34,none,164,.bool (((((((((r_13.2 == 0) && (r_15.2 == 0)) && (r_17.2.2 == 0)) && (r_20.2 == 0)) && (r_21.2 == 0)) && (r_13.1 == 5)) && (r_15.1.Lo == r_22.Lo && r_15.1.Hi == r_22.Hi)) && (r_17.1 == 5)) && (r_17.2.1 == (-1)))⟩::⟨some 35,none,165,.bool (((((((((r_13.2 == 0) && (r_15.2 == 0)) && (r_17.2.2 == 0)) && (r_20.2 == 0)) && (r_21.2 == 0)) && (r_13.1 == 5)) && (r_15.1.Lo == r_22.Lo && r_15.1.Hi == r_22.Hi)) && (r_17.1 == 5)) && (r_17.2.1 == (-1)))⟩::⟨some 36,none,166,(bif (((((((((r_13.2 == 0) && (r_15.2 == 0)) && (r_17.2.2 == 0)) && (r_20.2 == 0)) && (r_21.2 == 0)) && (r_13.1 == 5)) && (r_15.1.Lo == r_22.Lo && r_15.1.Hi == r_22.Hi)) && (r_17.1 == 5)) && (r_17.2.1 == (-1))) then .slice p_17 r_20.1.length c_11 else undef)⟩::⟨some 37,none,167,(bif (((((((((r_13.2 == 0) && (r_15.2 == 0)) && (r_17.2.2 == 0)) && (r_20.2 == 0)) && (r_21.2 == 0)) && (r_13.1 == 5)) && (r_15.1.Lo == r_22.Lo && r_15.1.Hi == r_22.Hi)) && (r_17.1 == 5)) && (r_17.2.1 == (-1))) then .slice (some ⟨(θ 296).b,0,none⟩) 3 3 else undef)⟩::⟨some 38,none,168,(bif (((((((((r_13.2 == 0) && (r_15.2 == 0)) && (r_17.2.2 == 0)) && (r_20.2 == 0)) && (r_21.2 == 0)) && (r_13.1 == 5)) && (r_15.1.Lo == r_22.Lo && r_15.1.Hi == r_22.Hi)) && (r_17.1 == 5)) && (r_17.2.1 == (-1))) then .bool r_23 else undef)⟩::⟨some 39,none,169,.bool ((((((((((r_13.2 == 0) && (r_15.2 == 0)) && (r_17.2.2 == 0)) && (r_20.2 == 0)) && (r_21.2 == 0)) && (r_13.1 == 5)) && (r_15.1.Lo == r_22.Lo && r_15.1.Hi == r_22.Hi)) && (r_17.1 == 5)) && (r_17.2.1 == (-1))) && r_23)⟩::⟨some 40,none,170,.bool ((((((((((r_13.2 == 0) && (r_15.2 == 0)) && (r_17.2.2 == 0)) && (r_20.2 == 0)) && (r_21.2 == 0)) && (r_13.1 == 5)) && (r_15.1.Lo == r_22.Lo && r_15.1.Hi == r_22.Hi)) && (r_17.1 == 5)) && (r_17.2.1 == (-1))) && r_23)⟩::⟨some 41,none,171,(bif ((((((((((r_13.2 == 0) && (r_15.2 == 0)) && (r_17.2.2 == 0)) && (r_20.2 == 0)) && (r_21.2 == 0)) && (r_13.1 == 5)) && (r_15.1.Lo == r_22.Lo && r_15.1.Hi == r_22.Hi)) && (r_17.1 == 5)) && (r_17.2.1 == (-1))) && r_23) then i6 r_21.1 else undef)⟩::⟨some 42,none,172,(bif ((((((((((r_13.2 == 0) && (r_15.2 == 0)) && (r_17.2.2 == 0)) && (r_20.2 == 0)) && (r_21.2 == 0)) && (r_13.1 == 5)) && (r_15.1.Lo == r_22.Lo && r_15.1.Hi == r_22.Hi)) && (r_17.1 == 5)) && (r_17.2.1 == (-1))) && r_23) then .bool (r_21.1 == 4815) else undef)⟩::⟨some 43,none,173,.bool (((((((((((r_13.2 == 0) && (r_15.2 == 0)) && (r_17.2.2 == 0)) && (r_20.2 == 0)) && (r_21.2 == 0)) && (r_13.1 == 5)) && (r_15.1.Lo == r_22.Lo && r_15.1.Hi == r_22.Hi)) && (r_17.1 == 5)) && (r_17.2.1 == (-1))) && r_23) && (r_21.1 == 4815))⟩::⟨some 44,none,0,.bool (((((((((((r_13.2 == 0) && (r_15.2 == 0)) && (r_17.2.2 == 0)) && (r_20.2 == 0)) && (r_21.2 == 0)) && (r_13.1 == 5)) && (r_15.1.Lo == r_22.Lo && r_15.1.Hi == r_22.Hi)) && (r_17.1 == 5)) && (r_17.2.1 == (-1))) && r_23) && (r_21.1 == 4815))⟩::[])) (fun E θ => (bif E 37 then (gE (((((((((r_13.2 == 0) && (r_15.2 == 0)) && (r_17.2.2 == 0)) && (r_20.2 == 0)) && (r_21.2 == 0)) && (r_13.1 == 5)) && (r_15.1.Lo == r_22.Lo && r_15.1.Hi == r_22.Hi)) && (r_17.1 == 5)) && (r_17.2.1 == (-1))) (.row (some ⟨(θ 296).b,0,none⟩) 3 (([0,10,15] : List Int).map encI_i64) 3 1)) else .row none 0 [] 0 0)::.row (some ⟨b_10,0,none⟩) 1 (([481] : List Int).map encI_i64) 3 1::.row p_16 c_10 ((r_18.Rides ++ [(⟨5,5,r_19⟩ : crew_Ride)]).map enc_crew_Ride) 72 4::.row p_17 c_11 (r_20.1.map encI_i64) 3 1::.row (some ⟨b_9,0,none⟩) 1 (([(⟨5,5,r_19⟩ : crew_Ride)] : List crew_Ride).map enc_crew_Ride) 72 4::.box b_7 [i6 r_18.Car,i6 r_18.Wide,i6 r_18.Sag,i6 r_18.Most,.slice p_16 ((r_18.Rides ++ [(⟨5,5,r_19⟩ : crew_Ride)]).length) c_10] 54::.box b_6 [i6 r_15.1.Lo,i6 r_15.1.Hi] 29::Lf) [] (fun a w => Has 174 a [(0,.bool (((((((((((r_13.2 == 0) && (r_15.2 == 0)) && (r_17.2.2 == 0)) && (r_20.2 == 0)) && (r_21.2 == 0)) && (r_13.1 == 5)) && (r_15.1.Lo == r_22.Lo && r_15.1.Hi == r_22.Hi)) && (r_17.1 == 5)) && (r_17.2.1 == (-1))) && r_23) && (r_21.1 == 4815)))] ∧ Ctx G (.row (some ⟨b_10,0,none⟩) 1 (([481] : List Int).map encI_i64) 3 1::.row p_16 c_10 ((r_18.Rides ++ [(⟨5,5,r_19⟩ : crew_Ride)]).map enc_crew_Ride) 72 4::.row p_17 c_11 (r_20.1.map encI_i64) 3 1::.row (some ⟨b_9,0,none⟩) 1 (([(⟨5,5,r_19⟩ : crew_Ride)] : List crew_Ride).map enc_crew_Ride) 72 4::.box b_7 [i6 r_18.Car,i6 r_18.Wide,i6 r_18.Sag,i6 r_18.Most,.slice p_16 ((r_18.Rides ++ [(⟨5,5,r_19⟩ : crew_Ride)]).length) c_10] 54::.box b_6 [i6 r_15.1.Lo,i6 r_15.1.Hi] 29::Lf) w) follows_mx (by kernel_rfl) (by kernel_rfl) (HasE.of hf ⟨rfl,rfl,rfl,rfl,rfl,rfl,rfl,rfl,rfl,rfl,rfl,trivial,trivial,trivial,trivial,trivial,trivial,trivial,trivial,trivial,trivial,trivial,trivial,trivial,trivial,trivial,trivial,trivial,trivial,trivial,trivial,trivial,trivial,trivial,trivial,trivial,trivial,trivial,trivial,trivial,trivial,trivial,trivial,trivial,trivial,trivial,trivial,trivial,trivial,trivial,trivial,trivial,trivial,trivial,trivial,trivial,trivial⟩) hc ⟨?_,?_,?_,?_,?_,?_,?_,?_,?_,?_,?_,?_,?_,?_,?_,?_,?_,?_,?_,?_,?_,?_,?_,?_,?_,?_,?_,?_,?_,?_,?_,?_,?_,?_,?_,?_,?_,?_,?_,?_,?_,?_,?_,?_,?_,trivial⟩ ?_ ?_
  ·intro E θ a w hD hi hp he hc
   have hf := he.h0
   replace hf := hf.more he 0 rfl onT
   refine stP hf rfl rfl rfl (pM rfl) fun a hf => cNil ?_
   refine xThenN ?_
   intro ds u hau
   refine ⟨θ,he.put0 hi hau hf rfl 11 rfl rfl,?_⟩
   exact hc
  ·intro E θ a w hD hi hp he hc
   have e0 := hp.of (k := 0) rfl
   have hf := he.h0
   replace hf := hf.more he 11 rfl (onP e0)
   refine stP hf rfl rfl rfl (pEq rfl rfl) fun a hf => cNil ?_
   refine xThenN ?_
   intro ds u hau
   refine ⟨θ,he.put0 hi hau hf rfl 12 rfl rfl,?_⟩
   exact hc
  ·intro E θ a w hD hi hp he hc
   have e1 := hp.of (k := 1) rfl
   have hf := he.h0
   replace hf := hf.more he 12 rfl (onP e1)
   refine stP hf rfl rfl rfl (pM rfl) fun a hf => cNil ?_
   refine xThenN ?_
   intro ds u hau
   refine ⟨θ,he.put0 hi hau hf rfl 13 rfl rfl,?_⟩
   exact hc
  ·intro E θ a w hD hi hp he hc
   have e2 := hp.of (k := 2) rfl
   rcases boolEq (r_13.2 == 0) with hb | hb
   ·have hf := he.h0
    replace hf := hf.more he 1 rfl onT
    replace hf := hf.more he 13 rfl (onP e2)
    replace hf := castB hb hf
    refine stP hf rfl rfl rfl (pM rfl) fun a hf => ?_
    replace hf := castI (u := undef) hb hf
    refine cNil ?_
    refine xThenN ?_
    intro ds u hau
    refine ⟨θ,he.put0 hi hau hf rfl 14 rfl rfl,?_⟩
    exact hc
   ·have hf := he.h0
    replace hf := hf.more he 1 rfl onT
    replace hf := hf.more he 13 rfl (onP e2)
    replace hf := castB hb hf
    refine stS hf rfl rfl rfl fun a hf => ?_
    replace hf := castJ (u := i6 r_15.2) hb hf
    refine cNil ?_
    refine xThenN ?_
    intro ds u hau
    refine ⟨θ,he.put0 hi hau hf rfl 14 rfl rfl,?_⟩
    exact hc
  ·intro E θ a w hD hi hp he hc
   have e2 := hp.of (k := 2) rfl
   have e3 := hp.of (k := 3) rfl
   rcases boolEq (r_13.2 == 0) with hb | hb
   ·have hf := he.h0
    replace hf := hf.more he 13 rfl (onP e2)
    replace hf := castB hb hf
    replace hf := hf.more he 14 rfl (onP e3)
    replace hf := castCT hb hf
    refine stP hf rfl rfl rfl (pEq rfl rfl) fun a hf => ?_
    replace hf := castI (u := undef) hb hf
    refine cNil ?_
    refine xThenN ?_
    intro ds u hau
    refine ⟨θ,he.put0 hi hau hf rfl 15 rfl rfl,?_⟩
    exact hc
   ·have hf := he.h0
    replace hf := hf.more he 13 rfl (onP e2)
    replace hf := castB hb hf
    replace hf := hf.more he 14 rfl (onP e3)
    replace hf := castCF hb hf
    refine stS hf rfl rfl rfl fun a hf => ?_
    replace hf := castJ (u := .bool (r_15.2 == 0)) hb hf
    refine cNil ?_
    refine xThenN ?_
    intro ds u hau
    refine ⟨θ,he.put0 hi hau hf rfl 15 rfl rfl,?_⟩
    exact hc
  ·intro E θ a w hD hi hp he hc
   have e2 := hp.of (k := 2) rfl
   have e4 := hp.of (k := 4) rfl
   rcases boolEq (r_13.2 == 0) with hb | hb
   ·have hf := he.h0
    replace hf := hf.more he 13 rfl (onP e2)
    replace hf := castB hb hf
    replace hf := hf.more he 15 rfl (onP e4)
    replace hf := castCT hb hf
    refine stP hf rfl rfl rfl (pPt rfl rfl) fun a hf => ?_
    replace hf := castV (v' := .bool ((r_13.2 == 0) && (r_15.2 == 0))) (congrArg Value.bool (andT hb)) hf
    refine cNil ?_
    refine xThenN ?_
    intro ds u hau
    refine ⟨θ,he.put0 hi hau hf rfl 16 rfl rfl,?_⟩
    exact hc
   ·have hf := he.h0
    replace hf := hf.more he 13 rfl (onP e2)
    replace hf := castB hb hf
    replace hf := hf.more he 15 rfl (onP e4)
    replace hf := castCF hb hf
    refine stP hf rfl rfl rfl (pPf rfl rfl) fun a hf => ?_
    replace hf := castV (v' := .bool ((r_13.2 == 0) && (r_15.2 == 0))) (congrArg Value.bool (andF hb)) hf
    refine cNil ?_
    refine xThenN ?_
    intro ds u hau
    refine ⟨θ,he.put0 hi hau hf rfl 16 rfl rfl,?_⟩
    exact hc
  ·intro E θ a w hD hi hp he hc
   have e5 := hp.of (k := 5) rfl
   have hf := he.h0
   replace hf := hf.more he 16 rfl (onP e5)
   refine stP hf rfl rfl rfl (pM rfl) fun a hf => cNil ?_
   refine xThenN ?_
   intro ds u hau
   refine ⟨θ,he.put0 hi hau hf rfl 17 rfl rfl,?_⟩
   exact hc
  ·intro E θ a w hD hi hp he hc
   have e6 := hp.of (k := 6) rfl
   rcases boolEq ((r_13.2 == 0) && (r_15.2 == 0)) with hb | hb
   ·have hf := he.h0
    replace hf := hf.more he 2 rfl onT
    replace hf := hf.more he 17 rfl (onP e6)
    replace hf := castB hb hf
    refine stP hf rfl rfl rfl (pM rfl) fun a hf => ?_
    replace hf := castI (u := undef) hb hf
    refine cNil ?_
    refine xThenN ?_
    intro ds u hau
    refine ⟨θ,he.put0 hi hau hf rfl 18 rfl rfl,?_⟩
    exact hc
   ·have hf := he.h0
    replace hf := hf.more he 2 rfl onT
    replace hf := hf.more he 17 rfl (onP e6)
    replace hf := castB hb hf
    refine stS hf rfl rfl rfl fun a hf => ?_
    replace hf := castJ (u := i6 r_17.2.2) hb hf
    refine cNil ?_
    refine xThenN ?_
    intro ds u hau
    refine ⟨θ,he.put0 hi hau hf rfl 18 rfl rfl,?_⟩
    exact hc
  ·intro E θ a w hD hi hp he hc
   have e6 := hp.of (k := 6) rfl
   have e7 := hp.of (k := 7) rfl
   rcases boolEq ((r_13.2 == 0) && (r_15.2 == 0)) with hb | hb
   ·have hf := he.h0
    replace hf := hf.more he 17 rfl (onP e6)
    replace hf := castB hb hf
    replace hf := hf.more he 18 rfl (onP e7)
    replace hf := castCT hb hf
    refine stP hf rfl rfl rfl (pEq rfl rfl) fun a hf => ?_
    replace hf := castI (u := undef) hb hf
    refine cNil ?_
    refine xThenN ?_
    intro ds u hau
    refine ⟨θ,he.put0 hi hau hf rfl 19 rfl rfl,?_⟩
    exact hc
   ·have hf := he.h0
    replace hf := hf.more he 17 rfl (onP e6)
    replace hf := castB hb hf
    replace hf := hf.more he 18 rfl (onP e7)
    replace hf := castCF hb hf
    refine stS hf rfl rfl rfl fun a hf => ?_
    replace hf := castJ (u := .bool (r_17.2.2 == 0)) hb hf
    refine cNil ?_
    refine xThenN ?_
    intro ds u hau
    refine ⟨θ,he.put0 hi hau hf rfl 19 rfl rfl,?_⟩
    exact hc
  ·intro E θ a w hD hi hp he hc
   have e6 := hp.of (k := 6) rfl
   have e8 := hp.of (k := 8) rfl
   rcases boolEq ((r_13.2 == 0) && (r_15.2 == 0)) with hb | hb
   ·have hf := he.h0
    replace hf := hf.more he 17 rfl (onP e6)
    replace hf := castB hb hf
    replace hf := hf.more he 19 rfl (onP e8)
    replace hf := castCT hb hf
    refine stP hf rfl rfl rfl (pPt rfl rfl) fun a hf => ?_
    replace hf := castV (v' := .bool (((r_13.2 == 0) && (r_15.2 == 0)) && (r_17.2.2 == 0))) (congrArg Value.bool (andT hb)) hf
    refine cNil ?_
    refine xThenN ?_
    intro ds u hau
    refine ⟨θ,he.put0 hi hau hf rfl 20 rfl rfl,?_⟩
    exact hc
   ·have hf := he.h0
    replace hf := hf.more he 17 rfl (onP e6)
    replace hf := castB hb hf
    replace hf := hf.more he 19 rfl (onP e8)
    replace hf := castCF hb hf
    refine stP hf rfl rfl rfl (pPf rfl rfl) fun a hf => ?_
    replace hf := castV (v' := .bool (((r_13.2 == 0) && (r_15.2 == 0)) && (r_17.2.2 == 0))) (congrArg Value.bool (andF hb)) hf
    refine cNil ?_
    refine xThenN ?_
    intro ds u hau
    refine ⟨θ,he.put0 hi hau hf rfl 20 rfl rfl,?_⟩
    exact hc
  ·intro E θ a w hD hi hp he hc
   have e9 := hp.of (k := 9) rfl
   have hf := he.h0
   replace hf := hf.more he 20 rfl (onP e9)
   refine stP hf rfl rfl rfl (pM rfl) fun a hf => cNil ?_
   refine xThenN ?_
   intro ds u hau
   refine ⟨θ,he.put0 hi hau hf rfl 21 rfl rfl,?_⟩
   exact hc
  ·intro E θ a w hD hi hp he hc
   have e10 := hp.of (k := 10) rfl
   rcases boolEq (((r_13.2 == 0) && (r_15.2 == 0)) && (r_17.2.2 == 0)) with hb | hb
   ·have hf := he.h0
    replace hf := hf.more he 3 rfl onT
    replace hf := hf.more he 21 rfl (onP e10)
    replace hf := castB hb hf
    refine stP hf rfl rfl rfl (pM rfl) fun a hf => ?_
    replace hf := castI (u := undef) hb hf
    refine cNil ?_
    refine xThenN ?_
    intro ds u hau
    refine ⟨θ,he.put0 hi hau hf rfl 22 rfl rfl,?_⟩
    exact hc
   ·have hf := he.h0
    replace hf := hf.more he 3 rfl onT
    replace hf := hf.more he 21 rfl (onP e10)
    replace hf := castB hb hf
    refine stS hf rfl rfl rfl fun a hf => ?_
    replace hf := castJ (u := i6 r_20.2) hb hf
    refine cNil ?_
    refine xThenN ?_
    intro ds u hau
    refine ⟨θ,he.put0 hi hau hf rfl 22 rfl rfl,?_⟩
    exact hc
  ·intro E θ a w hD hi hp he hc
   have e10 := hp.of (k := 10) rfl
   have e11 := hp.of (k := 11) rfl
   rcases boolEq (((r_13.2 == 0) && (r_15.2 == 0)) && (r_17.2.2 == 0)) with hb | hb
   ·have hf := he.h0
    replace hf := hf.more he 21 rfl (onP e10)
    replace hf := castB hb hf
    replace hf := hf.more he 22 rfl (onP e11)
    replace hf := castCT hb hf
    refine stP hf rfl rfl rfl (pEq rfl rfl) fun a hf => ?_
    replace hf := castI (u := undef) hb hf
    refine cNil ?_
    refine xThenN ?_
    intro ds u hau
    refine ⟨θ,he.put0 hi hau hf rfl 23 rfl rfl,?_⟩
    exact hc
   ·have hf := he.h0
    replace hf := hf.more he 21 rfl (onP e10)
    replace hf := castB hb hf
    replace hf := hf.more he 22 rfl (onP e11)
    replace hf := castCF hb hf
    refine stS hf rfl rfl rfl fun a hf => ?_
    replace hf := castJ (u := .bool (r_20.2 == 0)) hb hf
    refine cNil ?_
    refine xThenN ?_
    intro ds u hau
    refine ⟨θ,he.put0 hi hau hf rfl 23 rfl rfl,?_⟩
    exact hc
  ·intro E θ a w hD hi hp he hc
   have e10 := hp.of (k := 10) rfl
   have e12 := hp.of (k := 12) rfl
   rcases boolEq (((r_13.2 == 0) && (r_15.2 == 0)) && (r_17.2.2 == 0)) with hb | hb
   ·have hf := he.h0
    replace hf := hf.more he 21 rfl (onP e10)
    replace hf := castB hb hf
    replace hf := hf.more he 23 rfl (onP e12)
    replace hf := castCT hb hf
    refine stP hf rfl rfl rfl (pPt rfl rfl) fun a hf => ?_
    replace hf := castV (v' := .bool ((((r_13.2 == 0) && (r_15.2 == 0)) && (r_17.2.2 == 0)) && (r_20.2 == 0))) (congrArg Value.bool (andT hb)) hf
    refine cNil ?_
    refine xThenN ?_
    intro ds u hau
    refine ⟨θ,he.put0 hi hau hf rfl 24 rfl rfl,?_⟩
    exact hc
   ·have hf := he.h0
    replace hf := hf.more he 21 rfl (onP e10)
    replace hf := castB hb hf
    replace hf := hf.more he 23 rfl (onP e12)
    replace hf := castCF hb hf
    refine stP hf rfl rfl rfl (pPf rfl rfl) fun a hf => ?_
    replace hf := castV (v' := .bool ((((r_13.2 == 0) && (r_15.2 == 0)) && (r_17.2.2 == 0)) && (r_20.2 == 0))) (congrArg Value.bool (andF hb)) hf
    refine cNil ?_
    refine xThenN ?_
    intro ds u hau
    refine ⟨θ,he.put0 hi hau hf rfl 24 rfl rfl,?_⟩
    exact hc
  ·intro E θ a w hD hi hp he hc
   have e13 := hp.of (k := 13) rfl
   have hf := he.h0
   replace hf := hf.more he 24 rfl (onP e13)
   refine stP hf rfl rfl rfl (pM rfl) fun a hf => cNil ?_
   refine xThenN ?_
   intro ds u hau
   refine ⟨θ,he.put0 hi hau hf rfl 25 rfl rfl,?_⟩
   exact hc
  ·intro E θ a w hD hi hp he hc
   have e14 := hp.of (k := 14) rfl
   rcases boolEq ((((r_13.2 == 0) && (r_15.2 == 0)) && (r_17.2.2 == 0)) && (r_20.2 == 0)) with hb | hb
   ·have hf := he.h0
    replace hf := hf.more he 6 rfl onT
    replace hf := hf.more he 25 rfl (onP e14)
    replace hf := castB hb hf
    refine stP hf rfl rfl rfl (pM rfl) fun a hf => ?_
    replace hf := castI (u := undef) hb hf
    refine cNil ?_
    refine xThenN ?_
    intro ds u hau
    refine ⟨θ,he.put0 hi hau hf rfl 26 rfl rfl,?_⟩
    exact hc
   ·have hf := he.h0
    replace hf := hf.more he 6 rfl onT
    replace hf := hf.more he 25 rfl (onP e14)
    replace hf := castB hb hf
    refine stS hf rfl rfl rfl fun a hf => ?_
    replace hf := castJ (u := i6 r_21.2) hb hf
    refine cNil ?_
    refine xThenN ?_
    intro ds u hau
    refine ⟨θ,he.put0 hi hau hf rfl 26 rfl rfl,?_⟩
    exact hc
  ·intro E θ a w hD hi hp he hc
   have e14 := hp.of (k := 14) rfl
   have e15 := hp.of (k := 15) rfl
   rcases boolEq ((((r_13.2 == 0) && (r_15.2 == 0)) && (r_17.2.2 == 0)) && (r_20.2 == 0)) with hb | hb
   ·have hf := he.h0
    replace hf := hf.more he 25 rfl (onP e14)
    replace hf := castB hb hf
    replace hf := hf.more he 26 rfl (onP e15)
    replace hf := castCT hb hf
    refine stP hf rfl rfl rfl (pEq rfl rfl) fun a hf => ?_
    replace hf := castI (u := undef) hb hf
    refine cNil ?_
    refine xThenN ?_
    intro ds u hau
    refine ⟨θ,he.put0 hi hau hf rfl 27 rfl rfl,?_⟩
    exact hc
   ·have hf := he.h0
    replace hf := hf.more he 25 rfl (onP e14)
    replace hf := castB hb hf
    replace hf := hf.more he 26 rfl (onP e15)
    replace hf := castCF hb hf
    refine stS hf rfl rfl rfl fun a hf => ?_
    replace hf := castJ (u := .bool (r_21.2 == 0)) hb hf
    refine cNil ?_
    refine xThenN ?_
    intro ds u hau
    refine ⟨θ,he.put0 hi hau hf rfl 27 rfl rfl,?_⟩
    exact hc
  ·intro E θ a w hD hi hp he hc
   have e14 := hp.of (k := 14) rfl
   have e16 := hp.of (k := 16) rfl
   rcases boolEq ((((r_13.2 == 0) && (r_15.2 == 0)) && (r_17.2.2 == 0)) && (r_20.2 == 0)) with hb | hb
   ·have hf := he.h0
    replace hf := hf.more he 25 rfl (onP e14)
    replace hf := castB hb hf
    replace hf := hf.more he 27 rfl (onP e16)
    replace hf := castCT hb hf
    refine stP hf rfl rfl rfl (pPt rfl rfl) fun a hf => ?_
    replace hf := castV (v' := .bool (((((r_13.2 == 0) && (r_15.2 == 0)) && (r_17.2.2 == 0)) && (r_20.2 == 0)) && (r_21.2 == 0))) (congrArg Value.bool (andT hb)) hf
    refine cNil ?_
    refine xThenN ?_
    intro ds u hau
    refine ⟨θ,he.put0 hi hau hf rfl 28 rfl rfl,?_⟩
    exact hc
   ·have hf := he.h0
    replace hf := hf.more he 25 rfl (onP e14)
    replace hf := castB hb hf
    replace hf := hf.more he 27 rfl (onP e16)
    replace hf := castCF hb hf
    refine stP hf rfl rfl rfl (pPf rfl rfl) fun a hf => ?_
    replace hf := castV (v' := .bool (((((r_13.2 == 0) && (r_15.2 == 0)) && (r_17.2.2 == 0)) && (r_20.2 == 0)) && (r_21.2 == 0))) (congrArg Value.bool (andF hb)) hf
    refine cNil ?_
    refine xThenN ?_
    intro ds u hau
    refine ⟨θ,he.put0 hi hau hf rfl 28 rfl rfl,?_⟩
    exact hc
  ·intro E θ a w hD hi hp he hc
   have e17 := hp.of (k := 17) rfl
   have hf := he.h0
   replace hf := hf.more he 28 rfl (onP e17)
   refine stP hf rfl rfl rfl (pM rfl) fun a hf => cNil ?_
   refine xThenN ?_
   intro ds u hau
   refine ⟨θ,he.put0 hi hau hf rfl 29 rfl rfl,?_⟩
   exact hc
  ·intro E θ a w hD hi hp he hc
   have e18 := hp.of (k := 18) rfl
   rcases boolEq (((((r_13.2 == 0) && (r_15.2 == 0)) && (r_17.2.2 == 0)) && (r_20.2 == 0)) && (r_21.2 == 0)) with hb | hb
   ·have hf := he.h0
    replace hf := hf.more he 7 rfl onT
    replace hf := hf.more he 29 rfl (onP e18)
    replace hf := castB hb hf
    refine stP hf rfl rfl rfl (pM rfl) fun a hf => ?_
    replace hf := castI (u := undef) hb hf
    refine cNil ?_
    refine xThenN ?_
    intro ds u hau
    refine ⟨θ,he.put0 hi hau hf rfl 30 rfl rfl,?_⟩
    exact hc
   ·have hf := he.h0
    replace hf := hf.more he 7 rfl onT
    replace hf := hf.more he 29 rfl (onP e18)
    replace hf := castB hb hf
    refine stS hf rfl rfl rfl fun a hf => ?_
    replace hf := castJ (u := i6 r_13.1) hb hf
    refine cNil ?_
    refine xThenN ?_
    intro ds u hau
    refine ⟨θ,he.put0 hi hau hf rfl 30 rfl rfl,?_⟩
    exact hc
  ·intro E θ a w hD hi hp he hc
   have e18 := hp.of (k := 18) rfl
   have e19 := hp.of (k := 19) rfl
   rcases boolEq (((((r_13.2 == 0) && (r_15.2 == 0)) && (r_17.2.2 == 0)) && (r_20.2 == 0)) && (r_21.2 == 0)) with hb | hb
   ·have hf := he.h0
    replace hf := hf.more he 29 rfl (onP e18)
    replace hf := castB hb hf
    replace hf := hf.more he 30 rfl (onP e19)
    replace hf := castCT hb hf
    refine stP hf rfl rfl rfl (pEq rfl rfl) fun a hf => ?_
    replace hf := castI (u := undef) hb hf
    refine cNil ?_
    refine xThenN ?_
    intro ds u hau
    refine ⟨θ,he.put0 hi hau hf rfl 31 rfl rfl,?_⟩
    exact hc
   ·have hf := he.h0
    replace hf := hf.more he 29 rfl (onP e18)
    replace hf := castB hb hf
    replace hf := hf.more he 30 rfl (onP e19)
    replace hf := castCF hb hf
    refine stS hf rfl rfl rfl fun a hf => ?_
    replace hf := castJ (u := .bool (r_13.1 == 5)) hb hf
    refine cNil ?_
    refine xThenN ?_
    intro ds u hau
    refine ⟨θ,he.put0 hi hau hf rfl 31 rfl rfl,?_⟩
    exact hc
  ·intro E θ a w hD hi hp he hc
   have e18 := hp.of (k := 18) rfl
   have e20 := hp.of (k := 20) rfl
   rcases boolEq (((((r_13.2 == 0) && (r_15.2 == 0)) && (r_17.2.2 == 0)) && (r_20.2 == 0)) && (r_21.2 == 0)) with hb | hb
   ·have hf := he.h0
    replace hf := hf.more he 29 rfl (onP e18)
    replace hf := castB hb hf
    replace hf := hf.more he 31 rfl (onP e20)
    replace hf := castCT hb hf
    refine stP hf rfl rfl rfl (pPt rfl rfl) fun a hf => ?_
    replace hf := castV (v' := .bool ((((((r_13.2 == 0) && (r_15.2 == 0)) && (r_17.2.2 == 0)) && (r_20.2 == 0)) && (r_21.2 == 0)) && (r_13.1 == 5))) (congrArg Value.bool (andT hb)) hf
    refine cNil ?_
    refine xThenN ?_
    intro ds u hau
    refine ⟨θ,he.put0 hi hau hf rfl 32 rfl rfl,?_⟩
    exact hc
   ·have hf := he.h0
    replace hf := hf.more he 29 rfl (onP e18)
    replace hf := castB hb hf
    replace hf := hf.more he 31 rfl (onP e20)
    replace hf := castCF hb hf
    refine stP hf rfl rfl rfl (pPf rfl rfl) fun a hf => ?_
    replace hf := castV (v' := .bool ((((((r_13.2 == 0) && (r_15.2 == 0)) && (r_17.2.2 == 0)) && (r_20.2 == 0)) && (r_21.2 == 0)) && (r_13.1 == 5))) (congrArg Value.bool (andF hb)) hf
    refine cNil ?_
    refine xThenN ?_
    intro ds u hau
    refine ⟨θ,he.put0 hi hau hf rfl 32 rfl rfl,?_⟩
    exact hc
  ·intro E θ a w hD hi hp he hc
   have e21 := hp.of (k := 21) rfl
   have hf := he.h0
   replace hf := hf.more he 32 rfl (onP e21)
   refine stP hf rfl rfl rfl (pM rfl) fun a hf => cNil ?_
   refine xThenN ?_
   intro ds u hau
   refine ⟨θ,he.put0 hi hau hf rfl 33 rfl rfl,?_⟩
   exact hc
  ·intro E θ a w hD hi hp he hc
   have e22 := hp.of (k := 22) rfl
   rcases boolEq ((((((r_13.2 == 0) && (r_15.2 == 0)) && (r_17.2.2 == 0)) && (r_20.2 == 0)) && (r_21.2 == 0)) && (r_13.1 == 5)) with hb | hb
   ·have hf := he.h0
    replace hf := hf.more he 8 rfl onT
    replace hf := hf.more he 33 rfl (onP e22)
    replace hf := castB hb hf
    refine stE hf hc rfl rfl rfl (eLdN (vs := [i6 r_15.1.Lo,i6 r_15.1.Hi]) ag_29 rfl rfl (cells_box (n := 2) m6 rfl)) fun a w hf hc => ?_
    replace hf := castI (u := undef) hb hf
    refine cNil ?_
    refine xThenN ?_
    intro ds u hau
    refine ⟨θ,he.put0 hi hau hf rfl 34 rfl rfl,?_⟩
    exact hc
   ·have hf := he.h0
    replace hf := hf.more he 8 rfl onT
    replace hf := hf.more he 33 rfl (onP e22)
    replace hf := castB hb hf
    refine stS hf rfl rfl rfl fun a hf => ?_
    replace hf := castJ (u := .agg #[i6 r_15.1.Lo,i6 r_15.1.Hi]) hb hf
    refine cNil ?_
    refine xThenN ?_
    intro ds u hau
    refine ⟨θ,he.put0 hi hau hf rfl 34 rfl rfl,?_⟩
    exact hc
  ·intro E θ a w hD hi hp he hc
   have e22 := hp.of (k := 22) rfl
   rcases boolEq ((((((r_13.2 == 0) && (r_15.2 == 0)) && (r_17.2.2 == 0)) && (r_20.2 == 0)) && (r_21.2 == 0)) && (r_13.1 == 5)) with hb | hb
   ·have hf := he.h0
    replace hf := hf.more he 33 rfl (onP e22)
    replace hf := castB hb hf
    refine stE hf hc rfl rfl rfl (eC (v := .agg #[i6 r_22.Lo,i6 r_22.Hi]) (vs := [i6 290,i6 320]) (caps := []) en_51 rfl rfl rfl rfl (fun w hc => law11_span_ok 290 320 hc (condT hb hr_22))) fun a w hf hc => ?_
    replace hf := castI (u := undef) hb hf
    refine cNil ?_
    refine xThenN ?_
    intro ds u hau
    refine ⟨θ,he.put0 hi hau hf rfl 35 rfl rfl,?_⟩
    exact hc
   ·have hf := he.h0
    replace hf := hf.more he 33 rfl (onP e22)
    replace hf := castB hb hf
    refine stS hf rfl rfl rfl fun a hf => ?_
    replace hf := castJ (u := .agg #[i6 r_22.Lo,i6 r_22.Hi]) hb hf
    refine cNil ?_
    refine xThenN ?_
    intro ds u hau
    refine ⟨θ,he.put0 hi hau hf rfl 35 rfl rfl,?_⟩
    exact hc
  ·intro E θ a w hD hi hp he hc
   have e22 := hp.of (k := 22) rfl
   have e23 := hp.of (k := 23) rfl
   have e24 := hp.of (k := 24) rfl
   rcases boolEq ((((((r_13.2 == 0) && (r_15.2 == 0)) && (r_17.2.2 == 0)) && (r_20.2 == 0)) && (r_21.2 == 0)) && (r_13.1 == 5)) with hb | hb
   ·have hf := he.h0
    replace hf := hf.more he 33 rfl (onP e22)
    replace hf := castB hb hf
    replace hf := hf.more he 34 rfl (onP e23)
    replace hf := castCT hb hf
    replace hf := hf.more he 35 rfl (onP e24)
    replace hf := castCT hb hf
    refine stP hf rfl rfl rfl (pEqA ge_29 rfl rfl (eqs_29 _ _ _ _)) fun a hf => ?_
    replace hf := castI (u := undef) hb hf
    refine cNil ?_
    refine xThenN ?_
    intro ds u hau
    refine ⟨θ,he.put0 hi hau hf rfl 36 rfl rfl,?_⟩
    exact hc
   ·have hf := he.h0
    replace hf := hf.more he 33 rfl (onP e22)
    replace hf := castB hb hf
    replace hf := hf.more he 34 rfl (onP e23)
    replace hf := castCF hb hf
    replace hf := hf.more he 35 rfl (onP e24)
    replace hf := castCF hb hf
    refine stS hf rfl rfl rfl fun a hf => ?_
    replace hf := castJ (u := .bool (r_15.1.Lo == r_22.Lo && r_15.1.Hi == r_22.Hi)) hb hf
    refine cNil ?_
    refine xThenN ?_
    intro ds u hau
    refine ⟨θ,he.put0 hi hau hf rfl 36 rfl rfl,?_⟩
    exact hc
  ·intro E θ a w hD hi hp he hc
   have e22 := hp.of (k := 22) rfl
   have e25 := hp.of (k := 25) rfl
   rcases boolEq ((((((r_13.2 == 0) && (r_15.2 == 0)) && (r_17.2.2 == 0)) && (r_20.2 == 0)) && (r_21.2 == 0)) && (r_13.1 == 5)) with hb | hb
   ·have hf := he.h0
    replace hf := hf.more he 33 rfl (onP e22)
    replace hf := castB hb hf
    replace hf := hf.more he 36 rfl (onP e25)
    replace hf := castCT hb hf
    refine stP hf rfl rfl rfl (pPt rfl rfl) fun a hf => ?_
    replace hf := castV (v' := .bool (((((((r_13.2 == 0) && (r_15.2 == 0)) && (r_17.2.2 == 0)) && (r_20.2 == 0)) && (r_21.2 == 0)) && (r_13.1 == 5)) && (r_15.1.Lo == r_22.Lo && r_15.1.Hi == r_22.Hi))) (congrArg Value.bool (andT hb)) hf
    refine cNil ?_
    refine xThenN ?_
    intro ds u hau
    refine ⟨θ,he.put0 hi hau hf rfl 37 rfl rfl,?_⟩
    exact hc
   ·have hf := he.h0
    replace hf := hf.more he 33 rfl (onP e22)
    replace hf := castB hb hf
    replace hf := hf.more he 36 rfl (onP e25)
    replace hf := castCF hb hf
    refine stP hf rfl rfl rfl (pPf rfl rfl) fun a hf => ?_
    replace hf := castV (v' := .bool (((((((r_13.2 == 0) && (r_15.2 == 0)) && (r_17.2.2 == 0)) && (r_20.2 == 0)) && (r_21.2 == 0)) && (r_13.1 == 5)) && (r_15.1.Lo == r_22.Lo && r_15.1.Hi == r_22.Hi))) (congrArg Value.bool (andF hb)) hf
    refine cNil ?_
    refine xThenN ?_
    intro ds u hau
    refine ⟨θ,he.put0 hi hau hf rfl 37 rfl rfl,?_⟩
    exact hc
  ·intro E θ a w hD hi hp he hc
   have e26 := hp.of (k := 26) rfl
   have hf := he.h0
   replace hf := hf.more he 37 rfl (onP e26)
   refine stP hf rfl rfl rfl (pM rfl) fun a hf => cNil ?_
   refine xThenN ?_
   intro ds u hau
   refine ⟨θ,he.put0 hi hau hf rfl 38 rfl rfl,?_⟩
   exact hc
  ·intro E θ a w hD hi hp he hc
   have e27 := hp.of (k := 27) rfl
   rcases boolEq (((((((r_13.2 == 0) && (r_15.2 == 0)) && (r_17.2.2 == 0)) && (r_20.2 == 0)) && (r_21.2 == 0)) && (r_13.1 == 5)) && (r_15.1.Lo == r_22.Lo && r_15.1.Hi == r_22.Hi)) with hb | hb
   ·have hf := he.h0
    replace hf := hf.more he 4 rfl onT
    replace hf := hf.more he 38 rfl (onP e27)
    replace hf := castB hb hf
    refine stP hf rfl rfl rfl (pM rfl) fun a hf => ?_
    replace hf := castI (u := undef) hb hf
    refine cNil ?_
    refine xThenN ?_
    intro ds u hau
    refine ⟨θ,he.put0 hi hau hf rfl 39 rfl rfl,?_⟩
    exact hc
   ·have hf := he.h0
    replace hf := hf.more he 4 rfl onT
    replace hf := hf.more he 38 rfl (onP e27)
    replace hf := castB hb hf
    refine stS hf rfl rfl rfl fun a hf => ?_
    replace hf := castJ (u := i6 r_17.1) hb hf
    refine cNil ?_
    refine xThenN ?_
    intro ds u hau
    refine ⟨θ,he.put0 hi hau hf rfl 39 rfl rfl,?_⟩
    exact hc
  ·intro E θ a w hD hi hp he hc
   have e27 := hp.of (k := 27) rfl
   have e28 := hp.of (k := 28) rfl
   rcases boolEq (((((((r_13.2 == 0) && (r_15.2 == 0)) && (r_17.2.2 == 0)) && (r_20.2 == 0)) && (r_21.2 == 0)) && (r_13.1 == 5)) && (r_15.1.Lo == r_22.Lo && r_15.1.Hi == r_22.Hi)) with hb | hb
   ·have hf := he.h0
    replace hf := hf.more he 38 rfl (onP e27)
    replace hf := castB hb hf
    replace hf := hf.more he 39 rfl (onP e28)
    replace hf := castCT hb hf
    refine stP hf rfl rfl rfl (pEq rfl rfl) fun a hf => ?_
    replace hf := castI (u := undef) hb hf
    refine cNil ?_
    refine xThenN ?_
    intro ds u hau
    refine ⟨θ,he.put0 hi hau hf rfl 40 rfl rfl,?_⟩
    exact hc
   ·have hf := he.h0
    replace hf := hf.more he 38 rfl (onP e27)
    replace hf := castB hb hf
    replace hf := hf.more he 39 rfl (onP e28)
    replace hf := castCF hb hf
    refine stS hf rfl rfl rfl fun a hf => ?_
    replace hf := castJ (u := .bool (r_17.1 == 5)) hb hf
    refine cNil ?_
    refine xThenN ?_
    intro ds u hau
    refine ⟨θ,he.put0 hi hau hf rfl 40 rfl rfl,?_⟩
    exact hc
  ·intro E θ a w hD hi hp he hc
   have e27 := hp.of (k := 27) rfl
   have e29 := hp.of (k := 29) rfl
   rcases boolEq (((((((r_13.2 == 0) && (r_15.2 == 0)) && (r_17.2.2 == 0)) && (r_20.2 == 0)) && (r_21.2 == 0)) && (r_13.1 == 5)) && (r_15.1.Lo == r_22.Lo && r_15.1.Hi == r_22.Hi)) with hb | hb
   ·have hf := he.h0
    replace hf := hf.more he 38 rfl (onP e27)
    replace hf := castB hb hf
    replace hf := hf.more he 40 rfl (onP e29)
    replace hf := castCT hb hf
    refine stP hf rfl rfl rfl (pPt rfl rfl) fun a hf => ?_
    replace hf := castV (v' := .bool ((((((((r_13.2 == 0) && (r_15.2 == 0)) && (r_17.2.2 == 0)) && (r_20.2 == 0)) && (r_21.2 == 0)) && (r_13.1 == 5)) && (r_15.1.Lo == r_22.Lo && r_15.1.Hi == r_22.Hi)) && (r_17.1 == 5))) (congrArg Value.bool (andT hb)) hf
    refine cNil ?_
    refine xThenN ?_
    intro ds u hau
    refine ⟨θ,he.put0 hi hau hf rfl 41 rfl rfl,?_⟩
    exact hc
   ·have hf := he.h0
    replace hf := hf.more he 38 rfl (onP e27)
    replace hf := castB hb hf
    replace hf := hf.more he 40 rfl (onP e29)
    replace hf := castCF hb hf
    refine stP hf rfl rfl rfl (pPf rfl rfl) fun a hf => ?_
    replace hf := castV (v' := .bool ((((((((r_13.2 == 0) && (r_15.2 == 0)) && (r_17.2.2 == 0)) && (r_20.2 == 0)) && (r_21.2 == 0)) && (r_13.1 == 5)) && (r_15.1.Lo == r_22.Lo && r_15.1.Hi == r_22.Hi)) && (r_17.1 == 5))) (congrArg Value.bool (andF hb)) hf
    refine cNil ?_
    refine xThenN ?_
    intro ds u hau
    refine ⟨θ,he.put0 hi hau hf rfl 41 rfl rfl,?_⟩
    exact hc
  ·intro E θ a w hD hi hp he hc
   have e30 := hp.of (k := 30) rfl
   have hf := he.h0
   replace hf := hf.more he 41 rfl (onP e30)
   refine stP hf rfl rfl rfl (pM rfl) fun a hf => cNil ?_
   refine xThenN ?_
   intro ds u hau
   refine ⟨θ,he.put0 hi hau hf rfl 42 rfl rfl,?_⟩
   exact hc
  ·intro E θ a w hD hi hp he hc
   have e31 := hp.of (k := 31) rfl
   rcases boolEq ((((((((r_13.2 == 0) && (r_15.2 == 0)) && (r_17.2.2 == 0)) && (r_20.2 == 0)) && (r_21.2 == 0)) && (r_13.1 == 5)) && (r_15.1.Lo == r_22.Lo && r_15.1.Hi == r_22.Hi)) && (r_17.1 == 5)) with hb | hb
   ·have hf := he.h0
    replace hf := hf.more he 5 rfl onT
    replace hf := hf.more he 42 rfl (onP e31)
    replace hf := castB hb hf
    refine stP hf rfl rfl rfl (pM rfl) fun a hf => ?_
    replace hf := castI (u := undef) hb hf
    refine cNil ?_
    refine xThenN ?_
    intro ds u hau
    refine ⟨θ,he.put0 hi hau hf rfl 43 rfl rfl,?_⟩
    exact hc
   ·have hf := he.h0
    replace hf := hf.more he 5 rfl onT
    replace hf := hf.more he 42 rfl (onP e31)
    replace hf := castB hb hf
    refine stS hf rfl rfl rfl fun a hf => ?_
    replace hf := castJ (u := i6 r_17.2.1) hb hf
    refine cNil ?_
    refine xThenN ?_
    intro ds u hau
    refine ⟨θ,he.put0 hi hau hf rfl 43 rfl rfl,?_⟩
    exact hc
  ·intro E θ a w hD hi hp he hc
   have e31 := hp.of (k := 31) rfl
   have e32 := hp.of (k := 32) rfl
   rcases boolEq ((((((((r_13.2 == 0) && (r_15.2 == 0)) && (r_17.2.2 == 0)) && (r_20.2 == 0)) && (r_21.2 == 0)) && (r_13.1 == 5)) && (r_15.1.Lo == r_22.Lo && r_15.1.Hi == r_22.Hi)) && (r_17.1 == 5)) with hb | hb
   ·have hf := he.h0
    replace hf := hf.more he 42 rfl (onP e31)
    replace hf := castB hb hf
    replace hf := hf.more he 43 rfl (onP e32)
    replace hf := castCT hb hf
    refine stP hf rfl rfl rfl (pEq rfl rfl) fun a hf => ?_
    replace hf := castI (u := undef) hb hf
    refine cNil ?_
    refine xThenN ?_
    intro ds u hau
    refine ⟨θ,he.put0 hi hau hf rfl 44 rfl rfl,?_⟩
    exact hc
   ·have hf := he.h0
    replace hf := hf.more he 42 rfl (onP e31)
    replace hf := castB hb hf
    replace hf := hf.more he 43 rfl (onP e32)
    replace hf := castCF hb hf
    refine stS hf rfl rfl rfl fun a hf => ?_
    replace hf := castJ (u := .bool (r_17.2.1 == (-1))) hb hf
    refine cNil ?_
    refine xThenN ?_
    intro ds u hau
    refine ⟨θ,he.put0 hi hau hf rfl 44 rfl rfl,?_⟩
    exact hc
  ·intro E θ a w hD hi hp he hc
   have e31 := hp.of (k := 31) rfl
   have e33 := hp.of (k := 33) rfl
   rcases boolEq ((((((((r_13.2 == 0) && (r_15.2 == 0)) && (r_17.2.2 == 0)) && (r_20.2 == 0)) && (r_21.2 == 0)) && (r_13.1 == 5)) && (r_15.1.Lo == r_22.Lo && r_15.1.Hi == r_22.Hi)) && (r_17.1 == 5)) with hb | hb
   ·have hf := he.h0
    replace hf := hf.more he 42 rfl (onP e31)
    replace hf := castB hb hf
    replace hf := hf.more he 44 rfl (onP e33)
    replace hf := castCT hb hf
    refine stP hf rfl rfl rfl (pPt rfl rfl) fun a hf => ?_
    replace hf := castV (v' := .bool (((((((((r_13.2 == 0) && (r_15.2 == 0)) && (r_17.2.2 == 0)) && (r_20.2 == 0)) && (r_21.2 == 0)) && (r_13.1 == 5)) && (r_15.1.Lo == r_22.Lo && r_15.1.Hi == r_22.Hi)) && (r_17.1 == 5)) && (r_17.2.1 == (-1)))) (congrArg Value.bool (andT hb)) hf
    refine cNil ?_
    refine xThenN ?_
    intro ds u hau
    refine ⟨θ,he.put0 hi hau hf rfl 45 rfl rfl,?_⟩
    exact hc
   ·have hf := he.h0
    replace hf := hf.more he 42 rfl (onP e31)
    replace hf := castB hb hf
    replace hf := hf.more he 44 rfl (onP e33)
    replace hf := castCF hb hf
    refine stP hf rfl rfl rfl (pPf rfl rfl) fun a hf => ?_
    replace hf := castV (v' := .bool (((((((((r_13.2 == 0) && (r_15.2 == 0)) && (r_17.2.2 == 0)) && (r_20.2 == 0)) && (r_21.2 == 0)) && (r_13.1 == 5)) && (r_15.1.Lo == r_22.Lo && r_15.1.Hi == r_22.Hi)) && (r_17.1 == 5)) && (r_17.2.1 == (-1)))) (congrArg Value.bool (andF hb)) hf
    refine cNil ?_
    refine xThenN ?_
    intro ds u hau
    refine ⟨θ,he.put0 hi hau hf rfl 45 rfl rfl,?_⟩
    exact hc
  ·intro E θ a w hD hi hp he hc
   have e34 := hp.of (k := 34) rfl
   have hf := he.h0
   replace hf := hf.more he 45 rfl (onP e34)
   refine stP hf rfl rfl rfl (pM rfl) fun a hf => cNil ?_
   refine xThenN ?_
   intro ds u hau
   refine ⟨θ,he.put0 hi hau hf rfl 46 rfl rfl,?_⟩
   exact hc
  ·intro E θ a w hD hi hp he hc
   have e35 := hp.of (k := 35) rfl
   rcases boolEq (((((((((r_13.2 == 0) && (r_15.2 == 0)) && (r_17.2.2 == 0)) && (r_20.2 == 0)) && (r_21.2 == 0)) && (r_13.1 == 5)) && (r_15.1.Lo == r_22.Lo && r_15.1.Hi == r_22.Hi)) && (r_17.1 == 5)) && (r_17.2.1 == (-1))) with hb | hb
   ·have hf := he.h0
    replace hf := hf.more he 9 rfl onT
    replace hf := hf.more he 46 rfl (onP e35)
    replace hf := castB hb hf
    refine stP hf rfl rfl rfl (pM rfl) fun a hf => ?_
    replace hf := castI (u := undef) hb hf
    refine cNil ?_
    refine xThenN ?_
    intro ds u hau
    refine ⟨θ,he.put0 hi hau hf rfl 47 rfl rfl,?_⟩
    exact hc
   ·have hf := he.h0
    replace hf := hf.more he 9 rfl onT
    replace hf := hf.more he 46 rfl (onP e35)
    replace hf := castB hb hf
    refine stS hf rfl rfl rfl fun a hf => ?_
    replace hf := castJ (u := .slice p_17 r_20.1.length c_11) hb hf
    refine cNil ?_
    refine xThenN ?_
    intro ds u hau
    refine ⟨θ,he.put0 hi hau hf rfl 47 rfl rfl,?_⟩
    exact hc
  ·intro E θ a w hD hi hp he hc
   have e35 := hp.of (k := 35) rfl
   try dsimp only at hc
   rw [hi] at hc
   rcases boolEq (((((((((r_13.2 == 0) && (r_15.2 == 0)) && (r_17.2.2 == 0)) && (r_20.2 == 0)) && (r_21.2 == 0)) && (r_13.1 == 5)) && (r_15.1.Lo == r_22.Lo && r_15.1.Hi == r_22.Hi)) && (r_17.1 == 5)) && (r_17.2.1 == (-1))) with hb | hb
   ·have hf := he.h0
    replace hf := hf.more he 46 rfl (onP e35)
    replace hf := castB hb hf
    refine stBS (rows := ([0,10,15] : List Int).map encI_i64) (vs := [(0,i6 0),(1,i6 10),(2,i6 15)]) hf hc rfl rfl sl_25 rfl ⟨rfl,rfl,rfl,rfl,rfl,rfl,rfl,rfl,rfl,trivial⟩ rfl rfl fun b_11 a w hf hc => ?_
    replace hf := castI (u := undef) hb hf
    refine cNil ?_
    refine xThenN ?_
    intro ds u hau
    replace hc := hc.drop k1
    refine ⟨(setT θ 296 ⟨b_11,none,0,(fun _ => (none,0))⟩),he.put hi hau hf rfl [] trivial ⟨qq,qq,qq,qq,qq,qq,qq,qq,qq,qq,qq,qq,qq,qq,qq,qq,qq,qq,qq,qq,qq,qq,qq,qq,qq,qq,qq,qq,qq,qq,qq,qq,qq,qq,qq,qq,qq,qq,qq,qq,qq,qq,qq,qq,qq,qq,qq,qq,qq,qq,qq,qq,qq,qq,qq,qq,trivial⟩,?_⟩
    try dsimp only
    rw [updE_self E 37]
    rw [gE_T hb]
    exact hc
   ·have hf := he.h0
    replace hf := hf.more he 46 rfl (onP e35)
    replace hf := castB hb hf
    refine stS hf rfl rfl rfl fun a hf => ?_
    replace hf := castJ (u := .slice (some ⟨(θ 296).b,0,none⟩) 3 3) hb hf
    refine cNil ?_
    refine xThenN ?_
    intro ds u hau
    refine ⟨θ,he.put0 hi hau hf rfl 48 rfl rfl,?_⟩
    try dsimp only
    rw [updE_self E 37]
    rw [gE_F hb]
    exact hc
  ·intro E θ a w hD hi hp he hc
   have e35 := hp.of (k := 35) rfl
   have e36 := hp.of (k := 36) rfl
   have e37 := hp.of (k := 37) rfl
   try dsimp only at hc
   rw [e37] at hc
   rcases boolEq (((((((((r_13.2 == 0) && (r_15.2 == 0)) && (r_17.2.2 == 0)) && (r_20.2 == 0)) && (r_21.2 == 0)) && (r_13.1 == 5)) && (r_15.1.Lo == r_22.Lo && r_15.1.Hi == r_22.Hi)) && (r_17.1 == 5)) && (r_17.2.1 == (-1))) with hb | hb
   ·have hf := he.h0
    replace hf := hf.more he 46 rfl (onP e35)
    replace hf := castB hb hf
    replace hf := hf.more he 47 rfl (onP e36)
    replace hf := castCT hb hf
    replace hf := hf.more he 48 rfl (onP e37)
    replace hf := castCT hb hf
    rw [gE_T hb] at hc
    refine stE hf hc rfl rfl rfl (eC (v := .bool r_23) (vs := [.slice p_17 r_20.1.length c_11,.slice (some ⟨(θ 296).b,0,none⟩) 3 3]) (caps := []) en_29 rfl rfl rfl rfl (fun w hc => by obtain ⟨G1,hle1,hrd1,hc,hth1⟩ := lend hc k3; obtain ⟨G2,hle2,hrd2,hc,hth2⟩ := lend hc k0; exact (kit_Same_int_ok r_20.1 ([0,10,15] : List Int) (hrd1.mono hle2) hrd2 hc (condT hb hr_23)).mono fun e w h => ⟨h.1,((hth1 _ _ ((hth2 _ _ h.2).unpick k0)).unpick k3)⟩)) fun a w hf hc => ?_
    replace hf := castI (u := undef) hb hf
    refine cNil ?_
    refine xThenN ?_
    intro ds u hau
    refine ⟨θ,he.put0 hi hau hf rfl 49 rfl rfl,?_⟩
    try dsimp only
    rw [updE_tru 38 e37]
    rw [gE_T hb]
    exact hc
   ·have hf := he.h0
    replace hf := hf.more he 46 rfl (onP e35)
    replace hf := castB hb hf
    replace hf := hf.more he 47 rfl (onP e36)
    replace hf := castCF hb hf
    replace hf := hf.more he 48 rfl (onP e37)
    replace hf := castCF hb hf
    rw [gE_F hb] at hc
    refine stS hf rfl rfl rfl fun a hf => ?_
    replace hf := castJ (u := .bool r_23) hb hf
    refine cNil ?_
    refine xThenN ?_
    intro ds u hau
    refine ⟨θ,he.put0 hi hau hf rfl 49 rfl rfl,?_⟩
    try dsimp only
    rw [updE_tru 38 e37]
    rw [gE_F hb]
    exact hc
  ·intro E θ a w hD hi hp he hc
   have e35 := hp.of (k := 35) rfl
   have e38 := hp.of (k := 38) rfl
   rcases boolEq (((((((((r_13.2 == 0) && (r_15.2 == 0)) && (r_17.2.2 == 0)) && (r_20.2 == 0)) && (r_21.2 == 0)) && (r_13.1 == 5)) && (r_15.1.Lo == r_22.Lo && r_15.1.Hi == r_22.Hi)) && (r_17.1 == 5)) && (r_17.2.1 == (-1))) with hb | hb
   ·have hf := he.h0
    replace hf := hf.more he 46 rfl (onP e35)
    replace hf := castB hb hf
    replace hf := hf.more he 49 rfl (onP e38)
    replace hf := castCT hb hf
    refine stP hf rfl rfl rfl (pPt rfl rfl) fun a hf => ?_
    replace hf := castV (v' := .bool ((((((((((r_13.2 == 0) && (r_15.2 == 0)) && (r_17.2.2 == 0)) && (r_20.2 == 0)) && (r_21.2 == 0)) && (r_13.1 == 5)) && (r_15.1.Lo == r_22.Lo && r_15.1.Hi == r_22.Hi)) && (r_17.1 == 5)) && (r_17.2.1 == (-1))) && r_23)) (congrArg Value.bool (andT hb)) hf
    refine cNil ?_
    refine xThenN ?_
    intro ds u hau
    refine ⟨θ,he.put0 hi hau hf rfl 50 rfl rfl,?_⟩
    exact hc
   ·have hf := he.h0
    replace hf := hf.more he 46 rfl (onP e35)
    replace hf := castB hb hf
    replace hf := hf.more he 49 rfl (onP e38)
    replace hf := castCF hb hf
    refine stP hf rfl rfl rfl (pPf rfl rfl) fun a hf => ?_
    replace hf := castV (v' := .bool ((((((((((r_13.2 == 0) && (r_15.2 == 0)) && (r_17.2.2 == 0)) && (r_20.2 == 0)) && (r_21.2 == 0)) && (r_13.1 == 5)) && (r_15.1.Lo == r_22.Lo && r_15.1.Hi == r_22.Hi)) && (r_17.1 == 5)) && (r_17.2.1 == (-1))) && r_23)) (congrArg Value.bool (andF hb)) hf
    refine cNil ?_
    refine xThenN ?_
    intro ds u hau
    refine ⟨θ,he.put0 hi hau hf rfl 50 rfl rfl,?_⟩
    exact hc
  ·intro E θ a w hD hi hp he hc
   have e39 := hp.of (k := 39) rfl
   have hf := he.h0
   replace hf := hf.more he 50 rfl (onP e39)
   refine stP hf rfl rfl rfl (pM rfl) fun a hf => cNil ?_
   refine xThenN ?_
   intro ds u hau
   refine ⟨θ,he.put0 hi hau hf rfl 51 rfl rfl,?_⟩
   exact hc
  ·intro E θ a w hD hi hp he hc
   have e40 := hp.of (k := 40) rfl
   rcases boolEq ((((((((((r_13.2 == 0) && (r_15.2 == 0)) && (r_17.2.2 == 0)) && (r_20.2 == 0)) && (r_21.2 == 0)) && (r_13.1 == 5)) && (r_15.1.Lo == r_22.Lo && r_15.1.Hi == r_22.Hi)) && (r_17.1 == 5)) && (r_17.2.1 == (-1))) && r_23) with hb | hb
   ·have hf := he.h0
    replace hf := hf.more he 10 rfl onT
    replace hf := hf.more he 51 rfl (onP e40)
    replace hf := castB hb hf
    refine stP hf rfl rfl rfl (pM rfl) fun a hf => ?_
    replace hf := castI (u := undef) hb hf
    refine cNil ?_
    refine xThenN ?_
    intro ds u hau
    refine ⟨θ,he.put0 hi hau hf rfl 52 rfl rfl,?_⟩
    exact hc
   ·have hf := he.h0
    replace hf := hf.more he 10 rfl onT
    replace hf := hf.more he 51 rfl (onP e40)
    replace hf := castB hb hf
    refine stS hf rfl rfl rfl fun a hf => ?_
    replace hf := castJ (u := i6 r_21.1) hb hf
    refine cNil ?_
    refine xThenN ?_
    intro ds u hau
    refine ⟨θ,he.put0 hi hau hf rfl 52 rfl rfl,?_⟩
    exact hc
  ·intro E θ a w hD hi hp he hc
   have e40 := hp.of (k := 40) rfl
   have e41 := hp.of (k := 41) rfl
   rcases boolEq ((((((((((r_13.2 == 0) && (r_15.2 == 0)) && (r_17.2.2 == 0)) && (r_20.2 == 0)) && (r_21.2 == 0)) && (r_13.1 == 5)) && (r_15.1.Lo == r_22.Lo && r_15.1.Hi == r_22.Hi)) && (r_17.1 == 5)) && (r_17.2.1 == (-1))) && r_23) with hb | hb
   ·have hf := he.h0
    replace hf := hf.more he 51 rfl (onP e40)
    replace hf := castB hb hf
    replace hf := hf.more he 52 rfl (onP e41)
    replace hf := castCT hb hf
    refine stP hf rfl rfl rfl (pEq rfl rfl) fun a hf => ?_
    replace hf := castI (u := undef) hb hf
    refine cNil ?_
    refine xThenN ?_
    intro ds u hau
    refine ⟨θ,he.put0 hi hau hf rfl 53 rfl rfl,?_⟩
    exact hc
   ·have hf := he.h0
    replace hf := hf.more he 51 rfl (onP e40)
    replace hf := castB hb hf
    replace hf := hf.more he 52 rfl (onP e41)
    replace hf := castCF hb hf
    refine stS hf rfl rfl rfl fun a hf => ?_
    replace hf := castJ (u := .bool (r_21.1 == 4815)) hb hf
    refine cNil ?_
    refine xThenN ?_
    intro ds u hau
    refine ⟨θ,he.put0 hi hau hf rfl 53 rfl rfl,?_⟩
    exact hc
  ·intro E θ a w hD hi hp he hc
   have e40 := hp.of (k := 40) rfl
   have e42 := hp.of (k := 42) rfl
   rcases boolEq ((((((((((r_13.2 == 0) && (r_15.2 == 0)) && (r_17.2.2 == 0)) && (r_20.2 == 0)) && (r_21.2 == 0)) && (r_13.1 == 5)) && (r_15.1.Lo == r_22.Lo && r_15.1.Hi == r_22.Hi)) && (r_17.1 == 5)) && (r_17.2.1 == (-1))) && r_23) with hb | hb
   ·have hf := he.h0
    replace hf := hf.more he 51 rfl (onP e40)
    replace hf := castB hb hf
    replace hf := hf.more he 53 rfl (onP e42)
    replace hf := castCT hb hf
    refine stP hf rfl rfl rfl (pPt rfl rfl) fun a hf => ?_
    replace hf := castV (v' := .bool (((((((((((r_13.2 == 0) && (r_15.2 == 0)) && (r_17.2.2 == 0)) && (r_20.2 == 0)) && (r_21.2 == 0)) && (r_13.1 == 5)) && (r_15.1.Lo == r_22.Lo && r_15.1.Hi == r_22.Hi)) && (r_17.1 == 5)) && (r_17.2.1 == (-1))) && r_23) && (r_21.1 == 4815))) (congrArg Value.bool (andT hb)) hf
    refine cNil ?_
    refine xThenN ?_
    intro ds u hau
    refine ⟨θ,he.put0 hi hau hf rfl 54 rfl rfl,?_⟩
    exact hc
   ·have hf := he.h0
    replace hf := hf.more he 51 rfl (onP e40)
    replace hf := castB hb hf
    replace hf := hf.more he 53 rfl (onP e42)
    replace hf := castCF hb hf
    refine stP hf rfl rfl rfl (pPf rfl rfl) fun a hf => ?_
    replace hf := castV (v' := .bool (((((((((((r_13.2 == 0) && (r_15.2 == 0)) && (r_17.2.2 == 0)) && (r_20.2 == 0)) && (r_21.2 == 0)) && (r_13.1 == 5)) && (r_15.1.Lo == r_22.Lo && r_15.1.Hi == r_22.Hi)) && (r_17.1 == 5)) && (r_17.2.1 == (-1))) && r_23) && (r_21.1 == 4815))) (congrArg Value.bool (andF hb)) hf
    refine cNil ?_
    refine xThenN ?_
    intro ds u hau
    refine ⟨θ,he.put0 hi hau hf rfl 54 rfl rfl,?_⟩
    exact hc
  ·intro E θ a w hD hi hp he hc
   have e43 := hp.of (k := 43) rfl
   have hf := he.h0
   replace hf := hf.more he 54 rfl (onP e43)
   refine stP hf rfl rfl rfl (pA rfl) fun a hf => cNil ?_
   refine xThenN ?_
   intro ds u hau
   refine ⟨θ,he.put0 hi hau hf rfl 55 rfl rfl,?_⟩
   exact hc
  ·intro E θ a w hall he hc
   have hf := he.h0
   have e37 := hall 37 rfl
   have e44 := hall 44 rfl
   replace hf := hf.more he 55 rfl (onP e44)
   try dsimp only at hc
   rw [e37] at hc
   replace hc := hc.drop k0
   exact ⟨hf.kp rfl,hc⟩
  rintro a w ⟨hf,hc⟩
  refine h17 _ _ ?_
  refine wp_ret ?_
  obtain rfl := sj hF
  replace hc := hc.drop k5
  replace hc := hc.drop k4
  replace hc := hc.drop k3
  replace hc := hc.drop k2
  replace hc := hc.drop k1
  replace hc := hc.drop k0
  exact fnOut1 (by simp) rfl Tryz.results15 hf hc (show look _ 0 = _ from rfl) ⟨rfl,hc⟩

def law11_CrewTurned_b33 (N : Nat) (claims : List Int) (r_3 : (List Int) × Int) (x_11 : Int) (x_12 : Int) : Option (Step (Int) (Step (Int) (Bool))) :=
 cond (decide (x_12 < ((claims.length : Nat) : Int)))
 (Option.bind (getI claims x_11) fun e_1 =>
 Option.bind (getI claims x_12) fun e_2 =>
 Option.bind (cond (decide (e_2 < e_1)) (Option.bind (getI r_3.1 x_11) fun e_3 =>
 Option.bind (getI r_3.1 x_12) fun e_4 =>
 some (decide (e_3 < e_4))) (some false)) fun t_3 =>
 cond t_3
 (some (.ret (.ret false)))
 (some (.cont (W (x_12 + 1)))))
 (some (.brk x_12))
def law11_CrewTurned_b25 (N : Nat) (claims : List Int) (r_3 : (List Int) × Int) (x_11 : Int) : Option (Step (Int) (Bool)) :=
 cond (decide (x_11 < ((claims.length : Nat) : Int)))
 (Option.bind (loopO (fun s33 => law11_CrewTurned_b33 N claims r_3 x_11 s33) N 0) fun x33 =>
 exK x33 (fun s33 => some (.cont (W (x_11 + 1)))) some)
 (some (.brk x_11))
def law11_CrewTurned_b18 (N : Nat) (orders : List Int) (more : Int) (claims : List Int) (r_3 : (List Int) × Int) (x_7 : Int) (x_8 : Int) (x_9 : Int) (x_10 : List crew_Station) : Option (Step (Int × Int × Int × (List crew_Station)) (Bool)) :=
 cond (decide (x_7 < ((r_3.1.length : Nat) : Int)))
 (Option.bind (getI r_3.1 x_7) fun e_5 =>
 Option.bind (kit_Mixed N (⟨orders,x_8,x_9⟩ : kit_Stream) (W (((claims.length : Nat) : Int) + ((W (more)).tmod (W ((W (12 - ((claims.length : Nat) : Int))) + 1)))))) fun r_9 =>
 Option.bind (room ((x_10 ++ [(⟨e_5,r_9.1⟩ : crew_Station)])).length) fun un_1 =>
 some (.cont (W (x_7 + 1),r_9.2.1,r_9.2.2,(x_10 ++ [(⟨e_5,r_9.1⟩ : crew_Station)]))))
 (some (.brk (x_7,x_8,x_9,x_10)))
def law11_CrewTurned_b15 (N : Nat) (orders : List Int) (more : Int) (claims : List Int) (x_3 : Int) (x_4 : Int) (x_5 : Int) (x_6 : List (List Int)) : Option (Step (Int × Int × Int × (List (List Int))) (Bool)) :=
 cond (decide (x_3 < (W (((claims.length : Nat) : Int) + ((W (more)).tmod (W ((W (12 - ((claims.length : Nat) : Int))) + 1)))))))
 (Option.bind (kit_Mixed N (⟨orders,x_4,x_5⟩ : kit_Stream) ((claims.length : Nat) : Int)) fun r_10 =>
 Option.bind (room ((x_6 ++ [r_10.1])).length) fun un_2 =>
 some (.cont (W (x_3 + 1),r_10.2.1,r_10.2.2,(x_6 ++ [r_10.1]))))
 (some (.brk (x_3,x_4,x_5,x_6)))
def law11_CrewTurned_b6 (N : Nat) (numbers : List Int) (r_2 : Int × Int × Int) (claims : List Int) (x : Int) (x_1 : Int) (x_2 : Int) : Option (Step ((List Int) × Int × Int × Int) (Bool)) :=
 cond (decide (x < r_2.1))
 (Option.bind (kit_Stream_Within N (⟨numbers,x_1,x_2⟩ : kit_Stream) 1 90) fun r_11 =>
 Option.bind (room ((claims ++ [r_11.1])).length) fun un_3 =>
 some (.cont ((claims ++ [r_11.1]),W (x + 1),r_11.2.1,r_11.2.2)))
 (some (.brk (claims,x,x_1,x_2)))
def law11_CrewTurned (N : Nat) (numbers : List Int) (orders : List Int) (more : Int) : Option (Bool) :=
 Option.bind (kit_New N numbers) fun r =>
 Option.bind (kit_New N orders) fun r_1 =>
 Option.bind (kit_Stream_Within N (⟨numbers,r.1,r.2⟩ : kit_Stream) 1 5) fun r_2 =>
 Option.bind (loopO (fun s6 => law11_CrewTurned_b6 N numbers r_2 s6.1 s6.2.1 s6.2.2.1 s6.2.2.2) N (([] : List Int),0,r_2.2.1,r_2.2.2)) fun x6 =>
 exK x6 (fun s6 => Option.bind (nz (W ((W (12 - ((s6.1.length : Nat) : Int))) + 1))) fun un =>
 Option.bind (share_Turns N s6.1 (W (((s6.1.length : Nat) : Int) + ((W (more)).tmod (W ((W (12 - ((s6.1.length : Nat) : Int))) + 1))))) 2) fun r_3 =>
 cond ((r_3.2 != 0) || (((r_3.1.length : Nat) : Int) != ((s6.1.length : Nat) : Int)))
 (some false)
 (Option.bind (loopO (fun s15 => law11_CrewTurned_b15 N orders more s6.1 s15.1 s15.2.1 s15.2.2.1 s15.2.2.2) N (0,r_1.1,r_1.2,([] : List (List Int)))) fun x15 =>
 exK x15 (fun s15 => Option.bind (loopO (fun s18 => law11_CrewTurned_b18 N orders more s6.1 r_3 s18.1 s18.2.1 s18.2.2.1 s18.2.2.2) N (0,s15.2.1,s15.2.2.1,([] : List crew_Station))) fun x18 =>
 exK x18 (fun s18 => Option.bind (crew_Assign N (⟨s15.2.2.2,s18.2.2.2⟩ : crew_Roster)) fun r_4 =>
 Option.bind (cond ((r_4.2 != 0) || (((r_4.1.length : Nat) : Int) != (W (((s6.1.length : Nat) : Int) + ((W (more)).tmod (W ((W (12 - ((s6.1.length : Nat) : Int))) + 1))))))) (some true) (Option.bind (slices_Contains_Lint_int N r_4.1 (-1)) fun r_5 =>
 some r_5)) fun t_1 =>
 Option.bind (cond t_1 (some true) (Option.bind (law11_has N (⟨s15.2.2.2,s18.2.2.2⟩ : crew_Roster) r_4.1) fun r_6 =>
 Option.bind (kit_Same_int N r_6 r_3.1) fun r_7 =>
 some (!r_7))) fun t_2 =>
 cond t_2
 (some false)
 (Option.bind (loopO (fun s25 => law11_CrewTurned_b25 N s6.1 r_3 s25) N 0) fun x25 =>
 exK x25 (fun s25 => Option.bind (law11_awake N) fun r_8 =>
 some r_8) some)) some) some)) some
theorem law11_CrewTurned_ok {N : Nat} {G : Pers} {Lf : List Ent} {w : World} (numbers : List Int) (orders : List Int) (more : Int) {numbers_p : Option Addr} {numbers_c : Nat} {orders_p : Option Addr} {orders_c : Nat} (h_numbers : Rd G 1 numbers_p numbers_c (numbers.map encI_u8)) (h_orders : Rd G 1 orders_p orders_c (orders.map encI_u8)) (hc : Ctx G (Lf) w) {res : Bool} (hF : law11_CrewTurned N numbers orders more = some res) : Calls Tryz.prog 12 #[.slice numbers_p numbers.length numbers_c,.slice orders_p orders.length orders_c,.int .u8 more] w (fun e w => e = .returned (.bool res) ∧ Ctx G (Lf) w) := by
 unfold law11_CrewTurned at hF
 refine fnIn (args := [.slice numbers_p numbers.length numbers_c,.slice orders_p orders.length orders_c,.int .u8 more]) Tryz.func12 rfl Tryz.ntmps12 rfl fun a hf => wp_seq_k fun K1 h1 => cReg ?_
 refine stP hf rfl rfl rfl (pA rfl) fun a hf => cNil ?_
 refine h1 _ _ ?_
 refine wp_seq_k fun K2 h2 => cReg ?_
 refine stP hf rfl rfl rfl (pM rfl) fun a hf => ?_
 obtain ⟨r,hr,hF⟩ := bnd_some hF
 refine stC (vs := [.slice numbers_p numbers.length numbers_c]) (caps := []) hf rfl rfl rfl en_42 rfl rfl rfl rfl (kit_New_ok numbers h_numbers hc hr) ?_
 rintro _ w ⟨b_1,rfl,hc⟩
 refine ⟨_,rfl,fun a hf => ?_⟩
 refine stP hf rfl rfl rfl (pM rfl) fun a hf => ?_
 obtain ⟨r_1,hr_1,hF⟩ := bnd_some hF
 refine stC (vs := [.slice orders_p orders.length orders_c]) (caps := []) hf rfl rfl rfl en_42 rfl rfl rfl rfl (kit_New_ok orders h_orders hc hr_1) ?_
 rintro _ w ⟨b_2,rfl,hc⟩
 refine ⟨_,rfl,fun a hf => ?_⟩
 refine stP hf rfl rfl rfl (pA rfl) fun a hf => stP hf rfl rfl rfl (pA rfl) fun a hf => cNil ?_
 refine h2 _ _ ?_
 refine wp_seq_k fun K3 h3 => cReg ?_
 refine stP hf rfl rfl rfl (pA rfl) fun a hf => cNil ?_
 refine h3 _ _ ?_
 refine wp_seq_k fun K4 h4 => wp_seq_k fun K5 h5 => cReg ?_
 refine stP hf rfl rfl rfl (pM rfl) fun a hf => ?_
 obtain ⟨r_2,hr_2,hF⟩ := bnd_some hF
 refine stC (vs := [pq b_1,i6 1,i6 5]) (caps := []) hf rfl rfl rfl en_50 rfl rfl rfl rfl (kit_Stream_Within_ok (⟨numbers,r.1,r.2⟩ : kit_Stream) 1 5 h_numbers (hc.pick k1) hr_2) ?_
 rintro _ w ⟨rfl,hc⟩
 refine ⟨_,rfl,fun a hf => ?_⟩
 refine stP hf rfl rfl rfl (pM rfl) fun a hf => cNil ?_
 refine h5 _ _ ?_
 refine wp_block ?_
 obtain ⟨x6,hx6,hF⟩ := bnd_some hF
 let S6 : ((List Int) × Int × Int × Int) → Act → World → Prop := (fun (zz : (List Int) × Int × Int × Int) a w => ∃ (p_1 : Option Addr) (c_1 : Nat),Has 146 a [(2,.int .u8 more),(7,pq b_1),(8,pq b_2),(9,.slice p_1 zz.1.length c_1),(24,i6 r_2.1),(25,i6 zz.2.1)] ∧ Ctx G (.row p_1 c_1 (zz.1.map encI_i64) 3 1::.box b_1 [.slice numbers_p numbers.length numbers_c,i6 zz.2.2.1,i6 zz.2.2.2] 165::.box b_2 [.slice orders_p orders.length orders_c,i6 r_1.1,i6 r_1.2] 165::Lf) w)
 have hr6 : ∀ (zz : (List Int) × Int × Int × Int) a w,x6 = .go zz → S6 zz a w → K4 a w := by
  rintro ⟨claims,x,x_1,x_2⟩ a w rfl ⟨p_1,c_1,hf,hc⟩
  replace hF := exK_go hF
  refine h4 _ _ ?_
  refine wp_seq_k fun K7 h7 => cReg ?_
  refine stP hf rfl rfl rfl (pM rfl) fun a hf => stP hf rfl rfl rfl (pLenS Tryz.underlying25 rfl) fun a hf => stP hf rfl rfl rfl (pM rfl) fun a hf => stP hf rfl rfl rfl (pCv Tryz.underlying5 Tryz.underlying3 rfl) fun a hf => stP hf rfl rfl rfl (pM rfl) fun a hf => stP hf rfl rfl rfl (pLenS Tryz.underlying25 rfl) fun a hf => stP hf rfl rfl rfl (pSub rfl rfl) fun a hf => stP hf rfl rfl rfl (pAdd rfl rfl) fun a hf => ?_
  obtain ⟨un,hun,hF⟩ := bnd_some hF
  refine stP hf rfl rfl rfl (pRem rfl rfl (nz_spec hun)) fun a hf => stP hf rfl rfl rfl (pAdd rfl rfl) fun a hf => stP hf rfl rfl rfl (pA rfl) fun a hf => cNil ?_
  refine h7 _ _ ?_
  refine wp_seq_k fun K8 h8 => cReg ?_
  refine stP hf rfl rfl rfl (pM rfl) fun a hf => stP hf rfl rfl rfl (pM rfl) fun a hf => ?_
  obtain ⟨r_3,hr_3,hF⟩ := bnd_some hF
  obtain ⟨G1,hle1,hrd1,hc,hth1⟩ := lend hc k0
  refine stC (vs := [.slice p_1 claims.length c_1,i6 (W (((claims.length : Nat) : Int) + ((W (more)).tmod (W ((W (12 - ((claims.length : Nat) : Int))) + 1))))),i6 2]) (caps := []) hf rfl rfl rfl en_70 rfl rfl rfl rfl (share_Turns_ok claims (W (((claims.length : Nat) : Int) + ((W (more)).tmod (W ((W (12 - ((claims.length : Nat) : Int))) + 1))))) 2 hrd1 hc hr_3) ?_
  rintro _ w ⟨p_2,c_2,rfl,hc⟩
  refine ⟨_,rfl,fun a hf => ?_⟩
  replace hc := hth1 _ _ hc
  refine stP hf rfl rfl rfl (pM rfl) fun a hf => stP hf rfl rfl rfl (pX rfl rfl) fun a hf => stP hf rfl rfl rfl (pX rfl rfl) fun a hf => stP hf rfl rfl rfl (pA rfl) fun a hf => stP hf rfl rfl rfl (pA rfl) fun a hf => cNil ?_
  refine h8 _ _ ?_
  refine wp_seq_k fun K9 h9 => wp_seq_k fun K10 h10 => cReg ?_
  refine stP hf rfl rfl rfl (pM rfl) fun a hf => stP hf rfl rfl rfl (pNe rfl rfl) fun a hf => stP hf rfl rfl rfl (pM rfl) fun a hf => stCut 6 (fun a w => Has 146 a [(8,pq b_2),(9,.slice p_1 claims.length c_1),(10,i6 (W (((claims.length : Nat) : Int) + ((W (more)).tmod (W ((W (12 - ((claims.length : Nat) : Int))) + 1)))))),(11,.slice p_2 r_3.1.length c_2),(12,i6 r_3.2),(49,i6 r_3.2),(50,.bool (r_3.2 != 0)),(51,.bool (r_3.2 != 0)),(57,.bool ((r_3.2 != 0) || (((r_3.1.length : Nat) : Int) != ((claims.length : Nat) : Int))))] ∧ Ctx G (.row p_1 c_1 (claims.map encI_i64) 3 1::.row p_2 c_2 (r_3.1.map encI_i64) 3 1::.box b_1 [.slice numbers_p numbers.length numbers_c,i6 x_1,i6 x_2] 165::.box b_2 [.slice orders_p orders.length orders_c,i6 r_1.1,i6 r_1.2] 165::Lf) w) ?_ ?_
  ·cases hb : (r_3.2 != 0)
   ·rw [hb] at hf
    refine stP hf rfl rfl rfl (pM rfl) fun a hf => stP hf rfl rfl rfl (pLenS Tryz.underlying25 rfl) fun a hf => stP hf rfl rfl rfl (pM rfl) fun a hf => stP hf rfl rfl rfl (pLenS Tryz.underlying25 rfl) fun a hf => stP hf rfl rfl rfl (pNe rfl rfl) fun a hf => stP hf rfl rfl rfl (pPf rfl rfl) fun a hf => cNil ⟨hf.kp rfl,hc⟩
   ·rw [hb] at hf
    refine stS hf rfl rfl rfl fun a hf => stS hf rfl rfl rfl fun a hf => stS hf rfl rfl rfl fun a hf => stS hf rfl rfl rfl fun a hf => stS hf rfl rfl rfl fun a hf => stP hf rfl rfl rfl (pPt rfl rfl) fun a hf => cNil ⟨hf.kp rfl,hc⟩
  intro a w ⟨hf,hc⟩
  refine cNil ?_
  refine h10 _ _ ?_
  refine cCond (b := ((r_3.2 != 0) || (((r_3.1.length : Nat) : Int) != ((claims.length : Nat) : Int)))) hf rfl (fun hb => ?_) (fun hb => ?_)
  ·replace hF := condT hb hF
   clear hb
   refine wp_seq_k fun K11 h11 => cReg ?_
   refine stP hf rfl rfl rfl (pA rfl) fun a hf => cNil ?_
   refine h11 _ _ ?_
   refine wp_ret ?_
   refine xThenR ?_
   obtain rfl := sj hF
   replace hc := hc.drop k3
   replace hc := hc.drop k2
   replace hc := hc.drop k1
   replace hc := hc.drop k0
   exact fnOut1 (by simp) rfl Tryz.results12 hf hc (show look _ 6 = _ from rfl) ⟨rfl,hc⟩
  ·replace hF := condF hb hF
   clear hb
   refine wp_skip ?_
   refine h9 _ _ ?_
   refine wp_seq_k fun K12 h12 => cReg ?_
   refine stAl (cs := [.slice none 0 0,.slice none 0 0]) hf hc rfl rfl zr_78 rfl fun b_3 a w hf hc => cNil ?_
   refine h12 _ _ ?_
   refine wp_seq_k fun K13 h13 => wp_seq_k fun K14 h14 => cReg ?_
   refine stP hf rfl rfl rfl (pM rfl) fun a hf => stP hf rfl rfl rfl (pM rfl) fun a hf => cNil ?_
   refine h14 _ _ ?_
   refine wp_block ?_
   obtain ⟨x15,hx15,hF⟩ := bnd_some hF
   let S15 : (Int × Int × Int × (List (List Int))) → Act → World → Prop := (fun (zz : Int × Int × Int × (List (List Int))) a w => ∃ (p_3 : Option Addr) (tcq : TabH),Has 146 a [(8,pq b_2),(9,.slice p_1 claims.length c_1),(10,i6 (W (((claims.length : Nat) : Int) + ((W (more)).tmod (W ((W (12 - ((claims.length : Nat) : Int))) + 1)))))),(11,.slice p_2 r_3.1.length c_2),(13,pq b_3),(58,i6 (W (((claims.length : Nat) : Int) + ((W (more)).tmod (W ((W (12 - ((claims.length : Nat) : Int))) + 1)))))),(59,i6 zz.1)] ∧ Ctx G (.row p_3 tcq.1 ((tabR tcq.2 zz.2.2.2).map (Kd.v kd_25)) 25 1::tabI kd_25 (tabR tcq.2 zz.2.2.2)::.box b_3 [.slice p_3 zz.2.2.2.length tcq.1,.slice none 0 0] 78::.row p_1 c_1 (claims.map encI_i64) 3 1::.row p_2 c_2 (r_3.1.map encI_i64) 3 1::.box b_2 [.slice orders_p orders.length orders_c,i6 zz.2.1,i6 zz.2.2.1] 165::Lf) w)
   have hr15 : ∀ (zz : Int × Int × Int × (List (List Int))) a w,x15 = .go zz → S15 zz a w → K13 a w := by
    rintro ⟨x_3,x_4,x_5,x_6⟩ a w rfl ⟨p_3,tcq,hf,hc⟩
    replace hF := exK_go hF
    refine h13 _ _ ?_
    refine wp_seq_k fun K16 h16 => wp_seq_k fun K17 h17 => cReg ?_
    refine stP hf rfl rfl rfl (pM rfl) fun a hf => stP hf rfl rfl rfl (pLenS Tryz.underlying25 rfl) fun a hf => stP hf rfl rfl rfl (pM rfl) fun a hf => cNil ?_
    refine h17 _ _ ?_
    refine wp_block ?_
    obtain ⟨x18,hx18,hF⟩ := bnd_some hF
    let S18 : (Int × Int × Int × (List crew_Station)) → Act → World → Prop := (fun (zz : Int × Int × Int × (List crew_Station)) a w => ∃ (p_4 : Option Addr) (c_3 : Nat) (p_5 : Option Addr) (tcq_1 : TabH),Has 146 a [(8,pq b_2),(9,.slice p_1 claims.length c_1),(10,i6 (W (((claims.length : Nat) : Int) + ((W (more)).tmod (W ((W (12 - ((claims.length : Nat) : Int))) + 1)))))),(11,.slice p_4 r_3.1.length c_3),(13,pq b_3),(71,.slice p_4 r_3.1.length c_3),(72,i6 ((r_3.1.length : Nat) : Int)),(73,i6 zz.1)] ∧ Ctx G (.row p_5 tcq_1.1 ((tabR tcq_1.2 zz.2.2.2).map (Kd.v kd_101)) 101 2::tabI kd_101 (tabR tcq_1.2 zz.2.2.2)::.row p_3 tcq.1 ((tabR tcq.2 x_6).map (Kd.v kd_25)) 25 1::tabI kd_25 (tabR tcq.2 x_6)::.box b_3 [.slice p_3 x_6.length tcq.1,.slice p_5 zz.2.2.2.length tcq_1.1] 78::.row p_1 c_1 (claims.map encI_i64) 3 1::.row p_4 c_3 (r_3.1.map encI_i64) 3 1::.box b_2 [.slice orders_p orders.length orders_c,i6 zz.2.1,i6 zz.2.2.1] 165::Lf) w)
    have hr18 : ∀ (zz : Int × Int × Int × (List crew_Station)) a w,x18 = .go zz → S18 zz a w → K16 a w := by
     rintro ⟨x_7,x_8,x_9,x_10⟩ a w rfl ⟨p_4,c_3,p_5,tcq_1,hf,hc⟩
     replace hF := exK_go hF
     refine h16 _ _ ?_
     refine wp_seq_k fun K19 h19 => cReg ?_
     refine stE hf hc rfl rfl rfl (eLdN (vs := [.slice p_3 x_6.length tcq.1,.slice p_5 x_10.length tcq_1.1]) ag_78 rfl rfl (cells_box (n := 2) m4 rfl)) fun a w hf hc => ?_
     obtain ⟨r_4,hr_4,hF⟩ := bnd_some hF
     obtain ⟨G1,hle1,hrd1,hc,hth1⟩ := lendT kdo_25 hc k2 k2
     obtain ⟨G2,hle2,hrd2,hc,hth2⟩ := lendT kdo_101 hc k0 k0
     refine stC (vs := [.agg #[.slice p_3 x_6.length tcq.1,.slice p_5 x_10.length tcq_1.1]]) (caps := []) hf rfl rfl rfl en_43 rfl rfl rfl rfl (crew_Assign_ok (⟨x_6,x_10⟩ : crew_Roster) (hrd1.mono hle2) hrd2 hc hr_4) ?_
     rintro _ w ⟨p_6,c_4,rfl,hc⟩
     refine ⟨_,rfl,fun a hf => ?_⟩
     replace hc := hth2 _ _ hc
     replace hc := hth1 _ _ hc
     refine stP hf rfl rfl rfl (pM rfl) fun a hf => stP hf rfl rfl rfl (pX rfl rfl) fun a hf => stP hf rfl rfl rfl (pX rfl rfl) fun a hf => stP hf rfl rfl rfl (pA rfl) fun a hf => stP hf rfl rfl rfl (pA rfl) fun a hf => cNil ?_
     replace hc := hc.drop k8
     refine h19 _ _ ?_
     refine wp_seq_k fun K20 h20 => wp_seq_k fun K21 h21 => cReg ?_
     refine stP hf rfl rfl rfl (pM rfl) fun a hf => stP hf rfl rfl rfl (pNe rfl rfl) fun a hf => stP hf rfl rfl rfl (pM rfl) fun a hf => stCut 5 (fun a w => Has 146 a [(9,.slice p_1 claims.length c_1),(10,i6 (W (((claims.length : Nat) : Int) + ((W (more)).tmod (W ((W (12 - ((claims.length : Nat) : Int))) + 1)))))),(11,.slice p_4 r_3.1.length c_3),(13,pq b_3),(16,.slice p_6 r_4.1.length c_4),(12,i6 r_4.2),(93,i6 r_4.2),(94,.bool (r_4.2 != 0)),(95,.bool (r_4.2 != 0)),(100,.bool ((r_4.2 != 0) || (((r_4.1.length : Nat) : Int) != (W (((claims.length : Nat) : Int) + ((W (more)).tmod (W ((W (12 - ((claims.length : Nat) : Int))) + 1))))))))] ∧ Ctx G (.row p_3 tcq.1 ((tabR tcq.2 x_6).map (Kd.v kd_25)) 25 1::tabI kd_25 (tabR tcq.2 x_6)::.row p_5 tcq_1.1 ((tabR tcq_1.2 x_10).map (Kd.v kd_101)) 101 2::tabI kd_101 (tabR tcq_1.2 x_10)::.row p_6 c_4 (r_4.1.map encI_i64) 3 1::.box b_3 [.slice p_3 x_6.length tcq.1,.slice p_5 x_10.length tcq_1.1] 78::.row p_1 c_1 (claims.map encI_i64) 3 1::.row p_4 c_3 (r_3.1.map encI_i64) 3 1::Lf) w) ?_ ?_
     ·cases hb : (r_4.2 != 0)
      ·rw [hb] at hf
       refine stP hf rfl rfl rfl (pM rfl) fun a hf => stP hf rfl rfl rfl (pLenS Tryz.underlying25 rfl) fun a hf => stP hf rfl rfl rfl (pM rfl) fun a hf => stP hf rfl rfl rfl (pNe rfl rfl) fun a hf => stP hf rfl rfl rfl (pPf rfl rfl) fun a hf => cNil ⟨hf.kp rfl,hc⟩
      ·rw [hb] at hf
       refine stS hf rfl rfl rfl fun a hf => stS hf rfl rfl rfl fun a hf => stS hf rfl rfl rfl fun a hf => stS hf rfl rfl rfl fun a hf => stP hf rfl rfl rfl (pPt rfl rfl) fun a hf => cNil ⟨hf.kp rfl,hc⟩
     intro a w ⟨hf,hc⟩
     refine stP hf rfl rfl rfl (pM rfl) fun a hf => ?_
     obtain ⟨t_1,ht_1,hF⟩ := bnd_some hF
     refine stCut 3 (fun a w => Has 146 a [(9,.slice p_1 claims.length c_1),(10,i6 (W (((claims.length : Nat) : Int) + ((W (more)).tmod (W ((W (12 - ((claims.length : Nat) : Int))) + 1)))))),(11,.slice p_4 r_3.1.length c_3),(13,pq b_3),(16,.slice p_6 r_4.1.length c_4),(12,i6 r_4.2),(93,i6 r_4.2),(94,.bool (r_4.2 != 0)),(95,.bool (r_4.2 != 0)),(100,.bool ((r_4.2 != 0) || (((r_4.1.length : Nat) : Int) != (W (((claims.length : Nat) : Int) + ((W (more)).tmod (W ((W (12 - ((claims.length : Nat) : Int))) + 1)))))))),(101,.bool ((r_4.2 != 0) || (((r_4.1.length : Nat) : Int) != (W (((claims.length : Nat) : Int) + ((W (more)).tmod (W ((W (12 - ((claims.length : Nat) : Int))) + 1)))))))),(104,.bool t_1)] ∧ Ctx G (.row p_3 tcq.1 ((tabR tcq.2 x_6).map (Kd.v kd_25)) 25 1::tabI kd_25 (tabR tcq.2 x_6)::.row p_5 tcq_1.1 ((tabR tcq_1.2 x_10).map (Kd.v kd_101)) 101 2::tabI kd_101 (tabR tcq_1.2 x_10)::.row p_6 c_4 (r_4.1.map encI_i64) 3 1::.box b_3 [.slice p_3 x_6.length tcq.1,.slice p_5 x_10.length tcq_1.1] 78::.row p_1 c_1 (claims.map encI_i64) 3 1::.row p_4 c_3 (r_3.1.map encI_i64) 3 1::Lf) w) ?_ ?_
     ·cases hb : ((r_4.2 != 0) || (((r_4.1.length : Nat) : Int) != (W (((claims.length : Nat) : Int) + ((W (more)).tmod (W ((W (12 - ((claims.length : Nat) : Int))) + 1)))))))
      ·rw [hb] at hf
       have hF := condF hb ht_1
       refine stP hf rfl rfl rfl (pM rfl) fun a hf => ?_
       obtain ⟨r_5,hr_5,hF⟩ := bnd_some hF
       refine stE hf hc rfl rfl rfl (eC (v := .bool r_5) (vs := [.slice p_6 r_4.1.length c_4,i6 (-1)]) (caps := []) en_72 rfl rfl rfl rfl (fun w hc => by obtain ⟨G1,hle1,hrd1,hc,hth1⟩ := lend hc k4; exact (slices_Contains_Lint_int_ok r_4.1 (-1) hrd1 hc hr_5).mono fun e w h => ⟨h.1,((hth1 _ _ h.2).unpick k4)⟩)) fun a w hf hc => stP hf rfl rfl rfl (pPf rfl rfl) fun a hf => ?_
       obtain rfl := sj hF
       exact cNil ⟨hf.kp rfl,hc⟩
      ·rw [hb] at hf
       have hF := condT hb ht_1
       obtain rfl := sj hF
       refine stS hf rfl rfl rfl fun a hf => stS hf rfl rfl rfl fun a hf => stP hf rfl rfl rfl (pPt rfl rfl) fun a hf => cNil ⟨hf.kp rfl,hc⟩
     intro a w ⟨hf,hc⟩
     refine stP hf rfl rfl rfl (pM rfl) fun a hf => ?_
     obtain ⟨t_2,ht_2,hF⟩ := bnd_some hF
     refine stCut 7 (fun a w => Has 146 a [(9,.slice p_1 claims.length c_1),(10,i6 (W (((claims.length : Nat) : Int) + ((W (more)).tmod (W ((W (12 - ((claims.length : Nat) : Int))) + 1)))))),(11,.slice p_4 r_3.1.length c_3),(13,pq b_3),(16,.slice p_6 r_4.1.length c_4),(12,i6 r_4.2),(93,i6 r_4.2),(94,.bool (r_4.2 != 0)),(95,.bool (r_4.2 != 0)),(100,.bool ((r_4.2 != 0) || (((r_4.1.length : Nat) : Int) != (W (((claims.length : Nat) : Int) + ((W (more)).tmod (W ((W (12 - ((claims.length : Nat) : Int))) + 1)))))))),(101,.bool ((r_4.2 != 0) || (((r_4.1.length : Nat) : Int) != (W (((claims.length : Nat) : Int) + ((W (more)).tmod (W ((W (12 - ((claims.length : Nat) : Int))) + 1)))))))),(104,.bool t_1),(105,.bool t_1),(112,.bool t_2)] ∧ Ctx G (.row p_3 tcq.1 ((tabR tcq.2 x_6).map (Kd.v kd_25)) 25 1::tabI kd_25 (tabR tcq.2 x_6)::.row p_5 tcq_1.1 ((tabR tcq_1.2 x_10).map (Kd.v kd_101)) 101 2::tabI kd_101 (tabR tcq_1.2 x_10)::.row p_6 c_4 (r_4.1.map encI_i64) 3 1::.box b_3 [.slice p_3 x_6.length tcq.1,.slice p_5 x_10.length tcq_1.1] 78::.row p_1 c_1 (claims.map encI_i64) 3 1::.row p_4 c_3 (r_3.1.map encI_i64) 3 1::Lf) w) ?_ ?_
     ·cases hb : t_1
      ·rw [hb] at hf
       try rw [hb] at hc
       have hF := condF hb ht_2
       refine stE hf hc rfl rfl rfl (eLdN (vs := [.slice p_3 x_6.length tcq.1,.slice p_5 x_10.length tcq_1.1]) ag_78 rfl rfl (cells_box (n := 2) m5 rfl)) fun a w hf hc => stP hf rfl rfl rfl (pM rfl) fun a hf => ?_
       obtain ⟨r_6,hr_6,hF⟩ := bnd_some hF
       obtain ⟨G1,hle1,hrd1,hc,hth1⟩ := lendT kdo_25 hc k0 k0
       obtain ⟨G2,hle2,hrd2,hc,hth2⟩ := lendT kdo_101 hc k0 k0
       obtain ⟨G3,hle3,hrd3,hc,hth3⟩ := lend hc k0
       refine stC (vs := [.agg #[.slice p_3 x_6.length tcq.1,.slice p_5 x_10.length tcq_1.1],.slice p_6 r_4.1.length c_4]) (caps := []) hf rfl rfl rfl en_47 rfl rfl rfl rfl (law11_has_ok (⟨x_6,x_10⟩ : crew_Roster) r_4.1 ((hrd1.mono hle2).mono hle3) (hrd2.mono hle3) hrd3 hc hr_6) ?_
       rintro _ w ⟨p_7,c_5,rfl,hc⟩
       refine ⟨_,rfl,fun a hf => ?_⟩
       replace hc := hth3 _ _ hc
       replace hc := hth2 _ _ hc
       replace hc := hth1 _ _ hc
       refine stP hf rfl rfl rfl (pM rfl) fun a hf => ?_
       obtain ⟨r_7,hr_7,hF⟩ := bnd_some hF
       refine stE hf hc rfl rfl rfl (eC (v := .bool r_7) (vs := [.slice p_7 r_6.length c_5,.slice p_4 r_3.1.length c_3]) (caps := []) en_29 rfl rfl rfl rfl (fun w hc => by obtain ⟨G1,hle1,hrd1,hc,hth1⟩ := lend hc k5; obtain ⟨G2,hle2,hrd2,hc,hth2⟩ := lend hc k7; exact (kit_Same_int_ok r_6 r_3.1 (hrd1.mono hle2) hrd2 hc hr_7).mono fun e w h => ⟨h.1,((hth1 _ _ ((hth2 _ _ h.2).unpick k7)).unpick k5)⟩)) fun a w hf hc => stP hf rfl rfl rfl (pNot rfl) fun a hf => stP hf rfl rfl rfl (pPf rfl rfl) fun a hf => ?_
       replace hc := hc.drop k5
       obtain rfl := sj hF
       exact cNil ⟨hf.kp rfl,hc⟩
      ·rw [hb] at hf
       try rw [hb] at hc
       have hF := condT hb ht_2
       obtain rfl := sj hF
       refine stS hf rfl rfl rfl fun a hf => stS hf rfl rfl rfl fun a hf => stS hf rfl rfl rfl fun a hf => stS hf rfl rfl rfl fun a hf => stS hf rfl rfl rfl fun a hf => stS hf rfl rfl rfl fun a hf => stP hf rfl rfl rfl (pPt rfl rfl) fun a hf => cNil ⟨hf.kp rfl,hc⟩
     intro a w ⟨hf,hc⟩
     refine cNil ?_
     refine h21 _ _ ?_
     refine cCond (b := t_2) hf rfl (fun hb => ?_) (fun hb => ?_)
     ·replace hF := condT hb hF
      clear hb
      refine wp_seq_k fun K22 h22 => cReg ?_
      refine stP hf rfl rfl rfl (pA rfl) fun a hf => cNil ?_
      refine h22 _ _ ?_
      refine wp_ret ?_
      refine xThenR ?_
      obtain rfl := sj hF
      replace hc := hc.drop k7
      replace hc := hc.drop k6
      replace hc := hc.drop k5
      replace hc := hc.drop k4
      replace hc := hc.drop k3
      replace hc := hc.drop k2
      replace hc := hc.drop k1
      replace hc := hc.drop k0
      exact fnOut1 (by simp) rfl Tryz.results12 hf hc (show look _ 6 = _ from rfl) ⟨rfl,hc⟩
     ·replace hF := condF hb hF
      clear hb
      refine wp_skip ?_
      refine h20 _ _ ?_
      refine wp_seq_k fun K23 h23 => wp_seq_k fun K24 h24 => cReg ?_
      refine stP hf rfl rfl rfl (pM rfl) fun a hf => stP hf rfl rfl rfl (pLenS Tryz.underlying25 rfl) fun a hf => stP hf rfl rfl rfl (pM rfl) fun a hf => cNil ?_
      refine h24 _ _ ?_
      refine wp_block ?_
      obtain ⟨x25,hx25,hF⟩ := bnd_some hF
      let S25 : Int → Act → World → Prop := (fun (zz : Int) a w => ∃ (p_8 : Option Addr) (c_6 : Nat),Has 146 a [(9,.slice p_8 claims.length c_6),(11,.slice p_4 r_3.1.length c_3),(114,i6 ((claims.length : Nat) : Int)),(115,i6 zz)] ∧ Ctx G (.row p_8 c_6 (claims.map encI_i64) 3 1::.row p_4 c_3 (r_3.1.map encI_i64) 3 1::Lf) w)
      have hr25 : ∀ (zz : Int) a w,x25 = .go zz → S25 zz a w → K23 a w := by
       rintro x_11 a w rfl ⟨p_8,c_6,hf,hc⟩
       replace hF := exK_go hF
       refine h23 _ _ ?_
       refine wp_seq_k fun K26 h26 => cReg ?_
       obtain ⟨r_8,hr_8,hF⟩ := bnd_some hF
       refine stE hf hc rfl rfl rfl (eC (v := .bool r_8) (vs := []) (caps := []) en_15 rfl rfl rfl rfl (fun w hc => law11_awake_ok hc hr_8)) fun a w hf hc => stP hf rfl rfl rfl (pA rfl) fun a hf => cNil ?_
       refine h26 _ _ ?_
       refine wp_ret ?_
       obtain rfl := sj hF
       replace hc := hc.drop k1
       replace hc := hc.drop k0
       exact fnOut1 (by simp) rfl Tryz.results12 hf hc (show look _ 6 = _ from rfl) ⟨rfl,hc⟩
      have ho25 : ∀ r,x25 = .out r → r = res := by
       rintro r rfl
       exact sj hF
      replace hc := hc.drop k5
      replace hc := hc.drop k4
      replace hc := hc.drop k3
      replace hc := hc.drop k2
      replace hc := hc.drop k1
      replace hc := hc.drop k0
      refine cLoop N (loopW (S := S25) (x := x25) ?_ N 0 _ _ ⟨p_1,c_1,hf.kp rfl,hc⟩ hx25)
      clear hF hf hc
      rintro x_11 st25 a w KB25 ⟨p_8,c_6,hf,hc⟩ hF hfin25 hK25
      unfold law11_CrewTurned_b25 at hF
      refine wp_seq_k fun K27 h27 => cReg ?_
      refine stP hf rfl rfl rfl (pLt rfl rfl) fun a hf => cNil ?_
      refine h27 _ _ ?_
      refine wp_seq_k fun K28 h28 => cCond (b := (decide (x_11 < ((claims.length : Nat) : Int)))) hf rfl (fun hb => ?_) (fun hb => ?_)
      ·replace hF := condT hb hF
       clear hb
       refine wp_skip ?_
       refine h28 _ _ ?_
       refine wp_seq_k fun K29 h29 => wp_block ?_
       refine wp_seq_k fun K30 h30 => cReg ?_
       refine stP hf rfl rfl rfl (pM rfl) fun a hf => stP hf rfl rfl rfl (pA rfl) fun a hf => cNil ?_
       refine h30 _ _ ?_
       refine wp_seq_k fun K31 h31 => cReg ?_
       refine stP hf rfl rfl rfl (pM rfl) fun a hf => stP hf rfl rfl rfl (pLenS Tryz.underlying25 rfl) fun a hf => stP hf rfl rfl rfl (pM rfl) fun a hf => cNil ?_
       refine h31 _ _ ?_
       refine wp_thenK fun K32 h32 => wp_block ?_
       obtain ⟨x33,hx33,hF⟩ := bnd_some hF
       let S33 : Int → Act → World → Prop := (fun (zz : Int) a w => ∃ (p_9 : Option Addr) (c_7 : Nat),Has 146 a [(9,.slice p_9 claims.length c_7),(11,.slice p_4 r_3.1.length c_3),(17,i6 x_11),(114,i6 ((claims.length : Nat) : Int)),(115,i6 x_11),(119,i6 ((claims.length : Nat) : Int)),(120,i6 zz)] ∧ Ctx G (.row p_9 c_7 (claims.map encI_i64) 3 1::.row p_4 c_3 (r_3.1.map encI_i64) 3 1::Lf) w)
       have hr33 : ∀ (zz : Int) a w,x33 = .go zz → S33 zz a w → K32 a w := by
        rintro x_12 a w rfl ⟨p_9,c_7,hf,hc⟩
        replace hF := exK_go hF
        refine h32 _ _ ?_
        refine h29 _ _ ?_
        refine cReg ?_
        refine stP hf rfl rfl rfl (pAdd rfl rfl) fun a hf => stP hf rfl rfl rfl (pM rfl) fun a hf => cNil ?_
        exact hK25 (W (x_11 + 1)) _ _ (sj hF).symm ⟨p_9,c_7,hf.kp rfl,hc⟩
       have ho33 : ∀ r,x33 = .out r → r = st25 := by
        rintro r rfl
        exact sj hF
       refine cLoop N (loopW (S := S33) (x := x33) ?_ N 0 _ _ ⟨p_8,c_6,hf.kp rfl,hc⟩ hx33)
       clear hF hf hc
       rintro x_12 st33 a w KB33 ⟨p_9,c_7,hf,hc⟩ hF hfin33 hK33
       unfold law11_CrewTurned_b33 at hF
       refine wp_seq_k fun K34 h34 => cReg ?_
       refine stP hf rfl rfl rfl (pLt rfl rfl) fun a hf => cNil ?_
       refine h34 _ _ ?_
       refine wp_seq_k fun K35 h35 => cCond (b := (decide (x_12 < ((claims.length : Nat) : Int)))) hf rfl (fun hb => ?_) (fun hb => ?_)
       ·replace hF := condT hb hF
        clear hb
        refine wp_skip ?_
        refine h35 _ _ ?_
        refine wp_seq_k fun K36 h36 => wp_block ?_
        refine wp_seq_k fun K37 h37 => cReg ?_
        refine stP hf rfl rfl rfl (pM rfl) fun a hf => stP hf rfl rfl rfl (pA rfl) fun a hf => cNil ?_
        refine h37 _ _ ?_
        refine wp_seq_k fun K38 h38 => ?_
        obtain ⟨e_1,he_1,hF⟩ := bnd_some hF
        obtain ⟨g,rfl,qa,qr⟩ := row_atm hc m0 he_1
        obtain ⟨e_2,he_2,hF⟩ := bnd_some hF
        obtain ⟨qa_1,qr_1⟩ := row_atk hc m0 he_2
        obtain ⟨t_3,ht_3,hF⟩ := bnd_some hF
        refine cQ hc follows_mx (by kernel_rfl) ?_
        refine qE hf rfl rfl rfl (Pu.ev (pM rfl)) fun a hf => qE hf rfl rfl rfl (Pu.ev (pM rfl)) fun a hf => qE hf rfl rfl rfl (Pu.ev (pIA Tryz.underlying25 sz_3 rfl rfl qa)) fun a hf => qE hf rfl rfl rfl (eLd1 sc_3 rfl (cell_row (sz := 1) (i := x_11.toNat) (j := 0) m0 qr rfl)) fun a hf => qE hf rfl rfl rfl (Pu.ev (pM rfl)) fun a hf => qE hf rfl rfl rfl (Pu.ev (pM rfl)) fun a hf => qE hf rfl rfl rfl (Pu.ev (pIA Tryz.underlying25 sz_3 rfl rfl qa_1)) fun a hf => qE hf rfl rfl rfl (eLd1 sc_3 rfl (cell_row (sz := 1) (i := x_12.toNat) (j := 0) m0 qr_1 rfl)) fun a hf => qE hf rfl rfl rfl (Pu.ev (pGt rfl rfl)) fun a hf => qE hf rfl rfl rfl (Pu.ev (pM rfl)) fun a hf => qCut 10 (fun a => Has 146 a [(9,.slice (some ⟨g,0,none⟩) claims.length c_7),(11,.slice p_4 r_3.1.length c_3),(17,i6 x_11),(114,i6 ((claims.length : Nat) : Int)),(115,i6 x_11),(119,i6 ((claims.length : Nat) : Int)),(120,i6 x_12),(18,i6 x_12),(123,.slice (some ⟨g,0,none⟩) claims.length c_7),(124,i6 x_11),(125,.pointer (some ⟨g,x_11.toNat * 1,none⟩)),(126,i6 e_1),(127,.slice (some ⟨g,0,none⟩) claims.length c_7),(128,i6 x_12),(129,.pointer (some ⟨g,x_12.toNat * 1,none⟩)),(130,i6 e_2),(131,.bool (decide (e_2 < e_1))),(132,.bool (decide (e_2 < e_1))),(142,.bool t_3)]) ?_ ?_
        ·cases hb : (decide (e_2 < e_1))
         ·rw [hb] at hf
          have hF := condF hb ht_3
          obtain rfl := sj hF
          refine qS hf rfl rfl rfl fun a hf => qS hf rfl rfl rfl fun a hf => qS hf rfl rfl rfl fun a hf => qS hf rfl rfl rfl fun a hf => qS hf rfl rfl rfl fun a hf => qS hf rfl rfl rfl fun a hf => qS hf rfl rfl rfl fun a hf => qS hf rfl rfl rfl fun a hf => qS hf rfl rfl rfl fun a hf => qE hf rfl rfl rfl (Pu.ev (pPf rfl rfl)) fun a hf => qNil (hf.kp rfl)
         ·rw [hb] at hf
          have hF := condT hb ht_3
          obtain ⟨e_3,he_3,hF⟩ := bnd_some hF
          obtain ⟨g_1,rfl,qa_2,qr_2⟩ := row_atm hc m1 he_3
          obtain ⟨e_4,he_4,hF⟩ := bnd_some hF
          obtain ⟨qa_3,qr_3⟩ := row_atk hc m1 he_4
          refine qE hf rfl rfl rfl (Pu.ev (pM rfl)) fun a hf => qE hf rfl rfl rfl (Pu.ev (pM rfl)) fun a hf => qE hf rfl rfl rfl (Pu.ev (pIA Tryz.underlying25 sz_3 rfl rfl qa_2)) fun a hf => qE hf rfl rfl rfl (eLd1 sc_3 rfl (cell_row (sz := 1) (i := x_11.toNat) (j := 0) m1 qr_2 rfl)) fun a hf => qE hf rfl rfl rfl (Pu.ev (pM rfl)) fun a hf => qE hf rfl rfl rfl (Pu.ev (pM rfl)) fun a hf => qE hf rfl rfl rfl (Pu.ev (pIA Tryz.underlying25 sz_3 rfl rfl qa_3)) fun a hf => qE hf rfl rfl rfl (eLd1 sc_3 rfl (cell_row (sz := 1) (i := x_12.toNat) (j := 0) m1 qr_3 rfl)) fun a hf => qE hf rfl rfl rfl (Pu.ev (pLt rfl rfl)) fun a hf => qE hf rfl rfl rfl (Pu.ev (pPt rfl rfl)) fun a hf => ?_
          obtain rfl := sj hF
          exact qNil (hf.kp rfl)
        intro a hf
        intro w hc
        refine h38 _ _ ?_
        refine cCond (b := t_3) hf rfl (fun hb => ?_) (fun hb => ?_)
        ·replace hF := condT hb hF
         clear hb
         refine wp_seq_k fun K39 h39 => cReg ?_
         refine stP hf rfl rfl rfl (pA rfl) fun a hf => cNil ?_
         refine h39 _ _ ?_
         refine wp_ret ?_
         refine xBlkR ?_
         refine xThenR ?_
         refine xThenR ?_
         have he := sj hF
         rw [← he] at hfin33
         replace hF := ho33 _ hfin33
         refine xBlkR ?_
         refine xThenR ?_
         refine xBlkR ?_
         refine xThenR ?_
         refine xThenR ?_
         have he := hF
         rw [← he] at hfin25
         replace hF := ho25 _ hfin25
         refine xBlkR ?_
         refine xThenR ?_
         obtain rfl := hF
         replace hc := hc.drop k1
         replace hc := hc.drop k0
         exact fnOut1 (by simp) rfl Tryz.results12 hf hc (show look _ 6 = _ from rfl) ⟨rfl,hc⟩
        ·replace hF := condF hb hF
         clear hb
         refine wp_skip ?_
         refine h36 _ _ ?_
         refine cReg ?_
         refine stP hf rfl rfl rfl (pAdd rfl rfl) fun a hf => stP hf rfl rfl rfl (pM rfl) fun a hf => cNil ?_
         exact hK33 (W (x_12 + 1)) _ _ (sj hF).symm ⟨(some ⟨g,0,none⟩),c_7,hf.kp rfl,hc⟩
       ·replace hF := condF hb hF
        clear hb
        refine wp_exit ?_
        refine xThen ?_
        refine xThen ?_
        have he := sj hF
        rw [← he] at hfin33
        refine cHit ?_
        exact hr33 _ _ _ hfin33 ⟨p_9,c_7,hf.kp rfl,hc⟩
      ·replace hF := condF hb hF
       clear hb
       refine wp_exit ?_
       refine xThen ?_
       refine xThen ?_
       have he := sj hF
       rw [← he] at hfin25
       refine cHit ?_
       exact hr25 _ _ _ hfin25 ⟨p_8,c_6,hf.kp rfl,hc⟩
    have ho18 : ∀ r,x18 = .out r → r = res := by
     rintro r rfl
     exact sj hF
    replace hc := hc.nilRow 101 2
    replace hc := tab_nil (K := kd_101) (hs := (noH 0)) hc
    replace hc := hc.pick k0
    replace hc := hc.pick k1
    refine cLoop N (loopW (S := S18) (x := x18) ?_ N (0,x_4,x_5,([] : List crew_Station)) _ _ ⟨p_2,c_2,none,(0,(noH 0)),hf.kp rfl,hc⟩ hx18)
    clear hF hf hc
    rintro ⟨x_7,x_8,x_9,x_10⟩ st18 a w KB18 ⟨p_4,c_3,p_5,tcq_1,hf,hc⟩ hF hfin18 hK18
    unfold law11_CrewTurned_b18 at hF
    refine wp_seq_k fun K40 h40 => cReg ?_
    refine stP hf rfl rfl rfl (pLt rfl rfl) fun a hf => cNil ?_
    refine h40 _ _ ?_
    refine wp_seq_k fun K41 h41 => cCond (b := (decide (x_7 < ((r_3.1.length : Nat) : Int)))) hf rfl (fun hb => ?_) (fun hb => ?_)
    ·replace hF := condT hb hF
     clear hb
     refine wp_skip ?_
     refine h41 _ _ ?_
     refine wp_seq_k fun K42 h42 => wp_block ?_
     refine wp_seq_k fun K43 h43 => cReg ?_
     obtain ⟨e_5,he_5,hF⟩ := bnd_some hF
     obtain ⟨g_2,rfl,qa_4,qr_4⟩ := row_atm hc m6 he_5
     refine stP hf rfl rfl rfl (pIA Tryz.underlying25 sz_3 rfl rfl qa_4) fun a hf => stE hf hc rfl rfl rfl (eLd1 sc_3 rfl (cell_row (sz := 1) (i := x_7.toNat) (j := 0) m6 qr_4 rfl)) fun a w hf hc => stP hf rfl rfl rfl (pA rfl) fun a hf => cNil ?_
     refine h43 _ _ ?_
     obtain ⟨r_9,hr_9,hF⟩ := bnd_some hF
     obtain ⟨un_1,hun_1,hF⟩ := bnd_some hF
     replace hc := hc.nilRow 0 0
     replace hc := hc.nilRow 0 0
     refine regionE (fun θ => [⟨none,none,8,pq b_2⟩,⟨none,none,9,.slice p_1 claims.length c_1⟩,⟨none,none,10,i6 (W (((claims.length : Nat) : Int) + ((W (more)).tmod (W ((W (12 - ((claims.length : Nat) : Int))) + 1)))))⟩,⟨none,none,11,.slice (some ⟨g_2,0,none⟩) r_3.1.length c_3⟩,⟨none,none,13,pq b_3⟩,⟨none,none,15,i6 e_5⟩,⟨none,none,71,.slice (some ⟨g_2,0,none⟩) r_3.1.length c_3⟩,⟨none,none,72,i6 ((r_3.1.length : Nat) : Int)⟩,⟨none,none,73,i6 x_7⟩,⟨some 0,none,77,.pointer (some ⟨b_3,1,none⟩)⟩,⟨some 1,none,78,.slice p_5 x_10.length tcq_1.1⟩,⟨some 2,none,79,i6 e_5⟩,⟨some 3,none,80,pq b_2⟩,⟨some 4,none,81,i6 (W (((claims.length : Nat) : Int) + ((W (more)).tmod (W ((W (12 - ((claims.length : Nat) : Int))) + 1)))))⟩,⟨some 5,none,82,.slice ((θ 40).p) r_9.1.length ((θ 40).c)⟩,⟨some 6,none,83,.agg #[i6 e_5,.slice ((θ 40).p) r_9.1.length ((θ 40).c)]⟩,⟨some 7,none,84,.slice (some ⟨(θ 56).b,0,none⟩) 1 1⟩,⟨some 8,none,85,.slice ((θ 64).p) ((x_10 ++ [(⟨e_5,r_9.1⟩ : crew_Station)]).length) ((θ 64).c)⟩,⟨some 9,none,86,.pointer (some ⟨b_3,1,none⟩)⟩]) (fun E θ => (bif E 7 then .row (some ⟨(θ 56).b,0,none⟩) 1 (([(((θ 40).p,(θ 40).c),(⟨e_5,r_9.1⟩ : crew_Station))] : List (H2 × crew_Station)).map (Kd.v kd_101)) 101 2 else .row none 0 [] 0 0)::(bif E 5 then .row ((θ 40).p) ((θ 40).c) (r_9.1.map encI_i64) 3 1 else .row none 0 [] 0 0)::(bif E 8 then .row ((θ 64).p) ((θ 64).c) (((tabR tcq_1.2 x_10) ++ ([(((θ 40).p,(θ 40).c),(⟨e_5,r_9.1⟩ : crew_Station))] : List (H2 × crew_Station))).map (Kd.v kd_101)) 101 2 else .row p_5 tcq_1.1 ((tabR tcq_1.2 x_10).map (Kd.v kd_101)) 101 2)::tabI kd_101 (tabR tcq_1.2 x_10)::.row p_3 tcq.1 ((tabR tcq.2 x_6).map (Kd.v kd_25)) 25 1::tabI kd_25 (tabR tcq.2 x_6)::(bif E 10 then .box b_3 [.slice p_3 x_6.length tcq.1,.slice ((θ 64).p) ((x_10 ++ [(⟨e_5,r_9.1⟩ : crew_Station)]).length) ((θ 64).c)] 78 else .box b_3 [.slice p_3 x_6.length tcq.1,.slice p_5 x_10.length tcq_1.1] 78)::.row p_1 c_1 (claims.map encI_i64) 3 1::.row (some ⟨g_2,0,none⟩) c_3 (r_3.1.map encI_i64) 3 1::(bif E 5 then .box b_2 [.slice orders_p orders.length orders_c,i6 r_9.2.1,i6 r_9.2.2] 165 else .box b_2 [.slice orders_p orders.length orders_c,i6 x_8,i6 x_9] 165)::Lf) [(6,5),(10,1),(8,5),(7,6),(10,8)] (fun a w => ∃ (b_5 : Nat) (p_12 : Option Addr) (c_10 : Nat) (p_13 : Option Addr) (c_11 : Nat),Has 146 a [(8,pq b_2),(9,.slice p_1 claims.length c_1),(10,i6 (W (((claims.length : Nat) : Int) + ((W (more)).tmod (W ((W (12 - ((claims.length : Nat) : Int))) + 1)))))),(11,.slice (some ⟨g_2,0,none⟩) r_3.1.length c_3),(13,pq b_3),(71,.slice (some ⟨g_2,0,none⟩) r_3.1.length c_3),(72,i6 ((r_3.1.length : Nat) : Int)),(73,i6 x_7)] ∧ Ctx G (.row (some ⟨b_5,0,none⟩) 1 (([((p_12,c_10),(⟨e_5,r_9.1⟩ : crew_Station))] : List (H2 × crew_Station)).map (Kd.v kd_101)) 101 2::.row p_12 c_10 (r_9.1.map encI_i64) 3 1::.row p_13 c_11 (((tabR tcq_1.2 x_10) ++ ([((p_12,c_10),(⟨e_5,r_9.1⟩ : crew_Station))] : List (H2 × crew_Station))).map (Kd.v kd_101)) 101 2::tabI kd_101 (tabR tcq_1.2 x_10)::.row p_3 tcq.1 ((tabR tcq.2 x_6).map (Kd.v kd_25)) 25 1::tabI kd_25 (tabR tcq.2 x_6)::.box b_3 [.slice p_3 x_6.length tcq.1,.slice p_13 ((x_10 ++ [(⟨e_5,r_9.1⟩ : crew_Station)]).length) c_11] 78::.row p_1 c_1 (claims.map encI_i64) 3 1::.row (some ⟨g_2,0,none⟩) c_3 (r_3.1.map encI_i64) 3 1::.box b_2 [.slice orders_p orders.length orders_c,i6 r_9.2.1,i6 r_9.2.2] 165::Lf) w) follows_mx (by kernel_rfl) (by kernel_rfl) (HasE.of hf ⟨rfl,rfl,rfl,rfl,rfl,rfl,rfl,rfl,rfl,trivial,trivial,trivial,trivial,trivial,trivial,trivial,trivial,trivial,trivial,trivial⟩) hc ⟨?_,?_,?_,?_,?_,?_,?_,?_,?_,?_,?_,trivial⟩ ?_ ?_
     ·intro E θ a w hD hi hp he hc
      have hf := he.h0
      replace hf := hf.more he 4 rfl onT
      refine stP hf rfl rfl rfl (pFA fa_78_1 rfl) fun a hf => cNil ?_
      refine xThenN ?_
      intro ds u hau
      refine ⟨θ,he.put0 hi hau hf rfl 9 rfl rfl,?_⟩
      exact hc
     ·intro E θ a w hD hi hp he hc
      have e0 := hp.of (k := 0) rfl
      have e10 := hD.f 1 rfl hi
      try dsimp only at hc
      rw [e10] at hc
      have hf := he.h0
      replace hf := hf.more he 9 rfl (onP e0)
      refine stE hf hc rfl rfl rfl (eLd1 sc_76 rfl (cell_box m6 rfl)) fun a w hf hc => cNil ?_
      refine xThenN ?_
      intro ds u hau
      refine ⟨θ,he.put0 hi hau hf rfl 10 rfl rfl,?_⟩
      try dsimp only
      rw [updE_fls 1 e10 rfl]
      exact hc
     ·intro E θ a w hD hi hp he hc
      have hf := he.h0
      replace hf := hf.more he 5 rfl onT
      refine stP hf rfl rfl rfl (pM rfl) fun a hf => cNil ?_
      refine xThenN ?_
      intro ds u hau
      refine ⟨θ,he.put0 hi hau hf rfl 11 rfl rfl,?_⟩
      exact hc
     ·intro E θ a w hD hi hp he hc
      have hf := he.h0
      replace hf := hf.more he 0 rfl onT
      refine stP hf rfl rfl rfl (pM rfl) fun a hf => cNil ?_
      refine xThenN ?_
      intro ds u hau
      refine ⟨θ,he.put0 hi hau hf rfl 12 rfl rfl,?_⟩
      exact hc
     ·intro E θ a w hD hi hp he hc
      have hf := he.h0
      replace hf := hf.more he 2 rfl onT
      refine stP hf rfl rfl rfl (pM rfl) fun a hf => cNil ?_
      refine xThenN ?_
      intro ds u hau
      refine ⟨θ,he.put0 hi hau hf rfl 13 rfl rfl,?_⟩
      exact hc
     ·intro E θ a w hD hi hp he hc
      have e3 := hp.of (k := 3) rfl
      have e4 := hp.of (k := 4) rfl
      have e8 := hD.f 2 rfl hi
      have e6 := hD.f 0 rfl hi
      have e7 := hD.f 3 rfl e6
      try dsimp only at hc
      rw [hi,e8,e7] at hc
      have hf := he.h0
      replace hf := hf.more he 12 rfl (onP e3)
      replace hf := hf.more he 13 rfl (onP e4)
      refine stC (vs := [pq b_2,i6 (W (((claims.length : Nat) : Int) + ((W (more)).tmod (W ((W (12 - ((claims.length : Nat) : Int))) + 1)))))]) (caps := []) hf rfl rfl rfl en_71 rfl rfl rfl rfl (kit_Mixed_ok (⟨orders,x_8,x_9⟩ : kit_Stream) (W (((claims.length : Nat) : Int) + ((W (more)).tmod (W ((W (12 - ((claims.length : Nat) : Int))) + 1))))) h_orders (hc.pick k9) hr_9) ?_
      rintro _ w ⟨p_10,c_8,rfl,hc⟩
      refine ⟨_,rfl,fun a hf => ?_⟩
      refine cNil ?_
      refine xThenN ?_
      intro ds u hau
      replace hc := hc.drop k3
      replace hc := hc.pick k1
      replace hc := hc.pick k9
      replace hc := hc.pick k9
      replace hc := hc.pick k9
      replace hc := hc.pick k9
      replace hc := hc.pick k9
      replace hc := hc.pick k9
      replace hc := hc.pick k9
      replace hc := hc.pick k8
      replace hc := hc.pick k9
      refine ⟨(setT θ 40 ⟨0,p_10,c_8,(fun _ => (none,0))⟩),he.put hi hau hf rfl [6] ⟨⟨e6,rfl⟩,trivial⟩ ⟨qq,qq,qq,qq,qq,qq,qq,qq,qq,qq,qq,qq,qq,qq,qq,trivial,qq,qq,qq,trivial⟩,?_⟩
      try dsimp only
      rw [updE_self E 5,updE_fls 5 e8 rfl,updE_fls 5 e7 rfl]
      exact hc
     ·intro E θ a w hD hi hp he hc
      have e2 := hp.of (k := 2) rfl
      have e5 := hp.of (k := 5) rfl
      have hf := he.h0
      replace hf := hf.more he 11 rfl (onP e2)
      replace hf := hf.more he 14 rfl (onP e5)
      refine stP hf rfl rfl rfl (pBuildS (cells := [i6 e_5,.slice ((θ 40).p) r_9.1.length ((θ 40).c)]) bt_101 rfl rfl) fun a hf => cNil ?_
      refine xThenN ?_
      intro ds u hau
      refine ⟨θ,he.put0 hi hau hf rfl 15 rfl rfl,?_⟩
      exact hc
     ·intro E θ a w hD hi hp he hc
      have e6 := hp.of (k := 6) rfl
      have e5 := hD.t 0 rfl e6
      try dsimp only at hc
      rw [hi,e5] at hc
      have hf := he.h0
      replace hf := hf.more he 15 rfl (onP e6)
      refine stBS (rows := ([(((θ 40).p,(θ 40).c),(⟨e_5,r_9.1⟩ : crew_Station))] : List (H2 × crew_Station)).map (Kd.v kd_101)) (vs := [(0,.agg #[i6 e_5,.slice ((θ 40).p) r_9.1.length ((θ 40).c)])]) hf hc rfl rfl sl_76 rfl ⟨rfl,rfl,rfl,trivial⟩ rfl rfl fun b_4 a w hf hc => cNil ?_
      refine xThenN ?_
      intro ds u hau
      replace hc := hc.drop k1
      refine ⟨(setT θ 56 ⟨b_4,none,0,(fun _ => (none,0))⟩),he.put hi hau hf rfl [] trivial ⟨qq,qq,qq,qq,qq,qq,qq,qq,qq,qq,qq,qq,qq,qq,qq,qq,qq,qq,qq,trivial⟩,?_⟩
      try dsimp only
      rw [updE_self E 7,updE_tru 7 e5]
      exact hc
     ·intro E θ a w hD hi hp he hc
      have e1 := hp.of (k := 1) rfl
      have e7 := hp.of (k := 7) rfl
      have e10 := hD.f 4 rfl hi
      try dsimp only at hc
      rw [e7,hi,e10] at hc
      have hf := he.h0
      replace hf := hf.more he 10 rfl (onP e1)
      replace hf := hf.more he 16 rfl (onP e7)
      refine stApm (xs := (tabR tcq_1.2 x_10)) (ys := ([(((θ 40).p,(θ 40).c),(⟨e_5,r_9.1⟩ : crew_Station))] : List (H2 × crew_Station))) hf hc rfl rfl sl_76 rfl rfl (tabR_len _ _).symm rfl rfl one_kd_101 (src_row hc m0) (fun _ _ => u2) (by simpa [tabR_len] using room_spec hun_1) fun p_11 c_9 a w hf hc => ?_
      replace hf := castV (v' := .slice p_11 (x_10 ++ [(⟨e_5,r_9.1⟩ : crew_Station)]).length c_9) (by simp [tabR_len]) hf
      refine cNil ?_
      refine xThenN ?_
      intro ds u hau
      refine ⟨(setT θ 64 ⟨0,p_11,c_9,(fun _ => (none,0))⟩),he.put hi hau hf rfl [] trivial ⟨qq,qq,qq,qq,qq,qq,qq,qq,qq,qq,qq,qq,qq,qq,qq,qq,qq,qq,qq,trivial⟩,?_⟩
      try dsimp only
      rw [updE_tru 8 e7,updE_self E 8,updE_fls 8 e10 rfl]
      exact hc
     ·intro E θ a w hD hi hp he hc
      have hf := he.h0
      replace hf := hf.more he 4 rfl onT
      refine stP hf rfl rfl rfl (pFA fa_78_1 rfl) fun a hf => cNil ?_
      refine xThenN ?_
      intro ds u hau
      refine ⟨θ,he.put0 hi hau hf rfl 18 rfl rfl,?_⟩
      exact hc
     ·intro E θ a w hD hi hp he hc
      have e8 := hp.of (k := 8) rfl
      have e9 := hp.of (k := 9) rfl
      try dsimp only at hc
      rw [hi] at hc
      have hf := he.h0
      replace hf := hf.more he 17 rfl (onP e8)
      replace hf := hf.more he 18 rfl (onP e9)
      refine stSt (vs := [.slice ((θ 64).p) ((x_10 ++ [(⟨e_5,r_9.1⟩ : crew_Station)]).length) ((θ 64).c)]) hf hc rfl rfl rfl rfl sz_76 rfl rfl u6 fun w hc => cNil ?_
      refine xThenN ?_
      intro ds u hau
      refine ⟨θ,he.stay0 hi hau hf rfl,?_⟩
      try dsimp only
      rw [updE_self E 10]
      exact hc
     ·intro E θ a w hall he hc
      have hf := he.h0
      have e5 := hall 5 rfl
      have e7 := hall 7 rfl
      have e8 := hall 8 rfl
      have e10 := hall 10 rfl
      replace hf := hf.more he 8 rfl (onT)
      replace hf := hf.more he 7 rfl (onT)
      replace hf := hf.more he 6 rfl (onT)
      replace hf := hf.more he 4 rfl (onT)
      replace hf := hf.more he 3 rfl (onT)
      replace hf := hf.more he 2 rfl (onT)
      replace hf := hf.more he 1 rfl (onT)
      replace hf := hf.more he 0 rfl (onT)
      try dsimp only at hc
      rw [e5,e7,e8,e10] at hc
      exact ⟨(θ 56).b,(θ 40).p,(θ 40).c,(θ 64).p,(θ 64).c,hf.kp rfl,hc⟩
     rintro a w ⟨b_5,p_12,c_10,p_13,c_11,hf,hc⟩
     replace hc := hc.drop k0
     replace hc := hc.pick k0
     replace hc := hc.pick k2
     replace hc := hc.pick k2
     obtain ⟨hsq,hc⟩ := tab_push2 (K := kd_101) ([((p_12,c_10),(⟨e_5,r_9.1⟩ : crew_Station))] : List (H2 × crew_Station)) hc
     replace hc : Ctx G (.row p_13 c_11 ((tabR hsq (x_10 ++ [(⟨e_5,r_9.1⟩ : crew_Station)])).map (Kd.v kd_101)) 101 2::tabI kd_101 (tabR hsq (x_10 ++ [(⟨e_5,r_9.1⟩ : crew_Station)]))::.row p_3 tcq.1 ((tabR tcq.2 x_6).map (Kd.v kd_25)) 25 1::tabI kd_25 (tabR tcq.2 x_6)::.box b_3 [.slice p_3 x_6.length tcq.1,.slice p_13 ((x_10 ++ [(⟨e_5,r_9.1⟩ : crew_Station)]).length) c_11] 78::.row p_1 c_1 (claims.map encI_i64) 3 1::.row (some ⟨g_2,0,none⟩) c_3 (r_3.1.map encI_i64) 3 1::.box b_2 [.slice orders_p orders.length orders_c,i6 r_9.2.1,i6 r_9.2.2] 165::Lf) w := hc
     refine h42 _ _ ?_
     refine cReg ?_
     refine stP hf rfl rfl rfl (pAdd rfl rfl) fun a hf => stP hf rfl rfl rfl (pM rfl) fun a hf => cNil ?_
     exact hK18 (W (x_7 + 1),r_9.2.1,r_9.2.2,(x_10 ++ [(⟨e_5,r_9.1⟩ : crew_Station)])) _ _ (sj hF).symm ⟨(some ⟨g_2,0,none⟩),c_3,p_13,(c_11,hsq),hf.kp rfl,hc⟩
    ·replace hF := condF hb hF
     clear hb
     refine wp_exit ?_
     refine xThen ?_
     refine xThen ?_
     have he := sj hF
     rw [← he] at hfin18
     refine cHit ?_
     exact hr18 _ _ _ hfin18 ⟨p_4,c_3,p_5,tcq_1,hf.kp rfl,hc⟩
   have ho15 : ∀ r,x15 = .out r → r = res := by
    rintro r rfl
    exact sj hF
   replace hc := hc.nilRow 25 1
   replace hc := tab_nil (K := kd_25) (hs := (noH 0)) hc
   replace hc := hc.drop k5
   replace hc := hc.pick k0
   replace hc := hc.pick k1
   refine cLoop N (loopW (S := S15) (x := x15) ?_ N (0,r_1.1,r_1.2,([] : List (List Int))) _ _ ⟨none,(0,(noH 0)),hf.kp rfl,hc⟩ hx15)
   clear hF hf hc
   rintro ⟨x_3,x_4,x_5,x_6⟩ st15 a w KB15 ⟨p_3,tcq,hf,hc⟩ hF hfin15 hK15
   unfold law11_CrewTurned_b15 at hF
   refine wp_seq_k fun K44 h44 => cReg ?_
   refine stP hf rfl rfl rfl (pLt rfl rfl) fun a hf => cNil ?_
   refine h44 _ _ ?_
   refine wp_seq_k fun K45 h45 => cCond (b := (decide (x_3 < (W (((claims.length : Nat) : Int) + ((W (more)).tmod (W ((W (12 - ((claims.length : Nat) : Int))) + 1)))))))) hf rfl (fun hb => ?_) (fun hb => ?_)
   ·replace hF := condT hb hF
    clear hb
    refine wp_skip ?_
    refine h45 _ _ ?_
    refine wp_seq_k fun K46 h46 => wp_block ?_
    obtain ⟨r_10,hr_10,hF⟩ := bnd_some hF
    obtain ⟨un_2,hun_2,hF⟩ := bnd_some hF
    replace hc := hc.nilRow 0 0
    replace hc := hc.nilRow 0 0
    refine regionE (fun θ => [⟨none,none,8,pq b_2⟩,⟨none,none,9,.slice p_1 claims.length c_1⟩,⟨none,none,10,i6 (W (((claims.length : Nat) : Int) + ((W (more)).tmod (W ((W (12 - ((claims.length : Nat) : Int))) + 1)))))⟩,⟨none,none,11,.slice p_2 r_3.1.length c_2⟩,⟨none,none,13,pq b_3⟩,⟨none,none,58,i6 (W (((claims.length : Nat) : Int) + ((W (more)).tmod (W ((W (12 - ((claims.length : Nat) : Int))) + 1)))))⟩,⟨none,none,59,i6 x_3⟩,⟨some 0,none,61,pq b_3⟩,⟨some 1,none,62,.slice p_3 x_6.length tcq.1⟩,⟨some 2,none,63,pq b_2⟩,⟨some 3,none,64,.slice p_1 claims.length c_1⟩,⟨some 4,none,65,i6 ((claims.length : Nat) : Int)⟩,⟨some 5,none,66,.slice ((θ 40).p) r_10.1.length ((θ 40).c)⟩,⟨some 6,none,67,.slice (some ⟨(θ 48).b,0,none⟩) 1 1⟩,⟨some 7,none,68,.slice ((θ 56).p) ((x_6 ++ [r_10.1]).length) ((θ 56).c)⟩,⟨some 8,none,69,pq b_3⟩]) (fun E θ => (bif E 6 then .row (some ⟨(θ 48).b,0,none⟩) 1 (([(((θ 40).p,(θ 40).c),r_10.1)] : List (H2 × (List Int))).map (Kd.v kd_25)) 25 1 else .row none 0 [] 0 0)::(bif E 5 then .row ((θ 40).p) ((θ 40).c) (r_10.1.map encI_i64) 3 1 else .row none 0 [] 0 0)::(bif E 7 then .row ((θ 56).p) ((θ 56).c) (((tabR tcq.2 x_6) ++ ([(((θ 40).p,(θ 40).c),r_10.1)] : List (H2 × (List Int)))).map (Kd.v kd_25)) 25 1 else .row p_3 tcq.1 ((tabR tcq.2 x_6).map (Kd.v kd_25)) 25 1)::tabI kd_25 (tabR tcq.2 x_6)::(bif E 9 then .box b_3 [.slice ((θ 56).p) ((x_6 ++ [r_10.1]).length) ((θ 56).c),.slice none 0 0] 78 else .box b_3 [.slice p_3 x_6.length tcq.1,.slice none 0 0] 78)::.row p_1 c_1 (claims.map encI_i64) 3 1::.row p_2 c_2 (r_3.1.map encI_i64) 3 1::(bif E 5 then .box b_2 [.slice orders_p orders.length orders_c,i6 r_10.2.1,i6 r_10.2.2] 165 else .box b_2 [.slice orders_p orders.length orders_c,i6 x_4,i6 x_5] 165)::Lf) [(9,1),(7,5),(6,5),(9,7)] (fun a w => ∃ (b_7 : Nat) (p_16 : Option Addr) (c_14 : Nat) (p_17 : Option Addr) (c_15 : Nat),Has 146 a [(8,pq b_2),(9,.slice p_1 claims.length c_1),(10,i6 (W (((claims.length : Nat) : Int) + ((W (more)).tmod (W ((W (12 - ((claims.length : Nat) : Int))) + 1)))))),(11,.slice p_2 r_3.1.length c_2),(13,pq b_3),(58,i6 (W (((claims.length : Nat) : Int) + ((W (more)).tmod (W ((W (12 - ((claims.length : Nat) : Int))) + 1)))))),(59,i6 x_3)] ∧ Ctx G (.row (some ⟨b_7,0,none⟩) 1 (([((p_16,c_14),r_10.1)] : List (H2 × (List Int))).map (Kd.v kd_25)) 25 1::.row p_16 c_14 (r_10.1.map encI_i64) 3 1::.row p_17 c_15 (((tabR tcq.2 x_6) ++ ([((p_16,c_14),r_10.1)] : List (H2 × (List Int)))).map (Kd.v kd_25)) 25 1::tabI kd_25 (tabR tcq.2 x_6)::.box b_3 [.slice p_17 ((x_6 ++ [r_10.1]).length) c_15,.slice none 0 0] 78::.row p_1 c_1 (claims.map encI_i64) 3 1::.row p_2 c_2 (r_3.1.map encI_i64) 3 1::.box b_2 [.slice orders_p orders.length orders_c,i6 r_10.2.1,i6 r_10.2.2] 165::Lf) w) follows_mx (by kernel_rfl) (by kernel_rfl) (HasE.of hf ⟨rfl,rfl,rfl,rfl,rfl,rfl,rfl,trivial,trivial,trivial,trivial,trivial,trivial,trivial,trivial,trivial,trivial⟩) hc ⟨?_,?_,?_,?_,?_,?_,?_,?_,?_,?_,trivial⟩ ?_ ?_
    ·intro E θ a w hD hi hp he hc
     have hf := he.h0
     replace hf := hf.more he 4 rfl onT
     refine stP hf rfl rfl rfl (pFA fa_78_0 rfl) fun a hf => cNil ?_
     refine xThenN ?_
     intro ds u hau
     refine ⟨θ,he.put0 hi hau hf rfl 7 rfl rfl,?_⟩
     exact hc
    ·intro E θ a w hD hi hp he hc
     have e0 := hp.of (k := 0) rfl
     have e9 := hD.f 0 rfl hi
     try dsimp only at hc
     rw [e9] at hc
     have hf := he.h0
     replace hf := hf.more he 7 rfl (onP e0)
     refine stE hf hc rfl rfl rfl (eLd1 sc_75 rfl (cell_box m4 rfl)) fun a w hf hc => cNil ?_
     refine xThenN ?_
     intro ds u hau
     refine ⟨θ,he.put0 hi hau hf rfl 8 rfl rfl,?_⟩
     try dsimp only
     rw [updE_fls 1 e9 rfl]
     exact hc
    ·intro E θ a w hD hi hp he hc
     have hf := he.h0
     replace hf := hf.more he 0 rfl onT
     refine stP hf rfl rfl rfl (pM rfl) fun a hf => cNil ?_
     refine xThenN ?_
     intro ds u hau
     refine ⟨θ,he.put0 hi hau hf rfl 9 rfl rfl,?_⟩
     exact hc
    ·intro E θ a w hD hi hp he hc
     have hf := he.h0
     replace hf := hf.more he 1 rfl onT
     refine stP hf rfl rfl rfl (pM rfl) fun a hf => cNil ?_
     refine xThenN ?_
     intro ds u hau
     refine ⟨θ,he.put0 hi hau hf rfl 10 rfl rfl,?_⟩
     exact hc
    ·intro E θ a w hD hi hp he hc
     have e3 := hp.of (k := 3) rfl
     have hf := he.h0
     replace hf := hf.more he 10 rfl (onP e3)
     refine stP hf rfl rfl rfl (pLenS Tryz.underlying25 rfl) fun a hf => cNil ?_
     refine xThenN ?_
     intro ds u hau
     refine ⟨θ,he.put0 hi hau hf rfl 11 rfl rfl,?_⟩
     exact hc
    ·intro E θ a w hD hi hp he hc
     have e2 := hp.of (k := 2) rfl
     have e4 := hp.of (k := 4) rfl
     have e7 := hD.f 1 rfl hi
     have e6 := hD.f 2 rfl hi
     try dsimp only at hc
     rw [hi,e7,e6] at hc
     have hf := he.h0
     replace hf := hf.more he 9 rfl (onP e2)
     replace hf := hf.more he 11 rfl (onP e4)
     refine stC (vs := [pq b_2,i6 ((claims.length : Nat) : Int)]) (caps := []) hf rfl rfl rfl en_71 rfl rfl rfl rfl (kit_Mixed_ok (⟨orders,x_4,x_5⟩ : kit_Stream) ((claims.length : Nat) : Int) h_orders (hc.pick k7) hr_10) ?_
     rintro _ w ⟨p_14,c_12,rfl,hc⟩
     refine ⟨_,rfl,fun a hf => ?_⟩
     refine cNil ?_
     refine xThenN ?_
     intro ds u hau
     replace hc := hc.drop k3
     replace hc := hc.pick k1
     replace hc := hc.pick k7
     replace hc := hc.pick k7
     replace hc := hc.pick k7
     replace hc := hc.pick k7
     replace hc := hc.pick k7
     replace hc := hc.pick k6
     replace hc := hc.pick k7
     refine ⟨(setT θ 40 ⟨0,p_14,c_12,(fun _ => (none,0))⟩),he.put hi hau hf rfl [] trivial ⟨qq,qq,qq,qq,qq,qq,qq,qq,qq,qq,qq,qq,qq,qq,qq,qq,trivial⟩,?_⟩
     try dsimp only
     rw [updE_self E 5,updE_fls 5 e7 rfl,updE_fls 5 e6 rfl]
     exact hc
    ·intro E θ a w hD hi hp he hc
     have e5 := hp.of (k := 5) rfl
     try dsimp only at hc
     rw [hi,e5] at hc
     have hf := he.h0
     replace hf := hf.more he 12 rfl (onP e5)
     refine stBS (rows := ([(((θ 40).p,(θ 40).c),r_10.1)] : List (H2 × (List Int))).map (Kd.v kd_25)) (vs := [(0,.slice ((θ 40).p) r_10.1.length ((θ 40).c))]) hf hc rfl rfl sl_75 rfl ⟨rfl,rfl,rfl,trivial⟩ rfl rfl fun b_6 a w hf hc => cNil ?_
     refine xThenN ?_
     intro ds u hau
     replace hc := hc.drop k1
     refine ⟨(setT θ 48 ⟨b_6,none,0,(fun _ => (none,0))⟩),he.put hi hau hf rfl [] trivial ⟨qq,qq,qq,qq,qq,qq,qq,qq,qq,qq,qq,qq,qq,qq,qq,qq,trivial⟩,?_⟩
     try dsimp only
     rw [updE_self E 6,updE_tru 6 e5]
     exact hc
    ·intro E θ a w hD hi hp he hc
     have e1 := hp.of (k := 1) rfl
     have e6 := hp.of (k := 6) rfl
     have e9 := hD.f 3 rfl hi
     try dsimp only at hc
     rw [e6,hi,e9] at hc
     have hf := he.h0
     replace hf := hf.more he 8 rfl (onP e1)
     replace hf := hf.more he 13 rfl (onP e6)
     refine stApm (xs := (tabR tcq.2 x_6)) (ys := ([(((θ 40).p,(θ 40).c),r_10.1)] : List (H2 × (List Int)))) hf hc rfl rfl sl_75 rfl rfl (tabR_len _ _).symm rfl rfl one_kd_25 (src_row hc m0) (fun _ _ => u2) (by simpa [tabR_len] using room_spec hun_2) fun p_15 c_13 a w hf hc => ?_
     replace hf := castV (v' := .slice p_15 (x_6 ++ [r_10.1]).length c_13) (by simp [tabR_len]) hf
     refine cNil ?_
     refine xThenN ?_
     intro ds u hau
     refine ⟨(setT θ 56 ⟨0,p_15,c_13,(fun _ => (none,0))⟩),he.put hi hau hf rfl [] trivial ⟨qq,qq,qq,qq,qq,qq,qq,qq,qq,qq,qq,qq,qq,qq,qq,qq,trivial⟩,?_⟩
     try dsimp only
     rw [updE_tru 7 e6,updE_self E 7,updE_fls 7 e9 rfl]
     exact hc
    ·intro E θ a w hD hi hp he hc
     have hf := he.h0
     replace hf := hf.more he 4 rfl onT
     refine stP hf rfl rfl rfl (pFA fa_78_0 rfl) fun a hf => cNil ?_
     refine xThenN ?_
     intro ds u hau
     refine ⟨θ,he.put0 hi hau hf rfl 15 rfl rfl,?_⟩
     exact hc
    ·intro E θ a w hD hi hp he hc
     have e7 := hp.of (k := 7) rfl
     have e8 := hp.of (k := 8) rfl
     try dsimp only at hc
     rw [hi] at hc
     have hf := he.h0
     replace hf := hf.more he 14 rfl (onP e7)
     replace hf := hf.more he 15 rfl (onP e8)
     refine stSt (vs := [.slice ((θ 56).p) ((x_6 ++ [r_10.1]).length) ((θ 56).c)]) hf hc rfl rfl rfl rfl sz_75 rfl rfl u4 fun w hc => cNil ?_
     refine xThenN ?_
     intro ds u hau
     refine ⟨θ,he.stay0 hi hau hf rfl,?_⟩
     try dsimp only
     rw [updE_self E 9]
     exact hc
    ·intro E θ a w hall he hc
     have hf := he.h0
     have e5 := hall 5 rfl
     have e6 := hall 6 rfl
     have e7 := hall 7 rfl
     have e9 := hall 9 rfl
     replace hf := hf.more he 6 rfl (onT)
     replace hf := hf.more he 5 rfl (onT)
     replace hf := hf.more he 4 rfl (onT)
     replace hf := hf.more he 3 rfl (onT)
     replace hf := hf.more he 2 rfl (onT)
     replace hf := hf.more he 1 rfl (onT)
     replace hf := hf.more he 0 rfl (onT)
     try dsimp only at hc
     rw [e5,e6,e7,e9] at hc
     exact ⟨(θ 48).b,(θ 40).p,(θ 40).c,(θ 56).p,(θ 56).c,hf.kp rfl,hc⟩
    rintro a w ⟨b_7,p_16,c_14,p_17,c_15,hf,hc⟩
    replace hc := hc.drop k0
    replace hc := hc.pick k0
    replace hc := hc.pick k2
    replace hc := hc.pick k2
    obtain ⟨hsq_1,hc⟩ := tab_push2 (K := kd_25) ([((p_16,c_14),r_10.1)] : List (H2 × (List Int))) hc
    replace hc : Ctx G (.row p_17 c_15 ((tabR hsq_1 (x_6 ++ [r_10.1])).map (Kd.v kd_25)) 25 1::tabI kd_25 (tabR hsq_1 (x_6 ++ [r_10.1]))::.box b_3 [.slice p_17 ((x_6 ++ [r_10.1]).length) c_15,.slice none 0 0] 78::.row p_1 c_1 (claims.map encI_i64) 3 1::.row p_2 c_2 (r_3.1.map encI_i64) 3 1::.box b_2 [.slice orders_p orders.length orders_c,i6 r_10.2.1,i6 r_10.2.2] 165::Lf) w := hc
    refine h46 _ _ ?_
    refine cReg ?_
    refine stP hf rfl rfl rfl (pAdd rfl rfl) fun a hf => stP hf rfl rfl rfl (pM rfl) fun a hf => cNil ?_
    exact hK15 (W (x_3 + 1),r_10.2.1,r_10.2.2,(x_6 ++ [r_10.1])) _ _ (sj hF).symm ⟨p_17,(c_15,hsq_1),hf.kp rfl,hc⟩
   ·replace hF := condF hb hF
    clear hb
    refine wp_exit ?_
    refine xThen ?_
    refine xThen ?_
    have he := sj hF
    rw [← he] at hfin15
    refine cHit ?_
    exact hr15 _ _ _ hfin15 ⟨p_3,tcq,hf.kp rfl,hc⟩
 have ho6 : ∀ r,x6 = .out r → r = res := by
  rintro r rfl
  exact sj hF
 replace hc := hc.nilRow 3 1
 refine cLoop N (loopW (S := S6) (x := x6) ?_ N (([] : List Int),0,r_2.2.1,r_2.2.2) _ _ ⟨none,0,hf.kp rfl,hc⟩ hx6)
 clear hF hf hc
 rintro ⟨claims,x,x_1,x_2⟩ st6 a w KB6 ⟨p_1,c_1,hf,hc⟩ hF hfin6 hK6
 unfold law11_CrewTurned_b6 at hF
 refine wp_seq_k fun K47 h47 => cReg ?_
 refine stP hf rfl rfl rfl (pLt rfl rfl) fun a hf => cNil ?_
 refine h47 _ _ ?_
 refine wp_seq_k fun K48 h48 => cCond (b := (decide (x < r_2.1))) hf rfl (fun hb => ?_) (fun hb => ?_)
 ·replace hF := condT hb hF
  clear hb
  refine wp_skip ?_
  refine h48 _ _ ?_
  refine wp_seq_k fun K49 h49 => wp_block ?_
  refine cReg ?_
  refine stP hf rfl rfl rfl (pM rfl) fun a hf => stP hf rfl rfl rfl (pM rfl) fun a hf => ?_
  obtain ⟨r_11,hr_11,hF⟩ := bnd_some hF
  refine stC (vs := [pq b_1,i6 1,i6 90]) (caps := []) hf rfl rfl rfl en_50 rfl rfl rfl rfl (kit_Stream_Within_ok (⟨numbers,x_1,x_2⟩ : kit_Stream) 1 90 h_numbers (hc.pick k1) hr_11) ?_
  rintro _ w ⟨rfl,hc⟩
  refine ⟨_,rfl,fun a hf => ?_⟩
  refine stBS (rows := ([r_11.1] : List Int).map encI_i64) (vs := [(0,i6 r_11.1)]) hf hc rfl rfl sl_25 rfl ⟨rfl,rfl,rfl,trivial⟩ rfl rfl fun b_8 a w hf hc => ?_
  obtain ⟨un_3,hun_3,hF⟩ := bnd_some hF
  refine stApm (xs := claims) (ys := ([r_11.1] : List Int)) hf hc rfl rfl sl_25 rfl rfl rfl rfl rfl one_encI_i64 (src_row hc m0) (fun _ _ => u2) (by simpa using room_spec hun_3) fun p_18 c_16 a w hf hc => stP hf rfl rfl rfl (pA rfl) fun a hf => cNil ?_
  refine h49 _ _ ?_
  refine cReg ?_
  refine stP hf rfl rfl rfl (pAdd rfl rfl) fun a hf => stP hf rfl rfl rfl (pM rfl) fun a hf => cNil ?_
  replace hc := hc.drop k0
  replace hc := hc.pick k0
  replace hc := hc.pick k1
  exact hK6 ((claims ++ [r_11.1]),W (x + 1),r_11.2.1,r_11.2.2) _ _ (sj hF).symm ⟨p_18,c_16,hf.kp rfl,hc⟩
 ·replace hF := condF hb hF
  clear hb
  refine wp_exit ?_
  refine xThen ?_
  refine xThen ?_
  have he := sj hF
  rw [← he] at hfin6
  refine cHit ?_
  exact hr6 _ _ _ hfin6 ⟨p_1,c_1,hf.kp rfl,hc⟩

end Go.Nilo
