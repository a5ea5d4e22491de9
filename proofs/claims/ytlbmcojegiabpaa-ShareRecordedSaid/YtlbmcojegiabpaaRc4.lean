/-
 What functions of the Go text compute, as plain functions, and that they do, part 4 of 4. Conditions: what each theorem names.
-/
import Derived.Test.YtlbmcojegiabpaaRc3
import Derived.Test.YtlbmcojegiabpaaProg
set_option linter.unusedVariables false
set_option linter.unusedSimpArgs false
set_option maxRecDepth 100000
set_option maxHeartbeats 4000000
namespace Go.Nilo
open Go.Proofs


def law09_awake (N : Nat)  : Option (Bool) :=
 Option.bind (law09_Two N) fun r =>
 Option.bind (share_Real N r 120) fun r_1 =>
 Option.bind (law09_Two N) fun r_2 =>
 Option.bind (law09_span N 90 185) fun r_3 =>
 Option.bind (share_Shares N r_2 r_3) fun r_4 =>
 Option.bind (law09_Two N) fun r_5 =>
 Option.bind (share_Short N r_5 120) fun r_6 =>
 Option.bind (law09_Line N) fun r_7 =>
 Option.bind (share_Debts N r_7.1 (⟨0,0⟩ : api_Span) r_7.2) fun r_8 =>
 Option.bind (cond ((((r_1.2 != 0) || (r_4.2 != 0)) || (r_6.2 != 0)) || (r_8.2 != 0)) (some true) (Option.bind (kit_Same_int N r_1.1 ([95,18] : List Int)) fun r_9 =>
 some (!r_9))) fun t_1 =>
 Option.bind (cond t_1 (some true) (Option.bind (kit_Same_api_Span N r_4.1 ([(⟨85,120⟩ : api_Span),(⟨0,54⟩ : api_Span)] : List api_Span)) fun r_10 =>
 some (!r_10))) fun t_2 =>
 Option.bind (cond (t_2 || (r_6.1 != 1)) (some true) (Option.bind (kit_Same_api_Span N r_8.1 ([(⟨(-2),8⟩ : api_Span),(⟨(-15),(-12)⟩ : api_Span),(⟨0,0⟩ : api_Span)] : List api_Span)) fun r_11 =>
 some (!r_11))) fun t_3 =>
 cond t_3
 (some false)
 (Option.bind (share_Payback N 100 (⟨15,4,([20,30,30,40,40,40] : List Int)⟩ : share_Pact)) fun r_12 =>
 Option.bind (share_Turns N ([60,30,10] : List Int) 9 0) fun r_13 =>
 Option.bind (share_Turns N ([60,30,10] : List Int) 9 1) fun r_14 =>
 Option.bind (share_Divisors N ([60,30,10] : List Int) ([6,3,0] : List Int) 0) fun r_15 =>
 Option.bind (share_Unfair N ([60,30,10] : List Int) ([7,2,0] : List Int) 0) fun r_16 =>
 Option.bind (cond (((((r_12.2 == 0) && (r_13.2 == 0)) && (r_14.2 == 0)) && (r_15.2.2 == 0)) && (r_16.2.2 == 0)) (Option.bind (kit_Same_int N r_12.1 ([20,20,15,15,15,15] : List Int)) fun r_17 =>
 some r_17) (some false)) fun t_4 =>
 Option.bind (cond t_4 (Option.bind (kit_Same_int N r_13.1 ([6,3,0] : List Int)) fun r_18 =>
 some r_18) (some false)) fun t_5 =>
 Option.bind (cond t_5 (Option.bind (kit_Same_int N r_14.1 ([5,3,1] : List Int)) fun r_19 =>
 some r_19) (some false)) fun t_6 =>
 some ((((t_6 && (r_15.1.N == 10 && r_15.1.D == 1)) && (r_15.2.1.N == r_15.1.N && r_15.2.1.D == r_15.1.D)) && (r_16.1 == 0)) && (r_16.2.1 == 1)))
theorem law09_awake_ok {N : Nat} {G : Pers} {Lf : List Ent} {w : World}    (hc : Ctx G (Lf) w) {res : Bool} (hF : law09_awake N = some res) : Calls Try.prog 13 #[] w (fun e w => e = .returned (.bool res) ∧ Ctx G (Lf) w) := by
 unfold law09_awake at hF
 refine fnIn (args := []) Try.func13 rfl Try.ntmps13 rfl fun a hf => wp_seq_k fun K1 h1 => cReg ?_
 refine stP hf rfl rfl rfl (pA rfl) fun a hf => cNil ?_
 refine h1 _ _ ?_
 refine wp_seq_k fun K2 h2 => cReg ?_
 obtain ⟨r,hr,hF⟩ := bnd_some hF
 refine stC (vs := []) (caps := []) hf rfl rfl rfl en_67 rfl rfl rfl rfl (law09_Two_ok hc hr) ?_
 rintro _ w ⟨p_1,c_1,rfl,hc⟩
 refine ⟨_,rfl,fun a hf => ?_⟩
 obtain ⟨r_1,hr_1,hF⟩ := bnd_some hF
 obtain ⟨G1,hle1,hrd1,hc,hth1⟩ := lend hc k0
 refine stC (vs := [.agg #[.int .i64 r.States,.slice p_1 r.Rights.length c_1],.int .i64 120]) (caps := []) hf rfl rfl rfl en_18 rfl rfl rfl rfl (share_Real_ok r 120 hrd1 hc hr_1) ?_
 rintro _ w ⟨p_2,c_2,rfl,hc⟩
 refine ⟨_,rfl,fun a hf => ?_⟩
 replace hc := hth1 _ _ hc
 refine stP hf rfl rfl rfl (pM rfl) fun a hf => stP hf rfl rfl rfl (pX rfl rfl) fun a hf => stP hf rfl rfl rfl (pX rfl rfl) fun a hf => stP hf rfl rfl rfl (pA rfl) fun a hf => stP hf rfl rfl rfl (pA rfl) fun a hf => cNil ?_
 refine h2 _ _ ?_
 refine wp_seq_k fun K3 h3 => cReg ?_
 obtain ⟨r_2,hr_2,hF⟩ := bnd_some hF
 refine stC (vs := []) (caps := []) hf rfl rfl rfl en_67 rfl rfl rfl rfl (law09_Two_ok hc hr_2) ?_
 rintro _ w ⟨p_3,c_3,rfl,hc⟩
 refine ⟨_,rfl,fun a hf => ?_⟩
 obtain ⟨r_3,hr_3,hF⟩ := bnd_some hF
 refine stE hf hc rfl rfl rfl (eC (v := .agg #[.int .i64 r_3.Lo,.int .i64 r_3.Hi]) (vs := [.int .i64 90,.int .i64 185]) (caps := []) en_60 rfl rfl rfl rfl (fun w hc => law09_span_ok 90 185 hc hr_3)) fun a w hf hc => ?_
 obtain ⟨r_4,hr_4,hF⟩ := bnd_some hF
 obtain ⟨G1,hle1,hrd1,hc,hth1⟩ := lend hc k0
 refine stC (vs := [.agg #[.int .i64 r_2.States,.slice p_3 r_2.Rights.length c_3],.agg #[.int .i64 r_3.Lo,.int .i64 r_3.Hi]]) (caps := []) hf rfl rfl rfl en_21 rfl rfl rfl rfl (share_Shares_ok r_2 r_3 hrd1 hc hr_4) ?_
 rintro _ w ⟨p_4,c_4,rfl,hc⟩
 refine ⟨_,rfl,fun a hf => ?_⟩
 replace hc := hth1 _ _ hc
 refine stP hf rfl rfl rfl (pM rfl) fun a hf => stP hf rfl rfl rfl (pX rfl rfl) fun a hf => stP hf rfl rfl rfl (pX rfl rfl) fun a hf => stP hf rfl rfl rfl (pA rfl) fun a hf => stP hf rfl rfl rfl (pA rfl) fun a hf => cNil ?_
 refine h3 _ _ ?_
 refine wp_seq_k fun K4 h4 => cReg ?_
 obtain ⟨r_5,hr_5,hF⟩ := bnd_some hF
 refine stC (vs := []) (caps := []) hf rfl rfl rfl en_67 rfl rfl rfl rfl (law09_Two_ok hc hr_5) ?_
 rintro _ w ⟨p_5,c_5,rfl,hc⟩
 refine ⟨_,rfl,fun a hf => ?_⟩
 obtain ⟨r_6,hr_6,hF⟩ := bnd_some hF
 refine stE hf hc rfl rfl rfl (eC (v := .tuple #[.int .i64 r_6.1,.int .i64 r_6.2]) (vs := [.agg #[.int .i64 r_5.States,.slice p_5 r_5.Rights.length c_5],.int .i64 120]) (caps := []) en_24 rfl rfl rfl rfl (fun w hc => by obtain ⟨G1,hle1,hrd1,hc,hth1⟩ := lend hc k0; exact (share_Short_ok r_5 120 hrd1 hc hr_6).mono fun e w h => ⟨h.1,((hth1 _ _ h.2).unpick k0)⟩)) fun a w hf hc => stP hf rfl rfl rfl (pM rfl) fun a hf => stP hf rfl rfl rfl (pX rfl rfl) fun a hf => stP hf rfl rfl rfl (pX rfl rfl) fun a hf => stP hf rfl rfl rfl (pA rfl) fun a hf => stP hf rfl rfl rfl (pA rfl) fun a hf => cNil ?_
 refine h4 _ _ ?_
 refine wp_seq_k fun K5 h5 => cReg ?_
 obtain ⟨r_7,hr_7,hF⟩ := bnd_some hF
 refine stC (vs := []) (caps := []) hf rfl rfl rfl en_68 rfl rfl rfl rfl (law09_Line_ok hc hr_7) ?_
 rintro _ w ⟨p_6,c_6,p_7,c_7,rfl,hc⟩
 refine ⟨_,rfl,fun a hf => ?_⟩
 refine stP hf rfl rfl rfl (pM rfl) fun a hf => stP hf rfl rfl rfl (pX rfl rfl) fun a hf => stP hf rfl rfl rfl (pX rfl rfl) fun a hf => stAl (cs := [.slice none 0 0,.int .i64 0]) hf hc rfl rfl zr_88 rfl fun b_1 a w hf hc => stSt (vs := [.slice p_6 r_7.1.Table.length c_6,.int .i64 r_7.1.Credit]) hf hc rfl rfl rfl rfl sz_88 rfl rfl u0 fun w hc => stP hf rfl rfl rfl (pA rfl) fun a hf => cNil ?_
 refine h5 _ _ ?_
 refine wp_seq_k fun K6 h6 => cReg ?_
 refine stE hf hc rfl rfl rfl (eLdN (vs := [.slice p_6 r_7.1.Table.length c_6,.int .i64 r_7.1.Credit]) ag_88 rfl rfl (cells_box (n := 2) m0 rfl)) fun a w hf hc => stP hf rfl rfl rfl (pBuildS (cells := [.int .i64 0,.int .i64 0]) bt_26 rfl rfl) fun a hf => stP hf rfl rfl rfl (pM rfl) fun a hf => ?_
 obtain ⟨r_8,hr_8,hF⟩ := bnd_some hF
 obtain ⟨G1,hle1,hrd1,hc,hth1⟩ := lend hc k1
 obtain ⟨G2,hle2,hrd2,hc,hth2⟩ := lend hc k1
 refine stC (vs := [.agg #[.slice p_6 r_7.1.Table.length c_6,.int .i64 r_7.1.Credit],.agg #[.int .i64 0,.int .i64 0],.slice p_7 r_7.2.length c_7]) (caps := []) hf rfl rfl rfl en_54 rfl rfl rfl rfl (share_Debts_ok r_7.1 (⟨0,0⟩ : api_Span) r_7.2 (hrd1.mono hle2) hrd2 hc hr_8) ?_
 rintro _ w ⟨p_8,c_8,rfl,hc⟩
 refine ⟨_,rfl,fun a hf => ?_⟩
 replace hc := hth2 _ _ hc
 replace hc := hth1 _ _ hc
 refine stP hf rfl rfl rfl (pM rfl) fun a hf => stP hf rfl rfl rfl (pX rfl rfl) fun a hf => stP hf rfl rfl rfl (pX rfl rfl) fun a hf => stP hf rfl rfl rfl (pA rfl) fun a hf => stP hf rfl rfl rfl (pA rfl) fun a hf => cNil ?_
 replace hc := hc.drop k7
 replace hc := hc.drop k5
 replace hc := hc.drop k4
 replace hc := hc.drop k3
 replace hc := hc.drop k1
 replace hc := hc.drop k0
 refine h6 _ _ ?_
 refine wp_seq_k fun K7 h7 => wp_seq_k fun K8 h8 => cReg ?_
 refine stP hf rfl rfl rfl (pM rfl) fun a hf => stP hf rfl rfl rfl (pNe rfl rfl) fun a hf => stP hf rfl rfl rfl (pM rfl) fun a hf => stCut 3 (fun a w => Has 168 a [(1,.slice p_2 r_1.1.length c_2),(2,.int .i64 r_1.2),(3,.slice p_4 r_4.1.length c_4),(4,.int .i64 r_4.2),(5,.int .i64 r_6.1),(6,.int .i64 r_6.2),(9,.slice p_8 r_8.1.length c_8),(10,.int .i64 r_8.2),(46,.int .i64 r_1.2),(47,.bool (r_1.2 != 0)),(48,.bool (r_1.2 != 0)),(51,.bool ((r_1.2 != 0) || (r_4.2 != 0)))] ∧ Ctx G (.row p_8 c_8 (r_8.1.map enc_api_Span) 26 2::.row p_4 c_4 (r_4.1.map enc_api_Span) 26 2::.row p_2 c_2 (r_1.1.map encI_i64) 3 1::Lf) w) ?_ ?_
 ·cases hb : (r_1.2 != 0)
  ·rw [hb] at hf
   refine stP hf rfl rfl rfl (pM rfl) fun a hf => stP hf rfl rfl rfl (pNe rfl rfl) fun a hf => stP hf rfl rfl rfl (pPf rfl rfl) fun a hf => cNil ⟨hf.keep ⟨rfl,rfl,rfl,rfl,rfl,rfl,rfl,rfl,rfl,rfl,rfl,rfl,trivial⟩,hc⟩
  ·rw [hb] at hf
   refine stS hf rfl rfl rfl fun a hf => stS hf rfl rfl rfl fun a hf => stP hf rfl rfl rfl (pPt rfl rfl) fun a hf => cNil ⟨hf.keep ⟨rfl,rfl,rfl,rfl,rfl,rfl,rfl,rfl,rfl,rfl,rfl,rfl,trivial⟩,hc⟩
 intro a w ⟨hf,hc⟩
 refine stP hf rfl rfl rfl (pM rfl) fun a hf => stCut 3 (fun a w => Has 168 a [(1,.slice p_2 r_1.1.length c_2),(2,.int .i64 r_1.2),(3,.slice p_4 r_4.1.length c_4),(4,.int .i64 r_4.2),(5,.int .i64 r_6.1),(6,.int .i64 r_6.2),(9,.slice p_8 r_8.1.length c_8),(10,.int .i64 r_8.2),(46,.int .i64 r_1.2),(47,.bool (r_1.2 != 0)),(48,.bool (r_1.2 != 0)),(51,.bool ((r_1.2 != 0) || (r_4.2 != 0))),(52,.bool ((r_1.2 != 0) || (r_4.2 != 0))),(55,.bool (((r_1.2 != 0) || (r_4.2 != 0)) || (r_6.2 != 0)))] ∧ Ctx G (.row p_8 c_8 (r_8.1.map enc_api_Span) 26 2::.row p_4 c_4 (r_4.1.map enc_api_Span) 26 2::.row p_2 c_2 (r_1.1.map encI_i64) 3 1::Lf) w) ?_ ?_
 ·cases hb : ((r_1.2 != 0) || (r_4.2 != 0))
  ·rw [hb] at hf
   refine stP hf rfl rfl rfl (pM rfl) fun a hf => stP hf rfl rfl rfl (pNe rfl rfl) fun a hf => stP hf rfl rfl rfl (pPf rfl rfl) fun a hf => cNil ⟨hf.keep ⟨rfl,rfl,rfl,rfl,rfl,rfl,rfl,rfl,rfl,rfl,rfl,rfl,rfl,rfl,trivial⟩,hc⟩
  ·rw [hb] at hf
   refine stS hf rfl rfl rfl fun a hf => stS hf rfl rfl rfl fun a hf => stP hf rfl rfl rfl (pPt rfl rfl) fun a hf => cNil ⟨hf.keep ⟨rfl,rfl,rfl,rfl,rfl,rfl,rfl,rfl,rfl,rfl,rfl,rfl,rfl,rfl,trivial⟩,hc⟩
 intro a w ⟨hf,hc⟩
 refine stP hf rfl rfl rfl (pM rfl) fun a hf => stCut 3 (fun a w => Has 168 a [(1,.slice p_2 r_1.1.length c_2),(2,.int .i64 r_1.2),(3,.slice p_4 r_4.1.length c_4),(4,.int .i64 r_4.2),(5,.int .i64 r_6.1),(6,.int .i64 r_6.2),(9,.slice p_8 r_8.1.length c_8),(10,.int .i64 r_8.2),(46,.int .i64 r_1.2),(47,.bool (r_1.2 != 0)),(48,.bool (r_1.2 != 0)),(51,.bool ((r_1.2 != 0) || (r_4.2 != 0))),(52,.bool ((r_1.2 != 0) || (r_4.2 != 0))),(55,.bool (((r_1.2 != 0) || (r_4.2 != 0)) || (r_6.2 != 0))),(56,.bool (((r_1.2 != 0) || (r_4.2 != 0)) || (r_6.2 != 0))),(59,.bool ((((r_1.2 != 0) || (r_4.2 != 0)) || (r_6.2 != 0)) || (r_8.2 != 0)))] ∧ Ctx G (.row p_8 c_8 (r_8.1.map enc_api_Span) 26 2::.row p_4 c_4 (r_4.1.map enc_api_Span) 26 2::.row p_2 c_2 (r_1.1.map encI_i64) 3 1::Lf) w) ?_ ?_
 ·cases hb : (((r_1.2 != 0) || (r_4.2 != 0)) || (r_6.2 != 0))
  ·rw [hb] at hf
   refine stP hf rfl rfl rfl (pM rfl) fun a hf => stP hf rfl rfl rfl (pNe rfl rfl) fun a hf => stP hf rfl rfl rfl (pPf rfl rfl) fun a hf => cNil ⟨hf.keep ⟨rfl,rfl,rfl,rfl,rfl,rfl,rfl,rfl,rfl,rfl,rfl,rfl,rfl,rfl,rfl,rfl,trivial⟩,hc⟩
  ·rw [hb] at hf
   refine stS hf rfl rfl rfl fun a hf => stS hf rfl rfl rfl fun a hf => stP hf rfl rfl rfl (pPt rfl rfl) fun a hf => cNil ⟨hf.keep ⟨rfl,rfl,rfl,rfl,rfl,rfl,rfl,rfl,rfl,rfl,rfl,rfl,rfl,rfl,rfl,rfl,trivial⟩,hc⟩
 intro a w ⟨hf,hc⟩
 refine stP hf rfl rfl rfl (pM rfl) fun a hf => ?_
 obtain ⟨t_1,ht_1,hF⟩ := bnd_some hF
 refine stCut 5 (fun a w => Has 168 a [(1,.slice p_2 r_1.1.length c_2),(2,.int .i64 r_1.2),(3,.slice p_4 r_4.1.length c_4),(4,.int .i64 r_4.2),(5,.int .i64 r_6.1),(6,.int .i64 r_6.2),(9,.slice p_8 r_8.1.length c_8),(10,.int .i64 r_8.2),(46,.int .i64 r_1.2),(47,.bool (r_1.2 != 0)),(48,.bool (r_1.2 != 0)),(51,.bool ((r_1.2 != 0) || (r_4.2 != 0))),(52,.bool ((r_1.2 != 0) || (r_4.2 != 0))),(55,.bool (((r_1.2 != 0) || (r_4.2 != 0)) || (r_6.2 != 0))),(56,.bool (((r_1.2 != 0) || (r_4.2 != 0)) || (r_6.2 != 0))),(59,.bool ((((r_1.2 != 0) || (r_4.2 != 0)) || (r_6.2 != 0)) || (r_8.2 != 0))),(60,.bool ((((r_1.2 != 0) || (r_4.2 != 0)) || (r_6.2 != 0)) || (r_8.2 != 0))),(65,.bool t_1)] ∧ Ctx G (.row p_8 c_8 (r_8.1.map enc_api_Span) 26 2::.row p_4 c_4 (r_4.1.map enc_api_Span) 26 2::.row p_2 c_2 (r_1.1.map encI_i64) 3 1::Lf) w) ?_ ?_
 ·cases hb : ((((r_1.2 != 0) || (r_4.2 != 0)) || (r_6.2 != 0)) || (r_8.2 != 0))
  ·rw [hb] at hf
   have hF := condF hb ht_1
   refine stP hf rfl rfl rfl (pM rfl) fun a hf => stBS (rows := ([95,18] : List Int).map encI_i64) (vs := [(0,.int .i64 95),(1,.int .i64 18)]) hf hc rfl rfl sl_36 rfl ⟨rfl,rfl,rfl,rfl,rfl,rfl,trivial⟩ rfl rfl fun b_2 a w hf hc => ?_
   obtain ⟨r_9,hr_9,hF⟩ := bnd_some hF
   refine stE hf hc rfl rfl rfl (eC (v := .bool r_9) (vs := [.slice p_2 r_1.1.length c_2,.slice (some ⟨b_2,0,none⟩) 2 2]) (caps := []) en_20 rfl rfl rfl rfl (fun w hc => by obtain ⟨G1,hle1,hrd1,hc,hth1⟩ := lend hc k3; obtain ⟨G2,hle2,hrd2,hc,hth2⟩ := lend hc k0; exact (kit_Same_int_ok r_1.1 ([95,18] : List Int) (hrd1.mono hle2) hrd2 hc hr_9).mono fun e w h => ⟨h.1,((hth1 _ _ ((hth2 _ _ h.2).unpick k0)).unpick k3)⟩)) fun a w hf hc => stP hf rfl rfl rfl (pNot rfl) fun a hf => stP hf rfl rfl rfl (pPf rfl rfl) fun a hf => ?_
   replace hc := hc.drop k0
   obtain rfl := Option.some.inj hF
   exact cNil ⟨hf.keep ⟨rfl,rfl,rfl,rfl,rfl,rfl,rfl,rfl,rfl,rfl,rfl,rfl,rfl,rfl,rfl,rfl,rfl,rfl,trivial⟩,hc⟩
  ·rw [hb] at hf
   have hF := condT hb ht_1
   obtain rfl := Option.some.inj hF
   refine stS hf rfl rfl rfl fun a hf => stS hf rfl rfl rfl fun a hf => stS hf rfl rfl rfl fun a hf => stS hf rfl rfl rfl fun a hf => stP hf rfl rfl rfl (pPt rfl rfl) fun a hf => cNil ⟨hf.keep ⟨rfl,rfl,rfl,rfl,rfl,rfl,rfl,rfl,rfl,rfl,rfl,rfl,rfl,rfl,rfl,rfl,rfl,rfl,trivial⟩,hc⟩
 intro a w ⟨hf,hc⟩
 refine stP hf rfl rfl rfl (pM rfl) fun a hf => ?_
 obtain ⟨t_2,ht_2,hF⟩ := bnd_some hF
 refine stCut 7 (fun a w => Has 168 a [(1,.slice p_2 r_1.1.length c_2),(2,.int .i64 r_1.2),(3,.slice p_4 r_4.1.length c_4),(4,.int .i64 r_4.2),(5,.int .i64 r_6.1),(6,.int .i64 r_6.2),(9,.slice p_8 r_8.1.length c_8),(10,.int .i64 r_8.2),(46,.int .i64 r_1.2),(47,.bool (r_1.2 != 0)),(48,.bool (r_1.2 != 0)),(51,.bool ((r_1.2 != 0) || (r_4.2 != 0))),(52,.bool ((r_1.2 != 0) || (r_4.2 != 0))),(55,.bool (((r_1.2 != 0) || (r_4.2 != 0)) || (r_6.2 != 0))),(56,.bool (((r_1.2 != 0) || (r_4.2 != 0)) || (r_6.2 != 0))),(59,.bool ((((r_1.2 != 0) || (r_4.2 != 0)) || (r_6.2 != 0)) || (r_8.2 != 0))),(60,.bool ((((r_1.2 != 0) || (r_4.2 != 0)) || (r_6.2 != 0)) || (r_8.2 != 0))),(65,.bool t_1),(66,.bool t_1),(73,.bool t_2)] ∧ Ctx G (.row p_8 c_8 (r_8.1.map enc_api_Span) 26 2::.row p_4 c_4 (r_4.1.map enc_api_Span) 26 2::.row p_2 c_2 (r_1.1.map encI_i64) 3 1::Lf) w) ?_ ?_
 ·cases hb : t_1
  ·rw [hb] at hf
   try rw [hb] at hc
   have hF := condF hb ht_2
   refine stP hf rfl rfl rfl (pM rfl) fun a hf => stP hf rfl rfl rfl (pBuildS (cells := [.int .i64 85,.int .i64 120]) bt_26 rfl rfl) fun a hf => stP hf rfl rfl rfl (pBuildS (cells := [.int .i64 0,.int .i64 54]) bt_26 rfl rfl) fun a hf => stBS (rows := ([(⟨85,120⟩ : api_Span),(⟨0,54⟩ : api_Span)] : List api_Span).map enc_api_Span) (vs := [(0,.agg #[.int .i64 85,.int .i64 120]),(1,.agg #[.int .i64 0,.int .i64 54])]) hf hc rfl rfl sl_41 rfl ⟨rfl,rfl,rfl,rfl,rfl,rfl,trivial⟩ rfl rfl fun b_3 a w hf hc => ?_
   obtain ⟨r_10,hr_10,hF⟩ := bnd_some hF
   refine stE hf hc rfl rfl rfl (eC (v := .bool r_10) (vs := [.slice p_4 r_4.1.length c_4,.slice (some ⟨b_3,0,none⟩) 2 2]) (caps := []) en_23 rfl rfl rfl rfl (fun w hc => by obtain ⟨G1,hle1,hrd1,hc,hth1⟩ := lend hc k2; obtain ⟨G2,hle2,hrd2,hc,hth2⟩ := lend hc k0; exact (kit_Same_api_Span_ok r_4.1 ([(⟨85,120⟩ : api_Span),(⟨0,54⟩ : api_Span)] : List api_Span) (hrd1.mono hle2) hrd2 hc hr_10).mono fun e w h => ⟨h.1,((hth1 _ _ ((hth2 _ _ h.2).unpick k0)).unpick k2)⟩)) fun a w hf hc => stP hf rfl rfl rfl (pNot rfl) fun a hf => stP hf rfl rfl rfl (pPf rfl rfl) fun a hf => ?_
   replace hc := hc.drop k0
   obtain rfl := Option.some.inj hF
   exact cNil ⟨hf.keep ⟨rfl,rfl,rfl,rfl,rfl,rfl,rfl,rfl,rfl,rfl,rfl,rfl,rfl,rfl,rfl,rfl,rfl,rfl,rfl,rfl,trivial⟩,hc⟩
  ·rw [hb] at hf
   try rw [hb] at hc
   have hF := condT hb ht_2
   obtain rfl := Option.some.inj hF
   refine stS hf rfl rfl rfl fun a hf => stS hf rfl rfl rfl fun a hf => stS hf rfl rfl rfl fun a hf => stS hf rfl rfl rfl fun a hf => stS hf rfl rfl rfl fun a hf => stS hf rfl rfl rfl fun a hf => stP hf rfl rfl rfl (pPt rfl rfl) fun a hf => cNil ⟨hf.keep ⟨rfl,rfl,rfl,rfl,rfl,rfl,rfl,rfl,rfl,rfl,rfl,rfl,rfl,rfl,rfl,rfl,rfl,rfl,rfl,rfl,trivial⟩,hc⟩
 intro a w ⟨hf,hc⟩
 refine stP hf rfl rfl rfl (pM rfl) fun a hf => stCut 3 (fun a w => Has 168 a [(1,.slice p_2 r_1.1.length c_2),(2,.int .i64 r_1.2),(3,.slice p_4 r_4.1.length c_4),(4,.int .i64 r_4.2),(5,.int .i64 r_6.1),(6,.int .i64 r_6.2),(9,.slice p_8 r_8.1.length c_8),(10,.int .i64 r_8.2),(46,.int .i64 r_1.2),(47,.bool (r_1.2 != 0)),(48,.bool (r_1.2 != 0)),(51,.bool ((r_1.2 != 0) || (r_4.2 != 0))),(52,.bool ((r_1.2 != 0) || (r_4.2 != 0))),(55,.bool (((r_1.2 != 0) || (r_4.2 != 0)) || (r_6.2 != 0))),(56,.bool (((r_1.2 != 0) || (r_4.2 != 0)) || (r_6.2 != 0))),(59,.bool ((((r_1.2 != 0) || (r_4.2 != 0)) || (r_6.2 != 0)) || (r_8.2 != 0))),(60,.bool ((((r_1.2 != 0) || (r_4.2 != 0)) || (r_6.2 != 0)) || (r_8.2 != 0))),(65,.bool t_1),(66,.bool t_1),(73,.bool t_2),(74,.bool t_2),(77,.bool (t_2 || (r_6.1 != 1)))] ∧ Ctx G (.row p_8 c_8 (r_8.1.map enc_api_Span) 26 2::.row p_4 c_4 (r_4.1.map enc_api_Span) 26 2::.row p_2 c_2 (r_1.1.map encI_i64) 3 1::Lf) w) ?_ ?_
 ·cases hb : t_2
  ·rw [hb] at hf
   try rw [hb] at hc
   refine stP hf rfl rfl rfl (pM rfl) fun a hf => stP hf rfl rfl rfl (pNe rfl rfl) fun a hf => stP hf rfl rfl rfl (pPf rfl rfl) fun a hf => cNil ⟨hf.keep ⟨rfl,rfl,rfl,rfl,rfl,rfl,rfl,rfl,rfl,rfl,rfl,rfl,rfl,rfl,rfl,rfl,rfl,rfl,rfl,rfl,rfl,rfl,trivial⟩,hc⟩
  ·rw [hb] at hf
   try rw [hb] at hc
   refine stS hf rfl rfl rfl fun a hf => stS hf rfl rfl rfl fun a hf => stP hf rfl rfl rfl (pPt rfl rfl) fun a hf => cNil ⟨hf.keep ⟨rfl,rfl,rfl,rfl,rfl,rfl,rfl,rfl,rfl,rfl,rfl,rfl,rfl,rfl,rfl,rfl,rfl,rfl,rfl,rfl,rfl,rfl,trivial⟩,hc⟩
 intro a w ⟨hf,hc⟩
 refine stP hf rfl rfl rfl (pM rfl) fun a hf => ?_
 obtain ⟨t_3,ht_3,hF⟩ := bnd_some hF
 refine stCut 8 (fun a w => Has 168 a [(1,.slice p_2 r_1.1.length c_2),(2,.int .i64 r_1.2),(3,.slice p_4 r_4.1.length c_4),(4,.int .i64 r_4.2),(5,.int .i64 r_6.1),(6,.int .i64 r_6.2),(9,.slice p_8 r_8.1.length c_8),(10,.int .i64 r_8.2),(46,.int .i64 r_1.2),(47,.bool (r_1.2 != 0)),(48,.bool (r_1.2 != 0)),(51,.bool ((r_1.2 != 0) || (r_4.2 != 0))),(52,.bool ((r_1.2 != 0) || (r_4.2 != 0))),(55,.bool (((r_1.2 != 0) || (r_4.2 != 0)) || (r_6.2 != 0))),(56,.bool (((r_1.2 != 0) || (r_4.2 != 0)) || (r_6.2 != 0))),(59,.bool ((((r_1.2 != 0) || (r_4.2 != 0)) || (r_6.2 != 0)) || (r_8.2 != 0))),(60,.bool ((((r_1.2 != 0) || (r_4.2 != 0)) || (r_6.2 != 0)) || (r_8.2 != 0))),(65,.bool t_1),(66,.bool t_1),(73,.bool t_2),(74,.bool t_2),(77,.bool (t_2 || (r_6.1 != 1))),(78,.bool (t_2 || (r_6.1 != 1))),(86,.bool t_3)] ∧ Ctx G (.row p_8 c_8 (r_8.1.map enc_api_Span) 26 2::.row p_4 c_4 (r_4.1.map enc_api_Span) 26 2::.row p_2 c_2 (r_1.1.map encI_i64) 3 1::Lf) w) ?_ ?_
 ·cases hb : (t_2 || (r_6.1 != 1))
  ·rw [hb] at hf
   have hF := condF hb ht_3
   refine stP hf rfl rfl rfl (pM rfl) fun a hf => stP hf rfl rfl rfl (pBuildS (cells := [.int .i64 (-2),.int .i64 8]) bt_26 rfl rfl) fun a hf => stP hf rfl rfl rfl (pBuildS (cells := [.int .i64 (-15),.int .i64 (-12)]) bt_26 rfl rfl) fun a hf => stP hf rfl rfl rfl (pBuildS (cells := [.int .i64 0,.int .i64 0]) bt_26 rfl rfl) fun a hf => stBS (rows := ([(⟨(-2),8⟩ : api_Span),(⟨(-15),(-12)⟩ : api_Span),(⟨0,0⟩ : api_Span)] : List api_Span).map enc_api_Span) (vs := [(0,.agg #[.int .i64 (-2),.int .i64 8]),(1,.agg #[.int .i64 (-15),.int .i64 (-12)]),(2,.agg #[.int .i64 0,.int .i64 0])]) hf hc rfl rfl sl_41 rfl ⟨rfl,rfl,rfl,rfl,rfl,rfl,rfl,rfl,rfl,trivial⟩ rfl rfl fun b_4 a w hf hc => ?_
   obtain ⟨r_11,hr_11,hF⟩ := bnd_some hF
   refine stE hf hc rfl rfl rfl (eC (v := .bool r_11) (vs := [.slice p_8 r_8.1.length c_8,.slice (some ⟨b_4,0,none⟩) 3 3]) (caps := []) en_23 rfl rfl rfl rfl (fun w hc => by obtain ⟨G1,hle1,hrd1,hc,hth1⟩ := lend hc k1; obtain ⟨G2,hle2,hrd2,hc,hth2⟩ := lend hc k0; exact (kit_Same_api_Span_ok r_8.1 ([(⟨(-2),8⟩ : api_Span),(⟨(-15),(-12)⟩ : api_Span),(⟨0,0⟩ : api_Span)] : List api_Span) (hrd1.mono hle2) hrd2 hc hr_11).mono fun e w h => ⟨h.1,((hth1 _ _ ((hth2 _ _ h.2).unpick k0)).unpick k1)⟩)) fun a w hf hc => stP hf rfl rfl rfl (pNot rfl) fun a hf => stP hf rfl rfl rfl (pPf rfl rfl) fun a hf => ?_
   replace hc := hc.drop k0
   obtain rfl := Option.some.inj hF
   exact cNil ⟨hf.keep ⟨rfl,rfl,rfl,rfl,rfl,rfl,rfl,rfl,rfl,rfl,rfl,rfl,rfl,rfl,rfl,rfl,rfl,rfl,rfl,rfl,rfl,rfl,rfl,rfl,trivial⟩,hc⟩
  ·rw [hb] at hf
   have hF := condT hb ht_3
   obtain rfl := Option.some.inj hF
   refine stS hf rfl rfl rfl fun a hf => stS hf rfl rfl rfl fun a hf => stS hf rfl rfl rfl fun a hf => stS hf rfl rfl rfl fun a hf => stS hf rfl rfl rfl fun a hf => stS hf rfl rfl rfl fun a hf => stS hf rfl rfl rfl fun a hf => stP hf rfl rfl rfl (pPt rfl rfl) fun a hf => cNil ⟨hf.keep ⟨rfl,rfl,rfl,rfl,rfl,rfl,rfl,rfl,rfl,rfl,rfl,rfl,rfl,rfl,rfl,rfl,rfl,rfl,rfl,rfl,rfl,rfl,rfl,rfl,trivial⟩,hc⟩
 intro a w ⟨hf,hc⟩
 refine cNil ?_
 refine h8 _ _ ?_
 refine cCond (b := t_3) hf rfl (fun hb => ?_) (fun hb => ?_)
 ·replace hF := condT hb hF
  clear hb
  refine wp_seq_k fun K9 h9 => cReg ?_
  refine stP hf rfl rfl rfl (pA rfl) fun a hf => cNil ?_
  refine h9 _ _ ?_
  refine wp_ret ?_
  refine xThenR ?_
  obtain rfl := Option.some.inj hF
  replace hc := hc.drop k2
  replace hc := hc.drop k1
  replace hc := hc.drop k0
  exact fnOut1 (by simp) rfl Try.results13 hf hc (show look _ 0 = _ from rfl) ⟨rfl,hc⟩
 ·replace hF := condF hb hF
  clear hb
  refine wp_skip ?_
  refine h7 _ _ ?_
  refine wp_seq_k fun K10 h10 => cReg ?_
  refine stBS (rows := ([20,30,30,40,40,40] : List Int).map encI_i64) (vs := [(0,.int .i64 20),(1,.int .i64 30),(2,.int .i64 30),(3,.int .i64 40),(4,.int .i64 40),(5,.int .i64 40)]) hf hc rfl rfl sl_36 rfl ⟨rfl,rfl,rfl,rfl,rfl,rfl,rfl,rfl,rfl,rfl,rfl,rfl,rfl,rfl,rfl,rfl,rfl,rfl,trivial⟩ rfl rfl fun b_5 a w hf hc => stP hf rfl rfl rfl (pBuildS (cells := [.int .i64 15,.int .i64 4,.slice (some ⟨b_5,0,none⟩) 6 6]) bt_59 rfl rfl) fun a hf => ?_
  obtain ⟨r_12,hr_12,hF⟩ := bnd_some hF
  obtain ⟨G1,hle1,hrd1,hc,hth1⟩ := lend hc k0
  refine stC (vs := [.int .i64 100,.agg #[.int .i64 15,.int .i64 4,.slice (some ⟨b_5,0,none⟩) 6 6]]) (caps := []) hf rfl rfl rfl en_30 rfl rfl rfl rfl (share_Payback_ok 100 (⟨15,4,([20,30,30,40,40,40] : List Int)⟩ : share_Pact) hrd1 hc hr_12) ?_
  rintro _ w ⟨p_9,c_9,rfl,hc⟩
  refine ⟨_,rfl,fun a hf => ?_⟩
  replace hc := hth1 _ _ hc
  refine stP hf rfl rfl rfl (pM rfl) fun a hf => stP hf rfl rfl rfl (pX rfl rfl) fun a hf => stP hf rfl rfl rfl (pX rfl rfl) fun a hf => stP hf rfl rfl rfl (pA rfl) fun a hf => stP hf rfl rfl rfl (pA rfl) fun a hf => cNil ?_
  refine h10 _ _ ?_
  refine wp_seq_k fun K11 h11 => cReg ?_
  refine stBS (rows := ([60,30,10] : List Int).map encI_i64) (vs := [(0,.int .i64 60),(1,.int .i64 30),(2,.int .i64 10)]) hf hc rfl rfl sl_36 rfl ⟨rfl,rfl,rfl,rfl,rfl,rfl,rfl,rfl,rfl,trivial⟩ rfl rfl fun b_6 a w hf hc => ?_
  obtain ⟨r_13,hr_13,hF⟩ := bnd_some hF
  obtain ⟨G1,hle1,hrd1,hc,hth1⟩ := lend hc k0
  refine stC (vs := [.slice (some ⟨b_6,0,none⟩) 3 3,.int .i64 9,.int .i64 0]) (caps := []) hf rfl rfl rfl en_34 rfl rfl rfl rfl (share_Turns_ok ([60,30,10] : List Int) 9 0 hrd1 hc hr_13) ?_
  rintro _ w ⟨p_10,c_10,rfl,hc⟩
  refine ⟨_,rfl,fun a hf => ?_⟩
  replace hc := hth1 _ _ hc
  refine stP hf rfl rfl rfl (pM rfl) fun a hf => stP hf rfl rfl rfl (pX rfl rfl) fun a hf => stP hf rfl rfl rfl (pX rfl rfl) fun a hf => stP hf rfl rfl rfl (pA rfl) fun a hf => stP hf rfl rfl rfl (pA rfl) fun a hf => cNil ?_
  refine h11 _ _ ?_
  refine wp_seq_k fun K12 h12 => cReg ?_
  refine stBS (rows := ([60,30,10] : List Int).map encI_i64) (vs := [(0,.int .i64 60),(1,.int .i64 30),(2,.int .i64 10)]) hf hc rfl rfl sl_36 rfl ⟨rfl,rfl,rfl,rfl,rfl,rfl,rfl,rfl,rfl,trivial⟩ rfl rfl fun b_7 a w hf hc => ?_
  obtain ⟨r_14,hr_14,hF⟩ := bnd_some hF
  obtain ⟨G1,hle1,hrd1,hc,hth1⟩ := lend hc k0
  refine stC (vs := [.slice (some ⟨b_7,0,none⟩) 3 3,.int .i64 9,.int .i64 1]) (caps := []) hf rfl rfl rfl en_34 rfl rfl rfl rfl (share_Turns_ok ([60,30,10] : List Int) 9 1 hrd1 hc hr_14) ?_
  rintro _ w ⟨p_11,c_11,rfl,hc⟩
  refine ⟨_,rfl,fun a hf => ?_⟩
  replace hc := hth1 _ _ hc
  refine stP hf rfl rfl rfl (pM rfl) fun a hf => stP hf rfl rfl rfl (pX rfl rfl) fun a hf => stP hf rfl rfl rfl (pX rfl rfl) fun a hf => stP hf rfl rfl rfl (pA rfl) fun a hf => stP hf rfl rfl rfl (pA rfl) fun a hf => cNil ?_
  replace hc := hc.drop k8
  replace hc := hc.drop k7
  replace hc := hc.drop k6
  replace hc := hc.drop k4
  replace hc := hc.drop k2
  replace hc := hc.drop k0
  refine h12 _ _ ?_
  refine wp_seq_k fun K13 h13 => cReg ?_
  refine stBS (rows := ([60,30,10] : List Int).map encI_i64) (vs := [(0,.int .i64 60),(1,.int .i64 30),(2,.int .i64 10)]) hf hc rfl rfl sl_36 rfl ⟨rfl,rfl,rfl,rfl,rfl,rfl,rfl,rfl,rfl,trivial⟩ rfl rfl fun b_8 a w hf hc => stBS (rows := ([6,3,0] : List Int).map encI_i64) (vs := [(0,.int .i64 6),(1,.int .i64 3),(2,.int .i64 0)]) hf hc rfl rfl sl_36 rfl ⟨rfl,rfl,rfl,rfl,rfl,rfl,rfl,rfl,rfl,trivial⟩ rfl rfl fun b_9 a w hf hc => ?_
  obtain ⟨r_15,hr_15,hF⟩ := bnd_some hF
  refine stE hf hc rfl rfl rfl (eC (v := .tuple #[.agg #[.int .i64 r_15.1.N,.int .i64 r_15.1.D],.agg #[.int .i64 r_15.2.1.N,.int .i64 r_15.2.1.D],.int .i64 r_15.2.2]) (vs := [.slice (some ⟨b_8,0,none⟩) 3 3,.slice (some ⟨b_9,0,none⟩) 3 3,.int .i64 0]) (caps := []) en_39 rfl rfl rfl rfl (fun w hc => by obtain ⟨G1,hle1,hrd1,hc,hth1⟩ := lend hc k1; obtain ⟨G2,hle2,hrd2,hc,hth2⟩ := lend hc k0; exact (share_Divisors_ok ([60,30,10] : List Int) ([6,3,0] : List Int) 0 (hrd1.mono hle2) hrd2 hc hr_15).mono fun e w h => ⟨h.1,((hth1 _ _ ((hth2 _ _ h.2).unpick k0)).unpick k1)⟩)) fun a w hf hc => stP hf rfl rfl rfl (pM rfl) fun a hf => stP hf rfl rfl rfl (pX rfl rfl) fun a hf => stP hf rfl rfl rfl (pX rfl rfl) fun a hf => stP hf rfl rfl rfl (pX rfl rfl) fun a hf => stAl (cs := [.int .i64 0,.int .i64 0]) hf hc rfl rfl zr_71 rfl fun b_10 a w hf hc => stAl (cs := [.int .i64 0,.int .i64 0]) hf hc rfl rfl zr_71 rfl fun b_11 a w hf hc => stSt (vs := [.int .i64 r_15.1.N,.int .i64 r_15.1.D]) hf hc rfl rfl rfl rfl sz_71 rfl rfl u1 fun w hc => stSt (vs := [.int .i64 r_15.2.1.N,.int .i64 r_15.2.1.D]) hf hc rfl rfl rfl rfl sz_71 rfl rfl u0 fun w hc => stP hf rfl rfl rfl (pA rfl) fun a hf => cNil ?_
  refine h13 _ _ ?_
  refine wp_seq_k fun K14 h14 => cReg ?_
  refine stBS (rows := ([60,30,10] : List Int).map encI_i64) (vs := [(0,.int .i64 60),(1,.int .i64 30),(2,.int .i64 10)]) hf hc rfl rfl sl_36 rfl ⟨rfl,rfl,rfl,rfl,rfl,rfl,rfl,rfl,rfl,trivial⟩ rfl rfl fun b_12 a w hf hc => stBS (rows := ([7,2,0] : List Int).map encI_i64) (vs := [(0,.int .i64 7),(1,.int .i64 2),(2,.int .i64 0)]) hf hc rfl rfl sl_36 rfl ⟨rfl,rfl,rfl,rfl,rfl,rfl,rfl,rfl,rfl,trivial⟩ rfl rfl fun b_13 a w hf hc => ?_
  obtain ⟨r_16,hr_16,hF⟩ := bnd_some hF
  refine stE hf hc rfl rfl rfl (eC (v := .tuple #[.int .i64 r_16.1,.int .i64 r_16.2.1,.int .i64 r_16.2.2]) (vs := [.slice (some ⟨b_12,0,none⟩) 3 3,.slice (some ⟨b_13,0,none⟩) 3 3,.int .i64 0]) (caps := []) en_37 rfl rfl rfl rfl (fun w hc => by obtain ⟨G1,hle1,hrd1,hc,hth1⟩ := lend hc k1; obtain ⟨G2,hle2,hrd2,hc,hth2⟩ := lend hc k0; exact (share_Unfair_ok ([60,30,10] : List Int) ([7,2,0] : List Int) 0 (hrd1.mono hle2) hrd2 hc hr_16).mono fun e w h => ⟨h.1,((hth1 _ _ ((hth2 _ _ h.2).unpick k0)).unpick k1)⟩)) fun a w hf hc => stP hf rfl rfl rfl (pM rfl) fun a hf => stP hf rfl rfl rfl (pX rfl rfl) fun a hf => stP hf rfl rfl rfl (pX rfl rfl) fun a hf => stP hf rfl rfl rfl (pX rfl rfl) fun a hf => stP hf rfl rfl rfl (pA rfl) fun a hf => stP hf rfl rfl rfl (pA rfl) fun a hf => stP hf rfl rfl rfl (pA rfl) fun a hf => cNil ?_
  replace hc := hc.drop k5
  replace hc := hc.drop k4
  replace hc := hc.drop k1
  replace hc := hc.drop k0
  refine h14 _ _ ?_
  refine wp_seq_k fun K15 h15 => cReg ?_
  refine stP hf rfl rfl rfl (pM rfl) fun a hf => stP hf rfl rfl rfl (pEq rfl rfl) fun a hf => stP hf rfl rfl rfl (pM rfl) fun a hf => stCut 3 (fun a w => Has 168 a [(2,.int .i64 r_12.2),(4,.int .i64 r_13.2),(6,.int .i64 r_14.2),(10,.int .i64 r_15.2.2),(11,.slice p_9 r_12.1.length c_9),(12,.slice p_10 r_13.1.length c_10),(13,.slice p_11 r_14.1.length c_11),(14,.pointer (some ⟨b_10,0,none⟩)),(15,.pointer (some ⟨b_11,0,none⟩)),(16,.int .i64 r_16.1),(17,.int .i64 r_16.2.1),(18,.int .i64 r_16.2.2),(117,.int .i64 r_12.2),(118,.bool (r_12.2 == 0)),(119,.bool (r_12.2 == 0)),(122,.bool ((r_12.2 == 0) && (r_13.2 == 0)))] ∧ Ctx G (.box b_11 [.int .i64 r_15.2.1.N,.int .i64 r_15.2.1.D] 71::.box b_10 [.int .i64 r_15.1.N,.int .i64 r_15.1.D] 71::.row p_11 c_11 (r_14.1.map encI_i64) 3 1::.row p_10 c_10 (r_13.1.map encI_i64) 3 1::.row p_9 c_9 (r_12.1.map encI_i64) 3 1::Lf) w) ?_ ?_
  ·cases hb : (r_12.2 == 0)
   ·rw [hb] at hf
    refine stS hf rfl rfl rfl fun a hf => stS hf rfl rfl rfl fun a hf => stP hf rfl rfl rfl (pPf rfl rfl) fun a hf => cNil ⟨hf.keep ⟨rfl,rfl,rfl,rfl,rfl,rfl,rfl,rfl,rfl,rfl,rfl,rfl,rfl,rfl,rfl,rfl,trivial⟩,hc⟩
   ·rw [hb] at hf
    refine stP hf rfl rfl rfl (pM rfl) fun a hf => stP hf rfl rfl rfl (pEq rfl rfl) fun a hf => stP hf rfl rfl rfl (pPt rfl rfl) fun a hf => cNil ⟨hf.keep ⟨rfl,rfl,rfl,rfl,rfl,rfl,rfl,rfl,rfl,rfl,rfl,rfl,rfl,rfl,rfl,rfl,trivial⟩,hc⟩
  intro a w ⟨hf,hc⟩
  refine stP hf rfl rfl rfl (pM rfl) fun a hf => stCut 3 (fun a w => Has 168 a [(2,.int .i64 r_12.2),(4,.int .i64 r_13.2),(6,.int .i64 r_14.2),(10,.int .i64 r_15.2.2),(11,.slice p_9 r_12.1.length c_9),(12,.slice p_10 r_13.1.length c_10),(13,.slice p_11 r_14.1.length c_11),(14,.pointer (some ⟨b_10,0,none⟩)),(15,.pointer (some ⟨b_11,0,none⟩)),(16,.int .i64 r_16.1),(17,.int .i64 r_16.2.1),(18,.int .i64 r_16.2.2),(117,.int .i64 r_12.2),(118,.bool (r_12.2 == 0)),(119,.bool (r_12.2 == 0)),(122,.bool ((r_12.2 == 0) && (r_13.2 == 0))),(123,.bool ((r_12.2 == 0) && (r_13.2 == 0))),(126,.bool (((r_12.2 == 0) && (r_13.2 == 0)) && (r_14.2 == 0)))] ∧ Ctx G (.box b_11 [.int .i64 r_15.2.1.N,.int .i64 r_15.2.1.D] 71::.box b_10 [.int .i64 r_15.1.N,.int .i64 r_15.1.D] 71::.row p_11 c_11 (r_14.1.map encI_i64) 3 1::.row p_10 c_10 (r_13.1.map encI_i64) 3 1::.row p_9 c_9 (r_12.1.map encI_i64) 3 1::Lf) w) ?_ ?_
  ·cases hb : ((r_12.2 == 0) && (r_13.2 == 0))
   ·rw [hb] at hf
    refine stS hf rfl rfl rfl fun a hf => stS hf rfl rfl rfl fun a hf => stP hf rfl rfl rfl (pPf rfl rfl) fun a hf => cNil ⟨hf.keep ⟨rfl,rfl,rfl,rfl,rfl,rfl,rfl,rfl,rfl,rfl,rfl,rfl,rfl,rfl,rfl,rfl,rfl,rfl,trivial⟩,hc⟩
   ·rw [hb] at hf
    refine stP hf rfl rfl rfl (pM rfl) fun a hf => stP hf rfl rfl rfl (pEq rfl rfl) fun a hf => stP hf rfl rfl rfl (pPt rfl rfl) fun a hf => cNil ⟨hf.keep ⟨rfl,rfl,rfl,rfl,rfl,rfl,rfl,rfl,rfl,rfl,rfl,rfl,rfl,rfl,rfl,rfl,rfl,rfl,trivial⟩,hc⟩
  intro a w ⟨hf,hc⟩
  refine stP hf rfl rfl rfl (pM rfl) fun a hf => stCut 3 (fun a w => Has 168 a [(2,.int .i64 r_12.2),(4,.int .i64 r_13.2),(6,.int .i64 r_14.2),(10,.int .i64 r_15.2.2),(11,.slice p_9 r_12.1.length c_9),(12,.slice p_10 r_13.1.length c_10),(13,.slice p_11 r_14.1.length c_11),(14,.pointer (some ⟨b_10,0,none⟩)),(15,.pointer (some ⟨b_11,0,none⟩)),(16,.int .i64 r_16.1),(17,.int .i64 r_16.2.1),(18,.int .i64 r_16.2.2),(117,.int .i64 r_12.2),(118,.bool (r_12.2 == 0)),(119,.bool (r_12.2 == 0)),(122,.bool ((r_12.2 == 0) && (r_13.2 == 0))),(123,.bool ((r_12.2 == 0) && (r_13.2 == 0))),(126,.bool (((r_12.2 == 0) && (r_13.2 == 0)) && (r_14.2 == 0))),(127,.bool (((r_12.2 == 0) && (r_13.2 == 0)) && (r_14.2 == 0))),(130,.bool ((((r_12.2 == 0) && (r_13.2 == 0)) && (r_14.2 == 0)) && (r_15.2.2 == 0)))] ∧ Ctx G (.box b_11 [.int .i64 r_15.2.1.N,.int .i64 r_15.2.1.D] 71::.box b_10 [.int .i64 r_15.1.N,.int .i64 r_15.1.D] 71::.row p_11 c_11 (r_14.1.map encI_i64) 3 1::.row p_10 c_10 (r_13.1.map encI_i64) 3 1::.row p_9 c_9 (r_12.1.map encI_i64) 3 1::Lf) w) ?_ ?_
  ·cases hb : (((r_12.2 == 0) && (r_13.2 == 0)) && (r_14.2 == 0))
   ·rw [hb] at hf
    refine stS hf rfl rfl rfl fun a hf => stS hf rfl rfl rfl fun a hf => stP hf rfl rfl rfl (pPf rfl rfl) fun a hf => cNil ⟨hf.keep ⟨rfl,rfl,rfl,rfl,rfl,rfl,rfl,rfl,rfl,rfl,rfl,rfl,rfl,rfl,rfl,rfl,rfl,rfl,rfl,rfl,trivial⟩,hc⟩
   ·rw [hb] at hf
    refine stP hf rfl rfl rfl (pM rfl) fun a hf => stP hf rfl rfl rfl (pEq rfl rfl) fun a hf => stP hf rfl rfl rfl (pPt rfl rfl) fun a hf => cNil ⟨hf.keep ⟨rfl,rfl,rfl,rfl,rfl,rfl,rfl,rfl,rfl,rfl,rfl,rfl,rfl,rfl,rfl,rfl,rfl,rfl,rfl,rfl,trivial⟩,hc⟩
  intro a w ⟨hf,hc⟩
  refine stP hf rfl rfl rfl (pM rfl) fun a hf => stCut 3 (fun a w => Has 168 a [(2,.int .i64 r_12.2),(4,.int .i64 r_13.2),(6,.int .i64 r_14.2),(10,.int .i64 r_15.2.2),(11,.slice p_9 r_12.1.length c_9),(12,.slice p_10 r_13.1.length c_10),(13,.slice p_11 r_14.1.length c_11),(14,.pointer (some ⟨b_10,0,none⟩)),(15,.pointer (some ⟨b_11,0,none⟩)),(16,.int .i64 r_16.1),(17,.int .i64 r_16.2.1),(18,.int .i64 r_16.2.2),(117,.int .i64 r_12.2),(118,.bool (r_12.2 == 0)),(119,.bool (r_12.2 == 0)),(122,.bool ((r_12.2 == 0) && (r_13.2 == 0))),(123,.bool ((r_12.2 == 0) && (r_13.2 == 0))),(126,.bool (((r_12.2 == 0) && (r_13.2 == 0)) && (r_14.2 == 0))),(127,.bool (((r_12.2 == 0) && (r_13.2 == 0)) && (r_14.2 == 0))),(130,.bool ((((r_12.2 == 0) && (r_13.2 == 0)) && (r_14.2 == 0)) && (r_15.2.2 == 0))),(131,.bool ((((r_12.2 == 0) && (r_13.2 == 0)) && (r_14.2 == 0)) && (r_15.2.2 == 0))),(134,.bool (((((r_12.2 == 0) && (r_13.2 == 0)) && (r_14.2 == 0)) && (r_15.2.2 == 0)) && (r_16.2.2 == 0)))] ∧ Ctx G (.box b_11 [.int .i64 r_15.2.1.N,.int .i64 r_15.2.1.D] 71::.box b_10 [.int .i64 r_15.1.N,.int .i64 r_15.1.D] 71::.row p_11 c_11 (r_14.1.map encI_i64) 3 1::.row p_10 c_10 (r_13.1.map encI_i64) 3 1::.row p_9 c_9 (r_12.1.map encI_i64) 3 1::Lf) w) ?_ ?_
  ·cases hb : ((((r_12.2 == 0) && (r_13.2 == 0)) && (r_14.2 == 0)) && (r_15.2.2 == 0))
   ·rw [hb] at hf
    refine stS hf rfl rfl rfl fun a hf => stS hf rfl rfl rfl fun a hf => stP hf rfl rfl rfl (pPf rfl rfl) fun a hf => cNil ⟨hf.keep ⟨rfl,rfl,rfl,rfl,rfl,rfl,rfl,rfl,rfl,rfl,rfl,rfl,rfl,rfl,rfl,rfl,rfl,rfl,rfl,rfl,rfl,rfl,trivial⟩,hc⟩
   ·rw [hb] at hf
    refine stP hf rfl rfl rfl (pM rfl) fun a hf => stP hf rfl rfl rfl (pEq rfl rfl) fun a hf => stP hf rfl rfl rfl (pPt rfl rfl) fun a hf => cNil ⟨hf.keep ⟨rfl,rfl,rfl,rfl,rfl,rfl,rfl,rfl,rfl,rfl,rfl,rfl,rfl,rfl,rfl,rfl,rfl,rfl,rfl,rfl,rfl,rfl,trivial⟩,hc⟩
  intro a w ⟨hf,hc⟩
  refine stP hf rfl rfl rfl (pM rfl) fun a hf => ?_
  obtain ⟨t_4,ht_4,hF⟩ := bnd_some hF
  refine stCut 4 (fun a w => Has 168 a [(2,.int .i64 r_12.2),(4,.int .i64 r_13.2),(6,.int .i64 r_14.2),(10,.int .i64 r_15.2.2),(11,.slice p_9 r_12.1.length c_9),(12,.slice p_10 r_13.1.length c_10),(13,.slice p_11 r_14.1.length c_11),(14,.pointer (some ⟨b_10,0,none⟩)),(15,.pointer (some ⟨b_11,0,none⟩)),(16,.int .i64 r_16.1),(17,.int .i64 r_16.2.1),(18,.int .i64 r_16.2.2),(117,.int .i64 r_12.2),(118,.bool (r_12.2 == 0)),(119,.bool (r_12.2 == 0)),(122,.bool ((r_12.2 == 0) && (r_13.2 == 0))),(123,.bool ((r_12.2 == 0) && (r_13.2 == 0))),(126,.bool (((r_12.2 == 0) && (r_13.2 == 0)) && (r_14.2 == 0))),(127,.bool (((r_12.2 == 0) && (r_13.2 == 0)) && (r_14.2 == 0))),(130,.bool ((((r_12.2 == 0) && (r_13.2 == 0)) && (r_14.2 == 0)) && (r_15.2.2 == 0))),(131,.bool ((((r_12.2 == 0) && (r_13.2 == 0)) && (r_14.2 == 0)) && (r_15.2.2 == 0))),(134,.bool (((((r_12.2 == 0) && (r_13.2 == 0)) && (r_14.2 == 0)) && (r_15.2.2 == 0)) && (r_16.2.2 == 0))),(135,.bool (((((r_12.2 == 0) && (r_13.2 == 0)) && (r_14.2 == 0)) && (r_15.2.2 == 0)) && (r_16.2.2 == 0))),(139,.bool t_4)] ∧ Ctx G (.box b_11 [.int .i64 r_15.2.1.N,.int .i64 r_15.2.1.D] 71::.box b_10 [.int .i64 r_15.1.N,.int .i64 r_15.1.D] 71::.row p_11 c_11 (r_14.1.map encI_i64) 3 1::.row p_10 c_10 (r_13.1.map encI_i64) 3 1::.row p_9 c_9 (r_12.1.map encI_i64) 3 1::Lf) w) ?_ ?_
  ·cases hb : (((((r_12.2 == 0) && (r_13.2 == 0)) && (r_14.2 == 0)) && (r_15.2.2 == 0)) && (r_16.2.2 == 0))
   ·rw [hb] at hf
    have hF := condF hb ht_4
    obtain rfl := Option.some.inj hF
    refine stS hf rfl rfl rfl fun a hf => stS hf rfl rfl rfl fun a hf => stS hf rfl rfl rfl fun a hf => stP hf rfl rfl rfl (pPf rfl rfl) fun a hf => cNil ⟨hf.keep ⟨rfl,rfl,rfl,rfl,rfl,rfl,rfl,rfl,rfl,rfl,rfl,rfl,rfl,rfl,rfl,rfl,rfl,rfl,rfl,rfl,rfl,rfl,rfl,rfl,trivial⟩,hc⟩
   ·rw [hb] at hf
    have hF := condT hb ht_4
    refine stP hf rfl rfl rfl (pM rfl) fun a hf => stBS (rows := ([20,20,15,15,15,15] : List Int).map encI_i64) (vs := [(0,.int .i64 20),(1,.int .i64 20),(2,.int .i64 15),(3,.int .i64 15),(4,.int .i64 15),(5,.int .i64 15)]) hf hc rfl rfl sl_36 rfl ⟨rfl,rfl,rfl,rfl,rfl,rfl,rfl,rfl,rfl,rfl,rfl,rfl,rfl,rfl,rfl,rfl,rfl,rfl,trivial⟩ rfl rfl fun b_14 a w hf hc => ?_
    obtain ⟨r_17,hr_17,hF⟩ := bnd_some hF
    refine stE hf hc rfl rfl rfl (eC (v := .bool r_17) (vs := [.slice p_9 r_12.1.length c_9,.slice (some ⟨b_14,0,none⟩) 6 6]) (caps := []) en_20 rfl rfl rfl rfl (fun w hc => by obtain ⟨G1,hle1,hrd1,hc,hth1⟩ := lend hc k5; obtain ⟨G2,hle2,hrd2,hc,hth2⟩ := lend hc k0; exact (kit_Same_int_ok r_12.1 ([20,20,15,15,15,15] : List Int) (hrd1.mono hle2) hrd2 hc hr_17).mono fun e w h => ⟨h.1,((hth1 _ _ ((hth2 _ _ h.2).unpick k0)).unpick k5)⟩)) fun a w hf hc => stP hf rfl rfl rfl (pPt rfl rfl) fun a hf => ?_
    replace hc := hc.drop k0
    obtain rfl := Option.some.inj hF
    exact cNil ⟨hf.keep ⟨rfl,rfl,rfl,rfl,rfl,rfl,rfl,rfl,rfl,rfl,rfl,rfl,rfl,rfl,rfl,rfl,rfl,rfl,rfl,rfl,rfl,rfl,rfl,rfl,trivial⟩,hc⟩
  intro a w ⟨hf,hc⟩
  refine stP hf rfl rfl rfl (pM rfl) fun a hf => ?_
  obtain ⟨t_5,ht_5,hF⟩ := bnd_some hF
  refine stCut 4 (fun a w => Has 168 a [(2,.int .i64 r_12.2),(4,.int .i64 r_13.2),(6,.int .i64 r_14.2),(10,.int .i64 r_15.2.2),(11,.slice p_9 r_12.1.length c_9),(12,.slice p_10 r_13.1.length c_10),(13,.slice p_11 r_14.1.length c_11),(14,.pointer (some ⟨b_10,0,none⟩)),(15,.pointer (some ⟨b_11,0,none⟩)),(16,.int .i64 r_16.1),(17,.int .i64 r_16.2.1),(18,.int .i64 r_16.2.2),(117,.int .i64 r_12.2),(118,.bool (r_12.2 == 0)),(119,.bool (r_12.2 == 0)),(122,.bool ((r_12.2 == 0) && (r_13.2 == 0))),(123,.bool ((r_12.2 == 0) && (r_13.2 == 0))),(126,.bool (((r_12.2 == 0) && (r_13.2 == 0)) && (r_14.2 == 0))),(127,.bool (((r_12.2 == 0) && (r_13.2 == 0)) && (r_14.2 == 0))),(130,.bool ((((r_12.2 == 0) && (r_13.2 == 0)) && (r_14.2 == 0)) && (r_15.2.2 == 0))),(131,.bool ((((r_12.2 == 0) && (r_13.2 == 0)) && (r_14.2 == 0)) && (r_15.2.2 == 0))),(134,.bool (((((r_12.2 == 0) && (r_13.2 == 0)) && (r_14.2 == 0)) && (r_15.2.2 == 0)) && (r_16.2.2 == 0))),(135,.bool (((((r_12.2 == 0) && (r_13.2 == 0)) && (r_14.2 == 0)) && (r_15.2.2 == 0)) && (r_16.2.2 == 0))),(139,.bool t_4),(140,.bool t_4),(144,.bool t_5)] ∧ Ctx G (.box b_11 [.int .i64 r_15.2.1.N,.int .i64 r_15.2.1.D] 71::.box b_10 [.int .i64 r_15.1.N,.int .i64 r_15.1.D] 71::.row p_11 c_11 (r_14.1.map encI_i64) 3 1::.row p_10 c_10 (r_13.1.map encI_i64) 3 1::.row p_9 c_9 (r_12.1.map encI_i64) 3 1::Lf) w) ?_ ?_
  ·cases hb : t_4
   ·rw [hb] at hf
    try rw [hb] at hc
    have hF := condF hb ht_5
    obtain rfl := Option.some.inj hF
    refine stS hf rfl rfl rfl fun a hf => stS hf rfl rfl rfl fun a hf => stS hf rfl rfl rfl fun a hf => stP hf rfl rfl rfl (pPf rfl rfl) fun a hf => cNil ⟨hf.keep ⟨rfl,rfl,rfl,rfl,rfl,rfl,rfl,rfl,rfl,rfl,rfl,rfl,rfl,rfl,rfl,rfl,rfl,rfl,rfl,rfl,rfl,rfl,rfl,rfl,rfl,rfl,trivial⟩,hc⟩
   ·rw [hb] at hf
    try rw [hb] at hc
    have hF := condT hb ht_5
    refine stP hf rfl rfl rfl (pM rfl) fun a hf => stBS (rows := ([6,3,0] : List Int).map encI_i64) (vs := [(0,.int .i64 6),(1,.int .i64 3),(2,.int .i64 0)]) hf hc rfl rfl sl_36 rfl ⟨rfl,rfl,rfl,rfl,rfl,rfl,rfl,rfl,rfl,trivial⟩ rfl rfl fun b_15 a w hf hc => ?_
    obtain ⟨r_18,hr_18,hF⟩ := bnd_some hF
    refine stE hf hc rfl rfl rfl (eC (v := .bool r_18) (vs := [.slice p_10 r_13.1.length c_10,.slice (some ⟨b_15,0,none⟩) 3 3]) (caps := []) en_20 rfl rfl rfl rfl (fun w hc => by obtain ⟨G1,hle1,hrd1,hc,hth1⟩ := lend hc k4; obtain ⟨G2,hle2,hrd2,hc,hth2⟩ := lend hc k0; exact (kit_Same_int_ok r_13.1 ([6,3,0] : List Int) (hrd1.mono hle2) hrd2 hc hr_18).mono fun e w h => ⟨h.1,((hth1 _ _ ((hth2 _ _ h.2).unpick k0)).unpick k4)⟩)) fun a w hf hc => stP hf rfl rfl rfl (pPt rfl rfl) fun a hf => ?_
    replace hc := hc.drop k0
    obtain rfl := Option.some.inj hF
    exact cNil ⟨hf.keep ⟨rfl,rfl,rfl,rfl,rfl,rfl,rfl,rfl,rfl,rfl,rfl,rfl,rfl,rfl,rfl,rfl,rfl,rfl,rfl,rfl,rfl,rfl,rfl,rfl,rfl,rfl,trivial⟩,hc⟩
  intro a w ⟨hf,hc⟩
  refine stP hf rfl rfl rfl (pM rfl) fun a hf => ?_
  obtain ⟨t_6,ht_6,hF⟩ := bnd_some hF
  refine stCut 4 (fun a w => Has 168 a [(2,.int .i64 r_12.2),(4,.int .i64 r_13.2),(6,.int .i64 r_14.2),(10,.int .i64 r_15.2.2),(11,.slice p_9 r_12.1.length c_9),(12,.slice p_10 r_13.1.length c_10),(13,.slice p_11 r_14.1.length c_11),(14,.pointer (some ⟨b_10,0,none⟩)),(15,.pointer (some ⟨b_11,0,none⟩)),(16,.int .i64 r_16.1),(17,.int .i64 r_16.2.1),(18,.int .i64 r_16.2.2),(117,.int .i64 r_12.2),(118,.bool (r_12.2 == 0)),(119,.bool (r_12.2 == 0)),(122,.bool ((r_12.2 == 0) && (r_13.2 == 0))),(123,.bool ((r_12.2 == 0) && (r_13.2 == 0))),(126,.bool (((r_12.2 == 0) && (r_13.2 == 0)) && (r_14.2 == 0))),(127,.bool (((r_12.2 == 0) && (r_13.2 == 0)) && (r_14.2 == 0))),(130,.bool ((((r_12.2 == 0) && (r_13.2 == 0)) && (r_14.2 == 0)) && (r_15.2.2 == 0))),(131,.bool ((((r_12.2 == 0) && (r_13.2 == 0)) && (r_14.2 == 0)) && (r_15.2.2 == 0))),(134,.bool (((((r_12.2 == 0) && (r_13.2 == 0)) && (r_14.2 == 0)) && (r_15.2.2 == 0)) && (r_16.2.2 == 0))),(135,.bool (((((r_12.2 == 0) && (r_13.2 == 0)) && (r_14.2 == 0)) && (r_15.2.2 == 0)) && (r_16.2.2 == 0))),(139,.bool t_4),(140,.bool t_4),(144,.bool t_5),(145,.bool t_5),(149,.bool t_6)] ∧ Ctx G (.box b_11 [.int .i64 r_15.2.1.N,.int .i64 r_15.2.1.D] 71::.box b_10 [.int .i64 r_15.1.N,.int .i64 r_15.1.D] 71::.row p_11 c_11 (r_14.1.map encI_i64) 3 1::.row p_10 c_10 (r_13.1.map encI_i64) 3 1::.row p_9 c_9 (r_12.1.map encI_i64) 3 1::Lf) w) ?_ ?_
  ·cases hb : t_5
   ·rw [hb] at hf
    try rw [hb] at hc
    have hF := condF hb ht_6
    obtain rfl := Option.some.inj hF
    refine stS hf rfl rfl rfl fun a hf => stS hf rfl rfl rfl fun a hf => stS hf rfl rfl rfl fun a hf => stP hf rfl rfl rfl (pPf rfl rfl) fun a hf => cNil ⟨hf.keep ⟨rfl,rfl,rfl,rfl,rfl,rfl,rfl,rfl,rfl,rfl,rfl,rfl,rfl,rfl,rfl,rfl,rfl,rfl,rfl,rfl,rfl,rfl,rfl,rfl,rfl,rfl,rfl,rfl,trivial⟩,hc⟩
   ·rw [hb] at hf
    try rw [hb] at hc
    have hF := condT hb ht_6
    refine stP hf rfl rfl rfl (pM rfl) fun a hf => stBS (rows := ([5,3,1] : List Int).map encI_i64) (vs := [(0,.int .i64 5),(1,.int .i64 3),(2,.int .i64 1)]) hf hc rfl rfl sl_36 rfl ⟨rfl,rfl,rfl,rfl,rfl,rfl,rfl,rfl,rfl,trivial⟩ rfl rfl fun b_16 a w hf hc => ?_
    obtain ⟨r_19,hr_19,hF⟩ := bnd_some hF
    refine stE hf hc rfl rfl rfl (eC (v := .bool r_19) (vs := [.slice p_11 r_14.1.length c_11,.slice (some ⟨b_16,0,none⟩) 3 3]) (caps := []) en_20 rfl rfl rfl rfl (fun w hc => by obtain ⟨G1,hle1,hrd1,hc,hth1⟩ := lend hc k3; obtain ⟨G2,hle2,hrd2,hc,hth2⟩ := lend hc k0; exact (kit_Same_int_ok r_14.1 ([5,3,1] : List Int) (hrd1.mono hle2) hrd2 hc hr_19).mono fun e w h => ⟨h.1,((hth1 _ _ ((hth2 _ _ h.2).unpick k0)).unpick k3)⟩)) fun a w hf hc => stP hf rfl rfl rfl (pPt rfl rfl) fun a hf => ?_
    replace hc := hc.drop k0
    obtain rfl := Option.some.inj hF
    exact cNil ⟨hf.keep ⟨rfl,rfl,rfl,rfl,rfl,rfl,rfl,rfl,rfl,rfl,rfl,rfl,rfl,rfl,rfl,rfl,rfl,rfl,rfl,rfl,rfl,rfl,rfl,rfl,rfl,rfl,rfl,rfl,trivial⟩,hc⟩
  intro a w ⟨hf,hc⟩
  refine stP hf rfl rfl rfl (pM rfl) fun a hf => stCut 4 (fun a w => Has 168 a ((2,.int .i64 r_12.2)::(4,.int .i64 r_13.2)::(6,.int .i64 r_14.2)::(10,.int .i64 r_15.2.2)::(11,.slice p_9 r_12.1.length c_9)::(12,.slice p_10 r_13.1.length c_10)::(13,.slice p_11 r_14.1.length c_11)::(14,.pointer (some ⟨b_10,0,none⟩))::(15,.pointer (some ⟨b_11,0,none⟩))::(16,.int .i64 r_16.1)::(17,.int .i64 r_16.2.1)::(18,.int .i64 r_16.2.2)::(117,.int .i64 r_12.2)::(118,.bool (r_12.2 == 0))::(119,.bool (r_12.2 == 0))::(122,.bool ((r_12.2 == 0) && (r_13.2 == 0)))::(123,.bool ((r_12.2 == 0) && (r_13.2 == 0)))::(126,.bool (((r_12.2 == 0) && (r_13.2 == 0)) && (r_14.2 == 0)))::(127,.bool (((r_12.2 == 0) && (r_13.2 == 0)) && (r_14.2 == 0)))::(130,.bool ((((r_12.2 == 0) && (r_13.2 == 0)) && (r_14.2 == 0)) && (r_15.2.2 == 0)))::(131,.bool ((((r_12.2 == 0) && (r_13.2 == 0)) && (r_14.2 == 0)) && (r_15.2.2 == 0)))::(134,.bool (((((r_12.2 == 0) && (r_13.2 == 0)) && (r_14.2 == 0)) && (r_15.2.2 == 0)) && (r_16.2.2 == 0)))::(135,.bool (((((r_12.2 == 0) && (r_13.2 == 0)) && (r_14.2 == 0)) && (r_15.2.2 == 0)) && (r_16.2.2 == 0)))::(139,.bool t_4)::(140,.bool t_4)::(144,.bool t_5)::(145,.bool t_5)::(149,.bool t_6)::(150,.bool t_6)::(154,.bool (t_6 && (r_15.1.N == 10 && r_15.1.D == 1)))::[]) ∧ Ctx G (.box b_11 [.int .i64 r_15.2.1.N,.int .i64 r_15.2.1.D] 71::.box b_10 [.int .i64 r_15.1.N,.int .i64 r_15.1.D] 71::.row p_11 c_11 (r_14.1.map encI_i64) 3 1::.row p_10 c_10 (r_13.1.map encI_i64) 3 1::.row p_9 c_9 (r_12.1.map encI_i64) 3 1::Lf) w) ?_ ?_
  ·cases hb : t_6
   ·rw [hb] at hf
    try rw [hb] at hc
    refine stS hf rfl rfl rfl fun a hf => stS hf rfl rfl rfl fun a hf => stS hf rfl rfl rfl fun a hf => stP hf rfl rfl rfl (pPf rfl rfl) fun a hf => cNil ⟨hf.keep ⟨rfl,rfl,rfl,rfl,rfl,rfl,rfl,rfl,rfl,rfl,rfl,rfl,rfl,rfl,rfl,rfl,rfl,rfl,rfl,rfl,rfl,rfl,rfl,rfl,rfl,rfl,rfl,rfl,rfl,rfl,trivial⟩,hc⟩
   ·rw [hb] at hf
    try rw [hb] at hc
    refine stE hf hc rfl rfl rfl (eLdN (vs := [.int .i64 r_15.1.N,.int .i64 r_15.1.D]) ag_71 rfl rfl (cells_box (n := 2) m1 rfl)) fun a w hf hc => stP hf rfl rfl rfl (pBuildS (cells := [.int .i64 10,.int .i64 1]) bt_71 rfl rfl) fun a hf => stP hf rfl rfl rfl (pEqA ge_71 rfl rfl (eqs_71 _ _ _ _)) fun a hf => stP hf rfl rfl rfl (pPt rfl rfl) fun a hf => cNil ⟨hf.keep ⟨rfl,rfl,rfl,rfl,rfl,rfl,rfl,rfl,rfl,rfl,rfl,rfl,rfl,rfl,rfl,rfl,rfl,rfl,rfl,rfl,rfl,rfl,rfl,rfl,rfl,rfl,rfl,rfl,rfl,rfl,trivial⟩,hc⟩
  intro a w ⟨hf,hc⟩
  refine stP hf rfl rfl rfl (pM rfl) fun a hf => stCut 4 (fun a w => Has 168 a ((2,.int .i64 r_12.2)::(4,.int .i64 r_13.2)::(6,.int .i64 r_14.2)::(10,.int .i64 r_15.2.2)::(11,.slice p_9 r_12.1.length c_9)::(12,.slice p_10 r_13.1.length c_10)::(13,.slice p_11 r_14.1.length c_11)::(14,.pointer (some ⟨b_10,0,none⟩))::(15,.pointer (some ⟨b_11,0,none⟩))::(16,.int .i64 r_16.1)::(17,.int .i64 r_16.2.1)::(18,.int .i64 r_16.2.2)::(117,.int .i64 r_12.2)::(118,.bool (r_12.2 == 0))::(119,.bool (r_12.2 == 0))::(122,.bool ((r_12.2 == 0) && (r_13.2 == 0)))::(123,.bool ((r_12.2 == 0) && (r_13.2 == 0)))::(126,.bool (((r_12.2 == 0) && (r_13.2 == 0)) && (r_14.2 == 0)))::(127,.bool (((r_12.2 == 0) && (r_13.2 == 0)) && (r_14.2 == 0)))::(130,.bool ((((r_12.2 == 0) && (r_13.2 == 0)) && (r_14.2 == 0)) && (r_15.2.2 == 0)))::(131,.bool ((((r_12.2 == 0) && (r_13.2 == 0)) && (r_14.2 == 0)) && (r_15.2.2 == 0)))::(134,.bool (((((r_12.2 == 0) && (r_13.2 == 0)) && (r_14.2 == 0)) && (r_15.2.2 == 0)) && (r_16.2.2 == 0)))::(135,.bool (((((r_12.2 == 0) && (r_13.2 == 0)) && (r_14.2 == 0)) && (r_15.2.2 == 0)) && (r_16.2.2 == 0)))::(139,.bool t_4)::(140,.bool t_4)::(144,.bool t_5)::(145,.bool t_5)::(149,.bool t_6)::(150,.bool t_6)::(154,.bool (t_6 && (r_15.1.N == 10 && r_15.1.D == 1)))::(155,.bool (t_6 && (r_15.1.N == 10 && r_15.1.D == 1)))::(159,.bool ((t_6 && (r_15.1.N == 10 && r_15.1.D == 1)) && (r_15.2.1.N == r_15.1.N && r_15.2.1.D == r_15.1.D)))::[]) ∧ Ctx G (.box b_11 [.int .i64 r_15.2.1.N,.int .i64 r_15.2.1.D] 71::.box b_10 [.int .i64 r_15.1.N,.int .i64 r_15.1.D] 71::.row p_11 c_11 (r_14.1.map encI_i64) 3 1::.row p_10 c_10 (r_13.1.map encI_i64) 3 1::.row p_9 c_9 (r_12.1.map encI_i64) 3 1::Lf) w) ?_ ?_
  ·cases hb : (t_6 && (r_15.1.N == 10 && r_15.1.D == 1))
   ·rw [hb] at hf
    refine stS hf rfl rfl rfl fun a hf => stS hf rfl rfl rfl fun a hf => stS hf rfl rfl rfl fun a hf => stP hf rfl rfl rfl (pPf rfl rfl) fun a hf => cNil ⟨hf.keep ⟨rfl,rfl,rfl,rfl,rfl,rfl,rfl,rfl,rfl,rfl,rfl,rfl,rfl,rfl,rfl,rfl,rfl,rfl,rfl,rfl,rfl,rfl,rfl,rfl,rfl,rfl,rfl,rfl,rfl,rfl,rfl,rfl,trivial⟩,hc⟩
   ·rw [hb] at hf
    refine stE hf hc rfl rfl rfl (eLdN (vs := [.int .i64 r_15.2.1.N,.int .i64 r_15.2.1.D]) ag_71 rfl rfl (cells_box (n := 2) m0 rfl)) fun a w hf hc => stE hf hc rfl rfl rfl (eLdN (vs := [.int .i64 r_15.1.N,.int .i64 r_15.1.D]) ag_71 rfl rfl (cells_box (n := 2) m1 rfl)) fun a w hf hc => stP hf rfl rfl rfl (pEqA ge_71 rfl rfl (eqs_71 _ _ _ _)) fun a hf => stP hf rfl rfl rfl (pPt rfl rfl) fun a hf => cNil ⟨hf.keep ⟨rfl,rfl,rfl,rfl,rfl,rfl,rfl,rfl,rfl,rfl,rfl,rfl,rfl,rfl,rfl,rfl,rfl,rfl,rfl,rfl,rfl,rfl,rfl,rfl,rfl,rfl,rfl,rfl,rfl,rfl,rfl,rfl,trivial⟩,hc⟩
  intro a w ⟨hf,hc⟩
  refine stP hf rfl rfl rfl (pM rfl) fun a hf => stCut 3 (fun a w => Has 168 a ((2,.int .i64 r_12.2)::(4,.int .i64 r_13.2)::(6,.int .i64 r_14.2)::(10,.int .i64 r_15.2.2)::(11,.slice p_9 r_12.1.length c_9)::(12,.slice p_10 r_13.1.length c_10)::(13,.slice p_11 r_14.1.length c_11)::(14,.pointer (some ⟨b_10,0,none⟩))::(15,.pointer (some ⟨b_11,0,none⟩))::(16,.int .i64 r_16.1)::(17,.int .i64 r_16.2.1)::(18,.int .i64 r_16.2.2)::(117,.int .i64 r_12.2)::(118,.bool (r_12.2 == 0))::(119,.bool (r_12.2 == 0))::(122,.bool ((r_12.2 == 0) && (r_13.2 == 0)))::(123,.bool ((r_12.2 == 0) && (r_13.2 == 0)))::(126,.bool (((r_12.2 == 0) && (r_13.2 == 0)) && (r_14.2 == 0)))::(127,.bool (((r_12.2 == 0) && (r_13.2 == 0)) && (r_14.2 == 0)))::(130,.bool ((((r_12.2 == 0) && (r_13.2 == 0)) && (r_14.2 == 0)) && (r_15.2.2 == 0)))::(131,.bool ((((r_12.2 == 0) && (r_13.2 == 0)) && (r_14.2 == 0)) && (r_15.2.2 == 0)))::(134,.bool (((((r_12.2 == 0) && (r_13.2 == 0)) && (r_14.2 == 0)) && (r_15.2.2 == 0)) && (r_16.2.2 == 0)))::(135,.bool (((((r_12.2 == 0) && (r_13.2 == 0)) && (r_14.2 == 0)) && (r_15.2.2 == 0)) && (r_16.2.2 == 0)))::(139,.bool t_4)::(140,.bool t_4)::(144,.bool t_5)::(145,.bool t_5)::(149,.bool t_6)::(150,.bool t_6)::(154,.bool (t_6 && (r_15.1.N == 10 && r_15.1.D == 1)))::(155,.bool (t_6 && (r_15.1.N == 10 && r_15.1.D == 1)))::(159,.bool ((t_6 && (r_15.1.N == 10 && r_15.1.D == 1)) && (r_15.2.1.N == r_15.1.N && r_15.2.1.D == r_15.1.D)))::(160,.bool ((t_6 && (r_15.1.N == 10 && r_15.1.D == 1)) && (r_15.2.1.N == r_15.1.N && r_15.2.1.D == r_15.1.D)))::(163,.bool (((t_6 && (r_15.1.N == 10 && r_15.1.D == 1)) && (r_15.2.1.N == r_15.1.N && r_15.2.1.D == r_15.1.D)) && (r_16.1 == 0)))::[]) ∧ Ctx G (.box b_11 [.int .i64 r_15.2.1.N,.int .i64 r_15.2.1.D] 71::.box b_10 [.int .i64 r_15.1.N,.int .i64 r_15.1.D] 71::.row p_11 c_11 (r_14.1.map encI_i64) 3 1::.row p_10 c_10 (r_13.1.map encI_i64) 3 1::.row p_9 c_9 (r_12.1.map encI_i64) 3 1::Lf) w) ?_ ?_
  ·cases hb : ((t_6 && (r_15.1.N == 10 && r_15.1.D == 1)) && (r_15.2.1.N == r_15.1.N && r_15.2.1.D == r_15.1.D))
   ·rw [hb] at hf
    refine stS hf rfl rfl rfl fun a hf => stS hf rfl rfl rfl fun a hf => stP hf rfl rfl rfl (pPf rfl rfl) fun a hf => cNil ⟨hf.keep ⟨rfl,rfl,rfl,rfl,rfl,rfl,rfl,rfl,rfl,rfl,rfl,rfl,rfl,rfl,rfl,rfl,rfl,rfl,rfl,rfl,rfl,rfl,rfl,rfl,rfl,rfl,rfl,rfl,rfl,rfl,rfl,rfl,rfl,rfl,trivial⟩,hc⟩
   ·rw [hb] at hf
    refine stP hf rfl rfl rfl (pM rfl) fun a hf => stP hf rfl rfl rfl (pEq rfl rfl) fun a hf => stP hf rfl rfl rfl (pPt rfl rfl) fun a hf => cNil ⟨hf.keep ⟨rfl,rfl,rfl,rfl,rfl,rfl,rfl,rfl,rfl,rfl,rfl,rfl,rfl,rfl,rfl,rfl,rfl,rfl,rfl,rfl,rfl,rfl,rfl,rfl,rfl,rfl,rfl,rfl,rfl,rfl,rfl,rfl,rfl,rfl,trivial⟩,hc⟩
  intro a w ⟨hf,hc⟩
  refine stP hf rfl rfl rfl (pM rfl) fun a hf => stCut 3 (fun a w => Has 168 a ((2,.int .i64 r_12.2)::(4,.int .i64 r_13.2)::(6,.int .i64 r_14.2)::(10,.int .i64 r_15.2.2)::(11,.slice p_9 r_12.1.length c_9)::(12,.slice p_10 r_13.1.length c_10)::(13,.slice p_11 r_14.1.length c_11)::(14,.pointer (some ⟨b_10,0,none⟩))::(15,.pointer (some ⟨b_11,0,none⟩))::(16,.int .i64 r_16.1)::(17,.int .i64 r_16.2.1)::(18,.int .i64 r_16.2.2)::(117,.int .i64 r_12.2)::(118,.bool (r_12.2 == 0))::(119,.bool (r_12.2 == 0))::(122,.bool ((r_12.2 == 0) && (r_13.2 == 0)))::(123,.bool ((r_12.2 == 0) && (r_13.2 == 0)))::(126,.bool (((r_12.2 == 0) && (r_13.2 == 0)) && (r_14.2 == 0)))::(127,.bool (((r_12.2 == 0) && (r_13.2 == 0)) && (r_14.2 == 0)))::(130,.bool ((((r_12.2 == 0) && (r_13.2 == 0)) && (r_14.2 == 0)) && (r_15.2.2 == 0)))::(131,.bool ((((r_12.2 == 0) && (r_13.2 == 0)) && (r_14.2 == 0)) && (r_15.2.2 == 0)))::(134,.bool (((((r_12.2 == 0) && (r_13.2 == 0)) && (r_14.2 == 0)) && (r_15.2.2 == 0)) && (r_16.2.2 == 0)))::(135,.bool (((((r_12.2 == 0) && (r_13.2 == 0)) && (r_14.2 == 0)) && (r_15.2.2 == 0)) && (r_16.2.2 == 0)))::(139,.bool t_4)::(140,.bool t_4)::(144,.bool t_5)::(145,.bool t_5)::(149,.bool t_6)::(150,.bool t_6)::(154,.bool (t_6 && (r_15.1.N == 10 && r_15.1.D == 1)))::(155,.bool (t_6 && (r_15.1.N == 10 && r_15.1.D == 1)))::(159,.bool ((t_6 && (r_15.1.N == 10 && r_15.1.D == 1)) && (r_15.2.1.N == r_15.1.N && r_15.2.1.D == r_15.1.D)))::(160,.bool ((t_6 && (r_15.1.N == 10 && r_15.1.D == 1)) && (r_15.2.1.N == r_15.1.N && r_15.2.1.D == r_15.1.D)))::(163,.bool (((t_6 && (r_15.1.N == 10 && r_15.1.D == 1)) && (r_15.2.1.N == r_15.1.N && r_15.2.1.D == r_15.1.D)) && (r_16.1 == 0)))::(164,.bool (((t_6 && (r_15.1.N == 10 && r_15.1.D == 1)) && (r_15.2.1.N == r_15.1.N && r_15.2.1.D == r_15.1.D)) && (r_16.1 == 0)))::(167,.bool ((((t_6 && (r_15.1.N == 10 && r_15.1.D == 1)) && (r_15.2.1.N == r_15.1.N && r_15.2.1.D == r_15.1.D)) && (r_16.1 == 0)) && (r_16.2.1 == 1)))::[]) ∧ Ctx G (.box b_11 [.int .i64 r_15.2.1.N,.int .i64 r_15.2.1.D] 71::.box b_10 [.int .i64 r_15.1.N,.int .i64 r_15.1.D] 71::.row p_11 c_11 (r_14.1.map encI_i64) 3 1::.row p_10 c_10 (r_13.1.map encI_i64) 3 1::.row p_9 c_9 (r_12.1.map encI_i64) 3 1::Lf) w) ?_ ?_
  ·cases hb : (((t_6 && (r_15.1.N == 10 && r_15.1.D == 1)) && (r_15.2.1.N == r_15.1.N && r_15.2.1.D == r_15.1.D)) && (r_16.1 == 0))
   ·rw [hb] at hf
    refine stS hf rfl rfl rfl fun a hf => stS hf rfl rfl rfl fun a hf => stP hf rfl rfl rfl (pPf rfl rfl) fun a hf => cNil ⟨hf.keep ⟨rfl,rfl,rfl,rfl,rfl,rfl,rfl,rfl,rfl,rfl,rfl,rfl,rfl,rfl,rfl,rfl,rfl,rfl,rfl,rfl,rfl,rfl,rfl,rfl,rfl,rfl,rfl,rfl,rfl,rfl,rfl,rfl,rfl,rfl,rfl,rfl,trivial⟩,hc⟩
   ·rw [hb] at hf
    refine stP hf rfl rfl rfl (pM rfl) fun a hf => stP hf rfl rfl rfl (pEq rfl rfl) fun a hf => stP hf rfl rfl rfl (pPt rfl rfl) fun a hf => cNil ⟨hf.keep ⟨rfl,rfl,rfl,rfl,rfl,rfl,rfl,rfl,rfl,rfl,rfl,rfl,rfl,rfl,rfl,rfl,rfl,rfl,rfl,rfl,rfl,rfl,rfl,rfl,rfl,rfl,rfl,rfl,rfl,rfl,rfl,rfl,rfl,rfl,rfl,rfl,trivial⟩,hc⟩
  intro a w ⟨hf,hc⟩
  refine stP hf rfl rfl rfl (pA rfl) fun a hf => cNil ?_
  refine h15 _ _ ?_
  refine wp_ret ?_
  obtain rfl := Option.some.inj hF
  replace hc := hc.drop k4
  replace hc := hc.drop k3
  replace hc := hc.drop k2
  replace hc := hc.drop k1
  replace hc := hc.drop k0
  exact fnOut1 (by simp) rfl Try.results13 hf hc (show look _ 0 = _ from rfl) ⟨rfl,hc⟩

def law09_ShareRecorded_b28 (N : Nat) (r_9 : (List Int) × Int) (r_10 : (List api_Span) × Int) (r_11 : (List api_Span) × Int) (x_6 : Int) : Option (Step (Int) (Bool)) :=
 cond (decide (x_6 < ((r_9.1.length : Nat) : Int)))
 (Option.bind (getI r_9.1 x_6) fun e_1 =>
 Option.bind (getI r_11.1 x_6) fun e_2 =>
 Option.bind (cond (decide (e_1 < e_2.Lo)) (some true) (Option.bind (getI r_11.1 x_6) fun e_3 =>
 some (decide (e_3.Hi < e_1)))) fun t_1 =>
 Option.bind (cond t_1 (some true) (Option.bind (getI r_11.1 x_6) fun e_4 =>
 Option.bind (getI r_10.1 x_6) fun e_5 =>
 some (decide (e_4.Lo < e_5.Lo)))) fun t_2 =>
 Option.bind (cond t_2 (some true) (Option.bind (getI r_11.1 x_6) fun e_6 =>
 Option.bind (getI r_10.1 x_6) fun e_7 =>
 some (decide (e_7.Hi < e_6.Hi)))) fun t_3 =>
 cond t_3
 (some (.ret false))
 (some (.cont (W (x_6 + 1)))))
 (some (.brk x_6))
def law09_ShareRecorded_j38 (N : Nat) (x_2 : Int) (x_7 : Int) (x_8 : Int) (x_9 : List daily_Value) : Option (Step (Int × Int × Int × (List daily_Value)) (Bool)) :=
 some (.cont (W (x_2 + 1),x_7,x_8,x_9))
def law09_ShareRecorded_b13 (N : Nat) (better : List Int) (r_1 : daily_Record × (List Int) × Int × Int) (r_5 : daily_Record) (x_2 : Int) (x_3 : Int) (x_4 : Int) (x_5 : List daily_Value) : Option (Step (Int × Int × Int × (List daily_Value)) (Bool)) :=
 cond (decide (x_2 < ((r_5.Days.length : Nat) : Int)))
 (Option.bind (kit_Stream_Next N (⟨better,x_3,x_4⟩ : kit_Stream) 3) fun r_13 =>
 cond (r_13.1 == 0)
 (Option.bind (getI r_1.2.1 x_2) fun e_8 =>
 Option.bind (getI r_1.2.1 x_2) fun e_9 =>
 Option.bind (law09_span N e_8 e_9) fun r_14 =>
 Option.bind (getI x_5 x_2) fun e_10 =>
 law09_ShareRecorded_j38 N x_2 r_13.2.1 r_13.2.2 (x_5.set x_2.toNat (⟨true,r_14⟩ : daily_Value)))
 (law09_ShareRecorded_j38 N x_2 r_13.2.1 r_13.2.2 x_5))
 (some (.brk (x_2,x_3,x_4,x_5)))
def law09_ShareRecorded_b6 (N : Nat) (r_3 : share_Compact × Int × Int) (x : Int) (x_1 : List share_Right) : Option (Step (Int × (List share_Right)) (Bool)) :=
 cond (decide (x < ((r_3.1.Rights.length : Nat) : Int)))
 (Option.bind (getI x_1 x) fun e_11 =>
 Option.bind (getI x_1 x) fun e_12 =>
 some (.cont (W (x + 1),(x_1.set x.toNat (⟨e_12.State,W (e_11.Amount * 20),e_12.Loss⟩ : share_Right)))))
 (some (.brk (x,x_1)))
def law09_ShareRecorded (N : Nat) (numbers : List Int) (better : List Int) (compact : List Int) (a_ : Int) (b_ : Int) : Option (Bool) :=
 Option.bind (kit_New N numbers) fun r =>
 Option.bind (law07_Made N (⟨numbers,r.1,r.2⟩ : kit_Stream) 15) fun r_1 =>
 Option.bind (kit_New N compact) fun r_2 =>
 Option.bind (law09_Made N (⟨compact,r_2.1,r_2.2⟩ : kit_Stream)) fun r_3 =>
 Option.bind (loopO (fun s6 => law09_ShareRecorded_b6 N r_3 s6.1 s6.2) N (0,r_3.1.Rights)) fun x6 =>
 exK x6 (fun s6 => Option.bind (nz ((r_1.2.1.length : Nat) : Int)) fun un =>
 Option.bind (nz ((r_1.2.1.length : Nat) : Int)) fun un_1 =>
 Option.bind (kit_New N better) fun r_4 =>
 Option.bind (law07_CopyRecord N r_1.1) fun r_5 =>
 Option.bind (loopO (fun s13 => law09_ShareRecorded_b13 N better r_1 r_5 s13.1 s13.2.1 s13.2.2.1 s13.2.2.2) N (0,r_4.1,r_4.2,r_5.Days)) fun x13 =>
 exK x13 (fun s13 => Option.bind (daily_Volume N r_1.1 (min ((W (a_)).tmod ((r_1.2.1.length : Nat) : Int)) ((W (b_)).tmod ((r_1.2.1.length : Nat) : Int))) (max ((W (a_)).tmod ((r_1.2.1.length : Nat) : Int)) ((W (b_)).tmod ((r_1.2.1.length : Nat) : Int)))) fun r_6 =>
 Option.bind (daily_Volume N (⟨r_5.Rise,r_5.Fall,s13.2.2.2⟩ : daily_Record) (min ((W (a_)).tmod ((r_1.2.1.length : Nat) : Int)) ((W (b_)).tmod ((r_1.2.1.length : Nat) : Int))) (max ((W (a_)).tmod ((r_1.2.1.length : Nat) : Int)) ((W (b_)).tmod ((r_1.2.1.length : Nat) : Int)))) fun r_7 =>
 Option.bind (subO r_1.2.1 (min ((W (a_)).tmod ((r_1.2.1.length : Nat) : Int)) ((W (b_)).tmod ((r_1.2.1.length : Nat) : Int))) (W ((max ((W (a_)).tmod ((r_1.2.1.length : Nat) : Int)) ((W (b_)).tmod ((r_1.2.1.length : Nat) : Int))) + 1))) fun sub =>
 Option.bind (law09_total N sub) fun r_8 =>
 Option.bind (share_Real N (⟨r_3.1.States,s6.2⟩ : share_Compact) r_8) fun r_9 =>
 cond ((((r_6.2 != 0) || (r_7.2 != 0)) || (r_9.2 != 0)) || (decide (r_6.1.Lo < 0)))
 (some false)
 (Option.bind (share_Shares N (⟨r_3.1.States,s6.2⟩ : share_Compact) (⟨r_6.1.Lo,min r_6.1.Hi 1000000000⟩ : api_Span)) fun r_10 =>
 Option.bind (share_Shares N (⟨r_3.1.States,s6.2⟩ : share_Compact) (⟨r_7.1.Lo,min r_7.1.Hi 1000000000⟩ : api_Span)) fun r_11 =>
 cond (((((r_10.2 != 0) || (r_11.2 != 0)) || (((r_10.1.length : Nat) : Int) != r_3.1.States)) || (((r_11.1.length : Nat) : Int) != r_3.1.States)) || (((r_9.1.length : Nat) : Int) != r_3.1.States))
 (some false)
 (Option.bind (loopO (fun s28 => law09_ShareRecorded_b28 N r_9 r_10 r_11 s28) N 0) fun x28 =>
 exK x28 (fun s28 => Option.bind (law09_awake N) fun r_12 =>
 some r_12) some))) some) some
theorem law09_ShareRecorded_ok {N : Nat} {G : Pers} {Lf : List Ent} {w : World} (numbers : List Int) (better : List Int) (compact : List Int) (a_ : Int) (b_ : Int) {numbers_p : Option Addr} {numbers_c : Nat} {better_p : Option Addr} {better_c : Nat} {compact_p : Option Addr} {compact_c : Nat} (h_numbers : Rd G 1 numbers_p numbers_c (numbers.map encI_u8)) (h_better : Rd G 1 better_p better_c (better.map encI_u8)) (h_compact : Rd G 1 compact_p compact_c (compact.map encI_u8)) (hc : Ctx G (Lf) w) {res : Bool} (hF : law09_ShareRecorded N numbers better compact a_ b_ = some res) : Calls Try.prog 11 #[.slice numbers_p numbers.length numbers_c,.slice better_p better.length better_c,.slice compact_p compact.length compact_c,.int .u8 a_,.int .u8 b_] w (fun e w => e = .returned (.bool res) ∧ Ctx G (Lf) w) := by
 unfold law09_ShareRecorded at hF
 refine fnIn (args := [.slice numbers_p numbers.length numbers_c,.slice better_p better.length better_c,.slice compact_p compact.length compact_c,.int .u8 a_,.int .u8 b_]) Try.func11 rfl Try.ntmps11 rfl fun a hf => wp_seq_k fun K1 h1 => cReg ?_
 refine stP hf rfl rfl rfl (pA rfl) fun a hf => cNil ?_
 refine h1 _ _ ?_
 refine wp_seq_k fun K2 h2 => cReg ?_
 refine stP hf rfl rfl rfl (pM rfl) fun a hf => ?_
 obtain ⟨r,hr,hF⟩ := bnd_some hF
 refine stC (vs := [.slice numbers_p numbers.length numbers_c]) (caps := []) hf rfl rfl rfl en_27 rfl rfl rfl rfl (kit_New_ok numbers h_numbers hc hr) ?_
 rintro _ w ⟨b_1,rfl,hc⟩
 refine ⟨_,rfl,fun a hf => ?_⟩
 obtain ⟨r_1,hr_1,hF⟩ := bnd_some hF
 refine stC (vs := [.pointer (some ⟨b_1,0,none⟩),.int .i64 15]) (caps := []) hf rfl rfl rfl en_61 rfl rfl rfl rfl (law07_Made_ok (⟨numbers,r.1,r.2⟩ : kit_Stream) 15 h_numbers (hc.pick k0) hr_1) ?_
 rintro _ w ⟨p_1,c_1,p_2,c_2,rfl,hc⟩
 refine ⟨_,rfl,fun a hf => ?_⟩
 refine stP hf rfl rfl rfl (pM rfl) fun a hf => stP hf rfl rfl rfl (pX rfl rfl) fun a hf => stP hf rfl rfl rfl (pX rfl rfl) fun a hf => stAl (cs := [.int .i64 0,.int .i64 0,.slice none 0 0]) hf hc rfl rfl zr_127 rfl fun b_2 a w hf hc => stSt (vs := [.int .i64 r_1.1.Rise,.int .i64 r_1.1.Fall,.slice p_1 r_1.1.Days.length c_1]) hf hc rfl rfl rfl rfl sz_127 rfl rfl u0 fun w hc => stP hf rfl rfl rfl (pA rfl) fun a hf => cNil ?_
 refine h2 _ _ ?_
 refine wp_seq_k fun K3 h3 => cReg ?_
 refine stP hf rfl rfl rfl (pM rfl) fun a hf => ?_
 obtain ⟨r_2,hr_2,hF⟩ := bnd_some hF
 refine stC (vs := [.slice compact_p compact.length compact_c]) (caps := []) hf rfl rfl rfl en_27 rfl rfl rfl rfl (kit_New_ok compact h_compact hc hr_2) ?_
 rintro _ w ⟨b_3,rfl,hc⟩
 refine ⟨_,rfl,fun a hf => ?_⟩
 obtain ⟨r_3,hr_3,hF⟩ := bnd_some hF
 refine stC (vs := [.pointer (some ⟨b_3,0,none⟩)]) (caps := []) hf rfl rfl rfl en_62 rfl rfl rfl rfl (law09_Made_ok (⟨compact,r_2.1,r_2.2⟩ : kit_Stream) h_compact (hc.pick k0) hr_3) ?_
 rintro _ w ⟨p_3,c_3,rfl,hc⟩
 refine ⟨_,rfl,fun a hf => ?_⟩
 refine stAl (cs := [.int .i64 0,.slice none 0 0]) hf hc rfl rfl zr_24 rfl fun b_4 a w hf hc => stSt (vs := [.int .i64 r_3.1.States,.slice p_3 r_3.1.Rights.length c_3]) hf hc rfl rfl rfl rfl sz_24 rfl rfl u0 fun w hc => cNil ?_
 refine h3 _ _ ?_
 refine wp_seq_k fun K4 h4 => wp_seq_k fun K5 h5 => cReg ?_
 refine stP hf rfl rfl rfl (pFA fa_24_1 rfl) fun a hf => stE hf hc rfl rfl rfl (eLd1 sc_22 rfl (cell_box m0 rfl)) fun a w hf hc => stP hf rfl rfl rfl (pLenS Try.underlying22 rfl) fun a hf => stP hf rfl rfl rfl (pM rfl) fun a hf => cNil ?_
 refine h5 _ _ ?_
 refine wp_block ?_
 obtain ⟨x6,hx6,hF⟩ := bnd_some hF
 let S6 : (Int × (List share_Right)) → Act → World → Prop := (fun (zz : Int × (List share_Right)) a w => ∃ (p_4 : Option Addr) (c_4 : Nat),Has 237 a [(1,.slice better_p better.length better_c),(3,.int .u8 a_),(4,.int .u8 b_),(11,.pointer (some ⟨b_2,0,none⟩)),(12,.slice p_2 r_1.2.1.length c_2),(13,.pointer (some ⟨b_4,0,none⟩)),(41,.int .i64 ((r_3.1.Rights.length : Nat) : Int)),(42,.int .i64 zz.1)] ∧ Ctx G (.box b_4 [.int .i64 r_3.1.States,.slice p_4 zz.2.length c_4] 24::.row p_4 c_4 (zz.2.map enc_share_Right) 51 3::.box b_2 [.int .i64 r_1.1.Rise,.int .i64 r_1.1.Fall,.slice p_1 r_1.1.Days.length c_1] 127::.row p_1 c_1 (r_1.1.Days.map enc_daily_Value) 133 3::.row p_2 c_2 (r_1.2.1.map encI_i64) 3 1::Lf) w)
 have hr6 : ∀ (zz : Int × (List share_Right)) a w,x6 = .go zz → S6 zz a w → K4 a w := by
  rintro ⟨x,x_1⟩ a w rfl ⟨p_4,c_4,hf,hc⟩
  replace hF := exK_go hF
  refine h4 _ _ ?_
  refine wp_seq_k fun K7 h7 => ?_
  obtain ⟨un,hun,hF⟩ := bnd_some hF
  obtain ⟨un_1,hun_1,hF⟩ := bnd_some hF
  refine cQ hc follows_mx (by kernel_rfl) ?_
  refine qE hf rfl rfl rfl (Pu.ev (pM rfl)) fun a hf => qE hf rfl rfl rfl (Pu.ev (pCv Try.underlying5 Try.underlying3 rfl)) fun a hf => qE hf rfl rfl rfl (Pu.ev (pM rfl)) fun a hf => qE hf rfl rfl rfl (Pu.ev (pLenS Try.underlying36 rfl)) fun a hf => qE hf rfl rfl rfl (Pu.ev (pRem rfl rfl (nz_spec hun))) fun a hf => qE hf rfl rfl rfl (Pu.ev (pM rfl)) fun a hf => qE hf rfl rfl rfl (Pu.ev (pCv Try.underlying5 Try.underlying3 rfl)) fun a hf => qE hf rfl rfl rfl (Pu.ev (pM rfl)) fun a hf => qE hf rfl rfl rfl (Pu.ev (pLenS Try.underlying36 rfl)) fun a hf => qE hf rfl rfl rfl (Pu.ev (pRem rfl rfl (nz_spec hun_1))) fun a hf => qE hf rfl rfl rfl (Pu.ev (pA rfl)) fun a hf => qE hf rfl rfl rfl (Pu.ev (pA rfl)) fun a hf => ?_
  intro w hc
  refine h7 _ _ ?_
  refine wp_seq_k fun K8 h8 => cReg ?_
  refine stP hf rfl rfl rfl (pM rfl) fun a hf => stP hf rfl rfl rfl (pM rfl) fun a hf => stP hf rfl rfl rfl (pMin2 rfl rfl) fun a hf => stP hf rfl rfl rfl (pM rfl) fun a hf => stP hf rfl rfl rfl (pM rfl) fun a hf => stP hf rfl rfl rfl (pMax2 rfl rfl) fun a hf => stP hf rfl rfl rfl (pA rfl) fun a hf => stP hf rfl rfl rfl (pA rfl) fun a hf => cNil ?_
  refine h8 _ _ ?_
  refine wp_seq_k fun K9 h9 => cReg ?_
  refine stP hf rfl rfl rfl (pM rfl) fun a hf => ?_
  obtain ⟨r_4,hr_4,hF⟩ := bnd_some hF
  refine stC (vs := [.slice better_p better.length better_c]) (caps := []) hf rfl rfl rfl en_27 rfl rfl rfl rfl (kit_New_ok better h_better hc hr_4) ?_
  rintro _ w ⟨b_5,rfl,hc⟩
  refine ⟨_,rfl,fun a hf => ?_⟩
  refine stP hf rfl rfl rfl (pA rfl) fun a hf => cNil ?_
  refine h9 _ _ ?_
  refine wp_seq_k fun K10 h10 => cReg ?_
  refine stE hf hc rfl rfl rfl (eLdN (vs := [.int .i64 r_1.1.Rise,.int .i64 r_1.1.Fall,.slice p_1 r_1.1.Days.length c_1]) ag_127 rfl rfl (cells_box (n := 3) m3 rfl)) fun a w hf hc => ?_
  obtain ⟨r_5,hr_5,hF⟩ := bnd_some hF
  obtain ⟨G1,hle1,hrd1,hc,hth1⟩ := lend hc k4
  refine stC (vs := [.agg #[.int .i64 r_1.1.Rise,.int .i64 r_1.1.Fall,.slice p_1 r_1.1.Days.length c_1]]) (caps := []) hf rfl rfl rfl en_63 rfl rfl rfl rfl (law07_CopyRecord_ok r_1.1 hrd1 hc hr_5) ?_
  rintro _ w ⟨p_5,c_5,rfl,hc⟩
  refine ⟨_,rfl,fun a hf => ?_⟩
  replace hc := hth1 _ _ hc
  refine stAl (cs := [.int .i64 0,.int .i64 0,.slice none 0 0]) hf hc rfl rfl zr_127 rfl fun b_6 a w hf hc => stSt (vs := [.int .i64 r_5.Rise,.int .i64 r_5.Fall,.slice p_5 r_5.Days.length c_5]) hf hc rfl rfl rfl rfl sz_127 rfl rfl u0 fun w hc => cNil ?_
  refine h10 _ _ ?_
  refine wp_seq_k fun K11 h11 => wp_seq_k fun K12 h12 => cReg ?_
  refine stP hf rfl rfl rfl (pFA fa_127_2 rfl) fun a hf => stE hf hc rfl rfl rfl (eLd1 sc_125 rfl (cell_box m0 rfl)) fun a w hf hc => stP hf rfl rfl rfl (pLenS Try.underlying125 rfl) fun a hf => stP hf rfl rfl rfl (pM rfl) fun a hf => cNil ?_
  refine h12 _ _ ?_
  refine wp_block ?_
  obtain ⟨x13,hx13,hF⟩ := bnd_some hF
  let S13 : (Int × Int × Int × (List daily_Value)) → Act → World → Prop := (fun (zz : Int × Int × Int × (List daily_Value)) a w => ∃ (p_6 : Option Addr) (c_6 : Nat) (p_7 : Option Addr) (c_7 : Nat),Has 237 a [(11,.pointer (some ⟨b_2,0,none⟩)),(12,.slice p_6 r_1.2.1.length c_6),(13,.pointer (some ⟨b_4,0,none⟩)),(15,.int .i64 (min ((W (a_)).tmod ((r_1.2.1.length : Nat) : Int)) ((W (b_)).tmod ((r_1.2.1.length : Nat) : Int)))),(16,.int .i64 (max ((W (a_)).tmod ((r_1.2.1.length : Nat) : Int)) ((W (b_)).tmod ((r_1.2.1.length : Nat) : Int)))),(17,.pointer (some ⟨b_5,0,none⟩)),(18,.pointer (some ⟨b_6,0,none⟩)),(77,.int .i64 ((r_5.Days.length : Nat) : Int)),(78,.int .i64 zz.1)] ∧ Ctx G (.box b_6 [.int .i64 r_5.Rise,.int .i64 r_5.Fall,.slice p_7 zz.2.2.2.length c_7] 127::.row p_1 c_1 (r_1.1.Days.map enc_daily_Value) 133 3::.row p_7 c_7 (zz.2.2.2.map enc_daily_Value) 133 3::.box b_5 [.slice better_p better.length better_c,.int .i64 zz.2.1,.int .i64 zz.2.2.1] 161::.box b_4 [.int .i64 r_3.1.States,.slice p_4 x_1.length c_4] 24::.row p_4 c_4 (x_1.map enc_share_Right) 51 3::.box b_2 [.int .i64 r_1.1.Rise,.int .i64 r_1.1.Fall,.slice p_1 r_1.1.Days.length c_1] 127::.row p_6 c_6 (r_1.2.1.map encI_i64) 3 1::Lf) w)
  have hr13 : ∀ (zz : Int × Int × Int × (List daily_Value)) a w,x13 = .go zz → S13 zz a w → K11 a w := by
   rintro ⟨x_2,x_3,x_4,x_5⟩ a w rfl ⟨p_6,c_6,p_7,c_7,hf,hc⟩
   replace hF := exK_go hF
   refine h11 _ _ ?_
   refine wp_seq_k fun K14 h14 => cReg ?_
   refine stE hf hc rfl rfl rfl (eLdN (vs := [.int .i64 r_1.1.Rise,.int .i64 r_1.1.Fall,.slice p_1 r_1.1.Days.length c_1]) ag_127 rfl rfl (cells_box (n := 3) m6 rfl)) fun a w hf hc => stP hf rfl rfl rfl (pM rfl) fun a hf => stP hf rfl rfl rfl (pM rfl) fun a hf => ?_
   obtain ⟨r_6,hr_6,hF⟩ := bnd_some hF
   refine stE hf hc rfl rfl rfl (eC (v := .tuple #[.agg #[.int .i64 r_6.1.Lo,.int .i64 r_6.1.Hi],.int .i64 r_6.2]) (vs := [.agg #[.int .i64 r_1.1.Rise,.int .i64 r_1.1.Fall,.slice p_1 r_1.1.Days.length c_1],.int .i64 (min ((W (a_)).tmod ((r_1.2.1.length : Nat) : Int)) ((W (b_)).tmod ((r_1.2.1.length : Nat) : Int))),.int .i64 (max ((W (a_)).tmod ((r_1.2.1.length : Nat) : Int)) ((W (b_)).tmod ((r_1.2.1.length : Nat) : Int)))]) (caps := []) en_64 rfl rfl rfl rfl (fun w hc => by obtain ⟨G1,hle1,hrd1,hc,hth1⟩ := lend hc k1; exact (daily_Volume_ok r_1.1 (min ((W (a_)).tmod ((r_1.2.1.length : Nat) : Int)) ((W (b_)).tmod ((r_1.2.1.length : Nat) : Int))) (max ((W (a_)).tmod ((r_1.2.1.length : Nat) : Int)) ((W (b_)).tmod ((r_1.2.1.length : Nat) : Int))) hrd1 hc hr_6).mono fun e w h => ⟨h.1,((hth1 _ _ h.2).unpick k1)⟩)) fun a w hf hc => stP hf rfl rfl rfl (pM rfl) fun a hf => stP hf rfl rfl rfl (pX rfl rfl) fun a hf => stP hf rfl rfl rfl (pX rfl rfl) fun a hf => stAl (cs := [.int .i64 0,.int .i64 0]) hf hc rfl rfl zr_26 rfl fun b_7 a w hf hc => stSt (vs := [.int .i64 r_6.1.Lo,.int .i64 r_6.1.Hi]) hf hc rfl rfl rfl rfl sz_26 rfl rfl u0 fun w hc => stP hf rfl rfl rfl (pA rfl) fun a hf => cNil ?_
   replace hc := hc.drop k7
   replace hc := hc.drop k4
   replace hc := hc.drop k2
   refine h14 _ _ ?_
   refine wp_seq_k fun K15 h15 => cReg ?_
   refine stE hf hc rfl rfl rfl (eLdN (vs := [.int .i64 r_5.Rise,.int .i64 r_5.Fall,.slice p_7 x_5.length c_7]) ag_127 rfl rfl (cells_box (n := 3) m1 rfl)) fun a w hf hc => stP hf rfl rfl rfl (pM rfl) fun a hf => stP hf rfl rfl rfl (pM rfl) fun a hf => ?_
   obtain ⟨r_7,hr_7,hF⟩ := bnd_some hF
   refine stE hf hc rfl rfl rfl (eC (v := .tuple #[.agg #[.int .i64 r_7.1.Lo,.int .i64 r_7.1.Hi],.int .i64 r_7.2]) (vs := [.agg #[.int .i64 r_5.Rise,.int .i64 r_5.Fall,.slice p_7 x_5.length c_7],.int .i64 (min ((W (a_)).tmod ((r_1.2.1.length : Nat) : Int)) ((W (b_)).tmod ((r_1.2.1.length : Nat) : Int))),.int .i64 (max ((W (a_)).tmod ((r_1.2.1.length : Nat) : Int)) ((W (b_)).tmod ((r_1.2.1.length : Nat) : Int)))]) (caps := []) en_64 rfl rfl rfl rfl (fun w hc => by obtain ⟨G1,hle1,hrd1,hc,hth1⟩ := lend hc k2; exact (daily_Volume_ok (⟨r_5.Rise,r_5.Fall,x_5⟩ : daily_Record) (min ((W (a_)).tmod ((r_1.2.1.length : Nat) : Int)) ((W (b_)).tmod ((r_1.2.1.length : Nat) : Int))) (max ((W (a_)).tmod ((r_1.2.1.length : Nat) : Int)) ((W (b_)).tmod ((r_1.2.1.length : Nat) : Int))) hrd1 hc hr_7).mono fun e w h => ⟨h.1,((hth1 _ _ h.2).unpick k2)⟩)) fun a w hf hc => stP hf rfl rfl rfl (pM rfl) fun a hf => stP hf rfl rfl rfl (pX rfl rfl) fun a hf => stP hf rfl rfl rfl (pX rfl rfl) fun a hf => stAl (cs := [.int .i64 0,.int .i64 0]) hf hc rfl rfl zr_26 rfl fun b_8 a w hf hc => stSt (vs := [.int .i64 r_7.1.Lo,.int .i64 r_7.1.Hi]) hf hc rfl rfl rfl rfl sz_26 rfl rfl u0 fun w hc => stP hf rfl rfl rfl (pA rfl) fun a hf => cNil ?_
   refine h15 _ _ ?_
   refine wp_seq_k fun K16 h16 => ?_
   have qc := row_cap hc m6
   obtain ⟨sub,hsub,hF⟩ := bnd_some hF
   obtain ⟨r_8,hr_8,hF⟩ := bnd_some hF
   obtain ⟨r_9,hr_9,hF⟩ := bnd_some hF
   replace hc := hc.nilRow 0 0
   refine regionE (fun θ => [⟨none,none,12,.slice p_6 r_1.2.1.length c_6⟩,⟨none,none,13,.pointer (some ⟨b_4,0,none⟩)⟩,⟨none,none,15,.int .i64 (min ((W (a_)).tmod ((r_1.2.1.length : Nat) : Int)) ((W (b_)).tmod ((r_1.2.1.length : Nat) : Int)))⟩,⟨none,none,16,.int .i64 (max ((W (a_)).tmod ((r_1.2.1.length : Nat) : Int)) ((W (b_)).tmod ((r_1.2.1.length : Nat) : Int)))⟩,⟨none,none,20,.pointer (some ⟨b_7,0,none⟩)⟩,⟨none,none,21,.int .i64 r_6.2⟩,⟨none,none,22,.pointer (some ⟨b_8,0,none⟩)⟩,⟨none,none,23,.int .i64 r_7.2⟩,⟨some 0,none,114,.agg #[.int .i64 r_3.1.States,.slice p_4 x_1.length c_4]⟩,⟨some 1,none,115,.slice p_6 r_1.2.1.length c_6⟩,⟨some 2,none,116,.int .i64 (min ((W (a_)).tmod ((r_1.2.1.length : Nat) : Int)) ((W (b_)).tmod ((r_1.2.1.length : Nat) : Int)))⟩,⟨some 3,none,117,.int .i64 (max ((W (a_)).tmod ((r_1.2.1.length : Nat) : Int)) ((W (b_)).tmod ((r_1.2.1.length : Nat) : Int)))⟩,⟨some 4,none,118,.int .i64 (W ((max ((W (a_)).tmod ((r_1.2.1.length : Nat) : Int)) ((W (b_)).tmod ((r_1.2.1.length : Nat) : Int))) + 1))⟩,⟨some 5,none,119,.slice (subP p_6 c_6 (min ((W (a_)).tmod ((r_1.2.1.length : Nat) : Int)) ((W (b_)).tmod ((r_1.2.1.length : Nat) : Int))).toNat 1) sub.length (c_6 - (min ((W (a_)).tmod ((r_1.2.1.length : Nat) : Int)) ((W (b_)).tmod ((r_1.2.1.length : Nat) : Int))).toNat)⟩,⟨some 6,none,120,.int .i64 r_8⟩,⟨some 7,none,121,.tuple #[.slice ((θ 56).p) r_9.1.length ((θ 56).c),.int .i64 r_9.2]⟩,⟨some 8,none,113,.tuple #[.slice ((θ 56).p) r_9.1.length ((θ 56).c),.int .i64 r_9.2]⟩,⟨some 9,none,122,.slice ((θ 56).p) r_9.1.length ((θ 56).c)⟩,⟨some 10,none,123,.int .i64 r_9.2⟩,⟨some 11,none,24,.slice ((θ 56).p) r_9.1.length ((θ 56).c)⟩,⟨some 12,none,25,.int .i64 r_9.2⟩]) (fun E θ => (bif E 7 then .row ((θ 56).p) ((θ 56).c) (r_9.1.map encI_i64) 3 1 else .row none 0 [] 0 0)::.box b_8 [.int .i64 r_7.1.Lo,.int .i64 r_7.1.Hi] 26::.box b_7 [.int .i64 r_6.1.Lo,.int .i64 r_6.1.Hi] 26::.box b_6 [.int .i64 r_5.Rise,.int .i64 r_5.Fall,.slice p_7 x_5.length c_7] 127::.row p_7 c_7 (x_5.map enc_daily_Value) 133 3::.box b_4 [.int .i64 r_3.1.States,.slice p_4 x_1.length c_4] 24::.row p_4 c_4 (x_1.map enc_share_Right) 51 3::.row p_6 c_6 (r_1.2.1.map encI_i64) 3 1::Lf) [(8,7),(9,8),(11,7)] (fun a w => ∃ (p_9 : Option Addr) (c_9 : Nat),Has 237 a [(13,.pointer (some ⟨b_4,0,none⟩)),(20,.pointer (some ⟨b_7,0,none⟩)),(21,.int .i64 r_6.2),(22,.pointer (some ⟨b_8,0,none⟩)),(23,.int .i64 r_7.2),(24,.slice p_9 r_9.1.length c_9),(25,.int .i64 r_9.2)] ∧ Ctx G (.row p_9 c_9 (r_9.1.map encI_i64) 3 1::.box b_8 [.int .i64 r_7.1.Lo,.int .i64 r_7.1.Hi] 26::.box b_7 [.int .i64 r_6.1.Lo,.int .i64 r_6.1.Hi] 26::.box b_6 [.int .i64 r_5.Rise,.int .i64 r_5.Fall,.slice p_7 x_5.length c_7] 127::.row p_7 c_7 (x_5.map enc_daily_Value) 133 3::.box b_4 [.int .i64 r_3.1.States,.slice p_4 x_1.length c_4] 24::.row p_4 c_4 (x_1.map enc_share_Right) 51 3::.row p_6 c_6 (r_1.2.1.map encI_i64) 3 1::Lf) w) follows_mx (by kernel_rfl) (by kernel_rfl) (HasE.of hf ⟨rfl,rfl,rfl,rfl,rfl,rfl,rfl,rfl,trivial,trivial,trivial,trivial,trivial,trivial,trivial,trivial,trivial,trivial,trivial,trivial,trivial,trivial⟩) hc ⟨?_,?_,?_,?_,?_,?_,?_,?_,?_,?_,?_,?_,?_,trivial⟩ ?_ ?_
   ·intro E θ a w hD hi hp he hc
    have hf := he.h0
    replace hf := hf.more he 1 rfl onT
    refine stE hf hc rfl rfl rfl (eLdN (vs := [.int .i64 r_3.1.States,.slice p_4 x_1.length c_4]) ag_24 rfl rfl (cells_box (n := 2) m5 rfl)) fun a w hf hc => cNil ?_
    refine xThenN ?_
    intro ds u hau
    refine ⟨θ,he.put0 hi hau hf rfl 8 rfl rfl,?_⟩
    exact hc
   ·intro E θ a w hD hi hp he hc
    have hf := he.h0
    replace hf := hf.more he 0 rfl onT
    refine stP hf rfl rfl rfl (pM rfl) fun a hf => cNil ?_
    refine xThenN ?_
    intro ds u hau
    refine ⟨θ,he.put0 hi hau hf rfl 9 rfl rfl,?_⟩
    exact hc
   ·intro E θ a w hD hi hp he hc
    have hf := he.h0
    replace hf := hf.more he 2 rfl onT
    refine stP hf rfl rfl rfl (pM rfl) fun a hf => cNil ?_
    refine xThenN ?_
    intro ds u hau
    refine ⟨θ,he.put0 hi hau hf rfl 10 rfl rfl,?_⟩
    exact hc
   ·intro E θ a w hD hi hp he hc
    have hf := he.h0
    replace hf := hf.more he 3 rfl onT
    refine stP hf rfl rfl rfl (pM rfl) fun a hf => cNil ?_
    refine xThenN ?_
    intro ds u hau
    refine ⟨θ,he.put0 hi hau hf rfl 11 rfl rfl,?_⟩
    exact hc
   ·intro E θ a w hD hi hp he hc
    have e3 := hp.of (k := 3) rfl
    have hf := he.h0
    replace hf := hf.more he 11 rfl (onP e3)
    refine stP hf rfl rfl rfl (pAdd rfl rfl) fun a hf => cNil ?_
    refine xThenN ?_
    intro ds u hau
    refine ⟨θ,he.put0 hi hau hf rfl 12 rfl rfl,?_⟩
    exact hc
   ·intro E θ a w hD hi hp he hc
    have e1 := hp.of (k := 1) rfl
    have e2 := hp.of (k := 2) rfl
    have e4 := hp.of (k := 4) rfl
    have hf := he.h0
    replace hf := hf.more he 9 rfl (onP e1)
    replace hf := hf.more he 10 rfl (onP e2)
    replace hf := hf.more he 12 rfl (onP e4)
    refine stP hf rfl rfl rfl (pSl Try.underlying36 sz_3 rfl rfl qc rfl rfl hsub) fun a hf => cNil ?_
    refine xThenN ?_
    intro ds u hau
    refine ⟨θ,he.put0 hi hau hf rfl 13 rfl rfl,?_⟩
    exact hc
   ·intro E θ a w hD hi hp he hc
    have e5 := hp.of (k := 5) rfl
    have hf := he.h0
    replace hf := hf.more he 13 rfl (onP e5)
    refine stE hf hc rfl rfl rfl (eC (v := .int .i64 r_8) (vs := [.slice (subP p_6 c_6 (min ((W (a_)).tmod ((r_1.2.1.length : Nat) : Int)) ((W (b_)).tmod ((r_1.2.1.length : Nat) : Int))).toNat 1) sub.length (c_6 - (min ((W (a_)).tmod ((r_1.2.1.length : Nat) : Int)) ((W (b_)).tmod ((r_1.2.1.length : Nat) : Int))).toNat)]) (caps := []) en_31 rfl rfl rfl rfl (fun w hc => by obtain ⟨G1,hle1,hrd1,hc,hth1⟩ := lend hc k7; exact (law09_total_ok sub (Rd.sub hrd1 hsub) hc hr_8).mono fun e w h => ⟨h.1,((hth1 _ _ h.2).unpick k7)⟩)) fun a w hf hc => cNil ?_
    refine xThenN ?_
    intro ds u hau
    refine ⟨θ,he.put0 hi hau hf rfl 14 rfl rfl,?_⟩
    exact hc
   ·intro E θ a w hD hi hp he hc
    have e0 := hp.of (k := 0) rfl
    have e6 := hp.of (k := 6) rfl
    have e8 := hD.f 0 rfl hi
    have e9 := hD.f 1 rfl e8
    have e11 := hD.f 2 rfl hi
    try dsimp only at hc
    rw [hi] at hc
    have hf := he.h0
    replace hf := hf.more he 8 rfl (onP e0)
    replace hf := hf.more he 14 rfl (onP e6)
    obtain ⟨G1,hle1,hrd1,hc,hth1⟩ := lend hc k6
    refine stC (vs := [.agg #[.int .i64 r_3.1.States,.slice p_4 x_1.length c_4],.int .i64 r_8]) (caps := []) hf rfl rfl rfl en_18 rfl rfl rfl rfl (share_Real_ok (⟨r_3.1.States,x_1⟩ : share_Compact) r_8 hrd1 hc hr_9) ?_
    rintro _ w ⟨p_8,c_8,rfl,hc⟩
    refine ⟨_,rfl,fun a hf => ?_⟩
    replace hc := hth1 _ _ hc
    refine cNil ?_
    refine xThenN ?_
    intro ds u hau
    replace hc := hc.drop k2
    replace hc := hc.pick k0
    replace hc := hc.pick k6
    replace hc := hc.pick k6
    replace hc := hc.pick k6
    replace hc := hc.pick k6
    replace hc := hc.pick k6
    replace hc := hc.pick k6
    refine ⟨(setT θ 56 ⟨0,p_8,c_8,(fun _ => (none,0))⟩),he.put hi hau hf rfl [8,9,11] ⟨⟨e8,rfl⟩,⟨e9,rfl⟩,⟨e11,rfl⟩,trivial⟩ ⟨qq,qq,qq,qq,qq,qq,qq,qq,qq,qq,qq,qq,qq,qq,qq,qq,trivial,trivial,qq,trivial,qq,trivial⟩,?_⟩
    try dsimp only
    rw [updE_self E 7]
    exact hc
   ·intro E θ a w hD hi hp he hc
    have e7 := hp.of (k := 7) rfl
    have hf := he.h0
    replace hf := hf.more he 15 rfl (onP e7)
    refine stP hf rfl rfl rfl (pM rfl) fun a hf => cNil ?_
    refine xThenN ?_
    intro ds u hau
    refine ⟨θ,he.put0 hi hau hf rfl 16 rfl rfl,?_⟩
    exact hc
   ·intro E θ a w hD hi hp he hc
    have e8 := hp.of (k := 8) rfl
    have hf := he.h0
    replace hf := hf.more he 16 rfl (onP e8)
    refine stP hf rfl rfl rfl (pX rfl rfl) fun a hf => cNil ?_
    refine xThenN ?_
    intro ds u hau
    refine ⟨θ,he.put0 hi hau hf rfl 17 rfl rfl,?_⟩
    exact hc
   ·intro E θ a w hD hi hp he hc
    have e8 := hp.of (k := 8) rfl
    have hf := he.h0
    replace hf := hf.more he 16 rfl (onP e8)
    refine stP hf rfl rfl rfl (pX rfl rfl) fun a hf => cNil ?_
    refine xThenN ?_
    intro ds u hau
    refine ⟨θ,he.put0 hi hau hf rfl 18 rfl rfl,?_⟩
    exact hc
   ·intro E θ a w hD hi hp he hc
    have e9 := hp.of (k := 9) rfl
    have hf := he.h0
    replace hf := hf.more he 17 rfl (onP e9)
    refine stP hf rfl rfl rfl (pA rfl) fun a hf => cNil ?_
    refine xThenN ?_
    intro ds u hau
    refine ⟨θ,he.put0 hi hau hf rfl 19 rfl rfl,?_⟩
    exact hc
   ·intro E θ a w hD hi hp he hc
    have e10 := hp.of (k := 10) rfl
    have hf := he.h0
    replace hf := hf.more he 18 rfl (onP e10)
    refine stP hf rfl rfl rfl (pA rfl) fun a hf => cNil ?_
    refine xThenN ?_
    intro ds u hau
    refine ⟨θ,he.put0 hi hau hf rfl 20 rfl rfl,?_⟩
    exact hc
   ·intro E θ a w hall he hc
    have hf := he.h0
    have e7 := hall 7 rfl
    have e11 := hall 11 rfl
    have e12 := hall 12 rfl
    replace hf := hf.more he 20 rfl (onP e12)
    replace hf := hf.more he 19 rfl (onP e11)
    replace hf := hf.more he 7 rfl (onT)
    replace hf := hf.more he 6 rfl (onT)
    replace hf := hf.more he 5 rfl (onT)
    replace hf := hf.more he 4 rfl (onT)
    replace hf := hf.more he 1 rfl (onT)
    try dsimp only at hc
    rw [e7] at hc
    exact ⟨(θ 56).p,(θ 56).c,hf.keep ⟨rfl,rfl,rfl,rfl,rfl,rfl,rfl,trivial⟩,hc⟩
   rintro a w ⟨p_9,c_9,hf,hc⟩
   refine h16 _ _ ?_
   refine wp_seq_k fun K17 h17 => wp_seq_k fun K18 h18 => cReg ?_
   refine stP hf rfl rfl rfl (pM rfl) fun a hf => stP hf rfl rfl rfl (pNe rfl rfl) fun a hf => stP hf rfl rfl rfl (pM rfl) fun a hf => stCut 3 (fun a w => Has 237 a [(13,.pointer (some ⟨b_4,0,none⟩)),(20,.pointer (some ⟨b_7,0,none⟩)),(21,.int .i64 r_6.2),(22,.pointer (some ⟨b_8,0,none⟩)),(23,.int .i64 r_7.2),(24,.slice p_9 r_9.1.length c_9),(25,.int .i64 r_9.2),(124,.int .i64 r_6.2),(125,.bool (r_6.2 != 0)),(126,.bool (r_6.2 != 0)),(129,.bool ((r_6.2 != 0) || (r_7.2 != 0)))] ∧ Ctx G (.row p_9 c_9 (r_9.1.map encI_i64) 3 1::.box b_8 [.int .i64 r_7.1.Lo,.int .i64 r_7.1.Hi] 26::.box b_7 [.int .i64 r_6.1.Lo,.int .i64 r_6.1.Hi] 26::.box b_6 [.int .i64 r_5.Rise,.int .i64 r_5.Fall,.slice p_7 x_5.length c_7] 127::.row p_7 c_7 (x_5.map enc_daily_Value) 133 3::.box b_4 [.int .i64 r_3.1.States,.slice p_4 x_1.length c_4] 24::.row p_4 c_4 (x_1.map enc_share_Right) 51 3::.row p_6 c_6 (r_1.2.1.map encI_i64) 3 1::Lf) w) ?_ ?_
   ·cases hb : (r_6.2 != 0)
    ·rw [hb] at hf
     refine stP hf rfl rfl rfl (pM rfl) fun a hf => stP hf rfl rfl rfl (pNe rfl rfl) fun a hf => stP hf rfl rfl rfl (pPf rfl rfl) fun a hf => cNil ⟨hf.keep ⟨rfl,rfl,rfl,rfl,rfl,rfl,rfl,rfl,rfl,rfl,rfl,trivial⟩,hc⟩
    ·rw [hb] at hf
     refine stS hf rfl rfl rfl fun a hf => stS hf rfl rfl rfl fun a hf => stP hf rfl rfl rfl (pPt rfl rfl) fun a hf => cNil ⟨hf.keep ⟨rfl,rfl,rfl,rfl,rfl,rfl,rfl,rfl,rfl,rfl,rfl,trivial⟩,hc⟩
   intro a w ⟨hf,hc⟩
   refine stP hf rfl rfl rfl (pM rfl) fun a hf => stCut 3 (fun a w => Has 237 a [(13,.pointer (some ⟨b_4,0,none⟩)),(20,.pointer (some ⟨b_7,0,none⟩)),(21,.int .i64 r_6.2),(22,.pointer (some ⟨b_8,0,none⟩)),(23,.int .i64 r_7.2),(24,.slice p_9 r_9.1.length c_9),(25,.int .i64 r_9.2),(124,.int .i64 r_6.2),(125,.bool (r_6.2 != 0)),(126,.bool (r_6.2 != 0)),(129,.bool ((r_6.2 != 0) || (r_7.2 != 0))),(130,.bool ((r_6.2 != 0) || (r_7.2 != 0))),(133,.bool (((r_6.2 != 0) || (r_7.2 != 0)) || (r_9.2 != 0)))] ∧ Ctx G (.row p_9 c_9 (r_9.1.map encI_i64) 3 1::.box b_8 [.int .i64 r_7.1.Lo,.int .i64 r_7.1.Hi] 26::.box b_7 [.int .i64 r_6.1.Lo,.int .i64 r_6.1.Hi] 26::.box b_6 [.int .i64 r_5.Rise,.int .i64 r_5.Fall,.slice p_7 x_5.length c_7] 127::.row p_7 c_7 (x_5.map enc_daily_Value) 133 3::.box b_4 [.int .i64 r_3.1.States,.slice p_4 x_1.length c_4] 24::.row p_4 c_4 (x_1.map enc_share_Right) 51 3::.row p_6 c_6 (r_1.2.1.map encI_i64) 3 1::Lf) w) ?_ ?_
   ·cases hb : ((r_6.2 != 0) || (r_7.2 != 0))
    ·rw [hb] at hf
     refine stP hf rfl rfl rfl (pM rfl) fun a hf => stP hf rfl rfl rfl (pNe rfl rfl) fun a hf => stP hf rfl rfl rfl (pPf rfl rfl) fun a hf => cNil ⟨hf.keep ⟨rfl,rfl,rfl,rfl,rfl,rfl,rfl,rfl,rfl,rfl,rfl,rfl,rfl,trivial⟩,hc⟩
    ·rw [hb] at hf
     refine stS hf rfl rfl rfl fun a hf => stS hf rfl rfl rfl fun a hf => stP hf rfl rfl rfl (pPt rfl rfl) fun a hf => cNil ⟨hf.keep ⟨rfl,rfl,rfl,rfl,rfl,rfl,rfl,rfl,rfl,rfl,rfl,rfl,rfl,trivial⟩,hc⟩
   intro a w ⟨hf,hc⟩
   refine stP hf rfl rfl rfl (pM rfl) fun a hf => stCut 4 (fun a w => Has 237 a [(13,.pointer (some ⟨b_4,0,none⟩)),(20,.pointer (some ⟨b_7,0,none⟩)),(21,.int .i64 r_6.2),(22,.pointer (some ⟨b_8,0,none⟩)),(23,.int .i64 r_7.2),(24,.slice p_9 r_9.1.length c_9),(25,.int .i64 r_9.2),(124,.int .i64 r_6.2),(125,.bool (r_6.2 != 0)),(126,.bool (r_6.2 != 0)),(129,.bool ((r_6.2 != 0) || (r_7.2 != 0))),(130,.bool ((r_6.2 != 0) || (r_7.2 != 0))),(133,.bool (((r_6.2 != 0) || (r_7.2 != 0)) || (r_9.2 != 0))),(134,.bool (((r_6.2 != 0) || (r_7.2 != 0)) || (r_9.2 != 0))),(138,.bool ((((r_6.2 != 0) || (r_7.2 != 0)) || (r_9.2 != 0)) || (decide (r_6.1.Lo < 0))))] ∧ Ctx G (.row p_9 c_9 (r_9.1.map encI_i64) 3 1::.box b_8 [.int .i64 r_7.1.Lo,.int .i64 r_7.1.Hi] 26::.box b_7 [.int .i64 r_6.1.Lo,.int .i64 r_6.1.Hi] 26::.box b_6 [.int .i64 r_5.Rise,.int .i64 r_5.Fall,.slice p_7 x_5.length c_7] 127::.row p_7 c_7 (x_5.map enc_daily_Value) 133 3::.box b_4 [.int .i64 r_3.1.States,.slice p_4 x_1.length c_4] 24::.row p_4 c_4 (x_1.map enc_share_Right) 51 3::.row p_6 c_6 (r_1.2.1.map encI_i64) 3 1::Lf) w) ?_ ?_
   ·cases hb : (((r_6.2 != 0) || (r_7.2 != 0)) || (r_9.2 != 0))
    ·rw [hb] at hf
     refine stP hf rfl rfl rfl (pFA fa_26_0 rfl) fun a hf => stE hf hc rfl rfl rfl (eLd1 sc_3 rfl (cell_box m2 rfl)) fun a w hf hc => stP hf rfl rfl rfl (pLt rfl rfl) fun a hf => stP hf rfl rfl rfl (pPf rfl rfl) fun a hf => cNil ⟨hf.keep ⟨rfl,rfl,rfl,rfl,rfl,rfl,rfl,rfl,rfl,rfl,rfl,rfl,rfl,rfl,rfl,trivial⟩,hc⟩
    ·rw [hb] at hf
     refine stS hf rfl rfl rfl fun a hf => stS hf rfl rfl rfl fun a hf => stS hf rfl rfl rfl fun a hf => stP hf rfl rfl rfl (pPt rfl rfl) fun a hf => cNil ⟨hf.keep ⟨rfl,rfl,rfl,rfl,rfl,rfl,rfl,rfl,rfl,rfl,rfl,rfl,rfl,rfl,rfl,trivial⟩,hc⟩
   intro a w ⟨hf,hc⟩
   refine cNil ?_
   refine h18 _ _ ?_
   refine cCond (b := ((((r_6.2 != 0) || (r_7.2 != 0)) || (r_9.2 != 0)) || (decide (r_6.1.Lo < 0)))) hf rfl (fun hb => ?_) (fun hb => ?_)
   ·replace hF := condT hb hF
    clear hb
    refine wp_seq_k fun K19 h19 => cReg ?_
    refine stP hf rfl rfl rfl (pA rfl) fun a hf => cNil ?_
    refine h19 _ _ ?_
    refine wp_ret ?_
    refine xThenR ?_
    obtain rfl := Option.some.inj hF
    replace hc := hc.drop k7
    replace hc := hc.drop k6
    replace hc := hc.drop k5
    replace hc := hc.drop k4
    replace hc := hc.drop k3
    replace hc := hc.drop k2
    replace hc := hc.drop k1
    replace hc := hc.drop k0
    exact fnOut1 (by simp) rfl Try.results11 hf hc (show look _ 10 = _ from rfl) ⟨rfl,hc⟩
   ·replace hF := condF hb hF
    clear hb
    refine wp_skip ?_
    refine h17 _ _ ?_
    refine wp_seq_k fun K20 h20 => regionE (fun θ => [⟨none,none,13,.pointer (some ⟨b_4,0,none⟩)⟩,⟨none,none,20,.pointer (some ⟨b_7,0,none⟩)⟩,⟨none,none,22,.pointer (some ⟨b_8,0,none⟩)⟩,⟨none,none,24,.slice p_9 r_9.1.length c_9⟩,⟨some 0,none,139,.pointer (some ⟨b_7,1,none⟩)⟩,⟨some 1,none,140,.int .i64 r_6.1.Hi⟩,⟨some 2,none,141,.int .i64 (min r_6.1.Hi 1000000000)⟩,⟨some 3,none,142,.pointer (some ⟨b_8,1,none⟩)⟩,⟨some 4,none,143,.int .i64 r_7.1.Hi⟩,⟨some 5,none,144,.int .i64 (min r_7.1.Hi 1000000000)⟩,⟨some 6,none,145,.pointer (some ⟨b_7,1,none⟩)⟩,⟨some 8,none,146,.pointer (some ⟨b_8,1,none⟩)⟩]) (fun E θ => .row p_9 c_9 (r_9.1.map encI_i64) 3 1::(bif E 9 then .box b_8 [.int .i64 r_7.1.Lo,.int .i64 (min r_7.1.Hi 1000000000)] 26 else .box b_8 [.int .i64 r_7.1.Lo,.int .i64 r_7.1.Hi] 26)::(bif E 7 then .box b_7 [.int .i64 r_6.1.Lo,.int .i64 (min r_6.1.Hi 1000000000)] 26 else .box b_7 [.int .i64 r_6.1.Lo,.int .i64 r_6.1.Hi] 26)::.box b_6 [.int .i64 r_5.Rise,.int .i64 r_5.Fall,.slice p_7 x_5.length c_7] 127::.row p_7 c_7 (x_5.map enc_daily_Value) 133 3::.box b_4 [.int .i64 r_3.1.States,.slice p_4 x_1.length c_4] 24::.row p_4 c_4 (x_1.map enc_share_Right) 51 3::.row p_6 c_6 (r_1.2.1.map encI_i64) 3 1::Lf) [(7,1),(9,4)] (fun a w => Has 237 a [(13,.pointer (some ⟨b_4,0,none⟩)),(20,.pointer (some ⟨b_7,0,none⟩)),(22,.pointer (some ⟨b_8,0,none⟩)),(24,.slice p_9 r_9.1.length c_9)] ∧ Ctx G (.row p_9 c_9 (r_9.1.map encI_i64) 3 1::.box b_8 [.int .i64 r_7.1.Lo,.int .i64 (min r_7.1.Hi 1000000000)] 26::.box b_7 [.int .i64 r_6.1.Lo,.int .i64 (min r_6.1.Hi 1000000000)] 26::.box b_6 [.int .i64 r_5.Rise,.int .i64 r_5.Fall,.slice p_7 x_5.length c_7] 127::.row p_7 c_7 (x_5.map enc_daily_Value) 133 3::.box b_4 [.int .i64 r_3.1.States,.slice p_4 x_1.length c_4] 24::.row p_4 c_4 (x_1.map enc_share_Right) 51 3::.row p_6 c_6 (r_1.2.1.map encI_i64) 3 1::Lf) w) follows_mx (by kernel_rfl) (by kernel_rfl) (HasE.of hf ⟨rfl,rfl,rfl,rfl,trivial,trivial,trivial,trivial,trivial,trivial,trivial,trivial,trivial⟩) hc ⟨?_,?_,?_,?_,?_,?_,?_,?_,?_,?_,trivial⟩ ?_ ?_
    ·intro E θ a w hD hi hp he hc
     have hf := he.h0
     replace hf := hf.more he 1 rfl onT
     refine stP hf rfl rfl rfl (pFA fa_26_1 rfl) fun a hf => cNil ?_
     refine xThenN ?_
     intro ds u hau
     refine ⟨θ,he.put0 hi hau hf rfl 4 rfl rfl,?_⟩
     exact hc
    ·intro E θ a w hD hi hp he hc
     have e0 := hp.of (k := 0) rfl
     have e7 := hD.f 0 rfl hi
     try dsimp only at hc
     rw [e7] at hc
     have hf := he.h0
     replace hf := hf.more he 4 rfl (onP e0)
     refine stE hf hc rfl rfl rfl (eLd1 sc_3 rfl (cell_box m2 rfl)) fun a w hf hc => cNil ?_
     refine xThenN ?_
     intro ds u hau
     refine ⟨θ,he.put0 hi hau hf rfl 5 rfl rfl,?_⟩
     try dsimp only
     rw [updE_fls 1 e7 rfl]
     exact hc
    ·intro E θ a w hD hi hp he hc
     have e1 := hp.of (k := 1) rfl
     have hf := he.h0
     replace hf := hf.more he 5 rfl (onP e1)
     refine stP hf rfl rfl rfl (pMin2 rfl rfl) fun a hf => cNil ?_
     refine xThenN ?_
     intro ds u hau
     refine ⟨θ,he.put0 hi hau hf rfl 6 rfl rfl,?_⟩
     exact hc
    ·intro E θ a w hD hi hp he hc
     have hf := he.h0
     replace hf := hf.more he 2 rfl onT
     refine stP hf rfl rfl rfl (pFA fa_26_1 rfl) fun a hf => cNil ?_
     refine xThenN ?_
     intro ds u hau
     refine ⟨θ,he.put0 hi hau hf rfl 7 rfl rfl,?_⟩
     exact hc
    ·intro E θ a w hD hi hp he hc
     have e3 := hp.of (k := 3) rfl
     have e9 := hD.f 1 rfl hi
     try dsimp only at hc
     rw [e9] at hc
     have hf := he.h0
     replace hf := hf.more he 7 rfl (onP e3)
     refine stE hf hc rfl rfl rfl (eLd1 sc_3 rfl (cell_box m1 rfl)) fun a w hf hc => cNil ?_
     refine xThenN ?_
     intro ds u hau
     refine ⟨θ,he.put0 hi hau hf rfl 8 rfl rfl,?_⟩
     try dsimp only
     rw [updE_fls 4 e9 rfl]
     exact hc
    ·intro E θ a w hD hi hp he hc
     have e4 := hp.of (k := 4) rfl
     have hf := he.h0
     replace hf := hf.more he 8 rfl (onP e4)
     refine stP hf rfl rfl rfl (pMin2 rfl rfl) fun a hf => cNil ?_
     refine xThenN ?_
     intro ds u hau
     refine ⟨θ,he.put0 hi hau hf rfl 9 rfl rfl,?_⟩
     exact hc
    ·intro E θ a w hD hi hp he hc
     have hf := he.h0
     replace hf := hf.more he 1 rfl onT
     refine stP hf rfl rfl rfl (pFA fa_26_1 rfl) fun a hf => cNil ?_
     refine xThenN ?_
     intro ds u hau
     refine ⟨θ,he.put0 hi hau hf rfl 10 rfl rfl,?_⟩
     exact hc
    ·intro E θ a w hD hi hp he hc
     have e2 := hp.of (k := 2) rfl
     have e6 := hp.of (k := 6) rfl
     try dsimp only at hc
     rw [hi] at hc
     have hf := he.h0
     replace hf := hf.more he 6 rfl (onP e2)
     replace hf := hf.more he 10 rfl (onP e6)
     refine stSt (vs := [.int .i64 (min r_6.1.Hi 1000000000)]) hf hc rfl rfl rfl rfl sz_3 rfl rfl u2 fun w hc => cNil ?_
     refine xThenN ?_
     intro ds u hau
     refine ⟨θ,he.stay0 hi hau hf rfl,?_⟩
     try dsimp only
     rw [updE_self E 7]
     exact hc
    ·intro E θ a w hD hi hp he hc
     have hf := he.h0
     replace hf := hf.more he 2 rfl onT
     refine stP hf rfl rfl rfl (pFA fa_26_1 rfl) fun a hf => cNil ?_
     refine xThenN ?_
     intro ds u hau
     refine ⟨θ,he.put0 hi hau hf rfl 11 rfl rfl,?_⟩
     exact hc
    ·intro E θ a w hD hi hp he hc
     have e5 := hp.of (k := 5) rfl
     have e8 := hp.of (k := 8) rfl
     try dsimp only at hc
     rw [hi] at hc
     have hf := he.h0
     replace hf := hf.more he 9 rfl (onP e5)
     replace hf := hf.more he 11 rfl (onP e8)
     refine stSt (vs := [.int .i64 (min r_7.1.Hi 1000000000)]) hf hc rfl rfl rfl rfl sz_3 rfl rfl u1 fun w hc => cNil ?_
     refine xThenN ?_
     intro ds u hau
     refine ⟨θ,he.stay0 hi hau hf rfl,?_⟩
     try dsimp only
     rw [updE_self E 9]
     exact hc
    ·intro E θ a w hall he hc
     have hf := he.h0
     have e7 := hall 7 rfl
     have e9 := hall 9 rfl
     replace hf := hf.more he 3 rfl (onT)
     replace hf := hf.more he 2 rfl (onT)
     replace hf := hf.more he 1 rfl (onT)
     replace hf := hf.more he 0 rfl (onT)
     try dsimp only at hc
     rw [e7,e9] at hc
     exact ⟨hf.keep ⟨rfl,rfl,rfl,rfl,trivial⟩,hc⟩
    rintro a w ⟨hf,hc⟩
    refine h20 _ _ ?_
    refine wp_seq_k fun K21 h21 => cReg ?_
    refine stE hf hc rfl rfl rfl (eLdN (vs := [.int .i64 r_3.1.States,.slice p_4 x_1.length c_4]) ag_24 rfl rfl (cells_box (n := 2) m5 rfl)) fun a w hf hc => stE hf hc rfl rfl rfl (eLdN (vs := [.int .i64 r_6.1.Lo,.int .i64 (min r_6.1.Hi 1000000000)]) ag_26 rfl rfl (cells_box (n := 2) m2 rfl)) fun a w hf hc => ?_
    obtain ⟨r_10,hr_10,hF⟩ := bnd_some hF
    obtain ⟨G1,hle1,hrd1,hc,hth1⟩ := lend hc k6
    refine stC (vs := [.agg #[.int .i64 r_3.1.States,.slice p_4 x_1.length c_4],.agg #[.int .i64 r_6.1.Lo,.int .i64 (min r_6.1.Hi 1000000000)]]) (caps := []) hf rfl rfl rfl en_21 rfl rfl rfl rfl (share_Shares_ok (⟨r_3.1.States,x_1⟩ : share_Compact) (⟨r_6.1.Lo,min r_6.1.Hi 1000000000⟩ : api_Span) hrd1 hc hr_10) ?_
    rintro _ w ⟨p_10,c_10,rfl,hc⟩
    refine ⟨_,rfl,fun a hf => ?_⟩
    replace hc := hth1 _ _ hc
    refine stP hf rfl rfl rfl (pM rfl) fun a hf => stP hf rfl rfl rfl (pX rfl rfl) fun a hf => stP hf rfl rfl rfl (pX rfl rfl) fun a hf => stP hf rfl rfl rfl (pA rfl) fun a hf => stP hf rfl rfl rfl (pA rfl) fun a hf => cNil ?_
    replace hc := hc.drop k8
    replace hc := hc.drop k6
    replace hc := hc.drop k5
    replace hc := hc.drop k4
    refine h21 _ _ ?_
    refine wp_seq_k fun K22 h22 => cReg ?_
    refine stE hf hc rfl rfl rfl (eLdN (vs := [.int .i64 r_3.1.States,.slice p_4 x_1.length c_4]) ag_24 rfl rfl (cells_box (n := 2) m4 rfl)) fun a w hf hc => stE hf hc rfl rfl rfl (eLdN (vs := [.int .i64 r_7.1.Lo,.int .i64 (min r_7.1.Hi 1000000000)]) ag_26 rfl rfl (cells_box (n := 2) m3 rfl)) fun a w hf hc => ?_
    obtain ⟨r_11,hr_11,hF⟩ := bnd_some hF
    obtain ⟨G1,hle1,hrd1,hc,hth1⟩ := lend hc k0
    refine stC (vs := [.agg #[.int .i64 r_3.1.States,.slice p_4 x_1.length c_4],.agg #[.int .i64 r_7.1.Lo,.int .i64 (min r_7.1.Hi 1000000000)]]) (caps := []) hf rfl rfl rfl en_21 rfl rfl rfl rfl (share_Shares_ok (⟨r_3.1.States,x_1⟩ : share_Compact) (⟨r_7.1.Lo,min r_7.1.Hi 1000000000⟩ : api_Span) hrd1 hc hr_11) ?_
    rintro _ w ⟨p_11,c_11,rfl,hc⟩
    refine ⟨_,rfl,fun a hf => ?_⟩
    replace hc := hth1 _ _ hc
    refine stP hf rfl rfl rfl (pM rfl) fun a hf => stP hf rfl rfl rfl (pX rfl rfl) fun a hf => stP hf rfl rfl rfl (pX rfl rfl) fun a hf => stP hf rfl rfl rfl (pA rfl) fun a hf => stP hf rfl rfl rfl (pA rfl) fun a hf => cNil ?_
    refine h22 _ _ ?_
    refine wp_seq_k fun K23 h23 => wp_seq_k fun K24 h24 => cReg ?_
    refine stP hf rfl rfl rfl (pM rfl) fun a hf => stP hf rfl rfl rfl (pNe rfl rfl) fun a hf => stP hf rfl rfl rfl (pM rfl) fun a hf => stCut 3 (fun a w => Has 237 a [(13,.pointer (some ⟨b_4,0,none⟩)),(24,.slice p_9 r_9.1.length c_9),(26,.slice p_10 r_10.1.length c_10),(21,.int .i64 r_10.2),(27,.slice p_11 r_11.1.length c_11),(23,.int .i64 r_11.2),(159,.int .i64 r_10.2),(160,.bool (r_10.2 != 0)),(161,.bool (r_10.2 != 0)),(164,.bool ((r_10.2 != 0) || (r_11.2 != 0)))] ∧ Ctx G (.row p_4 c_4 (x_1.map enc_share_Right) 51 3::.row p_11 c_11 (r_11.1.map enc_api_Span) 26 2::.row p_10 c_10 (r_10.1.map enc_api_Span) 26 2::.row p_9 c_9 (r_9.1.map encI_i64) 3 1::.box b_8 [.int .i64 r_7.1.Lo,.int .i64 (min r_7.1.Hi 1000000000)] 26::.box b_4 [.int .i64 r_3.1.States,.slice p_4 x_1.length c_4] 24::Lf) w) ?_ ?_
    ·cases hb : (r_10.2 != 0)
     ·rw [hb] at hf
      refine stP hf rfl rfl rfl (pM rfl) fun a hf => stP hf rfl rfl rfl (pNe rfl rfl) fun a hf => stP hf rfl rfl rfl (pPf rfl rfl) fun a hf => cNil ⟨hf.keep ⟨rfl,rfl,rfl,rfl,rfl,rfl,rfl,rfl,rfl,rfl,trivial⟩,hc⟩
     ·rw [hb] at hf
      refine stS hf rfl rfl rfl fun a hf => stS hf rfl rfl rfl fun a hf => stP hf rfl rfl rfl (pPt rfl rfl) fun a hf => cNil ⟨hf.keep ⟨rfl,rfl,rfl,rfl,rfl,rfl,rfl,rfl,rfl,rfl,trivial⟩,hc⟩
    intro a w ⟨hf,hc⟩
    refine stP hf rfl rfl rfl (pM rfl) fun a hf => stCut 6 (fun a w => Has 237 a [(13,.pointer (some ⟨b_4,0,none⟩)),(24,.slice p_9 r_9.1.length c_9),(26,.slice p_10 r_10.1.length c_10),(21,.int .i64 r_10.2),(27,.slice p_11 r_11.1.length c_11),(23,.int .i64 r_11.2),(159,.int .i64 r_10.2),(160,.bool (r_10.2 != 0)),(161,.bool (r_10.2 != 0)),(164,.bool ((r_10.2 != 0) || (r_11.2 != 0))),(165,.bool ((r_10.2 != 0) || (r_11.2 != 0))),(171,.bool (((r_10.2 != 0) || (r_11.2 != 0)) || (((r_10.1.length : Nat) : Int) != r_3.1.States)))] ∧ Ctx G (.row p_4 c_4 (x_1.map enc_share_Right) 51 3::.row p_11 c_11 (r_11.1.map enc_api_Span) 26 2::.row p_10 c_10 (r_10.1.map enc_api_Span) 26 2::.row p_9 c_9 (r_9.1.map encI_i64) 3 1::.box b_8 [.int .i64 r_7.1.Lo,.int .i64 (min r_7.1.Hi 1000000000)] 26::.box b_4 [.int .i64 r_3.1.States,.slice p_4 x_1.length c_4] 24::Lf) w) ?_ ?_
    ·cases hb : ((r_10.2 != 0) || (r_11.2 != 0))
     ·rw [hb] at hf
      refine stP hf rfl rfl rfl (pM rfl) fun a hf => stP hf rfl rfl rfl (pLenS Try.underlying41 rfl) fun a hf => stP hf rfl rfl rfl (pFA fa_24_0 rfl) fun a hf => stE hf hc rfl rfl rfl (eLd1 sc_3 rfl (cell_box m5 rfl)) fun a w hf hc => stP hf rfl rfl rfl (pNe rfl rfl) fun a hf => stP hf rfl rfl rfl (pPf rfl rfl) fun a hf => cNil ⟨hf.keep ⟨rfl,rfl,rfl,rfl,rfl,rfl,rfl,rfl,rfl,rfl,rfl,rfl,trivial⟩,hc⟩
     ·rw [hb] at hf
      refine stS hf rfl rfl rfl fun a hf => stS hf rfl rfl rfl fun a hf => stS hf rfl rfl rfl fun a hf => stS hf rfl rfl rfl fun a hf => stS hf rfl rfl rfl fun a hf => stP hf rfl rfl rfl (pPt rfl rfl) fun a hf => cNil ⟨hf.keep ⟨rfl,rfl,rfl,rfl,rfl,rfl,rfl,rfl,rfl,rfl,rfl,rfl,trivial⟩,hc⟩
    intro a w ⟨hf,hc⟩
    refine stP hf rfl rfl rfl (pM rfl) fun a hf => stCut 6 (fun a w => Has 237 a [(13,.pointer (some ⟨b_4,0,none⟩)),(24,.slice p_9 r_9.1.length c_9),(26,.slice p_10 r_10.1.length c_10),(21,.int .i64 r_10.2),(27,.slice p_11 r_11.1.length c_11),(23,.int .i64 r_11.2),(159,.int .i64 r_10.2),(160,.bool (r_10.2 != 0)),(161,.bool (r_10.2 != 0)),(164,.bool ((r_10.2 != 0) || (r_11.2 != 0))),(165,.bool ((r_10.2 != 0) || (r_11.2 != 0))),(171,.bool (((r_10.2 != 0) || (r_11.2 != 0)) || (((r_10.1.length : Nat) : Int) != r_3.1.States))),(172,.bool (((r_10.2 != 0) || (r_11.2 != 0)) || (((r_10.1.length : Nat) : Int) != r_3.1.States))),(178,.bool ((((r_10.2 != 0) || (r_11.2 != 0)) || (((r_10.1.length : Nat) : Int) != r_3.1.States)) || (((r_11.1.length : Nat) : Int) != r_3.1.States)))] ∧ Ctx G (.row p_4 c_4 (x_1.map enc_share_Right) 51 3::.row p_11 c_11 (r_11.1.map enc_api_Span) 26 2::.row p_10 c_10 (r_10.1.map enc_api_Span) 26 2::.row p_9 c_9 (r_9.1.map encI_i64) 3 1::.box b_8 [.int .i64 r_7.1.Lo,.int .i64 (min r_7.1.Hi 1000000000)] 26::.box b_4 [.int .i64 r_3.1.States,.slice p_4 x_1.length c_4] 24::Lf) w) ?_ ?_
    ·cases hb : (((r_10.2 != 0) || (r_11.2 != 0)) || (((r_10.1.length : Nat) : Int) != r_3.1.States))
     ·rw [hb] at hf
      refine stP hf rfl rfl rfl (pM rfl) fun a hf => stP hf rfl rfl rfl (pLenS Try.underlying41 rfl) fun a hf => stP hf rfl rfl rfl (pFA fa_24_0 rfl) fun a hf => stE hf hc rfl rfl rfl (eLd1 sc_3 rfl (cell_box m5 rfl)) fun a w hf hc => stP hf rfl rfl rfl (pNe rfl rfl) fun a hf => stP hf rfl rfl rfl (pPf rfl rfl) fun a hf => cNil ⟨hf.keep ⟨rfl,rfl,rfl,rfl,rfl,rfl,rfl,rfl,rfl,rfl,rfl,rfl,rfl,rfl,trivial⟩,hc⟩
     ·rw [hb] at hf
      refine stS hf rfl rfl rfl fun a hf => stS hf rfl rfl rfl fun a hf => stS hf rfl rfl rfl fun a hf => stS hf rfl rfl rfl fun a hf => stS hf rfl rfl rfl fun a hf => stP hf rfl rfl rfl (pPt rfl rfl) fun a hf => cNil ⟨hf.keep ⟨rfl,rfl,rfl,rfl,rfl,rfl,rfl,rfl,rfl,rfl,rfl,rfl,rfl,rfl,trivial⟩,hc⟩
    intro a w ⟨hf,hc⟩
    refine stP hf rfl rfl rfl (pM rfl) fun a hf => stCut 6 (fun a w => Has 237 a [(13,.pointer (some ⟨b_4,0,none⟩)),(24,.slice p_9 r_9.1.length c_9),(26,.slice p_10 r_10.1.length c_10),(21,.int .i64 r_10.2),(27,.slice p_11 r_11.1.length c_11),(23,.int .i64 r_11.2),(159,.int .i64 r_10.2),(160,.bool (r_10.2 != 0)),(161,.bool (r_10.2 != 0)),(164,.bool ((r_10.2 != 0) || (r_11.2 != 0))),(165,.bool ((r_10.2 != 0) || (r_11.2 != 0))),(171,.bool (((r_10.2 != 0) || (r_11.2 != 0)) || (((r_10.1.length : Nat) : Int) != r_3.1.States))),(172,.bool (((r_10.2 != 0) || (r_11.2 != 0)) || (((r_10.1.length : Nat) : Int) != r_3.1.States))),(178,.bool ((((r_10.2 != 0) || (r_11.2 != 0)) || (((r_10.1.length : Nat) : Int) != r_3.1.States)) || (((r_11.1.length : Nat) : Int) != r_3.1.States))),(179,.bool ((((r_10.2 != 0) || (r_11.2 != 0)) || (((r_10.1.length : Nat) : Int) != r_3.1.States)) || (((r_11.1.length : Nat) : Int) != r_3.1.States))),(185,.bool (((((r_10.2 != 0) || (r_11.2 != 0)) || (((r_10.1.length : Nat) : Int) != r_3.1.States)) || (((r_11.1.length : Nat) : Int) != r_3.1.States)) || (((r_9.1.length : Nat) : Int) != r_3.1.States)))] ∧ Ctx G (.row p_4 c_4 (x_1.map enc_share_Right) 51 3::.row p_11 c_11 (r_11.1.map enc_api_Span) 26 2::.row p_10 c_10 (r_10.1.map enc_api_Span) 26 2::.row p_9 c_9 (r_9.1.map encI_i64) 3 1::.box b_8 [.int .i64 r_7.1.Lo,.int .i64 (min r_7.1.Hi 1000000000)] 26::.box b_4 [.int .i64 r_3.1.States,.slice p_4 x_1.length c_4] 24::Lf) w) ?_ ?_
    ·cases hb : ((((r_10.2 != 0) || (r_11.2 != 0)) || (((r_10.1.length : Nat) : Int) != r_3.1.States)) || (((r_11.1.length : Nat) : Int) != r_3.1.States))
     ·rw [hb] at hf
      refine stP hf rfl rfl rfl (pM rfl) fun a hf => stP hf rfl rfl rfl (pLenS Try.underlying36 rfl) fun a hf => stP hf rfl rfl rfl (pFA fa_24_0 rfl) fun a hf => stE hf hc rfl rfl rfl (eLd1 sc_3 rfl (cell_box m5 rfl)) fun a w hf hc => stP hf rfl rfl rfl (pNe rfl rfl) fun a hf => stP hf rfl rfl rfl (pPf rfl rfl) fun a hf => cNil ⟨hf.keep ⟨rfl,rfl,rfl,rfl,rfl,rfl,rfl,rfl,rfl,rfl,rfl,rfl,rfl,rfl,rfl,rfl,trivial⟩,hc⟩
     ·rw [hb] at hf
      refine stS hf rfl rfl rfl fun a hf => stS hf rfl rfl rfl fun a hf => stS hf rfl rfl rfl fun a hf => stS hf rfl rfl rfl fun a hf => stS hf rfl rfl rfl fun a hf => stP hf rfl rfl rfl (pPt rfl rfl) fun a hf => cNil ⟨hf.keep ⟨rfl,rfl,rfl,rfl,rfl,rfl,rfl,rfl,rfl,rfl,rfl,rfl,rfl,rfl,rfl,rfl,trivial⟩,hc⟩
    intro a w ⟨hf,hc⟩
    refine cNil ?_
    refine h24 _ _ ?_
    refine cCond (b := (((((r_10.2 != 0) || (r_11.2 != 0)) || (((r_10.1.length : Nat) : Int) != r_3.1.States)) || (((r_11.1.length : Nat) : Int) != r_3.1.States)) || (((r_9.1.length : Nat) : Int) != r_3.1.States))) hf rfl (fun hb => ?_) (fun hb => ?_)
    ·replace hF := condT hb hF
     clear hb
     refine wp_seq_k fun K25 h25 => cReg ?_
     refine stP hf rfl rfl rfl (pA rfl) fun a hf => cNil ?_
     refine h25 _ _ ?_
     refine wp_ret ?_
     refine xThenR ?_
     obtain rfl := Option.some.inj hF
     replace hc := hc.drop k5
     replace hc := hc.drop k4
     replace hc := hc.drop k3
     replace hc := hc.drop k2
     replace hc := hc.drop k1
     replace hc := hc.drop k0
     exact fnOut1 (by simp) rfl Try.results11 hf hc (show look _ 10 = _ from rfl) ⟨rfl,hc⟩
    ·replace hF := condF hb hF
     clear hb
     refine wp_skip ?_
     refine h23 _ _ ?_
     refine wp_seq_k fun K26 h26 => wp_seq_k fun K27 h27 => cReg ?_
     refine stP hf rfl rfl rfl (pM rfl) fun a hf => stP hf rfl rfl rfl (pLenS Try.underlying36 rfl) fun a hf => stP hf rfl rfl rfl (pM rfl) fun a hf => cNil ?_
     refine h27 _ _ ?_
     refine wp_block ?_
     obtain ⟨x28,hx28,hF⟩ := bnd_some hF
     let S28 : Int → Act → World → Prop := (fun (zz : Int) a w => ∃ (p_12 : Option Addr) (c_12 : Nat) (p_13 : Option Addr) (c_13 : Nat),Has 237 a [(26,.slice p_10 r_10.1.length c_10),(27,.slice p_12 r_11.1.length c_12),(186,.slice p_13 r_9.1.length c_13),(187,.int .i64 ((r_9.1.length : Nat) : Int)),(188,.int .i64 zz)] ∧ Ctx G (.row p_12 c_12 (r_11.1.map enc_api_Span) 26 2::.row p_10 c_10 (r_10.1.map enc_api_Span) 26 2::.row p_13 c_13 (r_9.1.map encI_i64) 3 1::Lf) w)
     have hr28 : ∀ (zz : Int) a w,x28 = .go zz → S28 zz a w → K26 a w := by
      rintro x_6 a w rfl ⟨p_12,c_12,p_13,c_13,hf,hc⟩
      replace hF := exK_go hF
      refine h26 _ _ ?_
      refine wp_seq_k fun K29 h29 => cReg ?_
      obtain ⟨r_12,hr_12,hF⟩ := bnd_some hF
      refine stE hf hc rfl rfl rfl (eC (v := .bool r_12) (vs := []) (caps := []) en_13 rfl rfl rfl rfl (fun w hc => law09_awake_ok hc hr_12)) fun a w hf hc => stP hf rfl rfl rfl (pA rfl) fun a hf => cNil ?_
      refine h29 _ _ ?_
      refine wp_ret ?_
      obtain rfl := Option.some.inj hF
      replace hc := hc.drop k2
      replace hc := hc.drop k1
      replace hc := hc.drop k0
      exact fnOut1 (by simp) rfl Try.results11 hf hc (show look _ 10 = _ from rfl) ⟨rfl,hc⟩
     have ho28 : ∀ r,x28 = .out r → r = res := by
      rintro r rfl
      exact Option.some.inj hF
     replace hc := hc.drop k5
     replace hc := hc.drop k4
     replace hc := hc.drop k0
     refine cLoop N (loopW (S := S28) (x := x28) ?_ N 0 _ _ ⟨p_11,c_11,p_9,c_9,hf.keep ⟨rfl,rfl,rfl,rfl,rfl,trivial⟩,hc⟩ hx28)
     clear hF hf hc
     rintro x_6 st28 a w KB28 ⟨p_12,c_12,p_13,c_13,hf,hc⟩ hF hfin28 hK28
     unfold law09_ShareRecorded_b28 at hF
     refine wp_seq_k fun K30 h30 => cReg ?_
     refine stP hf rfl rfl rfl (pLt rfl rfl) fun a hf => cNil ?_
     refine h30 _ _ ?_
     refine wp_seq_k fun K31 h31 => cCond (b := (decide (x_6 < ((r_9.1.length : Nat) : Int)))) hf rfl (fun hb => ?_) (fun hb => ?_)
     ·replace hF := condT hb hF
      clear hb
      refine wp_skip ?_
      refine h31 _ _ ?_
      refine wp_seq_k fun K32 h32 => wp_block ?_
      refine wp_seq_k fun K33 h33 => cReg ?_
      refine stP hf rfl rfl rfl (pM rfl) fun a hf => ?_
      obtain ⟨e_1,he_1,hF⟩ := bnd_some hF
      obtain ⟨g,rfl,qa,qr⟩ := row_atm hc m2 he_1
      refine stP hf rfl rfl rfl (pIA Try.underlying36 sz_3 rfl rfl qa) fun a hf => stE hf hc rfl rfl rfl (eLd1 sc_3 rfl (cell_row (sz := 1) (i := x_6.toNat) (j := 0) m2 qr rfl)) fun a w hf hc => stP hf rfl rfl rfl (pA rfl) fun a hf => stP hf rfl rfl rfl (pA rfl) fun a hf => cNil ?_
      refine h33 _ _ ?_
      refine wp_seq_k fun K34 h34 => ?_
      obtain ⟨e_2,he_2,hF⟩ := bnd_some hF
      obtain ⟨g_1,rfl,qa_1,qr_1⟩ := row_atm hc m0 he_2
      obtain ⟨t_1,ht_1,hF⟩ := bnd_some hF
      obtain ⟨t_2,ht_2,hF⟩ := bnd_some hF
      obtain ⟨t_3,ht_3,hF⟩ := bnd_some hF
      refine cQ hc follows_mx (by kernel_rfl) ?_
      refine qE hf rfl rfl rfl (Pu.ev (pM rfl)) fun a hf => qE hf rfl rfl rfl (Pu.ev (pM rfl)) fun a hf => qE hf rfl rfl rfl (Pu.ev (pM rfl)) fun a hf => qE hf rfl rfl rfl (Pu.ev (pIA Try.underlying41 sz_26 rfl rfl qa_1)) fun a hf => qE hf rfl rfl rfl (Pu.ev (pFA fa_26_0 rfl)) fun a hf => qE hf rfl rfl rfl (eLd1 sc_3 rfl (cell_row (sz := 2) (i := x_6.toNat) (j := 0) m0 qr_1 rfl)) fun a hf => qE hf rfl rfl rfl (Pu.ev (pLt rfl rfl)) fun a hf => qE hf rfl rfl rfl (Pu.ev (pM rfl)) fun a hf => qCut 8 (fun a => Has 237 a [(26,.slice p_10 r_10.1.length c_10),(27,.slice (some ⟨g_1,0,none⟩) r_11.1.length c_12),(186,.slice (some ⟨g,0,none⟩) r_9.1.length c_13),(187,.int .i64 ((r_9.1.length : Nat) : Int)),(188,.int .i64 x_6),(28,.int .i64 x_6),(29,.int .i64 e_1),(193,.int .i64 e_1),(194,.slice (some ⟨g_1,0,none⟩) r_11.1.length c_12),(195,.int .i64 x_6),(196,.pointer (some ⟨g_1,x_6.toNat * 2,none⟩)),(197,.pointer (some ⟨g_1,x_6.toNat * 2 + 0,none⟩)),(198,.int .i64 e_2.Lo),(199,.bool (decide (e_1 < e_2.Lo))),(200,.bool (decide (e_1 < e_2.Lo))),(208,.bool t_1)]) ?_ ?_
      ·cases hb : (decide (e_1 < e_2.Lo))
       ·rw [hb] at hf
        have hF := condF hb ht_1
        obtain ⟨e_3,he_3,hF⟩ := bnd_some hF
        obtain ⟨qa_2,qr_2⟩ := row_atk hc m0 he_3
        refine qE hf rfl rfl rfl (Pu.ev (pM rfl)) fun a hf => qE hf rfl rfl rfl (Pu.ev (pM rfl)) fun a hf => qE hf rfl rfl rfl (Pu.ev (pM rfl)) fun a hf => qE hf rfl rfl rfl (Pu.ev (pIA Try.underlying41 sz_26 rfl rfl qa_2)) fun a hf => qE hf rfl rfl rfl (Pu.ev (pFA fa_26_1 rfl)) fun a hf => qE hf rfl rfl rfl (eLd1 sc_3 rfl (cell_row (sz := 2) (i := x_6.toNat) (j := 1) m0 qr_2 rfl)) fun a hf => qE hf rfl rfl rfl (Pu.ev (pGt rfl rfl)) fun a hf => qE hf rfl rfl rfl (Pu.ev (pPf rfl rfl)) fun a hf => ?_
        obtain rfl := Option.some.inj hF
        exact qNil (hf.keep ⟨rfl,rfl,rfl,rfl,rfl,rfl,rfl,rfl,rfl,rfl,rfl,rfl,rfl,rfl,rfl,rfl,trivial⟩)
       ·rw [hb] at hf
        have hF := condT hb ht_1
        obtain rfl := Option.some.inj hF
        refine qS hf rfl rfl rfl fun a hf => qS hf rfl rfl rfl fun a hf => qS hf rfl rfl rfl fun a hf => qS hf rfl rfl rfl fun a hf => qS hf rfl rfl rfl fun a hf => qS hf rfl rfl rfl fun a hf => qS hf rfl rfl rfl fun a hf => qE hf rfl rfl rfl (Pu.ev (pPt rfl rfl)) fun a hf => qNil (hf.keep ⟨rfl,rfl,rfl,rfl,rfl,rfl,rfl,rfl,rfl,rfl,rfl,rfl,rfl,rfl,rfl,rfl,trivial⟩)
      intro a hf
      refine qE hf rfl rfl rfl (Pu.ev (pM rfl)) fun a hf => qCut 12 (fun a => Has 237 a [(26,.slice p_10 r_10.1.length c_10),(27,.slice (some ⟨g_1,0,none⟩) r_11.1.length c_12),(186,.slice (some ⟨g,0,none⟩) r_9.1.length c_13),(187,.int .i64 ((r_9.1.length : Nat) : Int)),(188,.int .i64 x_6),(28,.int .i64 x_6),(29,.int .i64 e_1),(193,.int .i64 e_1),(194,.slice (some ⟨g_1,0,none⟩) r_11.1.length c_12),(195,.int .i64 x_6),(196,.pointer (some ⟨g_1,x_6.toNat * 2,none⟩)),(197,.pointer (some ⟨g_1,x_6.toNat * 2 + 0,none⟩)),(198,.int .i64 e_2.Lo),(199,.bool (decide (e_1 < e_2.Lo))),(200,.bool (decide (e_1 < e_2.Lo))),(208,.bool t_1),(209,.bool t_1),(221,.bool t_2)]) ?_ ?_
      ·cases hb : t_1
       ·rw [hb] at hf
        have hF := condF hb ht_2
        obtain ⟨e_4,he_4,hF⟩ := bnd_some hF
        obtain ⟨qa_3,qr_3⟩ := row_atk hc m0 he_4
        obtain ⟨e_5,he_5,hF⟩ := bnd_some hF
        obtain ⟨g_2,rfl,qa_4,qr_4⟩ := row_atm hc m1 he_5
        refine qE hf rfl rfl rfl (Pu.ev (pM rfl)) fun a hf => qE hf rfl rfl rfl (Pu.ev (pM rfl)) fun a hf => qE hf rfl rfl rfl (Pu.ev (pIA Try.underlying41 sz_26 rfl rfl qa_3)) fun a hf => qE hf rfl rfl rfl (Pu.ev (pFA fa_26_0 rfl)) fun a hf => qE hf rfl rfl rfl (eLd1 sc_3 rfl (cell_row (sz := 2) (i := x_6.toNat) (j := 0) m0 qr_3 rfl)) fun a hf => qE hf rfl rfl rfl (Pu.ev (pM rfl)) fun a hf => qE hf rfl rfl rfl (Pu.ev (pM rfl)) fun a hf => qE hf rfl rfl rfl (Pu.ev (pIA Try.underlying41 sz_26 rfl rfl qa_4)) fun a hf => qE hf rfl rfl rfl (Pu.ev (pFA fa_26_0 rfl)) fun a hf => qE hf rfl rfl rfl (eLd1 sc_3 rfl (cell_row (sz := 2) (i := x_6.toNat) (j := 0) m1 qr_4 rfl)) fun a hf => qE hf rfl rfl rfl (Pu.ev (pLt rfl rfl)) fun a hf => qE hf rfl rfl rfl (Pu.ev (pPf rfl rfl)) fun a hf => ?_
        obtain rfl := Option.some.inj hF
        exact qNil (hf.keep ⟨rfl,rfl,rfl,rfl,rfl,rfl,rfl,rfl,rfl,rfl,rfl,rfl,rfl,rfl,rfl,rfl,rfl,rfl,trivial⟩)
       ·rw [hb] at hf
        have hF := condT hb ht_2
        obtain rfl := Option.some.inj hF
        refine qS hf rfl rfl rfl fun a hf => qS hf rfl rfl rfl fun a hf => qS hf rfl rfl rfl fun a hf => qS hf rfl rfl rfl fun a hf => qS hf rfl rfl rfl fun a hf => qS hf rfl rfl rfl fun a hf => qS hf rfl rfl rfl fun a hf => qS hf rfl rfl rfl fun a hf => qS hf rfl rfl rfl fun a hf => qS hf rfl rfl rfl fun a hf => qS hf rfl rfl rfl fun a hf => qE hf rfl rfl rfl (Pu.ev (pPt rfl rfl)) fun a hf => qNil (hf.keep ⟨rfl,rfl,rfl,rfl,rfl,rfl,rfl,rfl,rfl,rfl,rfl,rfl,rfl,rfl,rfl,rfl,rfl,rfl,trivial⟩)
      intro a hf
      refine qE hf rfl rfl rfl (Pu.ev (pM rfl)) fun a hf => qCut 12 (fun a => Has 237 a [(26,.slice p_10 r_10.1.length c_10),(27,.slice (some ⟨g_1,0,none⟩) r_11.1.length c_12),(186,.slice (some ⟨g,0,none⟩) r_9.1.length c_13),(187,.int .i64 ((r_9.1.length : Nat) : Int)),(188,.int .i64 x_6),(28,.int .i64 x_6),(29,.int .i64 e_1),(193,.int .i64 e_1),(194,.slice (some ⟨g_1,0,none⟩) r_11.1.length c_12),(195,.int .i64 x_6),(196,.pointer (some ⟨g_1,x_6.toNat * 2,none⟩)),(197,.pointer (some ⟨g_1,x_6.toNat * 2 + 0,none⟩)),(198,.int .i64 e_2.Lo),(199,.bool (decide (e_1 < e_2.Lo))),(200,.bool (decide (e_1 < e_2.Lo))),(208,.bool t_1),(209,.bool t_1),(221,.bool t_2),(222,.bool t_2),(234,.bool t_3)]) ?_ ?_
      ·cases hb : t_2
       ·rw [hb] at hf
        have hF := condF hb ht_3
        obtain ⟨e_6,he_6,hF⟩ := bnd_some hF
        obtain ⟨qa_5,qr_5⟩ := row_atk hc m0 he_6
        obtain ⟨e_7,he_7,hF⟩ := bnd_some hF
        obtain ⟨g_3,rfl,qa_6,qr_6⟩ := row_atm hc m1 he_7
        refine qE hf rfl rfl rfl (Pu.ev (pM rfl)) fun a hf => qE hf rfl rfl rfl (Pu.ev (pM rfl)) fun a hf => qE hf rfl rfl rfl (Pu.ev (pIA Try.underlying41 sz_26 rfl rfl qa_5)) fun a hf => qE hf rfl rfl rfl (Pu.ev (pFA fa_26_1 rfl)) fun a hf => qE hf rfl rfl rfl (eLd1 sc_3 rfl (cell_row (sz := 2) (i := x_6.toNat) (j := 1) m0 qr_5 rfl)) fun a hf => qE hf rfl rfl rfl (Pu.ev (pM rfl)) fun a hf => qE hf rfl rfl rfl (Pu.ev (pM rfl)) fun a hf => qE hf rfl rfl rfl (Pu.ev (pIA Try.underlying41 sz_26 rfl rfl qa_6)) fun a hf => qE hf rfl rfl rfl (Pu.ev (pFA fa_26_1 rfl)) fun a hf => qE hf rfl rfl rfl (eLd1 sc_3 rfl (cell_row (sz := 2) (i := x_6.toNat) (j := 1) m1 qr_6 rfl)) fun a hf => qE hf rfl rfl rfl (Pu.ev (pGt rfl rfl)) fun a hf => qE hf rfl rfl rfl (Pu.ev (pPf rfl rfl)) fun a hf => ?_
        obtain rfl := Option.some.inj hF
        exact qNil (hf.keep ⟨rfl,rfl,rfl,rfl,rfl,rfl,rfl,rfl,rfl,rfl,rfl,rfl,rfl,rfl,rfl,rfl,rfl,rfl,rfl,rfl,trivial⟩)
       ·rw [hb] at hf
        have hF := condT hb ht_3
        obtain rfl := Option.some.inj hF
        refine qS hf rfl rfl rfl fun a hf => qS hf rfl rfl rfl fun a hf => qS hf rfl rfl rfl fun a hf => qS hf rfl rfl rfl fun a hf => qS hf rfl rfl rfl fun a hf => qS hf rfl rfl rfl fun a hf => qS hf rfl rfl rfl fun a hf => qS hf rfl rfl rfl fun a hf => qS hf rfl rfl rfl fun a hf => qS hf rfl rfl rfl fun a hf => qS hf rfl rfl rfl fun a hf => qE hf rfl rfl rfl (Pu.ev (pPt rfl rfl)) fun a hf => qNil (hf.keep ⟨rfl,rfl,rfl,rfl,rfl,rfl,rfl,rfl,rfl,rfl,rfl,rfl,rfl,rfl,rfl,rfl,rfl,rfl,rfl,rfl,trivial⟩)
      intro a hf
      intro w hc
      refine h34 _ _ ?_
      refine cCond (b := t_3) hf rfl (fun hb => ?_) (fun hb => ?_)
      ·replace hF := condT hb hF
       clear hb
       refine wp_seq_k fun K35 h35 => cReg ?_
       refine stP hf rfl rfl rfl (pA rfl) fun a hf => cNil ?_
       refine h35 _ _ ?_
       refine wp_ret ?_
       refine xBlkR ?_
       refine xThenR ?_
       refine xThenR ?_
       have he := Option.some.inj hF
       rw [← he] at hfin28
       replace hF := ho28 _ hfin28
       refine xBlkR ?_
       refine xThenR ?_
       obtain rfl := hF
       replace hc := hc.drop k2
       replace hc := hc.drop k1
       replace hc := hc.drop k0
       exact fnOut1 (by simp) rfl Try.results11 hf hc (show look _ 10 = _ from rfl) ⟨rfl,hc⟩
      ·replace hF := condF hb hF
       clear hb
       refine wp_skip ?_
       refine h32 _ _ ?_
       refine cReg ?_
       refine stP hf rfl rfl rfl (pAdd rfl rfl) fun a hf => stP hf rfl rfl rfl (pM rfl) fun a hf => cNil ?_
       exact hK28 (W (x_6 + 1)) _ _ (Option.some.inj hF).symm ⟨(some ⟨g_1,0,none⟩),c_12,(some ⟨g,0,none⟩),c_13,hf.keep ⟨rfl,rfl,rfl,rfl,rfl,trivial⟩,hc⟩
     ·replace hF := condF hb hF
      clear hb
      refine wp_exit ?_
      refine xThen ?_
      refine xThen ?_
      have he := Option.some.inj hF
      rw [← he] at hfin28
      refine cHit ?_
      exact hr28 _ _ _ hfin28 ⟨p_12,c_12,p_13,c_13,hf.keep ⟨rfl,rfl,rfl,rfl,rfl,trivial⟩,hc⟩
  have ho13 : ∀ r,x13 = .out r → r = res := by
   rintro r rfl
   exact Option.some.inj hF
  refine cLoop N (loopW (S := S13) (x := x13) ?_ N (0,r_4.1,r_4.2,r_5.Days) _ _ ⟨p_2,c_2,p_5,c_5,hf.keep ⟨rfl,rfl,rfl,rfl,rfl,rfl,rfl,rfl,rfl,trivial⟩,hc⟩ hx13)
  clear hF hf hc
  rintro ⟨x_2,x_3,x_4,x_5⟩ st13 a w KB13 ⟨p_6,c_6,p_7,c_7,hf,hc⟩ hF hfin13 hK13
  unfold law09_ShareRecorded_b13 at hF
  refine wp_seq_k fun K36 h36 => cReg ?_
  refine stP hf rfl rfl rfl (pLt rfl rfl) fun a hf => cNil ?_
  refine h36 _ _ ?_
  refine wp_seq_k fun K37 h37 => cCond (b := (decide (x_2 < ((r_5.Days.length : Nat) : Int)))) hf rfl (fun hb => ?_) (fun hb => ?_)
  ·replace hF := condT hb hF
   clear hb
   refine wp_skip ?_
   refine h37 _ _ ?_
   refine wp_seq_k fun K38 h38 => ?_
   have hj38 : ∀ (x_7 : Int) (x_8 : Int) (x_9 : List daily_Value) (p_14 : Option Addr) (c_14 : Nat) (p_15 : Option Addr) (c_15 : Nat) a w,Has 237 a [(11,.pointer (some ⟨b_2,0,none⟩)),(12,.slice p_14 r_1.2.1.length c_14),(13,.pointer (some ⟨b_4,0,none⟩)),(15,.int .i64 (min ((W (a_)).tmod ((r_1.2.1.length : Nat) : Int)) ((W (b_)).tmod ((r_1.2.1.length : Nat) : Int)))),(16,.int .i64 (max ((W (a_)).tmod ((r_1.2.1.length : Nat) : Int)) ((W (b_)).tmod ((r_1.2.1.length : Nat) : Int)))),(17,.pointer (some ⟨b_5,0,none⟩)),(18,.pointer (some ⟨b_6,0,none⟩)),(77,.int .i64 ((r_5.Days.length : Nat) : Int)),(78,.int .i64 x_2)] → Ctx G (.box b_5 [.slice better_p better.length better_c,.int .i64 x_7,.int .i64 x_8] 161::.box b_6 [.int .i64 r_5.Rise,.int .i64 r_5.Fall,.slice p_15 x_9.length c_15] 127::.row p_1 c_1 (r_1.1.Days.map enc_daily_Value) 133 3::.row p_15 c_15 (x_9.map enc_daily_Value) 133 3::.box b_4 [.int .i64 r_3.1.States,.slice p_4 x_1.length c_4] 24::.row p_4 c_4 (x_1.map enc_share_Right) 51 3::.box b_2 [.int .i64 r_1.1.Rise,.int .i64 r_1.1.Fall,.slice p_1 r_1.1.Days.length c_1] 127::.row p_14 c_14 (r_1.2.1.map encI_i64) 3 1::Lf) w → law09_ShareRecorded_j38 N x_2 x_7 x_8 x_9 = some st13 → K38 a w := by
    repeat (clear hF)
    repeat (clear hc)
    repeat (clear hf)
    intro x_7 x_8 x_9 p_14 c_14 p_15 c_15 a w hf hc hF
    unfold law09_ShareRecorded_j38 at hF
    refine h38 _ _ ?_
    refine cReg ?_
    refine stP hf rfl rfl rfl (pAdd rfl rfl) fun a hf => stP hf rfl rfl rfl (pM rfl) fun a hf => cNil ?_
    replace hc := hc.pick k0
    replace hc := hc.pick k3
    replace hc := hc.pick k3
    replace hc := hc.pick k3
    exact hK13 (W (x_2 + 1),x_7,x_8,x_9) _ _ (Option.some.inj hF).symm ⟨p_14,c_14,p_15,c_15,hf.keep ⟨rfl,rfl,rfl,rfl,rfl,rfl,rfl,rfl,rfl,trivial⟩,hc⟩
   refine wp_block ?_
   refine wp_seq_k fun K39 h39 => cReg ?_
   refine stP hf rfl rfl rfl (pM rfl) fun a hf => stP hf rfl rfl rfl (pA rfl) fun a hf => cNil ?_
   refine h39 _ _ ?_
   refine wp_seq_k fun K40 h40 => cReg ?_
   refine stP hf rfl rfl rfl (pM rfl) fun a hf => ?_
   obtain ⟨r_13,hr_13,hF⟩ := bnd_some hF
   refine stC (vs := [.pointer (some ⟨b_5,0,none⟩),.int .i64 3]) (caps := []) hf rfl rfl rfl en_29 rfl rfl rfl rfl (kit_Stream_Next_ok (⟨better,x_3,x_4⟩ : kit_Stream) 3 h_better (hc.pick k3) hr_13) ?_
   rintro _ w ⟨rfl,hc⟩
   refine ⟨_,rfl,fun a hf => ?_⟩
   refine stP hf rfl rfl rfl (pEq rfl rfl) fun a hf => cNil ?_
   refine h40 _ _ ?_
   refine cCond (b := (r_13.1 == 0)) hf rfl (fun hb => ?_) (fun hb => ?_)
   ·replace hF := condT hb hF
    clear hb
    obtain ⟨e_8,he_8,hF⟩ := bnd_some hF
    obtain ⟨g_4,rfl,qa_7,qr_7⟩ := row_atm hc m7 he_8
    obtain ⟨e_9,he_9,hF⟩ := bnd_some hF
    obtain ⟨qa_8,qr_8⟩ := row_atk hc m7 he_9
    obtain ⟨r_14,hr_14,hF⟩ := bnd_some hF
    obtain ⟨e_10,he_10,hF⟩ := bnd_some hF
    obtain ⟨g_5,rfl,qa_9,qr_9⟩ := row_atm hc m3 he_10
    refine regionE (fun θ => [⟨none,none,11,.pointer (some ⟨b_2,0,none⟩)⟩,⟨none,none,12,.slice (some ⟨g_4,0,none⟩) r_1.2.1.length c_6⟩,⟨none,none,13,.pointer (some ⟨b_4,0,none⟩)⟩,⟨none,none,15,.int .i64 (min ((W (a_)).tmod ((r_1.2.1.length : Nat) : Int)) ((W (b_)).tmod ((r_1.2.1.length : Nat) : Int)))⟩,⟨none,none,16,.int .i64 (max ((W (a_)).tmod ((r_1.2.1.length : Nat) : Int)) ((W (b_)).tmod ((r_1.2.1.length : Nat) : Int)))⟩,⟨none,none,17,.pointer (some ⟨b_5,0,none⟩)⟩,⟨none,none,18,.pointer (some ⟨b_6,0,none⟩)⟩,⟨none,none,19,.int .i64 x_2⟩,⟨none,none,77,.int .i64 ((r_5.Days.length : Nat) : Int)⟩,⟨none,none,78,.int .i64 x_2⟩,⟨some 0,none,84,.pointer (some ⟨b_6,2,none⟩)⟩,⟨some 1,none,85,.slice (some ⟨g_5,0,none⟩) x_5.length c_7⟩,⟨some 2,none,86,.int .i64 x_2⟩,⟨some 3,none,87,.slice (some ⟨g_4,0,none⟩) r_1.2.1.length c_6⟩,⟨some 4,none,88,.int .i64 x_2⟩,⟨some 5,none,89,.pointer (some ⟨g_4,x_2.toNat * 1,none⟩)⟩,⟨some 6,none,90,.int .i64 e_8⟩,⟨some 7,none,91,.slice (some ⟨g_4,0,none⟩) r_1.2.1.length c_6⟩,⟨some 8,none,92,.int .i64 x_2⟩,⟨some 9,none,93,.pointer (some ⟨g_4,x_2.toNat * 1,none⟩)⟩,⟨some 10,none,94,.int .i64 e_9⟩,⟨some 11,none,95,.agg #[.int .i64 r_14.Lo,.int .i64 r_14.Hi]⟩,⟨some 12,none,96,.agg #[.bool true,.int .i64 r_14.Lo,.int .i64 r_14.Hi]⟩,⟨some 13,none,97,.pointer (some ⟨g_5,x_2.toNat * 3,none⟩)⟩]) (fun E θ => .box b_5 [.slice better_p better.length better_c,.int .i64 r_13.2.1,.int .i64 r_13.2.2] 161::.box b_6 [.int .i64 r_5.Rise,.int .i64 r_5.Fall,.slice (some ⟨g_5,0,none⟩) x_5.length c_7] 127::.row p_1 c_1 (r_1.1.Days.map enc_daily_Value) 133 3::(bif E 14 then .row (some ⟨g_5,0,none⟩) c_7 ((x_5.set x_2.toNat (⟨true,r_14⟩ : daily_Value)).map enc_daily_Value) 133 3 else .row (some ⟨g_5,0,none⟩) c_7 (x_5.map enc_daily_Value) 133 3)::.box b_4 [.int .i64 r_3.1.States,.slice p_4 x_1.length c_4] 24::.row p_4 c_4 (x_1.map enc_share_Right) 51 3::.box b_2 [.int .i64 r_1.1.Rise,.int .i64 r_1.1.Fall,.slice p_1 r_1.1.Days.length c_1] 127::.row (some ⟨g_4,0,none⟩) c_6 (r_1.2.1.map encI_i64) 3 1::Lf) [(14,13)] (fun a w => Has 237 a [(11,.pointer (some ⟨b_2,0,none⟩)),(12,.slice (some ⟨g_4,0,none⟩) r_1.2.1.length c_6),(13,.pointer (some ⟨b_4,0,none⟩)),(15,.int .i64 (min ((W (a_)).tmod ((r_1.2.1.length : Nat) : Int)) ((W (b_)).tmod ((r_1.2.1.length : Nat) : Int)))),(16,.int .i64 (max ((W (a_)).tmod ((r_1.2.1.length : Nat) : Int)) ((W (b_)).tmod ((r_1.2.1.length : Nat) : Int)))),(17,.pointer (some ⟨b_5,0,none⟩)),(18,.pointer (some ⟨b_6,0,none⟩)),(77,.int .i64 ((r_5.Days.length : Nat) : Int)),(78,.int .i64 x_2)] ∧ Ctx G (.box b_5 [.slice better_p better.length better_c,.int .i64 r_13.2.1,.int .i64 r_13.2.2] 161::.box b_6 [.int .i64 r_5.Rise,.int .i64 r_5.Fall,.slice (some ⟨g_5,0,none⟩) x_5.length c_7] 127::.row p_1 c_1 (r_1.1.Days.map enc_daily_Value) 133 3::.row (some ⟨g_5,0,none⟩) c_7 ((x_5.set x_2.toNat (⟨true,r_14⟩ : daily_Value)).map enc_daily_Value) 133 3::.box b_4 [.int .i64 r_3.1.States,.slice p_4 x_1.length c_4] 24::.row p_4 c_4 (x_1.map enc_share_Right) 51 3::.box b_2 [.int .i64 r_1.1.Rise,.int .i64 r_1.1.Fall,.slice p_1 r_1.1.Days.length c_1] 127::.row (some ⟨g_4,0,none⟩) c_6 (r_1.2.1.map encI_i64) 3 1::Lf) w) follows_mx (by kernel_rfl) (by kernel_rfl) (HasE.of hf ⟨rfl,rfl,rfl,rfl,rfl,rfl,rfl,rfl,rfl,rfl,trivial,trivial,trivial,trivial,trivial,trivial,trivial,trivial,trivial,trivial,trivial,trivial,trivial,trivial,trivial⟩) hc ⟨?_,?_,?_,?_,?_,?_,?_,?_,?_,?_,?_,?_,?_,?_,?_,trivial⟩ ?_ ?_
    ·intro E θ a w hD hi hp he hc
     have hf := he.h0
     replace hf := hf.more he 6 rfl onT
     refine stP hf rfl rfl rfl (pFA fa_127_2 rfl) fun a hf => cNil ?_
     refine xThenN ?_
     intro ds u hau
     refine ⟨θ,he.put0 hi hau hf rfl 10 rfl rfl,?_⟩
     exact hc
    ·intro E θ a w hD hi hp he hc
     have e0 := hp.of (k := 0) rfl
     have hf := he.h0
     replace hf := hf.more he 10 rfl (onP e0)
     refine stE hf hc rfl rfl rfl (eLd1 sc_125 rfl (cell_box m1 rfl)) fun a w hf hc => cNil ?_
     refine xThenN ?_
     intro ds u hau
     refine ⟨θ,he.put0 hi hau hf rfl 11 rfl rfl,?_⟩
     exact hc
    ·intro E θ a w hD hi hp he hc
     have hf := he.h0
     replace hf := hf.more he 7 rfl onT
     refine stP hf rfl rfl rfl (pM rfl) fun a hf => cNil ?_
     refine xThenN ?_
     intro ds u hau
     refine ⟨θ,he.put0 hi hau hf rfl 12 rfl rfl,?_⟩
     exact hc
    ·intro E θ a w hD hi hp he hc
     have hf := he.h0
     replace hf := hf.more he 1 rfl onT
     refine stP hf rfl rfl rfl (pM rfl) fun a hf => cNil ?_
     refine xThenN ?_
     intro ds u hau
     refine ⟨θ,he.put0 hi hau hf rfl 13 rfl rfl,?_⟩
     exact hc
    ·intro E θ a w hD hi hp he hc
     have hf := he.h0
     replace hf := hf.more he 7 rfl onT
     refine stP hf rfl rfl rfl (pM rfl) fun a hf => cNil ?_
     refine xThenN ?_
     intro ds u hau
     refine ⟨θ,he.put0 hi hau hf rfl 14 rfl rfl,?_⟩
     exact hc
    ·intro E θ a w hD hi hp he hc
     have e3 := hp.of (k := 3) rfl
     have e4 := hp.of (k := 4) rfl
     have hf := he.h0
     replace hf := hf.more he 13 rfl (onP e3)
     replace hf := hf.more he 14 rfl (onP e4)
     refine stP hf rfl rfl rfl (pIA Try.underlying36 sz_3 rfl rfl qa_7) fun a hf => cNil ?_
     refine xThenN ?_
     intro ds u hau
     refine ⟨θ,he.put0 hi hau hf rfl 15 rfl rfl,?_⟩
     exact hc
    ·intro E θ a w hD hi hp he hc
     have e5 := hp.of (k := 5) rfl
     have hf := he.h0
     replace hf := hf.more he 15 rfl (onP e5)
     refine stE hf hc rfl rfl rfl (eLd1 sc_3 rfl (cell_row (sz := 1) (i := x_2.toNat) (j := 0) m7 qr_7 rfl)) fun a w hf hc => cNil ?_
     refine xThenN ?_
     intro ds u hau
     refine ⟨θ,he.put0 hi hau hf rfl 16 rfl rfl,?_⟩
     exact hc
    ·intro E θ a w hD hi hp he hc
     have hf := he.h0
     replace hf := hf.more he 1 rfl onT
     refine stP hf rfl rfl rfl (pM rfl) fun a hf => cNil ?_
     refine xThenN ?_
     intro ds u hau
     refine ⟨θ,he.put0 hi hau hf rfl 17 rfl rfl,?_⟩
     exact hc
    ·intro E θ a w hD hi hp he hc
     have hf := he.h0
     replace hf := hf.more he 7 rfl onT
     refine stP hf rfl rfl rfl (pM rfl) fun a hf => cNil ?_
     refine xThenN ?_
     intro ds u hau
     refine ⟨θ,he.put0 hi hau hf rfl 18 rfl rfl,?_⟩
     exact hc
    ·intro E θ a w hD hi hp he hc
     have e7 := hp.of (k := 7) rfl
     have e8 := hp.of (k := 8) rfl
     have hf := he.h0
     replace hf := hf.more he 17 rfl (onP e7)
     replace hf := hf.more he 18 rfl (onP e8)
     refine stP hf rfl rfl rfl (pIA Try.underlying36 sz_3 rfl rfl qa_8) fun a hf => cNil ?_
     refine xThenN ?_
     intro ds u hau
     refine ⟨θ,he.put0 hi hau hf rfl 19 rfl rfl,?_⟩
     exact hc
    ·intro E θ a w hD hi hp he hc
     have e9 := hp.of (k := 9) rfl
     have hf := he.h0
     replace hf := hf.more he 19 rfl (onP e9)
     refine stE hf hc rfl rfl rfl (eLd1 sc_3 rfl (cell_row (sz := 1) (i := x_2.toNat) (j := 0) m7 qr_8 rfl)) fun a w hf hc => cNil ?_
     refine xThenN ?_
     intro ds u hau
     refine ⟨θ,he.put0 hi hau hf rfl 20 rfl rfl,?_⟩
     exact hc
    ·intro E θ a w hD hi hp he hc
     have e6 := hp.of (k := 6) rfl
     have e10 := hp.of (k := 10) rfl
     have hf := he.h0
     replace hf := hf.more he 16 rfl (onP e6)
     replace hf := hf.more he 20 rfl (onP e10)
     refine stE hf hc rfl rfl rfl (eC (v := .agg #[.int .i64 r_14.Lo,.int .i64 r_14.Hi]) (vs := [.int .i64 e_8,.int .i64 e_9]) (caps := []) en_60 rfl rfl rfl rfl (fun w hc => law09_span_ok e_8 e_9 hc hr_14)) fun a w hf hc => cNil ?_
     refine xThenN ?_
     intro ds u hau
     refine ⟨θ,he.put0 hi hau hf rfl 21 rfl rfl,?_⟩
     exact hc
    ·intro E θ a w hD hi hp he hc
     have e11 := hp.of (k := 11) rfl
     have hf := he.h0
     replace hf := hf.more he 21 rfl (onP e11)
     refine stP hf rfl rfl rfl (pBuildS (cells := [.bool true,.int .i64 r_14.Lo,.int .i64 r_14.Hi]) bt_133 rfl rfl) fun a hf => cNil ?_
     refine xThenN ?_
     intro ds u hau
     refine ⟨θ,he.put0 hi hau hf rfl 22 rfl rfl,?_⟩
     exact hc
    ·intro E θ a w hD hi hp he hc
     have e1 := hp.of (k := 1) rfl
     have e2 := hp.of (k := 2) rfl
     have e14 := hD.f 0 rfl hi
     try dsimp only at hc
     rw [e14] at hc
     have hf := he.h0
     replace hf := hf.more he 11 rfl (onP e1)
     replace hf := hf.more he 12 rfl (onP e2)
     refine stP hf rfl rfl rfl (pIA Try.underlying125 sz_133 rfl rfl qa_9) fun a hf => cNil ?_
     refine xThenN ?_
     intro ds u hau
     refine ⟨θ,he.put0 hi hau hf rfl 23 rfl rfl,?_⟩
     try dsimp only
     rw [updE_fls 13 e14 rfl]
     exact hc
    ·intro E θ a w hD hi hp he hc
     have e12 := hp.of (k := 12) rfl
     have e13 := hp.of (k := 13) rfl
     try dsimp only at hc
     rw [hi] at hc
     have hf := he.h0
     replace hf := hf.more he 22 rfl (onP e12)
     replace hf := hf.more he 23 rfl (onP e13)
     refine stRw (vs := [.bool true,.int .i64 r_14.Lo,.int .i64 r_14.Hi]) (o' := 0) (z := (⟨true,r_14⟩ : daily_Value)) (xs := x_5) hf hc rfl rfl rfl rfl sz_133 rfl (fun x => (one_enc_daily_Value x).1) (getI_lt he_10) (fun _ _ => rfl) rfl u3 fun w hc => cNil ?_
     refine xThenN ?_
     intro ds u hau
     refine ⟨θ,he.stay0 hi hau hf rfl,?_⟩
     try dsimp only
     rw [updE_self E 14]
     exact hc
    ·intro E θ a w hall he hc
     have hf := he.h0
     have e14 := hall 14 rfl
     replace hf := hf.more he 9 rfl (onT)
     replace hf := hf.more he 8 rfl (onT)
     replace hf := hf.more he 6 rfl (onT)
     replace hf := hf.more he 5 rfl (onT)
     replace hf := hf.more he 4 rfl (onT)
     replace hf := hf.more he 3 rfl (onT)
     replace hf := hf.more he 2 rfl (onT)
     replace hf := hf.more he 1 rfl (onT)
     replace hf := hf.more he 0 rfl (onT)
     try dsimp only at hc
     rw [e14] at hc
     exact ⟨hf.keep ⟨rfl,rfl,rfl,rfl,rfl,rfl,rfl,rfl,rfl,trivial⟩,hc⟩
    rintro a w ⟨hf,hc⟩
    replace hc : Ctx G (.box b_5 [.slice better_p better.length better_c,.int .i64 r_13.2.1,.int .i64 r_13.2.2] 161::.box b_6 [.int .i64 r_5.Rise,.int .i64 r_5.Fall,.slice (some ⟨g_5,0,none⟩) ((x_5.set x_2.toNat (⟨true,r_14⟩ : daily_Value)).length) c_7] 127::.row p_1 c_1 (r_1.1.Days.map enc_daily_Value) 133 3::.row (some ⟨g_5,0,none⟩) c_7 ((x_5.set x_2.toNat (⟨true,r_14⟩ : daily_Value)).map enc_daily_Value) 133 3::.box b_4 [.int .i64 r_3.1.States,.slice p_4 x_1.length c_4] 24::.row p_4 c_4 (x_1.map enc_share_Right) 51 3::.box b_2 [.int .i64 r_1.1.Rise,.int .i64 r_1.1.Fall,.slice p_1 r_1.1.Days.length c_1] 127::.row (some ⟨g_4,0,none⟩) c_6 (r_1.2.1.map encI_i64) 3 1::Lf) w := by simp only [List.length_set] at hc ⊢; exact hc
    exact hj38 r_13.2.1 r_13.2.2 (x_5.set x_2.toNat (⟨true,r_14⟩ : daily_Value)) (some ⟨g_4,0,none⟩) c_6 (some ⟨g_5,0,none⟩) c_7 _ _  (hf.keep ⟨rfl,rfl,rfl,rfl,rfl,rfl,rfl,rfl,rfl,trivial⟩) hc hF
   ·replace hF := condF hb hF
    clear hb
    refine wp_skip ?_
    exact hj38 r_13.2.1 r_13.2.2 x_5 p_6 c_6 p_7 c_7 _ _  (hf.keep ⟨rfl,rfl,rfl,rfl,rfl,rfl,rfl,rfl,rfl,trivial⟩) hc hF
  ·replace hF := condF hb hF
   clear hb
   refine wp_exit ?_
   refine xThen ?_
   refine xThen ?_
   have he := Option.some.inj hF
   rw [← he] at hfin13
   refine cHit ?_
   exact hr13 _ _ _ hfin13 ⟨p_6,c_6,p_7,c_7,hf.keep ⟨rfl,rfl,rfl,rfl,rfl,rfl,rfl,rfl,rfl,trivial⟩,hc⟩
 have ho6 : ∀ r,x6 = .out r → r = res := by
  rintro r rfl
  exact Option.some.inj hF
 replace hc := hc.drop k6
 replace hc := hc.drop k2
 refine cLoop N (loopW (S := S6) (x := x6) ?_ N (0,r_3.1.Rights) _ _ ⟨p_3,c_3,hf.keep ⟨rfl,rfl,rfl,rfl,rfl,rfl,rfl,rfl,trivial⟩,hc⟩ hx6)
 clear hF hf hc
 rintro ⟨x,x_1⟩ st6 a w KB6 ⟨p_4,c_4,hf,hc⟩ hF hfin6 hK6
 unfold law09_ShareRecorded_b6 at hF
 refine wp_seq_k fun K41 h41 => cReg ?_
 refine stP hf rfl rfl rfl (pLt rfl rfl) fun a hf => cNil ?_
 refine h41 _ _ ?_
 refine wp_seq_k fun K42 h42 => cCond (b := (decide (x < ((r_3.1.Rights.length : Nat) : Int)))) hf rfl (fun hb => ?_) (fun hb => ?_)
 ·replace hF := condT hb hF
  clear hb
  refine wp_skip ?_
  refine h42 _ _ ?_
  refine wp_seq_k fun K43 h43 => wp_block ?_
  refine wp_seq_k fun K44 h44 => cReg ?_
  refine stP hf rfl rfl rfl (pM rfl) fun a hf => stP hf rfl rfl rfl (pA rfl) fun a hf => cNil ?_
  refine h44 _ _ ?_
  refine cReg ?_
  refine stP hf rfl rfl rfl (pFA fa_24_1 rfl) fun a hf => stE hf hc rfl rfl rfl (eLd1 sc_22 rfl (cell_box m0 rfl)) fun a w hf hc => stP hf rfl rfl rfl (pM rfl) fun a hf => ?_
  obtain ⟨e_11,he_11,hF⟩ := bnd_some hF
  obtain ⟨g_6,rfl,qa_10,qr_10⟩ := row_atm hc m1 he_11
  refine stP hf rfl rfl rfl (pIA Try.underlying22 sz_51 rfl rfl qa_10) fun a hf => stP hf rfl rfl rfl (pFA fa_51_1 rfl) fun a hf => stE hf hc rfl rfl rfl (eLd1 sc_3 rfl (cell_row (sz := 3) (i := x.toNat) (j := 1) m1 qr_10 rfl)) fun a w hf hc => stP hf rfl rfl rfl (pMul rfl rfl) fun a hf => ?_
  obtain ⟨e_12,he_12,hF⟩ := bnd_some hF
  obtain ⟨qa_11,qr_11⟩ := row_atk hc m1 he_12
  refine stP hf rfl rfl rfl (pIA Try.underlying22 sz_51 rfl rfl qa_11) fun a hf => stP hf rfl rfl rfl (pFA fa_51_1 rfl) fun a hf => stRw (vs := [.int .i64 (W (e_11.Amount * 20))]) (o' := 1) (z := (⟨e_12.State,W (e_11.Amount * 20),e_12.Loss⟩ : share_Right)) (xs := x_1) hf hc rfl rfl rfl rfl sz_3 rfl (fun x => (one_enc_share_Right x).1) (getI_lt he_12) (fun e' he' => by cases (he'.symm.trans (getI_spec he_12).2); rfl) rfl u1 fun w hc => cNil ?_
  refine h43 _ _ ?_
  refine cReg ?_
  refine stP hf rfl rfl rfl (pAdd rfl rfl) fun a hf => stP hf rfl rfl rfl (pM rfl) fun a hf => cNil ?_
  replace hc : Ctx G (.box b_4 [.int .i64 r_3.1.States,.slice (some ⟨g_6,0,none⟩) ((x_1.set x.toNat (⟨e_12.State,W (e_11.Amount * 20),e_12.Loss⟩ : share_Right)).length) c_4] 24::.row (some ⟨g_6,0,none⟩) c_4 ((x_1.set x.toNat (⟨e_12.State,W (e_11.Amount * 20),e_12.Loss⟩ : share_Right)).map enc_share_Right) 51 3::.box b_2 [.int .i64 r_1.1.Rise,.int .i64 r_1.1.Fall,.slice p_1 r_1.1.Days.length c_1] 127::.row p_1 c_1 (r_1.1.Days.map enc_daily_Value) 133 3::.row p_2 c_2 (r_1.2.1.map encI_i64) 3 1::Lf) w := by simp only [List.length_set] at hc ⊢; exact hc
  exact hK6 (W (x + 1),(x_1.set x.toNat (⟨e_12.State,W (e_11.Amount * 20),e_12.Loss⟩ : share_Right))) _ _ (Option.some.inj hF).symm ⟨(some ⟨g_6,0,none⟩),c_4,hf.keep ⟨rfl,rfl,rfl,rfl,rfl,rfl,rfl,rfl,trivial⟩,hc⟩
 ·replace hF := condF hb hF
  clear hb
  refine wp_exit ?_
  refine xThen ?_
  refine xThen ?_
  have he := Option.some.inj hF
  rw [← he] at hfin6
  refine cHit ?_
  exact hr6 _ _ _ hfin6 ⟨p_4,c_4,hf.keep ⟨rfl,rfl,rfl,rfl,rfl,rfl,rfl,rfl,trivial⟩,hc⟩

end Go.Nilo
