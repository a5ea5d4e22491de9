/-
  What functions of the Go text compute, as plain functions, and that they do, part 4 of 5. Conditions: what each theorem names.
-/
import Derived.Test.YtbgjmnbgilddgaaRu3
import Derived.Test.YtbgjmnbgilddgaaProg
set_option linter.unusedVariables false
set_option maxRecDepth 100000
set_option maxHeartbeats 4000000
namespace Go.Nilo
open Go.Proofs


def law03_awake (N : Nat)  : Option (Bool) :=
  Option.bind (law03_Two N) fun r =>
  Option.bind (gauge_Flow N r) fun r_1 =>
  Option.bind (law03_Two N) fun r_2 =>
  Option.bind (gauge_Heavy N r_2 500) fun r_3 =>
  Option.bind (law03_span N 10 10) fun r_4 =>
  Option.bind (law03_span N 100 100) fun r_5 =>
  Option.bind (law03_span N 30 40) fun r_6 =>
  Option.bind (law03_span N 5 9) fun r_7 =>
  Option.bind (gauge_Cross N ([(⟨(⟨0, 0⟩ : api_Span), r_4, r_5, r_6, r_7⟩ : gauge_Leg)] : List gauge_Leg)) fun r_8 =>
  Option.bind (law03_span N 5 5) fun r_9 =>
  Option.bind (law03_span N 1000 1000) fun r_10 =>
  Option.bind (law03_span N 10 11) fun r_11 =>
  Option.bind (law03_span N 0 1) fun r_12 =>
  Option.bind (gauge_Thinned N (⟨r_9, r_10, r_11, r_12⟩ : gauge_Dye)) fun r_13 =>
  Option.bind (cond (!((((r_1.2 != 0) || (r_3.2.2 != 0)) || (r_8.2 != 0)) || (r_13.2 != 0))) (law03_span N 51600 402000) (some (⟨0, 0⟩ : api_Span))) fun r_14 =>
  Option.bind (cond (!(((((r_1.2 != 0) || (r_3.2.2 != 0)) || (r_8.2 != 0)) || (r_13.2 != 0)) || (!(r_1.1.Lo == r_14.Lo && r_1.1.Hi == r_14.Hi)))) (kit_Same_int N r_3.1 ([0, 1] : List Int)) (some false)) fun r_15 =>
  Option.bind (cond (!(((((((r_1.2 != 0) || (r_3.2.2 != 0)) || (r_8.2 != 0)) || (r_13.2 != 0)) || (!(r_1.1.Lo == r_14.Lo && r_1.1.Hi == r_14.Hi))) || (!r_15)) || (((r_3.2.1.length : Nat) : Int) != 0))) (law03_span N 30000 40000) (some (⟨0, 0⟩ : api_Span))) fun r_16 =>
  Option.bind (cond (!((((((((r_1.2 != 0) || (r_3.2.2 != 0)) || (r_8.2 != 0)) || (r_13.2 != 0)) || (!(r_1.1.Lo == r_14.Lo && r_1.1.Hi == r_14.Hi))) || (!r_15)) || (((r_3.2.1.length : Nat) : Int) != 0)) || (!(r_8.1.Lo == r_16.Lo && r_8.1.Hi == r_16.Hi)))) (law03_span N 449 550) (some (⟨0, 0⟩ : api_Span))) fun r_17 =>
  cond (((((((((r_1.2 != 0) || (r_3.2.2 != 0)) || (r_8.2 != 0)) || (r_13.2 != 0)) || (!(r_1.1.Lo == r_14.Lo && r_1.1.Hi == r_14.Hi))) || (!r_15)) || (((r_3.2.1.length : Nat) : Int) != 0)) || (!(r_8.1.Lo == r_16.Lo && r_8.1.Hi == r_16.Hi))) || (!(r_13.1.Lo == r_17.Lo && r_13.1.Hi == r_17.Hi)))
  (some false)
  (Option.bind (gauge_Apart N ([(⟨5, 9⟩ : api_Span), (⟨7, 12⟩ : api_Span), (⟨10, 11⟩ : api_Span)] : List api_Span)) fun r_18 =>
  Option.bind (subO ([(⟨5, 9⟩ : api_Span), (⟨7, 12⟩ : api_Span), (⟨10, 11⟩ : api_Span)] : List api_Span) 0 2) fun sub =>
  Option.bind (gauge_Common N sub) fun r_19 =>
  Option.bind (law03_Three N) fun r_20 =>
  Option.bind (gauge_Plan N r_20) fun r_21 =>
  Option.bind (law03_Three N) fun r_22 =>
  Option.bind (gauge_Proves N r_22 ([0, 2, 3, 6, 6] : List Int) 6) fun r_23 =>
  Option.bind (cond ((((((r_18.2.2 == 0) && (r_19.2 == 0)) && (r_21.2.2 == 0)) && (r_23.2 == 0)) && (r_18.1 == 0)) && (r_18.2.1 == 2)) (law03_span N 7 9) (some (⟨0, 0⟩ : api_Span))) fun r_24 =>
  Option.bind (cond (((((((r_18.2.2 == 0) && (r_19.2 == 0)) && (r_21.2.2 == 0)) && (r_23.2 == 0)) && (r_18.1 == 0)) && (r_18.2.1 == 2)) && (r_19.1.Lo == r_24.Lo && r_19.1.Hi == r_24.Hi)) (kit_Same_int N r_21.1 ([1, 3] : List Int)) (some false)) fun r_25 =>
  some ((((((((((r_18.2.2 == 0) && (r_19.2 == 0)) && (r_21.2.2 == 0)) && (r_23.2 == 0)) && (r_18.1 == 0)) && (r_18.2.1 == 2)) && (r_19.1.Lo == r_24.Lo && r_19.1.Hi == r_24.Hi)) && r_25) && (r_21.2.1 == 6)) && r_23.1))
theorem law03_awake_ok {N : Nat} {G : Pers} {Lf : List Ent} {w : World}    (hc : Ctx G (Lf) w) {res : Bool} (hF : law03_awake N = some res) : Calls Try.prog 15 #[] w (fun e w => e = .returned (.bool res) ∧ Ctx G (Lf) w) := by
  unfold law03_awake at hF
  refine fnIn (args := []) Try.func15 rfl Try.ntmps15 rfl fun a hf => ?_
  refine wp_seq_k fun K1 h1 => ?_
  refine cReg ?_
  refine stP hf rfl rfl rfl (pA rfl) fun a hf => ?_
  refine cNil ?_
  refine h1 _ _ ?_
  refine wp_seq_k fun K2 h2 => ?_
  refine cReg ?_
  obtain ⟨r, hr, hF⟩ := bnd_some hF
  refine stC (vs := []) (caps := []) hf rfl rfl rfl en_53 rfl rfl rfl rfl (law03_Two_ok hc hr) ?_
  rintro _ w ⟨p_1, c_1, rfl, hc⟩
  refine ⟨_, rfl, fun a hf => ?_⟩
  obtain ⟨r_1, hr_1, hF⟩ := bnd_some hF
  refine stE hf hc rfl rfl rfl (eC (v := .tuple #[.agg #[.int .i64 r_1.1.Lo, .int .i64 r_1.1.Hi], .int .i64 r_1.2]) (vs := [.agg #[.int .i64 r.Left, .int .i64 r.Right, .slice p_1 r.Verticals.length c_1]]) (caps := []) en_27 rfl rfl rfl rfl (fun w hc => by obtain ⟨G1, hle1, hrd1, hc, hth1⟩ := lend hc k0; exact (gauge_Flow_ok r hrd1 hc hr_1).mono fun e w h => ⟨h.1, ((hth1 _ _ h.2).unpick k0)⟩)) fun a w hf hc => ?_
  refine stP hf rfl rfl rfl (pM rfl) fun a hf => ?_
  refine stP hf rfl rfl rfl (pX rfl rfl) fun a hf => ?_
  refine stP hf rfl rfl rfl (pX rfl rfl) fun a hf => ?_
  refine stAl (cs := [.int .i64 0, .int .i64 0]) hf hc rfl rfl zr_24 rfl fun b_1 a w hf hc => ?_
  refine stSt (vs := [.int .i64 r_1.1.Lo, .int .i64 r_1.1.Hi]) hf hc rfl rfl rfl rfl sz_24 rfl rfl u0 fun w hc => ?_
  refine stP hf rfl rfl rfl (pA rfl) fun a hf => ?_
  refine cNil ?_
  refine h2 _ _ ?_
  refine wp_seq_k fun K3 h3 => ?_
  refine cReg ?_
  obtain ⟨r_2, hr_2, hF⟩ := bnd_some hF
  refine stC (vs := []) (caps := []) hf rfl rfl rfl en_53 rfl rfl rfl rfl (law03_Two_ok hc hr_2) ?_
  rintro _ w ⟨p_2, c_2, rfl, hc⟩
  refine ⟨_, rfl, fun a hf => ?_⟩
  obtain ⟨r_3, hr_3, hF⟩ := bnd_some hF
  obtain ⟨G1, hle1, hrd1, hc, hth1⟩ := lend hc k0
  refine stC (vs := [.agg #[.int .i64 r_2.Left, .int .i64 r_2.Right, .slice p_2 r_2.Verticals.length c_2], .int .i64 500]) (caps := []) hf rfl rfl rfl en_28 rfl rfl rfl rfl (gauge_Heavy_ok r_2 500 hrd1 hc hr_3) ?_
  rintro _ w ⟨p_3, c_3, p_4, c_4, rfl, hc⟩
  refine ⟨_, rfl, fun a hf => ?_⟩
  replace hc := hth1 _ _ hc
  refine stP hf rfl rfl rfl (pM rfl) fun a hf => ?_
  refine stP hf rfl rfl rfl (pX rfl rfl) fun a hf => ?_
  refine stP hf rfl rfl rfl (pX rfl rfl) fun a hf => ?_
  refine stP hf rfl rfl rfl (pX rfl rfl) fun a hf => ?_
  refine stP hf rfl rfl rfl (pA rfl) fun a hf => ?_
  refine stP hf rfl rfl rfl (pA rfl) fun a hf => ?_
  refine stP hf rfl rfl rfl (pA rfl) fun a hf => ?_
  refine cNil ?_
  refine h3 _ _ ?_
  refine wp_seq_k fun K4 h4 => ?_
  refine cReg ?_
  obtain ⟨r_4, hr_4, hF⟩ := bnd_some hF
  refine stE hf hc rfl rfl rfl (eC (v := .agg #[.int .i64 r_4.Lo, .int .i64 r_4.Hi]) (vs := [.int .i64 10, .int .i64 10]) (caps := []) en_14 rfl rfl rfl rfl (fun w hc => law03_span_ok 10 10 hc hr_4)) fun a w hf hc => ?_
  obtain ⟨r_5, hr_5, hF⟩ := bnd_some hF
  refine stE hf hc rfl rfl rfl (eC (v := .agg #[.int .i64 r_5.Lo, .int .i64 r_5.Hi]) (vs := [.int .i64 100, .int .i64 100]) (caps := []) en_14 rfl rfl rfl rfl (fun w hc => law03_span_ok 100 100 hc hr_5)) fun a w hf hc => ?_
  obtain ⟨r_6, hr_6, hF⟩ := bnd_some hF
  refine stE hf hc rfl rfl rfl (eC (v := .agg #[.int .i64 r_6.Lo, .int .i64 r_6.Hi]) (vs := [.int .i64 30, .int .i64 40]) (caps := []) en_14 rfl rfl rfl rfl (fun w hc => law03_span_ok 30 40 hc hr_6)) fun a w hf hc => ?_
  obtain ⟨r_7, hr_7, hF⟩ := bnd_some hF
  refine stE hf hc rfl rfl rfl (eC (v := .agg #[.int .i64 r_7.Lo, .int .i64 r_7.Hi]) (vs := [.int .i64 5, .int .i64 9]) (caps := []) en_14 rfl rfl rfl rfl (fun w hc => law03_span_ok 5 9 hc hr_7)) fun a w hf hc => ?_
  refine stP hf rfl rfl rfl (pBuildS (cells := [.int .i64 0, .int .i64 0, .int .i64 r_4.Lo, .int .i64 r_4.Hi, .int .i64 r_5.Lo, .int .i64 r_5.Hi, .int .i64 r_6.Lo, .int .i64 r_6.Hi, .int .i64 r_7.Lo, .int .i64 r_7.Hi]) bt_40 rfl rfl) fun a hf => ?_
  refine stAl (cs := [.int .i64 0, .int .i64 0, .int .i64 0, .int .i64 0, .int .i64 0, .int .i64 0, .int .i64 0, .int .i64 0, .int .i64 0, .int .i64 0]) hf hc rfl rfl zr_40 rfl fun b_2 a w hf hc => ?_
  refine stSt (vs := [.int .i64 0, .int .i64 0, .int .i64 r_4.Lo, .int .i64 r_4.Hi, .int .i64 r_5.Lo, .int .i64 r_5.Hi, .int .i64 r_6.Lo, .int .i64 r_6.Hi, .int .i64 r_7.Lo, .int .i64 r_7.Hi]) hf hc rfl rfl rfl rfl sz_40 rfl rfl u0 fun w hc => ?_
  refine cNil ?_
  refine h4 _ _ ?_
  refine wp_seq_k fun K5 h5 => ?_
  refine cReg ?_
  refine stE hf hc rfl rfl rfl (eLdN (vs := [.int .i64 0, .int .i64 0, .int .i64 r_4.Lo, .int .i64 r_4.Hi, .int .i64 r_5.Lo, .int .i64 r_5.Hi, .int .i64 r_6.Lo, .int .i64 r_6.Hi, .int .i64 r_7.Lo, .int .i64 r_7.Hi]) ag_40 rfl rfl (cells_box (n := 10) m0 rfl)) fun a w hf hc => ?_
  refine stBS (rows := ([(⟨(⟨0, 0⟩ : api_Span), r_4, r_5, r_6, r_7⟩ : gauge_Leg)] : List gauge_Leg).map enc_gauge_Leg) (vs := [(0, .agg #[.int .i64 0, .int .i64 0, .int .i64 r_4.Lo, .int .i64 r_4.Hi, .int .i64 r_5.Lo, .int .i64 r_5.Hi, .int .i64 r_6.Lo, .int .i64 r_6.Hi, .int .i64 r_7.Lo, .int .i64 r_7.Hi])]) hf hc rfl rfl sl_38 rfl ⟨rfl, rfl, rfl, trivial⟩ rfl rfl fun b_3 a w hf hc => ?_
  obtain ⟨r_8, hr_8, hF⟩ := bnd_some hF
  refine stE hf hc rfl rfl rfl (eC (v := .tuple #[.agg #[.int .i64 r_8.1.Lo, .int .i64 r_8.1.Hi], .int .i64 r_8.2]) (vs := [.slice (some ⟨b_3, 0, none⟩) 1 1]) (caps := []) en_18 rfl rfl rfl rfl (fun w hc => by obtain ⟨G1, hle1, hrd1, hc, hth1⟩ := lend hc k0; exact (gauge_Cross_ok ([(⟨(⟨0, 0⟩ : api_Span), r_4, r_5, r_6, r_7⟩ : gauge_Leg)] : List gauge_Leg) hrd1 hc hr_8).mono fun e w h => ⟨h.1, ((hth1 _ _ h.2).unpick k0)⟩)) fun a w hf hc => ?_
  refine stP hf rfl rfl rfl (pM rfl) fun a hf => ?_
  refine stP hf rfl rfl rfl (pX rfl rfl) fun a hf => ?_
  refine stP hf rfl rfl rfl (pX rfl rfl) fun a hf => ?_
  refine stAl (cs := [.int .i64 0, .int .i64 0]) hf hc rfl rfl zr_24 rfl fun b_4 a w hf hc => ?_
  refine stSt (vs := [.int .i64 r_8.1.Lo, .int .i64 r_8.1.Hi]) hf hc rfl rfl rfl rfl sz_24 rfl rfl u0 fun w hc => ?_
  refine stP hf rfl rfl rfl (pA rfl) fun a hf => ?_
  refine cNil ?_
  refine h5 _ _ ?_
  refine wp_seq_k fun K6 h6 => ?_
  refine cReg ?_
  obtain ⟨r_9, hr_9, hF⟩ := bnd_some hF
  refine stE hf hc rfl rfl rfl (eC (v := .agg #[.int .i64 r_9.Lo, .int .i64 r_9.Hi]) (vs := [.int .i64 5, .int .i64 5]) (caps := []) en_14 rfl rfl rfl rfl (fun w hc => law03_span_ok 5 5 hc hr_9)) fun a w hf hc => ?_
  obtain ⟨r_10, hr_10, hF⟩ := bnd_some hF
  refine stE hf hc rfl rfl rfl (eC (v := .agg #[.int .i64 r_10.Lo, .int .i64 r_10.Hi]) (vs := [.int .i64 1000, .int .i64 1000]) (caps := []) en_14 rfl rfl rfl rfl (fun w hc => law03_span_ok 1000 1000 hc hr_10)) fun a w hf hc => ?_
  obtain ⟨r_11, hr_11, hF⟩ := bnd_some hF
  refine stE hf hc rfl rfl rfl (eC (v := .agg #[.int .i64 r_11.Lo, .int .i64 r_11.Hi]) (vs := [.int .i64 10, .int .i64 11]) (caps := []) en_14 rfl rfl rfl rfl (fun w hc => law03_span_ok 10 11 hc hr_11)) fun a w hf hc => ?_
  obtain ⟨r_12, hr_12, hF⟩ := bnd_some hF
  refine stE hf hc rfl rfl rfl (eC (v := .agg #[.int .i64 r_12.Lo, .int .i64 r_12.Hi]) (vs := [.int .i64 0, .int .i64 1]) (caps := []) en_14 rfl rfl rfl rfl (fun w hc => law03_span_ok 0 1 hc hr_12)) fun a w hf hc => ?_
  refine stP hf rfl rfl rfl (pBuildS (cells := [.int .i64 r_9.Lo, .int .i64 r_9.Hi, .int .i64 r_10.Lo, .int .i64 r_10.Hi, .int .i64 r_11.Lo, .int .i64 r_11.Hi, .int .i64 r_12.Lo, .int .i64 r_12.Hi]) bt_26 rfl rfl) fun a hf => ?_
  obtain ⟨r_13, hr_13, hF⟩ := bnd_some hF
  refine stE hf hc rfl rfl rfl (eC (v := .tuple #[.agg #[.int .i64 r_13.1.Lo, .int .i64 r_13.1.Hi], .int .i64 r_13.2]) (vs := [.agg #[.int .i64 r_9.Lo, .int .i64 r_9.Hi, .int .i64 r_10.Lo, .int .i64 r_10.Hi, .int .i64 r_11.Lo, .int .i64 r_11.Hi, .int .i64 r_12.Lo, .int .i64 r_12.Hi]]) (caps := []) en_13 rfl rfl rfl rfl (fun w hc => gauge_Thinned_ok (⟨r_9, r_10, r_11, r_12⟩ : gauge_Dye) hc hr_13)) fun a w hf hc => ?_
  refine stP hf rfl rfl rfl (pM rfl) fun a hf => ?_
  refine stP hf rfl rfl rfl (pX rfl rfl) fun a hf => ?_
  refine stP hf rfl rfl rfl (pX rfl rfl) fun a hf => ?_
  refine stAl (cs := [.int .i64 0, .int .i64 0]) hf hc rfl rfl zr_24 rfl fun b_5 a w hf hc => ?_
  refine stSt (vs := [.int .i64 r_13.1.Lo, .int .i64 r_13.1.Hi]) hf hc rfl rfl rfl rfl sz_24 rfl rfl u0 fun w hc => ?_
  refine stP hf rfl rfl rfl (pA rfl) fun a hf => ?_
  refine cNil ?_
  refine h6 _ _ ?_
  refine wp_seq_k fun K7 h7 => ?_
  refine wp_seq_k fun K8 h8 => ?_
  obtain ⟨r_14, hr_14, hF⟩ := bnd_some hF
  obtain ⟨r_15, hr_15, hF⟩ := bnd_some hF
  obtain ⟨r_16, hr_16, hF⟩ := bnd_some hF
  obtain ⟨r_17, hr_17, hF⟩ := bnd_some hF
  replace hc := hc.nilRow 0 0
  refine regionE (fun θ => (⟨none, none, 1, .pointer (some ⟨b_1, 0, none⟩)⟩ :: ⟨none, none, 2, .int .i64 r_1.2⟩ :: ⟨none, none, 3, .slice p_3 r_3.1.length c_3⟩ :: ⟨none, none, 4, .slice p_4 r_3.2.1.length c_4⟩ :: ⟨none, none, 5, .int .i64 r_3.2.2⟩ :: ⟨none, none, 7, .pointer (some ⟨b_4, 0, none⟩)⟩ :: ⟨none, none, 8, .int .i64 r_8.2⟩ :: ⟨none, none, 9, .pointer (some ⟨b_5, 0, none⟩)⟩ :: ⟨none, none, 10, .int .i64 r_13.2⟩ :: ⟨some 0, none, 49, .int .i64 r_1.2⟩ :: ⟨some 1, none, 50, .bool (r_1.2 != 0)⟩ :: ⟨some 2, none, 51, .bool (r_1.2 != 0)⟩ :: ⟨some 3, none, 52, (bif (r_1.2 != 0) then undef else .int .i64 r_3.2.2)⟩ :: ⟨some 4, none, 53, (bif (r_1.2 != 0) then undef else .bool (r_3.2.2 != 0))⟩ :: ⟨some 5, none, 54, .bool ((r_1.2 != 0) || (r_3.2.2 != 0))⟩ :: ⟨some 6, none, 55, .bool ((r_1.2 != 0) || (r_3.2.2 != 0))⟩ :: ⟨some 7, none, 56, (bif ((r_1.2 != 0) || (r_3.2.2 != 0)) then undef else .int .i64 r_8.2)⟩ :: ⟨some 8, none, 57, (bif ((r_1.2 != 0) || (r_3.2.2 != 0)) then undef else .bool (r_8.2 != 0))⟩ :: ⟨some 9, none, 58, .bool (((r_1.2 != 0) || (r_3.2.2 != 0)) || (r_8.2 != 0))⟩ :: ⟨some 10, none, 59, .bool (((r_1.2 != 0) || (r_3.2.2 != 0)) || (r_8.2 != 0))⟩ :: ⟨some 11, none, 60, (bif (((r_1.2 != 0) || (r_3.2.2 != 0)) || (r_8.2 != 0)) then undef else .int .i64 r_13.2)⟩ :: ⟨some 12, none, 61, (bif (((r_1.2 != 0) || (r_3.2.2 != 0)) || (r_8.2 != 0)) then undef else .bool (r_13.2 != 0))⟩ :: ⟨some 13, none, 62, .bool ((((r_1.2 != 0) || (r_3.2.2 != 0)) || (r_8.2 != 0)) || (r_13.2 != 0))⟩ :: ⟨some 14, none, 63, .bool ((((r_1.2 != 0) || (r_3.2.2 != 0)) || (r_8.2 != 0)) || (r_13.2 != 0))⟩ :: ⟨some 15, none, 64, (bif ((((r_1.2 != 0) || (r_3.2.2 != 0)) || (r_8.2 != 0)) || (r_13.2 != 0)) then undef else .agg #[.int .i64 r_1.1.Lo, .int .i64 r_1.1.Hi])⟩ :: ⟨some 16, none, 65, (bif ((((r_1.2 != 0) || (r_3.2.2 != 0)) || (r_8.2 != 0)) || (r_13.2 != 0)) then undef else .agg #[.int .i64 r_14.Lo, .int .i64 r_14.Hi])⟩ :: ⟨some 17, none, 66, (bif ((((r_1.2 != 0) || (r_3.2.2 != 0)) || (r_8.2 != 0)) || (r_13.2 != 0)) then undef else .bool (!(r_1.1.Lo == r_14.Lo && r_1.1.Hi == r_14.Hi)))⟩ :: ⟨some 18, none, 67, .bool (((((r_1.2 != 0) || (r_3.2.2 != 0)) || (r_8.2 != 0)) || (r_13.2 != 0)) || (!(r_1.1.Lo == r_14.Lo && r_1.1.Hi == r_14.Hi)))⟩ :: ⟨some 19, none, 68, .bool (((((r_1.2 != 0) || (r_3.2.2 != 0)) || (r_8.2 != 0)) || (r_13.2 != 0)) || (!(r_1.1.Lo == r_14.Lo && r_1.1.Hi == r_14.Hi)))⟩ :: ⟨some 20, none, 69, (bif (((((r_1.2 != 0) || (r_3.2.2 != 0)) || (r_8.2 != 0)) || (r_13.2 != 0)) || (!(r_1.1.Lo == r_14.Lo && r_1.1.Hi == r_14.Hi))) then undef else .slice p_3 r_3.1.length c_3)⟩ :: ⟨some 21, none, 70, (bif (((((r_1.2 != 0) || (r_3.2.2 != 0)) || (r_8.2 != 0)) || (r_13.2 != 0)) || (!(r_1.1.Lo == r_14.Lo && r_1.1.Hi == r_14.Hi))) then undef else .slice (some ⟨(θ 168).b, 0, none⟩) 2 2)⟩ :: ⟨some 22, none, 71, (bif (((((r_1.2 != 0) || (r_3.2.2 != 0)) || (r_8.2 != 0)) || (r_13.2 != 0)) || (!(r_1.1.Lo == r_14.Lo && r_1.1.Hi == r_14.Hi))) then undef else .bool r_15)⟩ :: ⟨some 23, none, 72, (bif (((((r_1.2 != 0) || (r_3.2.2 != 0)) || (r_8.2 != 0)) || (r_13.2 != 0)) || (!(r_1.1.Lo == r_14.Lo && r_1.1.Hi == r_14.Hi))) then undef else .bool (!r_15))⟩ :: ⟨some 24, none, 73, .bool ((((((r_1.2 != 0) || (r_3.2.2 != 0)) || (r_8.2 != 0)) || (r_13.2 != 0)) || (!(r_1.1.Lo == r_14.Lo && r_1.1.Hi == r_14.Hi))) || (!r_15))⟩ :: ⟨some 25, none, 74, .bool ((((((r_1.2 != 0) || (r_3.2.2 != 0)) || (r_8.2 != 0)) || (r_13.2 != 0)) || (!(r_1.1.Lo == r_14.Lo && r_1.1.Hi == r_14.Hi))) || (!r_15))⟩ :: ⟨some 26, none, 75, (bif ((((((r_1.2 != 0) || (r_3.2.2 != 0)) || (r_8.2 != 0)) || (r_13.2 != 0)) || (!(r_1.1.Lo == r_14.Lo && r_1.1.Hi == r_14.Hi))) || (!r_15)) then undef else .slice p_4 r_3.2.1.length c_4)⟩ :: ⟨some 27, none, 76, (bif ((((((r_1.2 != 0) || (r_3.2.2 != 0)) || (r_8.2 != 0)) || (r_13.2 != 0)) || (!(r_1.1.Lo == r_14.Lo && r_1.1.Hi == r_14.Hi))) || (!r_15)) then undef else .int .i64 ((r_3.2.1.length : Nat) : Int))⟩ :: ⟨some 28, none, 77, (bif ((((((r_1.2 != 0) || (r_3.2.2 != 0)) || (r_8.2 != 0)) || (r_13.2 != 0)) || (!(r_1.1.Lo == r_14.Lo && r_1.1.Hi == r_14.Hi))) || (!r_15)) then undef else .bool (((r_3.2.1.length : Nat) : Int) != 0))⟩ :: ⟨some 29, none, 78, .bool (((((((r_1.2 != 0) || (r_3.2.2 != 0)) || (r_8.2 != 0)) || (r_13.2 != 0)) || (!(r_1.1.Lo == r_14.Lo && r_1.1.Hi == r_14.Hi))) || (!r_15)) || (((r_3.2.1.length : Nat) : Int) != 0))⟩ :: ⟨some 30, none, 79, .bool (((((((r_1.2 != 0) || (r_3.2.2 != 0)) || (r_8.2 != 0)) || (r_13.2 != 0)) || (!(r_1.1.Lo == r_14.Lo && r_1.1.Hi == r_14.Hi))) || (!r_15)) || (((r_3.2.1.length : Nat) : Int) != 0))⟩ :: ⟨some 31, none, 80, (bif (((((((r_1.2 != 0) || (r_3.2.2 != 0)) || (r_8.2 != 0)) || (r_13.2 != 0)) || (!(r_1.1.Lo == r_14.Lo && r_1.1.Hi == r_14.Hi))) || (!r_15)) || (((r_3.2.1.length : Nat) : Int) != 0)) then undef else .agg #[.int .i64 r_8.1.Lo, .int .i64 r_8.1.Hi])⟩ :: ⟨some 32, none, 81, (bif (((((((r_1.2 != 0) || (r_3.2.2 != 0)) || (r_8.2 != 0)) || (r_13.2 != 0)) || (!(r_1.1.Lo == r_14.Lo && r_1.1.Hi == r_14.Hi))) || (!r_15)) || (((r_3.2.1.length : Nat) : Int) != 0)) then undef else .agg #[.int .i64 r_16.Lo, .int .i64 r_16.Hi])⟩ :: ⟨some 33, none, 82, (bif (((((((r_1.2 != 0) || (r_3.2.2 != 0)) || (r_8.2 != 0)) || (r_13.2 != 0)) || (!(r_1.1.Lo == r_14.Lo && r_1.1.Hi == r_14.Hi))) || (!r_15)) || (((r_3.2.1.length : Nat) : Int) != 0)) then undef else .bool (!(r_8.1.Lo == r_16.Lo && r_8.1.Hi == r_16.Hi)))⟩ :: ⟨some 34, none, 83, .bool ((((((((r_1.2 != 0) || (r_3.2.2 != 0)) || (r_8.2 != 0)) || (r_13.2 != 0)) || (!(r_1.1.Lo == r_14.Lo && r_1.1.Hi == r_14.Hi))) || (!r_15)) || (((r_3.2.1.length : Nat) : Int) != 0)) || (!(r_8.1.Lo == r_16.Lo && r_8.1.Hi == r_16.Hi)))⟩ :: ⟨some 35, none, 84, .bool ((((((((r_1.2 != 0) || (r_3.2.2 != 0)) || (r_8.2 != 0)) || (r_13.2 != 0)) || (!(r_1.1.Lo == r_14.Lo && r_1.1.Hi == r_14.Hi))) || (!r_15)) || (((r_3.2.1.length : Nat) : Int) != 0)) || (!(r_8.1.Lo == r_16.Lo && r_8.1.Hi == r_16.Hi)))⟩ :: ⟨some 36, none, 85, (bif ((((((((r_1.2 != 0) || (r_3.2.2 != 0)) || (r_8.2 != 0)) || (r_13.2 != 0)) || (!(r_1.1.Lo == r_14.Lo && r_1.1.Hi == r_14.Hi))) || (!r_15)) || (((r_3.2.1.length : Nat) : Int) != 0)) || (!(r_8.1.Lo == r_16.Lo && r_8.1.Hi == r_16.Hi))) then undef else .agg #[.int .i64 r_13.1.Lo, .int .i64 r_13.1.Hi])⟩ :: ⟨some 37, none, 86, (bif ((((((((r_1.2 != 0) || (r_3.2.2 != 0)) || (r_8.2 != 0)) || (r_13.2 != 0)) || (!(r_1.1.Lo == r_14.Lo && r_1.1.Hi == r_14.Hi))) || (!r_15)) || (((r_3.2.1.length : Nat) : Int) != 0)) || (!(r_8.1.Lo == r_16.Lo && r_8.1.Hi == r_16.Hi))) then undef else .agg #[.int .i64 r_17.Lo, .int .i64 r_17.Hi])⟩ :: ⟨some 38, none, 87, (bif ((((((((r_1.2 != 0) || (r_3.2.2 != 0)) || (r_8.2 != 0)) || (r_13.2 != 0)) || (!(r_1.1.Lo == r_14.Lo && r_1.1.Hi == r_14.Hi))) || (!r_15)) || (((r_3.2.1.length : Nat) : Int) != 0)) || (!(r_8.1.Lo == r_16.Lo && r_8.1.Hi == r_16.Hi))) then undef else .bool (!(r_13.1.Lo == r_17.Lo && r_13.1.Hi == r_17.Hi)))⟩ :: ⟨some 39, none, 88, .bool (((((((((r_1.2 != 0) || (r_3.2.2 != 0)) || (r_8.2 != 0)) || (r_13.2 != 0)) || (!(r_1.1.Lo == r_14.Lo && r_1.1.Hi == r_14.Hi))) || (!r_15)) || (((r_3.2.1.length : Nat) : Int) != 0)) || (!(r_8.1.Lo == r_16.Lo && r_8.1.Hi == r_16.Hi))) || (!(r_13.1.Lo == r_17.Lo && r_13.1.Hi == r_17.Hi)))⟩ :: [])) (fun E θ => (bif E 21 then (gE (!(((((r_1.2 != 0) || (r_3.2.2 != 0)) || (r_8.2 != 0)) || (r_13.2 != 0)) || (!(r_1.1.Lo == r_14.Lo && r_1.1.Hi == r_14.Hi)))) (.row (some ⟨(θ 168).b, 0, none⟩) 2 (([0, 1] : List Int).map encI_i64) 3 1)) else .row none 0 [] 0 0) :: .box b_5 [.int .i64 r_13.1.Lo, .int .i64 r_13.1.Hi] 24 :: .box b_4 [.int .i64 r_8.1.Lo, .int .i64 r_8.1.Hi] 24 :: .row (some ⟨b_3, 0, none⟩) 1 (([(⟨(⟨0, 0⟩ : api_Span), r_4, r_5, r_6, r_7⟩ : gauge_Leg)] : List gauge_Leg).map enc_gauge_Leg) 40 10 :: .box b_2 [.int .i64 0, .int .i64 0, .int .i64 r_4.Lo, .int .i64 r_4.Hi, .int .i64 r_5.Lo, .int .i64 r_5.Hi, .int .i64 r_6.Lo, .int .i64 r_6.Hi, .int .i64 r_7.Lo, .int .i64 r_7.Hi] 40 :: .row p_2 c_2 (r_2.Verticals.map enc_gauge_Vertical) 61 5 :: .row p_3 c_3 (r_3.1.map encI_i64) 3 1 :: .row p_4 c_4 (r_3.2.1.map encI_i64) 3 1 :: .box b_1 [.int .i64 r_1.1.Lo, .int .i64 r_1.1.Hi] 24 :: .row p_1 c_1 (r.Verticals.map enc_gauge_Vertical) 61 5 :: Lf) [] (fun a w => Has 156 a [(88, .bool (((((((((r_1.2 != 0) || (r_3.2.2 != 0)) || (r_8.2 != 0)) || (r_13.2 != 0)) || (!(r_1.1.Lo == r_14.Lo && r_1.1.Hi == r_14.Hi))) || (!r_15)) || (((r_3.2.1.length : Nat) : Int) != 0)) || (!(r_8.1.Lo == r_16.Lo && r_8.1.Hi == r_16.Hi))) || (!(r_13.1.Lo == r_17.Lo && r_13.1.Hi == r_17.Hi))))] ∧ Ctx G (.box b_5 [.int .i64 r_13.1.Lo, .int .i64 r_13.1.Hi] 24 :: .box b_4 [.int .i64 r_8.1.Lo, .int .i64 r_8.1.Hi] 24 :: .row (some ⟨b_3, 0, none⟩) 1 (([(⟨(⟨0, 0⟩ : api_Span), r_4, r_5, r_6, r_7⟩ : gauge_Leg)] : List gauge_Leg).map enc_gauge_Leg) 40 10 :: .box b_2 [.int .i64 0, .int .i64 0, .int .i64 r_4.Lo, .int .i64 r_4.Hi, .int .i64 r_5.Lo, .int .i64 r_5.Hi, .int .i64 r_6.Lo, .int .i64 r_6.Hi, .int .i64 r_7.Lo, .int .i64 r_7.Hi] 40 :: .row p_2 c_2 (r_2.Verticals.map enc_gauge_Vertical) 61 5 :: .row p_3 c_3 (r_3.1.map encI_i64) 3 1 :: .row p_4 c_4 (r_3.2.1.map encI_i64) 3 1 :: .box b_1 [.int .i64 r_1.1.Lo, .int .i64 r_1.1.Hi] 24 :: .row p_1 c_1 (r.Verticals.map enc_gauge_Vertical) 61 5 :: Lf) w) follows_mx (by kernel_rfl) (by kernel_rfl) (HasE.of hf ⟨rfl, rfl, rfl, rfl, rfl, rfl, rfl, rfl, rfl, trivial, trivial, trivial, trivial, trivial, trivial, trivial, trivial, trivial, trivial, trivial, trivial, trivial, trivial, trivial, trivial, trivial, trivial, trivial, trivial, trivial, trivial, trivial, trivial, trivial, trivial, trivial, trivial, trivial, trivial, trivial, trivial, trivial, trivial, trivial, trivial, trivial, trivial, trivial, trivial, trivial⟩) hc ⟨?_, ?_, ?_, ?_, ?_, ?_, ?_, ?_, ?_, ?_, ?_, ?_, ?_, ?_, ?_, ?_, ?_, ?_, ?_, ?_, ?_, ?_, ?_, ?_, ?_, ?_, ?_, ?_, ?_, ?_, ?_, ?_, ?_, ?_, ?_, ?_, ?_, ?_, ?_, ?_, trivial⟩ ?_ ?_
  · intro E θ a w hD hi hp he hc
    have hf := he.h0
    replace hf := hf.more he 1 rfl onT
    refine stP hf rfl rfl rfl (pM rfl) fun a hf => ?_
    refine cNil ?_
    refine xThenN ?_
    intro ds u hau
    refine ⟨θ, he.put0 hi hau hf rfl 9 rfl rfl, ?_⟩
    exact hc
  · intro E θ a w hD hi hp he hc
    have e0 := hp.of (k := 0) rfl
    have hf := he.h0
    replace hf := hf.more he 9 rfl (onP e0)
    refine stP hf rfl rfl rfl (pNe rfl rfl) fun a hf => ?_
    refine cNil ?_
    refine xThenN ?_
    intro ds u hau
    refine ⟨θ, he.put0 hi hau hf rfl 10 rfl rfl, ?_⟩
    exact hc
  · intro E θ a w hD hi hp he hc
    have e1 := hp.of (k := 1) rfl
    have hf := he.h0
    replace hf := hf.more he 10 rfl (onP e1)
    refine stP hf rfl rfl rfl (pM rfl) fun a hf => ?_
    refine cNil ?_
    refine xThenN ?_
    intro ds u hau
    refine ⟨θ, he.put0 hi hau hf rfl 11 rfl rfl, ?_⟩
    exact hc
  · intro E θ a w hD hi hp he hc
    have e2 := hp.of (k := 2) rfl
    rcases boolEq (r_1.2 != 0) with hb | hb
    · have hf := he.h0
      replace hf := hf.more he 4 rfl onT
      replace hf := hf.more he 11 rfl (onP e2)
      replace hf := castB hb hf
      refine stS hf rfl rfl rfl fun a hf => ?_
      replace hf := castI (u := .int .i64 r_3.2.2) hb hf
      refine cNil ?_
      refine xThenN ?_
      intro ds u hau
      refine ⟨θ, he.put0 hi hau hf rfl 12 rfl rfl, ?_⟩
      exact hc
    · have hf := he.h0
      replace hf := hf.more he 4 rfl onT
      replace hf := hf.more he 11 rfl (onP e2)
      replace hf := castB hb hf
      refine stP hf rfl rfl rfl (pM rfl) fun a hf => ?_
      replace hf := castJ (u := undef) hb hf
      refine cNil ?_
      refine xThenN ?_
      intro ds u hau
      refine ⟨θ, he.put0 hi hau hf rfl 12 rfl rfl, ?_⟩
      exact hc
  · intro E θ a w hD hi hp he hc
    have e2 := hp.of (k := 2) rfl
    have e3 := hp.of (k := 3) rfl
    rcases boolEq (r_1.2 != 0) with hb | hb
    · have hf := he.h0
      replace hf := hf.more he 11 rfl (onP e2)
      replace hf := castB hb hf
      replace hf := hf.more he 12 rfl (onP e3)
      replace hf := castCT hb hf
      refine stS hf rfl rfl rfl fun a hf => ?_
      replace hf := castI (u := .bool (r_3.2.2 != 0)) hb hf
      refine cNil ?_
      refine xThenN ?_
      intro ds u hau
      refine ⟨θ, he.put0 hi hau hf rfl 13 rfl rfl, ?_⟩
      exact hc
    · have hf := he.h0
      replace hf := hf.more he 11 rfl (onP e2)
      replace hf := castB hb hf
      replace hf := hf.more he 12 rfl (onP e3)
      replace hf := castCF hb hf
      refine stP hf rfl rfl rfl (pNe rfl rfl) fun a hf => ?_
      replace hf := castJ (u := undef) hb hf
      refine cNil ?_
      refine xThenN ?_
      intro ds u hau
      refine ⟨θ, he.put0 hi hau hf rfl 13 rfl rfl, ?_⟩
      exact hc
  · intro E θ a w hD hi hp he hc
    have e2 := hp.of (k := 2) rfl
    have e4 := hp.of (k := 4) rfl
    rcases boolEq (r_1.2 != 0) with hb | hb
    · have hf := he.h0
      replace hf := hf.more he 11 rfl (onP e2)
      replace hf := castB hb hf
      replace hf := hf.more he 13 rfl (onP e4)
      replace hf := castCT hb hf
      refine stP hf rfl rfl rfl (pPt rfl rfl) fun a hf => ?_
      replace hf := castV (v' := .bool ((r_1.2 != 0) || (r_3.2.2 != 0))) (congrArg Value.bool (orT hb)) hf
      refine cNil ?_
      refine xThenN ?_
      intro ds u hau
      refine ⟨θ, he.put0 hi hau hf rfl 14 rfl rfl, ?_⟩
      exact hc
    · have hf := he.h0
      replace hf := hf.more he 11 rfl (onP e2)
      replace hf := castB hb hf
      replace hf := hf.more he 13 rfl (onP e4)
      replace hf := castCF hb hf
      refine stP hf rfl rfl rfl (pPf rfl rfl) fun a hf => ?_
      replace hf := castV (v' := .bool ((r_1.2 != 0) || (r_3.2.2 != 0))) (congrArg Value.bool (orF hb)) hf
      refine cNil ?_
      refine xThenN ?_
      intro ds u hau
      refine ⟨θ, he.put0 hi hau hf rfl 14 rfl rfl, ?_⟩
      exact hc
  · intro E θ a w hD hi hp he hc
    have e5 := hp.of (k := 5) rfl
    have hf := he.h0
    replace hf := hf.more he 14 rfl (onP e5)
    refine stP hf rfl rfl rfl (pM rfl) fun a hf => ?_
    refine cNil ?_
    refine xThenN ?_
    intro ds u hau
    refine ⟨θ, he.put0 hi hau hf rfl 15 rfl rfl, ?_⟩
    exact hc
  · intro E θ a w hD hi hp he hc
    have e6 := hp.of (k := 6) rfl
    rcases boolEq ((r_1.2 != 0) || (r_3.2.2 != 0)) with hb | hb
    · have hf := he.h0
      replace hf := hf.more he 6 rfl onT
      replace hf := hf.more he 15 rfl (onP e6)
      replace hf := castB hb hf
      refine stS hf rfl rfl rfl fun a hf => ?_
      replace hf := castI (u := .int .i64 r_8.2) hb hf
      refine cNil ?_
      refine xThenN ?_
      intro ds u hau
      refine ⟨θ, he.put0 hi hau hf rfl 16 rfl rfl, ?_⟩
      exact hc
    · have hf := he.h0
      replace hf := hf.more he 6 rfl onT
      replace hf := hf.more he 15 rfl (onP e6)
      replace hf := castB hb hf
      refine stP hf rfl rfl rfl (pM rfl) fun a hf => ?_
      replace hf := castJ (u := undef) hb hf
      refine cNil ?_
      refine xThenN ?_
      intro ds u hau
      refine ⟨θ, he.put0 hi hau hf rfl 16 rfl rfl, ?_⟩
      exact hc
  · intro E θ a w hD hi hp he hc
    have e6 := hp.of (k := 6) rfl
    have e7 := hp.of (k := 7) rfl
    rcases boolEq ((r_1.2 != 0) || (r_3.2.2 != 0)) with hb | hb
    · have hf := he.h0
      replace hf := hf.more he 15 rfl (onP e6)
      replace hf := castB hb hf
      replace hf := hf.more he 16 rfl (onP e7)
      replace hf := castCT hb hf
      refine stS hf rfl rfl rfl fun a hf => ?_
      replace hf := castI (u := .bool (r_8.2 != 0)) hb hf
      refine cNil ?_
      refine xThenN ?_
      intro ds u hau
      refine ⟨θ, he.put0 hi hau hf rfl 17 rfl rfl, ?_⟩
      exact hc
    · have hf := he.h0
      replace hf := hf.more he 15 rfl (onP e6)
      replace hf := castB hb hf
      replace hf := hf.more he 16 rfl (onP e7)
      replace hf := castCF hb hf
      refine stP hf rfl rfl rfl (pNe rfl rfl) fun a hf => ?_
      replace hf := castJ (u := undef) hb hf
      refine cNil ?_
      refine xThenN ?_
      intro ds u hau
      refine ⟨θ, he.put0 hi hau hf rfl 17 rfl rfl, ?_⟩
      exact hc
  · intro E θ a w hD hi hp he hc
    have e6 := hp.of (k := 6) rfl
    have e8 := hp.of (k := 8) rfl
    rcases boolEq ((r_1.2 != 0) || (r_3.2.2 != 0)) with hb | hb
    · have hf := he.h0
      replace hf := hf.more he 15 rfl (onP e6)
      replace hf := castB hb hf
      replace hf := hf.more he 17 rfl (onP e8)
      replace hf := castCT hb hf
      refine stP hf rfl rfl rfl (pPt rfl rfl) fun a hf => ?_
      replace hf := castV (v' := .bool (((r_1.2 != 0) || (r_3.2.2 != 0)) || (r_8.2 != 0))) (congrArg Value.bool (orT hb)) hf
      refine cNil ?_
      refine xThenN ?_
      intro ds u hau
      refine ⟨θ, he.put0 hi hau hf rfl 18 rfl rfl, ?_⟩
      exact hc
    · have hf := he.h0
      replace hf := hf.more he 15 rfl (onP e6)
      replace hf := castB hb hf
      replace hf := hf.more he 17 rfl (onP e8)
      replace hf := castCF hb hf
      refine stP hf rfl rfl rfl (pPf rfl rfl) fun a hf => ?_
      replace hf := castV (v' := .bool (((r_1.2 != 0) || (r_3.2.2 != 0)) || (r_8.2 != 0))) (congrArg Value.bool (orF hb)) hf
      refine cNil ?_
      refine xThenN ?_
      intro ds u hau
      refine ⟨θ, he.put0 hi hau hf rfl 18 rfl rfl, ?_⟩
      exact hc
  · intro E θ a w hD hi hp he hc
    have e9 := hp.of (k := 9) rfl
    have hf := he.h0
    replace hf := hf.more he 18 rfl (onP e9)
    refine stP hf rfl rfl rfl (pM rfl) fun a hf => ?_
    refine cNil ?_
    refine xThenN ?_
    intro ds u hau
    refine ⟨θ, he.put0 hi hau hf rfl 19 rfl rfl, ?_⟩
    exact hc
  · intro E θ a w hD hi hp he hc
    have e10 := hp.of (k := 10) rfl
    rcases boolEq (((r_1.2 != 0) || (r_3.2.2 != 0)) || (r_8.2 != 0)) with hb | hb
    · have hf := he.h0
      replace hf := hf.more he 8 rfl onT
      replace hf := hf.more he 19 rfl (onP e10)
      replace hf := castB hb hf
      refine stS hf rfl rfl rfl fun a hf => ?_
      replace hf := castI (u := .int .i64 r_13.2) hb hf
      refine cNil ?_
      refine xThenN ?_
      intro ds u hau
      refine ⟨θ, he.put0 hi hau hf rfl 20 rfl rfl, ?_⟩
      exact hc
    · have hf := he.h0
      replace hf := hf.more he 8 rfl onT
      replace hf := hf.more he 19 rfl (onP e10)
      replace hf := castB hb hf
      refine stP hf rfl rfl rfl (pM rfl) fun a hf => ?_
      replace hf := castJ (u := undef) hb hf
      refine cNil ?_
      refine xThenN ?_
      intro ds u hau
      refine ⟨θ, he.put0 hi hau hf rfl 20 rfl rfl, ?_⟩
      exact hc
  · intro E θ a w hD hi hp he hc
    have e10 := hp.of (k := 10) rfl
    have e11 := hp.of (k := 11) rfl
    rcases boolEq (((r_1.2 != 0) || (r_3.2.2 != 0)) || (r_8.2 != 0)) with hb | hb
    · have hf := he.h0
      replace hf := hf.more he 19 rfl (onP e10)
      replace hf := castB hb hf
      replace hf := hf.more he 20 rfl (onP e11)
      replace hf := castCT hb hf
      refine stS hf rfl rfl rfl fun a hf => ?_
      replace hf := castI (u := .bool (r_13.2 != 0)) hb hf
      refine cNil ?_
      refine xThenN ?_
      intro ds u hau
      refine ⟨θ, he.put0 hi hau hf rfl 21 rfl rfl, ?_⟩
      exact hc
    · have hf := he.h0
      replace hf := hf.more he 19 rfl (onP e10)
      replace hf := castB hb hf
      replace hf := hf.more he 20 rfl (onP e11)
      replace hf := castCF hb hf
      refine stP hf rfl rfl rfl (pNe rfl rfl) fun a hf => ?_
      replace hf := castJ (u := undef) hb hf
      refine cNil ?_
      refine xThenN ?_
      intro ds u hau
      refine ⟨θ, he.put0 hi hau hf rfl 21 rfl rfl, ?_⟩
      exact hc
  · intro E θ a w hD hi hp he hc
    have e10 := hp.of (k := 10) rfl
    have e12 := hp.of (k := 12) rfl
    rcases boolEq (((r_1.2 != 0) || (r_3.2.2 != 0)) || (r_8.2 != 0)) with hb | hb
    · have hf := he.h0
      replace hf := hf.more he 19 rfl (onP e10)
      replace hf := castB hb hf
      replace hf := hf.more he 21 rfl (onP e12)
      replace hf := castCT hb hf
      refine stP hf rfl rfl rfl (pPt rfl rfl) fun a hf => ?_
      replace hf := castV (v' := .bool ((((r_1.2 != 0) || (r_3.2.2 != 0)) || (r_8.2 != 0)) || (r_13.2 != 0))) (congrArg Value.bool (orT hb)) hf
      refine cNil ?_
      refine xThenN ?_
      intro ds u hau
      refine ⟨θ, he.put0 hi hau hf rfl 22 rfl rfl, ?_⟩
      exact hc
    · have hf := he.h0
      replace hf := hf.more he 19 rfl (onP e10)
      replace hf := castB hb hf
      replace hf := hf.more he 21 rfl (onP e12)
      replace hf := castCF hb hf
      refine stP hf rfl rfl rfl (pPf rfl rfl) fun a hf => ?_
      replace hf := castV (v' := .bool ((((r_1.2 != 0) || (r_3.2.2 != 0)) || (r_8.2 != 0)) || (r_13.2 != 0))) (congrArg Value.bool (orF hb)) hf
      refine cNil ?_
      refine xThenN ?_
      intro ds u hau
      refine ⟨θ, he.put0 hi hau hf rfl 22 rfl rfl, ?_⟩
      exact hc
  · intro E θ a w hD hi hp he hc
    have e13 := hp.of (k := 13) rfl
    have hf := he.h0
    replace hf := hf.more he 22 rfl (onP e13)
    refine stP hf rfl rfl rfl (pM rfl) fun a hf => ?_
    refine cNil ?_
    refine xThenN ?_
    intro ds u hau
    refine ⟨θ, he.put0 hi hau hf rfl 23 rfl rfl, ?_⟩
    exact hc
  · intro E θ a w hD hi hp he hc
    have e14 := hp.of (k := 14) rfl
    rcases boolEq ((((r_1.2 != 0) || (r_3.2.2 != 0)) || (r_8.2 != 0)) || (r_13.2 != 0)) with hb | hb
    · have hf := he.h0
      replace hf := hf.more he 0 rfl onT
      replace hf := hf.more he 23 rfl (onP e14)
      replace hf := castB hb hf
      refine stS hf rfl rfl rfl fun a hf => ?_
      replace hf := castI (u := .agg #[.int .i64 r_1.1.Lo, .int .i64 r_1.1.Hi]) hb hf
      refine cNil ?_
      refine xThenN ?_
      intro ds u hau
      refine ⟨θ, he.put0 hi hau hf rfl 24 rfl rfl, ?_⟩
      exact hc
    · have hf := he.h0
      replace hf := hf.more he 0 rfl onT
      replace hf := hf.more he 23 rfl (onP e14)
      replace hf := castB hb hf
      refine stE hf hc rfl rfl rfl (eLdN (vs := [.int .i64 r_1.1.Lo, .int .i64 r_1.1.Hi]) ag_24 rfl rfl (cells_box (n := 2) m8 rfl)) fun a w hf hc => ?_
      replace hf := castJ (u := undef) hb hf
      refine cNil ?_
      refine xThenN ?_
      intro ds u hau
      refine ⟨θ, he.put0 hi hau hf rfl 24 rfl rfl, ?_⟩
      exact hc
  · intro E θ a w hD hi hp he hc
    have e14 := hp.of (k := 14) rfl
    rcases boolEq ((((r_1.2 != 0) || (r_3.2.2 != 0)) || (r_8.2 != 0)) || (r_13.2 != 0)) with hb | hb
    · have hf := he.h0
      replace hf := hf.more he 23 rfl (onP e14)
      replace hf := castB hb hf
      refine stS hf rfl rfl rfl fun a hf => ?_
      replace hf := castI (u := .agg #[.int .i64 r_14.Lo, .int .i64 r_14.Hi]) hb hf
      refine cNil ?_
      refine xThenN ?_
      intro ds u hau
      refine ⟨θ, he.put0 hi hau hf rfl 25 rfl rfl, ?_⟩
      exact hc
    · have hf := he.h0
      replace hf := hf.more he 23 rfl (onP e14)
      replace hf := castB hb hf
      refine stE hf hc rfl rfl rfl (eC (v := .agg #[.int .i64 r_14.Lo, .int .i64 r_14.Hi]) (vs := [.int .i64 51600, .int .i64 402000]) (caps := []) en_14 rfl rfl rfl rfl (fun w hc => law03_span_ok 51600 402000 hc (condT (notT hb) hr_14))) fun a w hf hc => ?_
      replace hf := castJ (u := undef) hb hf
      refine cNil ?_
      refine xThenN ?_
      intro ds u hau
      refine ⟨θ, he.put0 hi hau hf rfl 25 rfl rfl, ?_⟩
      exact hc
  · intro E θ a w hD hi hp he hc
    have e14 := hp.of (k := 14) rfl
    have e15 := hp.of (k := 15) rfl
    have e16 := hp.of (k := 16) rfl
    rcases boolEq ((((r_1.2 != 0) || (r_3.2.2 != 0)) || (r_8.2 != 0)) || (r_13.2 != 0)) with hb | hb
    · have hf := he.h0
      replace hf := hf.more he 23 rfl (onP e14)
      replace hf := castB hb hf
      replace hf := hf.more he 24 rfl (onP e15)
      replace hf := castCT hb hf
      replace hf := hf.more he 25 rfl (onP e16)
      replace hf := castCT hb hf
      refine stS hf rfl rfl rfl fun a hf => ?_
      replace hf := castI (u := .bool (!(r_1.1.Lo == r_14.Lo && r_1.1.Hi == r_14.Hi))) hb hf
      refine cNil ?_
      refine xThenN ?_
      intro ds u hau
      refine ⟨θ, he.put0 hi hau hf rfl 26 rfl rfl, ?_⟩
      exact hc
    · have hf := he.h0
      replace hf := hf.more he 23 rfl (onP e14)
      replace hf := castB hb hf
      replace hf := hf.more he 24 rfl (onP e15)
      replace hf := castCF hb hf
      replace hf := hf.more he 25 rfl (onP e16)
      replace hf := castCF hb hf
      refine stP hf rfl rfl rfl (pNeA ge_24 rfl rfl (eqs_24 _ _ _ _)) fun a hf => ?_
      replace hf := castJ (u := undef) hb hf
      refine cNil ?_
      refine xThenN ?_
      intro ds u hau
      refine ⟨θ, he.put0 hi hau hf rfl 26 rfl rfl, ?_⟩
      exact hc
  · intro E θ a w hD hi hp he hc
    have e14 := hp.of (k := 14) rfl
    have e17 := hp.of (k := 17) rfl
    rcases boolEq ((((r_1.2 != 0) || (r_3.2.2 != 0)) || (r_8.2 != 0)) || (r_13.2 != 0)) with hb | hb
    · have hf := he.h0
      replace hf := hf.more he 23 rfl (onP e14)
      replace hf := castB hb hf
      replace hf := hf.more he 26 rfl (onP e17)
      replace hf := castCT hb hf
      refine stP hf rfl rfl rfl (pPt rfl rfl) fun a hf => ?_
      replace hf := castV (v' := .bool (((((r_1.2 != 0) || (r_3.2.2 != 0)) || (r_8.2 != 0)) || (r_13.2 != 0)) || (!(r_1.1.Lo == r_14.Lo && r_1.1.Hi == r_14.Hi)))) (congrArg Value.bool (orT hb)) hf
      refine cNil ?_
      refine xThenN ?_
      intro ds u hau
      refine ⟨θ, he.put0 hi hau hf rfl 27 rfl rfl, ?_⟩
      exact hc
    · have hf := he.h0
      replace hf := hf.more he 23 rfl (onP e14)
      replace hf := castB hb hf
      replace hf := hf.more he 26 rfl (onP e17)
      replace hf := castCF hb hf
      refine stP hf rfl rfl rfl (pPf rfl rfl) fun a hf => ?_
      replace hf := castV (v' := .bool (((((r_1.2 != 0) || (r_3.2.2 != 0)) || (r_8.2 != 0)) || (r_13.2 != 0)) || (!(r_1.1.Lo == r_14.Lo && r_1.1.Hi == r_14.Hi)))) (congrArg Value.bool (orF hb)) hf
      refine cNil ?_
      refine xThenN ?_
      intro ds u hau
      refine ⟨θ, he.put0 hi hau hf rfl 27 rfl rfl, ?_⟩
      exact hc
  · intro E θ a w hD hi hp he hc
    have e18 := hp.of (k := 18) rfl
    have hf := he.h0
    replace hf := hf.more he 27 rfl (onP e18)
    refine stP hf rfl rfl rfl (pM rfl) fun a hf => ?_
    refine cNil ?_
    refine xThenN ?_
    intro ds u hau
    refine ⟨θ, he.put0 hi hau hf rfl 28 rfl rfl, ?_⟩
    exact hc
  · intro E θ a w hD hi hp he hc
    have e19 := hp.of (k := 19) rfl
    rcases boolEq (((((r_1.2 != 0) || (r_3.2.2 != 0)) || (r_8.2 != 0)) || (r_13.2 != 0)) || (!(r_1.1.Lo == r_14.Lo && r_1.1.Hi == r_14.Hi))) with hb | hb
    · have hf := he.h0
      replace hf := hf.more he 2 rfl onT
      replace hf := hf.more he 28 rfl (onP e19)
      replace hf := castB hb hf
      refine stS hf rfl rfl rfl fun a hf => ?_
      replace hf := castI (u := .slice p_3 r_3.1.length c_3) hb hf
      refine cNil ?_
      refine xThenN ?_
      intro ds u hau
      refine ⟨θ, he.put0 hi hau hf rfl 29 rfl rfl, ?_⟩
      exact hc
    · have hf := he.h0
      replace hf := hf.more he 2 rfl onT
      replace hf := hf.more he 28 rfl (onP e19)
      replace hf := castB hb hf
      refine stP hf rfl rfl rfl (pM rfl) fun a hf => ?_
      replace hf := castJ (u := undef) hb hf
      refine cNil ?_
      refine xThenN ?_
      intro ds u hau
      refine ⟨θ, he.put0 hi hau hf rfl 29 rfl rfl, ?_⟩
      exact hc
  · intro E θ a w hD hi hp he hc
    have e19 := hp.of (k := 19) rfl
    replace hc : Ctx G ((bif E 21 then (gE (!(((((r_1.2 != 0) || (r_3.2.2 != 0)) || (r_8.2 != 0)) || (r_13.2 != 0)) || (!(r_1.1.Lo == r_14.Lo && r_1.1.Hi == r_14.Hi)))) (.row (some ⟨(θ 168).b, 0, none⟩) 2 (([0, 1] : List Int).map encI_i64) 3 1)) else .row none 0 [] 0 0) :: .box b_5 [.int .i64 r_13.1.Lo, .int .i64 r_13.1.Hi] 24 :: .box b_4 [.int .i64 r_8.1.Lo, .int .i64 r_8.1.Hi] 24 :: .row (some ⟨b_3, 0, none⟩) 1 (([(⟨(⟨0, 0⟩ : api_Span), r_4, r_5, r_6, r_7⟩ : gauge_Leg)] : List gauge_Leg).map enc_gauge_Leg) 40 10 :: .box b_2 [.int .i64 0, .int .i64 0, .int .i64 r_4.Lo, .int .i64 r_4.Hi, .int .i64 r_5.Lo, .int .i64 r_5.Hi, .int .i64 r_6.Lo, .int .i64 r_6.Hi, .int .i64 r_7.Lo, .int .i64 r_7.Hi] 40 :: .row p_2 c_2 (r_2.Verticals.map enc_gauge_Vertical) 61 5 :: .row p_3 c_3 (r_3.1.map encI_i64) 3 1 :: .row p_4 c_4 (r_3.2.1.map encI_i64) 3 1 :: .box b_1 [.int .i64 r_1.1.Lo, .int .i64 r_1.1.Hi] 24 :: .row p_1 c_1 (r.Verticals.map enc_gauge_Vertical) 61 5 :: Lf) w := hc
    rw [hi] at hc
    replace hc : Ctx G (.row none 0 [] 0 0 :: .box b_5 [.int .i64 r_13.1.Lo, .int .i64 r_13.1.Hi] 24 :: .box b_4 [.int .i64 r_8.1.Lo, .int .i64 r_8.1.Hi] 24 :: .row (some ⟨b_3, 0, none⟩) 1 (([(⟨(⟨0, 0⟩ : api_Span), r_4, r_5, r_6, r_7⟩ : gauge_Leg)] : List gauge_Leg).map enc_gauge_Leg) 40 10 :: .box b_2 [.int .i64 0, .int .i64 0, .int .i64 r_4.Lo, .int .i64 r_4.Hi, .int .i64 r_5.Lo, .int .i64 r_5.Hi, .int .i64 r_6.Lo, .int .i64 r_6.Hi, .int .i64 r_7.Lo, .int .i64 r_7.Hi] 40 :: .row p_2 c_2 (r_2.Verticals.map enc_gauge_Vertical) 61 5 :: .row p_3 c_3 (r_3.1.map encI_i64) 3 1 :: .row p_4 c_4 (r_3.2.1.map encI_i64) 3 1 :: .box b_1 [.int .i64 r_1.1.Lo, .int .i64 r_1.1.Hi] 24 :: .row p_1 c_1 (r.Verticals.map enc_gauge_Vertical) 61 5 :: Lf) w := hc
    rcases boolEq (((((r_1.2 != 0) || (r_3.2.2 != 0)) || (r_8.2 != 0)) || (r_13.2 != 0)) || (!(r_1.1.Lo == r_14.Lo && r_1.1.Hi == r_14.Hi))) with hb | hb
    · have hf := he.h0
      replace hf := hf.more he 28 rfl (onP e19)
      replace hf := castB hb hf
      replace hc : Ctx G (.row none 0 [] 0 0 :: .box b_5 [.int .i64 r_13.1.Lo, .int .i64 r_13.1.Hi] 24 :: .box b_4 [.int .i64 r_8.1.Lo, .int .i64 r_8.1.Hi] 24 :: .row (some ⟨b_3, 0, none⟩) 1 (([(⟨(⟨0, 0⟩ : api_Span), r_4, r_5, r_6, r_7⟩ : gauge_Leg)] : List gauge_Leg).map enc_gauge_Leg) 40 10 :: .box b_2 [.int .i64 0, .int .i64 0, .int .i64 r_4.Lo, .int .i64 r_4.Hi, .int .i64 r_5.Lo, .int .i64 r_5.Hi, .int .i64 r_6.Lo, .int .i64 r_6.Hi, .int .i64 r_7.Lo, .int .i64 r_7.Hi] 40 :: .row p_2 c_2 (r_2.Verticals.map enc_gauge_Vertical) 61 5 :: .row p_3 c_3 (r_3.1.map encI_i64) 3 1 :: .row p_4 c_4 (r_3.2.1.map encI_i64) 3 1 :: .box b_1 [.int .i64 r_1.1.Lo, .int .i64 r_1.1.Hi] 24 :: .row p_1 c_1 (r.Verticals.map enc_gauge_Vertical) 61 5 :: Lf) w := hc
      refine stS hf rfl rfl rfl fun a hf => ?_
      replace hf := castI (u := .slice (some ⟨(θ 168).b, 0, none⟩) 2 2) hb hf
      refine cNil ?_
      refine xThenN ?_
      intro ds u hau
      refine ⟨θ, he.put0 hi hau hf rfl 30 rfl rfl, ?_⟩
      show Ctx G ((bif true then (gE (!(((((r_1.2 != 0) || (r_3.2.2 != 0)) || (r_8.2 != 0)) || (r_13.2 != 0)) || (!(r_1.1.Lo == r_14.Lo && r_1.1.Hi == r_14.Hi)))) (.row (some ⟨(θ 168).b, 0, none⟩) 2 (([0, 1] : List Int).map encI_i64) 3 1)) else .row none 0 [] 0 0) :: .box b_5 [.int .i64 r_13.1.Lo, .int .i64 r_13.1.Hi] 24 :: .box b_4 [.int .i64 r_8.1.Lo, .int .i64 r_8.1.Hi] 24 :: .row (some ⟨b_3, 0, none⟩) 1 (([(⟨(⟨0, 0⟩ : api_Span), r_4, r_5, r_6, r_7⟩ : gauge_Leg)] : List gauge_Leg).map enc_gauge_Leg) 40 10 :: .box b_2 [.int .i64 0, .int .i64 0, .int .i64 r_4.Lo, .int .i64 r_4.Hi, .int .i64 r_5.Lo, .int .i64 r_5.Hi, .int .i64 r_6.Lo, .int .i64 r_6.Hi, .int .i64 r_7.Lo, .int .i64 r_7.Hi] 40 :: .row p_2 c_2 (r_2.Verticals.map enc_gauge_Vertical) 61 5 :: .row p_3 c_3 (r_3.1.map encI_i64) 3 1 :: .row p_4 c_4 (r_3.2.1.map encI_i64) 3 1 :: .box b_1 [.int .i64 r_1.1.Lo, .int .i64 r_1.1.Hi] 24 :: .row p_1 c_1 (r.Verticals.map enc_gauge_Vertical) 61 5 :: Lf) w
      rw [gE_F (notF hb)]
      exact hc
    · have hf := he.h0
      replace hf := hf.more he 28 rfl (onP e19)
      replace hf := castB hb hf
      replace hc : Ctx G (.row none 0 [] 0 0 :: .box b_5 [.int .i64 r_13.1.Lo, .int .i64 r_13.1.Hi] 24 :: .box b_4 [.int .i64 r_8.1.Lo, .int .i64 r_8.1.Hi] 24 :: .row (some ⟨b_3, 0, none⟩) 1 (([(⟨(⟨0, 0⟩ : api_Span), r_4, r_5, r_6, r_7⟩ : gauge_Leg)] : List gauge_Leg).map enc_gauge_Leg) 40 10 :: .box b_2 [.int .i64 0, .int .i64 0, .int .i64 r_4.Lo, .int .i64 r_4.Hi, .int .i64 r_5.Lo, .int .i64 r_5.Hi, .int .i64 r_6.Lo, .int .i64 r_6.Hi, .int .i64 r_7.Lo, .int .i64 r_7.Hi] 40 :: .row p_2 c_2 (r_2.Verticals.map enc_gauge_Vertical) 61 5 :: .row p_3 c_3 (r_3.1.map encI_i64) 3 1 :: .row p_4 c_4 (r_3.2.1.map encI_i64) 3 1 :: .box b_1 [.int .i64 r_1.1.Lo, .int .i64 r_1.1.Hi] 24 :: .row p_1 c_1 (r.Verticals.map enc_gauge_Vertical) 61 5 :: Lf) w := hc
      refine stBS (rows := ([0, 1] : List Int).map encI_i64) (vs := [(0, .int .i64 0), (1, .int .i64 1)]) hf hc rfl rfl sl_43 rfl ⟨rfl, rfl, rfl, rfl, rfl, rfl, trivial⟩ rfl rfl fun b_6 a w hf hc => ?_
      replace hf := castJ (u := undef) hb hf
      refine cNil ?_
      refine xThenN ?_
      intro ds u hau
      replace hc := hc.drop k1
      refine ⟨(setT θ 168 ⟨b_6, none, 0⟩), he.put hi hau hf rfl [] trivial ⟨qq, qq, qq, qq, qq, qq, qq, qq, qq, qq, qq, qq, qq, qq, qq, qq, qq, qq, qq, qq, qq, qq, qq, qq, qq, qq, qq, qq, qq, qq, qq, qq, qq, qq, qq, qq, qq, qq, qq, qq, qq, qq, qq, qq, qq, qq, qq, qq, qq, trivial⟩, ?_⟩
      show Ctx G ((bif true then (gE (!(((((r_1.2 != 0) || (r_3.2.2 != 0)) || (r_8.2 != 0)) || (r_13.2 != 0)) || (!(r_1.1.Lo == r_14.Lo && r_1.1.Hi == r_14.Hi)))) (.row (some ⟨b_6, 0, none⟩) 2 (([0, 1] : List Int).map encI_i64) 3 1)) else .row none 0 [] 0 0) :: .box b_5 [.int .i64 r_13.1.Lo, .int .i64 r_13.1.Hi] 24 :: .box b_4 [.int .i64 r_8.1.Lo, .int .i64 r_8.1.Hi] 24 :: .row (some ⟨b_3, 0, none⟩) 1 (([(⟨(⟨0, 0⟩ : api_Span), r_4, r_5, r_6, r_7⟩ : gauge_Leg)] : List gauge_Leg).map enc_gauge_Leg) 40 10 :: .box b_2 [.int .i64 0, .int .i64 0, .int .i64 r_4.Lo, .int .i64 r_4.Hi, .int .i64 r_5.Lo, .int .i64 r_5.Hi, .int .i64 r_6.Lo, .int .i64 r_6.Hi, .int .i64 r_7.Lo, .int .i64 r_7.Hi] 40 :: .row p_2 c_2 (r_2.Verticals.map enc_gauge_Vertical) 61 5 :: .row p_3 c_3 (r_3.1.map encI_i64) 3 1 :: .row p_4 c_4 (r_3.2.1.map encI_i64) 3 1 :: .box b_1 [.int .i64 r_1.1.Lo, .int .i64 r_1.1.Hi] 24 :: .row p_1 c_1 (r.Verticals.map enc_gauge_Vertical) 61 5 :: Lf) w
      rw [gE_T (notT hb)]
      exact hc
  · intro E θ a w hD hi hp he hc
    have e19 := hp.of (k := 19) rfl
    have e20 := hp.of (k := 20) rfl
    have e21 := hp.of (k := 21) rfl
    replace hc : Ctx G ((bif E 21 then (gE (!(((((r_1.2 != 0) || (r_3.2.2 != 0)) || (r_8.2 != 0)) || (r_13.2 != 0)) || (!(r_1.1.Lo == r_14.Lo && r_1.1.Hi == r_14.Hi)))) (.row (some ⟨(θ 168).b, 0, none⟩) 2 (([0, 1] : List Int).map encI_i64) 3 1)) else .row none 0 [] 0 0) :: .box b_5 [.int .i64 r_13.1.Lo, .int .i64 r_13.1.Hi] 24 :: .box b_4 [.int .i64 r_8.1.Lo, .int .i64 r_8.1.Hi] 24 :: .row (some ⟨b_3, 0, none⟩) 1 (([(⟨(⟨0, 0⟩ : api_Span), r_4, r_5, r_6, r_7⟩ : gauge_Leg)] : List gauge_Leg).map enc_gauge_Leg) 40 10 :: .box b_2 [.int .i64 0, .int .i64 0, .int .i64 r_4.Lo, .int .i64 r_4.Hi, .int .i64 r_5.Lo, .int .i64 r_5.Hi, .int .i64 r_6.Lo, .int .i64 r_6.Hi, .int .i64 r_7.Lo, .int .i64 r_7.Hi] 40 :: .row p_2 c_2 (r_2.Verticals.map enc_gauge_Vertical) 61 5 :: .row p_3 c_3 (r_3.1.map encI_i64) 3 1 :: .row p_4 c_4 (r_3.2.1.map encI_i64) 3 1 :: .box b_1 [.int .i64 r_1.1.Lo, .int .i64 r_1.1.Hi] 24 :: .row p_1 c_1 (r.Verticals.map enc_gauge_Vertical) 61 5 :: Lf) w := hc
    rw [e21] at hc
    replace hc : Ctx G ((gE (!(((((r_1.2 != 0) || (r_3.2.2 != 0)) || (r_8.2 != 0)) || (r_13.2 != 0)) || (!(r_1.1.Lo == r_14.Lo && r_1.1.Hi == r_14.Hi)))) (.row (some ⟨(θ 168).b, 0, none⟩) 2 (([0, 1] : List Int).map encI_i64) 3 1)) :: .box b_5 [.int .i64 r_13.1.Lo, .int .i64 r_13.1.Hi] 24 :: .box b_4 [.int .i64 r_8.1.Lo, .int .i64 r_8.1.Hi] 24 :: .row (some ⟨b_3, 0, none⟩) 1 (([(⟨(⟨0, 0⟩ : api_Span), r_4, r_5, r_6, r_7⟩ : gauge_Leg)] : List gauge_Leg).map enc_gauge_Leg) 40 10 :: .box b_2 [.int .i64 0, .int .i64 0, .int .i64 r_4.Lo, .int .i64 r_4.Hi, .int .i64 r_5.Lo, .int .i64 r_5.Hi, .int .i64 r_6.Lo, .int .i64 r_6.Hi, .int .i64 r_7.Lo, .int .i64 r_7.Hi] 40 :: .row p_2 c_2 (r_2.Verticals.map enc_gauge_Vertical) 61 5 :: .row p_3 c_3 (r_3.1.map encI_i64) 3 1 :: .row p_4 c_4 (r_3.2.1.map encI_i64) 3 1 :: .box b_1 [.int .i64 r_1.1.Lo, .int .i64 r_1.1.Hi] 24 :: .row p_1 c_1 (r.Verticals.map enc_gauge_Vertical) 61 5 :: Lf) w := hc
    rcases boolEq (((((r_1.2 != 0) || (r_3.2.2 != 0)) || (r_8.2 != 0)) || (r_13.2 != 0)) || (!(r_1.1.Lo == r_14.Lo && r_1.1.Hi == r_14.Hi))) with hb | hb
    · have hf := he.h0
      replace hf := hf.more he 28 rfl (onP e19)
      replace hf := castB hb hf
      replace hf := hf.more he 29 rfl (onP e20)
      replace hf := castCT hb hf
      replace hf := hf.more he 30 rfl (onP e21)
      replace hf := castCT hb hf
      rw [gE_F (notF hb)] at hc
      replace hc : Ctx G (.row none 0 [] 0 0 :: .box b_5 [.int .i64 r_13.1.Lo, .int .i64 r_13.1.Hi] 24 :: .box b_4 [.int .i64 r_8.1.Lo, .int .i64 r_8.1.Hi] 24 :: .row (some ⟨b_3, 0, none⟩) 1 (([(⟨(⟨0, 0⟩ : api_Span), r_4, r_5, r_6, r_7⟩ : gauge_Leg)] : List gauge_Leg).map enc_gauge_Leg) 40 10 :: .box b_2 [.int .i64 0, .int .i64 0, .int .i64 r_4.Lo, .int .i64 r_4.Hi, .int .i64 r_5.Lo, .int .i64 r_5.Hi, .int .i64 r_6.Lo, .int .i64 r_6.Hi, .int .i64 r_7.Lo, .int .i64 r_7.Hi] 40 :: .row p_2 c_2 (r_2.Verticals.map enc_gauge_Vertical) 61 5 :: .row p_3 c_3 (r_3.1.map encI_i64) 3 1 :: .row p_4 c_4 (r_3.2.1.map encI_i64) 3 1 :: .box b_1 [.int .i64 r_1.1.Lo, .int .i64 r_1.1.Hi] 24 :: .row p_1 c_1 (r.Verticals.map enc_gauge_Vertical) 61 5 :: Lf) w := hc
      refine stS hf rfl rfl rfl fun a hf => ?_
      replace hf := castI (u := .bool r_15) hb hf
      refine cNil ?_
      refine xThenN ?_
      intro ds u hau
      refine ⟨θ, he.put0 hi hau hf rfl 31 rfl rfl, ?_⟩
      show Ctx G ((bif E 21 then (gE (!(((((r_1.2 != 0) || (r_3.2.2 != 0)) || (r_8.2 != 0)) || (r_13.2 != 0)) || (!(r_1.1.Lo == r_14.Lo && r_1.1.Hi == r_14.Hi)))) (.row (some ⟨(θ 168).b, 0, none⟩) 2 (([0, 1] : List Int).map encI_i64) 3 1)) else .row none 0 [] 0 0) :: .box b_5 [.int .i64 r_13.1.Lo, .int .i64 r_13.1.Hi] 24 :: .box b_4 [.int .i64 r_8.1.Lo, .int .i64 r_8.1.Hi] 24 :: .row (some ⟨b_3, 0, none⟩) 1 (([(⟨(⟨0, 0⟩ : api_Span), r_4, r_5, r_6, r_7⟩ : gauge_Leg)] : List gauge_Leg).map enc_gauge_Leg) 40 10 :: .box b_2 [.int .i64 0, .int .i64 0, .int .i64 r_4.Lo, .int .i64 r_4.Hi, .int .i64 r_5.Lo, .int .i64 r_5.Hi, .int .i64 r_6.Lo, .int .i64 r_6.Hi, .int .i64 r_7.Lo, .int .i64 r_7.Hi] 40 :: .row p_2 c_2 (r_2.Verticals.map enc_gauge_Vertical) 61 5 :: .row p_3 c_3 (r_3.1.map encI_i64) 3 1 :: .row p_4 c_4 (r_3.2.1.map encI_i64) 3 1 :: .box b_1 [.int .i64 r_1.1.Lo, .int .i64 r_1.1.Hi] 24 :: .row p_1 c_1 (r.Verticals.map enc_gauge_Vertical) 61 5 :: Lf) w
      rw [e21]
      rw [gE_F (notF hb)]
      exact hc
    · have hf := he.h0
      replace hf := hf.more he 28 rfl (onP e19)
      replace hf := castB hb hf
      replace hf := hf.more he 29 rfl (onP e20)
      replace hf := castCF hb hf
      replace hf := hf.more he 30 rfl (onP e21)
      replace hf := castCF hb hf
      rw [gE_T (notT hb)] at hc
      replace hc : Ctx G (.row (some ⟨(θ 168).b, 0, none⟩) 2 (([0, 1] : List Int).map encI_i64) 3 1 :: .box b_5 [.int .i64 r_13.1.Lo, .int .i64 r_13.1.Hi] 24 :: .box b_4 [.int .i64 r_8.1.Lo, .int .i64 r_8.1.Hi] 24 :: .row (some ⟨b_3, 0, none⟩) 1 (([(⟨(⟨0, 0⟩ : api_Span), r_4, r_5, r_6, r_7⟩ : gauge_Leg)] : List gauge_Leg).map enc_gauge_Leg) 40 10 :: .box b_2 [.int .i64 0, .int .i64 0, .int .i64 r_4.Lo, .int .i64 r_4.Hi, .int .i64 r_5.Lo, .int .i64 r_5.Hi, .int .i64 r_6.Lo, .int .i64 r_6.Hi, .int .i64 r_7.Lo, .int .i64 r_7.Hi] 40 :: .row p_2 c_2 (r_2.Verticals.map enc_gauge_Vertical) 61 5 :: .row p_3 c_3 (r_3.1.map encI_i64) 3 1 :: .row p_4 c_4 (r_3.2.1.map encI_i64) 3 1 :: .box b_1 [.int .i64 r_1.1.Lo, .int .i64 r_1.1.Hi] 24 :: .row p_1 c_1 (r.Verticals.map enc_gauge_Vertical) 61 5 :: Lf) w := hc
      refine stE hf hc rfl rfl rfl (eC (v := .bool r_15) (vs := [.slice p_3 r_3.1.length c_3, .slice (some ⟨(θ 168).b, 0, none⟩) 2 2]) (caps := []) en_41 rfl rfl rfl rfl (fun w hc => by obtain ⟨G1, hle1, hrd1, hc, hth1⟩ := lend hc k6; obtain ⟨G2, hle2, hrd2, hc, hth2⟩ := lend hc k0; exact (kit_Same_int_ok r_3.1 ([0, 1] : List Int) (hrd1.mono hle2) hrd2 hc (condT (notT hb) hr_15)).mono fun e w h => ⟨h.1, ((hth1 _ _ ((hth2 _ _ h.2).unpick k0)).unpick k6)⟩)) fun a w hf hc => ?_
      replace hf := castJ (u := undef) hb hf
      refine cNil ?_
      refine xThenN ?_
      intro ds u hau
      refine ⟨θ, he.put0 hi hau hf rfl 31 rfl rfl, ?_⟩
      show Ctx G ((bif E 21 then (gE (!(((((r_1.2 != 0) || (r_3.2.2 != 0)) || (r_8.2 != 0)) || (r_13.2 != 0)) || (!(r_1.1.Lo == r_14.Lo && r_1.1.Hi == r_14.Hi)))) (.row (some ⟨(θ 168).b, 0, none⟩) 2 (([0, 1] : List Int).map encI_i64) 3 1)) else .row none 0 [] 0 0) :: .box b_5 [.int .i64 r_13.1.Lo, .int .i64 r_13.1.Hi] 24 :: .box b_4 [.int .i64 r_8.1.Lo, .int .i64 r_8.1.Hi] 24 :: .row (some ⟨b_3, 0, none⟩) 1 (([(⟨(⟨0, 0⟩ : api_Span), r_4, r_5, r_6, r_7⟩ : gauge_Leg)] : List gauge_Leg).map enc_gauge_Leg) 40 10 :: .box b_2 [.int .i64 0, .int .i64 0, .int .i64 r_4.Lo, .int .i64 r_4.Hi, .int .i64 r_5.Lo, .int .i64 r_5.Hi, .int .i64 r_6.Lo, .int .i64 r_6.Hi, .int .i64 r_7.Lo, .int .i64 r_7.Hi] 40 :: .row p_2 c_2 (r_2.Verticals.map enc_gauge_Vertical) 61 5 :: .row p_3 c_3 (r_3.1.map encI_i64) 3 1 :: .row p_4 c_4 (r_3.2.1.map encI_i64) 3 1 :: .box b_1 [.int .i64 r_1.1.Lo, .int .i64 r_1.1.Hi] 24 :: .row p_1 c_1 (r.Verticals.map enc_gauge_Vertical) 61 5 :: Lf) w
      rw [e21]
      rw [gE_T (notT hb)]
      exact hc
  · intro E θ a w hD hi hp he hc
    have e19 := hp.of (k := 19) rfl
    have e22 := hp.of (k := 22) rfl
    rcases boolEq (((((r_1.2 != 0) || (r_3.2.2 != 0)) || (r_8.2 != 0)) || (r_13.2 != 0)) || (!(r_1.1.Lo == r_14.Lo && r_1.1.Hi == r_14.Hi))) with hb | hb
    · have hf := he.h0
      replace hf := hf.more he 28 rfl (onP e19)
      replace hf := castB hb hf
      replace hf := hf.more he 31 rfl (onP e22)
      replace hf := castCT hb hf
      refine stS hf rfl rfl rfl fun a hf => ?_
      replace hf := castI (u := .bool (!r_15)) hb hf
      refine cNil ?_
      refine xThenN ?_
      intro ds u hau
      refine ⟨θ, he.put0 hi hau hf rfl 32 rfl rfl, ?_⟩
      exact hc
    · have hf := he.h0
      replace hf := hf.more he 28 rfl (onP e19)
      replace hf := castB hb hf
      replace hf := hf.more he 31 rfl (onP e22)
      replace hf := castCF hb hf
      refine stP hf rfl rfl rfl (pNot rfl) fun a hf => ?_
      replace hf := castJ (u := undef) hb hf
      refine cNil ?_
      refine xThenN ?_
      intro ds u hau
      refine ⟨θ, he.put0 hi hau hf rfl 32 rfl rfl, ?_⟩
      exact hc
  · intro E θ a w hD hi hp he hc
    have e19 := hp.of (k := 19) rfl
    have e23 := hp.of (k := 23) rfl
    rcases boolEq (((((r_1.2 != 0) || (r_3.2.2 != 0)) || (r_8.2 != 0)) || (r_13.2 != 0)) || (!(r_1.1.Lo == r_14.Lo && r_1.1.Hi == r_14.Hi))) with hb | hb
    · have hf := he.h0
      replace hf := hf.more he 28 rfl (onP e19)
      replace hf := castB hb hf
      replace hf := hf.more he 32 rfl (onP e23)
      replace hf := castCT hb hf
      refine stP hf rfl rfl rfl (pPt rfl rfl) fun a hf => ?_
      replace hf := castV (v' := .bool ((((((r_1.2 != 0) || (r_3.2.2 != 0)) || (r_8.2 != 0)) || (r_13.2 != 0)) || (!(r_1.1.Lo == r_14.Lo && r_1.1.Hi == r_14.Hi))) || (!r_15))) (congrArg Value.bool (orT hb)) hf
      refine cNil ?_
      refine xThenN ?_
      intro ds u hau
      refine ⟨θ, he.put0 hi hau hf rfl 33 rfl rfl, ?_⟩
      exact hc
    · have hf := he.h0
      replace hf := hf.more he 28 rfl (onP e19)
      replace hf := castB hb hf
      replace hf := hf.more he 32 rfl (onP e23)
      replace hf := castCF hb hf
      refine stP hf rfl rfl rfl (pPf rfl rfl) fun a hf => ?_
      replace hf := castV (v' := .bool ((((((r_1.2 != 0) || (r_3.2.2 != 0)) || (r_8.2 != 0)) || (r_13.2 != 0)) || (!(r_1.1.Lo == r_14.Lo && r_1.1.Hi == r_14.Hi))) || (!r_15))) (congrArg Value.bool (orF hb)) hf
      refine cNil ?_
      refine xThenN ?_
      intro ds u hau
      refine ⟨θ, he.put0 hi hau hf rfl 33 rfl rfl, ?_⟩
      exact hc
  · intro E θ a w hD hi hp he hc
    have e24 := hp.of (k := 24) rfl
    have hf := he.h0
    replace hf := hf.more he 33 rfl (onP e24)
    refine stP hf rfl rfl rfl (pM rfl) fun a hf => ?_
    refine cNil ?_
    refine xThenN ?_
    intro ds u hau
    refine ⟨θ, he.put0 hi hau hf rfl 34 rfl rfl, ?_⟩
    exact hc
  · intro E θ a w hD hi hp he hc
    have e25 := hp.of (k := 25) rfl
    rcases boolEq ((((((r_1.2 != 0) || (r_3.2.2 != 0)) || (r_8.2 != 0)) || (r_13.2 != 0)) || (!(r_1.1.Lo == r_14.Lo && r_1.1.Hi == r_14.Hi))) || (!r_15)) with hb | hb
    · have hf := he.h0
      replace hf := hf.more he 3 rfl onT
      replace hf := hf.more he 34 rfl (onP e25)
      replace hf := castB hb hf
      refine stS hf rfl rfl rfl fun a hf => ?_
      replace hf := castI (u := .slice p_4 r_3.2.1.length c_4) hb hf
      refine cNil ?_
      refine xThenN ?_
      intro ds u hau
      refine ⟨θ, he.put0 hi hau hf rfl 35 rfl rfl, ?_⟩
      exact hc
    · have hf := he.h0
      replace hf := hf.more he 3 rfl onT
      replace hf := hf.more he 34 rfl (onP e25)
      replace hf := castB hb hf
      refine stP hf rfl rfl rfl (pM rfl) fun a hf => ?_
      replace hf := castJ (u := undef) hb hf
      refine cNil ?_
      refine xThenN ?_
      intro ds u hau
      refine ⟨θ, he.put0 hi hau hf rfl 35 rfl rfl, ?_⟩
      exact hc
  · intro E θ a w hD hi hp he hc
    have e25 := hp.of (k := 25) rfl
    have e26 := hp.of (k := 26) rfl
    rcases boolEq ((((((r_1.2 != 0) || (r_3.2.2 != 0)) || (r_8.2 != 0)) || (r_13.2 != 0)) || (!(r_1.1.Lo == r_14.Lo && r_1.1.Hi == r_14.Hi))) || (!r_15)) with hb | hb
    · have hf := he.h0
      replace hf := hf.more he 34 rfl (onP e25)
      replace hf := castB hb hf
      replace hf := hf.more he 35 rfl (onP e26)
      replace hf := castCT hb hf
      refine stS hf rfl rfl rfl fun a hf => ?_
      replace hf := castI (u := .int .i64 ((r_3.2.1.length : Nat) : Int)) hb hf
      refine cNil ?_
      refine xThenN ?_
      intro ds u hau
      refine ⟨θ, he.put0 hi hau hf rfl 36 rfl rfl, ?_⟩
      exact hc
    · have hf := he.h0
      replace hf := hf.more he 34 rfl (onP e25)
      replace hf := castB hb hf
      replace hf := hf.more he 35 rfl (onP e26)
      replace hf := castCF hb hf
      refine stP hf rfl rfl rfl (pLenS Try.underlying43 rfl) fun a hf => ?_
      replace hf := castJ (u := undef) hb hf
      refine cNil ?_
      refine xThenN ?_
      intro ds u hau
      refine ⟨θ, he.put0 hi hau hf rfl 36 rfl rfl, ?_⟩
      exact hc
  · intro E θ a w hD hi hp he hc
    have e25 := hp.of (k := 25) rfl
    have e27 := hp.of (k := 27) rfl
    rcases boolEq ((((((r_1.2 != 0) || (r_3.2.2 != 0)) || (r_8.2 != 0)) || (r_13.2 != 0)) || (!(r_1.1.Lo == r_14.Lo && r_1.1.Hi == r_14.Hi))) || (!r_15)) with hb | hb
    · have hf := he.h0
      replace hf := hf.more he 34 rfl (onP e25)
      replace hf := castB hb hf
      replace hf := hf.more he 36 rfl (onP e27)
      replace hf := castCT hb hf
      refine stS hf rfl rfl rfl fun a hf => ?_
      replace hf := castI (u := .bool (((r_3.2.1.length : Nat) : Int) != 0)) hb hf
      refine cNil ?_
      refine xThenN ?_
      intro ds u hau
      refine ⟨θ, he.put0 hi hau hf rfl 37 rfl rfl, ?_⟩
      exact hc
    · have hf := he.h0
      replace hf := hf.more he 34 rfl (onP e25)
      replace hf := castB hb hf
      replace hf := hf.more he 36 rfl (onP e27)
      replace hf := castCF hb hf
      refine stP hf rfl rfl rfl (pNe rfl rfl) fun a hf => ?_
      replace hf := castJ (u := undef) hb hf
      refine cNil ?_
      refine xThenN ?_
      intro ds u hau
      refine ⟨θ, he.put0 hi hau hf rfl 37 rfl rfl, ?_⟩
      exact hc
  · intro E θ a w hD hi hp he hc
    have e25 := hp.of (k := 25) rfl
    have e28 := hp.of (k := 28) rfl
    rcases boolEq ((((((r_1.2 != 0) || (r_3.2.2 != 0)) || (r_8.2 != 0)) || (r_13.2 != 0)) || (!(r_1.1.Lo == r_14.Lo && r_1.1.Hi == r_14.Hi))) || (!r_15)) with hb | hb
    · have hf := he.h0
      replace hf := hf.more he 34 rfl (onP e25)
      replace hf := castB hb hf
      replace hf := hf.more he 37 rfl (onP e28)
      replace hf := castCT hb hf
      refine stP hf rfl rfl rfl (pPt rfl rfl) fun a hf => ?_
      replace hf := castV (v' := .bool (((((((r_1.2 != 0) || (r_3.2.2 != 0)) || (r_8.2 != 0)) || (r_13.2 != 0)) || (!(r_1.1.Lo == r_14.Lo && r_1.1.Hi == r_14.Hi))) || (!r_15)) || (((r_3.2.1.length : Nat) : Int) != 0))) (congrArg Value.bool (orT hb)) hf
      refine cNil ?_
      refine xThenN ?_
      intro ds u hau
      refine ⟨θ, he.put0 hi hau hf rfl 38 rfl rfl, ?_⟩
      exact hc
    · have hf := he.h0
      replace hf := hf.more he 34 rfl (onP e25)
      replace hf := castB hb hf
      replace hf := hf.more he 37 rfl (onP e28)
      replace hf := castCF hb hf
      refine stP hf rfl rfl rfl (pPf rfl rfl) fun a hf => ?_
      replace hf := castV (v' := .bool (((((((r_1.2 != 0) || (r_3.2.2 != 0)) || (r_8.2 != 0)) || (r_13.2 != 0)) || (!(r_1.1.Lo == r_14.Lo && r_1.1.Hi == r_14.Hi))) || (!r_15)) || (((r_3.2.1.length : Nat) : Int) != 0))) (congrArg Value.bool (orF hb)) hf
      refine cNil ?_
      refine xThenN ?_
      intro ds u hau
      refine ⟨θ, he.put0 hi hau hf rfl 38 rfl rfl, ?_⟩
      exact hc
  · intro E θ a w hD hi hp he hc
    have e29 := hp.of (k := 29) rfl
    have hf := he.h0
    replace hf := hf.more he 38 rfl (onP e29)
    refine stP hf rfl rfl rfl (pM rfl) fun a hf => ?_
    refine cNil ?_
    refine xThenN ?_
    intro ds u hau
    refine ⟨θ, he.put0 hi hau hf rfl 39 rfl rfl, ?_⟩
    exact hc
  · intro E θ a w hD hi hp he hc
    have e30 := hp.of (k := 30) rfl
    rcases boolEq (((((((r_1.2 != 0) || (r_3.2.2 != 0)) || (r_8.2 != 0)) || (r_13.2 != 0)) || (!(r_1.1.Lo == r_14.Lo && r_1.1.Hi == r_14.Hi))) || (!r_15)) || (((r_3.2.1.length : Nat) : Int) != 0)) with hb | hb
    · have hf := he.h0
      replace hf := hf.more he 5 rfl onT
      replace hf := hf.more he 39 rfl (onP e30)
      replace hf := castB hb hf
      refine stS hf rfl rfl rfl fun a hf => ?_
      replace hf := castI (u := .agg #[.int .i64 r_8.1.Lo, .int .i64 r_8.1.Hi]) hb hf
      refine cNil ?_
      refine xThenN ?_
      intro ds u hau
      refine ⟨θ, he.put0 hi hau hf rfl 40 rfl rfl, ?_⟩
      exact hc
    · have hf := he.h0
      replace hf := hf.more he 5 rfl onT
      replace hf := hf.more he 39 rfl (onP e30)
      replace hf := castB hb hf
      refine stE hf hc rfl rfl rfl (eLdN (vs := [.int .i64 r_8.1.Lo, .int .i64 r_8.1.Hi]) ag_24 rfl rfl (cells_box (n := 2) m2 rfl)) fun a w hf hc => ?_
      replace hf := castJ (u := undef) hb hf
      refine cNil ?_
      refine xThenN ?_
      intro ds u hau
      refine ⟨θ, he.put0 hi hau hf rfl 40 rfl rfl, ?_⟩
      exact hc
  · intro E θ a w hD hi hp he hc
    have e30 := hp.of (k := 30) rfl
    rcases boolEq (((((((r_1.2 != 0) || (r_3.2.2 != 0)) || (r_8.2 != 0)) || (r_13.2 != 0)) || (!(r_1.1.Lo == r_14.Lo && r_1.1.Hi == r_14.Hi))) || (!r_15)) || (((r_3.2.1.length : Nat) : Int) != 0)) with hb | hb
    · have hf := he.h0
      replace hf := hf.more he 39 rfl (onP e30)
      replace hf := castB hb hf
      refine stS hf rfl rfl rfl fun a hf => ?_
      replace hf := castI (u := .agg #[.int .i64 r_16.Lo, .int .i64 r_16.Hi]) hb hf
      refine cNil ?_
      refine xThenN ?_
      intro ds u hau
      refine ⟨θ, he.put0 hi hau hf rfl 41 rfl rfl, ?_⟩
      exact hc
    · have hf := he.h0
      replace hf := hf.more he 39 rfl (onP e30)
      replace hf := castB hb hf
      refine stE hf hc rfl rfl rfl (eC (v := .agg #[.int .i64 r_16.Lo, .int .i64 r_16.Hi]) (vs := [.int .i64 30000, .int .i64 40000]) (caps := []) en_14 rfl rfl rfl rfl (fun w hc => law03_span_ok 30000 40000 hc (condT (notT hb) hr_16))) fun a w hf hc => ?_
      replace hf := castJ (u := undef) hb hf
      refine cNil ?_
      refine xThenN ?_
      intro ds u hau
      refine ⟨θ, he.put0 hi hau hf rfl 41 rfl rfl, ?_⟩
      exact hc
  · intro E θ a w hD hi hp he hc
    have e30 := hp.of (k := 30) rfl
    have e31 := hp.of (k := 31) rfl
    have e32 := hp.of (k := 32) rfl
    rcases boolEq (((((((r_1.2 != 0) || (r_3.2.2 != 0)) || (r_8.2 != 0)) || (r_13.2 != 0)) || (!(r_1.1.Lo == r_14.Lo && r_1.1.Hi == r_14.Hi))) || (!r_15)) || (((r_3.2.1.length : Nat) : Int) != 0)) with hb | hb
    · have hf := he.h0
      replace hf := hf.more he 39 rfl (onP e30)
      replace hf := castB hb hf
      replace hf := hf.more he 40 rfl (onP e31)
      replace hf := castCT hb hf
      replace hf := hf.more he 41 rfl (onP e32)
      replace hf := castCT hb hf
      refine stS hf rfl rfl rfl fun a hf => ?_
      replace hf := castI (u := .bool (!(r_8.1.Lo == r_16.Lo && r_8.1.Hi == r_16.Hi))) hb hf
      refine cNil ?_
      refine xThenN ?_
      intro ds u hau
      refine ⟨θ, he.put0 hi hau hf rfl 42 rfl rfl, ?_⟩
      exact hc
    · have hf := he.h0
      replace hf := hf.more he 39 rfl (onP e30)
      replace hf := castB hb hf
      replace hf := hf.more he 40 rfl (onP e31)
      replace hf := castCF hb hf
      replace hf := hf.more he 41 rfl (onP e32)
      replace hf := castCF hb hf
      refine stP hf rfl rfl rfl (pNeA ge_24 rfl rfl (eqs_24 _ _ _ _)) fun a hf => ?_
      replace hf := castJ (u := undef) hb hf
      refine cNil ?_
      refine xThenN ?_
      intro ds u hau
      refine ⟨θ, he.put0 hi hau hf rfl 42 rfl rfl, ?_⟩
      exact hc
  · intro E θ a w hD hi hp he hc
    have e30 := hp.of (k := 30) rfl
    have e33 := hp.of (k := 33) rfl
    rcases boolEq (((((((r_1.2 != 0) || (r_3.2.2 != 0)) || (r_8.2 != 0)) || (r_13.2 != 0)) || (!(r_1.1.Lo == r_14.Lo && r_1.1.Hi == r_14.Hi))) || (!r_15)) || (((r_3.2.1.length : Nat) : Int) != 0)) with hb | hb
    · have hf := he.h0
      replace hf := hf.more he 39 rfl (onP e30)
      replace hf := castB hb hf
      replace hf := hf.more he 42 rfl (onP e33)
      replace hf := castCT hb hf
      refine stP hf rfl rfl rfl (pPt rfl rfl) fun a hf => ?_
      replace hf := castV (v' := .bool ((((((((r_1.2 != 0) || (r_3.2.2 != 0)) || (r_8.2 != 0)) || (r_13.2 != 0)) || (!(r_1.1.Lo == r_14.Lo && r_1.1.Hi == r_14.Hi))) || (!r_15)) || (((r_3.2.1.length : Nat) : Int) != 0)) || (!(r_8.1.Lo == r_16.Lo && r_8.1.Hi == r_16.Hi)))) (congrArg Value.bool (orT hb)) hf
      refine cNil ?_
      refine xThenN ?_
      intro ds u hau
      refine ⟨θ, he.put0 hi hau hf rfl 43 rfl rfl, ?_⟩
      exact hc
    · have hf := he.h0
      replace hf := hf.more he 39 rfl (onP e30)
      replace hf := castB hb hf
      replace hf := hf.more he 42 rfl (onP e33)
      replace hf := castCF hb hf
      refine stP hf rfl rfl rfl (pPf rfl rfl) fun a hf => ?_
      replace hf := castV (v' := .bool ((((((((r_1.2 != 0) || (r_3.2.2 != 0)) || (r_8.2 != 0)) || (r_13.2 != 0)) || (!(r_1.1.Lo == r_14.Lo && r_1.1.Hi == r_14.Hi))) || (!r_15)) || (((r_3.2.1.length : Nat) : Int) != 0)) || (!(r_8.1.Lo == r_16.Lo && r_8.1.Hi == r_16.Hi)))) (congrArg Value.bool (orF hb)) hf
      refine cNil ?_
      refine xThenN ?_
      intro ds u hau
      refine ⟨θ, he.put0 hi hau hf rfl 43 rfl rfl, ?_⟩
      exact hc
  · intro E θ a w hD hi hp he hc
    have e34 := hp.of (k := 34) rfl
    have hf := he.h0
    replace hf := hf.more he 43 rfl (onP e34)
    refine stP hf rfl rfl rfl (pM rfl) fun a hf => ?_
    refine cNil ?_
    refine xThenN ?_
    intro ds u hau
    refine ⟨θ, he.put0 hi hau hf rfl 44 rfl rfl, ?_⟩
    exact hc
  · intro E θ a w hD hi hp he hc
    have e35 := hp.of (k := 35) rfl
    rcases boolEq ((((((((r_1.2 != 0) || (r_3.2.2 != 0)) || (r_8.2 != 0)) || (r_13.2 != 0)) || (!(r_1.1.Lo == r_14.Lo && r_1.1.Hi == r_14.Hi))) || (!r_15)) || (((r_3.2.1.length : Nat) : Int) != 0)) || (!(r_8.1.Lo == r_16.Lo && r_8.1.Hi == r_16.Hi))) with hb | hb
    · have hf := he.h0
      replace hf := hf.more he 7 rfl onT
      replace hf := hf.more he 44 rfl (onP e35)
      replace hf := castB hb hf
      refine stS hf rfl rfl rfl fun a hf => ?_
      replace hf := castI (u := .agg #[.int .i64 r_13.1.Lo, .int .i64 r_13.1.Hi]) hb hf
      refine cNil ?_
      refine xThenN ?_
      intro ds u hau
      refine ⟨θ, he.put0 hi hau hf rfl 45 rfl rfl, ?_⟩
      exact hc
    · have hf := he.h0
      replace hf := hf.more he 7 rfl onT
      replace hf := hf.more he 44 rfl (onP e35)
      replace hf := castB hb hf
      refine stE hf hc rfl rfl rfl (eLdN (vs := [.int .i64 r_13.1.Lo, .int .i64 r_13.1.Hi]) ag_24 rfl rfl (cells_box (n := 2) m1 rfl)) fun a w hf hc => ?_
      replace hf := castJ (u := undef) hb hf
      refine cNil ?_
      refine xThenN ?_
      intro ds u hau
      refine ⟨θ, he.put0 hi hau hf rfl 45 rfl rfl, ?_⟩
      exact hc
  · intro E θ a w hD hi hp he hc
    have e35 := hp.of (k := 35) rfl
    rcases boolEq ((((((((r_1.2 != 0) || (r_3.2.2 != 0)) || (r_8.2 != 0)) || (r_13.2 != 0)) || (!(r_1.1.Lo == r_14.Lo && r_1.1.Hi == r_14.Hi))) || (!r_15)) || (((r_3.2.1.length : Nat) : Int) != 0)) || (!(r_8.1.Lo == r_16.Lo && r_8.1.Hi == r_16.Hi))) with hb | hb
    · have hf := he.h0
      replace hf := hf.more he 44 rfl (onP e35)
      replace hf := castB hb hf
      refine stS hf rfl rfl rfl fun a hf => ?_
      replace hf := castI (u := .agg #[.int .i64 r_17.Lo, .int .i64 r_17.Hi]) hb hf
      refine cNil ?_
      refine xThenN ?_
      intro ds u hau
      refine ⟨θ, he.put0 hi hau hf rfl 46 rfl rfl, ?_⟩
      exact hc
    · have hf := he.h0
      replace hf := hf.more he 44 rfl (onP e35)
      replace hf := castB hb hf
      refine stE hf hc rfl rfl rfl (eC (v := .agg #[.int .i64 r_17.Lo, .int .i64 r_17.Hi]) (vs := [.int .i64 449, .int .i64 550]) (caps := []) en_14 rfl rfl rfl rfl (fun w hc => law03_span_ok 449 550 hc (condT (notT hb) hr_17))) fun a w hf hc => ?_
      replace hf := castJ (u := undef) hb hf
      refine cNil ?_
      refine xThenN ?_
      intro ds u hau
      refine ⟨θ, he.put0 hi hau hf rfl 46 rfl rfl, ?_⟩
      exact hc
  · intro E θ a w hD hi hp he hc
    have e35 := hp.of (k := 35) rfl
    have e36 := hp.of (k := 36) rfl
    have e37 := hp.of (k := 37) rfl
    rcases boolEq ((((((((r_1.2 != 0) || (r_3.2.2 != 0)) || (r_8.2 != 0)) || (r_13.2 != 0)) || (!(r_1.1.Lo == r_14.Lo && r_1.1.Hi == r_14.Hi))) || (!r_15)) || (((r_3.2.1.length : Nat) : Int) != 0)) || (!(r_8.1.Lo == r_16.Lo && r_8.1.Hi == r_16.Hi))) with hb | hb
    · have hf := he.h0
      replace hf := hf.more he 44 rfl (onP e35)
      replace hf := castB hb hf
      replace hf := hf.more he 45 rfl (onP e36)
      replace hf := castCT hb hf
      replace hf := hf.more he 46 rfl (onP e37)
      replace hf := castCT hb hf
      refine stS hf rfl rfl rfl fun a hf => ?_
      replace hf := castI (u := .bool (!(r_13.1.Lo == r_17.Lo && r_13.1.Hi == r_17.Hi))) hb hf
      refine cNil ?_
      refine xThenN ?_
      intro ds u hau
      refine ⟨θ, he.put0 hi hau hf rfl 47 rfl rfl, ?_⟩
      exact hc
    · have hf := he.h0
      replace hf := hf.more he 44 rfl (onP e35)
      replace hf := castB hb hf
      replace hf := hf.more he 45 rfl (onP e36)
      replace hf := castCF hb hf
      replace hf := hf.more he 46 rfl (onP e37)
      replace hf := castCF hb hf
      refine stP hf rfl rfl rfl (pNeA ge_24 rfl rfl (eqs_24 _ _ _ _)) fun a hf => ?_
      replace hf := castJ (u := undef) hb hf
      refine cNil ?_
      refine xThenN ?_
      intro ds u hau
      refine ⟨θ, he.put0 hi hau hf rfl 47 rfl rfl, ?_⟩
      exact hc
  · intro E θ a w hD hi hp he hc
    have e35 := hp.of (k := 35) rfl
    have e38 := hp.of (k := 38) rfl
    rcases boolEq ((((((((r_1.2 != 0) || (r_3.2.2 != 0)) || (r_8.2 != 0)) || (r_13.2 != 0)) || (!(r_1.1.Lo == r_14.Lo && r_1.1.Hi == r_14.Hi))) || (!r_15)) || (((r_3.2.1.length : Nat) : Int) != 0)) || (!(r_8.1.Lo == r_16.Lo && r_8.1.Hi == r_16.Hi))) with hb | hb
    · have hf := he.h0
      replace hf := hf.more he 44 rfl (onP e35)
      replace hf := castB hb hf
      replace hf := hf.more he 47 rfl (onP e38)
      replace hf := castCT hb hf
      refine stP hf rfl rfl rfl (pPt rfl rfl) fun a hf => ?_
      replace hf := castV (v' := .bool (((((((((r_1.2 != 0) || (r_3.2.2 != 0)) || (r_8.2 != 0)) || (r_13.2 != 0)) || (!(r_1.1.Lo == r_14.Lo && r_1.1.Hi == r_14.Hi))) || (!r_15)) || (((r_3.2.1.length : Nat) : Int) != 0)) || (!(r_8.1.Lo == r_16.Lo && r_8.1.Hi == r_16.Hi))) || (!(r_13.1.Lo == r_17.Lo && r_13.1.Hi == r_17.Hi)))) (congrArg Value.bool (orT hb)) hf
      refine cNil ?_
      refine xThenN ?_
      intro ds u hau
      refine ⟨θ, he.put0 hi hau hf rfl 48 rfl rfl, ?_⟩
      exact hc
    · have hf := he.h0
      replace hf := hf.more he 44 rfl (onP e35)
      replace hf := castB hb hf
      replace hf := hf.more he 47 rfl (onP e38)
      replace hf := castCF hb hf
      refine stP hf rfl rfl rfl (pPf rfl rfl) fun a hf => ?_
      replace hf := castV (v' := .bool (((((((((r_1.2 != 0) || (r_3.2.2 != 0)) || (r_8.2 != 0)) || (r_13.2 != 0)) || (!(r_1.1.Lo == r_14.Lo && r_1.1.Hi == r_14.Hi))) || (!r_15)) || (((r_3.2.1.length : Nat) : Int) != 0)) || (!(r_8.1.Lo == r_16.Lo && r_8.1.Hi == r_16.Hi))) || (!(r_13.1.Lo == r_17.Lo && r_13.1.Hi == r_17.Hi)))) (congrArg Value.bool (orF hb)) hf
      refine cNil ?_
      refine xThenN ?_
      intro ds u hau
      refine ⟨θ, he.put0 hi hau hf rfl 48 rfl rfl, ?_⟩
      exact hc
  · intro E θ a w hall he hc
    have hf := he.h0
    have e21 := hall 21 rfl
    have e39 := hall 39 rfl
    replace hf := hf.more he 48 rfl (onP e39)
    replace hc : Ctx G ((bif E 21 then (gE (!(((((r_1.2 != 0) || (r_3.2.2 != 0)) || (r_8.2 != 0)) || (r_13.2 != 0)) || (!(r_1.1.Lo == r_14.Lo && r_1.1.Hi == r_14.Hi)))) (.row (some ⟨(θ 168).b, 0, none⟩) 2 (([0, 1] : List Int).map encI_i64) 3 1)) else .row none 0 [] 0 0) :: .box b_5 [.int .i64 r_13.1.Lo, .int .i64 r_13.1.Hi] 24 :: .box b_4 [.int .i64 r_8.1.Lo, .int .i64 r_8.1.Hi] 24 :: .row (some ⟨b_3, 0, none⟩) 1 (([(⟨(⟨0, 0⟩ : api_Span), r_4, r_5, r_6, r_7⟩ : gauge_Leg)] : List gauge_Leg).map enc_gauge_Leg) 40 10 :: .box b_2 [.int .i64 0, .int .i64 0, .int .i64 r_4.Lo, .int .i64 r_4.Hi, .int .i64 r_5.Lo, .int .i64 r_5.Hi, .int .i64 r_6.Lo, .int .i64 r_6.Hi, .int .i64 r_7.Lo, .int .i64 r_7.Hi] 40 :: .row p_2 c_2 (r_2.Verticals.map enc_gauge_Vertical) 61 5 :: .row p_3 c_3 (r_3.1.map encI_i64) 3 1 :: .row p_4 c_4 (r_3.2.1.map encI_i64) 3 1 :: .box b_1 [.int .i64 r_1.1.Lo, .int .i64 r_1.1.Hi] 24 :: .row p_1 c_1 (r.Verticals.map enc_gauge_Vertical) 61 5 :: Lf) w := hc
    rw [e21] at hc
    replace hc := hc.drop k0
    exact ⟨hf.keep ⟨rfl, trivial⟩, hc⟩
  rintro a w ⟨hf, hc⟩
  refine h8 _ _ ?_
  refine cCond (b := (((((((((r_1.2 != 0) || (r_3.2.2 != 0)) || (r_8.2 != 0)) || (r_13.2 != 0)) || (!(r_1.1.Lo == r_14.Lo && r_1.1.Hi == r_14.Hi))) || (!r_15)) || (((r_3.2.1.length : Nat) : Int) != 0)) || (!(r_8.1.Lo == r_16.Lo && r_8.1.Hi == r_16.Hi))) || (!(r_13.1.Lo == r_17.Lo && r_13.1.Hi == r_17.Hi)))) hf rfl (fun hb => ?_) (fun hb => ?_)
  · replace hF := condT hb hF
    clear hb
    refine wp_seq_k fun K9 h9 => ?_
    refine cReg ?_
    refine stP hf rfl rfl rfl (pA rfl) fun a hf => ?_
    refine cNil ?_
    refine h9 _ _ ?_
    refine wp_ret ?_
    refine xThenR ?_
    obtain rfl := Option.some.inj hF
    replace hc := hc.drop k8
    replace hc := hc.drop k7
    replace hc := hc.drop k6
    replace hc := hc.drop k5
    replace hc := hc.drop k4
    replace hc := hc.drop k3
    replace hc := hc.drop k2
    replace hc := hc.drop k1
    replace hc := hc.drop k0
    exact fnOut1 (by simp) rfl Try.results15 hf hc (show look _ 0 = _ from rfl) ⟨rfl, hc⟩
  · replace hF := condF hb hF
    clear hb
    refine wp_skip ?_
    refine h7 _ _ ?_
    refine wp_seq_k fun K10 h10 => ?_
    refine cReg ?_
    refine stP hf rfl rfl rfl (pBuildS (cells := [.int .i64 5, .int .i64 9]) bt_24 rfl rfl) fun a hf => ?_
    refine stP hf rfl rfl rfl (pBuildS (cells := [.int .i64 7, .int .i64 12]) bt_24 rfl rfl) fun a hf => ?_
    refine stP hf rfl rfl rfl (pBuildS (cells := [.int .i64 10, .int .i64 11]) bt_24 rfl rfl) fun a hf => ?_
    refine stBS (rows := ([(⟨5, 9⟩ : api_Span), (⟨7, 12⟩ : api_Span), (⟨10, 11⟩ : api_Span)] : List api_Span).map enc_api_Span) (vs := [(0, .agg #[.int .i64 5, .int .i64 9]), (1, .agg #[.int .i64 7, .int .i64 12]), (2, .agg #[.int .i64 10, .int .i64 11])]) hf hc rfl rfl sl_72 rfl ⟨rfl, rfl, rfl, rfl, rfl, rfl, rfl, rfl, rfl, trivial⟩ rfl rfl fun b_7 a w hf hc => ?_
    refine stP hf rfl rfl rfl (pA rfl) fun a hf => ?_
    refine cNil ?_
    refine h10 _ _ ?_
    refine wp_seq_k fun K11 h11 => ?_
    refine cReg ?_
    refine stP hf rfl rfl rfl (pM rfl) fun a hf => ?_
    obtain ⟨r_18, hr_18, hF⟩ := bnd_some hF
    refine stE hf hc rfl rfl rfl (eC (v := .tuple #[.int .i64 r_18.1, .int .i64 r_18.2.1, .int .i64 r_18.2.2]) (vs := [.slice (some ⟨b_7, 0, none⟩) 3 3]) (caps := []) en_47 rfl rfl rfl rfl (fun w hc => by obtain ⟨G1, hle1, hrd1, hc, hth1⟩ := lend hc k0; exact (gauge_Apart_ok ([(⟨5, 9⟩ : api_Span), (⟨7, 12⟩ : api_Span), (⟨10, 11⟩ : api_Span)] : List api_Span) hrd1 hc hr_18).mono fun e w h => ⟨h.1, ((hth1 _ _ h.2).unpick k0)⟩)) fun a w hf hc => ?_
    refine stP hf rfl rfl rfl (pM rfl) fun a hf => ?_
    refine stP hf rfl rfl rfl (pX rfl rfl) fun a hf => ?_
    refine stP hf rfl rfl rfl (pX rfl rfl) fun a hf => ?_
    refine stP hf rfl rfl rfl (pX rfl rfl) fun a hf => ?_
    refine stP hf rfl rfl rfl (pA rfl) fun a hf => ?_
    refine stP hf rfl rfl rfl (pA rfl) fun a hf => ?_
    refine stP hf rfl rfl rfl (pA rfl) fun a hf => ?_
    refine cNil ?_
    refine h11 _ _ ?_
    refine wp_seq_k fun K12 h12 => ?_
    refine cReg ?_
    refine stP hf rfl rfl rfl (pM rfl) fun a hf => ?_
    have hcp := row_cap hc m0
    obtain ⟨sub, hsub, hF⟩ := bnd_some hF
    refine stP hf rfl rfl rfl (pSl Try.underlying72 sz_24 rfl rfl hcp rfl rfl hsub) fun a hf => ?_
    obtain ⟨r_19, hr_19, hF⟩ := bnd_some hF
    refine stE hf hc rfl rfl rfl (eC (v := .tuple #[.agg #[.int .i64 r_19.1.Lo, .int .i64 r_19.1.Hi], .int .i64 r_19.2]) (vs := [.slice (subP (some ⟨b_7, 0, none⟩) 3 (0 : Int).toNat 2) sub.length (3 - (0 : Int).toNat)]) (caps := []) en_46 rfl rfl rfl rfl (fun w hc => by obtain ⟨G1, hle1, hrd1, hc, hth1⟩ := lend hc k0; exact (gauge_Common_ok sub (Rd.sub hrd1 hsub) hc hr_19).mono fun e w h => ⟨h.1, ((hth1 _ _ h.2).unpick k0)⟩)) fun a w hf hc => ?_
    refine stP hf rfl rfl rfl (pM rfl) fun a hf => ?_
    refine stP hf rfl rfl rfl (pX rfl rfl) fun a hf => ?_
    refine stP hf rfl rfl rfl (pX rfl rfl) fun a hf => ?_
    refine stAl (cs := [.int .i64 0, .int .i64 0]) hf hc rfl rfl zr_24 rfl fun b_8 a w hf hc => ?_
    refine stSt (vs := [.int .i64 r_19.1.Lo, .int .i64 r_19.1.Hi]) hf hc rfl rfl rfl rfl sz_24 rfl rfl u0 fun w hc => ?_
    refine stP hf rfl rfl rfl (pA rfl) fun a hf => ?_
    refine cNil ?_
    refine h12 _ _ ?_
    refine wp_seq_k fun K13 h13 => ?_
    refine cReg ?_
    obtain ⟨r_20, hr_20, hF⟩ := bnd_some hF
    refine stC (vs := []) (caps := []) hf rfl rfl rfl en_54 rfl rfl rfl rfl (law03_Three_ok hc hr_20) ?_
    rintro _ w ⟨p_5, c_5, rfl, hc⟩
    refine ⟨_, rfl, fun a hf => ?_⟩
    obtain ⟨r_21, hr_21, hF⟩ := bnd_some hF
    obtain ⟨G1, hle1, hrd1, hc, hth1⟩ := lend hc k0
    refine stC (vs := [.agg #[.int .i64 r_20.Left, .int .i64 r_20.Right, .int .i64 r_20.Gap, .int .i64 r_20.Step_, .slice p_5 r_20.Points.length c_5]]) (caps := []) hf rfl rfl rfl en_29 rfl rfl rfl rfl (gauge_Plan_ok r_20 hrd1 hc hr_21) ?_
    rintro _ w ⟨p_6, c_6, rfl, hc⟩
    refine ⟨_, rfl, fun a hf => ?_⟩
    replace hc := hth1 _ _ hc
    refine stP hf rfl rfl rfl (pM rfl) fun a hf => ?_
    refine stP hf rfl rfl rfl (pX rfl rfl) fun a hf => ?_
    refine stP hf rfl rfl rfl (pX rfl rfl) fun a hf => ?_
    refine stP hf rfl rfl rfl (pX rfl rfl) fun a hf => ?_
    refine stP hf rfl rfl rfl (pA rfl) fun a hf => ?_
    refine stP hf rfl rfl rfl (pA rfl) fun a hf => ?_
    refine stP hf rfl rfl rfl (pA rfl) fun a hf => ?_
    refine cNil ?_
    refine h13 _ _ ?_
    refine wp_seq_k fun K14 h14 => ?_
    refine cReg ?_
    obtain ⟨r_22, hr_22, hF⟩ := bnd_some hF
    refine stC (vs := []) (caps := []) hf rfl rfl rfl en_54 rfl rfl rfl rfl (law03_Three_ok hc hr_22) ?_
    rintro _ w ⟨p_7, c_7, rfl, hc⟩
    refine ⟨_, rfl, fun a hf => ?_⟩
    refine stBS (rows := ([0, 2, 3, 6, 6] : List Int).map encI_i64) (vs := [(0, .int .i64 0), (1, .int .i64 2), (2, .int .i64 3), (3, .int .i64 6), (4, .int .i64 6)]) hf hc rfl rfl sl_43 rfl ⟨rfl, rfl, rfl, rfl, rfl, rfl, rfl, rfl, rfl, rfl, rfl, rfl, rfl, rfl, rfl, trivial⟩ rfl rfl fun b_9 a w hf hc => ?_
    obtain ⟨r_23, hr_23, hF⟩ := bnd_some hF
    refine stE hf hc rfl rfl rfl (eC (v := .tuple #[.bool r_23.1, .int .i64 r_23.2]) (vs := [.agg #[.int .i64 r_22.Left, .int .i64 r_22.Right, .int .i64 r_22.Gap, .int .i64 r_22.Step_, .slice p_7 r_22.Points.length c_7], .slice (some ⟨b_9, 0, none⟩) 5 5, .int .i64 6]) (caps := []) en_44 rfl rfl rfl rfl (fun w hc => by obtain ⟨G1, hle1, hrd1, hc, hth1⟩ := lend hc k1; obtain ⟨G2, hle2, hrd2, hc, hth2⟩ := lend hc k0; exact (gauge_Proves_ok r_22 ([0, 2, 3, 6, 6] : List Int) 6 (hrd1.mono hle2) hrd2 hc hr_23).mono fun e w h => ⟨h.1, ((hth1 _ _ ((hth2 _ _ h.2).unpick k0)).unpick k1)⟩)) fun a w hf hc => ?_
    refine stP hf rfl rfl rfl (pM rfl) fun a hf => ?_
    refine stP hf rfl rfl rfl (pX rfl rfl) fun a hf => ?_
    refine stP hf rfl rfl rfl (pX rfl rfl) fun a hf => ?_
    refine stP hf rfl rfl rfl (pA rfl) fun a hf => ?_
    refine stP hf rfl rfl rfl (pA rfl) fun a hf => ?_
    refine cNil ?_
    refine h14 _ _ ?_
    refine wp_seq_k fun K15 h15 => ?_
    obtain ⟨r_24, hr_24, hF⟩ := bnd_some hF
    obtain ⟨r_25, hr_25, hF⟩ := bnd_some hF
    replace hc := hc.nilRow 0 0
    refine regionE (fun θ => (⟨none, none, 2, .int .i64 r_18.2.2⟩ :: ⟨none, none, 5, .int .i64 r_19.2⟩ :: ⟨none, none, 8, .int .i64 r_21.2.2⟩ :: ⟨none, none, 10, .int .i64 r_23.2⟩ :: ⟨none, none, 12, .int .i64 r_18.1⟩ :: ⟨none, none, 13, .int .i64 r_18.2.1⟩ :: ⟨none, none, 14, .pointer (some ⟨b_8, 0, none⟩)⟩ :: ⟨none, none, 15, .slice p_6 r_21.1.length c_6⟩ :: ⟨none, none, 16, .int .i64 r_21.2.1⟩ :: ⟨none, none, 17, .bool r_23.1⟩ :: ⟨some 0, none, 117, .int .i64 r_18.2.2⟩ :: ⟨some 1, none, 118, .bool (r_18.2.2 == 0)⟩ :: ⟨some 2, none, 119, .bool (r_18.2.2 == 0)⟩ :: ⟨some 3, none, 120, (bif (r_18.2.2 == 0) then .int .i64 r_19.2 else undef)⟩ :: ⟨some 4, none, 121, (bif (r_18.2.2 == 0) then .bool (r_19.2 == 0) else undef)⟩ :: ⟨some 5, none, 122, .bool ((r_18.2.2 == 0) && (r_19.2 == 0))⟩ :: ⟨some 6, none, 123, .bool ((r_18.2.2 == 0) && (r_19.2 == 0))⟩ :: ⟨some 7, none, 124, (bif ((r_18.2.2 == 0) && (r_19.2 == 0)) then .int .i64 r_21.2.2 else undef)⟩ :: ⟨some 8, none, 125, (bif ((r_18.2.2 == 0) && (r_19.2 == 0)) then .bool (r_21.2.2 == 0) else undef)⟩ :: ⟨some 9, none, 126, .bool (((r_18.2.2 == 0) && (r_19.2 == 0)) && (r_21.2.2 == 0))⟩ :: ⟨some 10, none, 127, .bool (((r_18.2.2 == 0) && (r_19.2 == 0)) && (r_21.2.2 == 0))⟩ :: ⟨some 11, none, 128, (bif (((r_18.2.2 == 0) && (r_19.2 == 0)) && (r_21.2.2 == 0)) then .int .i64 r_23.2 else undef)⟩ :: ⟨some 12, none, 129, (bif (((r_18.2.2 == 0) && (r_19.2 == 0)) && (r_21.2.2 == 0)) then .bool (r_23.2 == 0) else undef)⟩ :: ⟨some 13, none, 130, .bool ((((r_18.2.2 == 0) && (r_19.2 == 0)) && (r_21.2.2 == 0)) && (r_23.2 == 0))⟩ :: ⟨some 14, none, 131, .bool ((((r_18.2.2 == 0) && (r_19.2 == 0)) && (r_21.2.2 == 0)) && (r_23.2 == 0))⟩ :: ⟨some 15, none, 132, (bif ((((r_18.2.2 == 0) && (r_19.2 == 0)) && (r_21.2.2 == 0)) && (r_23.2 == 0)) then .int .i64 r_18.1 else undef)⟩ :: ⟨some 16, none, 133, (bif ((((r_18.2.2 == 0) && (r_19.2 == 0)) && (r_21.2.2 == 0)) && (r_23.2 == 0)) then .bool (r_18.1 == 0) else undef)⟩ :: ⟨some 17, none, 134, .bool (((((r_18.2.2 == 0) && (r_19.2 == 0)) && (r_21.2.2 == 0)) && (r_23.2 == 0)) && (r_18.1 == 0))⟩ :: ⟨some 18, none, 135, .bool (((((r_18.2.2 == 0) && (r_19.2 == 0)) && (r_21.2.2 == 0)) && (r_23.2 == 0)) && (r_18.1 == 0))⟩ :: ⟨some 19, none, 136, (bif (((((r_18.2.2 == 0) && (r_19.2 == 0)) && (r_21.2.2 == 0)) && (r_23.2 == 0)) && (r_18.1 == 0)) then .int .i64 r_18.2.1 else undef)⟩ :: ⟨some 20, none, 137, (bif (((((r_18.2.2 == 0) && (r_19.2 == 0)) && (r_21.2.2 == 0)) && (r_23.2 == 0)) && (r_18.1 == 0)) then .bool (r_18.2.1 == 2) else undef)⟩ :: ⟨some 21, none, 138, .bool ((((((r_18.2.2 == 0) && (r_19.2 == 0)) && (r_21.2.2 == 0)) && (r_23.2 == 0)) && (r_18.1 == 0)) && (r_18.2.1 == 2))⟩ :: ⟨some 22, none, 139, .bool ((((((r_18.2.2 == 0) && (r_19.2 == 0)) && (r_21.2.2 == 0)) && (r_23.2 == 0)) && (r_18.1 == 0)) && (r_18.2.1 == 2))⟩ :: ⟨some 23, none, 140, (bif ((((((r_18.2.2 == 0) && (r_19.2 == 0)) && (r_21.2.2 == 0)) && (r_23.2 == 0)) && (r_18.1 == 0)) && (r_18.2.1 == 2)) then .agg #[.int .i64 r_19.1.Lo, .int .i64 r_19.1.Hi] else undef)⟩ :: ⟨some 24, none, 141, (bif ((((((r_18.2.2 == 0) && (r_19.2 == 0)) && (r_21.2.2 == 0)) && (r_23.2 == 0)) && (r_18.1 == 0)) && (r_18.2.1 == 2)) then .agg #[.int .i64 r_24.Lo, .int .i64 r_24.Hi] else undef)⟩ :: ⟨some 25, none, 142, (bif ((((((r_18.2.2 == 0) && (r_19.2 == 0)) && (r_21.2.2 == 0)) && (r_23.2 == 0)) && (r_18.1 == 0)) && (r_18.2.1 == 2)) then .bool (r_19.1.Lo == r_24.Lo && r_19.1.Hi == r_24.Hi) else undef)⟩ :: ⟨some 26, none, 143, .bool (((((((r_18.2.2 == 0) && (r_19.2 == 0)) && (r_21.2.2 == 0)) && (r_23.2 == 0)) && (r_18.1 == 0)) && (r_18.2.1 == 2)) && (r_19.1.Lo == r_24.Lo && r_19.1.Hi == r_24.Hi))⟩ :: ⟨some 27, none, 144, .bool (((((((r_18.2.2 == 0) && (r_19.2 == 0)) && (r_21.2.2 == 0)) && (r_23.2 == 0)) && (r_18.1 == 0)) && (r_18.2.1 == 2)) && (r_19.1.Lo == r_24.Lo && r_19.1.Hi == r_24.Hi))⟩ :: ⟨some 28, none, 145, (bif (((((((r_18.2.2 == 0) && (r_19.2 == 0)) && (r_21.2.2 == 0)) && (r_23.2 == 0)) && (r_18.1 == 0)) && (r_18.2.1 == 2)) && (r_19.1.Lo == r_24.Lo && r_19.1.Hi == r_24.Hi)) then .slice p_6 r_21.1.length c_6 else undef)⟩ :: ⟨some 29, none, 146, (bif (((((((r_18.2.2 == 0) && (r_19.2 == 0)) && (r_21.2.2 == 0)) && (r_23.2 == 0)) && (r_18.1 == 0)) && (r_18.2.1 == 2)) && (r_19.1.Lo == r_24.Lo && r_19.1.Hi == r_24.Hi)) then .slice (some ⟨(θ 232).b, 0, none⟩) 2 2 else undef)⟩ :: ⟨some 30, none, 147, (bif (((((((r_18.2.2 == 0) && (r_19.2 == 0)) && (r_21.2.2 == 0)) && (r_23.2 == 0)) && (r_18.1 == 0)) && (r_18.2.1 == 2)) && (r_19.1.Lo == r_24.Lo && r_19.1.Hi == r_24.Hi)) then .bool r_25 else undef)⟩ :: ⟨some 31, none, 148, .bool ((((((((r_18.2.2 == 0) && (r_19.2 == 0)) && (r_21.2.2 == 0)) && (r_23.2 == 0)) && (r_18.1 == 0)) && (r_18.2.1 == 2)) && (r_19.1.Lo == r_24.Lo && r_19.1.Hi == r_24.Hi)) && r_25)⟩ :: ⟨some 32, none, 149, .bool ((((((((r_18.2.2 == 0) && (r_19.2 == 0)) && (r_21.2.2 == 0)) && (r_23.2 == 0)) && (r_18.1 == 0)) && (r_18.2.1 == 2)) && (r_19.1.Lo == r_24.Lo && r_19.1.Hi == r_24.Hi)) && r_25)⟩ :: ⟨some 33, none, 150, (bif ((((((((r_18.2.2 == 0) && (r_19.2 == 0)) && (r_21.2.2 == 0)) && (r_23.2 == 0)) && (r_18.1 == 0)) && (r_18.2.1 == 2)) && (r_19.1.Lo == r_24.Lo && r_19.1.Hi == r_24.Hi)) && r_25) then .int .i64 r_21.2.1 else undef)⟩ :: ⟨some 34, none, 151, (bif ((((((((r_18.2.2 == 0) && (r_19.2 == 0)) && (r_21.2.2 == 0)) && (r_23.2 == 0)) && (r_18.1 == 0)) && (r_18.2.1 == 2)) && (r_19.1.Lo == r_24.Lo && r_19.1.Hi == r_24.Hi)) && r_25) then .bool (r_21.2.1 == 6) else undef)⟩ :: ⟨some 35, none, 152, .bool (((((((((r_18.2.2 == 0) && (r_19.2 == 0)) && (r_21.2.2 == 0)) && (r_23.2 == 0)) && (r_18.1 == 0)) && (r_18.2.1 == 2)) && (r_19.1.Lo == r_24.Lo && r_19.1.Hi == r_24.Hi)) && r_25) && (r_21.2.1 == 6))⟩ :: ⟨some 36, none, 153, .bool (((((((((r_18.2.2 == 0) && (r_19.2 == 0)) && (r_21.2.2 == 0)) && (r_23.2 == 0)) && (r_18.1 == 0)) && (r_18.2.1 == 2)) && (r_19.1.Lo == r_24.Lo && r_19.1.Hi == r_24.Hi)) && r_25) && (r_21.2.1 == 6))⟩ :: ⟨some 37, none, 154, (bif (((((((((r_18.2.2 == 0) && (r_19.2 == 0)) && (r_21.2.2 == 0)) && (r_23.2 == 0)) && (r_18.1 == 0)) && (r_18.2.1 == 2)) && (r_19.1.Lo == r_24.Lo && r_19.1.Hi == r_24.Hi)) && r_25) && (r_21.2.1 == 6)) then .bool r_23.1 else undef)⟩ :: ⟨some 38, none, 155, .bool ((((((((((r_18.2.2 == 0) && (r_19.2 == 0)) && (r_21.2.2 == 0)) && (r_23.2 == 0)) && (r_18.1 == 0)) && (r_18.2.1 == 2)) && (r_19.1.Lo == r_24.Lo && r_19.1.Hi == r_24.Hi)) && r_25) && (r_21.2.1 == 6)) && r_23.1)⟩ :: ⟨some 39, none, 0, .bool ((((((((((r_18.2.2 == 0) && (r_19.2 == 0)) && (r_21.2.2 == 0)) && (r_23.2 == 0)) && (r_18.1 == 0)) && (r_18.2.1 == 2)) && (r_19.1.Lo == r_24.Lo && r_19.1.Hi == r_24.Hi)) && r_25) && (r_21.2.1 == 6)) && r_23.1)⟩ :: [])) (fun E θ => (bif E 29 then (gE (((((((r_18.2.2 == 0) && (r_19.2 == 0)) && (r_21.2.2 == 0)) && (r_23.2 == 0)) && (r_18.1 == 0)) && (r_18.2.1 == 2)) && (r_19.1.Lo == r_24.Lo && r_19.1.Hi == r_24.Hi)) (.row (some ⟨(θ 232).b, 0, none⟩) 2 (([1, 3] : List Int).map encI_i64) 3 1)) else .row none 0 [] 0 0) :: .row (some ⟨b_9, 0, none⟩) 5 (([0, 2, 3, 6, 6] : List Int).map encI_i64) 3 1 :: .row p_7 c_7 (r_22.Points.map enc_gauge_Point) 64 3 :: .row p_5 c_5 (r_20.Points.map enc_gauge_Point) 64 3 :: .row p_6 c_6 (r_21.1.map encI_i64) 3 1 :: .box b_8 [.int .i64 r_19.1.Lo, .int .i64 r_19.1.Hi] 24 :: .row (some ⟨b_7, 0, none⟩) 3 (([(⟨5, 9⟩ : api_Span), (⟨7, 12⟩ : api_Span), (⟨10, 11⟩ : api_Span)] : List api_Span).map enc_api_Span) 24 2 :: .box b_5 [.int .i64 r_13.1.Lo, .int .i64 r_13.1.Hi] 24 :: .box b_4 [.int .i64 r_8.1.Lo, .int .i64 r_8.1.Hi] 24 :: .row (some ⟨b_3, 0, none⟩) 1 (([(⟨(⟨0, 0⟩ : api_Span), r_4, r_5, r_6, r_7⟩ : gauge_Leg)] : List gauge_Leg).map enc_gauge_Leg) 40 10 :: .box b_2 [.int .i64 0, .int .i64 0, .int .i64 r_4.Lo, .int .i64 r_4.Hi, .int .i64 r_5.Lo, .int .i64 r_5.Hi, .int .i64 r_6.Lo, .int .i64 r_6.Hi, .int .i64 r_7.Lo, .int .i64 r_7.Hi] 40 :: .row p_2 c_2 (r_2.Verticals.map enc_gauge_Vertical) 61 5 :: .row p_3 c_3 (r_3.1.map encI_i64) 3 1 :: .row p_4 c_4 (r_3.2.1.map encI_i64) 3 1 :: .box b_1 [.int .i64 r_1.1.Lo, .int .i64 r_1.1.Hi] 24 :: .row p_1 c_1 (r.Verticals.map enc_gauge_Vertical) 61 5 :: Lf) [] (fun a w => Has 156 a [(0, .bool ((((((((((r_18.2.2 == 0) && (r_19.2 == 0)) && (r_21.2.2 == 0)) && (r_23.2 == 0)) && (r_18.1 == 0)) && (r_18.2.1 == 2)) && (r_19.1.Lo == r_24.Lo && r_19.1.Hi == r_24.Hi)) && r_25) && (r_21.2.1 == 6)) && r_23.1))] ∧ Ctx G (.row (some ⟨b_9, 0, none⟩) 5 (([0, 2, 3, 6, 6] : List Int).map encI_i64) 3 1 :: .row p_7 c_7 (r_22.Points.map enc_gauge_Point) 64 3 :: .row p_5 c_5 (r_20.Points.map enc_gauge_Point) 64 3 :: .row p_6 c_6 (r_21.1.map encI_i64) 3 1 :: .box b_8 [.int .i64 r_19.1.Lo, .int .i64 r_19.1.Hi] 24 :: .row (some ⟨b_7, 0, none⟩) 3 (([(⟨5, 9⟩ : api_Span), (⟨7, 12⟩ : api_Span), (⟨10, 11⟩ : api_Span)] : List api_Span).map enc_api_Span) 24 2 :: .box b_5 [.int .i64 r_13.1.Lo, .int .i64 r_13.1.Hi] 24 :: .box b_4 [.int .i64 r_8.1.Lo, .int .i64 r_8.1.Hi] 24 :: .row (some ⟨b_3, 0, none⟩) 1 (([(⟨(⟨0, 0⟩ : api_Span), r_4, r_5, r_6, r_7⟩ : gauge_Leg)] : List gauge_Leg).map enc_gauge_Leg) 40 10 :: .box b_2 [.int .i64 0, .int .i64 0, .int .i64 r_4.Lo, .int .i64 r_4.Hi, .int .i64 r_5.Lo, .int .i64 r_5.Hi, .int .i64 r_6.Lo, .int .i64 r_6.Hi, .int .i64 r_7.Lo, .int .i64 r_7.Hi] 40 :: .row p_2 c_2 (r_2.Verticals.map enc_gauge_Vertical) 61 5 :: .row p_3 c_3 (r_3.1.map encI_i64) 3 1 :: .row p_4 c_4 (r_3.2.1.map encI_i64) 3 1 :: .box b_1 [.int .i64 r_1.1.Lo, .int .i64 r_1.1.Hi] 24 :: .row p_1 c_1 (r.Verticals.map enc_gauge_Vertical) 61 5 :: Lf) w) follows_mx (by kernel_rfl) (by kernel_rfl) (HasE.of hf ⟨rfl, rfl, rfl, rfl, rfl, rfl, rfl, rfl, rfl, rfl, trivial, trivial, trivial, trivial, trivial, trivial, trivial, trivial, trivial, trivial, trivial, trivial, trivial, trivial, trivial, trivial, trivial, trivial, trivial, trivial, trivial, trivial, trivial, trivial, trivial, trivial, trivial, trivial, trivial, trivial, trivial, trivial, trivial, trivial, trivial, trivial, trivial, trivial, trivial, trivial, trivial⟩) hc ⟨?_, ?_, ?_, ?_, ?_, ?_, ?_, ?_, ?_, ?_, ?_, ?_, ?_, ?_, ?_, ?_, ?_, ?_, ?_, ?_, ?_, ?_, ?_, ?_, ?_, ?_, ?_, ?_, ?_, ?_, ?_, ?_, ?_, ?_, ?_, ?_, ?_, ?_, ?_, ?_, trivial⟩ ?_ ?_
    · intro E θ a w hD hi hp he hc
      have hf := he.h0
      replace hf := hf.more he 0 rfl onT
      refine stP hf rfl rfl rfl (pM rfl) fun a hf => ?_
      refine cNil ?_
      refine xThenN ?_
      intro ds u hau
      refine ⟨θ, he.put0 hi hau hf rfl 10 rfl rfl, ?_⟩
      exact hc
    · intro E θ a w hD hi hp he hc
      have e0 := hp.of (k := 0) rfl
      have hf := he.h0
      replace hf := hf.more he 10 rfl (onP e0)
      refine stP hf rfl rfl rfl (pEq rfl rfl) fun a hf => ?_
      refine cNil ?_
      refine xThenN ?_
      intro ds u hau
      refine ⟨θ, he.put0 hi hau hf rfl 11 rfl rfl, ?_⟩
      exact hc
    · intro E θ a w hD hi hp he hc
      have e1 := hp.of (k := 1) rfl
      have hf := he.h0
      replace hf := hf.more he 11 rfl (onP e1)
      refine stP hf rfl rfl rfl (pM rfl) fun a hf => ?_
      refine cNil ?_
      refine xThenN ?_
      intro ds u hau
      refine ⟨θ, he.put0 hi hau hf rfl 12 rfl rfl, ?_⟩
      exact hc
    · intro E θ a w hD hi hp he hc
      have e2 := hp.of (k := 2) rfl
      rcases boolEq (r_18.2.2 == 0) with hb | hb
      · have hf := he.h0
        replace hf := hf.more he 1 rfl onT
        replace hf := hf.more he 12 rfl (onP e2)
        replace hf := castB hb hf
        refine stP hf rfl rfl rfl (pM rfl) fun a hf => ?_
        replace hf := castI (u := undef) hb hf
        refine cNil ?_
        refine xThenN ?_
        intro ds u hau
        refine ⟨θ, he.put0 hi hau hf rfl 13 rfl rfl, ?_⟩
        exact hc
      · have hf := he.h0
        replace hf := hf.more he 1 rfl onT
        replace hf := hf.more he 12 rfl (onP e2)
        replace hf := castB hb hf
        refine stS hf rfl rfl rfl fun a hf => ?_
        replace hf := castJ (u := .int .i64 r_19.2) hb hf
        refine cNil ?_
        refine xThenN ?_
        intro ds u hau
        refine ⟨θ, he.put0 hi hau hf rfl 13 rfl rfl, ?_⟩
        exact hc
    · intro E θ a w hD hi hp he hc
      have e2 := hp.of (k := 2) rfl
      have e3 := hp.of (k := 3) rfl
      rcases boolEq (r_18.2.2 == 0) with hb | hb
      · have hf := he.h0
        replace hf := hf.more he 12 rfl (onP e2)
        replace hf := castB hb hf
        replace hf := hf.more he 13 rfl (onP e3)
        replace hf := castCT hb hf
        refine stP hf rfl rfl rfl (pEq rfl rfl) fun a hf => ?_
        replace hf := castI (u := undef) hb hf
        refine cNil ?_
        refine xThenN ?_
        intro ds u hau
        refine ⟨θ, he.put0 hi hau hf rfl 14 rfl rfl, ?_⟩
        exact hc
      · have hf := he.h0
        replace hf := hf.more he 12 rfl (onP e2)
        replace hf := castB hb hf
        replace hf := hf.more he 13 rfl (onP e3)
        replace hf := castCF hb hf
        refine stS hf rfl rfl rfl fun a hf => ?_
        replace hf := castJ (u := .bool (r_19.2 == 0)) hb hf
        refine cNil ?_
        refine xThenN ?_
        intro ds u hau
        refine ⟨θ, he.put0 hi hau hf rfl 14 rfl rfl, ?_⟩
        exact hc
    · intro E θ a w hD hi hp he hc
      have e2 := hp.of (k := 2) rfl
      have e4 := hp.of (k := 4) rfl
      rcases boolEq (r_18.2.2 == 0) with hb | hb
      · have hf := he.h0
        replace hf := hf.more he 12 rfl (onP e2)
        replace hf := castB hb hf
        replace hf := hf.more he 14 rfl (onP e4)
        replace hf := castCT hb hf
        refine stP hf rfl rfl rfl (pPt rfl rfl) fun a hf => ?_
        replace hf := castV (v' := .bool ((r_18.2.2 == 0) && (r_19.2 == 0))) (congrArg Value.bool (andT hb)) hf
        refine cNil ?_
        refine xThenN ?_
        intro ds u hau
        refine ⟨θ, he.put0 hi hau hf rfl 15 rfl rfl, ?_⟩
        exact hc
      · have hf := he.h0
        replace hf := hf.more he 12 rfl (onP e2)
        replace hf := castB hb hf
        replace hf := hf.more he 14 rfl (onP e4)
        replace hf := castCF hb hf
        refine stP hf rfl rfl rfl (pPf rfl rfl) fun a hf => ?_
        replace hf := castV (v' := .bool ((r_18.2.2 == 0) && (r_19.2 == 0))) (congrArg Value.bool (andF hb)) hf
        refine cNil ?_
        refine xThenN ?_
        intro ds u hau
        refine ⟨θ, he.put0 hi hau hf rfl 15 rfl rfl, ?_⟩
        exact hc
    · intro E θ a w hD hi hp he hc
      have e5 := hp.of (k := 5) rfl
      have hf := he.h0
      replace hf := hf.more he 15 rfl (onP e5)
      refine stP hf rfl rfl rfl (pM rfl) fun a hf => ?_
      refine cNil ?_
      refine xThenN ?_
      intro ds u hau
      refine ⟨θ, he.put0 hi hau hf rfl 16 rfl rfl, ?_⟩
      exact hc
    · intro E θ a w hD hi hp he hc
      have e6 := hp.of (k := 6) rfl
      rcases boolEq ((r_18.2.2 == 0) && (r_19.2 == 0)) with hb | hb
      · have hf := he.h0
        replace hf := hf.more he 2 rfl onT
        replace hf := hf.more he 16 rfl (onP e6)
        replace hf := castB hb hf
        refine stP hf rfl rfl rfl (pM rfl) fun a hf => ?_
        replace hf := castI (u := undef) hb hf
        refine cNil ?_
        refine xThenN ?_
        intro ds u hau
        refine ⟨θ, he.put0 hi hau hf rfl 17 rfl rfl, ?_⟩
        exact hc
      · have hf := he.h0
        replace hf := hf.more he 2 rfl onT
        replace hf := hf.more he 16 rfl (onP e6)
        replace hf := castB hb hf
        refine stS hf rfl rfl rfl fun a hf => ?_
        replace hf := castJ (u := .int .i64 r_21.2.2) hb hf
        refine cNil ?_
        refine xThenN ?_
        intro ds u hau
        refine ⟨θ, he.put0 hi hau hf rfl 17 rfl rfl, ?_⟩
        exact hc
    · intro E θ a w hD hi hp he hc
      have e6 := hp.of (k := 6) rfl
      have e7 := hp.of (k := 7) rfl
      rcases boolEq ((r_18.2.2 == 0) && (r_19.2 == 0)) with hb | hb
      · have hf := he.h0
        replace hf := hf.more he 16 rfl (onP e6)
        replace hf := castB hb hf
        replace hf := hf.more he 17 rfl (onP e7)
        replace hf := castCT hb hf
        refine stP hf rfl rfl rfl (pEq rfl rfl) fun a hf => ?_
        replace hf := castI (u := undef) hb hf
        refine cNil ?_
        refine xThenN ?_
        intro ds u hau
        refine ⟨θ, he.put0 hi hau hf rfl 18 rfl rfl, ?_⟩
        exact hc
      · have hf := he.h0
        replace hf := hf.more he 16 rfl (onP e6)
        replace hf := castB hb hf
        replace hf := hf.more he 17 rfl (onP e7)
        replace hf := castCF hb hf
        refine stS hf rfl rfl rfl fun a hf => ?_
        replace hf := castJ (u := .bool (r_21.2.2 == 0)) hb hf
        refine cNil ?_
        refine xThenN ?_
        intro ds u hau
        refine ⟨θ, he.put0 hi hau hf rfl 18 rfl rfl, ?_⟩
        exact hc
    · intro E θ a w hD hi hp he hc
      have e6 := hp.of (k := 6) rfl
      have e8 := hp.of (k := 8) rfl
      rcases boolEq ((r_18.2.2 == 0) && (r_19.2 == 0)) with hb | hb
      · have hf := he.h0
        replace hf := hf.more he 16 rfl (onP e6)
        replace hf := castB hb hf
        replace hf := hf.more he 18 rfl (onP e8)
        replace hf := castCT hb hf
        refine stP hf rfl rfl rfl (pPt rfl rfl) fun a hf => ?_
        replace hf := castV (v' := .bool (((r_18.2.2 == 0) && (r_19.2 == 0)) && (r_21.2.2 == 0))) (congrArg Value.bool (andT hb)) hf
        refine cNil ?_
        refine xThenN ?_
        intro ds u hau
        refine ⟨θ, he.put0 hi hau hf rfl 19 rfl rfl, ?_⟩
        exact hc
      · have hf := he.h0
        replace hf := hf.more he 16 rfl (onP e6)
        replace hf := castB hb hf
        replace hf := hf.more he 18 rfl (onP e8)
        replace hf := castCF hb hf
        refine stP hf rfl rfl rfl (pPf rfl rfl) fun a hf => ?_
        replace hf := castV (v' := .bool (((r_18.2.2 == 0) && (r_19.2 == 0)) && (r_21.2.2 == 0))) (congrArg Value.bool (andF hb)) hf
        refine cNil ?_
        refine xThenN ?_
        intro ds u hau
        refine ⟨θ, he.put0 hi hau hf rfl 19 rfl rfl, ?_⟩
        exact hc
    · intro E θ a w hD hi hp he hc
      have e9 := hp.of (k := 9) rfl
      have hf := he.h0
      replace hf := hf.more he 19 rfl (onP e9)
      refine stP hf rfl rfl rfl (pM rfl) fun a hf => ?_
      refine cNil ?_
      refine xThenN ?_
      intro ds u hau
      refine ⟨θ, he.put0 hi hau hf rfl 20 rfl rfl, ?_⟩
      exact hc
    · intro E θ a w hD hi hp he hc
      have e10 := hp.of (k := 10) rfl
      rcases boolEq (((r_18.2.2 == 0) && (r_19.2 == 0)) && (r_21.2.2 == 0)) with hb | hb
      · have hf := he.h0
        replace hf := hf.more he 3 rfl onT
        replace hf := hf.more he 20 rfl (onP e10)
        replace hf := castB hb hf
        refine stP hf rfl rfl rfl (pM rfl) fun a hf => ?_
        replace hf := castI (u := undef) hb hf
        refine cNil ?_
        refine xThenN ?_
        intro ds u hau
        refine ⟨θ, he.put0 hi hau hf rfl 21 rfl rfl, ?_⟩
        exact hc
      · have hf := he.h0
        replace hf := hf.more he 3 rfl onT
        replace hf := hf.more he 20 rfl (onP e10)
        replace hf := castB hb hf
        refine stS hf rfl rfl rfl fun a hf => ?_
        replace hf := castJ (u := .int .i64 r_23.2) hb hf
        refine cNil ?_
        refine xThenN ?_
        intro ds u hau
        refine ⟨θ, he.put0 hi hau hf rfl 21 rfl rfl, ?_⟩
        exact hc
    · intro E θ a w hD hi hp he hc
      have e10 := hp.of (k := 10) rfl
      have e11 := hp.of (k := 11) rfl
      rcases boolEq (((r_18.2.2 == 0) && (r_19.2 == 0)) && (r_21.2.2 == 0)) with hb | hb
      · have hf := he.h0
        replace hf := hf.more he 20 rfl (onP e10)
        replace hf := castB hb hf
        replace hf := hf.more he 21 rfl (onP e11)
        replace hf := castCT hb hf
        refine stP hf rfl rfl rfl (pEq rfl rfl) fun a hf => ?_
        replace hf := castI (u := undef) hb hf
        refine cNil ?_
        refine xThenN ?_
        intro ds u hau
        refine ⟨θ, he.put0 hi hau hf rfl 22 rfl rfl, ?_⟩
        exact hc
      · have hf := he.h0
        replace hf := hf.more he 20 rfl (onP e10)
        replace hf := castB hb hf
        replace hf := hf.more he 21 rfl (onP e11)
        replace hf := castCF hb hf
        refine stS hf rfl rfl rfl fun a hf => ?_
        replace hf := castJ (u := .bool (r_23.2 == 0)) hb hf
        refine cNil ?_
        refine xThenN ?_
        intro ds u hau
        refine ⟨θ, he.put0 hi hau hf rfl 22 rfl rfl, ?_⟩
        exact hc
    · intro E θ a w hD hi hp he hc
      have e10 := hp.of (k := 10) rfl
      have e12 := hp.of (k := 12) rfl
      rcases boolEq (((r_18.2.2 == 0) && (r_19.2 == 0)) && (r_21.2.2 == 0)) with hb | hb
      · have hf := he.h0
        replace hf := hf.more he 20 rfl (onP e10)
        replace hf := castB hb hf
        replace hf := hf.more he 22 rfl (onP e12)
        replace hf := castCT hb hf
        refine stP hf rfl rfl rfl (pPt rfl rfl) fun a hf => ?_
        replace hf := castV (v' := .bool ((((r_18.2.2 == 0) && (r_19.2 == 0)) && (r_21.2.2 == 0)) && (r_23.2 == 0))) (congrArg Value.bool (andT hb)) hf
        refine cNil ?_
        refine xThenN ?_
        intro ds u hau
        refine ⟨θ, he.put0 hi hau hf rfl 23 rfl rfl, ?_⟩
        exact hc
      · have hf := he.h0
        replace hf := hf.more he 20 rfl (onP e10)
        replace hf := castB hb hf
        replace hf := hf.more he 22 rfl (onP e12)
        replace hf := castCF hb hf
        refine stP hf rfl rfl rfl (pPf rfl rfl) fun a hf => ?_
        replace hf := castV (v' := .bool ((((r_18.2.2 == 0) && (r_19.2 == 0)) && (r_21.2.2 == 0)) && (r_23.2 == 0))) (congrArg Value.bool (andF hb)) hf
        refine cNil ?_
        refine xThenN ?_
        intro ds u hau
        refine ⟨θ, he.put0 hi hau hf rfl 23 rfl rfl, ?_⟩
        exact hc
    · intro E θ a w hD hi hp he hc
      have e13 := hp.of (k := 13) rfl
      have hf := he.h0
      replace hf := hf.more he 23 rfl (onP e13)
      refine stP hf rfl rfl rfl (pM rfl) fun a hf => ?_
      refine cNil ?_
      refine xThenN ?_
      intro ds u hau
      refine ⟨θ, he.put0 hi hau hf rfl 24 rfl rfl, ?_⟩
      exact hc
    · intro E θ a w hD hi hp he hc
      have e14 := hp.of (k := 14) rfl
      rcases boolEq ((((r_18.2.2 == 0) && (r_19.2 == 0)) && (r_21.2.2 == 0)) && (r_23.2 == 0)) with hb | hb
      · have hf := he.h0
        replace hf := hf.more he 4 rfl onT
        replace hf := hf.more he 24 rfl (onP e14)
        replace hf := castB hb hf
        refine stP hf rfl rfl rfl (pM rfl) fun a hf => ?_
        replace hf := castI (u := undef) hb hf
        refine cNil ?_
        refine xThenN ?_
        intro ds u hau
        refine ⟨θ, he.put0 hi hau hf rfl 25 rfl rfl, ?_⟩
        exact hc
      · have hf := he.h0
        replace hf := hf.more he 4 rfl onT
        replace hf := hf.more he 24 rfl (onP e14)
        replace hf := castB hb hf
        refine stS hf rfl rfl rfl fun a hf => ?_
        replace hf := castJ (u := .int .i64 r_18.1) hb hf
        refine cNil ?_
        refine xThenN ?_
        intro ds u hau
        refine ⟨θ, he.put0 hi hau hf rfl 25 rfl rfl, ?_⟩
        exact hc
    · intro E θ a w hD hi hp he hc
      have e14 := hp.of (k := 14) rfl
      have e15 := hp.of (k := 15) rfl
      rcases boolEq ((((r_18.2.2 == 0) && (r_19.2 == 0)) && (r_21.2.2 == 0)) && (r_23.2 == 0)) with hb | hb
      · have hf := he.h0
        replace hf := hf.more he 24 rfl (onP e14)
        replace hf := castB hb hf
        replace hf := hf.more he 25 rfl (onP e15)
        replace hf := castCT hb hf
        refine stP hf rfl rfl rfl (pEq rfl rfl) fun a hf => ?_
        replace hf := castI (u := undef) hb hf
        refine cNil ?_
        refine xThenN ?_
        intro ds u hau
        refine ⟨θ, he.put0 hi hau hf rfl 26 rfl rfl, ?_⟩
        exact hc
      · have hf := he.h0
        replace hf := hf.more he 24 rfl (onP e14)
        replace hf := castB hb hf
        replace hf := hf.more he 25 rfl (onP e15)
        replace hf := castCF hb hf
        refine stS hf rfl rfl rfl fun a hf => ?_
        replace hf := castJ (u := .bool (r_18.1 == 0)) hb hf
        refine cNil ?_
        refine xThenN ?_
        intro ds u hau
        refine ⟨θ, he.put0 hi hau hf rfl 26 rfl rfl, ?_⟩
        exact hc
    · intro E θ a w hD hi hp he hc
      have e14 := hp.of (k := 14) rfl
      have e16 := hp.of (k := 16) rfl
      rcases boolEq ((((r_18.2.2 == 0) && (r_19.2 == 0)) && (r_21.2.2 == 0)) && (r_23.2 == 0)) with hb | hb
      · have hf := he.h0
        replace hf := hf.more he 24 rfl (onP e14)
        replace hf := castB hb hf
        replace hf := hf.more he 26 rfl (onP e16)
        replace hf := castCT hb hf
        refine stP hf rfl rfl rfl (pPt rfl rfl) fun a hf => ?_
        replace hf := castV (v' := .bool (((((r_18.2.2 == 0) && (r_19.2 == 0)) && (r_21.2.2 == 0)) && (r_23.2 == 0)) && (r_18.1 == 0))) (congrArg Value.bool (andT hb)) hf
        refine cNil ?_
        refine xThenN ?_
        intro ds u hau
        refine ⟨θ, he.put0 hi hau hf rfl 27 rfl rfl, ?_⟩
        exact hc
      · have hf := he.h0
        replace hf := hf.more he 24 rfl (onP e14)
        replace hf := castB hb hf
        replace hf := hf.more he 26 rfl (onP e16)
        replace hf := castCF hb hf
        refine stP hf rfl rfl rfl (pPf rfl rfl) fun a hf => ?_
        replace hf := castV (v' := .bool (((((r_18.2.2 == 0) && (r_19.2 == 0)) && (r_21.2.2 == 0)) && (r_23.2 == 0)) && (r_18.1 == 0))) (congrArg Value.bool (andF hb)) hf
        refine cNil ?_
        refine xThenN ?_
        intro ds u hau
        refine ⟨θ, he.put0 hi hau hf rfl 27 rfl rfl, ?_⟩
        exact hc
    · intro E θ a w hD hi hp he hc
      have e17 := hp.of (k := 17) rfl
      have hf := he.h0
      replace hf := hf.more he 27 rfl (onP e17)
      refine stP hf rfl rfl rfl (pM rfl) fun a hf => ?_
      refine cNil ?_
      refine xThenN ?_
      intro ds u hau
      refine ⟨θ, he.put0 hi hau hf rfl 28 rfl rfl, ?_⟩
      exact hc
    · intro E θ a w hD hi hp he hc
      have e18 := hp.of (k := 18) rfl
      rcases boolEq (((((r_18.2.2 == 0) && (r_19.2 == 0)) && (r_21.2.2 == 0)) && (r_23.2 == 0)) && (r_18.1 == 0)) with hb | hb
      · have hf := he.h0
        replace hf := hf.more he 5 rfl onT
        replace hf := hf.more he 28 rfl (onP e18)
        replace hf := castB hb hf
        refine stP hf rfl rfl rfl (pM rfl) fun a hf => ?_
        replace hf := castI (u := undef) hb hf
        refine cNil ?_
        refine xThenN ?_
        intro ds u hau
        refine ⟨θ, he.put0 hi hau hf rfl 29 rfl rfl, ?_⟩
        exact hc
      · have hf := he.h0
        replace hf := hf.more he 5 rfl onT
        replace hf := hf.more he 28 rfl (onP e18)
        replace hf := castB hb hf
        refine stS hf rfl rfl rfl fun a hf => ?_
        replace hf := castJ (u := .int .i64 r_18.2.1) hb hf
        refine cNil ?_
        refine xThenN ?_
        intro ds u hau
        refine ⟨θ, he.put0 hi hau hf rfl 29 rfl rfl, ?_⟩
        exact hc
    · intro E θ a w hD hi hp he hc
      have e18 := hp.of (k := 18) rfl
      have e19 := hp.of (k := 19) rfl
      rcases boolEq (((((r_18.2.2 == 0) && (r_19.2 == 0)) && (r_21.2.2 == 0)) && (r_23.2 == 0)) && (r_18.1 == 0)) with hb | hb
      · have hf := he.h0
        replace hf := hf.more he 28 rfl (onP e18)
        replace hf := castB hb hf
        replace hf := hf.more he 29 rfl (onP e19)
        replace hf := castCT hb hf
        refine stP hf rfl rfl rfl (pEq rfl rfl) fun a hf => ?_
        replace hf := castI (u := undef) hb hf
        refine cNil ?_
        refine xThenN ?_
        intro ds u hau
        refine ⟨θ, he.put0 hi hau hf rfl 30 rfl rfl, ?_⟩
        exact hc
      · have hf := he.h0
        replace hf := hf.more he 28 rfl (onP e18)
        replace hf := castB hb hf
        replace hf := hf.more he 29 rfl (onP e19)
        replace hf := castCF hb hf
        refine stS hf rfl rfl rfl fun a hf => ?_
        replace hf := castJ (u := .bool (r_18.2.1 == 2)) hb hf
        refine cNil ?_
        refine xThenN ?_
        intro ds u hau
        refine ⟨θ, he.put0 hi hau hf rfl 30 rfl rfl, ?_⟩
        exact hc
    · intro E θ a w hD hi hp he hc
      have e18 := hp.of (k := 18) rfl
      have e20 := hp.of (k := 20) rfl
      rcases boolEq (((((r_18.2.2 == 0) && (r_19.2 == 0)) && (r_21.2.2 == 0)) && (r_23.2 == 0)) && (r_18.1 == 0)) with hb | hb
      · have hf := he.h0
        replace hf := hf.more he 28 rfl (onP e18)
        replace hf := castB hb hf
        replace hf := hf.more he 30 rfl (onP e20)
        replace hf := castCT hb hf
        refine stP hf rfl rfl rfl (pPt rfl rfl) fun a hf => ?_
        replace hf := castV (v' := .bool ((((((r_18.2.2 == 0) && (r_19.2 == 0)) && (r_21.2.2 == 0)) && (r_23.2 == 0)) && (r_18.1 == 0)) && (r_18.2.1 == 2))) (congrArg Value.bool (andT hb)) hf
        refine cNil ?_
        refine xThenN ?_
        intro ds u hau
        refine ⟨θ, he.put0 hi hau hf rfl 31 rfl rfl, ?_⟩
        exact hc
      · have hf := he.h0
        replace hf := hf.more he 28 rfl (onP e18)
        replace hf := castB hb hf
        replace hf := hf.more he 30 rfl (onP e20)
        replace hf := castCF hb hf
        refine stP hf rfl rfl rfl (pPf rfl rfl) fun a hf => ?_
        replace hf := castV (v' := .bool ((((((r_18.2.2 == 0) && (r_19.2 == 0)) && (r_21.2.2 == 0)) && (r_23.2 == 0)) && (r_18.1 == 0)) && (r_18.2.1 == 2))) (congrArg Value.bool (andF hb)) hf
        refine cNil ?_
        refine xThenN ?_
        intro ds u hau
        refine ⟨θ, he.put0 hi hau hf rfl 31 rfl rfl, ?_⟩
        exact hc
    · intro E θ a w hD hi hp he hc
      have e21 := hp.of (k := 21) rfl
      have hf := he.h0
      replace hf := hf.more he 31 rfl (onP e21)
      refine stP hf rfl rfl rfl (pM rfl) fun a hf => ?_
      refine cNil ?_
      refine xThenN ?_
      intro ds u hau
      refine ⟨θ, he.put0 hi hau hf rfl 32 rfl rfl, ?_⟩
      exact hc
    · intro E θ a w hD hi hp he hc
      have e22 := hp.of (k := 22) rfl
      rcases boolEq ((((((r_18.2.2 == 0) && (r_19.2 == 0)) && (r_21.2.2 == 0)) && (r_23.2 == 0)) && (r_18.1 == 0)) && (r_18.2.1 == 2)) with hb | hb
      · have hf := he.h0
        replace hf := hf.more he 6 rfl onT
        replace hf := hf.more he 32 rfl (onP e22)
        replace hf := castB hb hf
        refine stE hf hc rfl rfl rfl (eLdN (vs := [.int .i64 r_19.1.Lo, .int .i64 r_19.1.Hi]) ag_24 rfl rfl (cells_box (n := 2) m5 rfl)) fun a w hf hc => ?_
        replace hf := castI (u := undef) hb hf
        refine cNil ?_
        refine xThenN ?_
        intro ds u hau
        refine ⟨θ, he.put0 hi hau hf rfl 33 rfl rfl, ?_⟩
        exact hc
      · have hf := he.h0
        replace hf := hf.more he 6 rfl onT
        replace hf := hf.more he 32 rfl (onP e22)
        replace hf := castB hb hf
        refine stS hf rfl rfl rfl fun a hf => ?_
        replace hf := castJ (u := .agg #[.int .i64 r_19.1.Lo, .int .i64 r_19.1.Hi]) hb hf
        refine cNil ?_
        refine xThenN ?_
        intro ds u hau
        refine ⟨θ, he.put0 hi hau hf rfl 33 rfl rfl, ?_⟩
        exact hc
    · intro E θ a w hD hi hp he hc
      have e22 := hp.of (k := 22) rfl
      rcases boolEq ((((((r_18.2.2 == 0) && (r_19.2 == 0)) && (r_21.2.2 == 0)) && (r_23.2 == 0)) && (r_18.1 == 0)) && (r_18.2.1 == 2)) with hb | hb
      · have hf := he.h0
        replace hf := hf.more he 32 rfl (onP e22)
        replace hf := castB hb hf
        refine stE hf hc rfl rfl rfl (eC (v := .agg #[.int .i64 r_24.Lo, .int .i64 r_24.Hi]) (vs := [.int .i64 7, .int .i64 9]) (caps := []) en_14 rfl rfl rfl rfl (fun w hc => law03_span_ok 7 9 hc (condT hb hr_24))) fun a w hf hc => ?_
        replace hf := castI (u := undef) hb hf
        refine cNil ?_
        refine xThenN ?_
        intro ds u hau
        refine ⟨θ, he.put0 hi hau hf rfl 34 rfl rfl, ?_⟩
        exact hc
      · have hf := he.h0
        replace hf := hf.more he 32 rfl (onP e22)
        replace hf := castB hb hf
        refine stS hf rfl rfl rfl fun a hf => ?_
        replace hf := castJ (u := .agg #[.int .i64 r_24.Lo, .int .i64 r_24.Hi]) hb hf
        refine cNil ?_
        refine xThenN ?_
        intro ds u hau
        refine ⟨θ, he.put0 hi hau hf rfl 34 rfl rfl, ?_⟩
        exact hc
    · intro E θ a w hD hi hp he hc
      have e22 := hp.of (k := 22) rfl
      have e23 := hp.of (k := 23) rfl
      have e24 := hp.of (k := 24) rfl
      rcases boolEq ((((((r_18.2.2 == 0) && (r_19.2 == 0)) && (r_21.2.2 == 0)) && (r_23.2 == 0)) && (r_18.1 == 0)) && (r_18.2.1 == 2)) with hb | hb
      · have hf := he.h0
        replace hf := hf.more he 32 rfl (onP e22)
        replace hf := castB hb hf
        replace hf := hf.more he 33 rfl (onP e23)
        replace hf := castCT hb hf
        replace hf := hf.more he 34 rfl (onP e24)
        replace hf := castCT hb hf
        refine stP hf rfl rfl rfl (pEqA ge_24 rfl rfl (eqs_24 _ _ _ _)) fun a hf => ?_
        replace hf := castI (u := undef) hb hf
        refine cNil ?_
        refine xThenN ?_
        intro ds u hau
        refine ⟨θ, he.put0 hi hau hf rfl 35 rfl rfl, ?_⟩
        exact hc
      · have hf := he.h0
        replace hf := hf.more he 32 rfl (onP e22)
        replace hf := castB hb hf
        replace hf := hf.more he 33 rfl (onP e23)
        replace hf := castCF hb hf
        replace hf := hf.more he 34 rfl (onP e24)
        replace hf := castCF hb hf
        refine stS hf rfl rfl rfl fun a hf => ?_
        replace hf := castJ (u := .bool (r_19.1.Lo == r_24.Lo && r_19.1.Hi == r_24.Hi)) hb hf
        refine cNil ?_
        refine xThenN ?_
        intro ds u hau
        refine ⟨θ, he.put0 hi hau hf rfl 35 rfl rfl, ?_⟩
        exact hc
    · intro E θ a w hD hi hp he hc
      have e22 := hp.of (k := 22) rfl
      have e25 := hp.of (k := 25) rfl
      rcases boolEq ((((((r_18.2.2 == 0) && (r_19.2 == 0)) && (r_21.2.2 == 0)) && (r_23.2 == 0)) && (r_18.1 == 0)) && (r_18.2.1 == 2)) with hb | hb
      · have hf := he.h0
        replace hf := hf.more he 32 rfl (onP e22)
        replace hf := castB hb hf
        replace hf := hf.more he 35 rfl (onP e25)
        replace hf := castCT hb hf
        refine stP hf rfl rfl rfl (pPt rfl rfl) fun a hf => ?_
        replace hf := castV (v' := .bool (((((((r_18.2.2 == 0) && (r_19.2 == 0)) && (r_21.2.2 == 0)) && (r_23.2 == 0)) && (r_18.1 == 0)) && (r_18.2.1 == 2)) && (r_19.1.Lo == r_24.Lo && r_19.1.Hi == r_24.Hi))) (congrArg Value.bool (andT hb)) hf
        refine cNil ?_
        refine xThenN ?_
        intro ds u hau
        refine ⟨θ, he.put0 hi hau hf rfl 36 rfl rfl, ?_⟩
        exact hc
      · have hf := he.h0
        replace hf := hf.more he 32 rfl (onP e22)
        replace hf := castB hb hf
        replace hf := hf.more he 35 rfl (onP e25)
        replace hf := castCF hb hf
        refine stP hf rfl rfl rfl (pPf rfl rfl) fun a hf => ?_
        replace hf := castV (v' := .bool (((((((r_18.2.2 == 0) && (r_19.2 == 0)) && (r_21.2.2 == 0)) && (r_23.2 == 0)) && (r_18.1 == 0)) && (r_18.2.1 == 2)) && (r_19.1.Lo == r_24.Lo && r_19.1.Hi == r_24.Hi))) (congrArg Value.bool (andF hb)) hf
        refine cNil ?_
        refine xThenN ?_
        intro ds u hau
        refine ⟨θ, he.put0 hi hau hf rfl 36 rfl rfl, ?_⟩
        exact hc
    · intro E θ a w hD hi hp he hc
      have e26 := hp.of (k := 26) rfl
      have hf := he.h0
      replace hf := hf.more he 36 rfl (onP e26)
      refine stP hf rfl rfl rfl (pM rfl) fun a hf => ?_
      refine cNil ?_
      refine xThenN ?_
      intro ds u hau
      refine ⟨θ, he.put0 hi hau hf rfl 37 rfl rfl, ?_⟩
      exact hc
    · intro E θ a w hD hi hp he hc
      have e27 := hp.of (k := 27) rfl
      rcases boolEq (((((((r_18.2.2 == 0) && (r_19.2 == 0)) && (r_21.2.2 == 0)) && (r_23.2 == 0)) && (r_18.1 == 0)) && (r_18.2.1 == 2)) && (r_19.1.Lo == r_24.Lo && r_19.1.Hi == r_24.Hi)) with hb | hb
      · have hf := he.h0
        replace hf := hf.more he 7 rfl onT
        replace hf := hf.more he 37 rfl (onP e27)
        replace hf := castB hb hf
        refine stP hf rfl rfl rfl (pM rfl) fun a hf => ?_
        replace hf := castI (u := undef) hb hf
        refine cNil ?_
        refine xThenN ?_
        intro ds u hau
        refine ⟨θ, he.put0 hi hau hf rfl 38 rfl rfl, ?_⟩
        exact hc
      · have hf := he.h0
        replace hf := hf.more he 7 rfl onT
        replace hf := hf.more he 37 rfl (onP e27)
        replace hf := castB hb hf
        refine stS hf rfl rfl rfl fun a hf => ?_
        replace hf := castJ (u := .slice p_6 r_21.1.length c_6) hb hf
        refine cNil ?_
        refine xThenN ?_
        intro ds u hau
        refine ⟨θ, he.put0 hi hau hf rfl 38 rfl rfl, ?_⟩
        exact hc
    · intro E θ a w hD hi hp he hc
      have e27 := hp.of (k := 27) rfl
      replace hc : Ctx G ((bif E 29 then (gE (((((((r_18.2.2 == 0) && (r_19.2 == 0)) && (r_21.2.2 == 0)) && (r_23.2 == 0)) && (r_18.1 == 0)) && (r_18.2.1 == 2)) && (r_19.1.Lo == r_24.Lo && r_19.1.Hi == r_24.Hi)) (.row (some ⟨(θ 232).b, 0, none⟩) 2 (([1, 3] : List Int).map encI_i64) 3 1)) else .row none 0 [] 0 0) :: .row (some ⟨b_9, 0, none⟩) 5 (([0, 2, 3, 6, 6] : List Int).map encI_i64) 3 1 :: .row p_7 c_7 (r_22.Points.map enc_gauge_Point) 64 3 :: .row p_5 c_5 (r_20.Points.map enc_gauge_Point) 64 3 :: .row p_6 c_6 (r_21.1.map encI_i64) 3 1 :: .box b_8 [.int .i64 r_19.1.Lo, .int .i64 r_19.1.Hi] 24 :: .row (some ⟨b_7, 0, none⟩) 3 (([(⟨5, 9⟩ : api_Span), (⟨7, 12⟩ : api_Span), (⟨10, 11⟩ : api_Span)] : List api_Span).map enc_api_Span) 24 2 :: .box b_5 [.int .i64 r_13.1.Lo, .int .i64 r_13.1.Hi] 24 :: .box b_4 [.int .i64 r_8.1.Lo, .int .i64 r_8.1.Hi] 24 :: .row (some ⟨b_3, 0, none⟩) 1 (([(⟨(⟨0, 0⟩ : api_Span), r_4, r_5, r_6, r_7⟩ : gauge_Leg)] : List gauge_Leg).map enc_gauge_Leg) 40 10 :: .box b_2 [.int .i64 0, .int .i64 0, .int .i64 r_4.Lo, .int .i64 r_4.Hi, .int .i64 r_5.Lo, .int .i64 r_5.Hi, .int .i64 r_6.Lo, .int .i64 r_6.Hi, .int .i64 r_7.Lo, .int .i64 r_7.Hi] 40 :: .row p_2 c_2 (r_2.Verticals.map enc_gauge_Vertical) 61 5 :: .row p_3 c_3 (r_3.1.map encI_i64) 3 1 :: .row p_4 c_4 (r_3.2.1.map encI_i64) 3 1 :: .box b_1 [.int .i64 r_1.1.Lo, .int .i64 r_1.1.Hi] 24 :: .row p_1 c_1 (r.Verticals.map enc_gauge_Vertical) 61 5 :: Lf) w := hc
      rw [hi] at hc
      replace hc : Ctx G (.row none 0 [] 0 0 :: .row (some ⟨b_9, 0, none⟩) 5 (([0, 2, 3, 6, 6] : List Int).map encI_i64) 3 1 :: .row p_7 c_7 (r_22.Points.map enc_gauge_Point) 64 3 :: .row p_5 c_5 (r_20.Points.map enc_gauge_Point) 64 3 :: .row p_6 c_6 (r_21.1.map encI_i64) 3 1 :: .box b_8 [.int .i64 r_19.1.Lo, .int .i64 r_19.1.Hi] 24 :: .row (some ⟨b_7, 0, none⟩) 3 (([(⟨5, 9⟩ : api_Span), (⟨7, 12⟩ : api_Span), (⟨10, 11⟩ : api_Span)] : List api_Span).map enc_api_Span) 24 2 :: .box b_5 [.int .i64 r_13.1.Lo, .int .i64 r_13.1.Hi] 24 :: .box b_4 [.int .i64 r_8.1.Lo, .int .i64 r_8.1.Hi] 24 :: .row (some ⟨b_3, 0, none⟩) 1 (([(⟨(⟨0, 0⟩ : api_Span), r_4, r_5, r_6, r_7⟩ : gauge_Leg)] : List gauge_Leg).map enc_gauge_Leg) 40 10 :: .box b_2 [.int .i64 0, .int .i64 0, .int .i64 r_4.Lo, .int .i64 r_4.Hi, .int .i64 r_5.Lo, .int .i64 r_5.Hi, .int .i64 r_6.Lo, .int .i64 r_6.Hi, .int .i64 r_7.Lo, .int .i64 r_7.Hi] 40 :: .row p_2 c_2 (r_2.Verticals.map enc_gauge_Vertical) 61 5 :: .row p_3 c_3 (r_3.1.map encI_i64) 3 1 :: .row p_4 c_4 (r_3.2.1.map encI_i64) 3 1 :: .box b_1 [.int .i64 r_1.1.Lo, .int .i64 r_1.1.Hi] 24 :: .row p_1 c_1 (r.Verticals.map enc_gauge_Vertical) 61 5 :: Lf) w := hc
      rcases boolEq (((((((r_18.2.2 == 0) && (r_19.2 == 0)) && (r_21.2.2 == 0)) && (r_23.2 == 0)) && (r_18.1 == 0)) && (r_18.2.1 == 2)) && (r_19.1.Lo == r_24.Lo && r_19.1.Hi == r_24.Hi)) with hb | hb
      · have hf := he.h0
        replace hf := hf.more he 37 rfl (onP e27)
        replace hf := castB hb hf
        replace hc : Ctx G (.row none 0 [] 0 0 :: .row (some ⟨b_9, 0, none⟩) 5 (([0, 2, 3, 6, 6] : List Int).map encI_i64) 3 1 :: .row p_7 c_7 (r_22.Points.map enc_gauge_Point) 64 3 :: .row p_5 c_5 (r_20.Points.map enc_gauge_Point) 64 3 :: .row p_6 c_6 (r_21.1.map encI_i64) 3 1 :: .box b_8 [.int .i64 r_19.1.Lo, .int .i64 r_19.1.Hi] 24 :: .row (some ⟨b_7, 0, none⟩) 3 (([(⟨5, 9⟩ : api_Span), (⟨7, 12⟩ : api_Span), (⟨10, 11⟩ : api_Span)] : List api_Span).map enc_api_Span) 24 2 :: .box b_5 [.int .i64 r_13.1.Lo, .int .i64 r_13.1.Hi] 24 :: .box b_4 [.int .i64 r_8.1.Lo, .int .i64 r_8.1.Hi] 24 :: .row (some ⟨b_3, 0, none⟩) 1 (([(⟨(⟨0, 0⟩ : api_Span), r_4, r_5, r_6, r_7⟩ : gauge_Leg)] : List gauge_Leg).map enc_gauge_Leg) 40 10 :: .box b_2 [.int .i64 0, .int .i64 0, .int .i64 r_4.Lo, .int .i64 r_4.Hi, .int .i64 r_5.Lo, .int .i64 r_5.Hi, .int .i64 r_6.Lo, .int .i64 r_6.Hi, .int .i64 r_7.Lo, .int .i64 r_7.Hi] 40 :: .row p_2 c_2 (r_2.Verticals.map enc_gauge_Vertical) 61 5 :: .row p_3 c_3 (r_3.1.map encI_i64) 3 1 :: .row p_4 c_4 (r_3.2.1.map encI_i64) 3 1 :: .box b_1 [.int .i64 r_1.1.Lo, .int .i64 r_1.1.Hi] 24 :: .row p_1 c_1 (r.Verticals.map enc_gauge_Vertical) 61 5 :: Lf) w := hc
        refine stBS (rows := ([1, 3] : List Int).map encI_i64) (vs := [(0, .int .i64 1), (1, .int .i64 3)]) hf hc rfl rfl sl_43 rfl ⟨rfl, rfl, rfl, rfl, rfl, rfl, trivial⟩ rfl rfl fun b_10 a w hf hc => ?_
        replace hf := castI (u := undef) hb hf
        refine cNil ?_
        refine xThenN ?_
        intro ds u hau
        replace hc := hc.drop k1
        refine ⟨(setT θ 232 ⟨b_10, none, 0⟩), he.put hi hau hf rfl [] trivial ⟨qq, qq, qq, qq, qq, qq, qq, qq, qq, qq, qq, qq, qq, qq, qq, qq, qq, qq, qq, qq, qq, qq, qq, qq, qq, qq, qq, qq, qq, qq, qq, qq, qq, qq, qq, qq, qq, qq, qq, qq, qq, qq, qq, qq, qq, qq, qq, qq, qq, qq, trivial⟩, ?_⟩
        show Ctx G ((bif true then (gE (((((((r_18.2.2 == 0) && (r_19.2 == 0)) && (r_21.2.2 == 0)) && (r_23.2 == 0)) && (r_18.1 == 0)) && (r_18.2.1 == 2)) && (r_19.1.Lo == r_24.Lo && r_19.1.Hi == r_24.Hi)) (.row (some ⟨b_10, 0, none⟩) 2 (([1, 3] : List Int).map encI_i64) 3 1)) else .row none 0 [] 0 0) :: .row (some ⟨b_9, 0, none⟩) 5 (([0, 2, 3, 6, 6] : List Int).map encI_i64) 3 1 :: .row p_7 c_7 (r_22.Points.map enc_gauge_Point) 64 3 :: .row p_5 c_5 (r_20.Points.map enc_gauge_Point) 64 3 :: .row p_6 c_6 (r_21.1.map encI_i64) 3 1 :: .box b_8 [.int .i64 r_19.1.Lo, .int .i64 r_19.1.Hi] 24 :: .row (some ⟨b_7, 0, none⟩) 3 (([(⟨5, 9⟩ : api_Span), (⟨7, 12⟩ : api_Span), (⟨10, 11⟩ : api_Span)] : List api_Span).map enc_api_Span) 24 2 :: .box b_5 [.int .i64 r_13.1.Lo, .int .i64 r_13.1.Hi] 24 :: .box b_4 [.int .i64 r_8.1.Lo, .int .i64 r_8.1.Hi] 24 :: .row (some ⟨b_3, 0, none⟩) 1 (([(⟨(⟨0, 0⟩ : api_Span), r_4, r_5, r_6, r_7⟩ : gauge_Leg)] : List gauge_Leg).map enc_gauge_Leg) 40 10 :: .box b_2 [.int .i64 0, .int .i64 0, .int .i64 r_4.Lo, .int .i64 r_4.Hi, .int .i64 r_5.Lo, .int .i64 r_5.Hi, .int .i64 r_6.Lo, .int .i64 r_6.Hi, .int .i64 r_7.Lo, .int .i64 r_7.Hi] 40 :: .row p_2 c_2 (r_2.Verticals.map enc_gauge_Vertical) 61 5 :: .row p_3 c_3 (r_3.1.map encI_i64) 3 1 :: .row p_4 c_4 (r_3.2.1.map encI_i64) 3 1 :: .box b_1 [.int .i64 r_1.1.Lo, .int .i64 r_1.1.Hi] 24 :: .row p_1 c_1 (r.Verticals.map enc_gauge_Vertical) 61 5 :: Lf) w
        rw [gE_T hb]
        exact hc
      · have hf := he.h0
        replace hf := hf.more he 37 rfl (onP e27)
        replace hf := castB hb hf
        replace hc : Ctx G (.row none 0 [] 0 0 :: .row (some ⟨b_9, 0, none⟩) 5 (([0, 2, 3, 6, 6] : List Int).map encI_i64) 3 1 :: .row p_7 c_7 (r_22.Points.map enc_gauge_Point) 64 3 :: .row p_5 c_5 (r_20.Points.map enc_gauge_Point) 64 3 :: .row p_6 c_6 (r_21.1.map encI_i64) 3 1 :: .box b_8 [.int .i64 r_19.1.Lo, .int .i64 r_19.1.Hi] 24 :: .row (some ⟨b_7, 0, none⟩) 3 (([(⟨5, 9⟩ : api_Span), (⟨7, 12⟩ : api_Span), (⟨10, 11⟩ : api_Span)] : List api_Span).map enc_api_Span) 24 2 :: .box b_5 [.int .i64 r_13.1.Lo, .int .i64 r_13.1.Hi] 24 :: .box b_4 [.int .i64 r_8.1.Lo, .int .i64 r_8.1.Hi] 24 :: .row (some ⟨b_3, 0, none⟩) 1 (([(⟨(⟨0, 0⟩ : api_Span), r_4, r_5, r_6, r_7⟩ : gauge_Leg)] : List gauge_Leg).map enc_gauge_Leg) 40 10 :: .box b_2 [.int .i64 0, .int .i64 0, .int .i64 r_4.Lo, .int .i64 r_4.Hi, .int .i64 r_5.Lo, .int .i64 r_5.Hi, .int .i64 r_6.Lo, .int .i64 r_6.Hi, .int .i64 r_7.Lo, .int .i64 r_7.Hi] 40 :: .row p_2 c_2 (r_2.Verticals.map enc_gauge_Vertical) 61 5 :: .row p_3 c_3 (r_3.1.map encI_i64) 3 1 :: .row p_4 c_4 (r_3.2.1.map encI_i64) 3 1 :: .box b_1 [.int .i64 r_1.1.Lo, .int .i64 r_1.1.Hi] 24 :: .row p_1 c_1 (r.Verticals.map enc_gauge_Vertical) 61 5 :: Lf) w := hc
        refine stS hf rfl rfl rfl fun a hf => ?_
        replace hf := castJ (u := .slice (some ⟨(θ 232).b, 0, none⟩) 2 2) hb hf
        refine cNil ?_
        refine xThenN ?_
        intro ds u hau
        refine ⟨θ, he.put0 hi hau hf rfl 39 rfl rfl, ?_⟩
        show Ctx G ((bif true then (gE (((((((r_18.2.2 == 0) && (r_19.2 == 0)) && (r_21.2.2 == 0)) && (r_23.2 == 0)) && (r_18.1 == 0)) && (r_18.2.1 == 2)) && (r_19.1.Lo == r_24.Lo && r_19.1.Hi == r_24.Hi)) (.row (some ⟨(θ 232).b, 0, none⟩) 2 (([1, 3] : List Int).map encI_i64) 3 1)) else .row none 0 [] 0 0) :: .row (some ⟨b_9, 0, none⟩) 5 (([0, 2, 3, 6, 6] : List Int).map encI_i64) 3 1 :: .row p_7 c_7 (r_22.Points.map enc_gauge_Point) 64 3 :: .row p_5 c_5 (r_20.Points.map enc_gauge_Point) 64 3 :: .row p_6 c_6 (r_21.1.map encI_i64) 3 1 :: .box b_8 [.int .i64 r_19.1.Lo, .int .i64 r_19.1.Hi] 24 :: .row (some ⟨b_7, 0, none⟩) 3 (([(⟨5, 9⟩ : api_Span), (⟨7, 12⟩ : api_Span), (⟨10, 11⟩ : api_Span)] : List api_Span).map enc_api_Span) 24 2 :: .box b_5 [.int .i64 r_13.1.Lo, .int .i64 r_13.1.Hi] 24 :: .box b_4 [.int .i64 r_8.1.Lo, .int .i64 r_8.1.Hi] 24 :: .row (some ⟨b_3, 0, none⟩) 1 (([(⟨(⟨0, 0⟩ : api_Span), r_4, r_5, r_6, r_7⟩ : gauge_Leg)] : List gauge_Leg).map enc_gauge_Leg) 40 10 :: .box b_2 [.int .i64 0, .int .i64 0, .int .i64 r_4.Lo, .int .i64 r_4.Hi, .int .i64 r_5.Lo, .int .i64 r_5.Hi, .int .i64 r_6.Lo, .int .i64 r_6.Hi, .int .i64 r_7.Lo, .int .i64 r_7.Hi] 40 :: .row p_2 c_2 (r_2.Verticals.map enc_gauge_Vertical) 61 5 :: .row p_3 c_3 (r_3.1.map encI_i64) 3 1 :: .row p_4 c_4 (r_3.2.1.map encI_i64) 3 1 :: .box b_1 [.int .i64 r_1.1.Lo, .int .i64 r_1.1.Hi] 24 :: .row p_1 c_1 (r.Verticals.map enc_gauge_Vertical) 61 5 :: Lf) w
        rw [gE_F hb]
        exact hc
    · intro E θ a w hD hi hp he hc
      have e27 := hp.of (k := 27) rfl
      have e28 := hp.of (k := 28) rfl
      have e29 := hp.of (k := 29) rfl
      replace hc : Ctx G ((bif E 29 then (gE (((((((r_18.2.2 == 0) && (r_19.2 == 0)) && (r_21.2.2 == 0)) && (r_23.2 == 0)) && (r_18.1 == 0)) && (r_18.2.1 == 2)) && (r_19.1.Lo == r_24.Lo && r_19.1.Hi == r_24.Hi)) (.row (some ⟨(θ 232).b, 0, none⟩) 2 (([1, 3] : List Int).map encI_i64) 3 1)) else .row none 0 [] 0 0) :: .row (some ⟨b_9, 0, none⟩) 5 (([0, 2, 3, 6, 6] : List Int).map encI_i64) 3 1 :: .row p_7 c_7 (r_22.Points.map enc_gauge_Point) 64 3 :: .row p_5 c_5 (r_20.Points.map enc_gauge_Point) 64 3 :: .row p_6 c_6 (r_21.1.map encI_i64) 3 1 :: .box b_8 [.int .i64 r_19.1.Lo, .int .i64 r_19.1.Hi] 24 :: .row (some ⟨b_7, 0, none⟩) 3 (([(⟨5, 9⟩ : api_Span), (⟨7, 12⟩ : api_Span), (⟨10, 11⟩ : api_Span)] : List api_Span).map enc_api_Span) 24 2 :: .box b_5 [.int .i64 r_13.1.Lo, .int .i64 r_13.1.Hi] 24 :: .box b_4 [.int .i64 r_8.1.Lo, .int .i64 r_8.1.Hi] 24 :: .row (some ⟨b_3, 0, none⟩) 1 (([(⟨(⟨0, 0⟩ : api_Span), r_4, r_5, r_6, r_7⟩ : gauge_Leg)] : List gauge_Leg).map enc_gauge_Leg) 40 10 :: .box b_2 [.int .i64 0, .int .i64 0, .int .i64 r_4.Lo, .int .i64 r_4.Hi, .int .i64 r_5.Lo, .int .i64 r_5.Hi, .int .i64 r_6.Lo, .int .i64 r_6.Hi, .int .i64 r_7.Lo, .int .i64 r_7.Hi] 40 :: .row p_2 c_2 (r_2.Verticals.map enc_gauge_Vertical) 61 5 :: .row p_3 c_3 (r_3.1.map encI_i64) 3 1 :: .row p_4 c_4 (r_3.2.1.map encI_i64) 3 1 :: .box b_1 [.int .i64 r_1.1.Lo, .int .i64 r_1.1.Hi] 24 :: .row p_1 c_1 (r.Verticals.map enc_gauge_Vertical) 61 5 :: Lf) w := hc
      rw [e29] at hc
      replace hc : Ctx G ((gE (((((((r_18.2.2 == 0) && (r_19.2 == 0)) && (r_21.2.2 == 0)) && (r_23.2 == 0)) && (r_18.1 == 0)) && (r_18.2.1 == 2)) && (r_19.1.Lo == r_24.Lo && r_19.1.Hi == r_24.Hi)) (.row (some ⟨(θ 232).b, 0, none⟩) 2 (([1, 3] : List Int).map encI_i64) 3 1)) :: .row (some ⟨b_9, 0, none⟩) 5 (([0, 2, 3, 6, 6] : List Int).map encI_i64) 3 1 :: .row p_7 c_7 (r_22.Points.map enc_gauge_Point) 64 3 :: .row p_5 c_5 (r_20.Points.map enc_gauge_Point) 64 3 :: .row p_6 c_6 (r_21.1.map encI_i64) 3 1 :: .box b_8 [.int .i64 r_19.1.Lo, .int .i64 r_19.1.Hi] 24 :: .row (some ⟨b_7, 0, none⟩) 3 (([(⟨5, 9⟩ : api_Span), (⟨7, 12⟩ : api_Span), (⟨10, 11⟩ : api_Span)] : List api_Span).map enc_api_Span) 24 2 :: .box b_5 [.int .i64 r_13.1.Lo, .int .i64 r_13.1.Hi] 24 :: .box b_4 [.int .i64 r_8.1.Lo, .int .i64 r_8.1.Hi] 24 :: .row (some ⟨b_3, 0, none⟩) 1 (([(⟨(⟨0, 0⟩ : api_Span), r_4, r_5, r_6, r_7⟩ : gauge_Leg)] : List gauge_Leg).map enc_gauge_Leg) 40 10 :: .box b_2 [.int .i64 0, .int .i64 0, .int .i64 r_4.Lo, .int .i64 r_4.Hi, .int .i64 r_5.Lo, .int .i64 r_5.Hi, .int .i64 r_6.Lo, .int .i64 r_6.Hi, .int .i64 r_7.Lo, .int .i64 r_7.Hi] 40 :: .row p_2 c_2 (r_2.Verticals.map enc_gauge_Vertical) 61 5 :: .row p_3 c_3 (r_3.1.map encI_i64) 3 1 :: .row p_4 c_4 (r_3.2.1.map encI_i64) 3 1 :: .box b_1 [.int .i64 r_1.1.Lo, .int .i64 r_1.1.Hi] 24 :: .row p_1 c_1 (r.Verticals.map enc_gauge_Vertical) 61 5 :: Lf) w := hc
      rcases boolEq (((((((r_18.2.2 == 0) && (r_19.2 == 0)) && (r_21.2.2 == 0)) && (r_23.2 == 0)) && (r_18.1 == 0)) && (r_18.2.1 == 2)) && (r_19.1.Lo == r_24.Lo && r_19.1.Hi == r_24.Hi)) with hb | hb
      · have hf := he.h0
        replace hf := hf.more he 37 rfl (onP e27)
        replace hf := castB hb hf
        replace hf := hf.more he 38 rfl (onP e28)
        replace hf := castCT hb hf
        replace hf := hf.more he 39 rfl (onP e29)
        replace hf := castCT hb hf
        rw [gE_T hb] at hc
        replace hc : Ctx G (.row (some ⟨(θ 232).b, 0, none⟩) 2 (([1, 3] : List Int).map encI_i64) 3 1 :: .row (some ⟨b_9, 0, none⟩) 5 (([0, 2, 3, 6, 6] : List Int).map encI_i64) 3 1 :: .row p_7 c_7 (r_22.Points.map enc_gauge_Point) 64 3 :: .row p_5 c_5 (r_20.Points.map enc_gauge_Point) 64 3 :: .row p_6 c_6 (r_21.1.map encI_i64) 3 1 :: .box b_8 [.int .i64 r_19.1.Lo, .int .i64 r_19.1.Hi] 24 :: .row (some ⟨b_7, 0, none⟩) 3 (([(⟨5, 9⟩ : api_Span), (⟨7, 12⟩ : api_Span), (⟨10, 11⟩ : api_Span)] : List api_Span).map enc_api_Span) 24 2 :: .box b_5 [.int .i64 r_13.1.Lo, .int .i64 r_13.1.Hi] 24 :: .box b_4 [.int .i64 r_8.1.Lo, .int .i64 r_8.1.Hi] 24 :: .row (some ⟨b_3, 0, none⟩) 1 (([(⟨(⟨0, 0⟩ : api_Span), r_4, r_5, r_6, r_7⟩ : gauge_Leg)] : List gauge_Leg).map enc_gauge_Leg) 40 10 :: .box b_2 [.int .i64 0, .int .i64 0, .int .i64 r_4.Lo, .int .i64 r_4.Hi, .int .i64 r_5.Lo, .int .i64 r_5.Hi, .int .i64 r_6.Lo, .int .i64 r_6.Hi, .int .i64 r_7.Lo, .int .i64 r_7.Hi] 40 :: .row p_2 c_2 (r_2.Verticals.map enc_gauge_Vertical) 61 5 :: .row p_3 c_3 (r_3.1.map encI_i64) 3 1 :: .row p_4 c_4 (r_3.2.1.map encI_i64) 3 1 :: .box b_1 [.int .i64 r_1.1.Lo, .int .i64 r_1.1.Hi] 24 :: .row p_1 c_1 (r.Verticals.map enc_gauge_Vertical) 61 5 :: Lf) w := hc
        refine stE hf hc rfl rfl rfl (eC (v := .bool r_25) (vs := [.slice p_6 r_21.1.length c_6, .slice (some ⟨(θ 232).b, 0, none⟩) 2 2]) (caps := []) en_41 rfl rfl rfl rfl (fun w hc => by obtain ⟨G1, hle1, hrd1, hc, hth1⟩ := lend hc k4; obtain ⟨G2, hle2, hrd2, hc, hth2⟩ := lend hc k0; exact (kit_Same_int_ok r_21.1 ([1, 3] : List Int) (hrd1.mono hle2) hrd2 hc (condT hb hr_25)).mono fun e w h => ⟨h.1, ((hth1 _ _ ((hth2 _ _ h.2).unpick k0)).unpick k4)⟩)) fun a w hf hc => ?_
        replace hf := castI (u := undef) hb hf
        refine cNil ?_
        refine xThenN ?_
        intro ds u hau
        refine ⟨θ, he.put0 hi hau hf rfl 40 rfl rfl, ?_⟩
        show Ctx G ((bif E 29 then (gE (((((((r_18.2.2 == 0) && (r_19.2 == 0)) && (r_21.2.2 == 0)) && (r_23.2 == 0)) && (r_18.1 == 0)) && (r_18.2.1 == 2)) && (r_19.1.Lo == r_24.Lo && r_19.1.Hi == r_24.Hi)) (.row (some ⟨(θ 232).b, 0, none⟩) 2 (([1, 3] : List Int).map encI_i64) 3 1)) else .row none 0 [] 0 0) :: .row (some ⟨b_9, 0, none⟩) 5 (([0, 2, 3, 6, 6] : List Int).map encI_i64) 3 1 :: .row p_7 c_7 (r_22.Points.map enc_gauge_Point) 64 3 :: .row p_5 c_5 (r_20.Points.map enc_gauge_Point) 64 3 :: .row p_6 c_6 (r_21.1.map encI_i64) 3 1 :: .box b_8 [.int .i64 r_19.1.Lo, .int .i64 r_19.1.Hi] 24 :: .row (some ⟨b_7, 0, none⟩) 3 (([(⟨5, 9⟩ : api_Span), (⟨7, 12⟩ : api_Span), (⟨10, 11⟩ : api_Span)] : List api_Span).map enc_api_Span) 24 2 :: .box b_5 [.int .i64 r_13.1.Lo, .int .i64 r_13.1.Hi] 24 :: .box b_4 [.int .i64 r_8.1.Lo, .int .i64 r_8.1.Hi] 24 :: .row (some ⟨b_3, 0, none⟩) 1 (([(⟨(⟨0, 0⟩ : api_Span), r_4, r_5, r_6, r_7⟩ : gauge_Leg)] : List gauge_Leg).map enc_gauge_Leg) 40 10 :: .box b_2 [.int .i64 0, .int .i64 0, .int .i64 r_4.Lo, .int .i64 r_4.Hi, .int .i64 r_5.Lo, .int .i64 r_5.Hi, .int .i64 r_6.Lo, .int .i64 r_6.Hi, .int .i64 r_7.Lo, .int .i64 r_7.Hi] 40 :: .row p_2 c_2 (r_2.Verticals.map enc_gauge_Vertical) 61 5 :: .row p_3 c_3 (r_3.1.map encI_i64) 3 1 :: .row p_4 c_4 (r_3.2.1.map encI_i64) 3 1 :: .box b_1 [.int .i64 r_1.1.Lo, .int .i64 r_1.1.Hi] 24 :: .row p_1 c_1 (r.Verticals.map enc_gauge_Vertical) 61 5 :: Lf) w
        rw [e29]
        rw [gE_T hb]
        exact hc
      · have hf := he.h0
        replace hf := hf.more he 37 rfl (onP e27)
        replace hf := castB hb hf
        replace hf := hf.more he 38 rfl (onP e28)
        replace hf := castCF hb hf
        replace hf := hf.more he 39 rfl (onP e29)
        replace hf := castCF hb hf
        rw [gE_F hb] at hc
        replace hc : Ctx G (.row none 0 [] 0 0 :: .row (some ⟨b_9, 0, none⟩) 5 (([0, 2, 3, 6, 6] : List Int).map encI_i64) 3 1 :: .row p_7 c_7 (r_22.Points.map enc_gauge_Point) 64 3 :: .row p_5 c_5 (r_20.Points.map enc_gauge_Point) 64 3 :: .row p_6 c_6 (r_21.1.map encI_i64) 3 1 :: .box b_8 [.int .i64 r_19.1.Lo, .int .i64 r_19.1.Hi] 24 :: .row (some ⟨b_7, 0, none⟩) 3 (([(⟨5, 9⟩ : api_Span), (⟨7, 12⟩ : api_Span), (⟨10, 11⟩ : api_Span)] : List api_Span).map enc_api_Span) 24 2 :: .box b_5 [.int .i64 r_13.1.Lo, .int .i64 r_13.1.Hi] 24 :: .box b_4 [.int .i64 r_8.1.Lo, .int .i64 r_8.1.Hi] 24 :: .row (some ⟨b_3, 0, none⟩) 1 (([(⟨(⟨0, 0⟩ : api_Span), r_4, r_5, r_6, r_7⟩ : gauge_Leg)] : List gauge_Leg).map enc_gauge_Leg) 40 10 :: .box b_2 [.int .i64 0, .int .i64 0, .int .i64 r_4.Lo, .int .i64 r_4.Hi, .int .i64 r_5.Lo, .int .i64 r_5.Hi, .int .i64 r_6.Lo, .int .i64 r_6.Hi, .int .i64 r_7.Lo, .int .i64 r_7.Hi] 40 :: .row p_2 c_2 (r_2.Verticals.map enc_gauge_Vertical) 61 5 :: .row p_3 c_3 (r_3.1.map encI_i64) 3 1 :: .row p_4 c_4 (r_3.2.1.map encI_i64) 3 1 :: .box b_1 [.int .i64 r_1.1.Lo, .int .i64 r_1.1.Hi] 24 :: .row p_1 c_1 (r.Verticals.map enc_gauge_Vertical) 61 5 :: Lf) w := hc
        refine stS hf rfl rfl rfl fun a hf => ?_
        replace hf := castJ (u := .bool r_25) hb hf
        refine cNil ?_
        refine xThenN ?_
        intro ds u hau
        refine ⟨θ, he.put0 hi hau hf rfl 40 rfl rfl, ?_⟩
        show Ctx G ((bif E 29 then (gE (((((((r_18.2.2 == 0) && (r_19.2 == 0)) && (r_21.2.2 == 0)) && (r_23.2 == 0)) && (r_18.1 == 0)) && (r_18.2.1 == 2)) && (r_19.1.Lo == r_24.Lo && r_19.1.Hi == r_24.Hi)) (.row (some ⟨(θ 232).b, 0, none⟩) 2 (([1, 3] : List Int).map encI_i64) 3 1)) else .row none 0 [] 0 0) :: .row (some ⟨b_9, 0, none⟩) 5 (([0, 2, 3, 6, 6] : List Int).map encI_i64) 3 1 :: .row p_7 c_7 (r_22.Points.map enc_gauge_Point) 64 3 :: .row p_5 c_5 (r_20.Points.map enc_gauge_Point) 64 3 :: .row p_6 c_6 (r_21.1.map encI_i64) 3 1 :: .box b_8 [.int .i64 r_19.1.Lo, .int .i64 r_19.1.Hi] 24 :: .row (some ⟨b_7, 0, none⟩) 3 (([(⟨5, 9⟩ : api_Span), (⟨7, 12⟩ : api_Span), (⟨10, 11⟩ : api_Span)] : List api_Span).map enc_api_Span) 24 2 :: .box b_5 [.int .i64 r_13.1.Lo, .int .i64 r_13.1.Hi] 24 :: .box b_4 [.int .i64 r_8.1.Lo, .int .i64 r_8.1.Hi] 24 :: .row (some ⟨b_3, 0, none⟩) 1 (([(⟨(⟨0, 0⟩ : api_Span), r_4, r_5, r_6, r_7⟩ : gauge_Leg)] : List gauge_Leg).map enc_gauge_Leg) 40 10 :: .box b_2 [.int .i64 0, .int .i64 0, .int .i64 r_4.Lo, .int .i64 r_4.Hi, .int .i64 r_5.Lo, .int .i64 r_5.Hi, .int .i64 r_6.Lo, .int .i64 r_6.Hi, .int .i64 r_7.Lo, .int .i64 r_7.Hi] 40 :: .row p_2 c_2 (r_2.Verticals.map enc_gauge_Vertical) 61 5 :: .row p_3 c_3 (r_3.1.map encI_i64) 3 1 :: .row p_4 c_4 (r_3.2.1.map encI_i64) 3 1 :: .box b_1 [.int .i64 r_1.1.Lo, .int .i64 r_1.1.Hi] 24 :: .row p_1 c_1 (r.Verticals.map enc_gauge_Vertical) 61 5 :: Lf) w
        rw [e29]
        rw [gE_F hb]
        exact hc
    · intro E θ a w hD hi hp he hc
      have e27 := hp.of (k := 27) rfl
      have e30 := hp.of (k := 30) rfl
      rcases boolEq (((((((r_18.2.2 == 0) && (r_19.2 == 0)) && (r_21.2.2 == 0)) && (r_23.2 == 0)) && (r_18.1 == 0)) && (r_18.2.1 == 2)) && (r_19.1.Lo == r_24.Lo && r_19.1.Hi == r_24.Hi)) with hb | hb
      · have hf := he.h0
        replace hf := hf.more he 37 rfl (onP e27)
        replace hf := castB hb hf
        replace hf := hf.more he 40 rfl (onP e30)
        replace hf := castCT hb hf
        refine stP hf rfl rfl rfl (pPt rfl rfl) fun a hf => ?_
        replace hf := castV (v' := .bool ((((((((r_18.2.2 == 0) && (r_19.2 == 0)) && (r_21.2.2 == 0)) && (r_23.2 == 0)) && (r_18.1 == 0)) && (r_18.2.1 == 2)) && (r_19.1.Lo == r_24.Lo && r_19.1.Hi == r_24.Hi)) && r_25)) (congrArg Value.bool (andT hb)) hf
        refine cNil ?_
        refine xThenN ?_
        intro ds u hau
        refine ⟨θ, he.put0 hi hau hf rfl 41 rfl rfl, ?_⟩
        exact hc
      · have hf := he.h0
        replace hf := hf.more he 37 rfl (onP e27)
        replace hf := castB hb hf
        replace hf := hf.more he 40 rfl (onP e30)
        replace hf := castCF hb hf
        refine stP hf rfl rfl rfl (pPf rfl rfl) fun a hf => ?_
        replace hf := castV (v' := .bool ((((((((r_18.2.2 == 0) && (r_19.2 == 0)) && (r_21.2.2 == 0)) && (r_23.2 == 0)) && (r_18.1 == 0)) && (r_18.2.1 == 2)) && (r_19.1.Lo == r_24.Lo && r_19.1.Hi == r_24.Hi)) && r_25)) (congrArg Value.bool (andF hb)) hf
        refine cNil ?_
        refine xThenN ?_
        intro ds u hau
        refine ⟨θ, he.put0 hi hau hf rfl 41 rfl rfl, ?_⟩
        exact hc
    · intro E θ a w hD hi hp he hc
      have e31 := hp.of (k := 31) rfl
      have hf := he.h0
      replace hf := hf.more he 41 rfl (onP e31)
      refine stP hf rfl rfl rfl (pM rfl) fun a hf => ?_
      refine cNil ?_
      refine xThenN ?_
      intro ds u hau
      refine ⟨θ, he.put0 hi hau hf rfl 42 rfl rfl, ?_⟩
      exact hc
    · intro E θ a w hD hi hp he hc
      have e32 := hp.of (k := 32) rfl
      rcases boolEq ((((((((r_18.2.2 == 0) && (r_19.2 == 0)) && (r_21.2.2 == 0)) && (r_23.2 == 0)) && (r_18.1 == 0)) && (r_18.2.1 == 2)) && (r_19.1.Lo == r_24.Lo && r_19.1.Hi == r_24.Hi)) && r_25) with hb | hb
      · have hf := he.h0
        replace hf := hf.more he 8 rfl onT
        replace hf := hf.more he 42 rfl (onP e32)
        replace hf := castB hb hf
        refine stP hf rfl rfl rfl (pM rfl) fun a hf => ?_
        replace hf := castI (u := undef) hb hf
        refine cNil ?_
        refine xThenN ?_
        intro ds u hau
        refine ⟨θ, he.put0 hi hau hf rfl 43 rfl rfl, ?_⟩
        exact hc
      · have hf := he.h0
        replace hf := hf.more he 8 rfl onT
        replace hf := hf.more he 42 rfl (onP e32)
        replace hf := castB hb hf
        refine stS hf rfl rfl rfl fun a hf => ?_
        replace hf := castJ (u := .int .i64 r_21.2.1) hb hf
        refine cNil ?_
        refine xThenN ?_
        intro ds u hau
        refine ⟨θ, he.put0 hi hau hf rfl 43 rfl rfl, ?_⟩
        exact hc
    · intro E θ a w hD hi hp he hc
      have e32 := hp.of (k := 32) rfl
      have e33 := hp.of (k := 33) rfl
      rcases boolEq ((((((((r_18.2.2 == 0) && (r_19.2 == 0)) && (r_21.2.2 == 0)) && (r_23.2 == 0)) && (r_18.1 == 0)) && (r_18.2.1 == 2)) && (r_19.1.Lo == r_24.Lo && r_19.1.Hi == r_24.Hi)) && r_25) with hb | hb
      · have hf := he.h0
        replace hf := hf.more he 42 rfl (onP e32)
        replace hf := castB hb hf
        replace hf := hf.more he 43 rfl (onP e33)
        replace hf := castCT hb hf
        refine stP hf rfl rfl rfl (pEq rfl rfl) fun a hf => ?_
        replace hf := castI (u := undef) hb hf
        refine cNil ?_
        refine xThenN ?_
        intro ds u hau
        refine ⟨θ, he.put0 hi hau hf rfl 44 rfl rfl, ?_⟩
        exact hc
      · have hf := he.h0
        replace hf := hf.more he 42 rfl (onP e32)
        replace hf := castB hb hf
        replace hf := hf.more he 43 rfl (onP e33)
        replace hf := castCF hb hf
        refine stS hf rfl rfl rfl fun a hf => ?_
        replace hf := castJ (u := .bool (r_21.2.1 == 6)) hb hf
        refine cNil ?_
        refine xThenN ?_
        intro ds u hau
        refine ⟨θ, he.put0 hi hau hf rfl 44 rfl rfl, ?_⟩
        exact hc
    · intro E θ a w hD hi hp he hc
      have e32 := hp.of (k := 32) rfl
      have e34 := hp.of (k := 34) rfl
      rcases boolEq ((((((((r_18.2.2 == 0) && (r_19.2 == 0)) && (r_21.2.2 == 0)) && (r_23.2 == 0)) && (r_18.1 == 0)) && (r_18.2.1 == 2)) && (r_19.1.Lo == r_24.Lo && r_19.1.Hi == r_24.Hi)) && r_25) with hb | hb
      · have hf := he.h0
        replace hf := hf.more he 42 rfl (onP e32)
        replace hf := castB hb hf
        replace hf := hf.more he 44 rfl (onP e34)
        replace hf := castCT hb hf
        refine stP hf rfl rfl rfl (pPt rfl rfl) fun a hf => ?_
        replace hf := castV (v' := .bool (((((((((r_18.2.2 == 0) && (r_19.2 == 0)) && (r_21.2.2 == 0)) && (r_23.2 == 0)) && (r_18.1 == 0)) && (r_18.2.1 == 2)) && (r_19.1.Lo == r_24.Lo && r_19.1.Hi == r_24.Hi)) && r_25) && (r_21.2.1 == 6))) (congrArg Value.bool (andT hb)) hf
        refine cNil ?_
        refine xThenN ?_
        intro ds u hau
        refine ⟨θ, he.put0 hi hau hf rfl 45 rfl rfl, ?_⟩
        exact hc
      · have hf := he.h0
        replace hf := hf.more he 42 rfl (onP e32)
        replace hf := castB hb hf
        replace hf := hf.more he 44 rfl (onP e34)
        replace hf := castCF hb hf
        refine stP hf rfl rfl rfl (pPf rfl rfl) fun a hf => ?_
        replace hf := castV (v' := .bool (((((((((r_18.2.2 == 0) && (r_19.2 == 0)) && (r_21.2.2 == 0)) && (r_23.2 == 0)) && (r_18.1 == 0)) && (r_18.2.1 == 2)) && (r_19.1.Lo == r_24.Lo && r_19.1.Hi == r_24.Hi)) && r_25) && (r_21.2.1 == 6))) (congrArg Value.bool (andF hb)) hf
        refine cNil ?_
        refine xThenN ?_
        intro ds u hau
        refine ⟨θ, he.put0 hi hau hf rfl 45 rfl rfl, ?_⟩
        exact hc
    · intro E θ a w hD hi hp he hc
      have e35 := hp.of (k := 35) rfl
      have hf := he.h0
      replace hf := hf.more he 45 rfl (onP e35)
      refine stP hf rfl rfl rfl (pM rfl) fun a hf => ?_
      refine cNil ?_
      refine xThenN ?_
      intro ds u hau
      refine ⟨θ, he.put0 hi hau hf rfl 46 rfl rfl, ?_⟩
      exact hc
    · intro E θ a w hD hi hp he hc
      have e36 := hp.of (k := 36) rfl
      rcases boolEq (((((((((r_18.2.2 == 0) && (r_19.2 == 0)) && (r_21.2.2 == 0)) && (r_23.2 == 0)) && (r_18.1 == 0)) && (r_18.2.1 == 2)) && (r_19.1.Lo == r_24.Lo && r_19.1.Hi == r_24.Hi)) && r_25) && (r_21.2.1 == 6)) with hb | hb
      · have hf := he.h0
        replace hf := hf.more he 9 rfl onT
        replace hf := hf.more he 46 rfl (onP e36)
        replace hf := castB hb hf
        refine stP hf rfl rfl rfl (pM rfl) fun a hf => ?_
        replace hf := castI (u := undef) hb hf
        refine cNil ?_
        refine xThenN ?_
        intro ds u hau
        refine ⟨θ, he.put0 hi hau hf rfl 47 rfl rfl, ?_⟩
        exact hc
      · have hf := he.h0
        replace hf := hf.more he 9 rfl onT
        replace hf := hf.more he 46 rfl (onP e36)
        replace hf := castB hb hf
        refine stS hf rfl rfl rfl fun a hf => ?_
        replace hf := castJ (u := .bool r_23.1) hb hf
        refine cNil ?_
        refine xThenN ?_
        intro ds u hau
        refine ⟨θ, he.put0 hi hau hf rfl 47 rfl rfl, ?_⟩
        exact hc
    · intro E θ a w hD hi hp he hc
      have e36 := hp.of (k := 36) rfl
      have e37 := hp.of (k := 37) rfl
      rcases boolEq (((((((((r_18.2.2 == 0) && (r_19.2 == 0)) && (r_21.2.2 == 0)) && (r_23.2 == 0)) && (r_18.1 == 0)) && (r_18.2.1 == 2)) && (r_19.1.Lo == r_24.Lo && r_19.1.Hi == r_24.Hi)) && r_25) && (r_21.2.1 == 6)) with hb | hb
      · have hf := he.h0
        replace hf := hf.more he 46 rfl (onP e36)
        replace hf := castB hb hf
        replace hf := hf.more he 47 rfl (onP e37)
        replace hf := castCT hb hf
        refine stP hf rfl rfl rfl (pPt rfl rfl) fun a hf => ?_
        replace hf := castV (v' := .bool ((((((((((r_18.2.2 == 0) && (r_19.2 == 0)) && (r_21.2.2 == 0)) && (r_23.2 == 0)) && (r_18.1 == 0)) && (r_18.2.1 == 2)) && (r_19.1.Lo == r_24.Lo && r_19.1.Hi == r_24.Hi)) && r_25) && (r_21.2.1 == 6)) && r_23.1)) (congrArg Value.bool (andT hb)) hf
        refine cNil ?_
        refine xThenN ?_
        intro ds u hau
        refine ⟨θ, he.put0 hi hau hf rfl 48 rfl rfl, ?_⟩
        exact hc
      · have hf := he.h0
        replace hf := hf.more he 46 rfl (onP e36)
        replace hf := castB hb hf
        replace hf := hf.more he 47 rfl (onP e37)
        replace hf := castCF hb hf
        refine stP hf rfl rfl rfl (pPf rfl rfl) fun a hf => ?_
        replace hf := castV (v' := .bool ((((((((((r_18.2.2 == 0) && (r_19.2 == 0)) && (r_21.2.2 == 0)) && (r_23.2 == 0)) && (r_18.1 == 0)) && (r_18.2.1 == 2)) && (r_19.1.Lo == r_24.Lo && r_19.1.Hi == r_24.Hi)) && r_25) && (r_21.2.1 == 6)) && r_23.1)) (congrArg Value.bool (andF hb)) hf
        refine cNil ?_
        refine xThenN ?_
        intro ds u hau
        refine ⟨θ, he.put0 hi hau hf rfl 48 rfl rfl, ?_⟩
        exact hc
    · intro E θ a w hD hi hp he hc
      have e38 := hp.of (k := 38) rfl
      have hf := he.h0
      replace hf := hf.more he 48 rfl (onP e38)
      refine stP hf rfl rfl rfl (pA rfl) fun a hf => ?_
      refine cNil ?_
      refine xThenN ?_
      intro ds u hau
      refine ⟨θ, he.put0 hi hau hf rfl 49 rfl rfl, ?_⟩
      exact hc
    · intro E θ a w hall he hc
      have hf := he.h0
      have e29 := hall 29 rfl
      have e39 := hall 39 rfl
      replace hf := hf.more he 49 rfl (onP e39)
      replace hc : Ctx G ((bif E 29 then (gE (((((((r_18.2.2 == 0) && (r_19.2 == 0)) && (r_21.2.2 == 0)) && (r_23.2 == 0)) && (r_18.1 == 0)) && (r_18.2.1 == 2)) && (r_19.1.Lo == r_24.Lo && r_19.1.Hi == r_24.Hi)) (.row (some ⟨(θ 232).b, 0, none⟩) 2 (([1, 3] : List Int).map encI_i64) 3 1)) else .row none 0 [] 0 0) :: .row (some ⟨b_9, 0, none⟩) 5 (([0, 2, 3, 6, 6] : List Int).map encI_i64) 3 1 :: .row p_7 c_7 (r_22.Points.map enc_gauge_Point) 64 3 :: .row p_5 c_5 (r_20.Points.map enc_gauge_Point) 64 3 :: .row p_6 c_6 (r_21.1.map encI_i64) 3 1 :: .box b_8 [.int .i64 r_19.1.Lo, .int .i64 r_19.1.Hi] 24 :: .row (some ⟨b_7, 0, none⟩) 3 (([(⟨5, 9⟩ : api_Span), (⟨7, 12⟩ : api_Span), (⟨10, 11⟩ : api_Span)] : List api_Span).map enc_api_Span) 24 2 :: .box b_5 [.int .i64 r_13.1.Lo, .int .i64 r_13.1.Hi] 24 :: .box b_4 [.int .i64 r_8.1.Lo, .int .i64 r_8.1.Hi] 24 :: .row (some ⟨b_3, 0, none⟩) 1 (([(⟨(⟨0, 0⟩ : api_Span), r_4, r_5, r_6, r_7⟩ : gauge_Leg)] : List gauge_Leg).map enc_gauge_Leg) 40 10 :: .box b_2 [.int .i64 0, .int .i64 0, .int .i64 r_4.Lo, .int .i64 r_4.Hi, .int .i64 r_5.Lo, .int .i64 r_5.Hi, .int .i64 r_6.Lo, .int .i64 r_6.Hi, .int .i64 r_7.Lo, .int .i64 r_7.Hi] 40 :: .row p_2 c_2 (r_2.Verticals.map enc_gauge_Vertical) 61 5 :: .row p_3 c_3 (r_3.1.map encI_i64) 3 1 :: .row p_4 c_4 (r_3.2.1.map encI_i64) 3 1 :: .box b_1 [.int .i64 r_1.1.Lo, .int .i64 r_1.1.Hi] 24 :: .row p_1 c_1 (r.Verticals.map enc_gauge_Vertical) 61 5 :: Lf) w := hc
      rw [e29] at hc
      replace hc := hc.drop k0
      exact ⟨hf.keep ⟨rfl, trivial⟩, hc⟩
    rintro a w ⟨hf, hc⟩
    refine h15 _ _ ?_
    refine wp_ret ?_
    obtain rfl := Option.some.inj hF
    replace hc := hc.drop k14
    replace hc := hc.drop k13
    replace hc := hc.drop k12
    replace hc := hc.drop k11
    replace hc := hc.drop k10
    replace hc := hc.drop k9
    replace hc := hc.drop k8
    replace hc := hc.drop k7
    replace hc := hc.drop k6
    replace hc := hc.drop k5
    replace hc := hc.drop k4
    replace hc := hc.drop k3
    replace hc := hc.drop k2
    replace hc := hc.drop k1
    replace hc := hc.drop k0
    exact fnOut1 (by simp) rfl Try.results15 hf hc (show look _ 0 = _ from rfl) ⟨rfl, hc⟩

end Go.Nilo
