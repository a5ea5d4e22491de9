/-
  What functions of the Go text compute, as plain functions, and that they do, part 3 of 4. Conditions: what each theorem names.
-/
import Derived.Test.YtlbmcojegiabpaaDe2
import Derived.Test.YtlbmcojegiabpaaProg
set_option linter.unusedVariables false
set_option maxRecDepth 100000
set_option maxHeartbeats 4000000
namespace Go.Nilo
open Go.Proofs


def law09_awake (N : Nat)  : Option (Bool) :=
  Option.bind (law09_Two N) fun r =>
  Option.bind (share_Real N r 120) fun r_1 =>
  Option.bind (law09_Two N) fun r_2 =>
  Option.bind (law09_span N 90 185) fun r_3 =>
  Option.bind (share_Shares N r_2 r_3) fun r_4 =>
  Option.bind (law09_Two N) fun r_5 =>
  Option.bind (share_Short N r_5 120) fun r_6 =>
  Option.bind (law09_Line N) fun r_7 =>
  Option.bind (share_Debts N r_7.1 (⟨0, 0⟩ : api_Span) r_7.2) fun r_8 =>
  Option.bind (cond ((((r_1.2 != 0) || (r_4.2 != 0)) || (r_6.2 != 0)) || (r_8.2 != 0)) (some true) (Option.bind (kit_Same_int N r_1.1 ([95, 18] : List Int)) fun r_9 =>
  some (!r_9))) fun t_1 =>
  Option.bind (cond t_1 (some true) (Option.bind (kit_Same_api_Span N r_4.1 ([(⟨85, 120⟩ : api_Span), (⟨0, 54⟩ : api_Span)] : List api_Span)) fun r_10 =>
  some (!r_10))) fun t_2 =>
  Option.bind (cond (t_2 || (r_6.1 != 1)) (some true) (Option.bind (kit_Same_api_Span N r_8.1 ([(⟨(-2), 8⟩ : api_Span), (⟨(-15), (-12)⟩ : api_Span), (⟨0, 0⟩ : api_Span)] : List api_Span)) fun r_11 =>
  some (!r_11))) fun t_3 =>
  cond t_3
  (some false)
  (Option.bind (share_Payback N 100 (⟨15, 4, ([20, 30, 30, 40, 40, 40] : List Int)⟩ : share_Pact)) fun r_12 =>
  Option.bind (share_Turns N ([60, 30, 10] : List Int) 9 0) fun r_13 =>
  Option.bind (share_Turns N ([60, 30, 10] : List Int) 9 1) fun r_14 =>
  Option.bind (share_Divisors N ([60, 30, 10] : List Int) ([6, 3, 0] : List Int) 0) fun r_15 =>
  Option.bind (share_Unfair N ([60, 30, 10] : List Int) ([7, 2, 0] : List Int) 0) fun r_16 =>
  Option.bind (cond (((((r_12.2 == 0) && (r_13.2 == 0)) && (r_14.2 == 0)) && (r_15.2.2 == 0)) && (r_16.2.2 == 0)) (Option.bind (kit_Same_int N r_12.1 ([20, 20, 15, 15, 15, 15] : List Int)) fun r_17 =>
  some r_17) (some false)) fun t_4 =>
  Option.bind (cond t_4 (Option.bind (kit_Same_int N r_13.1 ([6, 3, 0] : List Int)) fun r_18 =>
  some r_18) (some false)) fun t_5 =>
  Option.bind (cond t_5 (Option.bind (kit_Same_int N r_14.1 ([5, 3, 1] : List Int)) fun r_19 =>
  some r_19) (some false)) fun t_6 =>
  some ((((t_6 && (r_15.1.N == 10 && r_15.1.D == 1)) && (r_15.2.1.N == r_15.1.N && r_15.2.1.D == r_15.1.D)) && (r_16.1 == 0)) && (r_16.2.1 == 1)))
theorem law09_awake_ok {N : Nat} {G : Pers} {Lf : List Ent} {w : World}    (hc : Ctx G (Lf) w) {res : Bool} (hF : law09_awake N = some res) : Calls Try.prog 13 #[] w (fun e w => e = .returned (.bool res) ∧ Ctx G (Lf) w) := by
  unfold law09_awake at hF
  refine fnIn (args := []) Try.func13 rfl Try.ntmps13 rfl fun a hf => ?_
  refine wp_seq_k fun K1 h1 => ?_
  refine cReg ?_
  refine stP hf rfl rfl rfl (pA rfl) fun a hf => ?_
  refine cNil ?_
  refine h1 _ _ ?_
  refine wp_seq_k fun K2 h2 => ?_
  refine cReg ?_
  obtain ⟨r, hr, hF⟩ := bnd_some hF
  refine stC (vs := []) (caps := []) hf rfl rfl rfl en_67 rfl rfl rfl rfl (law09_Two_ok hc hr) ?_
  rintro _ w ⟨p_1, c_1, rfl, hc⟩
  refine ⟨_, rfl, fun a hf => ?_⟩
  obtain ⟨r_1, hr_1, hF⟩ := bnd_some hF
  obtain ⟨G1, hle1, hrd1, hc, hth1⟩ := lend hc k0
  refine stC (vs := [.agg #[.int .i64 r.States, .slice p_1 r.Rights.length c_1], .int .i64 120]) (caps := []) hf rfl rfl rfl en_18 rfl rfl rfl rfl (share_Real_ok r 120 hrd1 hc hr_1) ?_
  rintro _ w ⟨p_2, c_2, rfl, hc⟩
  refine ⟨_, rfl, fun a hf => ?_⟩
  replace hc := hth1 _ _ hc
  refine stP hf rfl rfl rfl (pM rfl) fun a hf => ?_
  refine stP hf rfl rfl rfl (pX rfl rfl) fun a hf => ?_
  refine stP hf rfl rfl rfl (pX rfl rfl) fun a hf => ?_
  refine stP hf rfl rfl rfl (pA rfl) fun a hf => ?_
  refine stP hf rfl rfl rfl (pA rfl) fun a hf => ?_
  refine cNil ?_
  refine h2 _ _ ?_
  refine wp_seq_k fun K3 h3 => ?_
  refine cReg ?_
  obtain ⟨r_2, hr_2, hF⟩ := bnd_some hF
  refine stC (vs := []) (caps := []) hf rfl rfl rfl en_67 rfl rfl rfl rfl (law09_Two_ok hc hr_2) ?_
  rintro _ w ⟨p_3, c_3, rfl, hc⟩
  refine ⟨_, rfl, fun a hf => ?_⟩
  obtain ⟨r_3, hr_3, hF⟩ := bnd_some hF
  refine stE hf hc rfl rfl rfl (eC (v := .agg #[.int .i64 r_3.Lo, .int .i64 r_3.Hi]) (vs := [.int .i64 90, .int .i64 185]) (caps := []) en_60 rfl rfl rfl rfl (fun w hc => law09_span_ok 90 185 hc hr_3)) fun a w hf hc => ?_
  obtain ⟨r_4, hr_4, hF⟩ := bnd_some hF
  obtain ⟨G1, hle1, hrd1, hc, hth1⟩ := lend hc k0
  refine stC (vs := [.agg #[.int .i64 r_2.States, .slice p_3 r_2.Rights.length c_3], .agg #[.int .i64 r_3.Lo, .int .i64 r_3.Hi]]) (caps := []) hf rfl rfl rfl en_21 rfl rfl rfl rfl (share_Shares_ok r_2 r_3 hrd1 hc hr_4) ?_
  rintro _ w ⟨p_4, c_4, rfl, hc⟩
  refine ⟨_, rfl, fun a hf => ?_⟩
  replace hc := hth1 _ _ hc
  refine stP hf rfl rfl rfl (pM rfl) fun a hf => ?_
  refine stP hf rfl rfl rfl (pX rfl rfl) fun a hf => ?_
  refine stP hf rfl rfl rfl (pX rfl rfl) fun a hf => ?_
  refine stP hf rfl rfl rfl (pA rfl) fun a hf => ?_
  refine stP hf rfl rfl rfl (pA rfl) fun a hf => ?_
  refine cNil ?_
  refine h3 _ _ ?_
  refine wp_seq_k fun K4 h4 => ?_
  refine cReg ?_
  obtain ⟨r_5, hr_5, hF⟩ := bnd_some hF
  refine stC (vs := []) (caps := []) hf rfl rfl rfl en_67 rfl rfl rfl rfl (law09_Two_ok hc hr_5) ?_
  rintro _ w ⟨p_5, c_5, rfl, hc⟩
  refine ⟨_, rfl, fun a hf => ?_⟩
  obtain ⟨r_6, hr_6, hF⟩ := bnd_some hF
  refine stE hf hc rfl rfl rfl (eC (v := .tuple #[.int .i64 r_6.1, .int .i64 r_6.2]) (vs := [.agg #[.int .i64 r_5.States, .slice p_5 r_5.Rights.length c_5], .int .i64 120]) (caps := []) en_24 rfl rfl rfl rfl (fun w hc => by obtain ⟨G1, hle1, hrd1, hc, hth1⟩ := lend hc k0; exact (share_Short_ok r_5 120 hrd1 hc hr_6).mono fun e w h => ⟨h.1, ((hth1 _ _ h.2).unpick k0)⟩)) fun a w hf hc => ?_
  refine stP hf rfl rfl rfl (pM rfl) fun a hf => ?_
  refine stP hf rfl rfl rfl (pX rfl rfl) fun a hf => ?_
  refine stP hf rfl rfl rfl (pX rfl rfl) fun a hf => ?_
  refine stP hf rfl rfl rfl (pA rfl) fun a hf => ?_
  refine stP hf rfl rfl rfl (pA rfl) fun a hf => ?_
  refine cNil ?_
  refine h4 _ _ ?_
  refine wp_seq_k fun K5 h5 => ?_
  refine cReg ?_
  obtain ⟨r_7, hr_7, hF⟩ := bnd_some hF
  refine stC (vs := []) (caps := []) hf rfl rfl rfl en_68 rfl rfl rfl rfl (law09_Line_ok hc hr_7) ?_
  rintro _ w ⟨p_6, c_6, p_7, c_7, rfl, hc⟩
  refine ⟨_, rfl, fun a hf => ?_⟩
  refine stP hf rfl rfl rfl (pM rfl) fun a hf => ?_
  refine stP hf rfl rfl rfl (pX rfl rfl) fun a hf => ?_
  refine stP hf rfl rfl rfl (pX rfl rfl) fun a hf => ?_
  refine stAl (cs := [.slice none 0 0, .int .i64 0]) hf hc rfl rfl zr_88 rfl fun b_1 a w hf hc => ?_
  refine stSt (vs := [.slice p_6 r_7.1.Table.length c_6, .int .i64 r_7.1.Credit]) hf hc rfl rfl rfl rfl sz_88 rfl rfl u0 fun w hc => ?_
  refine stP hf rfl rfl rfl (pA rfl) fun a hf => ?_
  refine cNil ?_
  refine h5 _ _ ?_
  refine wp_seq_k fun K6 h6 => ?_
  refine cReg ?_
  refine stE hf hc rfl rfl rfl (eLdN (vs := [.slice p_6 r_7.1.Table.length c_6, .int .i64 r_7.1.Credit]) ag_88 rfl rfl (cells_box (n := 2) m0 rfl)) fun a w hf hc => ?_
  refine stP hf rfl rfl rfl (pBuildS (cells := [.int .i64 0, .int .i64 0]) bt_26 rfl rfl) fun a hf => ?_
  refine stP hf rfl rfl rfl (pM rfl) fun a hf => ?_
  obtain ⟨r_8, hr_8, hF⟩ := bnd_some hF
  obtain ⟨G1, hle1, hrd1, hc, hth1⟩ := lend hc k1
  obtain ⟨G2, hle2, hrd2, hc, hth2⟩ := lend hc k1
  refine stC (vs := [.agg #[.slice p_6 r_7.1.Table.length c_6, .int .i64 r_7.1.Credit], .agg #[.int .i64 0, .int .i64 0], .slice p_7 r_7.2.length c_7]) (caps := []) hf rfl rfl rfl en_54 rfl rfl rfl rfl (share_Debts_ok r_7.1 (⟨0, 0⟩ : api_Span) r_7.2 (hrd1.mono hle2) hrd2 hc hr_8) ?_
  rintro _ w ⟨p_8, c_8, rfl, hc⟩
  refine ⟨_, rfl, fun a hf => ?_⟩
  replace hc := hth2 _ _ hc
  replace hc := hth1 _ _ hc
  refine stP hf rfl rfl rfl (pM rfl) fun a hf => ?_
  refine stP hf rfl rfl rfl (pX rfl rfl) fun a hf => ?_
  refine stP hf rfl rfl rfl (pX rfl rfl) fun a hf => ?_
  refine stP hf rfl rfl rfl (pA rfl) fun a hf => ?_
  refine stP hf rfl rfl rfl (pA rfl) fun a hf => ?_
  refine cNil ?_
  refine h6 _ _ ?_
  refine wp_seq_k fun K7 h7 => ?_
  refine wp_seq_k fun K8 h8 => ?_
  refine cReg ?_
  refine stP hf rfl rfl rfl (pM rfl) fun a hf => ?_
  refine stP hf rfl rfl rfl (pNe rfl rfl) fun a hf => ?_
  refine stP hf rfl rfl rfl (pM rfl) fun a hf => ?_
  refine stCut 3 (fun a w => Has 168 a [(1, .slice p_2 r_1.1.length c_2), (2, .int .i64 r_1.2), (3, .slice p_4 r_4.1.length c_4), (4, .int .i64 r_4.2), (5, .int .i64 r_6.1), (6, .int .i64 r_6.2), (9, .slice p_8 r_8.1.length c_8), (10, .int .i64 r_8.2), (46, .int .i64 r_1.2), (47, .bool (r_1.2 != 0)), (48, .bool (r_1.2 != 0)), (51, .bool ((r_1.2 != 0) || (r_4.2 != 0)))] ∧ Ctx G (.row p_6 c_6 (r_7.1.Table.map enc_share_Point) 116 2 :: .row p_7 c_7 (r_7.2.map enc_share_Year) 94 5 :: .row p_8 c_8 (r_8.1.map enc_api_Span) 26 2 :: .box b_1 [.slice p_6 r_7.1.Table.length c_6, .int .i64 r_7.1.Credit] 88 :: .row p_5 c_5 (r_5.Rights.map enc_share_Right) 51 3 :: .row p_3 c_3 (r_2.Rights.map enc_share_Right) 51 3 :: .row p_4 c_4 (r_4.1.map enc_api_Span) 26 2 :: .row p_1 c_1 (r.Rights.map enc_share_Right) 51 3 :: .row p_2 c_2 (r_1.1.map encI_i64) 3 1 :: Lf) w) ?_ ?_
  · cases hb : (r_1.2 != 0)
    · rw [hb] at hf
      refine stP hf rfl rfl rfl (pM rfl) fun a hf => ?_
      refine stP hf rfl rfl rfl (pNe rfl rfl) fun a hf => ?_
      refine stP hf rfl rfl rfl (pPf rfl rfl) fun a hf => ?_
      exact cNil ⟨hf.keep ⟨rfl, rfl, rfl, rfl, rfl, rfl, rfl, rfl, rfl, rfl, rfl, rfl, trivial⟩, hc⟩
    · rw [hb] at hf
      refine stS hf rfl rfl rfl fun a hf => ?_
      refine stS hf rfl rfl rfl fun a hf => ?_
      refine stP hf rfl rfl rfl (pPt rfl rfl) fun a hf => ?_
      exact cNil ⟨hf.keep ⟨rfl, rfl, rfl, rfl, rfl, rfl, rfl, rfl, rfl, rfl, rfl, rfl, trivial⟩, hc⟩
  intro a w ⟨hf, hc⟩
  refine stP hf rfl rfl rfl (pM rfl) fun a hf => ?_
  refine stCut 3 (fun a w => Has 168 a [(1, .slice p_2 r_1.1.length c_2), (2, .int .i64 r_1.2), (3, .slice p_4 r_4.1.length c_4), (4, .int .i64 r_4.2), (5, .int .i64 r_6.1), (6, .int .i64 r_6.2), (9, .slice p_8 r_8.1.length c_8), (10, .int .i64 r_8.2), (46, .int .i64 r_1.2), (47, .bool (r_1.2 != 0)), (48, .bool (r_1.2 != 0)), (51, .bool ((r_1.2 != 0) || (r_4.2 != 0))), (52, .bool ((r_1.2 != 0) || (r_4.2 != 0))), (55, .bool (((r_1.2 != 0) || (r_4.2 != 0)) || (r_6.2 != 0)))] ∧ Ctx G (.row p_6 c_6 (r_7.1.Table.map enc_share_Point) 116 2 :: .row p_7 c_7 (r_7.2.map enc_share_Year) 94 5 :: .row p_8 c_8 (r_8.1.map enc_api_Span) 26 2 :: .box b_1 [.slice p_6 r_7.1.Table.length c_6, .int .i64 r_7.1.Credit] 88 :: .row p_5 c_5 (r_5.Rights.map enc_share_Right) 51 3 :: .row p_3 c_3 (r_2.Rights.map enc_share_Right) 51 3 :: .row p_4 c_4 (r_4.1.map enc_api_Span) 26 2 :: .row p_1 c_1 (r.Rights.map enc_share_Right) 51 3 :: .row p_2 c_2 (r_1.1.map encI_i64) 3 1 :: Lf) w) ?_ ?_
  · cases hb : ((r_1.2 != 0) || (r_4.2 != 0))
    · rw [hb] at hf
      refine stP hf rfl rfl rfl (pM rfl) fun a hf => ?_
      refine stP hf rfl rfl rfl (pNe rfl rfl) fun a hf => ?_
      refine stP hf rfl rfl rfl (pPf rfl rfl) fun a hf => ?_
      exact cNil ⟨hf.keep ⟨rfl, rfl, rfl, rfl, rfl, rfl, rfl, rfl, rfl, rfl, rfl, rfl, rfl, rfl, trivial⟩, hc⟩
    · rw [hb] at hf
      refine stS hf rfl rfl rfl fun a hf => ?_
      refine stS hf rfl rfl rfl fun a hf => ?_
      refine stP hf rfl rfl rfl (pPt rfl rfl) fun a hf => ?_
      exact cNil ⟨hf.keep ⟨rfl, rfl, rfl, rfl, rfl, rfl, rfl, rfl, rfl, rfl, rfl, rfl, rfl, rfl, trivial⟩, hc⟩
  intro a w ⟨hf, hc⟩
  refine stP hf rfl rfl rfl (pM rfl) fun a hf => ?_
  refine stCut 3 (fun a w => Has 168 a [(1, .slice p_2 r_1.1.length c_2), (2, .int .i64 r_1.2), (3, .slice p_4 r_4.1.length c_4), (4, .int .i64 r_4.2), (5, .int .i64 r_6.1), (6, .int .i64 r_6.2), (9, .slice p_8 r_8.1.length c_8), (10, .int .i64 r_8.2), (46, .int .i64 r_1.2), (47, .bool (r_1.2 != 0)), (48, .bool (r_1.2 != 0)), (51, .bool ((r_1.2 != 0) || (r_4.2 != 0))), (52, .bool ((r_1.2 != 0) || (r_4.2 != 0))), (55, .bool (((r_1.2 != 0) || (r_4.2 != 0)) || (r_6.2 != 0))), (56, .bool (((r_1.2 != 0) || (r_4.2 != 0)) || (r_6.2 != 0))), (59, .bool ((((r_1.2 != 0) || (r_4.2 != 0)) || (r_6.2 != 0)) || (r_8.2 != 0)))] ∧ Ctx G (.row p_6 c_6 (r_7.1.Table.map enc_share_Point) 116 2 :: .row p_7 c_7 (r_7.2.map enc_share_Year) 94 5 :: .row p_8 c_8 (r_8.1.map enc_api_Span) 26 2 :: .box b_1 [.slice p_6 r_7.1.Table.length c_6, .int .i64 r_7.1.Credit] 88 :: .row p_5 c_5 (r_5.Rights.map enc_share_Right) 51 3 :: .row p_3 c_3 (r_2.Rights.map enc_share_Right) 51 3 :: .row p_4 c_4 (r_4.1.map enc_api_Span) 26 2 :: .row p_1 c_1 (r.Rights.map enc_share_Right) 51 3 :: .row p_2 c_2 (r_1.1.map encI_i64) 3 1 :: Lf) w) ?_ ?_
  · cases hb : (((r_1.2 != 0) || (r_4.2 != 0)) || (r_6.2 != 0))
    · rw [hb] at hf
      refine stP hf rfl rfl rfl (pM rfl) fun a hf => ?_
      refine stP hf rfl rfl rfl (pNe rfl rfl) fun a hf => ?_
      refine stP hf rfl rfl rfl (pPf rfl rfl) fun a hf => ?_
      exact cNil ⟨hf.keep ⟨rfl, rfl, rfl, rfl, rfl, rfl, rfl, rfl, rfl, rfl, rfl, rfl, rfl, rfl, rfl, rfl, trivial⟩, hc⟩
    · rw [hb] at hf
      refine stS hf rfl rfl rfl fun a hf => ?_
      refine stS hf rfl rfl rfl fun a hf => ?_
      refine stP hf rfl rfl rfl (pPt rfl rfl) fun a hf => ?_
      exact cNil ⟨hf.keep ⟨rfl, rfl, rfl, rfl, rfl, rfl, rfl, rfl, rfl, rfl, rfl, rfl, rfl, rfl, rfl, rfl, trivial⟩, hc⟩
  intro a w ⟨hf, hc⟩
  refine stP hf rfl rfl rfl (pM rfl) fun a hf => ?_
  obtain ⟨t_1, ht_1, hF⟩ := bnd_some hF
  refine stCut 5 (fun a w => Has 168 a [(1, .slice p_2 r_1.1.length c_2), (2, .int .i64 r_1.2), (3, .slice p_4 r_4.1.length c_4), (4, .int .i64 r_4.2), (5, .int .i64 r_6.1), (6, .int .i64 r_6.2), (9, .slice p_8 r_8.1.length c_8), (10, .int .i64 r_8.2), (46, .int .i64 r_1.2), (47, .bool (r_1.2 != 0)), (48, .bool (r_1.2 != 0)), (51, .bool ((r_1.2 != 0) || (r_4.2 != 0))), (52, .bool ((r_1.2 != 0) || (r_4.2 != 0))), (55, .bool (((r_1.2 != 0) || (r_4.2 != 0)) || (r_6.2 != 0))), (56, .bool (((r_1.2 != 0) || (r_4.2 != 0)) || (r_6.2 != 0))), (59, .bool ((((r_1.2 != 0) || (r_4.2 != 0)) || (r_6.2 != 0)) || (r_8.2 != 0))), (60, .bool ((((r_1.2 != 0) || (r_4.2 != 0)) || (r_6.2 != 0)) || (r_8.2 != 0))), (65, .bool t_1)] ∧ Ctx G (.row p_6 c_6 (r_7.1.Table.map enc_share_Point) 116 2 :: .row p_7 c_7 (r_7.2.map enc_share_Year) 94 5 :: .row p_8 c_8 (r_8.1.map enc_api_Span) 26 2 :: .box b_1 [.slice p_6 r_7.1.Table.length c_6, .int .i64 r_7.1.Credit] 88 :: .row p_5 c_5 (r_5.Rights.map enc_share_Right) 51 3 :: .row p_3 c_3 (r_2.Rights.map enc_share_Right) 51 3 :: .row p_4 c_4 (r_4.1.map enc_api_Span) 26 2 :: .row p_1 c_1 (r.Rights.map enc_share_Right) 51 3 :: .row p_2 c_2 (r_1.1.map encI_i64) 3 1 :: Lf) w) ?_ ?_
  · cases hb : ((((r_1.2 != 0) || (r_4.2 != 0)) || (r_6.2 != 0)) || (r_8.2 != 0))
    · rw [hb] at hf
      have hF := condF hb ht_1
      refine stP hf rfl rfl rfl (pM rfl) fun a hf => ?_
      refine stBS (rows := ([95, 18] : List Int).map encI_i64) (vs := [(0, .int .i64 95), (1, .int .i64 18)]) hf hc rfl rfl sl_36 rfl ⟨rfl, rfl, rfl, rfl, rfl, rfl, trivial⟩ rfl rfl fun b_2 a w hf hc => ?_
      obtain ⟨r_9, hr_9, hF⟩ := bnd_some hF
      refine stE hf hc rfl rfl rfl (eC (v := .bool r_9) (vs := [.slice p_2 r_1.1.length c_2, .slice (some ⟨b_2, 0, none⟩) 2 2]) (caps := []) en_20 rfl rfl rfl rfl (fun w hc => by obtain ⟨G1, hle1, hrd1, hc, hth1⟩ := lend hc k9; obtain ⟨G2, hle2, hrd2, hc, hth2⟩ := lend hc k0; exact (kit_Same_int_ok r_1.1 ([95, 18] : List Int) (hrd1.mono hle2) hrd2 hc hr_9).mono fun e w h => ⟨h.1, ((hth1 _ _ ((hth2 _ _ h.2).unpick k0)).unpick k9)⟩)) fun a w hf hc => ?_
      refine stP hf rfl rfl rfl (pNot rfl) fun a hf => ?_
      refine stP hf rfl rfl rfl (pPf rfl rfl) fun a hf => ?_
      replace hc := hc.drop k0
      obtain rfl := Option.some.inj hF
      exact cNil ⟨hf.keep ⟨rfl, rfl, rfl, rfl, rfl, rfl, rfl, rfl, rfl, rfl, rfl, rfl, rfl, rfl, rfl, rfl, rfl, rfl, trivial⟩, hc⟩
    · rw [hb] at hf
      have hF := condT hb ht_1
      obtain rfl := Option.some.inj hF
      refine stS hf rfl rfl rfl fun a hf => ?_
      refine stS hf rfl rfl rfl fun a hf => ?_
      refine stS hf rfl rfl rfl fun a hf => ?_
      refine stS hf rfl rfl rfl fun a hf => ?_
      refine stP hf rfl rfl rfl (pPt rfl rfl) fun a hf => ?_
      exact cNil ⟨hf.keep ⟨rfl, rfl, rfl, rfl, rfl, rfl, rfl, rfl, rfl, rfl, rfl, rfl, rfl, rfl, rfl, rfl, rfl, rfl, trivial⟩, hc⟩
  intro a w ⟨hf, hc⟩
  refine stP hf rfl rfl rfl (pM rfl) fun a hf => ?_
  obtain ⟨t_2, ht_2, hF⟩ := bnd_some hF
  refine stCut 7 (fun a w => Has 168 a [(1, .slice p_2 r_1.1.length c_2), (2, .int .i64 r_1.2), (3, .slice p_4 r_4.1.length c_4), (4, .int .i64 r_4.2), (5, .int .i64 r_6.1), (6, .int .i64 r_6.2), (9, .slice p_8 r_8.1.length c_8), (10, .int .i64 r_8.2), (46, .int .i64 r_1.2), (47, .bool (r_1.2 != 0)), (48, .bool (r_1.2 != 0)), (51, .bool ((r_1.2 != 0) || (r_4.2 != 0))), (52, .bool ((r_1.2 != 0) || (r_4.2 != 0))), (55, .bool (((r_1.2 != 0) || (r_4.2 != 0)) || (r_6.2 != 0))), (56, .bool (((r_1.2 != 0) || (r_4.2 != 0)) || (r_6.2 != 0))), (59, .bool ((((r_1.2 != 0) || (r_4.2 != 0)) || (r_6.2 != 0)) || (r_8.2 != 0))), (60, .bool ((((r_1.2 != 0) || (r_4.2 != 0)) || (r_6.2 != 0)) || (r_8.2 != 0))), (65, .bool t_1), (66, .bool t_1), (73, .bool t_2)] ∧ Ctx G (.row p_6 c_6 (r_7.1.Table.map enc_share_Point) 116 2 :: .row p_7 c_7 (r_7.2.map enc_share_Year) 94 5 :: .row p_8 c_8 (r_8.1.map enc_api_Span) 26 2 :: .box b_1 [.slice p_6 r_7.1.Table.length c_6, .int .i64 r_7.1.Credit] 88 :: .row p_5 c_5 (r_5.Rights.map enc_share_Right) 51 3 :: .row p_3 c_3 (r_2.Rights.map enc_share_Right) 51 3 :: .row p_4 c_4 (r_4.1.map enc_api_Span) 26 2 :: .row p_1 c_1 (r.Rights.map enc_share_Right) 51 3 :: .row p_2 c_2 (r_1.1.map encI_i64) 3 1 :: Lf) w) ?_ ?_
  · cases hb : t_1
    · rw [hb] at hf
      have hF := condF hb ht_2
      refine stP hf rfl rfl rfl (pM rfl) fun a hf => ?_
      refine stP hf rfl rfl rfl (pBuildS (cells := [.int .i64 85, .int .i64 120]) bt_26 rfl rfl) fun a hf => ?_
      refine stP hf rfl rfl rfl (pBuildS (cells := [.int .i64 0, .int .i64 54]) bt_26 rfl rfl) fun a hf => ?_
      refine stBS (rows := ([(⟨85, 120⟩ : api_Span), (⟨0, 54⟩ : api_Span)] : List api_Span).map enc_api_Span) (vs := [(0, .agg #[.int .i64 85, .int .i64 120]), (1, .agg #[.int .i64 0, .int .i64 54])]) hf hc rfl rfl sl_41 rfl ⟨rfl, rfl, rfl, rfl, rfl, rfl, trivial⟩ rfl rfl fun b_3 a w hf hc => ?_
      obtain ⟨r_10, hr_10, hF⟩ := bnd_some hF
      refine stE hf hc rfl rfl rfl (eC (v := .bool r_10) (vs := [.slice p_4 r_4.1.length c_4, .slice (some ⟨b_3, 0, none⟩) 2 2]) (caps := []) en_23 rfl rfl rfl rfl (fun w hc => by obtain ⟨G1, hle1, hrd1, hc, hth1⟩ := lend hc k7; obtain ⟨G2, hle2, hrd2, hc, hth2⟩ := lend hc k0; exact (kit_Same_api_Span_ok r_4.1 ([(⟨85, 120⟩ : api_Span), (⟨0, 54⟩ : api_Span)] : List api_Span) (hrd1.mono hle2) hrd2 hc hr_10).mono fun e w h => ⟨h.1, ((hth1 _ _ ((hth2 _ _ h.2).unpick k0)).unpick k7)⟩)) fun a w hf hc => ?_
      refine stP hf rfl rfl rfl (pNot rfl) fun a hf => ?_
      refine stP hf rfl rfl rfl (pPf rfl rfl) fun a hf => ?_
      replace hc := hc.drop k0
      obtain rfl := Option.some.inj hF
      exact cNil ⟨hf.keep ⟨rfl, rfl, rfl, rfl, rfl, rfl, rfl, rfl, rfl, rfl, rfl, rfl, rfl, rfl, rfl, rfl, rfl, rfl, rfl, rfl, trivial⟩, hc⟩
    · rw [hb] at hf
      have hF := condT hb ht_2
      obtain rfl := Option.some.inj hF
      refine stS hf rfl rfl rfl fun a hf => ?_
      refine stS hf rfl rfl rfl fun a hf => ?_
      refine stS hf rfl rfl rfl fun a hf => ?_
      refine stS hf rfl rfl rfl fun a hf => ?_
      refine stS hf rfl rfl rfl fun a hf => ?_
      refine stS hf rfl rfl rfl fun a hf => ?_
      refine stP hf rfl rfl rfl (pPt rfl rfl) fun a hf => ?_
      exact cNil ⟨hf.keep ⟨rfl, rfl, rfl, rfl, rfl, rfl, rfl, rfl, rfl, rfl, rfl, rfl, rfl, rfl, rfl, rfl, rfl, rfl, rfl, rfl, trivial⟩, hc⟩
  intro a w ⟨hf, hc⟩
  refine stP hf rfl rfl rfl (pM rfl) fun a hf => ?_
  refine stCut 3 (fun a w => Has 168 a [(1, .slice p_2 r_1.1.length c_2), (2, .int .i64 r_1.2), (3, .slice p_4 r_4.1.length c_4), (4, .int .i64 r_4.2), (5, .int .i64 r_6.1), (6, .int .i64 r_6.2), (9, .slice p_8 r_8.1.length c_8), (10, .int .i64 r_8.2), (46, .int .i64 r_1.2), (47, .bool (r_1.2 != 0)), (48, .bool (r_1.2 != 0)), (51, .bool ((r_1.2 != 0) || (r_4.2 != 0))), (52, .bool ((r_1.2 != 0) || (r_4.2 != 0))), (55, .bool (((r_1.2 != 0) || (r_4.2 != 0)) || (r_6.2 != 0))), (56, .bool (((r_1.2 != 0) || (r_4.2 != 0)) || (r_6.2 != 0))), (59, .bool ((((r_1.2 != 0) || (r_4.2 != 0)) || (r_6.2 != 0)) || (r_8.2 != 0))), (60, .bool ((((r_1.2 != 0) || (r_4.2 != 0)) || (r_6.2 != 0)) || (r_8.2 != 0))), (65, .bool t_1), (66, .bool t_1), (73, .bool t_2), (74, .bool t_2), (77, .bool (t_2 || (r_6.1 != 1)))] ∧ Ctx G (.row p_6 c_6 (r_7.1.Table.map enc_share_Point) 116 2 :: .row p_7 c_7 (r_7.2.map enc_share_Year) 94 5 :: .row p_8 c_8 (r_8.1.map enc_api_Span) 26 2 :: .box b_1 [.slice p_6 r_7.1.Table.length c_6, .int .i64 r_7.1.Credit] 88 :: .row p_5 c_5 (r_5.Rights.map enc_share_Right) 51 3 :: .row p_3 c_3 (r_2.Rights.map enc_share_Right) 51 3 :: .row p_4 c_4 (r_4.1.map enc_api_Span) 26 2 :: .row p_1 c_1 (r.Rights.map enc_share_Right) 51 3 :: .row p_2 c_2 (r_1.1.map encI_i64) 3 1 :: Lf) w) ?_ ?_
  · cases hb : t_2
    · rw [hb] at hf
      refine stP hf rfl rfl rfl (pM rfl) fun a hf => ?_
      refine stP hf rfl rfl rfl (pNe rfl rfl) fun a hf => ?_
      refine stP hf rfl rfl rfl (pPf rfl rfl) fun a hf => ?_
      exact cNil ⟨hf.keep ⟨rfl, rfl, rfl, rfl, rfl, rfl, rfl, rfl, rfl, rfl, rfl, rfl, rfl, rfl, rfl, rfl, rfl, rfl, rfl, rfl, rfl, rfl, trivial⟩, hc⟩
    · rw [hb] at hf
      refine stS hf rfl rfl rfl fun a hf => ?_
      refine stS hf rfl rfl rfl fun a hf => ?_
      refine stP hf rfl rfl rfl (pPt rfl rfl) fun a hf => ?_
      exact cNil ⟨hf.keep ⟨rfl, rfl, rfl, rfl, rfl, rfl, rfl, rfl, rfl, rfl, rfl, rfl, rfl, rfl, rfl, rfl, rfl, rfl, rfl, rfl, rfl, rfl, trivial⟩, hc⟩
  intro a w ⟨hf, hc⟩
  refine stP hf rfl rfl rfl (pM rfl) fun a hf => ?_
  obtain ⟨t_3, ht_3, hF⟩ := bnd_some hF
  refine stCut 8 (fun a w => Has 168 a [(1, .slice p_2 r_1.1.length c_2), (2, .int .i64 r_1.2), (3, .slice p_4 r_4.1.length c_4), (4, .int .i64 r_4.2), (5, .int .i64 r_6.1), (6, .int .i64 r_6.2), (9, .slice p_8 r_8.1.length c_8), (10, .int .i64 r_8.2), (46, .int .i64 r_1.2), (47, .bool (r_1.2 != 0)), (48, .bool (r_1.2 != 0)), (51, .bool ((r_1.2 != 0) || (r_4.2 != 0))), (52, .bool ((r_1.2 != 0) || (r_4.2 != 0))), (55, .bool (((r_1.2 != 0) || (r_4.2 != 0)) || (r_6.2 != 0))), (56, .bool (((r_1.2 != 0) || (r_4.2 != 0)) || (r_6.2 != 0))), (59, .bool ((((r_1.2 != 0) || (r_4.2 != 0)) || (r_6.2 != 0)) || (r_8.2 != 0))), (60, .bool ((((r_1.2 != 0) || (r_4.2 != 0)) || (r_6.2 != 0)) || (r_8.2 != 0))), (65, .bool t_1), (66, .bool t_1), (73, .bool t_2), (74, .bool t_2), (77, .bool (t_2 || (r_6.1 != 1))), (78, .bool (t_2 || (r_6.1 != 1))), (86, .bool t_3)] ∧ Ctx G (.row p_6 c_6 (r_7.1.Table.map enc_share_Point) 116 2 :: .row p_7 c_7 (r_7.2.map enc_share_Year) 94 5 :: .row p_8 c_8 (r_8.1.map enc_api_Span) 26 2 :: .box b_1 [.slice p_6 r_7.1.Table.length c_6, .int .i64 r_7.1.Credit] 88 :: .row p_5 c_5 (r_5.Rights.map enc_share_Right) 51 3 :: .row p_3 c_3 (r_2.Rights.map enc_share_Right) 51 3 :: .row p_4 c_4 (r_4.1.map enc_api_Span) 26 2 :: .row p_1 c_1 (r.Rights.map enc_share_Right) 51 3 :: .row p_2 c_2 (r_1.1.map encI_i64) 3 1 :: Lf) w) ?_ ?_
  · cases hb : (t_2 || (r_6.1 != 1))
    · rw [hb] at hf
      have hF := condF hb ht_3
      refine stP hf rfl rfl rfl (pM rfl) fun a hf => ?_
      refine stP hf rfl rfl rfl (pBuildS (cells := [.int .i64 (-2), .int .i64 8]) bt_26 rfl rfl) fun a hf => ?_
      refine stP hf rfl rfl rfl (pBuildS (cells := [.int .i64 (-15), .int .i64 (-12)]) bt_26 rfl rfl) fun a hf => ?_
      refine stP hf rfl rfl rfl (pBuildS (cells := [.int .i64 0, .int .i64 0]) bt_26 rfl rfl) fun a hf => ?_
      refine stBS (rows := ([(⟨(-2), 8⟩ : api_Span), (⟨(-15), (-12)⟩ : api_Span), (⟨0, 0⟩ : api_Span)] : List api_Span).map enc_api_Span) (vs := [(0, .agg #[.int .i64 (-2), .int .i64 8]), (1, .agg #[.int .i64 (-15), .int .i64 (-12)]), (2, .agg #[.int .i64 0, .int .i64 0])]) hf hc rfl rfl sl_41 rfl ⟨rfl, rfl, rfl, rfl, rfl, rfl, rfl, rfl, rfl, trivial⟩ rfl rfl fun b_4 a w hf hc => ?_
      obtain ⟨r_11, hr_11, hF⟩ := bnd_some hF
      refine stE hf hc rfl rfl rfl (eC (v := .bool r_11) (vs := [.slice p_8 r_8.1.length c_8, .slice (some ⟨b_4, 0, none⟩) 3 3]) (caps := []) en_23 rfl rfl rfl rfl (fun w hc => by obtain ⟨G1, hle1, hrd1, hc, hth1⟩ := lend hc k3; obtain ⟨G2, hle2, hrd2, hc, hth2⟩ := lend hc k0; exact (kit_Same_api_Span_ok r_8.1 ([(⟨(-2), 8⟩ : api_Span), (⟨(-15), (-12)⟩ : api_Span), (⟨0, 0⟩ : api_Span)] : List api_Span) (hrd1.mono hle2) hrd2 hc hr_11).mono fun e w h => ⟨h.1, ((hth1 _ _ ((hth2 _ _ h.2).unpick k0)).unpick k3)⟩)) fun a w hf hc => ?_
      refine stP hf rfl rfl rfl (pNot rfl) fun a hf => ?_
      refine stP hf rfl rfl rfl (pPf rfl rfl) fun a hf => ?_
      replace hc := hc.drop k0
      obtain rfl := Option.some.inj hF
      exact cNil ⟨hf.keep ⟨rfl, rfl, rfl, rfl, rfl, rfl, rfl, rfl, rfl, rfl, rfl, rfl, rfl, rfl, rfl, rfl, rfl, rfl, rfl, rfl, rfl, rfl, rfl, rfl, trivial⟩, hc⟩
    · rw [hb] at hf
      have hF := condT hb ht_3
      obtain rfl := Option.some.inj hF
      refine stS hf rfl rfl rfl fun a hf => ?_
      refine stS hf rfl rfl rfl fun a hf => ?_
      refine stS hf rfl rfl rfl fun a hf => ?_
      refine stS hf rfl rfl rfl fun a hf => ?_
      refine stS hf rfl rfl rfl fun a hf => ?_
      refine stS hf rfl rfl rfl fun a hf => ?_
      refine stS hf rfl rfl rfl fun a hf => ?_
      refine stP hf rfl rfl rfl (pPt rfl rfl) fun a hf => ?_
      exact cNil ⟨hf.keep ⟨rfl, rfl, rfl, rfl, rfl, rfl, rfl, rfl, rfl, rfl, rfl, rfl, rfl, rfl, rfl, rfl, rfl, rfl, rfl, rfl, rfl, rfl, rfl, rfl, trivial⟩, hc⟩
  intro a w ⟨hf, hc⟩
  refine cNil ?_
  refine h8 _ _ ?_
  refine cCond (b := t_3) hf rfl (fun hb => ?_) (fun hb => ?_)
  · replace hF := condT hb hF
    clear hb
    refine wp_seq_k fun K9 h9 => ?_
    refine cReg ?_
    refine stP hf rfl rfl rfl (pA rfl) fun a hf => ?_
    refine cNil ?_
    refine h9 _ _ ?_
    refine wp_ret ?_
    refine xThenR ?_
    obtain rfl := Option.some.inj hF
    replace hc := hc.drop k8
    replace hc := hc.drop k7
    replace hc := hc.drop k6
    replace hc := hc.drop k5
    replace hc := hc.drop k4
    replace hc := hc.drop k3
    replace hc := hc.drop k2
    replace hc := hc.drop k1
    replace hc := hc.drop k0
    exact fnOut1 (by simp) rfl Try.results13 hf hc (show look _ 0 = _ from rfl) ⟨rfl, hc⟩
  · replace hF := condF hb hF
    clear hb
    refine wp_skip ?_
    refine h7 _ _ ?_
    refine wp_seq_k fun K10 h10 => ?_
    refine cReg ?_
    refine stBS (rows := ([20, 30, 30, 40, 40, 40] : List Int).map encI_i64) (vs := [(0, .int .i64 20), (1, .int .i64 30), (2, .int .i64 30), (3, .int .i64 40), (4, .int .i64 40), (5, .int .i64 40)]) hf hc rfl rfl sl_36 rfl ⟨rfl, rfl, rfl, rfl, rfl, rfl, rfl, rfl, rfl, rfl, rfl, rfl, rfl, rfl, rfl, rfl, rfl, rfl, trivial⟩ rfl rfl fun b_5 a w hf hc => ?_
    refine stP hf rfl rfl rfl (pBuildS (cells := [.int .i64 15, .int .i64 4, .slice (some ⟨b_5, 0, none⟩) 6 6]) bt_59 rfl rfl) fun a hf => ?_
    obtain ⟨r_12, hr_12, hF⟩ := bnd_some hF
    obtain ⟨G1, hle1, hrd1, hc, hth1⟩ := lend hc k0
    refine stC (vs := [.int .i64 100, .agg #[.int .i64 15, .int .i64 4, .slice (some ⟨b_5, 0, none⟩) 6 6]]) (caps := []) hf rfl rfl rfl en_30 rfl rfl rfl rfl (share_Payback_ok 100 (⟨15, 4, ([20, 30, 30, 40, 40, 40] : List Int)⟩ : share_Pact) hrd1 hc hr_12) ?_
    rintro _ w ⟨p_9, c_9, rfl, hc⟩
    refine ⟨_, rfl, fun a hf => ?_⟩
    replace hc := hth1 _ _ hc
    refine stP hf rfl rfl rfl (pM rfl) fun a hf => ?_
    refine stP hf rfl rfl rfl (pX rfl rfl) fun a hf => ?_
    refine stP hf rfl rfl rfl (pX rfl rfl) fun a hf => ?_
    refine stP hf rfl rfl rfl (pA rfl) fun a hf => ?_
    refine stP hf rfl rfl rfl (pA rfl) fun a hf => ?_
    refine cNil ?_
    refine h10 _ _ ?_
    refine wp_seq_k fun K11 h11 => ?_
    refine cReg ?_
    refine stBS (rows := ([60, 30, 10] : List Int).map encI_i64) (vs := [(0, .int .i64 60), (1, .int .i64 30), (2, .int .i64 10)]) hf hc rfl rfl sl_36 rfl ⟨rfl, rfl, rfl, rfl, rfl, rfl, rfl, rfl, rfl, trivial⟩ rfl rfl fun b_6 a w hf hc => ?_
    obtain ⟨r_13, hr_13, hF⟩ := bnd_some hF
    obtain ⟨G1, hle1, hrd1, hc, hth1⟩ := lend hc k0
    refine stC (vs := [.slice (some ⟨b_6, 0, none⟩) 3 3, .int .i64 9, .int .i64 0]) (caps := []) hf rfl rfl rfl en_34 rfl rfl rfl rfl (share_Turns_ok ([60, 30, 10] : List Int) 9 0 hrd1 hc hr_13) ?_
    rintro _ w ⟨p_10, c_10, rfl, hc⟩
    refine ⟨_, rfl, fun a hf => ?_⟩
    replace hc := hth1 _ _ hc
    refine stP hf rfl rfl rfl (pM rfl) fun a hf => ?_
    refine stP hf rfl rfl rfl (pX rfl rfl) fun a hf => ?_
    refine stP hf rfl rfl rfl (pX rfl rfl) fun a hf => ?_
    refine stP hf rfl rfl rfl (pA rfl) fun a hf => ?_
    refine stP hf rfl rfl rfl (pA rfl) fun a hf => ?_
    refine cNil ?_
    refine h11 _ _ ?_
    refine wp_seq_k fun K12 h12 => ?_
    refine cReg ?_
    refine stBS (rows := ([60, 30, 10] : List Int).map encI_i64) (vs := [(0, .int .i64 60), (1, .int .i64 30), (2, .int .i64 10)]) hf hc rfl rfl sl_36 rfl ⟨rfl, rfl, rfl, rfl, rfl, rfl, rfl, rfl, rfl, trivial⟩ rfl rfl fun b_7 a w hf hc => ?_
    obtain ⟨r_14, hr_14, hF⟩ := bnd_some hF
    obtain ⟨G1, hle1, hrd1, hc, hth1⟩ := lend hc k0
    refine stC (vs := [.slice (some ⟨b_7, 0, none⟩) 3 3, .int .i64 9, .int .i64 1]) (caps := []) hf rfl rfl rfl en_34 rfl rfl rfl rfl (share_Turns_ok ([60, 30, 10] : List Int) 9 1 hrd1 hc hr_14) ?_
    rintro _ w ⟨p_11, c_11, rfl, hc⟩
    refine ⟨_, rfl, fun a hf => ?_⟩
    replace hc := hth1 _ _ hc
    refine stP hf rfl rfl rfl (pM rfl) fun a hf => ?_
    refine stP hf rfl rfl rfl (pX rfl rfl) fun a hf => ?_
    refine stP hf rfl rfl rfl (pX rfl rfl) fun a hf => ?_
    refine stP hf rfl rfl rfl (pA rfl) fun a hf => ?_
    refine stP hf rfl rfl rfl (pA rfl) fun a hf => ?_
    refine cNil ?_
    refine h12 _ _ ?_
    refine wp_seq_k fun K13 h13 => ?_
    refine cReg ?_
    refine stBS (rows := ([60, 30, 10] : List Int).map encI_i64) (vs := [(0, .int .i64 60), (1, .int .i64 30), (2, .int .i64 10)]) hf hc rfl rfl sl_36 rfl ⟨rfl, rfl, rfl, rfl, rfl, rfl, rfl, rfl, rfl, trivial⟩ rfl rfl fun b_8 a w hf hc => ?_
    refine stBS (rows := ([6, 3, 0] : List Int).map encI_i64) (vs := [(0, .int .i64 6), (1, .int .i64 3), (2, .int .i64 0)]) hf hc rfl rfl sl_36 rfl ⟨rfl, rfl, rfl, rfl, rfl, rfl, rfl, rfl, rfl, trivial⟩ rfl rfl fun b_9 a w hf hc => ?_
    obtain ⟨r_15, hr_15, hF⟩ := bnd_some hF
    refine stE hf hc rfl rfl rfl (eC (v := .tuple #[.agg #[.int .i64 r_15.1.N, .int .i64 r_15.1.D], .agg #[.int .i64 r_15.2.1.N, .int .i64 r_15.2.1.D], .int .i64 r_15.2.2]) (vs := [.slice (some ⟨b_8, 0, none⟩) 3 3, .slice (some ⟨b_9, 0, none⟩) 3 3, .int .i64 0]) (caps := []) en_39 rfl rfl rfl rfl (fun w hc => by obtain ⟨G1, hle1, hrd1, hc, hth1⟩ := lend hc k1; obtain ⟨G2, hle2, hrd2, hc, hth2⟩ := lend hc k0; exact (share_Divisors_ok ([60, 30, 10] : List Int) ([6, 3, 0] : List Int) 0 (hrd1.mono hle2) hrd2 hc hr_15).mono fun e w h => ⟨h.1, ((hth1 _ _ ((hth2 _ _ h.2).unpick k0)).unpick k1)⟩)) fun a w hf hc => ?_
    refine stP hf rfl rfl rfl (pM rfl) fun a hf => ?_
    refine stP hf rfl rfl rfl (pX rfl rfl) fun a hf => ?_
    refine stP hf rfl rfl rfl (pX rfl rfl) fun a hf => ?_
    refine stP hf rfl rfl rfl (pX rfl rfl) fun a hf => ?_
    refine stAl (cs := [.int .i64 0, .int .i64 0]) hf hc rfl rfl zr_71 rfl fun b_10 a w hf hc => ?_
    refine stAl (cs := [.int .i64 0, .int .i64 0]) hf hc rfl rfl zr_71 rfl fun b_11 a w hf hc => ?_
    refine stSt (vs := [.int .i64 r_15.1.N, .int .i64 r_15.1.D]) hf hc rfl rfl rfl rfl sz_71 rfl rfl u1 fun w hc => ?_
    refine stSt (vs := [.int .i64 r_15.2.1.N, .int .i64 r_15.2.1.D]) hf hc rfl rfl rfl rfl sz_71 rfl rfl u0 fun w hc => ?_
    refine stP hf rfl rfl rfl (pA rfl) fun a hf => ?_
    refine cNil ?_
    refine h13 _ _ ?_
    refine wp_seq_k fun K14 h14 => ?_
    refine cReg ?_
    refine stBS (rows := ([60, 30, 10] : List Int).map encI_i64) (vs := [(0, .int .i64 60), (1, .int .i64 30), (2, .int .i64 10)]) hf hc rfl rfl sl_36 rfl ⟨rfl, rfl, rfl, rfl, rfl, rfl, rfl, rfl, rfl, trivial⟩ rfl rfl fun b_12 a w hf hc => ?_
    refine stBS (rows := ([7, 2, 0] : List Int).map encI_i64) (vs := [(0, .int .i64 7), (1, .int .i64 2), (2, .int .i64 0)]) hf hc rfl rfl sl_36 rfl ⟨rfl, rfl, rfl, rfl, rfl, rfl, rfl, rfl, rfl, trivial⟩ rfl rfl fun b_13 a w hf hc => ?_
    obtain ⟨r_16, hr_16, hF⟩ := bnd_some hF
    refine stE hf hc rfl rfl rfl (eC (v := .tuple #[.int .i64 r_16.1, .int .i64 r_16.2.1, .int .i64 r_16.2.2]) (vs := [.slice (some ⟨b_12, 0, none⟩) 3 3, .slice (some ⟨b_13, 0, none⟩) 3 3, .int .i64 0]) (caps := []) en_37 rfl rfl rfl rfl (fun w hc => by obtain ⟨G1, hle1, hrd1, hc, hth1⟩ := lend hc k1; obtain ⟨G2, hle2, hrd2, hc, hth2⟩ := lend hc k0; exact (share_Unfair_ok ([60, 30, 10] : List Int) ([7, 2, 0] : List Int) 0 (hrd1.mono hle2) hrd2 hc hr_16).mono fun e w h => ⟨h.1, ((hth1 _ _ ((hth2 _ _ h.2).unpick k0)).unpick k1)⟩)) fun a w hf hc => ?_
    refine stP hf rfl rfl rfl (pM rfl) fun a hf => ?_
    refine stP hf rfl rfl rfl (pX rfl rfl) fun a hf => ?_
    refine stP hf rfl rfl rfl (pX rfl rfl) fun a hf => ?_
    refine stP hf rfl rfl rfl (pX rfl rfl) fun a hf => ?_
    refine stP hf rfl rfl rfl (pA rfl) fun a hf => ?_
    refine stP hf rfl rfl rfl (pA rfl) fun a hf => ?_
    refine stP hf rfl rfl rfl (pA rfl) fun a hf => ?_
    refine cNil ?_
    refine h14 _ _ ?_
    refine wp_seq_k fun K15 h15 => ?_
    refine cReg ?_
    refine stP hf rfl rfl rfl (pM rfl) fun a hf => ?_
    refine stP hf rfl rfl rfl (pEq rfl rfl) fun a hf => ?_
    refine stP hf rfl rfl rfl (pM rfl) fun a hf => ?_
    refine stCut 3 (fun a w => Has 168 a [(2, .int .i64 r_12.2), (4, .int .i64 r_13.2), (6, .int .i64 r_14.2), (10, .int .i64 r_15.2.2), (11, .slice p_9 r_12.1.length c_9), (12, .slice p_10 r_13.1.length c_10), (13, .slice p_11 r_14.1.length c_11), (14, .pointer (some ⟨b_10, 0, none⟩)), (15, .pointer (some ⟨b_11, 0, none⟩)), (16, .int .i64 r_16.1), (17, .int .i64 r_16.2.1), (18, .int .i64 r_16.2.2), (117, .int .i64 r_12.2), (118, .bool (r_12.2 == 0)), (119, .bool (r_12.2 == 0)), (122, .bool ((r_12.2 == 0) && (r_13.2 == 0)))] ∧ Ctx G (.row (some ⟨b_13, 0, none⟩) 3 (([7, 2, 0] : List Int).map encI_i64) 3 1 :: .row (some ⟨b_12, 0, none⟩) 3 (([60, 30, 10] : List Int).map encI_i64) 3 1 :: .box b_11 [.int .i64 r_15.2.1.N, .int .i64 r_15.2.1.D] 71 :: .box b_10 [.int .i64 r_15.1.N, .int .i64 r_15.1.D] 71 :: .row (some ⟨b_9, 0, none⟩) 3 (([6, 3, 0] : List Int).map encI_i64) 3 1 :: .row (some ⟨b_8, 0, none⟩) 3 (([60, 30, 10] : List Int).map encI_i64) 3 1 :: .row (some ⟨b_7, 0, none⟩) 3 (([60, 30, 10] : List Int).map encI_i64) 3 1 :: .row p_11 c_11 (r_14.1.map encI_i64) 3 1 :: .row (some ⟨b_6, 0, none⟩) 3 (([60, 30, 10] : List Int).map encI_i64) 3 1 :: .row p_10 c_10 (r_13.1.map encI_i64) 3 1 :: .row (some ⟨b_5, 0, none⟩) 6 (([20, 30, 30, 40, 40, 40] : List Int).map encI_i64) 3 1 :: .row p_9 c_9 (r_12.1.map encI_i64) 3 1 :: .row p_6 c_6 (r_7.1.Table.map enc_share_Point) 116 2 :: .row p_7 c_7 (r_7.2.map enc_share_Year) 94 5 :: .row p_8 c_8 (r_8.1.map enc_api_Span) 26 2 :: .box b_1 [.slice p_6 r_7.1.Table.length c_6, .int .i64 r_7.1.Credit] 88 :: .row p_5 c_5 (r_5.Rights.map enc_share_Right) 51 3 :: .row p_3 c_3 (r_2.Rights.map enc_share_Right) 51 3 :: .row p_4 c_4 (r_4.1.map enc_api_Span) 26 2 :: .row p_1 c_1 (r.Rights.map enc_share_Right) 51 3 :: .row p_2 c_2 (r_1.1.map encI_i64) 3 1 :: Lf) w) ?_ ?_
    · cases hb : (r_12.2 == 0)
      · rw [hb] at hf
        refine stS hf rfl rfl rfl fun a hf => ?_
        refine stS hf rfl rfl rfl fun a hf => ?_
        refine stP hf rfl rfl rfl (pPf rfl rfl) fun a hf => ?_
        exact cNil ⟨hf.keep ⟨rfl, rfl, rfl, rfl, rfl, rfl, rfl, rfl, rfl, rfl, rfl, rfl, rfl, rfl, rfl, rfl, trivial⟩, hc⟩
      · rw [hb] at hf
        refine stP hf rfl rfl rfl (pM rfl) fun a hf => ?_
        refine stP hf rfl rfl rfl (pEq rfl rfl) fun a hf => ?_
        refine stP hf rfl rfl rfl (pPt rfl rfl) fun a hf => ?_
        exact cNil ⟨hf.keep ⟨rfl, rfl, rfl, rfl, rfl, rfl, rfl, rfl, rfl, rfl, rfl, rfl, rfl, rfl, rfl, rfl, trivial⟩, hc⟩
    intro a w ⟨hf, hc⟩
    refine stP hf rfl rfl rfl (pM rfl) fun a hf => ?_
    refine stCut 3 (fun a w => Has 168 a [(2, .int .i64 r_12.2), (4, .int .i64 r_13.2), (6, .int .i64 r_14.2), (10, .int .i64 r_15.2.2), (11, .slice p_9 r_12.1.length c_9), (12, .slice p_10 r_13.1.length c_10), (13, .slice p_11 r_14.1.length c_11), (14, .pointer (some ⟨b_10, 0, none⟩)), (15, .pointer (some ⟨b_11, 0, none⟩)), (16, .int .i64 r_16.1), (17, .int .i64 r_16.2.1), (18, .int .i64 r_16.2.2), (117, .int .i64 r_12.2), (118, .bool (r_12.2 == 0)), (119, .bool (r_12.2 == 0)), (122, .bool ((r_12.2 == 0) && (r_13.2 == 0))), (123, .bool ((r_12.2 == 0) && (r_13.2 == 0))), (126, .bool (((r_12.2 == 0) && (r_13.2 == 0)) && (r_14.2 == 0)))] ∧ Ctx G (.row (some ⟨b_13, 0, none⟩) 3 (([7, 2, 0] : List Int).map encI_i64) 3 1 :: .row (some ⟨b_12, 0, none⟩) 3 (([60, 30, 10] : List Int).map encI_i64) 3 1 :: .box b_11 [.int .i64 r_15.2.1.N, .int .i64 r_15.2.1.D] 71 :: .box b_10 [.int .i64 r_15.1.N, .int .i64 r_15.1.D] 71 :: .row (some ⟨b_9, 0, none⟩) 3 (([6, 3, 0] : List Int).map encI_i64) 3 1 :: .row (some ⟨b_8, 0, none⟩) 3 (([60, 30, 10] : List Int).map encI_i64) 3 1 :: .row (some ⟨b_7, 0, none⟩) 3 (([60, 30, 10] : List Int).map encI_i64) 3 1 :: .row p_11 c_11 (r_14.1.map encI_i64) 3 1 :: .row (some ⟨b_6, 0, none⟩) 3 (([60, 30, 10] : List Int).map encI_i64) 3 1 :: .row p_10 c_10 (r_13.1.map encI_i64) 3 1 :: .row (some ⟨b_5, 0, none⟩) 6 (([20, 30, 30, 40, 40, 40] : List Int).map encI_i64) 3 1 :: .row p_9 c_9 (r_12.1.map encI_i64) 3 1 :: .row p_6 c_6 (r_7.1.Table.map enc_share_Point) 116 2 :: .row p_7 c_7 (r_7.2.map enc_share_Year) 94 5 :: .row p_8 c_8 (r_8.1.map enc_api_Span) 26 2 :: .box b_1 [.slice p_6 r_7.1.Table.length c_6, .int .i64 r_7.1.Credit] 88 :: .row p_5 c_5 (r_5.Rights.map enc_share_Right) 51 3 :: .row p_3 c_3 (r_2.Rights.map enc_share_Right) 51 3 :: .row p_4 c_4 (r_4.1.map enc_api_Span) 26 2 :: .row p_1 c_1 (r.Rights.map enc_share_Right) 51 3 :: .row p_2 c_2 (r_1.1.map encI_i64) 3 1 :: Lf) w) ?_ ?_
    · cases hb : ((r_12.2 == 0) && (r_13.2 == 0))
      · rw [hb] at hf
        refine stS hf rfl rfl rfl fun a hf => ?_
        refine stS hf rfl rfl rfl fun a hf => ?_
        refine stP hf rfl rfl rfl (pPf rfl rfl) fun a hf => ?_
        exact cNil ⟨hf.keep ⟨rfl, rfl, rfl, rfl, rfl, rfl, rfl, rfl, rfl, rfl, rfl, rfl, rfl, rfl, rfl, rfl, rfl, rfl, trivial⟩, hc⟩
      · rw [hb] at hf
        refine stP hf rfl rfl rfl (pM rfl) fun a hf => ?_
        refine stP hf rfl rfl rfl (pEq rfl rfl) fun a hf => ?_
        refine stP hf rfl rfl rfl (pPt rfl rfl) fun a hf => ?_
        exact cNil ⟨hf.keep ⟨rfl, rfl, rfl, rfl, rfl, rfl, rfl, rfl, rfl, rfl, rfl, rfl, rfl, rfl, rfl, rfl, rfl, rfl, trivial⟩, hc⟩
    intro a w ⟨hf, hc⟩
    refine stP hf rfl rfl rfl (pM rfl) fun a hf => ?_
    refine stCut 3 (fun a w => Has 168 a [(2, .int .i64 r_12.2), (4, .int .i64 r_13.2), (6, .int .i64 r_14.2), (10, .int .i64 r_15.2.2), (11, .slice p_9 r_12.1.length c_9), (12, .slice p_10 r_13.1.length c_10), (13, .slice p_11 r_14.1.length c_11), (14, .pointer (some ⟨b_10, 0, none⟩)), (15, .pointer (some ⟨b_11, 0, none⟩)), (16, .int .i64 r_16.1), (17, .int .i64 r_16.2.1), (18, .int .i64 r_16.2.2), (117, .int .i64 r_12.2), (118, .bool (r_12.2 == 0)), (119, .bool (r_12.2 == 0)), (122, .bool ((r_12.2 == 0) && (r_13.2 == 0))), (123, .bool ((r_12.2 == 0) && (r_13.2 == 0))), (126, .bool (((r_12.2 == 0) && (r_13.2 == 0)) && (r_14.2 == 0))), (127, .bool (((r_12.2 == 0) && (r_13.2 == 0)) && (r_14.2 == 0))), (130, .bool ((((r_12.2 == 0) && (r_13.2 == 0)) && (r_14.2 == 0)) && (r_15.2.2 == 0)))] ∧ Ctx G (.row (some ⟨b_13, 0, none⟩) 3 (([7, 2, 0] : List Int).map encI_i64) 3 1 :: .row (some ⟨b_12, 0, none⟩) 3 (([60, 30, 10] : List Int).map encI_i64) 3 1 :: .box b_11 [.int .i64 r_15.2.1.N, .int .i64 r_15.2.1.D] 71 :: .box b_10 [.int .i64 r_15.1.N, .int .i64 r_15.1.D] 71 :: .row (some ⟨b_9, 0, none⟩) 3 (([6, 3, 0] : List Int).map encI_i64) 3 1 :: .row (some ⟨b_8, 0, none⟩) 3 (([60, 30, 10] : List Int).map encI_i64) 3 1 :: .row (some ⟨b_7, 0, none⟩) 3 (([60, 30, 10] : List Int).map encI_i64) 3 1 :: .row p_11 c_11 (r_14.1.map encI_i64) 3 1 :: .row (some ⟨b_6, 0, none⟩) 3 (([60, 30, 10] : List Int).map encI_i64) 3 1 :: .row p_10 c_10 (r_13.1.map encI_i64) 3 1 :: .row (some ⟨b_5, 0, none⟩) 6 (([20, 30, 30, 40, 40, 40] : List Int).map encI_i64) 3 1 :: .row p_9 c_9 (r_12.1.map encI_i64) 3 1 :: .row p_6 c_6 (r_7.1.Table.map enc_share_Point) 116 2 :: .row p_7 c_7 (r_7.2.map enc_share_Year) 94 5 :: .row p_8 c_8 (r_8.1.map enc_api_Span) 26 2 :: .box b_1 [.slice p_6 r_7.1.Table.length c_6, .int .i64 r_7.1.Credit] 88 :: .row p_5 c_5 (r_5.Rights.map enc_share_Right) 51 3 :: .row p_3 c_3 (r_2.Rights.map enc_share_Right) 51 3 :: .row p_4 c_4 (r_4.1.map enc_api_Span) 26 2 :: .row p_1 c_1 (r.Rights.map enc_share_Right) 51 3 :: .row p_2 c_2 (r_1.1.map encI_i64) 3 1 :: Lf) w) ?_ ?_
    · cases hb : (((r_12.2 == 0) && (r_13.2 == 0)) && (r_14.2 == 0))
      · rw [hb] at hf
        refine stS hf rfl rfl rfl fun a hf => ?_
        refine stS hf rfl rfl rfl fun a hf => ?_
        refine stP hf rfl rfl rfl (pPf rfl rfl) fun a hf => ?_
        exact cNil ⟨hf.keep ⟨rfl, rfl, rfl, rfl, rfl, rfl, rfl, rfl, rfl, rfl, rfl, rfl, rfl, rfl, rfl, rfl, rfl, rfl, rfl, rfl, trivial⟩, hc⟩
      · rw [hb] at hf
        refine stP hf rfl rfl rfl (pM rfl) fun a hf => ?_
        refine stP hf rfl rfl rfl (pEq rfl rfl) fun a hf => ?_
        refine stP hf rfl rfl rfl (pPt rfl rfl) fun a hf => ?_
        exact cNil ⟨hf.keep ⟨rfl, rfl, rfl, rfl, rfl, rfl, rfl, rfl, rfl, rfl, rfl, rfl, rfl, rfl, rfl, rfl, rfl, rfl, rfl, rfl, trivial⟩, hc⟩
    intro a w ⟨hf, hc⟩
    refine stP hf rfl rfl rfl (pM rfl) fun a hf => ?_
    refine stCut 3 (fun a w => Has 168 a [(2, .int .i64 r_12.2), (4, .int .i64 r_13.2), (6, .int .i64 r_14.2), (10, .int .i64 r_15.2.2), (11, .slice p_9 r_12.1.length c_9), (12, .slice p_10 r_13.1.length c_10), (13, .slice p_11 r_14.1.length c_11), (14, .pointer (some ⟨b_10, 0, none⟩)), (15, .pointer (some ⟨b_11, 0, none⟩)), (16, .int .i64 r_16.1), (17, .int .i64 r_16.2.1), (18, .int .i64 r_16.2.2), (117, .int .i64 r_12.2), (118, .bool (r_12.2 == 0)), (119, .bool (r_12.2 == 0)), (122, .bool ((r_12.2 == 0) && (r_13.2 == 0))), (123, .bool ((r_12.2 == 0) && (r_13.2 == 0))), (126, .bool (((r_12.2 == 0) && (r_13.2 == 0)) && (r_14.2 == 0))), (127, .bool (((r_12.2 == 0) && (r_13.2 == 0)) && (r_14.2 == 0))), (130, .bool ((((r_12.2 == 0) && (r_13.2 == 0)) && (r_14.2 == 0)) && (r_15.2.2 == 0))), (131, .bool ((((r_12.2 == 0) && (r_13.2 == 0)) && (r_14.2 == 0)) && (r_15.2.2 == 0))), (134, .bool (((((r_12.2 == 0) && (r_13.2 == 0)) && (r_14.2 == 0)) && (r_15.2.2 == 0)) && (r_16.2.2 == 0)))] ∧ Ctx G (.row (some ⟨b_13, 0, none⟩) 3 (([7, 2, 0] : List Int).map encI_i64) 3 1 :: .row (some ⟨b_12, 0, none⟩) 3 (([60, 30, 10] : List Int).map encI_i64) 3 1 :: .box b_11 [.int .i64 r_15.2.1.N, .int .i64 r_15.2.1.D] 71 :: .box b_10 [.int .i64 r_15.1.N, .int .i64 r_15.1.D] 71 :: .row (some ⟨b_9, 0, none⟩) 3 (([6, 3, 0] : List Int).map encI_i64) 3 1 :: .row (some ⟨b_8, 0, none⟩) 3 (([60, 30, 10] : List Int).map encI_i64) 3 1 :: .row (some ⟨b_7, 0, none⟩) 3 (([60, 30, 10] : List Int).map encI_i64) 3 1 :: .row p_11 c_11 (r_14.1.map encI_i64) 3 1 :: .row (some ⟨b_6, 0, none⟩) 3 (([60, 30, 10] : List Int).map encI_i64) 3 1 :: .row p_10 c_10 (r_13.1.map encI_i64) 3 1 :: .row (some ⟨b_5, 0, none⟩) 6 (([20, 30, 30, 40, 40, 40] : List Int).map encI_i64) 3 1 :: .row p_9 c_9 (r_12.1.map encI_i64) 3 1 :: .row p_6 c_6 (r_7.1.Table.map enc_share_Point) 116 2 :: .row p_7 c_7 (r_7.2.map enc_share_Year) 94 5 :: .row p_8 c_8 (r_8.1.map enc_api_Span) 26 2 :: .box b_1 [.slice p_6 r_7.1.Table.length c_6, .int .i64 r_7.1.Credit] 88 :: .row p_5 c_5 (r_5.Rights.map enc_share_Right) 51 3 :: .row p_3 c_3 (r_2.Rights.map enc_share_Right) 51 3 :: .row p_4 c_4 (r_4.1.map enc_api_Span) 26 2 :: .row p_1 c_1 (r.Rights.map enc_share_Right) 51 3 :: .row p_2 c_2 (r_1.1.map encI_i64) 3 1 :: Lf) w) ?_ ?_
    · cases hb : ((((r_12.2 == 0) && (r_13.2 == 0)) && (r_14.2 == 0)) && (r_15.2.2 == 0))
      · rw [hb] at hf
        refine stS hf rfl rfl rfl fun a hf => ?_
        refine stS hf rfl rfl rfl fun a hf => ?_
        refine stP hf rfl rfl rfl (pPf rfl rfl) fun a hf => ?_
        exact cNil ⟨hf.keep ⟨rfl, rfl, rfl, rfl, rfl, rfl, rfl, rfl, rfl, rfl, rfl, rfl, rfl, rfl, rfl, rfl, rfl, rfl, rfl, rfl, rfl, rfl, trivial⟩, hc⟩
      · rw [hb] at hf
        refine stP hf rfl rfl rfl (pM rfl) fun a hf => ?_
        refine stP hf rfl rfl rfl (pEq rfl rfl) fun a hf => ?_
        refine stP hf rfl rfl rfl (pPt rfl rfl) fun a hf => ?_
        exact cNil ⟨hf.keep ⟨rfl, rfl, rfl, rfl, rfl, rfl, rfl, rfl, rfl, rfl, rfl, rfl, rfl, rfl, rfl, rfl, rfl, rfl, rfl, rfl, rfl, rfl, trivial⟩, hc⟩
    intro a w ⟨hf, hc⟩
    refine stP hf rfl rfl rfl (pM rfl) fun a hf => ?_
    obtain ⟨t_4, ht_4, hF⟩ := bnd_some hF
    refine stCut 4 (fun a w => Has 168 a [(2, .int .i64 r_12.2), (4, .int .i64 r_13.2), (6, .int .i64 r_14.2), (10, .int .i64 r_15.2.2), (11, .slice p_9 r_12.1.length c_9), (12, .slice p_10 r_13.1.length c_10), (13, .slice p_11 r_14.1.length c_11), (14, .pointer (some ⟨b_10, 0, none⟩)), (15, .pointer (some ⟨b_11, 0, none⟩)), (16, .int .i64 r_16.1), (17, .int .i64 r_16.2.1), (18, .int .i64 r_16.2.2), (117, .int .i64 r_12.2), (118, .bool (r_12.2 == 0)), (119, .bool (r_12.2 == 0)), (122, .bool ((r_12.2 == 0) && (r_13.2 == 0))), (123, .bool ((r_12.2 == 0) && (r_13.2 == 0))), (126, .bool (((r_12.2 == 0) && (r_13.2 == 0)) && (r_14.2 == 0))), (127, .bool (((r_12.2 == 0) && (r_13.2 == 0)) && (r_14.2 == 0))), (130, .bool ((((r_12.2 == 0) && (r_13.2 == 0)) && (r_14.2 == 0)) && (r_15.2.2 == 0))), (131, .bool ((((r_12.2 == 0) && (r_13.2 == 0)) && (r_14.2 == 0)) && (r_15.2.2 == 0))), (134, .bool (((((r_12.2 == 0) && (r_13.2 == 0)) && (r_14.2 == 0)) && (r_15.2.2 == 0)) && (r_16.2.2 == 0))), (135, .bool (((((r_12.2 == 0) && (r_13.2 == 0)) && (r_14.2 == 0)) && (r_15.2.2 == 0)) && (r_16.2.2 == 0))), (139, .bool t_4)] ∧ Ctx G (.row (some ⟨b_13, 0, none⟩) 3 (([7, 2, 0] : List Int).map encI_i64) 3 1 :: .row (some ⟨b_12, 0, none⟩) 3 (([60, 30, 10] : List Int).map encI_i64) 3 1 :: .box b_11 [.int .i64 r_15.2.1.N, .int .i64 r_15.2.1.D] 71 :: .box b_10 [.int .i64 r_15.1.N, .int .i64 r_15.1.D] 71 :: .row (some ⟨b_9, 0, none⟩) 3 (([6, 3, 0] : List Int).map encI_i64) 3 1 :: .row (some ⟨b_8, 0, none⟩) 3 (([60, 30, 10] : List Int).map encI_i64) 3 1 :: .row (some ⟨b_7, 0, none⟩) 3 (([60, 30, 10] : List Int).map encI_i64) 3 1 :: .row p_11 c_11 (r_14.1.map encI_i64) 3 1 :: .row (some ⟨b_6, 0, none⟩) 3 (([60, 30, 10] : List Int).map encI_i64) 3 1 :: .row p_10 c_10 (r_13.1.map encI_i64) 3 1 :: .row (some ⟨b_5, 0, none⟩) 6 (([20, 30, 30, 40, 40, 40] : List Int).map encI_i64) 3 1 :: .row p_9 c_9 (r_12.1.map encI_i64) 3 1 :: .row p_6 c_6 (r_7.1.Table.map enc_share_Point) 116 2 :: .row p_7 c_7 (r_7.2.map enc_share_Year) 94 5 :: .row p_8 c_8 (r_8.1.map enc_api_Span) 26 2 :: .box b_1 [.slice p_6 r_7.1.Table.length c_6, .int .i64 r_7.1.Credit] 88 :: .row p_5 c_5 (r_5.Rights.map enc_share_Right) 51 3 :: .row p_3 c_3 (r_2.Rights.map enc_share_Right) 51 3 :: .row p_4 c_4 (r_4.1.map enc_api_Span) 26 2 :: .row p_1 c_1 (r.Rights.map enc_share_Right) 51 3 :: .row p_2 c_2 (r_1.1.map encI_i64) 3 1 :: Lf) w) ?_ ?_
    · cases hb : (((((r_12.2 == 0) && (r_13.2 == 0)) && (r_14.2 == 0)) && (r_15.2.2 == 0)) && (r_16.2.2 == 0))
      · rw [hb] at hf
        have hF := condF hb ht_4
        obtain rfl := Option.some.inj hF
        refine stS hf rfl rfl rfl fun a hf => ?_
        refine stS hf rfl rfl rfl fun a hf => ?_
        refine stS hf rfl rfl rfl fun a hf => ?_
        refine stP hf rfl rfl rfl (pPf rfl rfl) fun a hf => ?_
        exact cNil ⟨hf.keep ⟨rfl, rfl, rfl, rfl, rfl, rfl, rfl, rfl, rfl, rfl, rfl, rfl, rfl, rfl, rfl, rfl, rfl, rfl, rfl, rfl, rfl, rfl, rfl, rfl, trivial⟩, hc⟩
      · rw [hb] at hf
        have hF := condT hb ht_4
        refine stP hf rfl rfl rfl (pM rfl) fun a hf => ?_
        refine stBS (rows := ([20, 20, 15, 15, 15, 15] : List Int).map encI_i64) (vs := [(0, .int .i64 20), (1, .int .i64 20), (2, .int .i64 15), (3, .int .i64 15), (4, .int .i64 15), (5, .int .i64 15)]) hf hc rfl rfl sl_36 rfl ⟨rfl, rfl, rfl, rfl, rfl, rfl, rfl, rfl, rfl, rfl, rfl, rfl, rfl, rfl, rfl, rfl, rfl, rfl, trivial⟩ rfl rfl fun b_14 a w hf hc => ?_
        obtain ⟨r_17, hr_17, hF⟩ := bnd_some hF
        refine stE hf hc rfl rfl rfl (eC (v := .bool r_17) (vs := [.slice p_9 r_12.1.length c_9, .slice (some ⟨b_14, 0, none⟩) 6 6]) (caps := []) en_20 rfl rfl rfl rfl (fun w hc => by obtain ⟨G1, hle1, hrd1, hc, hth1⟩ := lend hc k12; obtain ⟨G2, hle2, hrd2, hc, hth2⟩ := lend hc k0; exact (kit_Same_int_ok r_12.1 ([20, 20, 15, 15, 15, 15] : List Int) (hrd1.mono hle2) hrd2 hc hr_17).mono fun e w h => ⟨h.1, ((hth1 _ _ ((hth2 _ _ h.2).unpick k0)).unpick k12)⟩)) fun a w hf hc => ?_
        refine stP hf rfl rfl rfl (pPt rfl rfl) fun a hf => ?_
        replace hc := hc.drop k0
        obtain rfl := Option.some.inj hF
        exact cNil ⟨hf.keep ⟨rfl, rfl, rfl, rfl, rfl, rfl, rfl, rfl, rfl, rfl, rfl, rfl, rfl, rfl, rfl, rfl, rfl, rfl, rfl, rfl, rfl, rfl, rfl, rfl, trivial⟩, hc⟩
    intro a w ⟨hf, hc⟩
    refine stP hf rfl rfl rfl (pM rfl) fun a hf => ?_
    obtain ⟨t_5, ht_5, hF⟩ := bnd_some hF
    refine stCut 4 (fun a w => Has 168 a [(2, .int .i64 r_12.2), (4, .int .i64 r_13.2), (6, .int .i64 r_14.2), (10, .int .i64 r_15.2.2), (11, .slice p_9 r_12.1.length c_9), (12, .slice p_10 r_13.1.length c_10), (13, .slice p_11 r_14.1.length c_11), (14, .pointer (some ⟨b_10, 0, none⟩)), (15, .pointer (some ⟨b_11, 0, none⟩)), (16, .int .i64 r_16.1), (17, .int .i64 r_16.2.1), (18, .int .i64 r_16.2.2), (117, .int .i64 r_12.2), (118, .bool (r_12.2 == 0)), (119, .bool (r_12.2 == 0)), (122, .bool ((r_12.2 == 0) && (r_13.2 == 0))), (123, .bool ((r_12.2 == 0) && (r_13.2 == 0))), (126, .bool (((r_12.2 == 0) && (r_13.2 == 0)) && (r_14.2 == 0))), (127, .bool (((r_12.2 == 0) && (r_13.2 == 0)) && (r_14.2 == 0))), (130, .bool ((((r_12.2 == 0) && (r_13.2 == 0)) && (r_14.2 == 0)) && (r_15.2.2 == 0))), (131, .bool ((((r_12.2 == 0) && (r_13.2 == 0)) && (r_14.2 == 0)) && (r_15.2.2 == 0))), (134, .bool (((((r_12.2 == 0) && (r_13.2 == 0)) && (r_14.2 == 0)) && (r_15.2.2 == 0)) && (r_16.2.2 == 0))), (135, .bool (((((r_12.2 == 0) && (r_13.2 == 0)) && (r_14.2 == 0)) && (r_15.2.2 == 0)) && (r_16.2.2 == 0))), (139, .bool t_4), (140, .bool t_4), (144, .bool t_5)] ∧ Ctx G (.row (some ⟨b_13, 0, none⟩) 3 (([7, 2, 0] : List Int).map encI_i64) 3 1 :: .row (some ⟨b_12, 0, none⟩) 3 (([60, 30, 10] : List Int).map encI_i64) 3 1 :: .box b_11 [.int .i64 r_15.2.1.N, .int .i64 r_15.2.1.D] 71 :: .box b_10 [.int .i64 r_15.1.N, .int .i64 r_15.1.D] 71 :: .row (some ⟨b_9, 0, none⟩) 3 (([6, 3, 0] : List Int).map encI_i64) 3 1 :: .row (some ⟨b_8, 0, none⟩) 3 (([60, 30, 10] : List Int).map encI_i64) 3 1 :: .row (some ⟨b_7, 0, none⟩) 3 (([60, 30, 10] : List Int).map encI_i64) 3 1 :: .row p_11 c_11 (r_14.1.map encI_i64) 3 1 :: .row (some ⟨b_6, 0, none⟩) 3 (([60, 30, 10] : List Int).map encI_i64) 3 1 :: .row p_10 c_10 (r_13.1.map encI_i64) 3 1 :: .row (some ⟨b_5, 0, none⟩) 6 (([20, 30, 30, 40, 40, 40] : List Int).map encI_i64) 3 1 :: .row p_9 c_9 (r_12.1.map encI_i64) 3 1 :: .row p_6 c_6 (r_7.1.Table.map enc_share_Point) 116 2 :: .row p_7 c_7 (r_7.2.map enc_share_Year) 94 5 :: .row p_8 c_8 (r_8.1.map enc_api_Span) 26 2 :: .box b_1 [.slice p_6 r_7.1.Table.length c_6, .int .i64 r_7.1.Credit] 88 :: .row p_5 c_5 (r_5.Rights.map enc_share_Right) 51 3 :: .row p_3 c_3 (r_2.Rights.map enc_share_Right) 51 3 :: .row p_4 c_4 (r_4.1.map enc_api_Span) 26 2 :: .row p_1 c_1 (r.Rights.map enc_share_Right) 51 3 :: .row p_2 c_2 (r_1.1.map encI_i64) 3 1 :: Lf) w) ?_ ?_
    · cases hb : t_4
      · rw [hb] at hf
        have hF := condF hb ht_5
        obtain rfl := Option.some.inj hF
        refine stS hf rfl rfl rfl fun a hf => ?_
        refine stS hf rfl rfl rfl fun a hf => ?_
        refine stS hf rfl rfl rfl fun a hf => ?_
        refine stP hf rfl rfl rfl (pPf rfl rfl) fun a hf => ?_
        exact cNil ⟨hf.keep ⟨rfl, rfl, rfl, rfl, rfl, rfl, rfl, rfl, rfl, rfl, rfl, rfl, rfl, rfl, rfl, rfl, rfl, rfl, rfl, rfl, rfl, rfl, rfl, rfl, rfl, rfl, trivial⟩, hc⟩
      · rw [hb] at hf
        have hF := condT hb ht_5
        refine stP hf rfl rfl rfl (pM rfl) fun a hf => ?_
        refine stBS (rows := ([6, 3, 0] : List Int).map encI_i64) (vs := [(0, .int .i64 6), (1, .int .i64 3), (2, .int .i64 0)]) hf hc rfl rfl sl_36 rfl ⟨rfl, rfl, rfl, rfl, rfl, rfl, rfl, rfl, rfl, trivial⟩ rfl rfl fun b_15 a w hf hc => ?_
        obtain ⟨r_18, hr_18, hF⟩ := bnd_some hF
        refine stE hf hc rfl rfl rfl (eC (v := .bool r_18) (vs := [.slice p_10 r_13.1.length c_10, .slice (some ⟨b_15, 0, none⟩) 3 3]) (caps := []) en_20 rfl rfl rfl rfl (fun w hc => by obtain ⟨G1, hle1, hrd1, hc, hth1⟩ := lend hc k10; obtain ⟨G2, hle2, hrd2, hc, hth2⟩ := lend hc k0; exact (kit_Same_int_ok r_13.1 ([6, 3, 0] : List Int) (hrd1.mono hle2) hrd2 hc hr_18).mono fun e w h => ⟨h.1, ((hth1 _ _ ((hth2 _ _ h.2).unpick k0)).unpick k10)⟩)) fun a w hf hc => ?_
        refine stP hf rfl rfl rfl (pPt rfl rfl) fun a hf => ?_
        replace hc := hc.drop k0
        obtain rfl := Option.some.inj hF
        exact cNil ⟨hf.keep ⟨rfl, rfl, rfl, rfl, rfl, rfl, rfl, rfl, rfl, rfl, rfl, rfl, rfl, rfl, rfl, rfl, rfl, rfl, rfl, rfl, rfl, rfl, rfl, rfl, rfl, rfl, trivial⟩, hc⟩
    intro a w ⟨hf, hc⟩
    refine stP hf rfl rfl rfl (pM rfl) fun a hf => ?_
    obtain ⟨t_6, ht_6, hF⟩ := bnd_some hF
    refine stCut 4 (fun a w => Has 168 a [(2, .int .i64 r_12.2), (4, .int .i64 r_13.2), (6, .int .i64 r_14.2), (10, .int .i64 r_15.2.2), (11, .slice p_9 r_12.1.length c_9), (12, .slice p_10 r_13.1.length c_10), (13, .slice p_11 r_14.1.length c_11), (14, .pointer (some ⟨b_10, 0, none⟩)), (15, .pointer (some ⟨b_11, 0, none⟩)), (16, .int .i64 r_16.1), (17, .int .i64 r_16.2.1), (18, .int .i64 r_16.2.2), (117, .int .i64 r_12.2), (118, .bool (r_12.2 == 0)), (119, .bool (r_12.2 == 0)), (122, .bool ((r_12.2 == 0) && (r_13.2 == 0))), (123, .bool ((r_12.2 == 0) && (r_13.2 == 0))), (126, .bool (((r_12.2 == 0) && (r_13.2 == 0)) && (r_14.2 == 0))), (127, .bool (((r_12.2 == 0) && (r_13.2 == 0)) && (r_14.2 == 0))), (130, .bool ((((r_12.2 == 0) && (r_13.2 == 0)) && (r_14.2 == 0)) && (r_15.2.2 == 0))), (131, .bool ((((r_12.2 == 0) && (r_13.2 == 0)) && (r_14.2 == 0)) && (r_15.2.2 == 0))), (134, .bool (((((r_12.2 == 0) && (r_13.2 == 0)) && (r_14.2 == 0)) && (r_15.2.2 == 0)) && (r_16.2.2 == 0))), (135, .bool (((((r_12.2 == 0) && (r_13.2 == 0)) && (r_14.2 == 0)) && (r_15.2.2 == 0)) && (r_16.2.2 == 0))), (139, .bool t_4), (140, .bool t_4), (144, .bool t_5), (145, .bool t_5), (149, .bool t_6)] ∧ Ctx G (.row (some ⟨b_13, 0, none⟩) 3 (([7, 2, 0] : List Int).map encI_i64) 3 1 :: .row (some ⟨b_12, 0, none⟩) 3 (([60, 30, 10] : List Int).map encI_i64) 3 1 :: .box b_11 [.int .i64 r_15.2.1.N, .int .i64 r_15.2.1.D] 71 :: .box b_10 [.int .i64 r_15.1.N, .int .i64 r_15.1.D] 71 :: .row (some ⟨b_9, 0, none⟩) 3 (([6, 3, 0] : List Int).map encI_i64) 3 1 :: .row (some ⟨b_8, 0, none⟩) 3 (([60, 30, 10] : List Int).map encI_i64) 3 1 :: .row (some ⟨b_7, 0, none⟩) 3 (([60, 30, 10] : List Int).map encI_i64) 3 1 :: .row p_11 c_11 (r_14.1.map encI_i64) 3 1 :: .row (some ⟨b_6, 0, none⟩) 3 (([60, 30, 10] : List Int).map encI_i64) 3 1 :: .row p_10 c_10 (r_13.1.map encI_i64) 3 1 :: .row (some ⟨b_5, 0, none⟩) 6 (([20, 30, 30, 40, 40, 40] : List Int).map encI_i64) 3 1 :: .row p_9 c_9 (r_12.1.map encI_i64) 3 1 :: .row p_6 c_6 (r_7.1.Table.map enc_share_Point) 116 2 :: .row p_7 c_7 (r_7.2.map enc_share_Year) 94 5 :: .row p_8 c_8 (r_8.1.map enc_api_Span) 26 2 :: .box b_1 [.slice p_6 r_7.1.Table.length c_6, .int .i64 r_7.1.Credit] 88 :: .row p_5 c_5 (r_5.Rights.map enc_share_Right) 51 3 :: .row p_3 c_3 (r_2.Rights.map enc_share_Right) 51 3 :: .row p_4 c_4 (r_4.1.map enc_api_Span) 26 2 :: .row p_1 c_1 (r.Rights.map enc_share_Right) 51 3 :: .row p_2 c_2 (r_1.1.map encI_i64) 3 1 :: Lf) w) ?_ ?_
    · cases hb : t_5
      · rw [hb] at hf
        have hF := condF hb ht_6
        obtain rfl := Option.some.inj hF
        refine stS hf rfl rfl rfl fun a hf => ?_
        refine stS hf rfl rfl rfl fun a hf => ?_
        refine stS hf rfl rfl rfl fun a hf => ?_
        refine stP hf rfl rfl rfl (pPf rfl rfl) fun a hf => ?_
        exact cNil ⟨hf.keep ⟨rfl, rfl, rfl, rfl, rfl, rfl, rfl, rfl, rfl, rfl, rfl, rfl, rfl, rfl, rfl, rfl, rfl, rfl, rfl, rfl, rfl, rfl, rfl, rfl, rfl, rfl, rfl, rfl, trivial⟩, hc⟩
      · rw [hb] at hf
        have hF := condT hb ht_6
        refine stP hf rfl rfl rfl (pM rfl) fun a hf => ?_
        refine stBS (rows := ([5, 3, 1] : List Int).map encI_i64) (vs := [(0, .int .i64 5), (1, .int .i64 3), (2, .int .i64 1)]) hf hc rfl rfl sl_36 rfl ⟨rfl, rfl, rfl, rfl, rfl, rfl, rfl, rfl, rfl, trivial⟩ rfl rfl fun b_16 a w hf hc => ?_
        obtain ⟨r_19, hr_19, hF⟩ := bnd_some hF
        refine stE hf hc rfl rfl rfl (eC (v := .bool r_19) (vs := [.slice p_11 r_14.1.length c_11, .slice (some ⟨b_16, 0, none⟩) 3 3]) (caps := []) en_20 rfl rfl rfl rfl (fun w hc => by obtain ⟨G1, hle1, hrd1, hc, hth1⟩ := lend hc k8; obtain ⟨G2, hle2, hrd2, hc, hth2⟩ := lend hc k0; exact (kit_Same_int_ok r_14.1 ([5, 3, 1] : List Int) (hrd1.mono hle2) hrd2 hc hr_19).mono fun e w h => ⟨h.1, ((hth1 _ _ ((hth2 _ _ h.2).unpick k0)).unpick k8)⟩)) fun a w hf hc => ?_
        refine stP hf rfl rfl rfl (pPt rfl rfl) fun a hf => ?_
        replace hc := hc.drop k0
        obtain rfl := Option.some.inj hF
        exact cNil ⟨hf.keep ⟨rfl, rfl, rfl, rfl, rfl, rfl, rfl, rfl, rfl, rfl, rfl, rfl, rfl, rfl, rfl, rfl, rfl, rfl, rfl, rfl, rfl, rfl, rfl, rfl, rfl, rfl, rfl, rfl, trivial⟩, hc⟩
    intro a w ⟨hf, hc⟩
    refine stP hf rfl rfl rfl (pM rfl) fun a hf => ?_
    refine stCut 4 (fun a w => Has 168 a ((2, .int .i64 r_12.2) :: (4, .int .i64 r_13.2) :: (6, .int .i64 r_14.2) :: (10, .int .i64 r_15.2.2) :: (11, .slice p_9 r_12.1.length c_9) :: (12, .slice p_10 r_13.1.length c_10) :: (13, .slice p_11 r_14.1.length c_11) :: (14, .pointer (some ⟨b_10, 0, none⟩)) :: (15, .pointer (some ⟨b_11, 0, none⟩)) :: (16, .int .i64 r_16.1) :: (17, .int .i64 r_16.2.1) :: (18, .int .i64 r_16.2.2) :: (117, .int .i64 r_12.2) :: (118, .bool (r_12.2 == 0)) :: (119, .bool (r_12.2 == 0)) :: (122, .bool ((r_12.2 == 0) && (r_13.2 == 0))) :: (123, .bool ((r_12.2 == 0) && (r_13.2 == 0))) :: (126, .bool (((r_12.2 == 0) && (r_13.2 == 0)) && (r_14.2 == 0))) :: (127, .bool (((r_12.2 == 0) && (r_13.2 == 0)) && (r_14.2 == 0))) :: (130, .bool ((((r_12.2 == 0) && (r_13.2 == 0)) && (r_14.2 == 0)) && (r_15.2.2 == 0))) :: (131, .bool ((((r_12.2 == 0) && (r_13.2 == 0)) && (r_14.2 == 0)) && (r_15.2.2 == 0))) :: (134, .bool (((((r_12.2 == 0) && (r_13.2 == 0)) && (r_14.2 == 0)) && (r_15.2.2 == 0)) && (r_16.2.2 == 0))) :: (135, .bool (((((r_12.2 == 0) && (r_13.2 == 0)) && (r_14.2 == 0)) && (r_15.2.2 == 0)) && (r_16.2.2 == 0))) :: (139, .bool t_4) :: (140, .bool t_4) :: (144, .bool t_5) :: (145, .bool t_5) :: (149, .bool t_6) :: (150, .bool t_6) :: (154, .bool (t_6 && (r_15.1.N == 10 && r_15.1.D == 1))) :: []) ∧ Ctx G (.row (some ⟨b_13, 0, none⟩) 3 (([7, 2, 0] : List Int).map encI_i64) 3 1 :: .row (some ⟨b_12, 0, none⟩) 3 (([60, 30, 10] : List Int).map encI_i64) 3 1 :: .box b_11 [.int .i64 r_15.2.1.N, .int .i64 r_15.2.1.D] 71 :: .box b_10 [.int .i64 r_15.1.N, .int .i64 r_15.1.D] 71 :: .row (some ⟨b_9, 0, none⟩) 3 (([6, 3, 0] : List Int).map encI_i64) 3 1 :: .row (some ⟨b_8, 0, none⟩) 3 (([60, 30, 10] : List Int).map encI_i64) 3 1 :: .row (some ⟨b_7, 0, none⟩) 3 (([60, 30, 10] : List Int).map encI_i64) 3 1 :: .row p_11 c_11 (r_14.1.map encI_i64) 3 1 :: .row (some ⟨b_6, 0, none⟩) 3 (([60, 30, 10] : List Int).map encI_i64) 3 1 :: .row p_10 c_10 (r_13.1.map encI_i64) 3 1 :: .row (some ⟨b_5, 0, none⟩) 6 (([20, 30, 30, 40, 40, 40] : List Int).map encI_i64) 3 1 :: .row p_9 c_9 (r_12.1.map encI_i64) 3 1 :: .row p_6 c_6 (r_7.1.Table.map enc_share_Point) 116 2 :: .row p_7 c_7 (r_7.2.map enc_share_Year) 94 5 :: .row p_8 c_8 (r_8.1.map enc_api_Span) 26 2 :: .box b_1 [.slice p_6 r_7.1.Table.length c_6, .int .i64 r_7.1.Credit] 88 :: .row p_5 c_5 (r_5.Rights.map enc_share_Right) 51 3 :: .row p_3 c_3 (r_2.Rights.map enc_share_Right) 51 3 :: .row p_4 c_4 (r_4.1.map enc_api_Span) 26 2 :: .row p_1 c_1 (r.Rights.map enc_share_Right) 51 3 :: .row p_2 c_2 (r_1.1.map encI_i64) 3 1 :: Lf) w) ?_ ?_
    · cases hb : t_6
      · rw [hb] at hf
        refine stS hf rfl rfl rfl fun a hf => ?_
        refine stS hf rfl rfl rfl fun a hf => ?_
        refine stS hf rfl rfl rfl fun a hf => ?_
        refine stP hf rfl rfl rfl (pPf rfl rfl) fun a hf => ?_
        exact cNil ⟨hf.keep ⟨rfl, rfl, rfl, rfl, rfl, rfl, rfl, rfl, rfl, rfl, rfl, rfl, rfl, rfl, rfl, rfl, rfl, rfl, rfl, rfl, rfl, rfl, rfl, rfl, rfl, rfl, rfl, rfl, rfl, rfl, trivial⟩, hc⟩
      · rw [hb] at hf
        refine stE hf hc rfl rfl rfl (eLdN (vs := [.int .i64 r_15.1.N, .int .i64 r_15.1.D]) ag_71 rfl rfl (cells_box (n := 2) m3 rfl)) fun a w hf hc => ?_
        refine stP hf rfl rfl rfl (pBuildS (cells := [.int .i64 10, .int .i64 1]) bt_71 rfl rfl) fun a hf => ?_
        refine stP hf rfl rfl rfl (pEqA ge_71 rfl rfl (eqs_71 _ _ _ _)) fun a hf => ?_
        refine stP hf rfl rfl rfl (pPt rfl rfl) fun a hf => ?_
        exact cNil ⟨hf.keep ⟨rfl, rfl, rfl, rfl, rfl, rfl, rfl, rfl, rfl, rfl, rfl, rfl, rfl, rfl, rfl, rfl, rfl, rfl, rfl, rfl, rfl, rfl, rfl, rfl, rfl, rfl, rfl, rfl, rfl, rfl, trivial⟩, hc⟩
    intro a w ⟨hf, hc⟩
    refine stP hf rfl rfl rfl (pM rfl) fun a hf => ?_
    refine stCut 4 (fun a w => Has 168 a ((2, .int .i64 r_12.2) :: (4, .int .i64 r_13.2) :: (6, .int .i64 r_14.2) :: (10, .int .i64 r_15.2.2) :: (11, .slice p_9 r_12.1.length c_9) :: (12, .slice p_10 r_13.1.length c_10) :: (13, .slice p_11 r_14.1.length c_11) :: (14, .pointer (some ⟨b_10, 0, none⟩)) :: (15, .pointer (some ⟨b_11, 0, none⟩)) :: (16, .int .i64 r_16.1) :: (17, .int .i64 r_16.2.1) :: (18, .int .i64 r_16.2.2) :: (117, .int .i64 r_12.2) :: (118, .bool (r_12.2 == 0)) :: (119, .bool (r_12.2 == 0)) :: (122, .bool ((r_12.2 == 0) && (r_13.2 == 0))) :: (123, .bool ((r_12.2 == 0) && (r_13.2 == 0))) :: (126, .bool (((r_12.2 == 0) && (r_13.2 == 0)) && (r_14.2 == 0))) :: (127, .bool (((r_12.2 == 0) && (r_13.2 == 0)) && (r_14.2 == 0))) :: (130, .bool ((((r_12.2 == 0) && (r_13.2 == 0)) && (r_14.2 == 0)) && (r_15.2.2 == 0))) :: (131, .bool ((((r_12.2 == 0) && (r_13.2 == 0)) && (r_14.2 == 0)) && (r_15.2.2 == 0))) :: (134, .bool (((((r_12.2 == 0) && (r_13.2 == 0)) && (r_14.2 == 0)) && (r_15.2.2 == 0)) && (r_16.2.2 == 0))) :: (135, .bool (((((r_12.2 == 0) && (r_13.2 == 0)) && (r_14.2 == 0)) && (r_15.2.2 == 0)) && (r_16.2.2 == 0))) :: (139, .bool t_4) :: (140, .bool t_4) :: (144, .bool t_5) :: (145, .bool t_5) :: (149, .bool t_6) :: (150, .bool t_6) :: (154, .bool (t_6 && (r_15.1.N == 10 && r_15.1.D == 1))) :: (155, .bool (t_6 && (r_15.1.N == 10 && r_15.1.D == 1))) :: (159, .bool ((t_6 && (r_15.1.N == 10 && r_15.1.D == 1)) && (r_15.2.1.N == r_15.1.N && r_15.2.1.D == r_15.1.D))) :: []) ∧ Ctx G (.row (some ⟨b_13, 0, none⟩) 3 (([7, 2, 0] : List Int).map encI_i64) 3 1 :: .row (some ⟨b_12, 0, none⟩) 3 (([60, 30, 10] : List Int).map encI_i64) 3 1 :: .box b_11 [.int .i64 r_15.2.1.N, .int .i64 r_15.2.1.D] 71 :: .box b_10 [.int .i64 r_15.1.N, .int .i64 r_15.1.D] 71 :: .row (some ⟨b_9, 0, none⟩) 3 (([6, 3, 0] : List Int).map encI_i64) 3 1 :: .row (some ⟨b_8, 0, none⟩) 3 (([60, 30, 10] : List Int).map encI_i64) 3 1 :: .row (some ⟨b_7, 0, none⟩) 3 (([60, 30, 10] : List Int).map encI_i64) 3 1 :: .row p_11 c_11 (r_14.1.map encI_i64) 3 1 :: .row (some ⟨b_6, 0, none⟩) 3 (([60, 30, 10] : List Int).map encI_i64) 3 1 :: .row p_10 c_10 (r_13.1.map encI_i64) 3 1 :: .row (some ⟨b_5, 0, none⟩) 6 (([20, 30, 30, 40, 40, 40] : List Int).map encI_i64) 3 1 :: .row p_9 c_9 (r_12.1.map encI_i64) 3 1 :: .row p_6 c_6 (r_7.1.Table.map enc_share_Point) 116 2 :: .row p_7 c_7 (r_7.2.map enc_share_Year) 94 5 :: .row p_8 c_8 (r_8.1.map enc_api_Span) 26 2 :: .box b_1 [.slice p_6 r_7.1.Table.length c_6, .int .i64 r_7.1.Credit] 88 :: .row p_5 c_5 (r_5.Rights.map enc_share_Right) 51 3 :: .row p_3 c_3 (r_2.Rights.map enc_share_Right) 51 3 :: .row p_4 c_4 (r_4.1.map enc_api_Span) 26 2 :: .row p_1 c_1 (r.Rights.map enc_share_Right) 51 3 :: .row p_2 c_2 (r_1.1.map encI_i64) 3 1 :: Lf) w) ?_ ?_
    · cases hb : (t_6 && (r_15.1.N == 10 && r_15.1.D == 1))
      · rw [hb] at hf
        refine stS hf rfl rfl rfl fun a hf => ?_
        refine stS hf rfl rfl rfl fun a hf => ?_
        refine stS hf rfl rfl rfl fun a hf => ?_
        refine stP hf rfl rfl rfl (pPf rfl rfl) fun a hf => ?_
        exact cNil ⟨hf.keep ⟨rfl, rfl, rfl, rfl, rfl, rfl, rfl, rfl, rfl, rfl, rfl, rfl, rfl, rfl, rfl, rfl, rfl, rfl, rfl, rfl, rfl, rfl, rfl, rfl, rfl, rfl, rfl, rfl, rfl, rfl, rfl, rfl, trivial⟩, hc⟩
      · rw [hb] at hf
        refine stE hf hc rfl rfl rfl (eLdN (vs := [.int .i64 r_15.2.1.N, .int .i64 r_15.2.1.D]) ag_71 rfl rfl (cells_box (n := 2) m2 rfl)) fun a w hf hc => ?_
        refine stE hf hc rfl rfl rfl (eLdN (vs := [.int .i64 r_15.1.N, .int .i64 r_15.1.D]) ag_71 rfl rfl (cells_box (n := 2) m3 rfl)) fun a w hf hc => ?_
        refine stP hf rfl rfl rfl (pEqA ge_71 rfl rfl (eqs_71 _ _ _ _)) fun a hf => ?_
        refine stP hf rfl rfl rfl (pPt rfl rfl) fun a hf => ?_
        exact cNil ⟨hf.keep ⟨rfl, rfl, rfl, rfl, rfl, rfl, rfl, rfl, rfl, rfl, rfl, rfl, rfl, rfl, rfl, rfl, rfl, rfl, rfl, rfl, rfl, rfl, rfl, rfl, rfl, rfl, rfl, rfl, rfl, rfl, rfl, rfl, trivial⟩, hc⟩
    intro a w ⟨hf, hc⟩
    refine stP hf rfl rfl rfl (pM rfl) fun a hf => ?_
    refine stCut 3 (fun a w => Has 168 a ((2, .int .i64 r_12.2) :: (4, .int .i64 r_13.2) :: (6, .int .i64 r_14.2) :: (10, .int .i64 r_15.2.2) :: (11, .slice p_9 r_12.1.length c_9) :: (12, .slice p_10 r_13.1.length c_10) :: (13, .slice p_11 r_14.1.length c_11) :: (14, .pointer (some ⟨b_10, 0, none⟩)) :: (15, .pointer (some ⟨b_11, 0, none⟩)) :: (16, .int .i64 r_16.1) :: (17, .int .i64 r_16.2.1) :: (18, .int .i64 r_16.2.2) :: (117, .int .i64 r_12.2) :: (118, .bool (r_12.2 == 0)) :: (119, .bool (r_12.2 == 0)) :: (122, .bool ((r_12.2 == 0) && (r_13.2 == 0))) :: (123, .bool ((r_12.2 == 0) && (r_13.2 == 0))) :: (126, .bool (((r_12.2 == 0) && (r_13.2 == 0)) && (r_14.2 == 0))) :: (127, .bool (((r_12.2 == 0) && (r_13.2 == 0)) && (r_14.2 == 0))) :: (130, .bool ((((r_12.2 == 0) && (r_13.2 == 0)) && (r_14.2 == 0)) && (r_15.2.2 == 0))) :: (131, .bool ((((r_12.2 == 0) && (r_13.2 == 0)) && (r_14.2 == 0)) && (r_15.2.2 == 0))) :: (134, .bool (((((r_12.2 == 0) && (r_13.2 == 0)) && (r_14.2 == 0)) && (r_15.2.2 == 0)) && (r_16.2.2 == 0))) :: (135, .bool (((((r_12.2 == 0) && (r_13.2 == 0)) && (r_14.2 == 0)) && (r_15.2.2 == 0)) && (r_16.2.2 == 0))) :: (139, .bool t_4) :: (140, .bool t_4) :: (144, .bool t_5) :: (145, .bool t_5) :: (149, .bool t_6) :: (150, .bool t_6) :: (154, .bool (t_6 && (r_15.1.N == 10 && r_15.1.D == 1))) :: (155, .bool (t_6 && (r_15.1.N == 10 && r_15.1.D == 1))) :: (159, .bool ((t_6 && (r_15.1.N == 10 && r_15.1.D == 1)) && (r_15.2.1.N == r_15.1.N && r_15.2.1.D == r_15.1.D))) :: (160, .bool ((t_6 && (r_15.1.N == 10 && r_15.1.D == 1)) && (r_15.2.1.N == r_15.1.N && r_15.2.1.D == r_15.1.D))) :: (163, .bool (((t_6 && (r_15.1.N == 10 && r_15.1.D == 1)) && (r_15.2.1.N == r_15.1.N && r_15.2.1.D == r_15.1.D)) && (r_16.1 == 0))) :: []) ∧ Ctx G (.row (some ⟨b_13, 0, none⟩) 3 (([7, 2, 0] : List Int).map encI_i64) 3 1 :: .row (some ⟨b_12, 0, none⟩) 3 (([60, 30, 10] : List Int).map encI_i64) 3 1 :: .box b_11 [.int .i64 r_15.2.1.N, .int .i64 r_15.2.1.D] 71 :: .box b_10 [.int .i64 r_15.1.N, .int .i64 r_15.1.D] 71 :: .row (some ⟨b_9, 0, none⟩) 3 (([6, 3, 0] : List Int).map encI_i64) 3 1 :: .row (some ⟨b_8, 0, none⟩) 3 (([60, 30, 10] : List Int).map encI_i64) 3 1 :: .row (some ⟨b_7, 0, none⟩) 3 (([60, 30, 10] : List Int).map encI_i64) 3 1 :: .row p_11 c_11 (r_14.1.map encI_i64) 3 1 :: .row (some ⟨b_6, 0, none⟩) 3 (([60, 30, 10] : List Int).map encI_i64) 3 1 :: .row p_10 c_10 (r_13.1.map encI_i64) 3 1 :: .row (some ⟨b_5, 0, none⟩) 6 (([20, 30, 30, 40, 40, 40] : List Int).map encI_i64) 3 1 :: .row p_9 c_9 (r_12.1.map encI_i64) 3 1 :: .row p_6 c_6 (r_7.1.Table.map enc_share_Point) 116 2 :: .row p_7 c_7 (r_7.2.map enc_share_Year) 94 5 :: .row p_8 c_8 (r_8.1.map enc_api_Span) 26 2 :: .box b_1 [.slice p_6 r_7.1.Table.length c_6, .int .i64 r_7.1.Credit] 88 :: .row p_5 c_5 (r_5.Rights.map enc_share_Right) 51 3 :: .row p_3 c_3 (r_2.Rights.map enc_share_Right) 51 3 :: .row p_4 c_4 (r_4.1.map enc_api_Span) 26 2 :: .row p_1 c_1 (r.Rights.map enc_share_Right) 51 3 :: .row p_2 c_2 (r_1.1.map encI_i64) 3 1 :: Lf) w) ?_ ?_
    · cases hb : ((t_6 && (r_15.1.N == 10 && r_15.1.D == 1)) && (r_15.2.1.N == r_15.1.N && r_15.2.1.D == r_15.1.D))
      · rw [hb] at hf
        refine stS hf rfl rfl rfl fun a hf => ?_
        refine stS hf rfl rfl rfl fun a hf => ?_
        refine stP hf rfl rfl rfl (pPf rfl rfl) fun a hf => ?_
        exact cNil ⟨hf.keep ⟨rfl, rfl, rfl, rfl, rfl, rfl, rfl, rfl, rfl, rfl, rfl, rfl, rfl, rfl, rfl, rfl, rfl, rfl, rfl, rfl, rfl, rfl, rfl, rfl, rfl, rfl, rfl, rfl, rfl, rfl, rfl, rfl, rfl, rfl, trivial⟩, hc⟩
      · rw [hb] at hf
        refine stP hf rfl rfl rfl (pM rfl) fun a hf => ?_
        refine stP hf rfl rfl rfl (pEq rfl rfl) fun a hf => ?_
        refine stP hf rfl rfl rfl (pPt rfl rfl) fun a hf => ?_
        exact cNil ⟨hf.keep ⟨rfl, rfl, rfl, rfl, rfl, rfl, rfl, rfl, rfl, rfl, rfl, rfl, rfl, rfl, rfl, rfl, rfl, rfl, rfl, rfl, rfl, rfl, rfl, rfl, rfl, rfl, rfl, rfl, rfl, rfl, rfl, rfl, rfl, rfl, trivial⟩, hc⟩
    intro a w ⟨hf, hc⟩
    refine stP hf rfl rfl rfl (pM rfl) fun a hf => ?_
    refine stCut 3 (fun a w => Has 168 a ((2, .int .i64 r_12.2) :: (4, .int .i64 r_13.2) :: (6, .int .i64 r_14.2) :: (10, .int .i64 r_15.2.2) :: (11, .slice p_9 r_12.1.length c_9) :: (12, .slice p_10 r_13.1.length c_10) :: (13, .slice p_11 r_14.1.length c_11) :: (14, .pointer (some ⟨b_10, 0, none⟩)) :: (15, .pointer (some ⟨b_11, 0, none⟩)) :: (16, .int .i64 r_16.1) :: (17, .int .i64 r_16.2.1) :: (18, .int .i64 r_16.2.2) :: (117, .int .i64 r_12.2) :: (118, .bool (r_12.2 == 0)) :: (119, .bool (r_12.2 == 0)) :: (122, .bool ((r_12.2 == 0) && (r_13.2 == 0))) :: (123, .bool ((r_12.2 == 0) && (r_13.2 == 0))) :: (126, .bool (((r_12.2 == 0) && (r_13.2 == 0)) && (r_14.2 == 0))) :: (127, .bool (((r_12.2 == 0) && (r_13.2 == 0)) && (r_14.2 == 0))) :: (130, .bool ((((r_12.2 == 0) && (r_13.2 == 0)) && (r_14.2 == 0)) && (r_15.2.2 == 0))) :: (131, .bool ((((r_12.2 == 0) && (r_13.2 == 0)) && (r_14.2 == 0)) && (r_15.2.2 == 0))) :: (134, .bool (((((r_12.2 == 0) && (r_13.2 == 0)) && (r_14.2 == 0)) && (r_15.2.2 == 0)) && (r_16.2.2 == 0))) :: (135, .bool (((((r_12.2 == 0) && (r_13.2 == 0)) && (r_14.2 == 0)) && (r_15.2.2 == 0)) && (r_16.2.2 == 0))) :: (139, .bool t_4) :: (140, .bool t_4) :: (144, .bool t_5) :: (145, .bool t_5) :: (149, .bool t_6) :: (150, .bool t_6) :: (154, .bool (t_6 && (r_15.1.N == 10 && r_15.1.D == 1))) :: (155, .bool (t_6 && (r_15.1.N == 10 && r_15.1.D == 1))) :: (159, .bool ((t_6 && (r_15.1.N == 10 && r_15.1.D == 1)) && (r_15.2.1.N == r_15.1.N && r_15.2.1.D == r_15.1.D))) :: (160, .bool ((t_6 && (r_15.1.N == 10 && r_15.1.D == 1)) && (r_15.2.1.N == r_15.1.N && r_15.2.1.D == r_15.1.D))) :: (163, .bool (((t_6 && (r_15.1.N == 10 && r_15.1.D == 1)) && (r_15.2.1.N == r_15.1.N && r_15.2.1.D == r_15.1.D)) && (r_16.1 == 0))) :: (164, .bool (((t_6 && (r_15.1.N == 10 && r_15.1.D == 1)) && (r_15.2.1.N == r_15.1.N && r_15.2.1.D == r_15.1.D)) && (r_16.1 == 0))) :: (167, .bool ((((t_6 && (r_15.1.N == 10 && r_15.1.D == 1)) && (r_15.2.1.N == r_15.1.N && r_15.2.1.D == r_15.1.D)) && (r_16.1 == 0)) && (r_16.2.1 == 1))) :: []) ∧ Ctx G (.row (some ⟨b_13, 0, none⟩) 3 (([7, 2, 0] : List Int).map encI_i64) 3 1 :: .row (some ⟨b_12, 0, none⟩) 3 (([60, 30, 10] : List Int).map encI_i64) 3 1 :: .box b_11 [.int .i64 r_15.2.1.N, .int .i64 r_15.2.1.D] 71 :: .box b_10 [.int .i64 r_15.1.N, .int .i64 r_15.1.D] 71 :: .row (some ⟨b_9, 0, none⟩) 3 (([6, 3, 0] : List Int).map encI_i64) 3 1 :: .row (some ⟨b_8, 0, none⟩) 3 (([60, 30, 10] : List Int).map encI_i64) 3 1 :: .row (some ⟨b_7, 0, none⟩) 3 (([60, 30, 10] : List Int).map encI_i64) 3 1 :: .row p_11 c_11 (r_14.1.map encI_i64) 3 1 :: .row (some ⟨b_6, 0, none⟩) 3 (([60, 30, 10] : List Int).map encI_i64) 3 1 :: .row p_10 c_10 (r_13.1.map encI_i64) 3 1 :: .row (some ⟨b_5, 0, none⟩) 6 (([20, 30, 30, 40, 40, 40] : List Int).map encI_i64) 3 1 :: .row p_9 c_9 (r_12.1.map encI_i64) 3 1 :: .row p_6 c_6 (r_7.1.Table.map enc_share_Point) 116 2 :: .row p_7 c_7 (r_7.2.map enc_share_Year) 94 5 :: .row p_8 c_8 (r_8.1.map enc_api_Span) 26 2 :: .box b_1 [.slice p_6 r_7.1.Table.length c_6, .int .i64 r_7.1.Credit] 88 :: .row p_5 c_5 (r_5.Rights.map enc_share_Right) 51 3 :: .row p_3 c_3 (r_2.Rights.map enc_share_Right) 51 3 :: .row p_4 c_4 (r_4.1.map enc_api_Span) 26 2 :: .row p_1 c_1 (r.Rights.map enc_share_Right) 51 3 :: .row p_2 c_2 (r_1.1.map encI_i64) 3 1 :: Lf) w) ?_ ?_
    · cases hb : (((t_6 && (r_15.1.N == 10 && r_15.1.D == 1)) && (r_15.2.1.N == r_15.1.N && r_15.2.1.D == r_15.1.D)) && (r_16.1 == 0))
      · rw [hb] at hf
        refine stS hf rfl rfl rfl fun a hf => ?_
        refine stS hf rfl rfl rfl fun a hf => ?_
        refine stP hf rfl rfl rfl (pPf rfl rfl) fun a hf => ?_
        exact cNil ⟨hf.keep ⟨rfl, rfl, rfl, rfl, rfl, rfl, rfl, rfl, rfl, rfl, rfl, rfl, rfl, rfl, rfl, rfl, rfl, rfl, rfl, rfl, rfl, rfl, rfl, rfl, rfl, rfl, rfl, rfl, rfl, rfl, rfl, rfl, rfl, rfl, rfl, rfl, trivial⟩, hc⟩
      · rw [hb] at hf
        refine stP hf rfl rfl rfl (pM rfl) fun a hf => ?_
        refine stP hf rfl rfl rfl (pEq rfl rfl) fun a hf => ?_
        refine stP hf rfl rfl rfl (pPt rfl rfl) fun a hf => ?_
        exact cNil ⟨hf.keep ⟨rfl, rfl, rfl, rfl, rfl, rfl, rfl, rfl, rfl, rfl, rfl, rfl, rfl, rfl, rfl, rfl, rfl, rfl, rfl, rfl, rfl, rfl, rfl, rfl, rfl, rfl, rfl, rfl, rfl, rfl, rfl, rfl, rfl, rfl, rfl, rfl, trivial⟩, hc⟩
    intro a w ⟨hf, hc⟩
    refine stP hf rfl rfl rfl (pA rfl) fun a hf => ?_
    refine cNil ?_
    refine h15 _ _ ?_
    refine wp_ret ?_
    obtain rfl := Option.some.inj hF
    replace hc := hc.drop k20
    replace hc := hc.drop k19
    replace hc := hc.drop k18
    replace hc := hc.drop k17
    replace hc := hc.drop k16
    replace hc := hc.drop k15
    replace hc := hc.drop k14
    replace hc := hc.drop k13
    replace hc := hc.drop k12
    replace hc := hc.drop k11
    replace hc := hc.drop k10
    replace hc := hc.drop k9
    replace hc := hc.drop k8
    replace hc := hc.drop k7
    replace hc := hc.drop k6
    replace hc := hc.drop k5
    replace hc := hc.drop k4
    replace hc := hc.drop k3
    replace hc := hc.drop k2
    replace hc := hc.drop k1
    replace hc := hc.drop k0
    exact fnOut1 (by simp) rfl Try.results13 hf hc (show look _ 0 = _ from rfl) ⟨rfl, hc⟩

def kit_Copy_share_Point (N : Nat) (l : List share_Point) : Option ((List share_Point)) :=
  Option.bind (room (l).length) fun un =>
  some l
theorem kit_Copy_share_Point_ok {N : Nat} {G : Pers} {Lf : List Ent} {w : World} (l : List share_Point) {l_p : Option Addr} {l_c : Nat} (h_l : Rd G 2 l_p l_c (l.map enc_share_Point)) (hc : Ctx G (Lf) w) {res : (List share_Point)} (hF : kit_Copy_share_Point N l = some res) : Calls Try.prog 94 #[.slice l_p l.length l_c] w (fun e w => ∃ (p'1 : Option Addr) (c'1 : Nat), e = .returned (.slice p'1 res.length c'1) ∧ Ctx G (.row p'1 c'1 (res.map enc_share_Point) 116 2 :: Lf) w) := by
  unfold kit_Copy_share_Point at hF
  refine fnIn (args := [.slice l_p l.length l_c]) Try.func94 rfl Try.ntmps94 rfl fun a hf => ?_
  refine wp_seq_k fun K1 h1 => ?_
  refine cReg ?_
  refine stP hf rfl rfl rfl (pA rfl) fun a hf => ?_
  refine cNil ?_
  refine h1 _ _ ?_
  refine wp_seq_k fun K2 h2 => ?_
  refine cReg ?_
  refine stP hf rfl rfl rfl (pA rfl) fun a hf => ?_
  refine cNil ?_
  refine h2 _ _ ?_
  refine wp_seq_k fun K3 h3 => ?_
  refine cReg ?_
  refine stP hf rfl rfl rfl (pM rfl) fun a hf => ?_
  refine stP hf rfl rfl rfl (pM rfl) fun a hf => ?_
  replace hc := hc.nilRow 116 2
  obtain ⟨un, hun, hF⟩ := bnd_some hF
  refine stApm (xs := ([] : List share_Point)) (ys := l) hf hc rfl rfl sl_86 rfl rfl rfl rfl rfl one_enc_share_Point (src_rd hc h_l) (fun _ _ => u0) (by simpa using room_spec hun) fun p_1 c_1 a w hf hc => ?_
  refine stP hf rfl rfl rfl (pA rfl) fun a hf => ?_
  refine cNil ?_
  refine h3 _ _ ?_
  refine wp_ret ?_
  obtain rfl := Option.some.inj hF
  exact fnOut1 (by simp) rfl Try.results94 hf hc (show look _ 2 = _ from rfl) ⟨p_1, c_1, rfl, hc⟩

def law09_CopyBorder (N : Nat) (b_ : share_Border) : Option (share_Border) :=
  Option.bind (kit_Copy_share_Point N b_.Table) fun r =>
  some (⟨r, b_.Credit⟩ : share_Border)
theorem law09_CopyBorder_ok {N : Nat} {G : Pers} {Lf : List Ent} {w : World} (b_ : share_Border) {b__Table_p : Option Addr} {b__Table_c : Nat} (h_b__Table : Rd G 2 b__Table_p b__Table_c (b_.Table.map enc_share_Point)) (hc : Ctx G (Lf) w) {res : share_Border} (hF : law09_CopyBorder N b_ = some res) : Calls Try.prog 43 #[.agg #[.slice b__Table_p b_.Table.length b__Table_c, .int .i64 b_.Credit]] w (fun e w => ∃ (p'1 : Option Addr) (c'1 : Nat), e = .returned (.agg #[.slice p'1 res.Table.length c'1, .int .i64 res.Credit]) ∧ Ctx G (.row p'1 c'1 (res.Table.map enc_share_Point) 116 2 :: Lf) w) := by
  unfold law09_CopyBorder at hF
  refine fnIn (args := [.agg #[.slice b__Table_p b_.Table.length b__Table_c, .int .i64 b_.Credit]]) Try.func43 rfl Try.ntmps43 rfl fun a hf => ?_
  refine wp_seq_k fun K1 h1 => ?_
  refine cReg ?_
  refine stBx (cs := [.slice b__Table_p b_.Table.length b__Table_c, .int .i64 b_.Credit]) hf hc rfl rfl rfl rfl fun b_1 a w hf hc => ?_
  refine stAl (cs := [.slice none 0 0, .int .i64 0]) hf hc rfl rfl zr_88 rfl fun b_2 a w hf hc => ?_
  refine cNil ?_
  refine h1 _ _ ?_
  refine wp_seq_k fun K2 h2 => ?_
  refine cReg ?_
  refine stP hf rfl rfl rfl (pFA fa_88_0 rfl) fun a hf => ?_
  refine stE hf hc rfl rfl rfl (eLd1 sc_86 rfl (cell_box m1 rfl)) fun a w hf hc => ?_
  obtain ⟨r, hr, hF⟩ := bnd_some hF
  refine stC (vs := [.slice b__Table_p b_.Table.length b__Table_c]) (caps := []) hf rfl rfl rfl en_94 rfl rfl rfl rfl (kit_Copy_share_Point_ok b_.Table h_b__Table hc hr) ?_
  rintro _ w ⟨p_1, c_1, rfl, hc⟩
  refine ⟨_, rfl, fun a hf => ?_⟩
  refine stP hf rfl rfl rfl (pFA fa_88_0 rfl) fun a hf => ?_
  refine stSt (vs := [.slice p_1 r.length c_1]) hf hc rfl rfl rfl rfl sz_86 rfl rfl u2 fun w hc => ?_
  refine cNil ?_
  refine h2 _ _ ?_
  refine wp_seq_k fun K3 h3 => ?_
  refine cReg ?_
  refine stE hf hc rfl rfl rfl (eLdN (vs := [.slice p_1 r.length c_1, .int .i64 b_.Credit]) ag_88 rfl rfl (cells_box (n := 2) m2 rfl)) fun a w hf hc => ?_
  refine stSt (vs := [.slice p_1 r.length c_1, .int .i64 b_.Credit]) hf hc rfl rfl rfl rfl sz_88 rfl rfl u1 fun w hc => ?_
  refine cNil ?_
  refine h3 _ _ ?_
  refine wp_ret ?_
  obtain rfl := Option.some.inj hF
  replace hc := hc.drop k2
  exact fnOut1 (by simp) rfl Try.results43 hf hc (rv_cellN (vs := [.slice p_1 r.length c_1, .int .i64 b_.Credit]) ag_88 rfl rfl (cells_box (n := 2) m1 rfl)) ⟨p_1, c_1, rfl, (hc.drop k1)⟩

def kit_Copy_share_Year (N : Nat) (l : List share_Year) : Option ((List share_Year)) :=
  Option.bind (room (l).length) fun un =>
  some l
theorem kit_Copy_share_Year_ok {N : Nat} {G : Pers} {Lf : List Ent} {w : World} (l : List share_Year) {l_p : Option Addr} {l_c : Nat} (h_l : Rd G 5 l_p l_c (l.map enc_share_Year)) (hc : Ctx G (Lf) w) {res : (List share_Year)} (hF : kit_Copy_share_Year N l = some res) : Calls Try.prog 44 #[.slice l_p l.length l_c] w (fun e w => ∃ (p'1 : Option Addr) (c'1 : Nat), e = .returned (.slice p'1 res.length c'1) ∧ Ctx G (.row p'1 c'1 (res.map enc_share_Year) 94 5 :: Lf) w) := by
  unfold kit_Copy_share_Year at hF
  refine fnIn (args := [.slice l_p l.length l_c]) Try.func44 rfl Try.ntmps44 rfl fun a hf => ?_
  refine wp_seq_k fun K1 h1 => ?_
  refine cReg ?_
  refine stP hf rfl rfl rfl (pA rfl) fun a hf => ?_
  refine cNil ?_
  refine h1 _ _ ?_
  refine wp_seq_k fun K2 h2 => ?_
  refine cReg ?_
  refine stP hf rfl rfl rfl (pA rfl) fun a hf => ?_
  refine cNil ?_
  refine h2 _ _ ?_
  refine wp_seq_k fun K3 h3 => ?_
  refine cReg ?_
  refine stP hf rfl rfl rfl (pM rfl) fun a hf => ?_
  refine stP hf rfl rfl rfl (pM rfl) fun a hf => ?_
  replace hc := hc.nilRow 94 5
  obtain ⟨un, hun, hF⟩ := bnd_some hF
  refine stApm (xs := ([] : List share_Year)) (ys := l) hf hc rfl rfl sl_89 rfl rfl rfl rfl rfl one_enc_share_Year (src_rd hc h_l) (fun _ _ => u0) (by simpa using room_spec hun) fun p_1 c_1 a w hf hc => ?_
  refine stP hf rfl rfl rfl (pA rfl) fun a hf => ?_
  refine cNil ?_
  refine h3 _ _ ?_
  refine wp_ret ?_
  obtain rfl := Option.some.inj hF
  exact fnOut1 (by simp) rfl Try.results44 hf hc (show look _ 2 = _ from rfl) ⟨p_1, c_1, rfl, hc⟩

def kit_Copy_share_Truth (N : Nat) (l : List share_Truth) : Option ((List share_Truth)) :=
  Option.bind (room (l).length) fun un =>
  some l
theorem kit_Copy_share_Truth_ok {N : Nat} {G : Pers} {Lf : List Ent} {w : World} (l : List share_Truth) {l_p : Option Addr} {l_c : Nat} (h_l : Rd G 2 l_p l_c (l.map enc_share_Truth)) (hc : Ctx G (Lf) w) {res : (List share_Truth)} (hF : kit_Copy_share_Truth N l = some res) : Calls Try.prog 45 #[.slice l_p l.length l_c] w (fun e w => ∃ (p'1 : Option Addr) (c'1 : Nat), e = .returned (.slice p'1 res.length c'1) ∧ Ctx G (.row p'1 c'1 (res.map enc_share_Truth) 97 2 :: Lf) w) := by
  unfold kit_Copy_share_Truth at hF
  refine fnIn (args := [.slice l_p l.length l_c]) Try.func45 rfl Try.ntmps45 rfl fun a hf => ?_
  refine wp_seq_k fun K1 h1 => ?_
  refine cReg ?_
  refine stP hf rfl rfl rfl (pA rfl) fun a hf => ?_
  refine cNil ?_
  refine h1 _ _ ?_
  refine wp_seq_k fun K2 h2 => ?_
  refine cReg ?_
  refine stP hf rfl rfl rfl (pA rfl) fun a hf => ?_
  refine cNil ?_
  refine h2 _ _ ?_
  refine wp_seq_k fun K3 h3 => ?_
  refine cReg ?_
  refine stP hf rfl rfl rfl (pM rfl) fun a hf => ?_
  refine stP hf rfl rfl rfl (pM rfl) fun a hf => ?_
  replace hc := hc.nilRow 97 2
  obtain ⟨un, hun, hF⟩ := bnd_some hF
  refine stApm (xs := ([] : List share_Truth)) (ys := l) hf hc rfl rfl sl_90 rfl rfl rfl rfl rfl one_enc_share_Truth (src_rd hc h_l) (fun _ _ => u0) (by simpa using room_spec hun) fun p_1 c_1 a w hf hc => ?_
  refine stP hf rfl rfl rfl (pA rfl) fun a hf => ?_
  refine cNil ?_
  refine h3 _ _ ?_
  refine wp_ret ?_
  obtain rfl := Option.some.inj hF
  exact fnOut1 (by simp) rfl Try.results45 hf hc (show look _ 2 = _ from rfl) ⟨p_1, c_1, rfl, hc⟩

def law09_years_b9 (N : Nat) (truth : List share_Truth) (t_1 : List ref09_Truth) (x_1 : Int) : Option (Step ((List ref09_Truth) × Int) ((List ref09_Year) × (List ref09_Truth))) :=
  cond (decide (x_1 < ((truth.length : Nat) : Int)))
  (Option.bind (getI truth x_1) fun e_1 =>
  Option.bind (room ((t_1 ++ [(⟨e_1.Index, e_1.Delivered⟩ : ref09_Truth)])).length) fun un =>
  some (.cont ((t_1 ++ [(⟨e_1.Index, e_1.Delivered⟩ : ref09_Truth)]), W (x_1 + 1))))
  (some (.brk (t_1, x_1)))
def law09_years_b6 (N : Nat) (l : List share_Year) (out : List ref09_Year) (x : Int) : Option (Step ((List ref09_Year) × Int) ((List ref09_Year) × (List ref09_Truth))) :=
  cond (decide (x < ((l.length : Nat) : Int)))
  (Option.bind (getI l x) fun e_2 =>
  Option.bind (room ((out ++ [(⟨e_2.Index, e_2.Delivered, e_2.Spill⟩ : ref09_Year)])).length) fun un_1 =>
  some (.cont ((out ++ [(⟨e_2.Index, e_2.Delivered, e_2.Spill⟩ : ref09_Year)]), W (x + 1))))
  (some (.brk (out, x)))
def law09_years (N : Nat) (l : List share_Year) (truth : List share_Truth) : Option ((List ref09_Year) × (List ref09_Truth)) :=
  Option.bind (loopO (fun s6 => law09_years_b6 N l s6.1 s6.2) N (([] : List ref09_Year), 0)) fun x6 =>
  exK x6 (fun s6 => Option.bind (loopO (fun s9 => law09_years_b9 N truth s9.1 s9.2) N (([] : List ref09_Truth), 0)) fun x9 =>
  exK x9 (fun s9 => some (s6.1, s9.1)) some) some
theorem law09_years_ok {N : Nat} {G : Pers} {Lf : List Ent} {w : World} (l : List share_Year) (truth : List share_Truth) {l_p : Option Addr} {l_c : Nat} {truth_p : Option Addr} {truth_c : Nat} (h_l : Rd G 5 l_p l_c (l.map enc_share_Year)) (h_truth : Rd G 2 truth_p truth_c (truth.map enc_share_Truth)) (hc : Ctx G (Lf) w) {res : (List ref09_Year) × (List ref09_Truth)} (hF : law09_years N l truth = some res) : Calls Try.prog 46 #[.slice l_p l.length l_c, .slice truth_p truth.length truth_c] w (fun e w => ∃ (p'1 : Option Addr) (c'1 : Nat) (p'2 : Option Addr) (c'2 : Nat), e = .returned (.tuple #[.slice p'1 res.1.length c'1, .slice p'2 res.2.length c'2]) ∧ Ctx G (.row p'1 c'1 (res.1.map enc_ref09_Year) 179 5 :: .row p'2 c'2 (res.2.map enc_ref09_Truth) 180 2 :: Lf) w) := by
  unfold law09_years at hF
  refine fnIn (args := [.slice l_p l.length l_c, .slice truth_p truth.length truth_c]) Try.func46 rfl Try.ntmps46 rfl fun a hf => ?_
  refine wp_seq_k fun K1 h1 => ?_
  refine cReg ?_
  refine stP hf rfl rfl rfl (pA rfl) fun a hf => ?_
  refine stP hf rfl rfl rfl (pA rfl) fun a hf => ?_
  refine cNil ?_
  refine h1 _ _ ?_
  refine wp_seq_k fun K2 h2 => ?_
  refine cReg ?_
  refine stP hf rfl rfl rfl (pA rfl) fun a hf => ?_
  refine cNil ?_
  refine h2 _ _ ?_
  refine wp_seq_k fun K3 h3 => ?_
  refine cReg ?_
  refine stP hf rfl rfl rfl (pA rfl) fun a hf => ?_
  refine cNil ?_
  refine h3 _ _ ?_
  refine wp_seq_k fun K4 h4 => ?_
  refine wp_seq_k fun K5 h5 => ?_
  refine cReg ?_
  refine stP hf rfl rfl rfl (pM rfl) fun a hf => ?_
  refine stP hf rfl rfl rfl (pLenS Try.underlying89 rfl) fun a hf => ?_
  refine stP hf rfl rfl rfl (pM rfl) fun a hf => ?_
  refine cNil ?_
  refine h5 _ _ ?_
  refine wp_block ?_
  obtain ⟨x6, hx6, hF⟩ := bnd_some hF
  let S6 : ((List ref09_Year) × Int) → Act → World → Prop := (fun (zz : (List ref09_Year) × Int) a w => ∃ (p_1 : Option Addr) (c_1 : Nat), Has 36 a [(1, .slice truth_p truth.length truth_c), (6, .slice p_1 zz.1.length c_1), (7, .slice none 0 0), (12, .slice l_p l.length l_c), (13, .int .i64 ((l.length : Nat) : Int)), (14, .int .i64 zz.2)] ∧ Ctx G (.row p_1 c_1 (zz.1.map enc_ref09_Year) 179 5 :: Lf) w)
  have hr6 : ∀ (zz : (List ref09_Year) × Int) a w, x6 = .go zz → S6 zz a w → K4 a w := by
    rintro ⟨out, x⟩ a w rfl ⟨p_1, c_1, hf, hc⟩
    replace hF : _ = some res := hF
    refine h4 _ _ ?_
    refine wp_seq_k fun K7 h7 => ?_
    refine wp_seq_k fun K8 h8 => ?_
    refine cReg ?_
    refine stP hf rfl rfl rfl (pM rfl) fun a hf => ?_
    refine stP hf rfl rfl rfl (pLenS Try.underlying90 rfl) fun a hf => ?_
    refine stP hf rfl rfl rfl (pM rfl) fun a hf => ?_
    refine cNil ?_
    refine h8 _ _ ?_
    refine wp_block ?_
    obtain ⟨x9, hx9, hF⟩ := bnd_some hF
    let S9 : ((List ref09_Truth) × Int) → Act → World → Prop := (fun (zz : (List ref09_Truth) × Int) a w => ∃ (p_2 : Option Addr) (c_2 : Nat), Has 36 a [(6, .slice p_1 out.length c_1), (7, .slice p_2 zz.1.length c_2), (23, .slice truth_p truth.length truth_c), (24, .int .i64 ((truth.length : Nat) : Int)), (25, .int .i64 zz.2)] ∧ Ctx G (.row p_2 c_2 (zz.1.map enc_ref09_Truth) 180 2 :: .row p_1 c_1 (out.map enc_ref09_Year) 179 5 :: Lf) w)
    have hr9 : ∀ (zz : (List ref09_Truth) × Int) a w, x9 = .go zz → S9 zz a w → K7 a w := by
      rintro ⟨t_1, x_1⟩ a w rfl ⟨p_2, c_2, hf, hc⟩
      replace hF : _ = some res := hF
      refine h7 _ _ ?_
      refine wp_seq_k fun K10 h10 => ?_
      refine cReg ?_
      refine stP hf rfl rfl rfl (pM rfl) fun a hf => ?_
      refine stP hf rfl rfl rfl (pM rfl) fun a hf => ?_
      refine stP hf rfl rfl rfl (pA rfl) fun a hf => ?_
      refine stP hf rfl rfl rfl (pA rfl) fun a hf => ?_
      refine cNil ?_
      refine h10 _ _ ?_
      refine wp_ret ?_
      obtain rfl := Option.some.inj hF
      replace hc := hc.pick k0
      replace hc := hc.pick k1
      exact fnOut2 (by simp) rfl Try.results46 hf hc (show look _ 4 = _ from rfl) (show look _ 5 = _ from rfl) ⟨p_1, c_1, p_2, c_2, rfl, hc⟩
    have ho9 : ∀ r, x9 = .out r → r = res := by
      rintro r rfl
      exact Option.some.inj hF
    replace hc := hc.nilRow 180 2
    refine cLoop N (loopW (S := S9) (x := x9) ?_ N (([] : List ref09_Truth), 0) _ _ ⟨none, 0, hf.keep ⟨rfl, rfl, rfl, rfl, rfl, trivial⟩, hc⟩ hx9)
    clear hF hf hc
    rintro ⟨t_1, x_1⟩ st9 a w KB9 ⟨p_2, c_2, hf, hc⟩ hF hfin9 hK9
    unfold law09_years_b9 at hF
    refine wp_seq_k fun K11 h11 => ?_
    refine cReg ?_
    refine stP hf rfl rfl rfl (pLt rfl rfl) fun a hf => ?_
    refine cNil ?_
    refine h11 _ _ ?_
    refine wp_seq_k fun K12 h12 => ?_
    refine cCond (b := (decide (x_1 < ((truth.length : Nat) : Int)))) hf rfl (fun hb => ?_) (fun hb => ?_)
    · replace hF := condT hb hF
      clear hb
      refine wp_skip ?_
      refine h12 _ _ ?_
      refine wp_seq_k fun K13 h13 => ?_
      refine wp_block ?_
      refine wp_seq_k fun K14 h14 => ?_
      refine cReg ?_
      obtain ⟨e_1, he_1, hF⟩ := bnd_some hF
      obtain ⟨b_1, o, qa, qp⟩ := h_truth.atm he_1
      refine stP hf rfl rfl rfl (pIA Try.underlying90 sz_97 rfl rfl qa) fun a hf => ?_
      refine stE hf hc rfl rfl rfl (eLdN (vs := [.int .i64 e_1.Index, .int .i64 e_1.Delivered]) ag_97 rfl rfl (cells_pc qp (n := 2) (o' := 0) rfl)) fun a w hf hc => ?_
      refine stAl (cs := [.int .i64 0, .int .i64 0]) hf hc rfl rfl zr_97 rfl fun b_2 a w hf hc => ?_
      refine stSt (vs := [.int .i64 e_1.Index, .int .i64 e_1.Delivered]) hf hc rfl rfl rfl rfl sz_97 rfl rfl u0 fun w hc => ?_
      refine cNil ?_
      refine h14 _ _ ?_
      refine cReg ?_
      refine stP hf rfl rfl rfl (pM rfl) fun a hf => ?_
      refine stE hf hc rfl rfl rfl (eLdN (vs := [.int .i64 e_1.Index, .int .i64 e_1.Delivered]) ag_97 rfl rfl (cells_box (n := 2) m0 rfl)) fun a w hf hc => ?_
      refine stBS (rows := ([(⟨e_1.Index, e_1.Delivered⟩ : ref09_Truth)] : List ref09_Truth).map enc_ref09_Truth) (vs := [(0, .agg #[.int .i64 e_1.Index, .int .i64 e_1.Delivered])]) hf hc rfl rfl sl_99 rfl ⟨rfl, rfl, rfl, trivial⟩ rfl rfl fun b_3 a w hf hc => ?_
      obtain ⟨un, hun, hF⟩ := bnd_some hF
      refine stApm (xs := t_1) (ys := ([(⟨e_1.Index, e_1.Delivered⟩ : ref09_Truth)] : List ref09_Truth)) hf hc rfl rfl sl_99 rfl rfl rfl rfl rfl one_enc_ref09_Truth (src_row hc m0) (fun _ _ => u2) (by simpa using room_spec hun) fun p_3 c_3 a w hf hc => ?_
      refine stP hf rfl rfl rfl (pA rfl) fun a hf => ?_
      refine cNil ?_
      refine h13 _ _ ?_
      refine cReg ?_
      refine stP hf rfl rfl rfl (pAdd rfl rfl) fun a hf => ?_
      refine stP hf rfl rfl rfl (pM rfl) fun a hf => ?_
      refine cNil ?_
      replace hc := hc.drop k1
      replace hc := hc.drop k0
      exact hK9 ((t_1 ++ [(⟨e_1.Index, e_1.Delivered⟩ : ref09_Truth)]), W (x_1 + 1)) _ _ (Option.some.inj hF).symm ⟨p_3, c_3, hf.keep ⟨rfl, rfl, rfl, rfl, rfl, trivial⟩, hc⟩
    · replace hF := condF hb hF
      clear hb
      refine wp_exit ?_
      refine xThen ?_
      refine xThen ?_
      have he := Option.some.inj hF
      rw [← he] at hfin9
      refine cHit ?_
      exact hr9 _ _ _ hfin9 ⟨p_2, c_2, hf.keep ⟨rfl, rfl, rfl, rfl, rfl, trivial⟩, hc⟩
  have ho6 : ∀ r, x6 = .out r → r = res := by
    rintro r rfl
    exact Option.some.inj hF
  replace hc := hc.nilRow 179 5
  refine cLoop N (loopW (S := S6) (x := x6) ?_ N (([] : List ref09_Year), 0) _ _ ⟨none, 0, hf.keep ⟨rfl, rfl, rfl, rfl, rfl, rfl, trivial⟩, hc⟩ hx6)
  clear hF hf hc
  rintro ⟨out, x⟩ st6 a w KB6 ⟨p_1, c_1, hf, hc⟩ hF hfin6 hK6
  unfold law09_years_b6 at hF
  refine wp_seq_k fun K15 h15 => ?_
  refine cReg ?_
  refine stP hf rfl rfl rfl (pLt rfl rfl) fun a hf => ?_
  refine cNil ?_
  refine h15 _ _ ?_
  refine wp_seq_k fun K16 h16 => ?_
  refine cCond (b := (decide (x < ((l.length : Nat) : Int)))) hf rfl (fun hb => ?_) (fun hb => ?_)
  · replace hF := condT hb hF
    clear hb
    refine wp_skip ?_
    refine h16 _ _ ?_
    refine wp_seq_k fun K17 h17 => ?_
    refine wp_block ?_
    refine wp_seq_k fun K18 h18 => ?_
    refine cReg ?_
    obtain ⟨e_2, he_2, hF⟩ := bnd_some hF
    obtain ⟨b_4, o_1, qa_1, qp_1⟩ := h_l.atm he_2
    refine stP hf rfl rfl rfl (pIA Try.underlying89 sz_94 rfl rfl qa_1) fun a hf => ?_
    refine stE hf hc rfl rfl rfl (eLdN (vs := [.int .i64 e_2.Index.Lo, .int .i64 e_2.Index.Hi, .int .i64 e_2.Delivered.Lo, .int .i64 e_2.Delivered.Hi, .bool e_2.Spill]) ag_94 rfl rfl (cells_pc qp_1 (n := 5) (o' := 0) rfl)) fun a w hf hc => ?_
    refine stAl (cs := [.int .i64 0, .int .i64 0, .int .i64 0, .int .i64 0, .bool false]) hf hc rfl rfl zr_94 rfl fun b_5 a w hf hc => ?_
    refine stSt (vs := [.int .i64 e_2.Index.Lo, .int .i64 e_2.Index.Hi, .int .i64 e_2.Delivered.Lo, .int .i64 e_2.Delivered.Hi, .bool e_2.Spill]) hf hc rfl rfl rfl rfl sz_94 rfl rfl u0 fun w hc => ?_
    refine cNil ?_
    refine h18 _ _ ?_
    refine cReg ?_
    refine stP hf rfl rfl rfl (pM rfl) fun a hf => ?_
    refine stE hf hc rfl rfl rfl (eLdN (vs := [.int .i64 e_2.Index.Lo, .int .i64 e_2.Index.Hi, .int .i64 e_2.Delivered.Lo, .int .i64 e_2.Delivered.Hi, .bool e_2.Spill]) ag_94 rfl rfl (cells_box (n := 5) m0 rfl)) fun a w hf hc => ?_
    refine stBS (rows := ([(⟨e_2.Index, e_2.Delivered, e_2.Spill⟩ : ref09_Year)] : List ref09_Year).map enc_ref09_Year) (vs := [(0, .agg #[.int .i64 e_2.Index.Lo, .int .i64 e_2.Index.Hi, .int .i64 e_2.Delivered.Lo, .int .i64 e_2.Delivered.Hi, .bool e_2.Spill])]) hf hc rfl rfl sl_98 rfl ⟨rfl, rfl, rfl, trivial⟩ rfl rfl fun b_6 a w hf hc => ?_
    obtain ⟨un_1, hun_1, hF⟩ := bnd_some hF
    refine stApm (xs := out) (ys := ([(⟨e_2.Index, e_2.Delivered, e_2.Spill⟩ : ref09_Year)] : List ref09_Year)) hf hc rfl rfl sl_98 rfl rfl rfl rfl rfl one_enc_ref09_Year (src_row hc m0) (fun _ _ => u2) (by simpa using room_spec hun_1) fun p_4 c_4 a w hf hc => ?_
    refine stP hf rfl rfl rfl (pA rfl) fun a hf => ?_
    refine cNil ?_
    refine h17 _ _ ?_
    refine cReg ?_
    refine stP hf rfl rfl rfl (pAdd rfl rfl) fun a hf => ?_
    refine stP hf rfl rfl rfl (pM rfl) fun a hf => ?_
    refine cNil ?_
    replace hc := hc.drop k1
    replace hc := hc.drop k0
    exact hK6 ((out ++ [(⟨e_2.Index, e_2.Delivered, e_2.Spill⟩ : ref09_Year)]), W (x + 1)) _ _ (Option.some.inj hF).symm ⟨p_4, c_4, hf.keep ⟨rfl, rfl, rfl, rfl, rfl, rfl, trivial⟩, hc⟩
  · replace hF := condF hb hF
    clear hb
    refine wp_exit ?_
    refine xThen ?_
    refine xThen ?_
    have he := Option.some.inj hF
    rw [← he] at hfin6
    refine cHit ?_
    exact hr6 _ _ _ hfin6 ⟨p_1, c_1, hf.keep ⟨rfl, rfl, rfl, rfl, rfl, rfl, trivial⟩, hc⟩

def law09_Border_b5 (N : Nat) (b_ : share_Border) (x : Int) (x_1 : List ref09_Point) : Option (Step (Int × (List ref09_Point)) (ref09_Border)) :=
  cond (decide (x < ((b_.Table.length : Nat) : Int)))
  (Option.bind (getI b_.Table x) fun e_1 =>
  Option.bind (room ((x_1 ++ [(⟨e_1.Index, e_1.Due⟩ : ref09_Point)])).length) fun un =>
  some (.cont (W (x + 1), (x_1 ++ [(⟨e_1.Index, e_1.Due⟩ : ref09_Point)]))))
  (some (.brk (x, x_1)))
def law09_Border (N : Nat) (b_ : share_Border) : Option (ref09_Border) :=
  Option.bind (loopO (fun s5 => law09_Border_b5 N b_ s5.1 s5.2) N (0, ([] : List ref09_Point))) fun x5 =>
  exK x5 (fun s5 => some (⟨s5.2, b_.Credit⟩ : ref09_Border)) some
theorem law09_Border_ok {N : Nat} {G : Pers} {Lf : List Ent} {w : World} (b_ : share_Border) {b__Table_p : Option Addr} {b__Table_c : Nat} (h_b__Table : Rd G 2 b__Table_p b__Table_c (b_.Table.map enc_share_Point)) (hc : Ctx G (Lf) w) {res : ref09_Border} (hF : law09_Border N b_ = some res) : Calls Try.prog 49 #[.agg #[.slice b__Table_p b_.Table.length b__Table_c, .int .i64 b_.Credit]] w (fun e w => ∃ (p'1 : Option Addr) (c'1 : Nat), e = .returned (.agg #[.slice p'1 res.Table.length c'1, .int .i64 res.Credit]) ∧ Ctx G (.row p'1 c'1 (res.Table.map enc_ref09_Point) 183 2 :: Lf) w) := by
  unfold law09_Border at hF
  refine fnIn (args := [.agg #[.slice b__Table_p b_.Table.length b__Table_c, .int .i64 b_.Credit]]) Try.func49 rfl Try.ntmps49 rfl fun a hf => ?_
  refine wp_seq_k fun K1 h1 => ?_
  refine cReg ?_
  refine stBx (cs := [.slice b__Table_p b_.Table.length b__Table_c, .int .i64 b_.Credit]) hf hc rfl rfl rfl rfl fun b_1 a w hf hc => ?_
  refine stAl (cs := [.slice none 0 0, .int .i64 0]) hf hc rfl rfl zr_106 rfl fun b_2 a w hf hc => ?_
  refine cNil ?_
  refine h1 _ _ ?_
  refine wp_seq_k fun K2 h2 => ?_
  refine cReg ?_
  refine stP hf rfl rfl rfl (pFA fa_88_1 rfl) fun a hf => ?_
  refine stE hf hc rfl rfl rfl (eLd1 sc_3 rfl (cell_box m1 rfl)) fun a w hf hc => ?_
  refine stP hf rfl rfl rfl (pBuildS (cells := [.slice none 0 0, .int .i64 b_.Credit]) bt_106 rfl rfl) fun a hf => ?_
  refine stAl (cs := [.slice none 0 0, .int .i64 0]) hf hc rfl rfl zr_106 rfl fun b_3 a w hf hc => ?_
  refine stSt (vs := [.slice none 0 0, .int .i64 b_.Credit]) hf hc rfl rfl rfl rfl sz_106 rfl rfl u0 fun w hc => ?_
  refine cNil ?_
  refine h2 _ _ ?_
  refine wp_seq_k fun K3 h3 => ?_
  refine wp_seq_k fun K4 h4 => ?_
  refine cReg ?_
  refine stP hf rfl rfl rfl (pFA fa_88_0 rfl) fun a hf => ?_
  refine stE hf hc rfl rfl rfl (eLd1 sc_86 rfl (cell_box m2 rfl)) fun a w hf hc => ?_
  refine stP hf rfl rfl rfl (pLenS Try.underlying86 rfl) fun a hf => ?_
  refine stP hf rfl rfl rfl (pM rfl) fun a hf => ?_
  refine cNil ?_
  refine h4 _ _ ?_
  refine wp_block ?_
  obtain ⟨x5, hx5, hF⟩ := bnd_some hF
  let S5 : (Int × (List ref09_Point)) → Act → World → Prop := (fun (zz : Int × (List ref09_Point)) a w => ∃ (p_1 : Option Addr) (c_1 : Nat), Has 24 a [(2, .pointer (some ⟨b_2, 0, none⟩)), (3, .pointer (some ⟨b_3, 0, none⟩)), (10, .slice b__Table_p b_.Table.length b__Table_c), (11, .int .i64 ((b_.Table.length : Nat) : Int)), (12, .int .i64 zz.1)] ∧ Ctx G (.row p_1 c_1 (zz.2.map enc_ref09_Point) 183 2 :: .box b_3 [.slice p_1 zz.2.length c_1, .int .i64 b_.Credit] 106 :: .box b_2 [.slice none 0 0, .int .i64 0] 106 :: Lf) w)
  have hr5 : ∀ (zz : Int × (List ref09_Point)) a w, x5 = .go zz → S5 zz a w → K3 a w := by
    rintro ⟨x, x_1⟩ a w rfl ⟨p_1, c_1, hf, hc⟩
    replace hF : _ = some res := hF
    refine h3 _ _ ?_
    refine wp_seq_k fun K6 h6 => ?_
    refine cReg ?_
    refine stE hf hc rfl rfl rfl (eLdN (vs := [.slice p_1 x_1.length c_1, .int .i64 b_.Credit]) ag_106 rfl rfl (cells_box (n := 2) m1 rfl)) fun a w hf hc => ?_
    refine stSt (vs := [.slice p_1 x_1.length c_1, .int .i64 b_.Credit]) hf hc rfl rfl rfl rfl sz_106 rfl rfl u2 fun w hc => ?_
    refine cNil ?_
    refine h6 _ _ ?_
    refine wp_ret ?_
    obtain rfl := Option.some.inj hF
    replace hc := hc.drop k1
    exact fnOut1 (by simp) rfl Try.results49 hf hc (rv_cellN (vs := [.slice p_1 x_1.length c_1, .int .i64 b_.Credit]) ag_106 rfl rfl (cells_box (n := 2) m1 rfl)) ⟨p_1, c_1, rfl, (hc.drop k1)⟩
  have ho5 : ∀ r, x5 = .out r → r = res := by
    rintro r rfl
    exact Option.some.inj hF
  replace hc := hc.nilRow 183 2
  replace hc := hc.drop k3
  refine cLoop N (loopW (S := S5) (x := x5) ?_ N (0, ([] : List ref09_Point)) _ _ ⟨none, 0, hf.keep ⟨rfl, rfl, rfl, rfl, rfl, trivial⟩, hc⟩ hx5)
  clear hF hf hc
  rintro ⟨x, x_1⟩ st5 a w KB5 ⟨p_1, c_1, hf, hc⟩ hF hfin5 hK5
  unfold law09_Border_b5 at hF
  refine wp_seq_k fun K7 h7 => ?_
  refine cReg ?_
  refine stP hf rfl rfl rfl (pLt rfl rfl) fun a hf => ?_
  refine cNil ?_
  refine h7 _ _ ?_
  refine wp_seq_k fun K8 h8 => ?_
  refine cCond (b := (decide (x < ((b_.Table.length : Nat) : Int)))) hf rfl (fun hb => ?_) (fun hb => ?_)
  · replace hF := condT hb hF
    clear hb
    refine wp_skip ?_
    refine h8 _ _ ?_
    refine wp_seq_k fun K9 h9 => ?_
    refine wp_block ?_
    refine wp_seq_k fun K10 h10 => ?_
    refine cReg ?_
    obtain ⟨e_1, he_1, hF⟩ := bnd_some hF
    obtain ⟨b_4, o, qa, qp⟩ := h_b__Table.atm he_1
    refine stP hf rfl rfl rfl (pIA Try.underlying86 sz_116 rfl rfl qa) fun a hf => ?_
    refine stE hf hc rfl rfl rfl (eLdN (vs := [.int .i64 e_1.Index, .int .i64 e_1.Due]) ag_116 rfl rfl (cells_pc qp (n := 2) (o' := 0) rfl)) fun a w hf hc => ?_
    refine stAl (cs := [.int .i64 0, .int .i64 0]) hf hc rfl rfl zr_116 rfl fun b_5 a w hf hc => ?_
    refine stSt (vs := [.int .i64 e_1.Index, .int .i64 e_1.Due]) hf hc rfl rfl rfl rfl sz_116 rfl rfl u0 fun w hc => ?_
    refine cNil ?_
    refine h10 _ _ ?_
    refine cReg ?_
    refine stP hf rfl rfl rfl (pFA fa_106_0 rfl) fun a hf => ?_
    refine stE hf hc rfl rfl rfl (eLd1 sc_104 rfl (cell_box m2 rfl)) fun a w hf hc => ?_
    refine stE hf hc rfl rfl rfl (eLdN (vs := [.int .i64 e_1.Index, .int .i64 e_1.Due]) ag_116 rfl rfl (cells_box (n := 2) m0 rfl)) fun a w hf hc => ?_
    refine stBS (rows := ([(⟨e_1.Index, e_1.Due⟩ : ref09_Point)] : List ref09_Point).map enc_ref09_Point) (vs := [(0, .agg #[.int .i64 e_1.Index, .int .i64 e_1.Due])]) hf hc rfl rfl sl_104 rfl ⟨rfl, rfl, rfl, trivial⟩ rfl rfl fun b_6 a w hf hc => ?_
    obtain ⟨un, hun, hF⟩ := bnd_some hF
    refine stApm (xs := x_1) (ys := ([(⟨e_1.Index, e_1.Due⟩ : ref09_Point)] : List ref09_Point)) hf hc rfl rfl sl_104 rfl rfl rfl rfl rfl one_enc_ref09_Point (src_row hc m0) (fun _ _ => u2) (by simpa using room_spec hun) fun p_2 c_2 a w hf hc => ?_
    refine stP hf rfl rfl rfl (pFA fa_106_0 rfl) fun a hf => ?_
    refine stSt (vs := [.slice p_2 ((x_1 ++ [(⟨e_1.Index, e_1.Due⟩ : ref09_Point)]).length) c_2]) hf hc rfl rfl rfl rfl sz_104 rfl rfl u3 fun w hc => ?_
    refine cNil ?_
    refine h9 _ _ ?_
    refine cReg ?_
    refine stP hf rfl rfl rfl (pAdd rfl rfl) fun a hf => ?_
    refine stP hf rfl rfl rfl (pM rfl) fun a hf => ?_
    refine cNil ?_
    replace hc := hc.drop k1
    replace hc := hc.drop k0
    exact hK5 (W (x + 1), (x_1 ++ [(⟨e_1.Index, e_1.Due⟩ : ref09_Point)])) _ _ (Option.some.inj hF).symm ⟨p_2, c_2, hf.keep ⟨rfl, rfl, rfl, rfl, rfl, trivial⟩, hc⟩
  · replace hF := condF hb hF
    clear hb
    refine wp_exit ?_
    refine xThen ?_
    refine xThen ?_
    have he := Option.some.inj hF
    rw [← he] at hfin5
    refine cHit ?_
    exact hr5 _ _ _ hfin5 ⟨p_1, c_1, hf.keep ⟨rfl, rfl, rfl, rfl, rfl, trivial⟩, hc⟩

def ref09_outside (n : Int) (a_ : Int) (b_ : Int) : Bool :=
  ((decide (n < a_)) || (decide (b_ < n)))
theorem ref09_outside_ok {G : Pers} {Lf : List Ent} {w : World} (n : Int) (a_ : Int) (b_ : Int)   (hc : Ctx G (Lf) w) {res : Bool} (hF : ref09_outside n a_ b_ = res) : Calls Try.prog 74 #[.int .i64 n, .int .i64 a_, .int .i64 b_] w (fun e w => e = .returned (.bool res) ∧ Ctx G (Lf) w) := by
  unfold ref09_outside at hF
  refine fnIn (args := [.int .i64 n, .int .i64 a_, .int .i64 b_]) Try.func74 rfl Try.ntmps74 rfl fun a hf => ?_
  refine wp_seq_k fun K1 h1 => ?_
  refine cReg ?_
  refine stP hf rfl rfl rfl (pA rfl) fun a hf => ?_
  refine cNil ?_
  refine h1 _ _ ?_
  refine wp_seq_k fun K2 h2 => ?_
  refine cReg ?_
  refine stP hf rfl rfl rfl (pM rfl) fun a hf => ?_
  refine stP hf rfl rfl rfl (pM rfl) fun a hf => ?_
  refine stP hf rfl rfl rfl (pLt rfl rfl) fun a hf => ?_
  refine stP hf rfl rfl rfl (pM rfl) fun a hf => ?_
  refine stCut 4 (fun a w => Has 15 a [(0, .int .i64 n), (1, .int .i64 a_), (2, .int .i64 b_), (6, .bool false), (7, .int .i64 n), (8, .int .i64 a_), (9, .bool (decide (n < a_))), (10, .bool (decide (n < a_))), (14, .bool ((decide (n < a_)) || (decide (b_ < n))))] ∧ Ctx G (Lf) w) ?_ ?_
  · cases hb : (decide (n < a_))
    · rw [hb] at hf
      refine stP hf rfl rfl rfl (pM rfl) fun a hf => ?_
      refine stP hf rfl rfl rfl (pM rfl) fun a hf => ?_
      refine stP hf rfl rfl rfl (pGt rfl rfl) fun a hf => ?_
      refine stP hf rfl rfl rfl (pPf rfl rfl) fun a hf => ?_
      exact cNil ⟨hf.keep ⟨rfl, rfl, rfl, rfl, rfl, rfl, rfl, rfl, rfl, trivial⟩, hc⟩
    · rw [hb] at hf
      refine stS hf rfl rfl rfl fun a hf => ?_
      refine stS hf rfl rfl rfl fun a hf => ?_
      refine stS hf rfl rfl rfl fun a hf => ?_
      refine stP hf rfl rfl rfl (pPt rfl rfl) fun a hf => ?_
      exact cNil ⟨hf.keep ⟨rfl, rfl, rfl, rfl, rfl, rfl, rfl, rfl, rfl, trivial⟩, hc⟩
  intro a w ⟨hf, hc⟩
  refine stP hf rfl rfl rfl (pA rfl) fun a hf => ?_
  refine cNil ?_
  refine h2 _ _ ?_
  refine wp_ret ?_
  obtain rfl := hF
  exact fnOut1 (by simp) rfl Try.results74 hf hc (show look _ 6 = _ from rfl) ⟨rfl, hc⟩

def ref09_CheckBorder_b14 (N : Nat) (b_ : ref09_Border) (i_2 : Int) : Option (Step (Int) (Int)) :=
  cond (decide (i_2 < ((b_.Table.length : Nat) : Int)))
  (Option.bind (getI b_.Table i_2) fun e_1 =>
  Option.bind (getI b_.Table (W (i_2 - 1))) fun e_2 =>
  Option.bind (cond (decide (e_1.Index ≤ e_2.Index)) (some true) (Option.bind (getI b_.Table i_2) fun e_3 =>
  Option.bind (getI b_.Table (W (i_2 - 1))) fun e_4 =>
  some (decide (e_3.Due < e_4.Due)))) fun t_1 =>
  cond t_1
  (some (.ret 9))
  (some (.cont (W (i_2 + 1)))))
  (some (.brk i_2))
def ref09_CheckBorder_b8 (N : Nat) (b_ : ref09_Border) (bad : Bool) (i_1 : Int) : Option (Step (Bool × Int) (Int)) :=
  cond (decide (i_1 < ((b_.Table.length : Nat) : Int)))
  (Option.bind (cond bad (some true) (Option.bind (getI b_.Table i_1) fun e_5 =>
  some (ref09_outside e_5.Index 0 1000000000))) fun t_2 =>
  Option.bind (cond t_2 (some true) (Option.bind (getI b_.Table i_1) fun e_6 =>
  some (ref09_outside e_6.Due 0 1000000000))) fun t_3 =>
  some (.cont (t_3, W (i_1 + 1))))
  (some (.brk (bad, i_1)))
def ref09_CheckBorder (N : Nat) (b_ : ref09_Border) : Option (Int) :=
  cond ((decide (((b_.Table.length : Nat) : Int) < 2)) || (decide (12 < ((b_.Table.length : Nat) : Int))))
  (some 3)
  (Option.bind (loopO (fun s8 => ref09_CheckBorder_b8 N b_ s8.1 s8.2) N ((ref09_outside b_.Credit 0 1000000000), 0)) fun x8 =>
  exK x8 (fun s8 => cond s8.1
  (some 100)
  (Option.bind (loopO (fun s14 => ref09_CheckBorder_b14 N b_ s14) N 1) fun x14 =>
  exK x14 (fun s14 => some 0) some)) some)
theorem ref09_CheckBorder_ok {N : Nat} {G : Pers} {Lf : List Ent} {w : World} (b_ : ref09_Border) {b__Table_p : Option Addr} {b__Table_c : Nat} (h_b__Table : Rd G 2 b__Table_p b__Table_c (b_.Table.map enc_ref09_Point)) (hc : Ctx G (Lf) w) {res : Int} (hF : ref09_CheckBorder N b_ = some res) : Calls Try.prog 48 #[.agg #[.slice b__Table_p b_.Table.length b__Table_c, .int .i64 b_.Credit]] w (fun e w => e = .returned (.int .i64 res) ∧ Ctx G (Lf) w) := by
  unfold ref09_CheckBorder at hF
  refine fnIn (args := [.agg #[.slice b__Table_p b_.Table.length b__Table_c, .int .i64 b_.Credit]]) Try.func48 rfl Try.ntmps48 rfl fun a hf => ?_
  refine wp_seq_k fun K1 h1 => ?_
  refine cReg ?_
  refine stBx (cs := [.slice b__Table_p b_.Table.length b__Table_c, .int .i64 b_.Credit]) hf hc rfl rfl rfl rfl fun b_1 a w hf hc => ?_
  refine stP hf rfl rfl rfl (pA rfl) fun a hf => ?_
  refine cNil ?_
  refine h1 _ _ ?_
  refine wp_seq_k fun K2 h2 => ?_
  refine wp_seq_k fun K3 h3 => ?_
  refine cReg ?_
  refine stP hf rfl rfl rfl (pFA fa_106_0 rfl) fun a hf => ?_
  refine stE hf hc rfl rfl rfl (eLd1 sc_104 rfl (cell_box m0 rfl)) fun a w hf hc => ?_
  refine stP hf rfl rfl rfl (pLenS Try.underlying104 rfl) fun a hf => ?_
  refine stP hf rfl rfl rfl (pLt rfl rfl) fun a hf => ?_
  refine stP hf rfl rfl rfl (pM rfl) fun a hf => ?_
  refine stCut 5 (fun a w => Has 83 a [(1, .pointer (some ⟨b_1, 0, none⟩)), (6, .pointer (some ⟨b_1, 0, none⟩)), (7, .slice b__Table_p b_.Table.length b__Table_c), (8, .int .i64 ((b_.Table.length : Nat) : Int)), (9, .bool (decide (((b_.Table.length : Nat) : Int) < 2))), (10, .bool (decide (((b_.Table.length : Nat) : Int) < 2))), (15, .bool ((decide (((b_.Table.length : Nat) : Int) < 2)) || (decide (12 < ((b_.Table.length : Nat) : Int)))))] ∧ Ctx G (.box b_1 [.slice b__Table_p b_.Table.length b__Table_c, .int .i64 b_.Credit] 106 :: Lf) w) ?_ ?_
  · cases hb : (decide (((b_.Table.length : Nat) : Int) < 2))
    · rw [hb] at hf
      refine stP hf rfl rfl rfl (pFA fa_106_0 rfl) fun a hf => ?_
      refine stE hf hc rfl rfl rfl (eLd1 sc_104 rfl (cell_box m0 rfl)) fun a w hf hc => ?_
      refine stP hf rfl rfl rfl (pLenS Try.underlying104 rfl) fun a hf => ?_
      refine stP hf rfl rfl rfl (pGt rfl rfl) fun a hf => ?_
      refine stP hf rfl rfl rfl (pPf rfl rfl) fun a hf => ?_
      exact cNil ⟨hf.keep ⟨rfl, rfl, rfl, rfl, rfl, rfl, rfl, trivial⟩, hc⟩
    · rw [hb] at hf
      refine stS hf rfl rfl rfl fun a hf => ?_
      refine stS hf rfl rfl rfl fun a hf => ?_
      refine stS hf rfl rfl rfl fun a hf => ?_
      refine stS hf rfl rfl rfl fun a hf => ?_
      refine stP hf rfl rfl rfl (pPt rfl rfl) fun a hf => ?_
      exact cNil ⟨hf.keep ⟨rfl, rfl, rfl, rfl, rfl, rfl, rfl, trivial⟩, hc⟩
  intro a w ⟨hf, hc⟩
  refine cNil ?_
  refine h3 _ _ ?_
  refine cCond (b := ((decide (((b_.Table.length : Nat) : Int) < 2)) || (decide (12 < ((b_.Table.length : Nat) : Int))))) hf rfl (fun hb => ?_) (fun hb => ?_)
  · replace hF := condT hb hF
    clear hb
    refine wp_seq_k fun K4 h4 => ?_
    refine cReg ?_
    refine stP hf rfl rfl rfl (pA rfl) fun a hf => ?_
    refine cNil ?_
    refine h4 _ _ ?_
    refine wp_ret ?_
    refine xThenR ?_
    obtain rfl := Option.some.inj hF
    replace hc := hc.drop k0
    exact fnOut1 (by simp) rfl Try.results48 hf hc (show look _ 2 = _ from rfl) ⟨rfl, hc⟩
  · replace hF := condF hb hF
    clear hb
    refine wp_skip ?_
    refine h2 _ _ ?_
    refine wp_seq_k fun K5 h5 => ?_
    refine cReg ?_
    refine stP hf rfl rfl rfl (pFA fa_106_1 rfl) fun a hf => ?_
    refine stE hf hc rfl rfl rfl (eLd1 sc_3 rfl (cell_box m0 rfl)) fun a w hf hc => ?_
    refine stE hf hc rfl rfl rfl (eC (v := .bool (ref09_outside b_.Credit 0 1000000000)) (vs := [.int .i64 b_.Credit, .int .i64 0, .int .i64 1000000000]) (caps := []) en_74 rfl rfl rfl rfl (fun w hc => ref09_outside_ok b_.Credit 0 1000000000 hc rfl)) fun a w hf hc => ?_
    refine stP hf rfl rfl rfl (pA rfl) fun a hf => ?_
    refine cNil ?_
    refine h5 _ _ ?_
    refine wp_seq_k fun K6 h6 => ?_
    refine wp_seq_k fun K7 h7 => ?_
    refine cReg ?_
    refine stP hf rfl rfl rfl (pA rfl) fun a hf => ?_
    refine cNil ?_
    refine h7 _ _ ?_
    refine wp_block ?_
    obtain ⟨x8, hx8, hF⟩ := bnd_some hF
    let S8 : (Bool × Int) → Act → World → Prop := (fun (zz : Bool × Int) a w => Has 83 a [(1, .pointer (some ⟨b_1, 0, none⟩)), (3, .bool zz.1), (4, .int .i64 zz.2)] ∧ Ctx G (.box b_1 [.slice b__Table_p b_.Table.length b__Table_c, .int .i64 b_.Credit] 106 :: Lf) w)
    have hr8 : ∀ (zz : Bool × Int) a w, x8 = .go zz → S8 zz a w → K6 a w := by
      rintro ⟨bad, i_1⟩ a w rfl ⟨hf, hc⟩
      replace hF : _ = some res := hF
      refine h6 _ _ ?_
      refine wp_seq_k fun K9 h9 => ?_
      refine wp_seq_k fun K10 h10 => ?_
      refine cReg ?_
      refine stP hf rfl rfl rfl (pM rfl) fun a hf => ?_
      refine cNil ?_
      refine h10 _ _ ?_
      refine cCond (b := bad) hf rfl (fun hb => ?_) (fun hb => ?_)
      · replace hF := condT hb hF
        clear hb
        refine wp_seq_k fun K11 h11 => ?_
        refine cReg ?_
        refine stP hf rfl rfl rfl (pA rfl) fun a hf => ?_
        refine cNil ?_
        refine h11 _ _ ?_
        refine wp_ret ?_
        refine xThenR ?_
        obtain rfl := Option.some.inj hF
        replace hc := hc.drop k0
        exact fnOut1 (by simp) rfl Try.results48 hf hc (show look _ 2 = _ from rfl) ⟨rfl, hc⟩
      · replace hF := condF hb hF
        clear hb
        refine wp_skip ?_
        refine h9 _ _ ?_
        refine wp_seq_k fun K12 h12 => ?_
        refine wp_seq_k fun K13 h13 => ?_
        refine cReg ?_
        refine stP hf rfl rfl rfl (pA rfl) fun a hf => ?_
        refine cNil ?_
        refine h13 _ _ ?_
        refine wp_block ?_
        obtain ⟨x14, hx14, hF⟩ := bnd_some hF
        let S14 : Int → Act → World → Prop := (fun (zz : Int) a w => Has 83 a [(1, .pointer (some ⟨b_1, 0, none⟩)), (5, .int .i64 zz)] ∧ Ctx G (.box b_1 [.slice b__Table_p b_.Table.length b__Table_c, .int .i64 b_.Credit] 106 :: Lf) w)
        have hr14 : ∀ (zz : Int) a w, x14 = .go zz → S14 zz a w → K12 a w := by
          rintro i_2 a w rfl ⟨hf, hc⟩
          replace hF : _ = some res := hF
          refine h12 _ _ ?_
          refine wp_seq_k fun K15 h15 => ?_
          refine cReg ?_
          refine stP hf rfl rfl rfl (pA rfl) fun a hf => ?_
          refine cNil ?_
          refine h15 _ _ ?_
          refine wp_ret ?_
          obtain rfl := Option.some.inj hF
          replace hc := hc.drop k0
          exact fnOut1 (by simp) rfl Try.results48 hf hc (show look _ 2 = _ from rfl) ⟨rfl, hc⟩
        have ho14 : ∀ r, x14 = .out r → r = res := by
          rintro r rfl
          exact Option.some.inj hF
        refine cLoop N (loopW (S := S14) (x := x14) ?_ N 1 _ _ ⟨hf.keep ⟨rfl, rfl, trivial⟩, hc⟩ hx14)
        clear hF hf hc
        rintro i_2 st14 a w KB14 ⟨hf, hc⟩ hF hfin14 hK14
        unfold ref09_CheckBorder_b14 at hF
        refine wp_seq_k fun K16 h16 => ?_
        refine wp_seq_k fun K17 h17 => ?_
        refine cReg ?_
        refine stP hf rfl rfl rfl (pM rfl) fun a hf => ?_
        refine stP hf rfl rfl rfl (pFA fa_106_0 rfl) fun a hf => ?_
        refine stE hf hc rfl rfl rfl (eLd1 sc_104 rfl (cell_box m0 rfl)) fun a w hf hc => ?_
        refine stP hf rfl rfl rfl (pLenS Try.underlying104 rfl) fun a hf => ?_
        refine stP hf rfl rfl rfl (pLt rfl rfl) fun a hf => ?_
        refine cNil ?_
        refine h17 _ _ ?_
        refine cCond (b := (decide (i_2 < ((b_.Table.length : Nat) : Int)))) hf rfl (fun hb => ?_) (fun hb => ?_)
        · replace hF := condT hb hF
          clear hb
          refine wp_skip ?_
          refine h16 _ _ ?_
          refine wp_seq_k fun K18 h18 => ?_
          refine wp_block ?_
          refine wp_seq_k fun K19 h19 => ?_
          obtain ⟨e_1, he_1, hF⟩ := bnd_some hF
          obtain ⟨b_2, o, qa, qp⟩ := h_b__Table.atm he_1
          obtain ⟨e_2, he_2, hF⟩ := bnd_some hF
          obtain ⟨b_3, o_1, qa_1, qp_1⟩ := h_b__Table.atm he_2
          obtain ⟨t_1, ht_1, hF⟩ := bnd_some hF
          refine cQ hc follows_mx (by kernel_rfl) ?_
          refine qE hf rfl rfl rfl (Pu.ev (pFA fa_106_0 rfl)) fun a hf => ?_
          refine qE hf rfl rfl rfl (eLd1 sc_104 rfl (cell_box m0 rfl)) fun a hf => ?_
          refine qE hf rfl rfl rfl (Pu.ev (pM rfl)) fun a hf => ?_
          refine qE hf rfl rfl rfl (Pu.ev (pIA Try.underlying104 sz_183 rfl rfl qa)) fun a hf => ?_
          refine qE hf rfl rfl rfl (Pu.ev (pFA fa_183_0 rfl)) fun a hf => ?_
          refine qE hf rfl rfl rfl (eLd1 sc_3 rfl (cell_pc (j := 0) qp rfl)) fun a hf => ?_
          refine qE hf rfl rfl rfl (Pu.ev (pFA fa_106_0 rfl)) fun a hf => ?_
          refine qE hf rfl rfl rfl (eLd1 sc_104 rfl (cell_box m0 rfl)) fun a hf => ?_
          refine qE hf rfl rfl rfl (Pu.ev (pM rfl)) fun a hf => ?_
          refine qE hf rfl rfl rfl (Pu.ev (pSub rfl rfl)) fun a hf => ?_
          refine qE hf rfl rfl rfl (Pu.ev (pIA Try.underlying104 sz_183 rfl rfl qa_1)) fun a hf => ?_
          refine qE hf rfl rfl rfl (Pu.ev (pFA fa_183_0 rfl)) fun a hf => ?_
          refine qE hf rfl rfl rfl (eLd1 sc_3 rfl (cell_pc (j := 0) qp_1 rfl)) fun a hf => ?_
          refine qE hf rfl rfl rfl (Pu.ev (pLe rfl rfl)) fun a hf => ?_
          refine qE hf rfl rfl rfl (Pu.ev (pM rfl)) fun a hf => ?_
          refine qCut 15 (fun a => Has 83 a [(1, .pointer (some ⟨b_1, 0, none⟩)), (5, .int .i64 i_2), (53, .pointer (some ⟨b_1, 0, none⟩)), (54, .slice b__Table_p b_.Table.length b__Table_c), (55, .int .i64 i_2), (56, .pointer (some ⟨b_2, o, none⟩)), (57, .pointer (some ⟨b_2, o + 0, none⟩)), (58, .int .i64 e_1.Index), (59, .pointer (some ⟨b_1, 0, none⟩)), (60, .slice b__Table_p b_.Table.length b__Table_c), (61, .int .i64 i_2), (62, .int .i64 (W (i_2 - 1))), (63, .pointer (some ⟨b_3, o_1, none⟩)), (64, .pointer (some ⟨b_3, o_1 + 0, none⟩)), (65, .int .i64 e_2.Index), (66, .bool (decide (e_1.Index ≤ e_2.Index))), (67, .bool (decide (e_1.Index ≤ e_2.Index))), (82, .bool t_1)]) ?_ ?_
          · cases hb : (decide (e_1.Index ≤ e_2.Index))
            · rw [hb] at hf
              have hF := condF hb ht_1
              obtain ⟨e_3, he_3, hF⟩ := bnd_some hF
              obtain ⟨b_4, o_2, qa_2, qp_2⟩ := h_b__Table.atm he_3
              obtain ⟨e_4, he_4, hF⟩ := bnd_some hF
              obtain ⟨b_5, o_3, qa_3, qp_3⟩ := h_b__Table.atm he_4
              refine qE hf rfl rfl rfl (Pu.ev (pFA fa_106_0 rfl)) fun a hf => ?_
              refine qE hf rfl rfl rfl (eLd1 sc_104 rfl (cell_box m0 rfl)) fun a hf => ?_
              refine qE hf rfl rfl rfl (Pu.ev (pM rfl)) fun a hf => ?_
              refine qE hf rfl rfl rfl (Pu.ev (pIA Try.underlying104 sz_183 rfl rfl qa_2)) fun a hf => ?_
              refine qE hf rfl rfl rfl (Pu.ev (pFA fa_183_1 rfl)) fun a hf => ?_
              refine qE hf rfl rfl rfl (eLd1 sc_3 rfl (cell_pc (j := 1) qp_2 rfl)) fun a hf => ?_
              refine qE hf rfl rfl rfl (Pu.ev (pFA fa_106_0 rfl)) fun a hf => ?_
              refine qE hf rfl rfl rfl (eLd1 sc_104 rfl (cell_box m0 rfl)) fun a hf => ?_
              refine qE hf rfl rfl rfl (Pu.ev (pM rfl)) fun a hf => ?_
              refine qE hf rfl rfl rfl (Pu.ev (pSub rfl rfl)) fun a hf => ?_
              refine qE hf rfl rfl rfl (Pu.ev (pIA Try.underlying104 sz_183 rfl rfl qa_3)) fun a hf => ?_
              refine qE hf rfl rfl rfl (Pu.ev (pFA fa_183_1 rfl)) fun a hf => ?_
              refine qE hf rfl rfl rfl (eLd1 sc_3 rfl (cell_pc (j := 1) qp_3 rfl)) fun a hf => ?_
              refine qE hf rfl rfl rfl (Pu.ev (pLt rfl rfl)) fun a hf => ?_
              refine qE hf rfl rfl rfl (Pu.ev (pPf rfl rfl)) fun a hf => ?_
              obtain rfl := Option.some.inj hF
              exact qNil (hf.keep ⟨rfl, rfl, rfl, rfl, rfl, rfl, rfl, rfl, rfl, rfl, rfl, rfl, rfl, rfl, rfl, rfl, rfl, rfl, trivial⟩)
            · rw [hb] at hf
              have hF := condT hb ht_1
              obtain rfl := Option.some.inj hF
              refine qS hf rfl rfl rfl fun a hf => ?_
              refine qS hf rfl rfl rfl fun a hf => ?_
              refine qS hf rfl rfl rfl fun a hf => ?_
              refine qS hf rfl rfl rfl fun a hf => ?_
              refine qS hf rfl rfl rfl fun a hf => ?_
              refine qS hf rfl rfl rfl fun a hf => ?_
              refine qS hf rfl rfl rfl fun a hf => ?_
              refine qS hf rfl rfl rfl fun a hf => ?_
              refine qS hf rfl rfl rfl fun a hf => ?_
              refine qS hf rfl rfl rfl fun a hf => ?_
              refine qS hf rfl rfl rfl fun a hf => ?_
              refine qS hf rfl rfl rfl fun a hf => ?_
              refine qS hf rfl rfl rfl fun a hf => ?_
              refine qS hf rfl rfl rfl fun a hf => ?_
              refine qE hf rfl rfl rfl (Pu.ev (pPt rfl rfl)) fun a hf => ?_
              exact qNil (hf.keep ⟨rfl, rfl, rfl, rfl, rfl, rfl, rfl, rfl, rfl, rfl, rfl, rfl, rfl, rfl, rfl, rfl, rfl, rfl, trivial⟩)
          intro a hf
          intro w hc
          refine h19 _ _ ?_
          refine cCond (b := t_1) hf rfl (fun hb => ?_) (fun hb => ?_)
          · replace hF := condT hb hF
            clear hb
            refine wp_seq_k fun K20 h20 => ?_
            refine cReg ?_
            refine stP hf rfl rfl rfl (pA rfl) fun a hf => ?_
            refine cNil ?_
            refine h20 _ _ ?_
            refine wp_ret ?_
            refine xBlkR ?_
            refine xThenR ?_
            refine xThenR ?_
            have he := Option.some.inj hF
            rw [← he] at hfin14
            replace hF := ho14 _ hfin14
            refine xBlkR ?_
            refine xThenR ?_
            obtain rfl := hF
            replace hc := hc.drop k0
            exact fnOut1 (by simp) rfl Try.results48 hf hc (show look _ 2 = _ from rfl) ⟨rfl, hc⟩
          · replace hF := condF hb hF
            clear hb
            refine wp_skip ?_
            refine h18 _ _ ?_
            refine cReg ?_
            refine stP hf rfl rfl rfl (pM rfl) fun a hf => ?_
            refine stP hf rfl rfl rfl (pAdd rfl rfl) fun a hf => ?_
            refine stP hf rfl rfl rfl (pA rfl) fun a hf => ?_
            refine cNil ?_
            exact hK14 (W (i_2 + 1)) _ _ (Option.some.inj hF).symm ⟨hf.keep ⟨rfl, rfl, trivial⟩, hc⟩
        · replace hF := condF hb hF
          clear hb
          refine wp_exit ?_
          refine xThen ?_
          refine xThen ?_
          have he := Option.some.inj hF
          rw [← he] at hfin14
          refine cHit ?_
          exact hr14 _ _ _ hfin14 ⟨hf.keep ⟨rfl, rfl, trivial⟩, hc⟩
    have ho8 : ∀ r, x8 = .out r → r = res := by
      rintro r rfl
      exact Option.some.inj hF
    refine cLoop N (loopW (S := S8) (x := x8) ?_ N ((ref09_outside b_.Credit 0 1000000000), 0) _ _ ⟨hf.keep ⟨rfl, rfl, rfl, trivial⟩, hc⟩ hx8)
    clear hF hf hc
    rintro ⟨bad, i_1⟩ st8 a w KB8 ⟨hf, hc⟩ hF hfin8 hK8
    unfold ref09_CheckBorder_b8 at hF
    refine wp_seq_k fun K21 h21 => ?_
    refine wp_seq_k fun K22 h22 => ?_
    refine cReg ?_
    refine stP hf rfl rfl rfl (pM rfl) fun a hf => ?_
    refine stP hf rfl rfl rfl (pFA fa_106_0 rfl) fun a hf => ?_
    refine stE hf hc rfl rfl rfl (eLd1 sc_104 rfl (cell_box m0 rfl)) fun a w hf hc => ?_
    refine stP hf rfl rfl rfl (pLenS Try.underlying104 rfl) fun a hf => ?_
    refine stP hf rfl rfl rfl (pLt rfl rfl) fun a hf => ?_
    refine cNil ?_
    refine h22 _ _ ?_
    refine cCond (b := (decide (i_1 < ((b_.Table.length : Nat) : Int)))) hf rfl (fun hb => ?_) (fun hb => ?_)
    · replace hF := condT hb hF
      clear hb
      refine wp_skip ?_
      refine h21 _ _ ?_
      refine wp_seq_k fun K23 h23 => ?_
      refine wp_block ?_
      refine cReg ?_
      refine stP hf rfl rfl rfl (pM rfl) fun a hf => ?_
      refine stP hf rfl rfl rfl (pM rfl) fun a hf => ?_
      obtain ⟨t_2, ht_2, hF⟩ := bnd_some hF
      refine stCut 8 (fun a w => Has 83 a [(1, .pointer (some ⟨b_1, 0, none⟩)), (3, .bool bad), (4, .int .i64 i_1), (26, .bool bad), (27, .bool bad), (35, .bool t_2)] ∧ Ctx G (.box b_1 [.slice b__Table_p b_.Table.length b__Table_c, .int .i64 b_.Credit] 106 :: Lf) w) ?_ ?_
      · cases hb : bad
        · rw [hb] at hf
          have hF := condF hb ht_2
          refine stP hf rfl rfl rfl (pFA fa_106_0 rfl) fun a hf => ?_
          refine stE hf hc rfl rfl rfl (eLd1 sc_104 rfl (cell_box m0 rfl)) fun a w hf hc => ?_
          refine stP hf rfl rfl rfl (pM rfl) fun a hf => ?_
          obtain ⟨e_5, he_5, hF⟩ := bnd_some hF
          obtain ⟨b_6, o_4, qa_4, qp_4⟩ := h_b__Table.atm he_5
          refine stP hf rfl rfl rfl (pIA Try.underlying104 sz_183 rfl rfl qa_4) fun a hf => ?_
          refine stP hf rfl rfl rfl (pFA fa_183_0 rfl) fun a hf => ?_
          refine stE hf hc rfl rfl rfl (eLd1 sc_3 rfl (cell_pc (j := 0) qp_4 rfl)) fun a w hf hc => ?_
          refine stE hf hc rfl rfl rfl (eC (v := .bool (ref09_outside e_5.Index 0 1000000000)) (vs := [.int .i64 e_5.Index, .int .i64 0, .int .i64 1000000000]) (caps := []) en_74 rfl rfl rfl rfl (fun w hc => ref09_outside_ok e_5.Index 0 1000000000 hc rfl)) fun a w hf hc => ?_
          refine stP hf rfl rfl rfl (pPf rfl rfl) fun a hf => ?_
          obtain rfl := Option.some.inj hF
          exact cNil ⟨hf.keep ⟨rfl, rfl, rfl, rfl, rfl, rfl, trivial⟩, hc⟩
        · rw [hb] at hf
          have hF := condT hb ht_2
          obtain rfl := Option.some.inj hF
          refine stS hf rfl rfl rfl fun a hf => ?_
          refine stS hf rfl rfl rfl fun a hf => ?_
          refine stS hf rfl rfl rfl fun a hf => ?_
          refine stS hf rfl rfl rfl fun a hf => ?_
          refine stS hf rfl rfl rfl fun a hf => ?_
          refine stS hf rfl rfl rfl fun a hf => ?_
          refine stS hf rfl rfl rfl fun a hf => ?_
          refine stP hf rfl rfl rfl (pPt rfl rfl) fun a hf => ?_
          exact cNil ⟨hf.keep ⟨rfl, rfl, rfl, rfl, rfl, rfl, trivial⟩, hc⟩
      intro a w ⟨hf, hc⟩
      refine stP hf rfl rfl rfl (pM rfl) fun a hf => ?_
      obtain ⟨t_3, ht_3, hF⟩ := bnd_some hF
      refine stCut 8 (fun a w => Has 83 a [(1, .pointer (some ⟨b_1, 0, none⟩)), (3, .bool bad), (4, .int .i64 i_1), (26, .bool bad), (27, .bool bad), (35, .bool t_2), (36, .bool t_2), (44, .bool t_3)] ∧ Ctx G (.box b_1 [.slice b__Table_p b_.Table.length b__Table_c, .int .i64 b_.Credit] 106 :: Lf) w) ?_ ?_
      · cases hb : t_2
        · rw [hb] at hf
          have hF := condF hb ht_3
          refine stP hf rfl rfl rfl (pFA fa_106_0 rfl) fun a hf => ?_
          refine stE hf hc rfl rfl rfl (eLd1 sc_104 rfl (cell_box m0 rfl)) fun a w hf hc => ?_
          refine stP hf rfl rfl rfl (pM rfl) fun a hf => ?_
          obtain ⟨e_6, he_6, hF⟩ := bnd_some hF
          obtain ⟨b_7, o_5, qa_5, qp_5⟩ := h_b__Table.atm he_6
          refine stP hf rfl rfl rfl (pIA Try.underlying104 sz_183 rfl rfl qa_5) fun a hf => ?_
          refine stP hf rfl rfl rfl (pFA fa_183_1 rfl) fun a hf => ?_
          refine stE hf hc rfl rfl rfl (eLd1 sc_3 rfl (cell_pc (j := 1) qp_5 rfl)) fun a w hf hc => ?_
          refine stE hf hc rfl rfl rfl (eC (v := .bool (ref09_outside e_6.Due 0 1000000000)) (vs := [.int .i64 e_6.Due, .int .i64 0, .int .i64 1000000000]) (caps := []) en_74 rfl rfl rfl rfl (fun w hc => ref09_outside_ok e_6.Due 0 1000000000 hc rfl)) fun a w hf hc => ?_
          refine stP hf rfl rfl rfl (pPf rfl rfl) fun a hf => ?_
          obtain rfl := Option.some.inj hF
          exact cNil ⟨hf.keep ⟨rfl, rfl, rfl, rfl, rfl, rfl, rfl, rfl, trivial⟩, hc⟩
        · rw [hb] at hf
          have hF := condT hb ht_3
          obtain rfl := Option.some.inj hF
          refine stS hf rfl rfl rfl fun a hf => ?_
          refine stS hf rfl rfl rfl fun a hf => ?_
          refine stS hf rfl rfl rfl fun a hf => ?_
          refine stS hf rfl rfl rfl fun a hf => ?_
          refine stS hf rfl rfl rfl fun a hf => ?_
          refine stS hf rfl rfl rfl fun a hf => ?_
          refine stS hf rfl rfl rfl fun a hf => ?_
          refine stP hf rfl rfl rfl (pPt rfl rfl) fun a hf => ?_
          exact cNil ⟨hf.keep ⟨rfl, rfl, rfl, rfl, rfl, rfl, rfl, rfl, trivial⟩, hc⟩
      intro a w ⟨hf, hc⟩
      refine stP hf rfl rfl rfl (pA rfl) fun a hf => ?_
      refine cNil ?_
      refine h23 _ _ ?_
      refine cReg ?_
      refine stP hf rfl rfl rfl (pM rfl) fun a hf => ?_
      refine stP hf rfl rfl rfl (pAdd rfl rfl) fun a hf => ?_
      refine stP hf rfl rfl rfl (pA rfl) fun a hf => ?_
      refine cNil ?_
      exact hK8 (t_3, W (i_1 + 1)) _ _ (Option.some.inj hF).symm ⟨hf.keep ⟨rfl, rfl, rfl, trivial⟩, hc⟩
    · replace hF := condF hb hF
      clear hb
      refine wp_exit ?_
      refine xThen ?_
      refine xThen ?_
      have he := Option.some.inj hF
      rw [← he] at hfin8
      refine cHit ?_
      exact hr8 _ _ _ hfin8 ⟨hf.keep ⟨rfl, rfl, rfl, trivial⟩, hc⟩

def share_Due (N : Nat) (b_ : share_Border) (index : Int) : Option (Int × Int) :=
  Option.bind (share_CheckBorder N b_) fun r =>
  cond (r != 0)
  (some (0, r))
  (cond (!(share_water index))
  (some (0, 4))
  (Option.bind (share_Border_due N b_ index) fun r_1 =>
  some (r_1, 0)))
theorem share_Due_ok {N : Nat} {G : Pers} {Lf : List Ent} {w : World} (b_ : share_Border) (index : Int) {b__Table_p : Option Addr} {b__Table_c : Nat} (h_b__Table : Rd G 2 b__Table_p b__Table_c (b_.Table.map enc_share_Point)) (hc : Ctx G (Lf) w) {res : Int × Int} (hF : share_Due N b_ index = some res) : Calls Try.prog 50 #[.agg #[.slice b__Table_p b_.Table.length b__Table_c, .int .i64 b_.Credit], .int .i64 index] w (fun e w => e = .returned (.tuple #[.int .i64 res.1, .int .i64 res.2]) ∧ Ctx G (Lf) w) := by
  unfold share_Due at hF
  refine fnIn (args := [.agg #[.slice b__Table_p b_.Table.length b__Table_c, .int .i64 b_.Credit], .int .i64 index]) Try.func50 rfl Try.ntmps50 rfl fun a hf => ?_
  refine wp_seq_k fun K1 h1 => ?_
  refine cReg ?_
  refine stBx (cs := [.slice b__Table_p b_.Table.length b__Table_c, .int .i64 b_.Credit]) hf hc rfl rfl rfl rfl fun b_1 a w hf hc => ?_
  refine stP hf rfl rfl rfl (pA rfl) fun a hf => ?_
  refine stP hf rfl rfl rfl (pA rfl) fun a hf => ?_
  refine cNil ?_
  refine h1 _ _ ?_
  refine wp_seq_k fun K2 h2 => ?_
  refine cReg ?_
  refine stE hf hc rfl rfl rfl (eLdN (vs := [.slice b__Table_p b_.Table.length b__Table_c, .int .i64 b_.Credit]) ag_88 rfl rfl (cells_box (n := 2) m0 rfl)) fun a w hf hc => ?_
  obtain ⟨r, hr, hF⟩ := bnd_some hF
  refine stE hf hc rfl rfl rfl (eC (v := .int .i64 r) (vs := [.agg #[.slice b__Table_p b_.Table.length b__Table_c, .int .i64 b_.Credit]]) (caps := []) en_47 rfl rfl rfl rfl (fun w hc => share_CheckBorder_ok b_ h_b__Table hc hr)) fun a w hf hc => ?_
  refine stP hf rfl rfl rfl (pA rfl) fun a hf => ?_
  refine cNil ?_
  refine h2 _ _ ?_
  refine wp_seq_k fun K3 h3 => ?_
  refine wp_block ?_
  refine wp_seq_k fun K4 h4 => ?_
  refine cReg ?_
  refine stP hf rfl rfl rfl (pM rfl) fun a hf => ?_
  refine stP hf rfl rfl rfl (pNe rfl rfl) fun a hf => ?_
  refine stP hf rfl rfl rfl (pA rfl) fun a hf => ?_
  refine cNil ?_
  refine h4 _ _ ?_
  refine cCond (b := (r != 0)) hf rfl (fun hb => ?_) (fun hb => ?_)
  · replace hF := condT hb hF
    clear hb
    refine wp_seq_k fun K5 h5 => ?_
    refine cReg ?_
    refine stP hf rfl rfl rfl (pM rfl) fun a hf => ?_
    refine stP hf rfl rfl rfl (pA rfl) fun a hf => ?_
    refine stP hf rfl rfl rfl (pA rfl) fun a hf => ?_
    refine cNil ?_
    refine h5 _ _ ?_
    refine wp_ret ?_
    refine xBlkR ?_
    refine xThenR ?_
    obtain rfl := Option.some.inj hF
    replace hc := hc.drop k0
    exact fnOut2 (by simp) rfl Try.results50 hf hc (show look _ 4 = _ from rfl) (show look _ 5 = _ from rfl) ⟨rfl, hc⟩
  · replace hF := condF hb hF
    clear hb
    refine wp_seq_k fun K6 h6 => ?_
    refine cReg ?_
    refine stP hf rfl rfl rfl (pM rfl) fun a hf => ?_
    refine stE hf hc rfl rfl rfl (eC (v := .bool (share_water index)) (vs := [.int .i64 index]) (caps := []) en_73 rfl rfl rfl rfl (fun w hc => share_water_ok index hc rfl)) fun a w hf hc => ?_
    refine stP hf rfl rfl rfl (pNot rfl) fun a hf => ?_
    refine stP hf rfl rfl rfl (pA rfl) fun a hf => ?_
    refine cNil ?_
    refine h6 _ _ ?_
    refine cCond (b := (!(share_water index))) hf rfl (fun hb => ?_) (fun hb => ?_)
    · replace hF := condT hb hF
      clear hb
      refine wp_seq_k fun K7 h7 => ?_
      refine cReg ?_
      refine stP hf rfl rfl rfl (pA rfl) fun a hf => ?_
      refine stP hf rfl rfl rfl (pA rfl) fun a hf => ?_
      refine cNil ?_
      refine h7 _ _ ?_
      refine wp_ret ?_
      refine xBlkR ?_
      refine xThenR ?_
      obtain rfl := Option.some.inj hF
      replace hc := hc.drop k0
      exact fnOut2 (by simp) rfl Try.results50 hf hc (show look _ 4 = _ from rfl) (show look _ 5 = _ from rfl) ⟨rfl, hc⟩
    · replace hF := condF hb hF
      clear hb
      refine wp_skip ?_
      refine h3 _ _ ?_
      refine wp_seq_k fun K8 h8 => ?_
      refine cReg ?_
      refine stE hf hc rfl rfl rfl (eLdN (vs := [.slice b__Table_p b_.Table.length b__Table_c, .int .i64 b_.Credit]) ag_88 rfl rfl (cells_box (n := 2) m0 rfl)) fun a w hf hc => ?_
      refine stP hf rfl rfl rfl (pM rfl) fun a hf => ?_
      obtain ⟨r_1, hr_1, hF⟩ := bnd_some hF
      refine stE hf hc rfl rfl rfl (eC (v := .int .i64 r_1) (vs := [.agg #[.slice b__Table_p b_.Table.length b__Table_c, .int .i64 b_.Credit], .int .i64 index]) (caps := []) en_97 rfl rfl rfl rfl (fun w hc => share_Border_due_ok b_ index h_b__Table hc hr_1)) fun a w hf hc => ?_
      refine stP hf rfl rfl rfl (pA rfl) fun a hf => ?_
      refine stP hf rfl rfl rfl (pA rfl) fun a hf => ?_
      refine cNil ?_
      refine h8 _ _ ?_
      refine wp_ret ?_
      obtain rfl := Option.some.inj hF
      replace hc := hc.drop k0
      exact fnOut2 (by simp) rfl Try.results50 hf hc (show look _ 4 = _ from rfl) (show look _ 5 = _ from rfl) ⟨rfl, hc⟩

def ref09_due_b7 (N : Nat) (b_ : ref09_Border) (index : Int) (i_1 : Int) : Option (Step (Int) (Int)) :=
  cond (decide (i_1 < ((b_.Table.length : Nat) : Int)))
  (Option.bind (getI b_.Table (W (i_1 - 1))) fun e_4 =>
  Option.bind (getI b_.Table i_1) fun e_5 =>
  cond (decide (index ≤ e_5.Index))
  (Option.bind (nz (W (e_5.Index - e_4.Index))) fun un =>
  some (.ret (W ((W ((W (e_4.Due * (W (e_5.Index - index)))) + (W (e_5.Due * (W (index - e_4.Index)))))).tdiv (W (e_5.Index - e_4.Index))))))
  (some (.cont (W (i_1 + 1)))))
  (some (.brk i_1))
def ref09_due (N : Nat) (b_ : ref09_Border) (index : Int) : Option (Int) :=
  Option.bind (getI b_.Table 0) fun e_1 =>
  cond (decide (index ≤ e_1.Index))
  (Option.bind (getI b_.Table 0) fun e_2 =>
  some e_2.Due)
  (Option.bind (loopO (fun s7 => ref09_due_b7 N b_ index s7) N 1) fun x7 =>
  exK x7 (fun s7 => Option.bind (getI b_.Table (W (((b_.Table.length : Nat) : Int) - 1))) fun e_3 =>
  some e_3.Due) some)
theorem ref09_due_ok {N : Nat} {G : Pers} {Lf : List Ent} {w : World} (b_ : ref09_Border) (index : Int) {b__Table_p : Option Addr} {b__Table_c : Nat} (h_b__Table : Rd G 2 b__Table_p b__Table_c (b_.Table.map enc_ref09_Point)) (hc : Ctx G (Lf) w) {res : Int} (hF : ref09_due N b_ index = some res) : Calls Try.prog 98 #[.agg #[.slice b__Table_p b_.Table.length b__Table_c, .int .i64 b_.Credit], .int .i64 index] w (fun e w => e = .returned (.int .i64 res) ∧ Ctx G (Lf) w) := by
  unfold ref09_due at hF
  refine fnIn (args := [.agg #[.slice b__Table_p b_.Table.length b__Table_c, .int .i64 b_.Credit], .int .i64 index]) Try.func98 rfl Try.ntmps98 rfl fun a hf => ?_
  refine wp_seq_k fun K1 h1 => ?_
  refine cReg ?_
  refine stBx (cs := [.slice b__Table_p b_.Table.length b__Table_c, .int .i64 b_.Credit]) hf hc rfl rfl rfl rfl fun b_1 a w hf hc => ?_
  refine stP hf rfl rfl rfl (pA rfl) fun a hf => ?_
  refine cNil ?_
  refine h1 _ _ ?_
  refine wp_seq_k fun K2 h2 => ?_
  refine wp_seq_k fun K3 h3 => ?_
  refine cReg ?_
  refine stP hf rfl rfl rfl (pM rfl) fun a hf => ?_
  refine stP hf rfl rfl rfl (pFA fa_106_0 rfl) fun a hf => ?_
  refine stE hf hc rfl rfl rfl (eLd1 sc_104 rfl (cell_box m0 rfl)) fun a w hf hc => ?_
  obtain ⟨e_1, he_1, hF⟩ := bnd_some hF
  obtain ⟨b_2, o, qa, qp⟩ := h_b__Table.atm he_1
  refine stP hf rfl rfl rfl (pIA Try.underlying104 sz_183 rfl rfl qa) fun a hf => ?_
  refine stP hf rfl rfl rfl (pFA fa_183_0 rfl) fun a hf => ?_
  refine stE hf hc rfl rfl rfl (eLd1 sc_3 rfl (cell_pc (j := 0) qp rfl)) fun a w hf hc => ?_
  refine stP hf rfl rfl rfl (pLe rfl rfl) fun a hf => ?_
  refine cNil ?_
  refine h3 _ _ ?_
  refine cCond (b := (decide (index ≤ e_1.Index))) hf rfl (fun hb => ?_) (fun hb => ?_)
  · replace hF := condT hb hF
    clear hb
    refine wp_seq_k fun K4 h4 => ?_
    refine cReg ?_
    refine stP hf rfl rfl rfl (pFA fa_106_0 rfl) fun a hf => ?_
    refine stE hf hc rfl rfl rfl (eLd1 sc_104 rfl (cell_box m0 rfl)) fun a w hf hc => ?_
    obtain ⟨e_2, he_2, hF⟩ := bnd_some hF
    obtain ⟨b_3, o_1, qa_1, qp_1⟩ := h_b__Table.atm he_2
    refine stP hf rfl rfl rfl (pIA Try.underlying104 sz_183 rfl rfl qa_1) fun a hf => ?_
    refine stP hf rfl rfl rfl (pFA fa_183_1 rfl) fun a hf => ?_
    refine stE hf hc rfl rfl rfl (eLd1 sc_3 rfl (cell_pc (j := 1) qp_1 rfl)) fun a w hf hc => ?_
    refine stP hf rfl rfl rfl (pA rfl) fun a hf => ?_
    refine cNil ?_
    refine h4 _ _ ?_
    refine wp_ret ?_
    refine xThenR ?_
    obtain rfl := Option.some.inj hF
    replace hc := hc.drop k0
    exact fnOut1 (by simp) rfl Try.results98 hf hc (show look _ 4 = _ from rfl) ⟨rfl, hc⟩
  · replace hF := condF hb hF
    clear hb
    refine wp_skip ?_
    refine h2 _ _ ?_
    refine wp_seq_k fun K5 h5 => ?_
    refine wp_seq_k fun K6 h6 => ?_
    refine cReg ?_
    refine stP hf rfl rfl rfl (pA rfl) fun a hf => ?_
    refine cNil ?_
    refine h6 _ _ ?_
    refine wp_block ?_
    obtain ⟨x7, hx7, hF⟩ := bnd_some hF
    let S7 : Int → Act → World → Prop := (fun (zz : Int) a w => Has 72 a [(1, .int .i64 index), (2, .pointer (some ⟨b_1, 0, none⟩)), (5, .int .i64 zz)] ∧ Ctx G (.box b_1 [.slice b__Table_p b_.Table.length b__Table_c, .int .i64 b_.Credit] 106 :: Lf) w)
    have hr7 : ∀ (zz : Int) a w, x7 = .go zz → S7 zz a w → K5 a w := by
      rintro i_1 a w rfl ⟨hf, hc⟩
      replace hF : _ = some res := hF
      refine h5 _ _ ?_
      refine wp_seq_k fun K8 h8 => ?_
      refine cReg ?_
      refine stP hf rfl rfl rfl (pFA fa_106_0 rfl) fun a hf => ?_
      refine stE hf hc rfl rfl rfl (eLd1 sc_104 rfl (cell_box m0 rfl)) fun a w hf hc => ?_
      refine stP hf rfl rfl rfl (pFA fa_106_0 rfl) fun a hf => ?_
      refine stE hf hc rfl rfl rfl (eLd1 sc_104 rfl (cell_box m0 rfl)) fun a w hf hc => ?_
      refine stP hf rfl rfl rfl (pLenS Try.underlying104 rfl) fun a hf => ?_
      refine stP hf rfl rfl rfl (pSub rfl rfl) fun a hf => ?_
      obtain ⟨e_3, he_3, hF⟩ := bnd_some hF
      obtain ⟨b_4, o_2, qa_2, qp_2⟩ := h_b__Table.atm he_3
      refine stP hf rfl rfl rfl (pIA Try.underlying104 sz_183 rfl rfl qa_2) fun a hf => ?_
      refine stP hf rfl rfl rfl (pFA fa_183_1 rfl) fun a hf => ?_
      refine stE hf hc rfl rfl rfl (eLd1 sc_3 rfl (cell_pc (j := 1) qp_2 rfl)) fun a w hf hc => ?_
      refine stP hf rfl rfl rfl (pA rfl) fun a hf => ?_
      refine cNil ?_
      refine h8 _ _ ?_
      refine wp_ret ?_
      obtain rfl := Option.some.inj hF
      replace hc := hc.drop k0
      exact fnOut1 (by simp) rfl Try.results98 hf hc (show look _ 4 = _ from rfl) ⟨rfl, hc⟩
    have ho7 : ∀ r, x7 = .out r → r = res := by
      rintro r rfl
      exact Option.some.inj hF
    refine cLoop N (loopW (S := S7) (x := x7) ?_ N 1 _ _ ⟨hf.keep ⟨rfl, rfl, rfl, trivial⟩, hc⟩ hx7)
    clear hF hf hc
    rintro i_1 st7 a w KB7 ⟨hf, hc⟩ hF hfin7 hK7
    unfold ref09_due_b7 at hF
    refine wp_seq_k fun K9 h9 => ?_
    refine wp_seq_k fun K10 h10 => ?_
    refine cReg ?_
    refine stP hf rfl rfl rfl (pM rfl) fun a hf => ?_
    refine stP hf rfl rfl rfl (pFA fa_106_0 rfl) fun a hf => ?_
    refine stE hf hc rfl rfl rfl (eLd1 sc_104 rfl (cell_box m0 rfl)) fun a w hf hc => ?_
    refine stP hf rfl rfl rfl (pLenS Try.underlying104 rfl) fun a hf => ?_
    refine stP hf rfl rfl rfl (pLt rfl rfl) fun a hf => ?_
    refine cNil ?_
    refine h10 _ _ ?_
    refine cCond (b := (decide (i_1 < ((b_.Table.length : Nat) : Int)))) hf rfl (fun hb => ?_) (fun hb => ?_)
    · replace hF := condT hb hF
      clear hb
      refine wp_skip ?_
      refine h9 _ _ ?_
      refine wp_seq_k fun K11 h11 => ?_
      refine wp_block ?_
      refine wp_seq_k fun K12 h12 => ?_
      obtain ⟨e_4, he_4, hF⟩ := bnd_some hF
      obtain ⟨b_5, o_3, qa_3, qp_3⟩ := h_b__Table.atm he_4
      obtain ⟨e_5, he_5, hF⟩ := bnd_some hF
      obtain ⟨b_6, o_4, qa_4, qp_4⟩ := h_b__Table.atm he_5
      replace hc := hc.nilRow 0 0
      replace hc := hc.nilRow 0 0
      refine regionE (fun θ => [⟨none, none, 1, .int .i64 index⟩, ⟨none, none, 2, .pointer (some ⟨b_1, 0, none⟩)⟩, ⟨none, none, 5, .int .i64 i_1⟩, ⟨some 0, none, 27, .pointer (some ⟨b_1, 0, none⟩)⟩, ⟨some 1, none, 28, .slice b__Table_p b_.Table.length b__Table_c⟩, ⟨some 2, none, 29, .int .i64 i_1⟩, ⟨some 3, none, 30, .int .i64 (W (i_1 - 1))⟩, ⟨some 4, none, 31, .pointer (some ⟨b_5, o_3, none⟩)⟩, ⟨some 5, none, 32, .agg #[.int .i64 e_4.Index, .int .i64 e_4.Due]⟩, ⟨some 6, none, 33, .pointer (some ⟨b_1, 0, none⟩)⟩, ⟨some 7, none, 34, .slice b__Table_p b_.Table.length b__Table_c⟩, ⟨some 8, none, 35, .int .i64 i_1⟩, ⟨some 9, none, 36, .pointer (some ⟨b_6, o_4, none⟩)⟩, ⟨some 10, none, 37, .agg #[.int .i64 e_5.Index, .int .i64 e_5.Due]⟩, ⟨some 11, none, 6, .pointer (some ⟨(θ 88).b, 0, none⟩)⟩, ⟨some 12, none, 7, .pointer (some ⟨(θ 96).b, 0, none⟩)⟩]) (fun E θ => (bif E 14 then .box (θ 96).b [.int .i64 e_5.Index, .int .i64 e_5.Due] 183 else bif E 12 then .box (θ 96).b [.int .i64 0, .int .i64 0] 183 else .row none 0 [] 0 0) :: (bif E 13 then .box (θ 88).b [.int .i64 e_4.Index, .int .i64 e_4.Due] 183 else bif E 11 then .box (θ 88).b [.int .i64 0, .int .i64 0] 183 else .row none 0 [] 0 0) :: .box b_1 [.slice b__Table_p b_.Table.length b__Table_c, .int .i64 b_.Credit] 106 :: Lf) [(13, 11), (14, 12)] (fun a w => ∃ (b_9 : Nat) (b_10 : Nat), Has 72 a [(1, .int .i64 index), (2, .pointer (some ⟨b_1, 0, none⟩)), (5, .int .i64 i_1), (6, .pointer (some ⟨b_9, 0, none⟩)), (7, .pointer (some ⟨b_10, 0, none⟩))] ∧ Ctx G (.box b_10 [.int .i64 e_5.Index, .int .i64 e_5.Due] 183 :: .box b_9 [.int .i64 e_4.Index, .int .i64 e_4.Due] 183 :: .box b_1 [.slice b__Table_p b_.Table.length b__Table_c, .int .i64 b_.Credit] 106 :: Lf) w) follows_mx (by kernel_rfl) (by kernel_rfl) (HasE.of hf ⟨rfl, rfl, rfl, trivial, trivial, trivial, trivial, trivial, trivial, trivial, trivial, trivial, trivial, trivial, trivial, trivial, trivial⟩) hc ⟨?_, ?_, ?_, ?_, ?_, ?_, ?_, ?_, ?_, ?_, ?_, ?_, ?_, ?_, ?_, trivial⟩ ?_ ?_
      · intro E θ a w hD hi hp he hc
        have hf := he.h0
        replace hf := hf.more he 1 rfl onT
        refine stP hf rfl rfl rfl (pFA fa_106_0 rfl) fun a hf => ?_
        refine cNil ?_
        refine xThenN ?_
        intro ds u hau
        refine ⟨θ, he.put0 hi hau hf rfl 3 rfl rfl, ?_⟩
        exact hc
      · intro E θ a w hD hi hp he hc
        have e0 := hp.of (k := 0) rfl
        have hf := he.h0
        replace hf := hf.more he 3 rfl (onP e0)
        refine stE hf hc rfl rfl rfl (eLd1 sc_104 rfl (cell_box m2 rfl)) fun a w hf hc => ?_
        refine cNil ?_
        refine xThenN ?_
        intro ds u hau
        refine ⟨θ, he.put0 hi hau hf rfl 4 rfl rfl, ?_⟩
        exact hc
      · intro E θ a w hD hi hp he hc
        have hf := he.h0
        replace hf := hf.more he 2 rfl onT
        refine stP hf rfl rfl rfl (pM rfl) fun a hf => ?_
        refine cNil ?_
        refine xThenN ?_
        intro ds u hau
        refine ⟨θ, he.put0 hi hau hf rfl 5 rfl rfl, ?_⟩
        exact hc
      · intro E θ a w hD hi hp he hc
        have e2 := hp.of (k := 2) rfl
        have hf := he.h0
        replace hf := hf.more he 5 rfl (onP e2)
        refine stP hf rfl rfl rfl (pSub rfl rfl) fun a hf => ?_
        refine cNil ?_
        refine xThenN ?_
        intro ds u hau
        refine ⟨θ, he.put0 hi hau hf rfl 6 rfl rfl, ?_⟩
        exact hc
      · intro E θ a w hD hi hp he hc
        have e1 := hp.of (k := 1) rfl
        have e3 := hp.of (k := 3) rfl
        have hf := he.h0
        replace hf := hf.more he 4 rfl (onP e1)
        replace hf := hf.more he 6 rfl (onP e3)
        refine stP hf rfl rfl rfl (pIA Try.underlying104 sz_183 rfl rfl qa_3) fun a hf => ?_
        refine cNil ?_
        refine xThenN ?_
        intro ds u hau
        refine ⟨θ, he.put0 hi hau hf rfl 7 rfl rfl, ?_⟩
        exact hc
      · intro E θ a w hD hi hp he hc
        have e4 := hp.of (k := 4) rfl
        have hf := he.h0
        replace hf := hf.more he 7 rfl (onP e4)
        refine stE hf hc rfl rfl rfl (eLdN (vs := [.int .i64 e_4.Index, .int .i64 e_4.Due]) ag_183 rfl rfl (cells_pc qp_3 (n := 2) (o' := 0) rfl)) fun a w hf hc => ?_
        refine cNil ?_
        refine xThenN ?_
        intro ds u hau
        refine ⟨θ, he.put0 hi hau hf rfl 8 rfl rfl, ?_⟩
        exact hc
      · intro E θ a w hD hi hp he hc
        have hf := he.h0
        replace hf := hf.more he 1 rfl onT
        refine stP hf rfl rfl rfl (pFA fa_106_0 rfl) fun a hf => ?_
        refine cNil ?_
        refine xThenN ?_
        intro ds u hau
        refine ⟨θ, he.put0 hi hau hf rfl 9 rfl rfl, ?_⟩
        exact hc
      · intro E θ a w hD hi hp he hc
        have e6 := hp.of (k := 6) rfl
        have hf := he.h0
        replace hf := hf.more he 9 rfl (onP e6)
        refine stE hf hc rfl rfl rfl (eLd1 sc_104 rfl (cell_box m2 rfl)) fun a w hf hc => ?_
        refine cNil ?_
        refine xThenN ?_
        intro ds u hau
        refine ⟨θ, he.put0 hi hau hf rfl 10 rfl rfl, ?_⟩
        exact hc
      · intro E θ a w hD hi hp he hc
        have hf := he.h0
        replace hf := hf.more he 2 rfl onT
        refine stP hf rfl rfl rfl (pM rfl) fun a hf => ?_
        refine cNil ?_
        refine xThenN ?_
        intro ds u hau
        refine ⟨θ, he.put0 hi hau hf rfl 11 rfl rfl, ?_⟩
        exact hc
      · intro E θ a w hD hi hp he hc
        have e7 := hp.of (k := 7) rfl
        have e8 := hp.of (k := 8) rfl
        have hf := he.h0
        replace hf := hf.more he 10 rfl (onP e7)
        replace hf := hf.more he 11 rfl (onP e8)
        refine stP hf rfl rfl rfl (pIA Try.underlying104 sz_183 rfl rfl qa_4) fun a hf => ?_
        refine cNil ?_
        refine xThenN ?_
        intro ds u hau
        refine ⟨θ, he.put0 hi hau hf rfl 12 rfl rfl, ?_⟩
        exact hc
      · intro E θ a w hD hi hp he hc
        have e9 := hp.of (k := 9) rfl
        have hf := he.h0
        replace hf := hf.more he 12 rfl (onP e9)
        refine stE hf hc rfl rfl rfl (eLdN (vs := [.int .i64 e_5.Index, .int .i64 e_5.Due]) ag_183 rfl rfl (cells_pc qp_4 (n := 2) (o' := 0) rfl)) fun a w hf hc => ?_
        refine cNil ?_
        refine xThenN ?_
        intro ds u hau
        refine ⟨θ, he.put0 hi hau hf rfl 13 rfl rfl, ?_⟩
        exact hc
      · intro E θ a w hD hi hp he hc
        have e13 := hD.f 0 rfl hi
        try dsimp only at hc
        rw [hi, e13] at hc
        have hf := he.h0
        refine stAl (cs := [.int .i64 0, .int .i64 0]) hf hc rfl rfl zr_183 rfl fun b_7 a w hf hc => ?_
        refine cNil ?_
        refine xThenN ?_
        intro ds u hau
        replace hc := hc.drop k2
        replace hc := hc.pick k0
        replace hc := hc.pick k1
        refine ⟨(setT θ 88 ⟨b_7, none, 0⟩), he.put hi hau hf rfl [] trivial ⟨qq, qq, qq, qq, qq, qq, qq, qq, qq, qq, qq, qq, qq, qq, qq, qq, trivial⟩, ?_⟩
        try dsimp only
        rw [updE_self E 11, updE_fls 11 e13 rfl]
        exact hc
      · intro E θ a w hD hi hp he hc
        have e14 := hD.f 1 rfl hi
        try dsimp only at hc
        rw [hi, e14] at hc
        have hf := he.h0
        refine stAl (cs := [.int .i64 0, .int .i64 0]) hf hc rfl rfl zr_183 rfl fun b_8 a w hf hc => ?_
        refine cNil ?_
        refine xThenN ?_
        intro ds u hau
        replace hc := hc.drop k1
        refine ⟨(setT θ 96 ⟨b_8, none, 0⟩), he.put hi hau hf rfl [] trivial ⟨qq, qq, qq, qq, qq, qq, qq, qq, qq, qq, qq, qq, qq, qq, qq, qq, trivial⟩, ?_⟩
        try dsimp only
        rw [updE_self E 12, updE_fls 12 e14 rfl]
        exact hc
      · intro E θ a w hD hi hp he hc
        have e5 := hp.of (k := 5) rfl
        have e11 := hp.of (k := 11) rfl
        try dsimp only at hc
        rw [e11, hi] at hc
        have hf := he.h0
        replace hf := hf.more he 8 rfl (onP e5)
        replace hf := hf.more he 14 rfl (onP e11)
        refine stSt (vs := [.int .i64 e_4.Index, .int .i64 e_4.Due]) hf hc rfl rfl rfl rfl sz_183 rfl rfl u1 fun w hc => ?_
        refine cNil ?_
        refine xThenN ?_
        intro ds u hau
        refine ⟨θ, he.stay0 hi hau hf rfl, ?_⟩
        try dsimp only
        rw [updE_tru 13 e11, updE_self E 13]
        exact hc
      · intro E θ a w hD hi hp he hc
        have e10 := hp.of (k := 10) rfl
        have e12 := hp.of (k := 12) rfl
        try dsimp only at hc
        rw [e12, hi] at hc
        have hf := he.h0
        replace hf := hf.more he 13 rfl (onP e10)
        replace hf := hf.more he 15 rfl (onP e12)
        refine stSt (vs := [.int .i64 e_5.Index, .int .i64 e_5.Due]) hf hc rfl rfl rfl rfl sz_183 rfl rfl u0 fun w hc => ?_
        refine cNil ?_
        refine xThenN ?_
        intro ds u hau
        refine ⟨θ, he.stay0 hi hau hf rfl, ?_⟩
        try dsimp only
        rw [updE_tru 14 e12, updE_self E 14]
        exact hc
      · intro E θ a w hall he hc
        have hf := he.h0
        have e11 := hall 11 rfl
        have e12 := hall 12 rfl
        have e13 := hall 13 rfl
        have e14 := hall 14 rfl
        replace hf := hf.more he 15 rfl (onP e12)
        replace hf := hf.more he 14 rfl (onP e11)
        replace hf := hf.more he 2 rfl (onT)
        replace hf := hf.more he 1 rfl (onT)
        replace hf := hf.more he 0 rfl (onT)
        try dsimp only at hc
        rw [e11, e12, e13, e14] at hc
        exact ⟨(θ 88).b, (θ 96).b, hf.keep ⟨rfl, rfl, rfl, rfl, rfl, trivial⟩, hc⟩
      rintro a w ⟨b_9, b_10, hf, hc⟩
      refine h12 _ _ ?_
      refine wp_seq_k fun K13 h13 => ?_
      refine cReg ?_
      refine stP hf rfl rfl rfl (pM rfl) fun a hf => ?_
      refine stP hf rfl rfl rfl (pFA fa_183_0 rfl) fun a hf => ?_
      refine stE hf hc rfl rfl rfl (eLd1 sc_3 rfl (cell_box m0 rfl)) fun a w hf hc => ?_
      refine stP hf rfl rfl rfl (pLe rfl rfl) fun a hf => ?_
      refine cNil ?_
      refine h13 _ _ ?_
      refine cCond (b := (decide (index ≤ e_5.Index))) hf rfl (fun hb => ?_) (fun hb => ?_)
      · replace hF := condT hb hF
        clear hb
        refine wp_seq_k fun K14 h14 => ?_
        refine cReg ?_
        refine stP hf rfl rfl rfl (pFA fa_183_1 rfl) fun a hf => ?_
        refine stE hf hc rfl rfl rfl (eLd1 sc_3 rfl (cell_box m1 rfl)) fun a w hf hc => ?_
        refine stP hf rfl rfl rfl (pFA fa_183_0 rfl) fun a hf => ?_
        refine stE hf hc rfl rfl rfl (eLd1 sc_3 rfl (cell_box m0 rfl)) fun a w hf hc => ?_
        refine stP hf rfl rfl rfl (pM rfl) fun a hf => ?_
        refine stP hf rfl rfl rfl (pSub rfl rfl) fun a hf => ?_
        refine stP hf rfl rfl rfl (pMul rfl rfl) fun a hf => ?_
        refine stP hf rfl rfl rfl (pFA fa_183_1 rfl) fun a hf => ?_
        refine stE hf hc rfl rfl rfl (eLd1 sc_3 rfl (cell_box m0 rfl)) fun a w hf hc => ?_
        refine stP hf rfl rfl rfl (pM rfl) fun a hf => ?_
        refine stP hf rfl rfl rfl (pFA fa_183_0 rfl) fun a hf => ?_
        refine stE hf hc rfl rfl rfl (eLd1 sc_3 rfl (cell_box m1 rfl)) fun a w hf hc => ?_
        refine stP hf rfl rfl rfl (pSub rfl rfl) fun a hf => ?_
        refine stP hf rfl rfl rfl (pMul rfl rfl) fun a hf => ?_
        refine stP hf rfl rfl rfl (pAdd rfl rfl) fun a hf => ?_
        refine stP hf rfl rfl rfl (pFA fa_183_0 rfl) fun a hf => ?_
        refine stE hf hc rfl rfl rfl (eLd1 sc_3 rfl (cell_box m0 rfl)) fun a w hf hc => ?_
        refine stP hf rfl rfl rfl (pFA fa_183_0 rfl) fun a hf => ?_
        refine stE hf hc rfl rfl rfl (eLd1 sc_3 rfl (cell_box m1 rfl)) fun a w hf hc => ?_
        refine stP hf rfl rfl rfl (pSub rfl rfl) fun a hf => ?_
        obtain ⟨un, hun, hF⟩ := bnd_some hF
        refine stP hf rfl rfl rfl (pQuo rfl rfl (nz_spec hun)) fun a hf => ?_
        refine stP hf rfl rfl rfl (pA rfl) fun a hf => ?_
        refine cNil ?_
        refine h14 _ _ ?_
        refine wp_ret ?_
        refine xBlkR ?_
        refine xThenR ?_
        refine xThenR ?_
        have he := Option.some.inj hF
        rw [← he] at hfin7
        replace hF := ho7 _ hfin7
        refine xBlkR ?_
        refine xThenR ?_
        obtain rfl := hF
        replace hc := hc.drop k2
        replace hc := hc.drop k1
        replace hc := hc.drop k0
        exact fnOut1 (by simp) rfl Try.results98 hf hc (show look _ 4 = _ from rfl) ⟨rfl, hc⟩
      · replace hF := condF hb hF
        clear hb
        refine wp_skip ?_
        refine h11 _ _ ?_
        refine cReg ?_
        refine stP hf rfl rfl rfl (pM rfl) fun a hf => ?_
        refine stP hf rfl rfl rfl (pAdd rfl rfl) fun a hf => ?_
        refine stP hf rfl rfl rfl (pA rfl) fun a hf => ?_
        refine cNil ?_
        replace hc := hc.drop k1
        replace hc := hc.drop k0
        exact hK7 (W (i_1 + 1)) _ _ (Option.some.inj hF).symm ⟨hf.keep ⟨rfl, rfl, rfl, trivial⟩, hc⟩
    · replace hF := condF hb hF
      clear hb
      refine wp_exit ?_
      refine xThen ?_
      refine xThen ?_
      have he := Option.some.inj hF
      rw [← he] at hfin7
      refine cHit ?_
      exact hr7 _ _ _ hfin7 ⟨hf.keep ⟨rfl, rfl, rfl, trivial⟩, hc⟩

def ref09_Due (N : Nat) (b_ : ref09_Border) (index : Int) : Option (Int × Int) :=
  Option.bind (ref09_CheckBorder N b_) fun r =>
  cond (r != 0)
  (some (0, r))
  (cond (ref09_outside index 0 1000000000)
  (some (0, 4))
  (Option.bind (ref09_due N b_ index) fun r_1 =>
  some (r_1, 0)))
theorem ref09_Due_ok {N : Nat} {G : Pers} {Lf : List Ent} {w : World} (b_ : ref09_Border) (index : Int) {b__Table_p : Option Addr} {b__Table_c : Nat} (h_b__Table : Rd G 2 b__Table_p b__Table_c (b_.Table.map enc_ref09_Point)) (hc : Ctx G (Lf) w) {res : Int × Int} (hF : ref09_Due N b_ index = some res) : Calls Try.prog 51 #[.agg #[.slice b__Table_p b_.Table.length b__Table_c, .int .i64 b_.Credit], .int .i64 index] w (fun e w => e = .returned (.tuple #[.int .i64 res.1, .int .i64 res.2]) ∧ Ctx G (Lf) w) := by
  unfold ref09_Due at hF
  refine fnIn (args := [.agg #[.slice b__Table_p b_.Table.length b__Table_c, .int .i64 b_.Credit], .int .i64 index]) Try.func51 rfl Try.ntmps51 rfl fun a hf => ?_
  refine wp_seq_k fun K1 h1 => ?_
  refine cReg ?_
  refine stBx (cs := [.slice b__Table_p b_.Table.length b__Table_c, .int .i64 b_.Credit]) hf hc rfl rfl rfl rfl fun b_1 a w hf hc => ?_
  refine stP hf rfl rfl rfl (pA rfl) fun a hf => ?_
  refine stP hf rfl rfl rfl (pA rfl) fun a hf => ?_
  refine cNil ?_
  refine h1 _ _ ?_
  refine wp_seq_k fun K2 h2 => ?_
  refine wp_seq_k fun K3 h3 => ?_
  refine cReg ?_
  refine stE hf hc rfl rfl rfl (eLdN (vs := [.slice b__Table_p b_.Table.length b__Table_c, .int .i64 b_.Credit]) ag_106 rfl rfl (cells_box (n := 2) m0 rfl)) fun a w hf hc => ?_
  obtain ⟨r, hr, hF⟩ := bnd_some hF
  refine stE hf hc rfl rfl rfl (eC (v := .int .i64 r) (vs := [.agg #[.slice b__Table_p b_.Table.length b__Table_c, .int .i64 b_.Credit]]) (caps := []) en_48 rfl rfl rfl rfl (fun w hc => ref09_CheckBorder_ok b_ h_b__Table hc hr)) fun a w hf hc => ?_
  refine stP hf rfl rfl rfl (pA rfl) fun a hf => ?_
  refine cNil ?_
  refine h3 _ _ ?_
  refine wp_seq_k fun K4 h4 => ?_
  refine cReg ?_
  refine stP hf rfl rfl rfl (pM rfl) fun a hf => ?_
  refine stP hf rfl rfl rfl (pNe rfl rfl) fun a hf => ?_
  refine cNil ?_
  refine h4 _ _ ?_
  refine cCond (b := (r != 0)) hf rfl (fun hb => ?_) (fun hb => ?_)
  · replace hF := condT hb hF
    clear hb
    refine wp_seq_k fun K5 h5 => ?_
    refine cReg ?_
    refine stP hf rfl rfl rfl (pM rfl) fun a hf => ?_
    refine stP hf rfl rfl rfl (pA rfl) fun a hf => ?_
    refine stP hf rfl rfl rfl (pA rfl) fun a hf => ?_
    refine cNil ?_
    refine h5 _ _ ?_
    refine wp_ret ?_
    refine xThenR ?_
    obtain rfl := Option.some.inj hF
    replace hc := hc.drop k0
    exact fnOut2 (by simp) rfl Try.results51 hf hc (show look _ 4 = _ from rfl) (show look _ 5 = _ from rfl) ⟨rfl, hc⟩
  · replace hF := condF hb hF
    clear hb
    refine wp_skip ?_
    refine h2 _ _ ?_
    refine wp_seq_k fun K6 h6 => ?_
    refine wp_seq_k fun K7 h7 => ?_
    refine cReg ?_
    refine stP hf rfl rfl rfl (pM rfl) fun a hf => ?_
    refine stE hf hc rfl rfl rfl (eC (v := .bool (ref09_outside index 0 1000000000)) (vs := [.int .i64 index, .int .i64 0, .int .i64 1000000000]) (caps := []) en_74 rfl rfl rfl rfl (fun w hc => ref09_outside_ok index 0 1000000000 hc rfl)) fun a w hf hc => ?_
    refine cNil ?_
    refine h7 _ _ ?_
    refine cCond (b := (ref09_outside index 0 1000000000)) hf rfl (fun hb => ?_) (fun hb => ?_)
    · replace hF := condT hb hF
      clear hb
      refine wp_seq_k fun K8 h8 => ?_
      refine cReg ?_
      refine stP hf rfl rfl rfl (pA rfl) fun a hf => ?_
      refine stP hf rfl rfl rfl (pA rfl) fun a hf => ?_
      refine cNil ?_
      refine h8 _ _ ?_
      refine wp_ret ?_
      refine xThenR ?_
      obtain rfl := Option.some.inj hF
      replace hc := hc.drop k0
      exact fnOut2 (by simp) rfl Try.results51 hf hc (show look _ 4 = _ from rfl) (show look _ 5 = _ from rfl) ⟨rfl, hc⟩
    · replace hF := condF hb hF
      clear hb
      refine wp_skip ?_
      refine h6 _ _ ?_
      refine wp_seq_k fun K9 h9 => ?_
      refine cReg ?_
      refine stE hf hc rfl rfl rfl (eLdN (vs := [.slice b__Table_p b_.Table.length b__Table_c, .int .i64 b_.Credit]) ag_106 rfl rfl (cells_box (n := 2) m0 rfl)) fun a w hf hc => ?_
      refine stP hf rfl rfl rfl (pM rfl) fun a hf => ?_
      obtain ⟨r_1, hr_1, hF⟩ := bnd_some hF
      refine stE hf hc rfl rfl rfl (eC (v := .int .i64 r_1) (vs := [.agg #[.slice b__Table_p b_.Table.length b__Table_c, .int .i64 b_.Credit], .int .i64 index]) (caps := []) en_98 rfl rfl rfl rfl (fun w hc => ref09_due_ok b_ index h_b__Table hc hr_1)) fun a w hf hc => ?_
      refine stP hf rfl rfl rfl (pA rfl) fun a hf => ?_
      refine stP hf rfl rfl rfl (pA rfl) fun a hf => ?_
      refine cNil ?_
      refine h9 _ _ ?_
      refine wp_ret ?_
      obtain rfl := Option.some.inj hF
      replace hc := hc.drop k0
      exact fnOut2 (by simp) rfl Try.results51 hf hc (show look _ 4 = _ from rfl) (show look _ 5 = _ from rfl) ⟨rfl, hc⟩

def share_Owed_b12 (N : Nat) (b_ : share_Border) (years : List share_Year) (truth : List share_Truth) (r_1 : (Int → Option Int) × Int × Int) (out : List Int) (x : Int) (x_1 : Int) (mp : Int → Option Int) : Option (Step ((List Int) × Int × Int × (Int → Option Int)) ((List Int) × Int)) :=
  cond (decide (x < ((years.length : Nat) : Int)))
  (Option.bind (getI years x) fun e_1 =>
  Option.bind (getI truth x) fun e_2 =>
  cond ((!(share_in e_2.Index e_1.Index.Lo e_1.Index.Hi)) || (!(share_in e_2.Delivered e_1.Delivered.Lo e_1.Delivered.Hi)))
  (some (.ret (([] : List Int), 7)))
  (Option.bind (share_Border_goes_1 N e_2 e_1.Spill mp (⟨b_.Table, r_1.2.1⟩ : share_Border) x_1) fun r_2 =>
  Option.bind (room ((out ++ [r_2.1])).length) fun un =>
  some (.cont ((out ++ [r_2.1]), W (x + 1), r_2.2.2, r_2.2.1))))
  (some (.brk (out, x, x_1, mp)))
def share_Owed (N : Nat) (b_ : share_Border) (start : Int) (years : List share_Year) (truth : List share_Truth) : Option ((List Int) × Int) :=
  Option.bind (share_asked N b_ (⟨start, start⟩ : api_Span) years) fun r =>
  cond (r != 0)
  (some (([] : List Int), r))
  (cond (((truth.length : Nat) : Int) != ((years.length : Nat) : Int))
  (some (([] : List Int), 2))
  (Option.bind (share_Border_goes N b_ start) fun r_1 =>
  Option.bind (loopO (fun s12 => share_Owed_b12 N b_ years truth r_1 s12.1 s12.2.1 s12.2.2.1 s12.2.2.2) N (([] : List Int), 0, r_1.2.2, r_1.1)) fun x12 =>
  exK x12 (fun s12 => some (s12.1, 0)) some))
theorem share_Owed_ok {N : Nat} {G : Pers} {Lf : List Ent} {w : World} (b_ : share_Border) (start : Int) (years : List share_Year) (truth : List share_Truth) {b__Table_p : Option Addr} {b__Table_c : Nat} {years_p : Option Addr} {years_c : Nat} {truth_p : Option Addr} {truth_c : Nat} (h_b__Table : Rd G 2 b__Table_p b__Table_c (b_.Table.map enc_share_Point)) (h_years : Rd G 5 years_p years_c (years.map enc_share_Year)) (h_truth : Rd G 2 truth_p truth_c (truth.map enc_share_Truth)) (hc : Ctx G (Lf) w) {res : (List Int) × Int} (hF : share_Owed N b_ start years truth = some res) : Calls Try.prog 52 #[.agg #[.slice b__Table_p b_.Table.length b__Table_c, .int .i64 b_.Credit], .int .i64 start, .slice years_p years.length years_c, .slice truth_p truth.length truth_c] w (fun e w => ∃ (p'1 : Option Addr) (c'1 : Nat), e = .returned (.tuple #[.slice p'1 res.1.length c'1, .int .i64 res.2]) ∧ Ctx G (.row p'1 c'1 (res.1.map encI_i64) 3 1 :: Lf) w) := by
  unfold share_Owed at hF
  refine fnIn (args := [.agg #[.slice b__Table_p b_.Table.length b__Table_c, .int .i64 b_.Credit], .int .i64 start, .slice years_p years.length years_c, .slice truth_p truth.length truth_c]) Try.func52 rfl Try.ntmps52 rfl fun a hf => ?_
  refine wp_seq_k fun K1 h1 => ?_
  refine cReg ?_
  refine stBx (cs := [.slice b__Table_p b_.Table.length b__Table_c, .int .i64 b_.Credit]) hf hc rfl rfl rfl rfl fun b_1 a w hf hc => ?_
  refine stP hf rfl rfl rfl (pA rfl) fun a hf => ?_
  refine stP hf rfl rfl rfl (pA rfl) fun a hf => ?_
  refine cNil ?_
  refine h1 _ _ ?_
  refine wp_seq_k fun K2 h2 => ?_
  refine cReg ?_
  refine stE hf hc rfl rfl rfl (eLdN (vs := [.slice b__Table_p b_.Table.length b__Table_c, .int .i64 b_.Credit]) ag_88 rfl rfl (cells_box (n := 2) m0 rfl)) fun a w hf hc => ?_
  refine stP hf rfl rfl rfl (pM rfl) fun a hf => ?_
  refine stP hf rfl rfl rfl (pM rfl) fun a hf => ?_
  refine stP hf rfl rfl rfl (pBuildS (cells := [.int .i64 start, .int .i64 start]) bt_26 rfl rfl) fun a hf => ?_
  refine stP hf rfl rfl rfl (pM rfl) fun a hf => ?_
  obtain ⟨r, hr, hF⟩ := bnd_some hF
  refine stE hf hc rfl rfl rfl (eC (v := .int .i64 r) (vs := [.agg #[.slice b__Table_p b_.Table.length b__Table_c, .int .i64 b_.Credit], .agg #[.int .i64 start, .int .i64 start], .slice years_p years.length years_c]) (caps := []) en_99 rfl rfl rfl rfl (fun w hc => share_asked_ok b_ (⟨start, start⟩ : api_Span) years h_b__Table h_years hc hr)) fun a w hf hc => ?_
  refine stP hf rfl rfl rfl (pA rfl) fun a hf => ?_
  refine cNil ?_
  refine h2 _ _ ?_
  refine wp_seq_k fun K3 h3 => ?_
  refine wp_block ?_
  refine wp_seq_k fun K4 h4 => ?_
  refine cReg ?_
  refine stP hf rfl rfl rfl (pM rfl) fun a hf => ?_
  refine stP hf rfl rfl rfl (pNe rfl rfl) fun a hf => ?_
  refine stP hf rfl rfl rfl (pA rfl) fun a hf => ?_
  refine cNil ?_
  refine h4 _ _ ?_
  refine cCond (b := (r != 0)) hf rfl (fun hb => ?_) (fun hb => ?_)
  · replace hF := condT hb hF
    clear hb
    refine wp_seq_k fun K5 h5 => ?_
    refine cReg ?_
    refine stP hf rfl rfl rfl (pM rfl) fun a hf => ?_
    refine stP hf rfl rfl rfl (pA rfl) fun a hf => ?_
    refine stP hf rfl rfl rfl (pA rfl) fun a hf => ?_
    refine cNil ?_
    refine h5 _ _ ?_
    refine wp_ret ?_
    refine xBlkR ?_
    refine xThenR ?_
    obtain rfl := Option.some.inj hF
    replace hc := hc.nilRow 3 1
    replace hc := hc.drop k1
    exact fnOut2 (by simp) rfl Try.results52 hf hc (show look _ 8 = _ from rfl) (show look _ 9 = _ from rfl) ⟨none, 0, rfl, hc⟩
  · replace hF := condF hb hF
    clear hb
    refine wp_seq_k fun K6 h6 => ?_
    refine cReg ?_
    refine stP hf rfl rfl rfl (pM rfl) fun a hf => ?_
    refine stP hf rfl rfl rfl (pLenS Try.underlying90 rfl) fun a hf => ?_
    refine stP hf rfl rfl rfl (pM rfl) fun a hf => ?_
    refine stP hf rfl rfl rfl (pLenS Try.underlying89 rfl) fun a hf => ?_
    refine stP hf rfl rfl rfl (pNe rfl rfl) fun a hf => ?_
    refine stP hf rfl rfl rfl (pA rfl) fun a hf => ?_
    refine cNil ?_
    refine h6 _ _ ?_
    refine cCond (b := (((truth.length : Nat) : Int) != ((years.length : Nat) : Int))) hf rfl (fun hb => ?_) (fun hb => ?_)
    · replace hF := condT hb hF
      clear hb
      refine wp_seq_k fun K7 h7 => ?_
      refine cReg ?_
      refine stP hf rfl rfl rfl (pA rfl) fun a hf => ?_
      refine stP hf rfl rfl rfl (pA rfl) fun a hf => ?_
      refine cNil ?_
      refine h7 _ _ ?_
      refine wp_ret ?_
      refine xBlkR ?_
      refine xThenR ?_
      obtain rfl := Option.some.inj hF
      replace hc := hc.nilRow 3 1
      replace hc := hc.drop k1
      exact fnOut2 (by simp) rfl Try.results52 hf hc (show look _ 8 = _ from rfl) (show look _ 9 = _ from rfl) ⟨none, 0, rfl, hc⟩
    · replace hF := condF hb hF
      clear hb
      refine wp_skip ?_
      refine h3 _ _ ?_
      refine wp_seq_k fun K8 h8 => ?_
      refine cReg ?_
      refine stP hf rfl rfl rfl (pA rfl) fun a hf => ?_
      refine cNil ?_
      refine h8 _ _ ?_
      refine wp_seq_k fun K9 h9 => ?_
      refine cReg ?_
      refine stE hf hc rfl rfl rfl (eLdN (vs := [.slice b__Table_p b_.Table.length b__Table_c, .int .i64 b_.Credit]) ag_88 rfl rfl (cells_box (n := 2) m0 rfl)) fun a w hf hc => ?_
      refine stP hf rfl rfl rfl (pM rfl) fun a hf => ?_
      obtain ⟨r_1, hr_1, hF⟩ := bnd_some hF
      refine stC (vs := [.agg #[.slice b__Table_p b_.Table.length b__Table_c, .int .i64 b_.Credit], .int .i64 start]) (caps := []) hf rfl rfl rfl en_100 rfl rfl rfl rfl (share_Border_goes_ok b_ start h_b__Table hc hr_1) ?_
      rintro _ w ⟨b_2, b_3, b_4, b_5, rfl, hc⟩
      refine ⟨_, rfl, fun a hf => ?_⟩
      refine stP hf rfl rfl rfl (pA rfl) fun a hf => ?_
      refine cNil ?_
      refine h9 _ _ ?_
      refine wp_seq_k fun K10 h10 => ?_
      refine wp_seq_k fun K11 h11 => ?_
      refine cReg ?_
      refine stP hf rfl rfl rfl (pM rfl) fun a hf => ?_
      refine stP hf rfl rfl rfl (pLenS Try.underlying89 rfl) fun a hf => ?_
      refine stP hf rfl rfl rfl (pM rfl) fun a hf => ?_
      refine cNil ?_
      refine h11 _ _ ?_
      refine wp_block ?_
      obtain ⟨x12, hx12, hF⟩ := bnd_some hF
      let S12 : ((List Int) × Int × Int × (Int → Option Int)) → Act → World → Prop := (fun (zz : (List Int) × Int × Int × (Int → Option Int)) a w => ∃ (p_1 : Option Addr) (c_1 : Nat), Has 78 a [(3, .slice truth_p truth.length truth_c), (11, .slice p_1 zz.1.length c_1), (12, .func (.func 129) #[] #[.pointer (some ⟨b_2, 0, none⟩), .pointer (some ⟨b_4, 0, none⟩), .pointer (some ⟨b_5, 0, none⟩)]), (35, .slice years_p years.length years_c), (36, .int .i64 ((years.length : Nat) : Int)), (37, .int .i64 zz.2.1)] ∧ Ctx G (.row p_1 c_1 (zz.1.map encI_i64) 3 1 :: .im b_3 (fun j => (zz.2.2.2 j).map (Value.int .i64)) none :: .box b_2 [.map (some b_3)] 213 :: .box b_4 [.slice b__Table_p b_.Table.length b__Table_c, .int .i64 r_1.2.1] 88 :: .box b_5 [.int .i64 zz.2.2.1] 3 :: Lf) w)
      have hr12 : ∀ (zz : (List Int) × Int × Int × (Int → Option Int)) a w, x12 = .go zz → S12 zz a w → K10 a w := by
        rintro ⟨out, x, x_1, mp⟩ a w rfl ⟨p_1, c_1, hf, hc⟩
        replace hF : _ = some res := hF
        refine h10 _ _ ?_
        refine wp_seq_k fun K13 h13 => ?_
        refine cReg ?_
        refine stP hf rfl rfl rfl (pM rfl) fun a hf => ?_
        refine stP hf rfl rfl rfl (pA rfl) fun a hf => ?_
        refine stP hf rfl rfl rfl (pA rfl) fun a hf => ?_
        refine cNil ?_
        refine h13 _ _ ?_
        refine wp_ret ?_
        obtain rfl := Option.some.inj hF
        replace hc := hc.drop k4
        replace hc := hc.drop k3
        replace hc := hc.drop k2
        replace hc := hc.drop k1
        exact fnOut2 (by simp) rfl Try.results52 hf hc (show look _ 8 = _ from rfl) (show look _ 9 = _ from rfl) ⟨p_1, c_1, rfl, hc⟩
      have ho12 : ∀ r, x12 = .out r → r = res := by
        rintro r rfl
        exact Option.some.inj hF
      replace hc := hc.nilRow 3 1
      replace hc := hc.drop k5
      refine cLoop N (loopW (S := S12) (x := x12) ?_ N (([] : List Int), 0, r_1.2.2, r_1.1) _ _ ⟨none, 0, hf.keep ⟨rfl, rfl, rfl, rfl, rfl, rfl, trivial⟩, hc⟩ hx12)
      clear hF hf hc
      rintro ⟨out, x, x_1, mp⟩ st12 a w KB12 ⟨p_1, c_1, hf, hc⟩ hF hfin12 hK12
      unfold share_Owed_b12 at hF
      refine wp_seq_k fun K14 h14 => ?_
      refine cReg ?_
      refine stP hf rfl rfl rfl (pLt rfl rfl) fun a hf => ?_
      refine cNil ?_
      refine h14 _ _ ?_
      refine wp_seq_k fun K15 h15 => ?_
      refine cCond (b := (decide (x < ((years.length : Nat) : Int)))) hf rfl (fun hb => ?_) (fun hb => ?_)
      · replace hF := condT hb hF
        clear hb
        refine wp_skip ?_
        refine h15 _ _ ?_
        refine wp_seq_k fun K16 h16 => ?_
        refine wp_block ?_
        refine wp_seq_k fun K17 h17 => ?_
        refine cReg ?_
        refine stP hf rfl rfl rfl (pM rfl) fun a hf => ?_
        obtain ⟨e_1, he_1, hF⟩ := bnd_some hF
        obtain ⟨b_6, o, qa, qp⟩ := h_years.atm he_1
        refine stP hf rfl rfl rfl (pIA Try.underlying89 sz_94 rfl rfl qa) fun a hf => ?_
        refine stE hf hc rfl rfl rfl (eLdN (vs := [.int .i64 e_1.Index.Lo, .int .i64 e_1.Index.Hi, .int .i64 e_1.Delivered.Lo, .int .i64 e_1.Delivered.Hi, .bool e_1.Spill]) ag_94 rfl rfl (cells_pc qp (n := 5) (o' := 0) rfl)) fun a w hf hc => ?_
        refine stAl (cs := [.int .i64 0, .int .i64 0, .int .i64 0, .int .i64 0, .bool false]) hf hc rfl rfl zr_94 rfl fun b_7 a w hf hc => ?_
        refine stP hf rfl rfl rfl (pA rfl) fun a hf => ?_
        refine stSt (vs := [.int .i64 e_1.Index.Lo, .int .i64 e_1.Index.Hi, .int .i64 e_1.Delivered.Lo, .int .i64 e_1.Delivered.Hi, .bool e_1.Spill]) hf hc rfl rfl rfl rfl sz_94 rfl rfl u0 fun w hc => ?_
        refine cNil ?_
        refine h17 _ _ ?_
        refine wp_seq_k fun K18 h18 => ?_
        refine cReg ?_
        refine stP hf rfl rfl rfl (pM rfl) fun a hf => ?_
        refine stP hf rfl rfl rfl (pM rfl) fun a hf => ?_
        obtain ⟨e_2, he_2, hF⟩ := bnd_some hF
        obtain ⟨b_8, o_1, qa_1, qp_1⟩ := h_truth.atm he_2
        refine stP hf rfl rfl rfl (pIA Try.underlying90 sz_97 rfl rfl qa_1) fun a hf => ?_
        refine stE hf hc rfl rfl rfl (eLdN (vs := [.int .i64 e_2.Index, .int .i64 e_2.Delivered]) ag_97 rfl rfl (cells_pc qp_1 (n := 2) (o' := 0) rfl)) fun a w hf hc => ?_
        refine stAl (cs := [.int .i64 0, .int .i64 0]) hf hc rfl rfl zr_97 rfl fun b_9 a w hf hc => ?_
        refine stSt (vs := [.int .i64 e_2.Index, .int .i64 e_2.Delivered]) hf hc rfl rfl rfl rfl sz_97 rfl rfl u0 fun w hc => ?_
        refine cNil ?_
        refine h18 _ _ ?_
        refine wp_seq_k fun K19 h19 => ?_
        refine wp_seq_k fun K20 h20 => ?_
        refine cReg ?_
        refine stP hf rfl rfl rfl (pFA fa_97_0 rfl) fun a hf => ?_
        refine stE hf hc rfl rfl rfl (eLd1 sc_3 rfl (cell_box m0 rfl)) fun a w hf hc => ?_
        refine stP hf rfl rfl rfl (pFA fa_94_0 rfl) fun a hf => ?_
        refine stP hf rfl rfl rfl (pFA fa_26_0 rfl) fun a hf => ?_
        refine stE hf hc rfl rfl rfl (eLd1 sc_3 rfl (cell_box m1 rfl)) fun a w hf hc => ?_
        refine stP hf rfl rfl rfl (pFA fa_94_0 rfl) fun a hf => ?_
        refine stP hf rfl rfl rfl (pFA fa_26_1 rfl) fun a hf => ?_
        refine stE hf hc rfl rfl rfl (eLd1 sc_3 rfl (cell_box m1 rfl)) fun a w hf hc => ?_
        refine stE hf hc rfl rfl rfl (eC (v := .bool (share_in e_2.Index e_1.Index.Lo e_1.Index.Hi)) (vs := [.int .i64 e_2.Index, .int .i64 e_1.Index.Lo, .int .i64 e_1.Index.Hi]) (caps := []) en_70 rfl rfl rfl rfl (fun w hc => share_in_ok e_2.Index e_1.Index.Lo e_1.Index.Hi hc rfl)) fun a w hf hc => ?_
        refine stP hf rfl rfl rfl (pNot rfl) fun a hf => ?_
        refine stP hf rfl rfl rfl (pM rfl) fun a hf => ?_
        refine stCut 11 (fun a w => Has 78 a [(3, .slice truth_p truth.length truth_c), (11, .slice p_1 out.length c_1), (12, .func (.func 129) #[] #[.pointer (some ⟨b_2, 0, none⟩), .pointer (some ⟨b_4, 0, none⟩), .pointer (some ⟨b_5, 0, none⟩)]), (35, .slice years_p years.length years_c), (36, .int .i64 ((years.length : Nat) : Int)), (37, .int .i64 x), (14, .pointer (some ⟨b_7, 0, none⟩)), (15, .pointer (some ⟨b_9, 0, none⟩)), (46, .pointer (some ⟨b_9, 0, none⟩)), (47, .int .i64 e_2.Index), (48, .pointer (some ⟨b_7, 0, none⟩)), (49, .pointer (some ⟨b_7, 0, none⟩)), (50, .int .i64 e_1.Index.Lo), (51, .pointer (some ⟨b_7, 0, none⟩)), (52, .pointer (some ⟨b_7, 1, none⟩)), (53, .int .i64 e_1.Index.Hi), (54, .bool (share_in e_2.Index e_1.Index.Lo e_1.Index.Hi)), (55, .bool (!(share_in e_2.Index e_1.Index.Lo e_1.Index.Hi))), (56, .bool (!(share_in e_2.Index e_1.Index.Lo e_1.Index.Hi))), (67, .bool ((!(share_in e_2.Index e_1.Index.Lo e_1.Index.Hi)) || (!(share_in e_2.Delivered e_1.Delivered.Lo e_1.Delivered.Hi))))] ∧ Ctx G (.box b_9 [.int .i64 e_2.Index, .int .i64 e_2.Delivered] 97 :: .box b_7 [.int .i64 e_1.Index.Lo, .int .i64 e_1.Index.Hi, .int .i64 e_1.Delivered.Lo, .int .i64 e_1.Delivered.Hi, .bool e_1.Spill] 94 :: .row p_1 c_1 (out.map encI_i64) 3 1 :: .im b_3 (fun j => (mp j).map (Value.int .i64)) none :: .box b_2 [.map (some b_3)] 213 :: .box b_4 [.slice b__Table_p b_.Table.length b__Table_c, .int .i64 r_1.2.1] 88 :: .box b_5 [.int .i64 x_1] 3 :: Lf) w) ?_ ?_
        · cases hb : (!(share_in e_2.Index e_1.Index.Lo e_1.Index.Hi))
          · rw [hb] at hf
            refine stP hf rfl rfl rfl (pFA fa_97_1 rfl) fun a hf => ?_
            refine stE hf hc rfl rfl rfl (eLd1 sc_3 rfl (cell_box m0 rfl)) fun a w hf hc => ?_
            refine stP hf rfl rfl rfl (pFA fa_94_1 rfl) fun a hf => ?_
            refine stP hf rfl rfl rfl (pFA fa_26_0 rfl) fun a hf => ?_
            refine stE hf hc rfl rfl rfl (eLd1 sc_3 rfl (cell_box m1 rfl)) fun a w hf hc => ?_
            refine stP hf rfl rfl rfl (pFA fa_94_1 rfl) fun a hf => ?_
            refine stP hf rfl rfl rfl (pFA fa_26_1 rfl) fun a hf => ?_
            refine stE hf hc rfl rfl rfl (eLd1 sc_3 rfl (cell_box m1 rfl)) fun a w hf hc => ?_
            refine stE hf hc rfl rfl rfl (eC (v := .bool (share_in e_2.Delivered e_1.Delivered.Lo e_1.Delivered.Hi)) (vs := [.int .i64 e_2.Delivered, .int .i64 e_1.Delivered.Lo, .int .i64 e_1.Delivered.Hi]) (caps := []) en_70 rfl rfl rfl rfl (fun w hc => share_in_ok e_2.Delivered e_1.Delivered.Lo e_1.Delivered.Hi hc rfl)) fun a w hf hc => ?_
            refine stP hf rfl rfl rfl (pNot rfl) fun a hf => ?_
            refine stP hf rfl rfl rfl (pPf rfl rfl) fun a hf => ?_
            exact cNil ⟨hf.keep ⟨rfl, rfl, rfl, rfl, rfl, rfl, rfl, rfl, rfl, rfl, rfl, rfl, rfl, rfl, rfl, rfl, rfl, rfl, rfl, rfl, trivial⟩, hc⟩
          · rw [hb] at hf
            refine stS hf rfl rfl rfl fun a hf => ?_
            refine stS hf rfl rfl rfl fun a hf => ?_
            refine stS hf rfl rfl rfl fun a hf => ?_
            refine stS hf rfl rfl rfl fun a hf => ?_
            refine stS hf rfl rfl rfl fun a hf => ?_
            refine stS hf rfl rfl rfl fun a hf => ?_
            refine stS hf rfl rfl rfl fun a hf => ?_
            refine stS hf rfl rfl rfl fun a hf => ?_
            refine stS hf rfl rfl rfl fun a hf => ?_
            refine stS hf rfl rfl rfl fun a hf => ?_
            refine stP hf rfl rfl rfl (pPt rfl rfl) fun a hf => ?_
            exact cNil ⟨hf.keep ⟨rfl, rfl, rfl, rfl, rfl, rfl, rfl, rfl, rfl, rfl, rfl, rfl, rfl, rfl, rfl, rfl, rfl, rfl, rfl, rfl, trivial⟩, hc⟩
        intro a w ⟨hf, hc⟩
        refine cNil ?_
        refine h20 _ _ ?_
        refine cCond (b := ((!(share_in e_2.Index e_1.Index.Lo e_1.Index.Hi)) || (!(share_in e_2.Delivered e_1.Delivered.Lo e_1.Delivered.Hi)))) hf rfl (fun hb => ?_) (fun hb => ?_)
        · replace hF := condT hb hF
          clear hb
          refine wp_seq_k fun K21 h21 => ?_
          refine cReg ?_
          refine stP hf rfl rfl rfl (pA rfl) fun a hf => ?_
          refine stP hf rfl rfl rfl (pA rfl) fun a hf => ?_
          refine cNil ?_
          refine h21 _ _ ?_
          refine wp_ret ?_
          refine xThenR ?_
          refine xBlkR ?_
          refine xThenR ?_
          refine xThenR ?_
          have he := Option.some.inj hF
          rw [← he] at hfin12
          replace hF := ho12 _ hfin12
          refine xBlkR ?_
          refine xThenR ?_
          obtain rfl := hF
          replace hc := hc.nilRow 3 1
          replace hc := hc.drop k7
          replace hc := hc.drop k6
          replace hc := hc.drop k5
          replace hc := hc.drop k4
          replace hc := hc.drop k3
          replace hc := hc.drop k2
          replace hc := hc.drop k1
          exact fnOut2 (by simp) rfl Try.results52 hf hc (show look _ 8 = _ from rfl) (show look _ 9 = _ from rfl) ⟨none, 0, rfl, hc⟩
        · replace hF := condF hb hF
          clear hb
          refine wp_skip ?_
          refine h19 _ _ ?_
          refine cReg ?_
          refine stP hf rfl rfl rfl (pM rfl) fun a hf => ?_
          refine stP hf rfl rfl rfl (pM rfl) fun a hf => ?_
          refine stE hf hc rfl rfl rfl (eLdN (vs := [.int .i64 e_2.Index, .int .i64 e_2.Delivered]) ag_97 rfl rfl (cells_box (n := 2) m0 rfl)) fun a w hf hc => ?_
          refine stP hf rfl rfl rfl (pFA fa_94_2 rfl) fun a hf => ?_
          refine stE hf hc rfl rfl rfl (eLd1 sc_4 rfl (cell_box m1 rfl)) fun a w hf hc => ?_
          obtain ⟨r_2, hr_2, hF⟩ := bnd_some hF
          refine stC (vs := [.agg #[.int .i64 e_2.Index, .int .i64 e_2.Delivered], .bool e_1.Spill]) (caps := [.pointer (some ⟨b_2, 0, none⟩), .pointer (some ⟨b_4, 0, none⟩), .pointer (some ⟨b_5, 0, none⟩)]) hf rfl rfl rfl en_129 rfl rfl rfl rfl (share_Border_goes_1_ok e_2 e_1.Spill mp (⟨b_.Table, r_1.2.1⟩ : share_Border) x_1 h_b__Table ((((hc.pick k6).pick k6).pick k5).pick k6) hr_2) ?_
          rintro _ w ⟨rfl, hc⟩
          refine ⟨_, rfl, fun a hf => ?_⟩
          refine stBS (rows := ([r_2.1] : List Int).map encI_i64) (vs := [(0, .int .i64 r_2.1)]) hf hc rfl rfl sl_36 rfl ⟨rfl, rfl, rfl, trivial⟩ rfl rfl fun b_10 a w hf hc => ?_
          obtain ⟨un, hun, hF⟩ := bnd_some hF
          refine stApm (xs := out) (ys := ([r_2.1] : List Int)) hf hc rfl rfl sl_36 rfl rfl rfl rfl rfl one_encI_i64 (src_row hc m0) (fun _ _ => u7) (by simpa using room_spec hun) fun p_2 c_2 a w hf hc => ?_
          refine stP hf rfl rfl rfl (pA rfl) fun a hf => ?_
          refine cNil ?_
          refine h16 _ _ ?_
          refine cReg ?_
          refine stP hf rfl rfl rfl (pAdd rfl rfl) fun a hf => ?_
          refine stP hf rfl rfl rfl (pM rfl) fun a hf => ?_
          refine cNil ?_
          replace hc := hc.drop k6
          replace hc := hc.drop k5
          replace hc := hc.drop k0
          replace hc := hc.pick k3
          replace hc := hc.pick k3
          replace hc := hc.pick k2
          replace hc := hc.pick k3
          replace hc := hc.pick k4
          exact hK12 ((out ++ [r_2.1]), W (x + 1), r_2.2.2, r_2.2.1) _ _ (Option.some.inj hF).symm ⟨p_2, c_2, hf.keep ⟨rfl, rfl, rfl, rfl, rfl, rfl, trivial⟩, hc⟩
      · replace hF := condF hb hF
        clear hb
        refine wp_exit ?_
        refine xThen ?_
        refine xThen ?_
        have he := Option.some.inj hF
        rw [← he] at hfin12
        refine cHit ?_
        exact hr12 _ _ _ hfin12 ⟨p_1, c_1, hf.keep ⟨rfl, rfl, rfl, rfl, rfl, rfl, trivial⟩, hc⟩

def ref09_wrong (s_ : api_Span) (a_ : Int) (b_ : Int) : Bool :=
  (((decide (s_.Lo < a_)) || (decide (b_ < s_.Hi))) || (decide (s_.Hi < s_.Lo)))
theorem ref09_wrong_ok {G : Pers} {Lf : List Ent} {w : World} (s_ : api_Span) (a_ : Int) (b_ : Int)   (hc : Ctx G (Lf) w) {res : Bool} (hF : ref09_wrong s_ a_ b_ = res) : Calls Try.prog 78 #[.agg #[.int .i64 s_.Lo, .int .i64 s_.Hi], .int .i64 a_, .int .i64 b_] w (fun e w => e = .returned (.bool res) ∧ Ctx G (Lf) w) := by
  unfold ref09_wrong at hF
  refine fnIn (args := [.agg #[.int .i64 s_.Lo, .int .i64 s_.Hi], .int .i64 a_, .int .i64 b_]) Try.func78 rfl Try.ntmps78 rfl fun a hf => ?_
  refine wp_seq_k fun K1 h1 => ?_
  refine cReg ?_
  refine stBx (cs := [.int .i64 s_.Lo, .int .i64 s_.Hi]) hf hc rfl rfl rfl rfl fun b_1 a w hf hc => ?_
  refine stP hf rfl rfl rfl (pA rfl) fun a hf => ?_
  refine cNil ?_
  refine h1 _ _ ?_
  refine wp_seq_k fun K2 h2 => ?_
  refine cReg ?_
  refine stP hf rfl rfl rfl (pFA fa_26_0 rfl) fun a hf => ?_
  refine stE hf hc rfl rfl rfl (eLd1 sc_3 rfl (cell_box m0 rfl)) fun a w hf hc => ?_
  refine stP hf rfl rfl rfl (pM rfl) fun a hf => ?_
  refine stP hf rfl rfl rfl (pLt rfl rfl) fun a hf => ?_
  refine stP hf rfl rfl rfl (pM rfl) fun a hf => ?_
  refine stCut 5 (fun a w => Has 24 a [(1, .int .i64 a_), (2, .int .i64 b_), (3, .pointer (some ⟨b_1, 0, none⟩)), (6, .bool false), (7, .pointer (some ⟨b_1, 0, none⟩)), (8, .int .i64 s_.Lo), (9, .int .i64 a_), (10, .bool (decide (s_.Lo < a_))), (11, .bool (decide (s_.Lo < a_))), (16, .bool ((decide (s_.Lo < a_)) || (decide (b_ < s_.Hi))))] ∧ Ctx G (.box b_1 [.int .i64 s_.Lo, .int .i64 s_.Hi] 26 :: Lf) w) ?_ ?_
  · cases hb : (decide (s_.Lo < a_))
    · rw [hb] at hf
      refine stP hf rfl rfl rfl (pFA fa_26_1 rfl) fun a hf => ?_
      refine stE hf hc rfl rfl rfl (eLd1 sc_3 rfl (cell_box m0 rfl)) fun a w hf hc => ?_
      refine stP hf rfl rfl rfl (pM rfl) fun a hf => ?_
      refine stP hf rfl rfl rfl (pGt rfl rfl) fun a hf => ?_
      refine stP hf rfl rfl rfl (pPf rfl rfl) fun a hf => ?_
      exact cNil ⟨hf.keep ⟨rfl, rfl, rfl, rfl, rfl, rfl, rfl, rfl, rfl, rfl, trivial⟩, hc⟩
    · rw [hb] at hf
      refine stS hf rfl rfl rfl fun a hf => ?_
      refine stS hf rfl rfl rfl fun a hf => ?_
      refine stS hf rfl rfl rfl fun a hf => ?_
      refine stS hf rfl rfl rfl fun a hf => ?_
      refine stP hf rfl rfl rfl (pPt rfl rfl) fun a hf => ?_
      exact cNil ⟨hf.keep ⟨rfl, rfl, rfl, rfl, rfl, rfl, rfl, rfl, rfl, rfl, trivial⟩, hc⟩
  intro a w ⟨hf, hc⟩
  refine stP hf rfl rfl rfl (pM rfl) fun a hf => ?_
  refine stCut 6 (fun a w => Has 24 a [(1, .int .i64 a_), (2, .int .i64 b_), (3, .pointer (some ⟨b_1, 0, none⟩)), (6, .bool false), (7, .pointer (some ⟨b_1, 0, none⟩)), (8, .int .i64 s_.Lo), (9, .int .i64 a_), (10, .bool (decide (s_.Lo < a_))), (11, .bool (decide (s_.Lo < a_))), (16, .bool ((decide (s_.Lo < a_)) || (decide (b_ < s_.Hi)))), (17, .bool ((decide (s_.Lo < a_)) || (decide (b_ < s_.Hi)))), (23, .bool (((decide (s_.Lo < a_)) || (decide (b_ < s_.Hi))) || (decide (s_.Hi < s_.Lo))))] ∧ Ctx G (.box b_1 [.int .i64 s_.Lo, .int .i64 s_.Hi] 26 :: Lf) w) ?_ ?_
  · cases hb : ((decide (s_.Lo < a_)) || (decide (b_ < s_.Hi)))
    · rw [hb] at hf
      refine stP hf rfl rfl rfl (pFA fa_26_0 rfl) fun a hf => ?_
      refine stE hf hc rfl rfl rfl (eLd1 sc_3 rfl (cell_box m0 rfl)) fun a w hf hc => ?_
      refine stP hf rfl rfl rfl (pFA fa_26_1 rfl) fun a hf => ?_
      refine stE hf hc rfl rfl rfl (eLd1 sc_3 rfl (cell_box m0 rfl)) fun a w hf hc => ?_
      refine stP hf rfl rfl rfl (pGt rfl rfl) fun a hf => ?_
      refine stP hf rfl rfl rfl (pPf rfl rfl) fun a hf => ?_
      exact cNil ⟨hf.keep ⟨rfl, rfl, rfl, rfl, rfl, rfl, rfl, rfl, rfl, rfl, rfl, rfl, trivial⟩, hc⟩
    · rw [hb] at hf
      refine stS hf rfl rfl rfl fun a hf => ?_
      refine stS hf rfl rfl rfl fun a hf => ?_
      refine stS hf rfl rfl rfl fun a hf => ?_
      refine stS hf rfl rfl rfl fun a hf => ?_
      refine stS hf rfl rfl rfl fun a hf => ?_
      refine stP hf rfl rfl rfl (pPt rfl rfl) fun a hf => ?_
      exact cNil ⟨hf.keep ⟨rfl, rfl, rfl, rfl, rfl, rfl, rfl, rfl, rfl, rfl, rfl, rfl, trivial⟩, hc⟩
  intro a w ⟨hf, hc⟩
  refine stP hf rfl rfl rfl (pA rfl) fun a hf => ?_
  refine cNil ?_
  refine h2 _ _ ?_
  refine wp_ret ?_
  obtain rfl := hF
  replace hc := hc.drop k0
  exact fnOut1 (by simp) rfl Try.results78 hf hc (show look _ 6 = _ from rfl) ⟨rfl, hc⟩

def ref09_years_b14 (N : Nat) (l : List ref09_Year) (i_1 : Int) : Option (Step (Int) (Int)) :=
  cond (decide (i_1 < ((l.length : Nat) : Int)))
  (Option.bind (getI l i_1) fun e_1 =>
  Option.bind (cond (ref09_wrong e_1.Index 0 1000000000) (some true) (Option.bind (getI l i_1) fun e_2 =>
  some (ref09_wrong e_2.Delivered 0 1000000000))) fun t_1 =>
  cond t_1
  (some (.ret 100))
  (some (.cont (W (i_1 + 1)))))
  (some (.brk i_1))
def ref09_years (N : Nat) (b_ : ref09_Border) (start : api_Span) (l : List ref09_Year) : Option (Int) :=
  Option.bind (ref09_CheckBorder N b_) fun r =>
  cond (r != 0)
  (some r)
  (cond (ref09_wrong start (-1000000000) 1000000000)
  (some 4)
  (cond (decide (40 < ((l.length : Nat) : Int)))
  (some 3)
  (Option.bind (loopO (fun s14 => ref09_years_b14 N l s14) N 0) fun x14 =>
  exK x14 (fun s14 => some 0) some)))
theorem ref09_years_ok {N : Nat} {G : Pers} {Lf : List Ent} {w : World} (b_ : ref09_Border) (start : api_Span) (l : List ref09_Year) {b__Table_p : Option Addr} {b__Table_c : Nat} {l_p : Option Addr} {l_c : Nat} (h_b__Table : Rd G 2 b__Table_p b__Table_c (b_.Table.map enc_ref09_Point)) (h_l : Rd G 5 l_p l_c (l.map enc_ref09_Year)) (hc : Ctx G (Lf) w) {res : Int} (hF : ref09_years N b_ start l = some res) : Calls Try.prog 101 #[.agg #[.slice b__Table_p b_.Table.length b__Table_c, .int .i64 b_.Credit], .agg #[.int .i64 start.Lo, .int .i64 start.Hi], .slice l_p l.length l_c] w (fun e w => e = .returned (.int .i64 res) ∧ Ctx G (Lf) w) := by
  unfold ref09_years at hF
  refine fnIn (args := [.agg #[.slice b__Table_p b_.Table.length b__Table_c, .int .i64 b_.Credit], .agg #[.int .i64 start.Lo, .int .i64 start.Hi], .slice l_p l.length l_c]) Try.func101 rfl Try.ntmps101 rfl fun a hf => ?_
  refine wp_seq_k fun K1 h1 => ?_
  refine cReg ?_
  refine stBx (cs := [.slice b__Table_p b_.Table.length b__Table_c, .int .i64 b_.Credit]) hf hc rfl rfl rfl rfl fun b_1 a w hf hc => ?_
  refine stBx (cs := [.int .i64 start.Lo, .int .i64 start.Hi]) hf hc rfl rfl rfl rfl fun b_2 a w hf hc => ?_
  refine stP hf rfl rfl rfl (pA rfl) fun a hf => ?_
  refine cNil ?_
  refine h1 _ _ ?_
  refine wp_seq_k fun K2 h2 => ?_
  refine wp_seq_k fun K3 h3 => ?_
  refine cReg ?_
  refine stE hf hc rfl rfl rfl (eLdN (vs := [.slice b__Table_p b_.Table.length b__Table_c, .int .i64 b_.Credit]) ag_106 rfl rfl (cells_box (n := 2) m1 rfl)) fun a w hf hc => ?_
  obtain ⟨r, hr, hF⟩ := bnd_some hF
  refine stE hf hc rfl rfl rfl (eC (v := .int .i64 r) (vs := [.agg #[.slice b__Table_p b_.Table.length b__Table_c, .int .i64 b_.Credit]]) (caps := []) en_48 rfl rfl rfl rfl (fun w hc => ref09_CheckBorder_ok b_ h_b__Table hc hr)) fun a w hf hc => ?_
  refine stP hf rfl rfl rfl (pA rfl) fun a hf => ?_
  refine cNil ?_
  refine h3 _ _ ?_
  refine wp_seq_k fun K4 h4 => ?_
  refine cReg ?_
  refine stP hf rfl rfl rfl (pM rfl) fun a hf => ?_
  refine stP hf rfl rfl rfl (pNe rfl rfl) fun a hf => ?_
  refine cNil ?_
  refine h4 _ _ ?_
  refine cCond (b := (r != 0)) hf rfl (fun hb => ?_) (fun hb => ?_)
  · replace hF := condT hb hF
    clear hb
    refine wp_seq_k fun K5 h5 => ?_
    refine cReg ?_
    refine stP hf rfl rfl rfl (pM rfl) fun a hf => ?_
    refine stP hf rfl rfl rfl (pA rfl) fun a hf => ?_
    refine cNil ?_
    refine h5 _ _ ?_
    refine wp_ret ?_
    refine xThenR ?_
    obtain rfl := Option.some.inj hF
    replace hc := hc.drop k1
    replace hc := hc.drop k0
    exact fnOut1 (by simp) rfl Try.results101 hf hc (show look _ 6 = _ from rfl) ⟨rfl, hc⟩
  · replace hF := condF hb hF
    clear hb
    refine wp_skip ?_
    refine h2 _ _ ?_
    refine wp_seq_k fun K6 h6 => ?_
    refine wp_seq_k fun K7 h7 => ?_
    refine cReg ?_
    refine stE hf hc rfl rfl rfl (eLdN (vs := [.int .i64 start.Lo, .int .i64 start.Hi]) ag_26 rfl rfl (cells_box (n := 2) m0 rfl)) fun a w hf hc => ?_
    refine stE hf hc rfl rfl rfl (eC (v := .bool (ref09_wrong start (-1000000000) 1000000000)) (vs := [.agg #[.int .i64 start.Lo, .int .i64 start.Hi], .int .i64 (-1000000000), .int .i64 1000000000]) (caps := []) en_78 rfl rfl rfl rfl (fun w hc => ref09_wrong_ok start (-1000000000) 1000000000 hc rfl)) fun a w hf hc => ?_
    refine cNil ?_
    refine h7 _ _ ?_
    refine cCond (b := (ref09_wrong start (-1000000000) 1000000000)) hf rfl (fun hb => ?_) (fun hb => ?_)
    · replace hF := condT hb hF
      clear hb
      refine wp_seq_k fun K8 h8 => ?_
      refine cReg ?_
      refine stP hf rfl rfl rfl (pA rfl) fun a hf => ?_
      refine cNil ?_
      refine h8 _ _ ?_
      refine wp_ret ?_
      refine xThenR ?_
      obtain rfl := Option.some.inj hF
      replace hc := hc.drop k1
      replace hc := hc.drop k0
      exact fnOut1 (by simp) rfl Try.results101 hf hc (show look _ 6 = _ from rfl) ⟨rfl, hc⟩
    · replace hF := condF hb hF
      clear hb
      refine wp_skip ?_
      refine h6 _ _ ?_
      refine wp_seq_k fun K9 h9 => ?_
      refine wp_seq_k fun K10 h10 => ?_
      refine cReg ?_
      refine stP hf rfl rfl rfl (pM rfl) fun a hf => ?_
      refine stP hf rfl rfl rfl (pLenS Try.underlying98 rfl) fun a hf => ?_
      refine stP hf rfl rfl rfl (pGt rfl rfl) fun a hf => ?_
      refine cNil ?_
      refine h10 _ _ ?_
      refine cCond (b := (decide (40 < ((l.length : Nat) : Int)))) hf rfl (fun hb => ?_) (fun hb => ?_)
      · replace hF := condT hb hF
        clear hb
        refine wp_seq_k fun K11 h11 => ?_
        refine cReg ?_
        refine stP hf rfl rfl rfl (pA rfl) fun a hf => ?_
        refine cNil ?_
        refine h11 _ _ ?_
        refine wp_ret ?_
        refine xThenR ?_
        obtain rfl := Option.some.inj hF
        replace hc := hc.drop k1
        replace hc := hc.drop k0
        exact fnOut1 (by simp) rfl Try.results101 hf hc (show look _ 6 = _ from rfl) ⟨rfl, hc⟩
      · replace hF := condF hb hF
        clear hb
        refine wp_skip ?_
        refine h9 _ _ ?_
        refine wp_seq_k fun K12 h12 => ?_
        refine wp_seq_k fun K13 h13 => ?_
        refine cReg ?_
        refine stP hf rfl rfl rfl (pA rfl) fun a hf => ?_
        refine cNil ?_
        refine h13 _ _ ?_
        refine wp_block ?_
        obtain ⟨x14, hx14, hF⟩ := bnd_some hF
        let S14 : Int → Act → World → Prop := (fun (zz : Int) a w => Has 39 a [(2, .slice l_p l.length l_c), (8, .int .i64 zz)] ∧ Ctx G (Lf) w)
        have hr14 : ∀ (zz : Int) a w, x14 = .go zz → S14 zz a w → K12 a w := by
          rintro i_1 a w rfl ⟨hf, hc⟩
          replace hF : _ = some res := hF
          refine h12 _ _ ?_
          refine wp_seq_k fun K15 h15 => ?_
          refine cReg ?_
          refine stP hf rfl rfl rfl (pA rfl) fun a hf => ?_
          refine cNil ?_
          refine h15 _ _ ?_
          refine wp_ret ?_
          obtain rfl := Option.some.inj hF
          exact fnOut1 (by simp) rfl Try.results101 hf hc (show look _ 6 = _ from rfl) ⟨rfl, hc⟩
        have ho14 : ∀ r, x14 = .out r → r = res := by
          rintro r rfl
          exact Option.some.inj hF
        replace hc := hc.drop k1
        replace hc := hc.drop k0
        refine cLoop N (loopW (S := S14) (x := x14) ?_ N 0 _ _ ⟨hf.keep ⟨rfl, rfl, trivial⟩, hc⟩ hx14)
        clear hF hf hc
        rintro i_1 st14 a w KB14 ⟨hf, hc⟩ hF hfin14 hK14
        unfold ref09_years_b14 at hF
        refine wp_seq_k fun K16 h16 => ?_
        refine wp_seq_k fun K17 h17 => ?_
        refine cReg ?_
        refine stP hf rfl rfl rfl (pM rfl) fun a hf => ?_
        refine stP hf rfl rfl rfl (pM rfl) fun a hf => ?_
        refine stP hf rfl rfl rfl (pLenS Try.underlying98 rfl) fun a hf => ?_
        refine stP hf rfl rfl rfl (pLt rfl rfl) fun a hf => ?_
        refine cNil ?_
        refine h17 _ _ ?_
        refine cCond (b := (decide (i_1 < ((l.length : Nat) : Int)))) hf rfl (fun hb => ?_) (fun hb => ?_)
        · replace hF := condT hb hF
          clear hb
          refine wp_skip ?_
          refine h16 _ _ ?_
          refine wp_seq_k fun K18 h18 => ?_
          refine wp_block ?_
          refine wp_seq_k fun K19 h19 => ?_
          refine cReg ?_
          refine stP hf rfl rfl rfl (pM rfl) fun a hf => ?_
          refine stP hf rfl rfl rfl (pM rfl) fun a hf => ?_
          obtain ⟨e_1, he_1, hF⟩ := bnd_some hF
          obtain ⟨b_3, o, qa, qp⟩ := h_l.atm he_1
          refine stP hf rfl rfl rfl (pIA Try.underlying98 sz_179 rfl rfl qa) fun a hf => ?_
          refine stP hf rfl rfl rfl (pFA fa_179_0 rfl) fun a hf => ?_
          refine stE hf hc rfl rfl rfl (eLdN (vs := [.int .i64 e_1.Index.Lo, .int .i64 e_1.Index.Hi]) ag_26 rfl rfl (cells_pc qp (n := 2) (o' := 0) rfl)) fun a w hf hc => ?_
          refine stE hf hc rfl rfl rfl (eC (v := .bool (ref09_wrong e_1.Index 0 1000000000)) (vs := [.agg #[.int .i64 e_1.Index.Lo, .int .i64 e_1.Index.Hi], .int .i64 0, .int .i64 1000000000]) (caps := []) en_78 rfl rfl rfl rfl (fun w hc => ref09_wrong_ok e_1.Index 0 1000000000 hc rfl)) fun a w hf hc => ?_
          refine stP hf rfl rfl rfl (pM rfl) fun a hf => ?_
          obtain ⟨t_1, ht_1, hF⟩ := bnd_some hF
          refine stCut 7 (fun a w => Has 39 a [(2, .slice l_p l.length l_c), (8, .int .i64 i_1), (25, .slice l_p l.length l_c), (26, .int .i64 i_1), (27, .pointer (some ⟨b_3, o, none⟩)), (28, .pointer (some ⟨b_3, o + 0, none⟩)), (29, .agg #[.int .i64 e_1.Index.Lo, .int .i64 e_1.Index.Hi]), (30, .bool (ref09_wrong e_1.Index 0 1000000000)), (31, .bool (ref09_wrong e_1.Index 0 1000000000)), (38, .bool t_1)] ∧ Ctx G (Lf) w) ?_ ?_
          · cases hb : (ref09_wrong e_1.Index 0 1000000000)
            · rw [hb] at hf
              have hF := condF hb ht_1
              refine stP hf rfl rfl rfl (pM rfl) fun a hf => ?_
              refine stP hf rfl rfl rfl (pM rfl) fun a hf => ?_
              obtain ⟨e_2, he_2, hF⟩ := bnd_some hF
              obtain ⟨b_4, o_1, qa_1, qp_1⟩ := h_l.atm he_2
              refine stP hf rfl rfl rfl (pIA Try.underlying98 sz_179 rfl rfl qa_1) fun a hf => ?_
              refine stP hf rfl rfl rfl (pFA fa_179_1 rfl) fun a hf => ?_
              refine stE hf hc rfl rfl rfl (eLdN (vs := [.int .i64 e_2.Delivered.Lo, .int .i64 e_2.Delivered.Hi]) ag_26 rfl rfl (cells_pc qp_1 (n := 2) (o' := 2) rfl)) fun a w hf hc => ?_
              refine stE hf hc rfl rfl rfl (eC (v := .bool (ref09_wrong e_2.Delivered 0 1000000000)) (vs := [.agg #[.int .i64 e_2.Delivered.Lo, .int .i64 e_2.Delivered.Hi], .int .i64 0, .int .i64 1000000000]) (caps := []) en_78 rfl rfl rfl rfl (fun w hc => ref09_wrong_ok e_2.Delivered 0 1000000000 hc rfl)) fun a w hf hc => ?_
              refine stP hf rfl rfl rfl (pPf rfl rfl) fun a hf => ?_
              obtain rfl := Option.some.inj hF
              exact cNil ⟨hf.keep ⟨rfl, rfl, rfl, rfl, rfl, rfl, rfl, rfl, rfl, rfl, trivial⟩, hc⟩
            · rw [hb] at hf
              have hF := condT hb ht_1
              obtain rfl := Option.some.inj hF
              refine stS hf rfl rfl rfl fun a hf => ?_
              refine stS hf rfl rfl rfl fun a hf => ?_
              refine stS hf rfl rfl rfl fun a hf => ?_
              refine stS hf rfl rfl rfl fun a hf => ?_
              refine stS hf rfl rfl rfl fun a hf => ?_
              refine stS hf rfl rfl rfl fun a hf => ?_
              refine stP hf rfl rfl rfl (pPt rfl rfl) fun a hf => ?_
              exact cNil ⟨hf.keep ⟨rfl, rfl, rfl, rfl, rfl, rfl, rfl, rfl, rfl, rfl, trivial⟩, hc⟩
          intro a w ⟨hf, hc⟩
          refine cNil ?_
          refine h19 _ _ ?_
          refine cCond (b := t_1) hf rfl (fun hb => ?_) (fun hb => ?_)
          · replace hF := condT hb hF
            clear hb
            refine wp_seq_k fun K20 h20 => ?_
            refine cReg ?_
            refine stP hf rfl rfl rfl (pA rfl) fun a hf => ?_
            refine cNil ?_
            refine h20 _ _ ?_
            refine wp_ret ?_
            refine xBlkR ?_
            refine xThenR ?_
            refine xThenR ?_
            have he := Option.some.inj hF
            rw [← he] at hfin14
            replace hF := ho14 _ hfin14
            refine xBlkR ?_
            refine xThenR ?_
            obtain rfl := hF
            exact fnOut1 (by simp) rfl Try.results101 hf hc (show look _ 6 = _ from rfl) ⟨rfl, hc⟩
          · replace hF := condF hb hF
            clear hb
            refine wp_skip ?_
            refine h18 _ _ ?_
            refine cReg ?_
            refine stP hf rfl rfl rfl (pM rfl) fun a hf => ?_
            refine stP hf rfl rfl rfl (pAdd rfl rfl) fun a hf => ?_
            refine stP hf rfl rfl rfl (pA rfl) fun a hf => ?_
            refine cNil ?_
            exact hK14 (W (i_1 + 1)) _ _ (Option.some.inj hF).symm ⟨hf.keep ⟨rfl, rfl, trivial⟩, hc⟩
        · replace hF := condF hb hF
          clear hb
          refine wp_exit ?_
          refine xThen ?_
          refine xThen ?_
          have he := Option.some.inj hF
          rw [← he] at hfin14
          refine cHit ?_
          exact hr14 _ _ _ hfin14 ⟨hf.keep ⟨rfl, rfl, trivial⟩, hc⟩

def ref09_behind (N : Nat) (b_ : ref09_Border) (debt : Int) (index : Int) (delivered : Int) (spill : Bool) : Option (Int) :=
  cond spill
  (some 0)
  (Option.bind (ref09_due N b_ index) fun r =>
  cond (decide ((W ((W (debt + r)) - delivered)) < (W (0 - b_.Credit))))
  (some (W (0 - b_.Credit)))
  (some (W ((W (debt + r)) - delivered))))
theorem ref09_behind_ok {N : Nat} {G : Pers} {Lf : List Ent} {w : World} (b_ : ref09_Border) (debt : Int) (index : Int) (delivered : Int) (spill : Bool) {b__Table_p : Option Addr} {b__Table_c : Nat} (h_b__Table : Rd G 2 b__Table_p b__Table_c (b_.Table.map enc_ref09_Point)) (hc : Ctx G (Lf) w) {res : Int} (hF : ref09_behind N b_ debt index delivered spill = some res) : Calls Try.prog 102 #[.agg #[.slice b__Table_p b_.Table.length b__Table_c, .int .i64 b_.Credit], .int .i64 debt, .int .i64 index, .int .i64 delivered, .bool spill] w (fun e w => e = .returned (.int .i64 res) ∧ Ctx G (Lf) w) := by
  unfold ref09_behind at hF
  refine fnIn (args := [.agg #[.slice b__Table_p b_.Table.length b__Table_c, .int .i64 b_.Credit], .int .i64 debt, .int .i64 index, .int .i64 delivered, .bool spill]) Try.func102 rfl Try.ntmps102 rfl fun a hf => ?_
  refine wp_seq_k fun K1 h1 => ?_
  refine cReg ?_
  refine stBx (cs := [.slice b__Table_p b_.Table.length b__Table_c, .int .i64 b_.Credit]) hf hc rfl rfl rfl rfl fun b_1 a w hf hc => ?_
  refine stP hf rfl rfl rfl (pA rfl) fun a hf => ?_
  refine cNil ?_
  refine h1 _ _ ?_
  refine wp_seq_k fun K2 h2 => ?_
  refine wp_seq_k fun K3 h3 => ?_
  refine cReg ?_
  refine stP hf rfl rfl rfl (pM rfl) fun a hf => ?_
  refine cNil ?_
  refine h3 _ _ ?_
  refine cCond (b := spill) hf rfl (fun hb => ?_) (fun hb => ?_)
  · replace hF := condT hb hF
    clear hb
    refine wp_seq_k fun K4 h4 => ?_
    refine cReg ?_
    refine stP hf rfl rfl rfl (pA rfl) fun a hf => ?_
    refine cNil ?_
    refine h4 _ _ ?_
    refine wp_ret ?_
    refine xThenR ?_
    obtain rfl := Option.some.inj hF
    replace hc := hc.drop k0
    exact fnOut1 (by simp) rfl Try.results102 hf hc (show look _ 10 = _ from rfl) ⟨rfl, hc⟩
  · replace hF := condF hb hF
    clear hb
    refine wp_skip ?_
    refine h2 _ _ ?_
    refine wp_seq_k fun K5 h5 => ?_
    refine cReg ?_
    refine stP hf rfl rfl rfl (pM rfl) fun a hf => ?_
    refine stE hf hc rfl rfl rfl (eLdN (vs := [.slice b__Table_p b_.Table.length b__Table_c, .int .i64 b_.Credit]) ag_106 rfl rfl (cells_box (n := 2) m0 rfl)) fun a w hf hc => ?_
    refine stP hf rfl rfl rfl (pM rfl) fun a hf => ?_
    obtain ⟨r, hr, hF⟩ := bnd_some hF
    refine stE hf hc rfl rfl rfl (eC (v := .int .i64 r) (vs := [.agg #[.slice b__Table_p b_.Table.length b__Table_c, .int .i64 b_.Credit], .int .i64 index]) (caps := []) en_98 rfl rfl rfl rfl (fun w hc => ref09_due_ok b_ index h_b__Table hc hr)) fun a w hf hc => ?_
    refine stP hf rfl rfl rfl (pAdd rfl rfl) fun a hf => ?_
    refine stP hf rfl rfl rfl (pM rfl) fun a hf => ?_
    refine stP hf rfl rfl rfl (pSub rfl rfl) fun a hf => ?_
    refine stP hf rfl rfl rfl (pA rfl) fun a hf => ?_
    refine cNil ?_
    refine h5 _ _ ?_
    refine wp_seq_k fun K6 h6 => ?_
    refine wp_seq_k fun K7 h7 => ?_
    refine cReg ?_
    refine stP hf rfl rfl rfl (pM rfl) fun a hf => ?_
    refine stP hf rfl rfl rfl (pFA fa_106_1 rfl) fun a hf => ?_
    refine stE hf hc rfl rfl rfl (eLd1 sc_3 rfl (cell_box m0 rfl)) fun a w hf hc => ?_
    refine stP hf rfl rfl rfl (pNeg rfl) fun a hf => ?_
    refine stP hf rfl rfl rfl (pLt rfl rfl) fun a hf => ?_
    refine cNil ?_
    refine h7 _ _ ?_
    refine cCond (b := (decide ((W ((W (debt + r)) - delivered)) < (W (0 - b_.Credit))))) hf rfl (fun hb => ?_) (fun hb => ?_)
    · replace hF := condT hb hF
      clear hb
      refine wp_seq_k fun K8 h8 => ?_
      refine cReg ?_
      refine stP hf rfl rfl rfl (pFA fa_106_1 rfl) fun a hf => ?_
      refine stE hf hc rfl rfl rfl (eLd1 sc_3 rfl (cell_box m0 rfl)) fun a w hf hc => ?_
      refine stP hf rfl rfl rfl (pNeg rfl) fun a hf => ?_
      refine stP hf rfl rfl rfl (pA rfl) fun a hf => ?_
      refine cNil ?_
      refine h8 _ _ ?_
      refine wp_ret ?_
      refine xThenR ?_
      obtain rfl := Option.some.inj hF
      replace hc := hc.drop k0
      exact fnOut1 (by simp) rfl Try.results102 hf hc (show look _ 10 = _ from rfl) ⟨rfl, hc⟩
    · replace hF := condF hb hF
      clear hb
      refine wp_skip ?_
      refine h6 _ _ ?_
      refine wp_seq_k fun K9 h9 => ?_
      refine cReg ?_
      refine stP hf rfl rfl rfl (pM rfl) fun a hf => ?_
      refine stP hf rfl rfl rfl (pA rfl) fun a hf => ?_
      refine cNil ?_
      refine h9 _ _ ?_
      refine wp_ret ?_
      obtain rfl := Option.some.inj hF
      replace hc := hc.drop k0
      exact fnOut1 (by simp) rfl Try.results102 hf hc (show look _ 10 = _ from rfl) ⟨rfl, hc⟩

def ref09_Owed_b13 (N : Nat) (b_ : ref09_Border) (l : List ref09_Year) (truth : List ref09_Truth) (debt : Int) (out : List Int) (i_1 : Int) : Option (Step (Int × (List Int) × Int) ((List Int) × Int)) :=
  cond (decide (i_1 < ((l.length : Nat) : Int)))
  (Option.bind (getI truth i_1) fun e_1 =>
  Option.bind (getI l i_1) fun e_2 =>
  Option.bind (getI l i_1) fun e_3 =>
  Option.bind (cond (ref09_outside e_1.Index e_2.Index.Lo e_3.Index.Hi) (some true) (Option.bind (getI truth i_1) fun e_4 =>
  Option.bind (getI l i_1) fun e_5 =>
  Option.bind (getI l i_1) fun e_6 =>
  some (ref09_outside e_4.Delivered e_5.Delivered.Lo e_6.Delivered.Hi))) fun t_1 =>
  cond t_1
  (some (.ret (([] : List Int), 7)))
  (Option.bind (getI truth i_1) fun e_7 =>
  Option.bind (getI truth i_1) fun e_8 =>
  Option.bind (getI l i_1) fun e_9 =>
  Option.bind (ref09_behind N b_ debt e_7.Index e_8.Delivered e_9.Spill) fun r_1 =>
  Option.bind (room ((out ++ [r_1])).length) fun un =>
  some (.cont (r_1, (out ++ [r_1]), W (i_1 + 1)))))
  (some (.brk (debt, out, i_1)))
def ref09_Owed (N : Nat) (b_ : ref09_Border) (start : Int) (l : List ref09_Year) (truth : List ref09_Truth) : Option ((List Int) × Int) :=
  Option.bind (ref09_years N b_ (⟨start, start⟩ : api_Span) l) fun r =>
  cond (r != 0)
  (some (([] : List Int), r))
  (cond (((truth.length : Nat) : Int) != ((l.length : Nat) : Int))
  (some (([] : List Int), 2))
  (Option.bind (loopO (fun s13 => ref09_Owed_b13 N b_ l truth s13.1 s13.2.1 s13.2.2) N (start, ([] : List Int), 0)) fun x13 =>
  exK x13 (fun s13 => some (s13.2.1, 0)) some))
theorem ref09_Owed_ok {N : Nat} {G : Pers} {Lf : List Ent} {w : World} (b_ : ref09_Border) (start : Int) (l : List ref09_Year) (truth : List ref09_Truth) {b__Table_p : Option Addr} {b__Table_c : Nat} {l_p : Option Addr} {l_c : Nat} {truth_p : Option Addr} {truth_c : Nat} (h_b__Table : Rd G 2 b__Table_p b__Table_c (b_.Table.map enc_ref09_Point)) (h_l : Rd G 5 l_p l_c (l.map enc_ref09_Year)) (h_truth : Rd G 2 truth_p truth_c (truth.map enc_ref09_Truth)) (hc : Ctx G (Lf) w) {res : (List Int) × Int} (hF : ref09_Owed N b_ start l truth = some res) : Calls Try.prog 53 #[.agg #[.slice b__Table_p b_.Table.length b__Table_c, .int .i64 b_.Credit], .int .i64 start, .slice l_p l.length l_c, .slice truth_p truth.length truth_c] w (fun e w => ∃ (p'1 : Option Addr) (c'1 : Nat), e = .returned (.tuple #[.slice p'1 res.1.length c'1, .int .i64 res.2]) ∧ Ctx G (.row p'1 c'1 (res.1.map encI_i64) 3 1 :: Lf) w) := by
  unfold ref09_Owed at hF
  refine fnIn (args := [.agg #[.slice b__Table_p b_.Table.length b__Table_c, .int .i64 b_.Credit], .int .i64 start, .slice l_p l.length l_c, .slice truth_p truth.length truth_c]) Try.func53 rfl Try.ntmps53 rfl fun a hf => ?_
  refine wp_seq_k fun K1 h1 => ?_
  refine cReg ?_
  refine stBx (cs := [.slice b__Table_p b_.Table.length b__Table_c, .int .i64 b_.Credit]) hf hc rfl rfl rfl rfl fun b_1 a w hf hc => ?_
  refine stP hf rfl rfl rfl (pA rfl) fun a hf => ?_
  refine stP hf rfl rfl rfl (pA rfl) fun a hf => ?_
  refine cNil ?_
  refine h1 _ _ ?_
  refine wp_seq_k fun K2 h2 => ?_
  refine wp_seq_k fun K3 h3 => ?_
  refine cReg ?_
  refine stE hf hc rfl rfl rfl (eLdN (vs := [.slice b__Table_p b_.Table.length b__Table_c, .int .i64 b_.Credit]) ag_106 rfl rfl (cells_box (n := 2) m0 rfl)) fun a w hf hc => ?_
  refine stP hf rfl rfl rfl (pM rfl) fun a hf => ?_
  refine stP hf rfl rfl rfl (pM rfl) fun a hf => ?_
  refine stP hf rfl rfl rfl (pBuildS (cells := [.int .i64 start, .int .i64 start]) bt_26 rfl rfl) fun a hf => ?_
  refine stP hf rfl rfl rfl (pM rfl) fun a hf => ?_
  obtain ⟨r, hr, hF⟩ := bnd_some hF
  refine stE hf hc rfl rfl rfl (eC (v := .int .i64 r) (vs := [.agg #[.slice b__Table_p b_.Table.length b__Table_c, .int .i64 b_.Credit], .agg #[.int .i64 start, .int .i64 start], .slice l_p l.length l_c]) (caps := []) en_101 rfl rfl rfl rfl (fun w hc => ref09_years_ok b_ (⟨start, start⟩ : api_Span) l h_b__Table h_l hc hr)) fun a w hf hc => ?_
  refine stP hf rfl rfl rfl (pA rfl) fun a hf => ?_
  refine cNil ?_
  refine h3 _ _ ?_
  refine wp_seq_k fun K4 h4 => ?_
  refine cReg ?_
  refine stP hf rfl rfl rfl (pM rfl) fun a hf => ?_
  refine stP hf rfl rfl rfl (pNe rfl rfl) fun a hf => ?_
  refine cNil ?_
  refine h4 _ _ ?_
  refine cCond (b := (r != 0)) hf rfl (fun hb => ?_) (fun hb => ?_)
  · replace hF := condT hb hF
    clear hb
    refine wp_seq_k fun K5 h5 => ?_
    refine cReg ?_
    refine stP hf rfl rfl rfl (pM rfl) fun a hf => ?_
    refine stP hf rfl rfl rfl (pA rfl) fun a hf => ?_
    refine stP hf rfl rfl rfl (pA rfl) fun a hf => ?_
    refine cNil ?_
    refine h5 _ _ ?_
    refine wp_ret ?_
    refine xThenR ?_
    obtain rfl := Option.some.inj hF
    replace hc := hc.nilRow 3 1
    replace hc := hc.drop k1
    exact fnOut2 (by simp) rfl Try.results53 hf hc (show look _ 8 = _ from rfl) (show look _ 9 = _ from rfl) ⟨none, 0, rfl, hc⟩
  · replace hF := condF hb hF
    clear hb
    refine wp_skip ?_
    refine h2 _ _ ?_
    refine wp_seq_k fun K6 h6 => ?_
    refine wp_seq_k fun K7 h7 => ?_
    refine cReg ?_
    refine stP hf rfl rfl rfl (pM rfl) fun a hf => ?_
    refine stP hf rfl rfl rfl (pLenS Try.underlying99 rfl) fun a hf => ?_
    refine stP hf rfl rfl rfl (pM rfl) fun a hf => ?_
    refine stP hf rfl rfl rfl (pLenS Try.underlying98 rfl) fun a hf => ?_
    refine stP hf rfl rfl rfl (pNe rfl rfl) fun a hf => ?_
    refine cNil ?_
    refine h7 _ _ ?_
    refine cCond (b := (((truth.length : Nat) : Int) != ((l.length : Nat) : Int))) hf rfl (fun hb => ?_) (fun hb => ?_)
    · replace hF := condT hb hF
      clear hb
      refine wp_seq_k fun K8 h8 => ?_
      refine cReg ?_
      refine stP hf rfl rfl rfl (pA rfl) fun a hf => ?_
      refine stP hf rfl rfl rfl (pA rfl) fun a hf => ?_
      refine cNil ?_
      refine h8 _ _ ?_
      refine wp_ret ?_
      refine xThenR ?_
      obtain rfl := Option.some.inj hF
      replace hc := hc.nilRow 3 1
      replace hc := hc.drop k1
      exact fnOut2 (by simp) rfl Try.results53 hf hc (show look _ 8 = _ from rfl) (show look _ 9 = _ from rfl) ⟨none, 0, rfl, hc⟩
    · replace hF := condF hb hF
      clear hb
      refine wp_skip ?_
      refine h6 _ _ ?_
      refine wp_seq_k fun K9 h9 => ?_
      refine cReg ?_
      refine stP hf rfl rfl rfl (pM rfl) fun a hf => ?_
      refine stP hf rfl rfl rfl (pA rfl) fun a hf => ?_
      refine cNil ?_
      refine h9 _ _ ?_
      refine wp_seq_k fun K10 h10 => ?_
      refine cReg ?_
      refine stP hf rfl rfl rfl (pA rfl) fun a hf => ?_
      refine cNil ?_
      refine h10 _ _ ?_
      refine wp_seq_k fun K11 h11 => ?_
      refine wp_seq_k fun K12 h12 => ?_
      refine cReg ?_
      refine stP hf rfl rfl rfl (pA rfl) fun a hf => ?_
      refine cNil ?_
      refine h12 _ _ ?_
      refine wp_block ?_
      obtain ⟨x13, hx13, hF⟩ := bnd_some hF
      let S13 : (Int × (List Int) × Int) → Act → World → Prop := (fun (zz : Int × (List Int) × Int) a w => ∃ (p_1 : Option Addr) (c_1 : Nat), Has 96 a [(2, .slice l_p l.length l_c), (3, .slice truth_p truth.length truth_c), (4, .pointer (some ⟨b_1, 0, none⟩)), (11, .int .i64 zz.1), (12, .slice p_1 zz.2.1.length c_1), (13, .int .i64 zz.2.2)] ∧ Ctx G (.row p_1 c_1 (zz.2.1.map encI_i64) 3 1 :: .box b_1 [.slice b__Table_p b_.Table.length b__Table_c, .int .i64 b_.Credit] 106 :: Lf) w)
      have hr13 : ∀ (zz : Int × (List Int) × Int) a w, x13 = .go zz → S13 zz a w → K11 a w := by
        rintro ⟨debt, out, i_1⟩ a w rfl ⟨p_1, c_1, hf, hc⟩
        replace hF : _ = some res := hF
        refine h11 _ _ ?_
        refine wp_seq_k fun K14 h14 => ?_
        refine cReg ?_
        refine stP hf rfl rfl rfl (pM rfl) fun a hf => ?_
        refine stP hf rfl rfl rfl (pA rfl) fun a hf => ?_
        refine stP hf rfl rfl rfl (pA rfl) fun a hf => ?_
        refine cNil ?_
        refine h14 _ _ ?_
        refine wp_ret ?_
        obtain rfl := Option.some.inj hF
        replace hc := hc.drop k1
        exact fnOut2 (by simp) rfl Try.results53 hf hc (show look _ 8 = _ from rfl) (show look _ 9 = _ from rfl) ⟨p_1, c_1, rfl, hc⟩
      have ho13 : ∀ r, x13 = .out r → r = res := by
        rintro r rfl
        exact Option.some.inj hF
      replace hc := hc.nilRow 3 1
      refine cLoop N (loopW (S := S13) (x := x13) ?_ N (start, ([] : List Int), 0) _ _ ⟨none, 0, hf.keep ⟨rfl, rfl, rfl, rfl, rfl, rfl, trivial⟩, hc⟩ hx13)
      clear hF hf hc
      rintro ⟨debt, out, i_1⟩ st13 a w KB13 ⟨p_1, c_1, hf, hc⟩ hF hfin13 hK13
      unfold ref09_Owed_b13 at hF
      refine wp_seq_k fun K15 h15 => ?_
      refine wp_seq_k fun K16 h16 => ?_
      refine cReg ?_
      refine stP hf rfl rfl rfl (pM rfl) fun a hf => ?_
      refine stP hf rfl rfl rfl (pM rfl) fun a hf => ?_
      refine stP hf rfl rfl rfl (pLenS Try.underlying98 rfl) fun a hf => ?_
      refine stP hf rfl rfl rfl (pLt rfl rfl) fun a hf => ?_
      refine cNil ?_
      refine h16 _ _ ?_
      refine cCond (b := (decide (i_1 < ((l.length : Nat) : Int)))) hf rfl (fun hb => ?_) (fun hb => ?_)
      · replace hF := condT hb hF
        clear hb
        refine wp_skip ?_
        refine h15 _ _ ?_
        refine wp_seq_k fun K17 h17 => ?_
        refine wp_block ?_
        refine wp_seq_k fun K18 h18 => ?_
        refine wp_seq_k fun K19 h19 => ?_
        obtain ⟨e_1, he_1, hF⟩ := bnd_some hF
        obtain ⟨b_2, o, qa, qp⟩ := h_truth.atm he_1
        obtain ⟨e_2, he_2, hF⟩ := bnd_some hF
        obtain ⟨b_3, o_1, qa_1, qp_1⟩ := h_l.atm he_2
        obtain ⟨e_3, he_3, hF⟩ := bnd_some hF
        obtain ⟨b_4, o_2, qa_2, qp_2⟩ := h_l.atm he_3
        obtain ⟨t_1, ht_1, hF⟩ := bnd_some hF
        refine cQ hc follows_mx (by kernel_rfl) ?_
        refine qE hf rfl rfl rfl (Pu.ev (pM rfl)) fun a hf => ?_
        refine qE hf rfl rfl rfl (Pu.ev (pM rfl)) fun a hf => ?_
        refine qE hf rfl rfl rfl (Pu.ev (pIA Try.underlying99 sz_180 rfl rfl qa)) fun a hf => ?_
        refine qE hf rfl rfl rfl (Pu.ev (pFA fa_180_0 rfl)) fun a hf => ?_
        refine qE hf rfl rfl rfl (eLd1 sc_3 rfl (cell_pc (j := 0) qp rfl)) fun a hf => ?_
        refine qE hf rfl rfl rfl (Pu.ev (pM rfl)) fun a hf => ?_
        refine qE hf rfl rfl rfl (Pu.ev (pM rfl)) fun a hf => ?_
        refine qE hf rfl rfl rfl (Pu.ev (pIA Try.underlying98 sz_179 rfl rfl qa_1)) fun a hf => ?_
        refine qE hf rfl rfl rfl (Pu.ev (pFA fa_179_0 rfl)) fun a hf => ?_
        refine qE hf rfl rfl rfl (Pu.ev (pFA fa_26_0 rfl)) fun a hf => ?_
        refine qE hf rfl rfl rfl (eLd1 sc_3 rfl (cell_pc (j := 0) qp_1 rfl)) fun a hf => ?_
        refine qE hf rfl rfl rfl (Pu.ev (pM rfl)) fun a hf => ?_
        refine qE hf rfl rfl rfl (Pu.ev (pM rfl)) fun a hf => ?_
        refine qE hf rfl rfl rfl (Pu.ev (pIA Try.underlying98 sz_179 rfl rfl qa_2)) fun a hf => ?_
        refine qE hf rfl rfl rfl (Pu.ev (pFA fa_179_0 rfl)) fun a hf => ?_
        refine qE hf rfl rfl rfl (Pu.ev (pFA fa_26_1 rfl)) fun a hf => ?_
        refine qE hf rfl rfl rfl (eLd1 sc_3 rfl (cell_pc (j := 1) qp_2 rfl)) fun a hf => ?_
        refine qE hf rfl rfl rfl (eC (v := .bool (ref09_outside e_1.Index e_2.Index.Lo e_3.Index.Hi)) (vs := [.int .i64 e_1.Index, .int .i64 e_2.Index.Lo, .int .i64 e_3.Index.Hi]) (caps := []) en_74 rfl rfl rfl rfl (fun w hc => ref09_outside_ok e_1.Index e_2.Index.Lo e_3.Index.Hi hc rfl)) fun a hf => ?_
        refine qE hf rfl rfl rfl (Pu.ev (pM rfl)) fun a hf => ?_
        refine qCut 19 (fun a => Has 96 a [(2, .slice l_p l.length l_c), (3, .slice truth_p truth.length truth_c), (4, .pointer (some ⟨b_1, 0, none⟩)), (11, .int .i64 debt), (12, .slice p_1 out.length c_1), (13, .int .i64 i_1), (35, .slice truth_p truth.length truth_c), (36, .int .i64 i_1), (37, .pointer (some ⟨b_2, o, none⟩)), (38, .pointer (some ⟨b_2, o + 0, none⟩)), (39, .int .i64 e_1.Index), (40, .slice l_p l.length l_c), (41, .int .i64 i_1), (42, .pointer (some ⟨b_3, o_1, none⟩)), (43, .pointer (some ⟨b_3, o_1 + 0, none⟩)), (44, .pointer (some ⟨b_3, o_1 + 0 + 0, none⟩)), (45, .int .i64 e_2.Index.Lo), (46, .slice l_p l.length l_c), (47, .int .i64 i_1), (48, .pointer (some ⟨b_4, o_2, none⟩)), (49, .pointer (some ⟨b_4, o_2 + 0, none⟩)), (50, .pointer (some ⟨b_4, o_2 + 0 + 1, none⟩)), (51, .int .i64 e_3.Index.Hi), (52, .bool (ref09_outside e_1.Index e_2.Index.Lo e_3.Index.Hi)), (53, .bool (ref09_outside e_1.Index e_2.Index.Lo e_3.Index.Hi)), (72, .bool t_1)]) ?_ ?_
        · cases hb : (ref09_outside e_1.Index e_2.Index.Lo e_3.Index.Hi)
          · rw [hb] at hf
            have hF := condF hb ht_1
            obtain ⟨e_4, he_4, hF⟩ := bnd_some hF
            obtain ⟨b_5, o_3, qa_3, qp_3⟩ := h_truth.atm he_4
            obtain ⟨e_5, he_5, hF⟩ := bnd_some hF
            obtain ⟨b_6, o_4, qa_4, qp_4⟩ := h_l.atm he_5
            obtain ⟨e_6, he_6, hF⟩ := bnd_some hF
            obtain ⟨b_7, o_5, qa_5, qp_5⟩ := h_l.atm he_6
            refine qE hf rfl rfl rfl (Pu.ev (pM rfl)) fun a hf => ?_
            refine qE hf rfl rfl rfl (Pu.ev (pM rfl)) fun a hf => ?_
            refine qE hf rfl rfl rfl (Pu.ev (pIA Try.underlying99 sz_180 rfl rfl qa_3)) fun a hf => ?_
            refine qE hf rfl rfl rfl (Pu.ev (pFA fa_180_1 rfl)) fun a hf => ?_
            refine qE hf rfl rfl rfl (eLd1 sc_3 rfl (cell_pc (j := 1) qp_3 rfl)) fun a hf => ?_
            refine qE hf rfl rfl rfl (Pu.ev (pM rfl)) fun a hf => ?_
            refine qE hf rfl rfl rfl (Pu.ev (pM rfl)) fun a hf => ?_
            refine qE hf rfl rfl rfl (Pu.ev (pIA Try.underlying98 sz_179 rfl rfl qa_4)) fun a hf => ?_
            refine qE hf rfl rfl rfl (Pu.ev (pFA fa_179_1 rfl)) fun a hf => ?_
            refine qE hf rfl rfl rfl (Pu.ev (pFA fa_26_0 rfl)) fun a hf => ?_
            refine qE hf rfl rfl rfl (eLd1 sc_3 rfl (cell_pc (j := 2) qp_4 rfl)) fun a hf => ?_
            refine qE hf rfl rfl rfl (Pu.ev (pM rfl)) fun a hf => ?_
            refine qE hf rfl rfl rfl (Pu.ev (pM rfl)) fun a hf => ?_
            refine qE hf rfl rfl rfl (Pu.ev (pIA Try.underlying98 sz_179 rfl rfl qa_5)) fun a hf => ?_
            refine qE hf rfl rfl rfl (Pu.ev (pFA fa_179_1 rfl)) fun a hf => ?_
            refine qE hf rfl rfl rfl (Pu.ev (pFA fa_26_1 rfl)) fun a hf => ?_
            refine qE hf rfl rfl rfl (eLd1 sc_3 rfl (cell_pc (j := 3) qp_5 rfl)) fun a hf => ?_
            refine qE hf rfl rfl rfl (eC (v := .bool (ref09_outside e_4.Delivered e_5.Delivered.Lo e_6.Delivered.Hi)) (vs := [.int .i64 e_4.Delivered, .int .i64 e_5.Delivered.Lo, .int .i64 e_6.Delivered.Hi]) (caps := []) en_74 rfl rfl rfl rfl (fun w hc => ref09_outside_ok e_4.Delivered e_5.Delivered.Lo e_6.Delivered.Hi hc rfl)) fun a hf => ?_
            refine qE hf rfl rfl rfl (Pu.ev (pPf rfl rfl)) fun a hf => ?_
            obtain rfl := Option.some.inj hF
            exact qNil (hf.keep ⟨rfl, rfl, rfl, rfl, rfl, rfl, rfl, rfl, rfl, rfl, rfl, rfl, rfl, rfl, rfl, rfl, rfl, rfl, rfl, rfl, rfl, rfl, rfl, rfl, rfl, rfl, trivial⟩)
          · rw [hb] at hf
            have hF := condT hb ht_1
            obtain rfl := Option.some.inj hF
            refine qS hf rfl rfl rfl fun a hf => ?_
            refine qS hf rfl rfl rfl fun a hf => ?_
            refine qS hf rfl rfl rfl fun a hf => ?_
            refine qS hf rfl rfl rfl fun a hf => ?_
            refine qS hf rfl rfl rfl fun a hf => ?_
            refine qS hf rfl rfl rfl fun a hf => ?_
            refine qS hf rfl rfl rfl fun a hf => ?_
            refine qS hf rfl rfl rfl fun a hf => ?_
            refine qS hf rfl rfl rfl fun a hf => ?_
            refine qS hf rfl rfl rfl fun a hf => ?_
            refine qS hf rfl rfl rfl fun a hf => ?_
            refine qS hf rfl rfl rfl fun a hf => ?_
            refine qS hf rfl rfl rfl fun a hf => ?_
            refine qS hf rfl rfl rfl fun a hf => ?_
            refine qS hf rfl rfl rfl fun a hf => ?_
            refine qS hf rfl rfl rfl fun a hf => ?_
            refine qS hf rfl rfl rfl fun a hf => ?_
            refine qS hf rfl rfl rfl fun a hf => ?_
            refine qE hf rfl rfl rfl (Pu.ev (pPt rfl rfl)) fun a hf => ?_
            exact qNil (hf.keep ⟨rfl, rfl, rfl, rfl, rfl, rfl, rfl, rfl, rfl, rfl, rfl, rfl, rfl, rfl, rfl, rfl, rfl, rfl, rfl, rfl, rfl, rfl, rfl, rfl, rfl, rfl, trivial⟩)
        intro a hf
        intro w hc
        refine h19 _ _ ?_
        refine cCond (b := t_1) hf rfl (fun hb => ?_) (fun hb => ?_)
        · replace hF := condT hb hF
          clear hb
          refine wp_seq_k fun K20 h20 => ?_
          refine cReg ?_
          refine stP hf rfl rfl rfl (pA rfl) fun a hf => ?_
          refine stP hf rfl rfl rfl (pA rfl) fun a hf => ?_
          refine cNil ?_
          refine h20 _ _ ?_
          refine wp_ret ?_
          refine xThenR ?_
          refine xBlkR ?_
          refine xThenR ?_
          refine xThenR ?_
          have he := Option.some.inj hF
          rw [← he] at hfin13
          replace hF := ho13 _ hfin13
          refine xBlkR ?_
          refine xThenR ?_
          obtain rfl := hF
          replace hc := hc.nilRow 3 1
          replace hc := hc.drop k2
          replace hc := hc.drop k1
          exact fnOut2 (by simp) rfl Try.results53 hf hc (show look _ 8 = _ from rfl) (show look _ 9 = _ from rfl) ⟨none, 0, rfl, hc⟩
        · replace hF := condF hb hF
          clear hb
          refine wp_skip ?_
          refine h18 _ _ ?_
          refine wp_seq_k fun K21 h21 => ?_
          obtain ⟨e_7, he_7, hF⟩ := bnd_some hF
          obtain ⟨b_8, o_6, qa_6, qp_6⟩ := h_truth.atm he_7
          obtain ⟨e_8, he_8, hF⟩ := bnd_some hF
          obtain ⟨b_9, o_7, qa_7, qp_7⟩ := h_truth.atm he_8
          obtain ⟨e_9, he_9, hF⟩ := bnd_some hF
          obtain ⟨b_10, o_8, qa_8, qp_8⟩ := h_l.atm he_9
          obtain ⟨r_1, hr_1, hF⟩ := bnd_some hF
          refine cQ hc follows_mx (by kernel_rfl) ?_
          refine qE hf rfl rfl rfl (eLdN (vs := [.slice b__Table_p b_.Table.length b__Table_c, .int .i64 b_.Credit]) ag_106 rfl rfl (cells_box (n := 2) m1 rfl)) fun a hf => ?_
          refine qE hf rfl rfl rfl (Pu.ev (pM rfl)) fun a hf => ?_
          refine qE hf rfl rfl rfl (Pu.ev (pM rfl)) fun a hf => ?_
          refine qE hf rfl rfl rfl (Pu.ev (pM rfl)) fun a hf => ?_
          refine qE hf rfl rfl rfl (Pu.ev (pIA Try.underlying99 sz_180 rfl rfl qa_6)) fun a hf => ?_
          refine qE hf rfl rfl rfl (Pu.ev (pFA fa_180_0 rfl)) fun a hf => ?_
          refine qE hf rfl rfl rfl (eLd1 sc_3 rfl (cell_pc (j := 0) qp_6 rfl)) fun a hf => ?_
          refine qE hf rfl rfl rfl (Pu.ev (pM rfl)) fun a hf => ?_
          refine qE hf rfl rfl rfl (Pu.ev (pM rfl)) fun a hf => ?_
          refine qE hf rfl rfl rfl (Pu.ev (pIA Try.underlying99 sz_180 rfl rfl qa_7)) fun a hf => ?_
          refine qE hf rfl rfl rfl (Pu.ev (pFA fa_180_1 rfl)) fun a hf => ?_
          refine qE hf rfl rfl rfl (eLd1 sc_3 rfl (cell_pc (j := 1) qp_7 rfl)) fun a hf => ?_
          refine qE hf rfl rfl rfl (Pu.ev (pM rfl)) fun a hf => ?_
          refine qE hf rfl rfl rfl (Pu.ev (pM rfl)) fun a hf => ?_
          refine qE hf rfl rfl rfl (Pu.ev (pIA Try.underlying98 sz_179 rfl rfl qa_8)) fun a hf => ?_
          refine qE hf rfl rfl rfl (Pu.ev (pFA fa_179_2 rfl)) fun a hf => ?_
          refine qE hf rfl rfl rfl (eLd1 sc_4 rfl (cell_pc (j := 4) qp_8 rfl)) fun a hf => ?_
          refine qE hf rfl rfl rfl (eC (v := .int .i64 r_1) (vs := [.agg #[.slice b__Table_p b_.Table.length b__Table_c, .int .i64 b_.Credit], .int .i64 debt, .int .i64 e_7.Index, .int .i64 e_8.Delivered, .bool e_9.Spill]) (caps := []) en_102 rfl rfl rfl rfl (fun w hc => ref09_behind_ok b_ debt e_7.Index e_8.Delivered e_9.Spill h_b__Table hc hr_1)) fun a hf => ?_
          refine qE hf rfl rfl rfl (Pu.ev (pA rfl)) fun a hf => ?_
          intro w hc
          refine h21 _ _ ?_
          refine cReg ?_
          refine stP hf rfl rfl rfl (pM rfl) fun a hf => ?_
          refine stP hf rfl rfl rfl (pM rfl) fun a hf => ?_
          refine stBS (rows := ([r_1] : List Int).map encI_i64) (vs := [(0, .int .i64 r_1)]) hf hc rfl rfl sl_36 rfl ⟨rfl, rfl, rfl, trivial⟩ rfl rfl fun b_11 a w hf hc => ?_
          obtain ⟨un, hun, hF⟩ := bnd_some hF
          refine stApm (xs := out) (ys := ([r_1] : List Int)) hf hc rfl rfl sl_36 rfl rfl rfl rfl rfl one_encI_i64 (src_row hc m0) (fun _ _ => u1) (by simpa using room_spec hun) fun p_2 c_2 a w hf hc => ?_
          refine stP hf rfl rfl rfl (pA rfl) fun a hf => ?_
          refine cNil ?_
          refine h17 _ _ ?_
          refine cReg ?_
          refine stP hf rfl rfl rfl (pM rfl) fun a hf => ?_
          refine stP hf rfl rfl rfl (pAdd rfl rfl) fun a hf => ?_
          refine stP hf rfl rfl rfl (pA rfl) fun a hf => ?_
          refine cNil ?_
          replace hc := hc.drop k0
          exact hK13 (r_1, (out ++ [r_1]), W (i_1 + 1)) _ _ (Option.some.inj hF).symm ⟨p_2, c_2, hf.keep ⟨rfl, rfl, rfl, rfl, rfl, rfl, trivial⟩, hc⟩
      · replace hF := condF hb hF
        clear hb
        refine wp_exit ?_
        refine xThen ?_
        refine xThen ?_
        have he := Option.some.inj hF
        rw [← he] at hfin13
        refine cHit ?_
        exact hr13 _ _ _ hfin13 ⟨p_1, c_1, hf.keep ⟨rfl, rfl, rfl, rfl, rfl, rfl, trivial⟩, hc⟩

def ref09_Debts_b10 (N : Nat) (b_ : ref09_Border) (l : List ref09_Year) (out : List api_Span) (i_1 : Int) (x : Int) (x_1 : Int) : Option (Step ((List api_Span) × Int × Int × Int) ((List api_Span) × Int)) :=
  cond (decide (i_1 < ((l.length : Nat) : Int)))
  (Option.bind (getI l i_1) fun e_1 =>
  Option.bind (ref09_behind N b_ x e_1.Index.Lo e_1.Delivered.Hi e_1.Spill) fun r_1 =>
  Option.bind (ref09_behind N b_ x_1 e_1.Index.Hi e_1.Delivered.Lo e_1.Spill) fun r_2 =>
  Option.bind (room ((out ++ [(⟨r_1, r_2⟩ : api_Span)])).length) fun un =>
  some (.cont ((out ++ [(⟨r_1, r_2⟩ : api_Span)]), W (i_1 + 1), r_1, r_2)))
  (some (.brk (out, i_1, x, x_1)))
def ref09_Debts (N : Nat) (b_ : ref09_Border) (start : api_Span) (l : List ref09_Year) : Option ((List api_Span) × Int) :=
  Option.bind (ref09_years N b_ start l) fun r =>
  cond (r != 0)
  (some (([] : List api_Span), r))
  (Option.bind (loopO (fun s10 => ref09_Debts_b10 N b_ l s10.1 s10.2.1 s10.2.2.1 s10.2.2.2) N (([] : List api_Span), 0, start.Lo, start.Hi)) fun x10 =>
  exK x10 (fun s10 => some (s10.1, 0)) some)
theorem ref09_Debts_ok {N : Nat} {G : Pers} {Lf : List Ent} {w : World} (b_ : ref09_Border) (start : api_Span) (l : List ref09_Year) {b__Table_p : Option Addr} {b__Table_c : Nat} {l_p : Option Addr} {l_c : Nat} (h_b__Table : Rd G 2 b__Table_p b__Table_c (b_.Table.map enc_ref09_Point)) (h_l : Rd G 5 l_p l_c (l.map enc_ref09_Year)) (hc : Ctx G (Lf) w) {res : (List api_Span) × Int} (hF : ref09_Debts N b_ start l = some res) : Calls Try.prog 55 #[.agg #[.slice b__Table_p b_.Table.length b__Table_c, .int .i64 b_.Credit], .agg #[.int .i64 start.Lo, .int .i64 start.Hi], .slice l_p l.length l_c] w (fun e w => ∃ (p'1 : Option Addr) (c'1 : Nat), e = .returned (.tuple #[.slice p'1 res.1.length c'1, .int .i64 res.2]) ∧ Ctx G (.row p'1 c'1 (res.1.map enc_api_Span) 26 2 :: Lf) w) := by
  unfold ref09_Debts at hF
  refine fnIn (args := [.agg #[.slice b__Table_p b_.Table.length b__Table_c, .int .i64 b_.Credit], .agg #[.int .i64 start.Lo, .int .i64 start.Hi], .slice l_p l.length l_c]) Try.func55 rfl Try.ntmps55 rfl fun a hf => ?_
  refine wp_seq_k fun K1 h1 => ?_
  refine cReg ?_
  refine stBx (cs := [.slice b__Table_p b_.Table.length b__Table_c, .int .i64 b_.Credit]) hf hc rfl rfl rfl rfl fun b_1 a w hf hc => ?_
  refine stBx (cs := [.int .i64 start.Lo, .int .i64 start.Hi]) hf hc rfl rfl rfl rfl fun b_2 a w hf hc => ?_
  refine stP hf rfl rfl rfl (pA rfl) fun a hf => ?_
  refine stP hf rfl rfl rfl (pA rfl) fun a hf => ?_
  refine cNil ?_
  refine h1 _ _ ?_
  refine wp_seq_k fun K2 h2 => ?_
  refine wp_seq_k fun K3 h3 => ?_
  refine cReg ?_
  refine stE hf hc rfl rfl rfl (eLdN (vs := [.slice b__Table_p b_.Table.length b__Table_c, .int .i64 b_.Credit]) ag_106 rfl rfl (cells_box (n := 2) m1 rfl)) fun a w hf hc => ?_
  refine stE hf hc rfl rfl rfl (eLdN (vs := [.int .i64 start.Lo, .int .i64 start.Hi]) ag_26 rfl rfl (cells_box (n := 2) m0 rfl)) fun a w hf hc => ?_
  refine stP hf rfl rfl rfl (pM rfl) fun a hf => ?_
  obtain ⟨r, hr, hF⟩ := bnd_some hF
  refine stE hf hc rfl rfl rfl (eC (v := .int .i64 r) (vs := [.agg #[.slice b__Table_p b_.Table.length b__Table_c, .int .i64 b_.Credit], .agg #[.int .i64 start.Lo, .int .i64 start.Hi], .slice l_p l.length l_c]) (caps := []) en_101 rfl rfl rfl rfl (fun w hc => ref09_years_ok b_ start l h_b__Table h_l hc hr)) fun a w hf hc => ?_
  refine stP hf rfl rfl rfl (pA rfl) fun a hf => ?_
  refine cNil ?_
  refine h3 _ _ ?_
  refine wp_seq_k fun K4 h4 => ?_
  refine cReg ?_
  refine stP hf rfl rfl rfl (pM rfl) fun a hf => ?_
  refine stP hf rfl rfl rfl (pNe rfl rfl) fun a hf => ?_
  refine cNil ?_
  refine h4 _ _ ?_
  refine cCond (b := (r != 0)) hf rfl (fun hb => ?_) (fun hb => ?_)
  · replace hF := condT hb hF
    clear hb
    refine wp_seq_k fun K5 h5 => ?_
    refine cReg ?_
    refine stP hf rfl rfl rfl (pM rfl) fun a hf => ?_
    refine stP hf rfl rfl rfl (pA rfl) fun a hf => ?_
    refine stP hf rfl rfl rfl (pA rfl) fun a hf => ?_
    refine cNil ?_
    refine h5 _ _ ?_
    refine wp_ret ?_
    refine xThenR ?_
    obtain rfl := Option.some.inj hF
    replace hc := hc.nilRow 26 2
    replace hc := hc.drop k2
    replace hc := hc.drop k1
    exact fnOut2 (by simp) rfl Try.results55 hf hc (show look _ 6 = _ from rfl) (show look _ 7 = _ from rfl) ⟨none, 0, rfl, hc⟩
  · replace hF := condF hb hF
    clear hb
    refine wp_skip ?_
    refine h2 _ _ ?_
    refine wp_seq_k fun K6 h6 => ?_
    refine cReg ?_
    refine stE hf hc rfl rfl rfl (eLdN (vs := [.int .i64 start.Lo, .int .i64 start.Hi]) ag_26 rfl rfl (cells_box (n := 2) m0 rfl)) fun a w hf hc => ?_
    refine stAl (cs := [.int .i64 0, .int .i64 0]) hf hc rfl rfl zr_26 rfl fun b_3 a w hf hc => ?_
    refine stSt (vs := [.int .i64 start.Lo, .int .i64 start.Hi]) hf hc rfl rfl rfl rfl sz_26 rfl rfl u0 fun w hc => ?_
    refine cNil ?_
    refine h6 _ _ ?_
    refine wp_seq_k fun K7 h7 => ?_
    refine cReg ?_
    refine stP hf rfl rfl rfl (pA rfl) fun a hf => ?_
    refine cNil ?_
    refine h7 _ _ ?_
    refine wp_seq_k fun K8 h8 => ?_
    refine wp_seq_k fun K9 h9 => ?_
    refine cReg ?_
    refine stP hf rfl rfl rfl (pA rfl) fun a hf => ?_
    refine cNil ?_
    refine h9 _ _ ?_
    refine wp_block ?_
    obtain ⟨x10, hx10, hF⟩ := bnd_some hF
    let S10 : ((List api_Span) × Int × Int × Int) → Act → World → Prop := (fun (zz : (List api_Span) × Int × Int × Int) a w => ∃ (p_1 : Option Addr) (c_1 : Nat), Has 61 a [(2, .slice l_p l.length l_c), (3, .pointer (some ⟨b_1, 0, none⟩)), (9, .pointer (some ⟨b_3, 0, none⟩)), (10, .slice p_1 zz.1.length c_1), (11, .int .i64 zz.2.1)] ∧ Ctx G (.row p_1 c_1 (zz.1.map enc_api_Span) 26 2 :: .box b_3 [.int .i64 zz.2.2.1, .int .i64 zz.2.2.2] 26 :: .box b_1 [.slice b__Table_p b_.Table.length b__Table_c, .int .i64 b_.Credit] 106 :: Lf) w)
    have hr10 : ∀ (zz : (List api_Span) × Int × Int × Int) a w, x10 = .go zz → S10 zz a w → K8 a w := by
      rintro ⟨out, i_1, x, x_1⟩ a w rfl ⟨p_1, c_1, hf, hc⟩
      replace hF : _ = some res := hF
      refine h8 _ _ ?_
      refine wp_seq_k fun K11 h11 => ?_
      refine cReg ?_
      refine stP hf rfl rfl rfl (pM rfl) fun a hf => ?_
      refine stP hf rfl rfl rfl (pA rfl) fun a hf => ?_
      refine stP hf rfl rfl rfl (pA rfl) fun a hf => ?_
      refine cNil ?_
      refine h11 _ _ ?_
      refine wp_ret ?_
      obtain rfl := Option.some.inj hF
      replace hc := hc.drop k2
      replace hc := hc.drop k1
      exact fnOut2 (by simp) rfl Try.results55 hf hc (show look _ 6 = _ from rfl) (show look _ 7 = _ from rfl) ⟨p_1, c_1, rfl, hc⟩
    have ho10 : ∀ r, x10 = .out r → r = res := by
      rintro r rfl
      exact Option.some.inj hF
    replace hc := hc.nilRow 26 2
    replace hc := hc.drop k2
    refine cLoop N (loopW (S := S10) (x := x10) ?_ N (([] : List api_Span), 0, start.Lo, start.Hi) _ _ ⟨none, 0, hf.keep ⟨rfl, rfl, rfl, rfl, rfl, trivial⟩, hc⟩ hx10)
    clear hF hf hc
    rintro ⟨out, i_1, x, x_1⟩ st10 a w KB10 ⟨p_1, c_1, hf, hc⟩ hF hfin10 hK10
    unfold ref09_Debts_b10 at hF
    refine wp_seq_k fun K12 h12 => ?_
    refine wp_seq_k fun K13 h13 => ?_
    refine cReg ?_
    refine stP hf rfl rfl rfl (pM rfl) fun a hf => ?_
    refine stP hf rfl rfl rfl (pM rfl) fun a hf => ?_
    refine stP hf rfl rfl rfl (pLenS Try.underlying98 rfl) fun a hf => ?_
    refine stP hf rfl rfl rfl (pLt rfl rfl) fun a hf => ?_
    refine cNil ?_
    refine h13 _ _ ?_
    refine cCond (b := (decide (i_1 < ((l.length : Nat) : Int)))) hf rfl (fun hb => ?_) (fun hb => ?_)
    · replace hF := condT hb hF
      clear hb
      refine wp_skip ?_
      refine h12 _ _ ?_
      refine wp_seq_k fun K14 h14 => ?_
      refine wp_block ?_
      refine wp_seq_k fun K15 h15 => ?_
      refine cReg ?_
      refine stP hf rfl rfl rfl (pM rfl) fun a hf => ?_
      refine stP hf rfl rfl rfl (pM rfl) fun a hf => ?_
      obtain ⟨e_1, he_1, hF⟩ := bnd_some hF
      obtain ⟨b_4, o, qa, qp⟩ := h_l.atm he_1
      refine stP hf rfl rfl rfl (pIA Try.underlying98 sz_179 rfl rfl qa) fun a hf => ?_
      refine stE hf hc rfl rfl rfl (eLdN (vs := [.int .i64 e_1.Index.Lo, .int .i64 e_1.Index.Hi, .int .i64 e_1.Delivered.Lo, .int .i64 e_1.Delivered.Hi, .bool e_1.Spill]) ag_179 rfl rfl (cells_pc qp (n := 5) (o' := 0) rfl)) fun a w hf hc => ?_
      refine stAl (cs := [.int .i64 0, .int .i64 0, .int .i64 0, .int .i64 0, .bool false]) hf hc rfl rfl zr_179 rfl fun b_5 a w hf hc => ?_
      refine stSt (vs := [.int .i64 e_1.Index.Lo, .int .i64 e_1.Index.Hi, .int .i64 e_1.Delivered.Lo, .int .i64 e_1.Delivered.Hi, .bool e_1.Spill]) hf hc rfl rfl rfl rfl sz_179 rfl rfl u0 fun w hc => ?_
      refine cNil ?_
      refine h15 _ _ ?_
      refine wp_seq_k fun K16 h16 => ?_
      obtain ⟨r_1, hr_1, hF⟩ := bnd_some hF
      obtain ⟨r_2, hr_2, hF⟩ := bnd_some hF
      refine regionE (fun θ => (⟨none, none, 2, .slice l_p l.length l_c⟩ :: ⟨none, none, 3, .pointer (some ⟨b_1, 0, none⟩)⟩ :: ⟨none, none, 9, .pointer (some ⟨b_3, 0, none⟩)⟩ :: ⟨none, none, 10, .slice p_1 out.length c_1⟩ :: ⟨none, none, 11, .int .i64 i_1⟩ :: ⟨none, none, 12, .pointer (some ⟨b_5, 0, none⟩)⟩ :: ⟨some 0, none, 31, .agg #[.slice b__Table_p b_.Table.length b__Table_c, .int .i64 b_.Credit]⟩ :: ⟨some 1, none, 32, .pointer (some ⟨b_3, 0, none⟩)⟩ :: ⟨some 2, none, 33, .int .i64 x⟩ :: ⟨some 3, none, 34, .pointer (some ⟨b_5, 0, none⟩)⟩ :: ⟨some 4, none, 35, .pointer (some ⟨b_5, 0, none⟩)⟩ :: ⟨some 5, none, 36, .int .i64 e_1.Index.Lo⟩ :: ⟨some 6, none, 37, .pointer (some ⟨b_5, 2, none⟩)⟩ :: ⟨some 7, none, 38, .pointer (some ⟨b_5, 3, none⟩)⟩ :: ⟨some 8, none, 39, .int .i64 e_1.Delivered.Hi⟩ :: ⟨some 9, none, 40, .pointer (some ⟨b_5, 4, none⟩)⟩ :: ⟨some 10, none, 41, .bool e_1.Spill⟩ :: ⟨some 11, none, 42, .int .i64 r_1⟩ :: ⟨some 12, none, 43, .agg #[.slice b__Table_p b_.Table.length b__Table_c, .int .i64 b_.Credit]⟩ :: ⟨some 13, none, 44, .pointer (some ⟨b_3, 1, none⟩)⟩ :: ⟨some 14, none, 45, .int .i64 x_1⟩ :: ⟨some 15, none, 46, .pointer (some ⟨b_5, 0, none⟩)⟩ :: ⟨some 16, none, 47, .pointer (some ⟨b_5, 1, none⟩)⟩ :: ⟨some 17, none, 48, .int .i64 e_1.Index.Hi⟩ :: ⟨some 18, none, 49, .pointer (some ⟨b_5, 2, none⟩)⟩ :: ⟨some 19, none, 50, .pointer (some ⟨b_5, 2, none⟩)⟩ :: ⟨some 20, none, 51, .int .i64 e_1.Delivered.Lo⟩ :: ⟨some 21, none, 52, .pointer (some ⟨b_5, 4, none⟩)⟩ :: ⟨some 22, none, 53, .bool e_1.Spill⟩ :: ⟨some 23, none, 54, .int .i64 r_2⟩ :: ⟨some 24, none, 55, .agg #[.int .i64 r_1, .int .i64 r_2]⟩ :: [])) (fun E θ => .box b_5 [.int .i64 e_1.Index.Lo, .int .i64 e_1.Index.Hi, .int .i64 e_1.Delivered.Lo, .int .i64 e_1.Delivered.Hi, .bool e_1.Spill] 179 :: .row p_1 c_1 (out.map enc_api_Span) 26 2 :: (bif E 25 then .box b_3 [.int .i64 r_1, .int .i64 r_2] 26 else .box b_3 [.int .i64 x, .int .i64 x_1] 26) :: .box b_1 [.slice b__Table_p b_.Table.length b__Table_c, .int .i64 b_.Credit] 106 :: Lf) [(25, 2), (25, 14)] (fun a w => Has 61 a [(2, .slice l_p l.length l_c), (3, .pointer (some ⟨b_1, 0, none⟩)), (9, .pointer (some ⟨b_3, 0, none⟩)), (10, .slice p_1 out.length c_1), (11, .int .i64 i_1)] ∧ Ctx G (.box b_5 [.int .i64 e_1.Index.Lo, .int .i64 e_1.Index.Hi, .int .i64 e_1.Delivered.Lo, .int .i64 e_1.Delivered.Hi, .bool e_1.Spill] 179 :: .row p_1 c_1 (out.map enc_api_Span) 26 2 :: .box b_3 [.int .i64 r_1, .int .i64 r_2] 26 :: .box b_1 [.slice b__Table_p b_.Table.length b__Table_c, .int .i64 b_.Credit] 106 :: Lf) w) follows_mx (by kernel_rfl) (by kernel_rfl) (HasE.of hf ⟨rfl, rfl, rfl, rfl, rfl, rfl, trivial, trivial, trivial, trivial, trivial, trivial, trivial, trivial, trivial, trivial, trivial, trivial, trivial, trivial, trivial, trivial, trivial, trivial, trivial, trivial, trivial, trivial, trivial, trivial, trivial, trivial⟩) hc ⟨?_, ?_, ?_, ?_, ?_, ?_, ?_, ?_, ?_, ?_, ?_, ?_, ?_, ?_, ?_, ?_, ?_, ?_, ?_, ?_, ?_, ?_, ?_, ?_, ?_, ?_, trivial⟩ ?_ ?_
      · intro E θ a w hD hi hp he hc
        have hf := he.h0
        replace hf := hf.more he 1 rfl onT
        refine stE hf hc rfl rfl rfl (eLdN (vs := [.slice b__Table_p b_.Table.length b__Table_c, .int .i64 b_.Credit]) ag_106 rfl rfl (cells_box (n := 2) m3 rfl)) fun a w hf hc => ?_
        refine cNil ?_
        refine xThenN ?_
        intro ds u hau
        refine ⟨θ, he.put0 hi hau hf rfl 6 rfl rfl, ?_⟩
        exact hc
      · intro E θ a w hD hi hp he hc
        have hf := he.h0
        replace hf := hf.more he 2 rfl onT
        refine stP hf rfl rfl rfl (pFA fa_26_0 rfl) fun a hf => ?_
        refine cNil ?_
        refine xThenN ?_
        intro ds u hau
        refine ⟨θ, he.put0 hi hau hf rfl 7 rfl rfl, ?_⟩
        exact hc
      · intro E θ a w hD hi hp he hc
        have e1 := hp.of (k := 1) rfl
        have e25 := hD.f 0 rfl hi
        try dsimp only at hc
        rw [e25] at hc
        have hf := he.h0
        replace hf := hf.more he 7 rfl (onP e1)
        refine stE hf hc rfl rfl rfl (eLd1 sc_3 rfl (cell_box m2 rfl)) fun a w hf hc => ?_
        refine cNil ?_
        refine xThenN ?_
        intro ds u hau
        refine ⟨θ, he.put0 hi hau hf rfl 8 rfl rfl, ?_⟩
        try dsimp only
        rw [updE_fls 2 e25 rfl]
        exact hc
      · intro E θ a w hD hi hp he hc
        have hf := he.h0
        replace hf := hf.more he 5 rfl onT
        refine stP hf rfl rfl rfl (pFA fa_179_0 rfl) fun a hf => ?_
        refine cNil ?_
        refine xThenN ?_
        intro ds u hau
        refine ⟨θ, he.put0 hi hau hf rfl 9 rfl rfl, ?_⟩
        exact hc
      · intro E θ a w hD hi hp he hc
        have e3 := hp.of (k := 3) rfl
        have hf := he.h0
        replace hf := hf.more he 9 rfl (onP e3)
        refine stP hf rfl rfl rfl (pFA fa_26_0 rfl) fun a hf => ?_
        refine cNil ?_
        refine xThenN ?_
        intro ds u hau
        refine ⟨θ, he.put0 hi hau hf rfl 10 rfl rfl, ?_⟩
        exact hc
      · intro E θ a w hD hi hp he hc
        have e4 := hp.of (k := 4) rfl
        have hf := he.h0
        replace hf := hf.more he 10 rfl (onP e4)
        refine stE hf hc rfl rfl rfl (eLd1 sc_3 rfl (cell_box m0 rfl)) fun a w hf hc => ?_
        refine cNil ?_
        refine xThenN ?_
        intro ds u hau
        refine ⟨θ, he.put0 hi hau hf rfl 11 rfl rfl, ?_⟩
        exact hc
      · intro E θ a w hD hi hp he hc
        have hf := he.h0
        replace hf := hf.more he 5 rfl onT
        refine stP hf rfl rfl rfl (pFA fa_179_1 rfl) fun a hf => ?_
        refine cNil ?_
        refine xThenN ?_
        intro ds u hau
        refine ⟨θ, he.put0 hi hau hf rfl 12 rfl rfl, ?_⟩
        exact hc
      · intro E θ a w hD hi hp he hc
        have e6 := hp.of (k := 6) rfl
        have hf := he.h0
        replace hf := hf.more he 12 rfl (onP e6)
        refine stP hf rfl rfl rfl (pFA fa_26_1 rfl) fun a hf => ?_
        refine cNil ?_
        refine xThenN ?_
        intro ds u hau
        refine ⟨θ, he.put0 hi hau hf rfl 13 rfl rfl, ?_⟩
        exact hc
      · intro E θ a w hD hi hp he hc
        have e7 := hp.of (k := 7) rfl
        have hf := he.h0
        replace hf := hf.more he 13 rfl (onP e7)
        refine stE hf hc rfl rfl rfl (eLd1 sc_3 rfl (cell_box m0 rfl)) fun a w hf hc => ?_
        refine cNil ?_
        refine xThenN ?_
        intro ds u hau
        refine ⟨θ, he.put0 hi hau hf rfl 14 rfl rfl, ?_⟩
        exact hc
      · intro E θ a w hD hi hp he hc
        have hf := he.h0
        replace hf := hf.more he 5 rfl onT
        refine stP hf rfl rfl rfl (pFA fa_179_2 rfl) fun a hf => ?_
        refine cNil ?_
        refine xThenN ?_
        intro ds u hau
        refine ⟨θ, he.put0 hi hau hf rfl 15 rfl rfl, ?_⟩
        exact hc
      · intro E θ a w hD hi hp he hc
        have e9 := hp.of (k := 9) rfl
        have hf := he.h0
        replace hf := hf.more he 15 rfl (onP e9)
        refine stE hf hc rfl rfl rfl (eLd1 sc_4 rfl (cell_box m0 rfl)) fun a w hf hc => ?_
        refine cNil ?_
        refine xThenN ?_
        intro ds u hau
        refine ⟨θ, he.put0 hi hau hf rfl 16 rfl rfl, ?_⟩
        exact hc
      · intro E θ a w hD hi hp he hc
        have e0 := hp.of (k := 0) rfl
        have e2 := hp.of (k := 2) rfl
        have e5 := hp.of (k := 5) rfl
        have e8 := hp.of (k := 8) rfl
        have e10 := hp.of (k := 10) rfl
        have hf := he.h0
        replace hf := hf.more he 6 rfl (onP e0)
        replace hf := hf.more he 8 rfl (onP e2)
        replace hf := hf.more he 11 rfl (onP e5)
        replace hf := hf.more he 14 rfl (onP e8)
        replace hf := hf.more he 16 rfl (onP e10)
        refine stE hf hc rfl rfl rfl (eC (v := .int .i64 r_1) (vs := [.agg #[.slice b__Table_p b_.Table.length b__Table_c, .int .i64 b_.Credit], .int .i64 x, .int .i64 e_1.Index.Lo, .int .i64 e_1.Delivered.Hi, .bool e_1.Spill]) (caps := []) en_102 rfl rfl rfl rfl (fun w hc => ref09_behind_ok b_ x e_1.Index.Lo e_1.Delivered.Hi e_1.Spill h_b__Table hc hr_1)) fun a w hf hc => ?_
        refine cNil ?_
        refine xThenN ?_
        intro ds u hau
        refine ⟨θ, he.put0 hi hau hf rfl 17 rfl rfl, ?_⟩
        exact hc
      · intro E θ a w hD hi hp he hc
        have hf := he.h0
        replace hf := hf.more he 1 rfl onT
        refine stE hf hc rfl rfl rfl (eLdN (vs := [.slice b__Table_p b_.Table.length b__Table_c, .int .i64 b_.Credit]) ag_106 rfl rfl (cells_box (n := 2) m3 rfl)) fun a w hf hc => ?_
        refine cNil ?_
        refine xThenN ?_
        intro ds u hau
        refine ⟨θ, he.put0 hi hau hf rfl 18 rfl rfl, ?_⟩
        exact hc
      · intro E θ a w hD hi hp he hc
        have hf := he.h0
        replace hf := hf.more he 2 rfl onT
        refine stP hf rfl rfl rfl (pFA fa_26_1 rfl) fun a hf => ?_
        refine cNil ?_
        refine xThenN ?_
        intro ds u hau
        refine ⟨θ, he.put0 hi hau hf rfl 19 rfl rfl, ?_⟩
        exact hc
      · intro E θ a w hD hi hp he hc
        have e13 := hp.of (k := 13) rfl
        have e25 := hD.f 1 rfl hi
        try dsimp only at hc
        rw [e25] at hc
        have hf := he.h0
        replace hf := hf.more he 19 rfl (onP e13)
        refine stE hf hc rfl rfl rfl (eLd1 sc_3 rfl (cell_box m2 rfl)) fun a w hf hc => ?_
        refine cNil ?_
        refine xThenN ?_
        intro ds u hau
        refine ⟨θ, he.put0 hi hau hf rfl 20 rfl rfl, ?_⟩
        try dsimp only
        rw [updE_fls 14 e25 rfl]
        exact hc
      · intro E θ a w hD hi hp he hc
        have hf := he.h0
        replace hf := hf.more he 5 rfl onT
        refine stP hf rfl rfl rfl (pFA fa_179_0 rfl) fun a hf => ?_
        refine cNil ?_
        refine xThenN ?_
        intro ds u hau
        refine ⟨θ, he.put0 hi hau hf rfl 21 rfl rfl, ?_⟩
        exact hc
      · intro E θ a w hD hi hp he hc
        have e15 := hp.of (k := 15) rfl
        have hf := he.h0
        replace hf := hf.more he 21 rfl (onP e15)
        refine stP hf rfl rfl rfl (pFA fa_26_1 rfl) fun a hf => ?_
        refine cNil ?_
        refine xThenN ?_
        intro ds u hau
        refine ⟨θ, he.put0 hi hau hf rfl 22 rfl rfl, ?_⟩
        exact hc
      · intro E θ a w hD hi hp he hc
        have e16 := hp.of (k := 16) rfl
        have hf := he.h0
        replace hf := hf.more he 22 rfl (onP e16)
        refine stE hf hc rfl rfl rfl (eLd1 sc_3 rfl (cell_box m0 rfl)) fun a w hf hc => ?_
        refine cNil ?_
        refine xThenN ?_
        intro ds u hau
        refine ⟨θ, he.put0 hi hau hf rfl 23 rfl rfl, ?_⟩
        exact hc
      · intro E θ a w hD hi hp he hc
        have hf := he.h0
        replace hf := hf.more he 5 rfl onT
        refine stP hf rfl rfl rfl (pFA fa_179_1 rfl) fun a hf => ?_
        refine cNil ?_
        refine xThenN ?_
        intro ds u hau
        refine ⟨θ, he.put0 hi hau hf rfl 24 rfl rfl, ?_⟩
        exact hc
      · intro E θ a w hD hi hp he hc
        have e18 := hp.of (k := 18) rfl
        have hf := he.h0
        replace hf := hf.more he 24 rfl (onP e18)
        refine stP hf rfl rfl rfl (pFA fa_26_0 rfl) fun a hf => ?_
        refine cNil ?_
        refine xThenN ?_
        intro ds u hau
        refine ⟨θ, he.put0 hi hau hf rfl 25 rfl rfl, ?_⟩
        exact hc
      · intro E θ a w hD hi hp he hc
        have e19 := hp.of (k := 19) rfl
        have hf := he.h0
        replace hf := hf.more he 25 rfl (onP e19)
        refine stE hf hc rfl rfl rfl (eLd1 sc_3 rfl (cell_box m0 rfl)) fun a w hf hc => ?_
        refine cNil ?_
        refine xThenN ?_
        intro ds u hau
        refine ⟨θ, he.put0 hi hau hf rfl 26 rfl rfl, ?_⟩
        exact hc
      · intro E θ a w hD hi hp he hc
        have hf := he.h0
        replace hf := hf.more he 5 rfl onT
        refine stP hf rfl rfl rfl (pFA fa_179_2 rfl) fun a hf => ?_
        refine cNil ?_
        refine xThenN ?_
        intro ds u hau
        refine ⟨θ, he.put0 hi hau hf rfl 27 rfl rfl, ?_⟩
        exact hc
      · intro E θ a w hD hi hp he hc
        have e21 := hp.of (k := 21) rfl
        have hf := he.h0
        replace hf := hf.more he 27 rfl (onP e21)
        refine stE hf hc rfl rfl rfl (eLd1 sc_4 rfl (cell_box m0 rfl)) fun a w hf hc => ?_
        refine cNil ?_
        refine xThenN ?_
        intro ds u hau
        refine ⟨θ, he.put0 hi hau hf rfl 28 rfl rfl, ?_⟩
        exact hc
      · intro E θ a w hD hi hp he hc
        have e12 := hp.of (k := 12) rfl
        have e14 := hp.of (k := 14) rfl
        have e17 := hp.of (k := 17) rfl
        have e20 := hp.of (k := 20) rfl
        have e22 := hp.of (k := 22) rfl
        have hf := he.h0
        replace hf := hf.more he 18 rfl (onP e12)
        replace hf := hf.more he 20 rfl (onP e14)
        replace hf := hf.more he 23 rfl (onP e17)
        replace hf := hf.more he 26 rfl (onP e20)
        replace hf := hf.more he 28 rfl (onP e22)
        refine stE hf hc rfl rfl rfl (eC (v := .int .i64 r_2) (vs := [.agg #[.slice b__Table_p b_.Table.length b__Table_c, .int .i64 b_.Credit], .int .i64 x_1, .int .i64 e_1.Index.Hi, .int .i64 e_1.Delivered.Lo, .bool e_1.Spill]) (caps := []) en_102 rfl rfl rfl rfl (fun w hc => ref09_behind_ok b_ x_1 e_1.Index.Hi e_1.Delivered.Lo e_1.Spill h_b__Table hc hr_2)) fun a w hf hc => ?_
        refine cNil ?_
        refine xThenN ?_
        intro ds u hau
        refine ⟨θ, he.put0 hi hau hf rfl 29 rfl rfl, ?_⟩
        exact hc
      · intro E θ a w hD hi hp he hc
        have e11 := hp.of (k := 11) rfl
        have e23 := hp.of (k := 23) rfl
        have hf := he.h0
        replace hf := hf.more he 17 rfl (onP e11)
        replace hf := hf.more he 29 rfl (onP e23)
        refine stP hf rfl rfl rfl (pBuildS (cells := [.int .i64 r_1, .int .i64 r_2]) bt_26 rfl rfl) fun a hf => ?_
        refine cNil ?_
        refine xThenN ?_
        intro ds u hau
        refine ⟨θ, he.put0 hi hau hf rfl 30 rfl rfl, ?_⟩
        exact hc
      · intro E θ a w hD hi hp he hc
        have e24 := hp.of (k := 24) rfl
        try dsimp only at hc
        rw [hi] at hc
        have hf := he.h0
        replace hf := hf.more he 2 rfl onT
        replace hf := hf.more he 30 rfl (onP e24)
        refine stSt (vs := [.int .i64 r_1, .int .i64 r_2]) hf hc rfl rfl rfl rfl sz_26 rfl rfl u2 fun w hc => ?_
        refine cNil ?_
        refine xThenN ?_
        intro ds u hau
        refine ⟨θ, he.stay0 hi hau hf rfl, ?_⟩
        try dsimp only
        rw [updE_self E 25]
        exact hc
      · intro E θ a w hall he hc
        have hf := he.h0
        have e25 := hall 25 rfl
        replace hf := hf.more he 4 rfl (onT)
        replace hf := hf.more he 3 rfl (onT)
        replace hf := hf.more he 2 rfl (onT)
        replace hf := hf.more he 1 rfl (onT)
        replace hf := hf.more he 0 rfl (onT)
        try dsimp only at hc
        rw [e25] at hc
        exact ⟨hf.keep ⟨rfl, rfl, rfl, rfl, rfl, trivial⟩, hc⟩
      rintro a w ⟨hf, hc⟩
      refine h16 _ _ ?_
      refine cReg ?_
      refine stP hf rfl rfl rfl (pM rfl) fun a hf => ?_
      refine stE hf hc rfl rfl rfl (eLdN (vs := [.int .i64 r_1, .int .i64 r_2]) ag_26 rfl rfl (cells_box (n := 2) m2 rfl)) fun a w hf hc => ?_
      refine stBS (rows := ([(⟨r_1, r_2⟩ : api_Span)] : List api_Span).map enc_api_Span) (vs := [(0, .agg #[.int .i64 r_1, .int .i64 r_2])]) hf hc rfl rfl sl_41 rfl ⟨rfl, rfl, rfl, trivial⟩ rfl rfl fun b_6 a w hf hc => ?_
      obtain ⟨un, hun, hF⟩ := bnd_some hF
      refine stApm (xs := out) (ys := ([(⟨r_1, r_2⟩ : api_Span)] : List api_Span)) hf hc rfl rfl sl_41 rfl rfl rfl rfl rfl one_enc_api_Span (src_row hc m0) (fun _ _ => u2) (by simpa using room_spec hun) fun p_2 c_2 a w hf hc => ?_
      refine stP hf rfl rfl rfl (pA rfl) fun a hf => ?_
      refine cNil ?_
      refine h14 _ _ ?_
      refine cReg ?_
      refine stP hf rfl rfl rfl (pM rfl) fun a hf => ?_
      refine stP hf rfl rfl rfl (pAdd rfl rfl) fun a hf => ?_
      refine stP hf rfl rfl rfl (pA rfl) fun a hf => ?_
      refine cNil ?_
      replace hc := hc.drop k1
      replace hc := hc.drop k0
      exact hK10 ((out ++ [(⟨r_1, r_2⟩ : api_Span)]), W (i_1 + 1), r_1, r_2) _ _ (Option.some.inj hF).symm ⟨p_2, c_2, hf.keep ⟨rfl, rfl, rfl, rfl, rfl, trivial⟩, hc⟩
    · replace hF := condF hb hF
      clear hb
      refine wp_exit ?_
      refine xThen ?_
      refine xThen ?_
      have he := Option.some.inj hF
      rw [← he] at hfin10
      refine cHit ?_
      exact hr10 _ _ _ hfin10 ⟨p_1, c_1, hf.keep ⟨rfl, rfl, rfl, rfl, rfl, trivial⟩, hc⟩

def kit_Same_share_Point_b7 (N : Nat) (a_ : List share_Point) (b_ : List share_Point) (i_1 : Int) : Option (Step (Int) (Bool)) :=
  cond (decide (i_1 < ((a_.length : Nat) : Int)))
  (Option.bind (getI a_ i_1) fun e_1 =>
  Option.bind (getI b_ i_1) fun e_2 =>
  cond (!(e_1.Index == e_2.Index && e_1.Due == e_2.Due))
  (some (.ret false))
  (some (.cont (W (i_1 + 1)))))
  (some (.brk i_1))
def kit_Same_share_Point (N : Nat) (a_ : List share_Point) (b_ : List share_Point) : Option (Bool) :=
  cond (((a_.length : Nat) : Int) != ((b_.length : Nat) : Int))
  (some false)
  (Option.bind (loopO (fun s7 => kit_Same_share_Point_b7 N a_ b_ s7) N 0) fun x7 =>
  exK x7 (fun s7 => some true) some)
theorem kit_Same_share_Point_ok {N : Nat} {G : Pers} {Lf : List Ent} {w : World} (a_ : List share_Point) (b_ : List share_Point) {a__p : Option Addr} {a__c : Nat} {b__p : Option Addr} {b__c : Nat} (h_a_ : Rd G 2 a__p a__c (a_.map enc_share_Point)) (h_b_ : Rd G 2 b__p b__c (b_.map enc_share_Point)) (hc : Ctx G (Lf) w) {res : Bool} (hF : kit_Same_share_Point N a_ b_ = some res) : Calls Try.prog 56 #[.slice a__p a_.length a__c, .slice b__p b_.length b__c] w (fun e w => e = .returned (.bool res) ∧ Ctx G (Lf) w) := by
  unfold kit_Same_share_Point at hF
  refine fnIn (args := [.slice a__p a_.length a__c, .slice b__p b_.length b__c]) Try.func56 rfl Try.ntmps56 rfl fun a hf => ?_
  refine wp_seq_k fun K1 h1 => ?_
  refine cReg ?_
  refine stP hf rfl rfl rfl (pA rfl) fun a hf => ?_
  refine cNil ?_
  refine h1 _ _ ?_
  refine wp_seq_k fun K2 h2 => ?_
  refine wp_seq_k fun K3 h3 => ?_
  refine cReg ?_
  refine stP hf rfl rfl rfl (pM rfl) fun a hf => ?_
  refine stP hf rfl rfl rfl (pLenS Try.underlying86 rfl) fun a hf => ?_
  refine stP hf rfl rfl rfl (pM rfl) fun a hf => ?_
  refine stP hf rfl rfl rfl (pLenS Try.underlying86 rfl) fun a hf => ?_
  refine stP hf rfl rfl rfl (pNe rfl rfl) fun a hf => ?_
  refine cNil ?_
  refine h3 _ _ ?_
  refine cCond (b := (((a_.length : Nat) : Int) != ((b_.length : Nat) : Int))) hf rfl (fun hb => ?_) (fun hb => ?_)
  · replace hF := condT hb hF
    clear hb
    refine wp_seq_k fun K4 h4 => ?_
    refine cReg ?_
    refine stP hf rfl rfl rfl (pA rfl) fun a hf => ?_
    refine cNil ?_
    refine h4 _ _ ?_
    refine wp_ret ?_
    refine xThenR ?_
    obtain rfl := Option.some.inj hF
    exact fnOut1 (by simp) rfl Try.results56 hf hc (show look _ 4 = _ from rfl) ⟨rfl, hc⟩
  · replace hF := condF hb hF
    clear hb
    refine wp_skip ?_
    refine h2 _ _ ?_
    refine wp_seq_k fun K5 h5 => ?_
    refine wp_seq_k fun K6 h6 => ?_
    refine cReg ?_
    refine stP hf rfl rfl rfl (pA rfl) fun a hf => ?_
    refine cNil ?_
    refine h6 _ _ ?_
    refine wp_block ?_
    obtain ⟨x7, hx7, hF⟩ := bnd_some hF
    let S7 : Int → Act → World → Prop := (fun (zz : Int) a w => Has 26 a [(0, .slice a__p a_.length a__c), (1, .slice b__p b_.length b__c), (5, .int .i64 zz)] ∧ Ctx G (Lf) w)
    have hr7 : ∀ (zz : Int) a w, x7 = .go zz → S7 zz a w → K5 a w := by
      rintro i_1 a w rfl ⟨hf, hc⟩
      replace hF : _ = some res := hF
      refine h5 _ _ ?_
      refine wp_seq_k fun K8 h8 => ?_
      refine cReg ?_
      refine stP hf rfl rfl rfl (pA rfl) fun a hf => ?_
      refine cNil ?_
      refine h8 _ _ ?_
      refine wp_ret ?_
      obtain rfl := Option.some.inj hF
      exact fnOut1 (by simp) rfl Try.results56 hf hc (show look _ 4 = _ from rfl) ⟨rfl, hc⟩
    have ho7 : ∀ r, x7 = .out r → r = res := by
      rintro r rfl
      exact Option.some.inj hF
    refine cLoop N (loopW (S := S7) (x := x7) ?_ N 0 _ _ ⟨hf.keep ⟨rfl, rfl, rfl, trivial⟩, hc⟩ hx7)
    clear hF hf hc
    rintro i_1 st7 a w KB7 ⟨hf, hc⟩ hF hfin7 hK7
    unfold kit_Same_share_Point_b7 at hF
    refine wp_seq_k fun K9 h9 => ?_
    refine wp_seq_k fun K10 h10 => ?_
    refine cReg ?_
    refine stP hf rfl rfl rfl (pM rfl) fun a hf => ?_
    refine stP hf rfl rfl rfl (pM rfl) fun a hf => ?_
    refine stP hf rfl rfl rfl (pLenS Try.underlying86 rfl) fun a hf => ?_
    refine stP hf rfl rfl rfl (pLt rfl rfl) fun a hf => ?_
    refine cNil ?_
    refine h10 _ _ ?_
    refine cCond (b := (decide (i_1 < ((a_.length : Nat) : Int)))) hf rfl (fun hb => ?_) (fun hb => ?_)
    · replace hF := condT hb hF
      clear hb
      refine wp_skip ?_
      refine h9 _ _ ?_
      refine wp_seq_k fun K11 h11 => ?_
      refine wp_block ?_
      refine wp_seq_k fun K12 h12 => ?_
      obtain ⟨e_1, he_1, hF⟩ := bnd_some hF
      obtain ⟨b_1, o, qa, qp⟩ := h_a_.atm he_1
      obtain ⟨e_2, he_2, hF⟩ := bnd_some hF
      obtain ⟨b_2, o_1, qa_1, qp_1⟩ := h_b_.atm he_2
      refine cQ hc follows_mx (by kernel_rfl) ?_
      refine qE hf rfl rfl rfl (Pu.ev (pM rfl)) fun a hf => ?_
      refine qE hf rfl rfl rfl (Pu.ev (pM rfl)) fun a hf => ?_
      refine qE hf rfl rfl rfl (Pu.ev (pIA Try.underlying86 sz_116 rfl rfl qa)) fun a hf => ?_
      refine qE hf rfl rfl rfl (eLdN (vs := [.int .i64 e_1.Index, .int .i64 e_1.Due]) ag_116 rfl rfl (cells_pc qp (n := 2) (o' := 0) rfl)) fun a hf => ?_
      refine qE hf rfl rfl rfl (Pu.ev (pM rfl)) fun a hf => ?_
      refine qE hf rfl rfl rfl (Pu.ev (pM rfl)) fun a hf => ?_
      refine qE hf rfl rfl rfl (Pu.ev (pIA Try.underlying86 sz_116 rfl rfl qa_1)) fun a hf => ?_
      refine qE hf rfl rfl rfl (eLdN (vs := [.int .i64 e_2.Index, .int .i64 e_2.Due]) ag_116 rfl rfl (cells_pc qp_1 (n := 2) (o' := 0) rfl)) fun a hf => ?_
      refine qE hf rfl rfl rfl (Pu.ev (pNeA ge_116 rfl rfl (eqs_116 _ _ _ _))) fun a hf => ?_
      intro w hc
      refine h12 _ _ ?_
      refine cCond (b := (!(e_1.Index == e_2.Index && e_1.Due == e_2.Due))) hf rfl (fun hb => ?_) (fun hb => ?_)
      · replace hF := condT hb hF
        clear hb
        refine wp_seq_k fun K13 h13 => ?_
        refine cReg ?_
        refine stP hf rfl rfl rfl (pA rfl) fun a hf => ?_
        refine cNil ?_
        refine h13 _ _ ?_
        refine wp_ret ?_
        refine xBlkR ?_
        refine xThenR ?_
        refine xThenR ?_
        have he := Option.some.inj hF
        rw [← he] at hfin7
        replace hF := ho7 _ hfin7
        refine xBlkR ?_
        refine xThenR ?_
        obtain rfl := hF
        exact fnOut1 (by simp) rfl Try.results56 hf hc (show look _ 4 = _ from rfl) ⟨rfl, hc⟩
      · replace hF := condF hb hF
        clear hb
        refine wp_skip ?_
        refine h11 _ _ ?_
        refine cReg ?_
        refine stP hf rfl rfl rfl (pM rfl) fun a hf => ?_
        refine stP hf rfl rfl rfl (pAdd rfl rfl) fun a hf => ?_
        refine stP hf rfl rfl rfl (pA rfl) fun a hf => ?_
        refine cNil ?_
        exact hK7 (W (i_1 + 1)) _ _ (Option.some.inj hF).symm ⟨hf.keep ⟨rfl, rfl, rfl, trivial⟩, hc⟩
    · replace hF := condF hb hF
      clear hb
      refine wp_exit ?_
      refine xThen ?_
      refine xThen ?_
      have he := Option.some.inj hF
      rw [← he] at hfin7
      refine cHit ?_
      exact hr7 _ _ _ hfin7 ⟨hf.keep ⟨rfl, rfl, rfl, trivial⟩, hc⟩

def kit_Same_share_Year_b7 (N : Nat) (a_ : List share_Year) (b_ : List share_Year) (i_1 : Int) : Option (Step (Int) (Bool)) :=
  cond (decide (i_1 < ((a_.length : Nat) : Int)))
  (Option.bind (getI a_ i_1) fun e_1 =>
  Option.bind (getI b_ i_1) fun e_2 =>
  cond (!(e_1.Index.Lo == e_2.Index.Lo && e_1.Index.Hi == e_2.Index.Hi && e_1.Delivered.Lo == e_2.Delivered.Lo && e_1.Delivered.Hi == e_2.Delivered.Hi && e_1.Spill == e_2.Spill))
  (some (.ret false))
  (some (.cont (W (i_1 + 1)))))
  (some (.brk i_1))
def kit_Same_share_Year (N : Nat) (a_ : List share_Year) (b_ : List share_Year) : Option (Bool) :=
  cond (((a_.length : Nat) : Int) != ((b_.length : Nat) : Int))
  (some false)
  (Option.bind (loopO (fun s7 => kit_Same_share_Year_b7 N a_ b_ s7) N 0) fun x7 =>
  exK x7 (fun s7 => some true) some)
theorem kit_Same_share_Year_ok {N : Nat} {G : Pers} {Lf : List Ent} {w : World} (a_ : List share_Year) (b_ : List share_Year) {a__p : Option Addr} {a__c : Nat} {b__p : Option Addr} {b__c : Nat} (h_a_ : Rd G 5 a__p a__c (a_.map enc_share_Year)) (h_b_ : Rd G 5 b__p b__c (b_.map enc_share_Year)) (hc : Ctx G (Lf) w) {res : Bool} (hF : kit_Same_share_Year N a_ b_ = some res) : Calls Try.prog 57 #[.slice a__p a_.length a__c, .slice b__p b_.length b__c] w (fun e w => e = .returned (.bool res) ∧ Ctx G (Lf) w) := by
  unfold kit_Same_share_Year at hF
  refine fnIn (args := [.slice a__p a_.length a__c, .slice b__p b_.length b__c]) Try.func57 rfl Try.ntmps57 rfl fun a hf => ?_
  refine wp_seq_k fun K1 h1 => ?_
  refine cReg ?_
  refine stP hf rfl rfl rfl (pA rfl) fun a hf => ?_
  refine cNil ?_
  refine h1 _ _ ?_
  refine wp_seq_k fun K2 h2 => ?_
  refine wp_seq_k fun K3 h3 => ?_
  refine cReg ?_
  refine stP hf rfl rfl rfl (pM rfl) fun a hf => ?_
  refine stP hf rfl rfl rfl (pLenS Try.underlying89 rfl) fun a hf => ?_
  refine stP hf rfl rfl rfl (pM rfl) fun a hf => ?_
  refine stP hf rfl rfl rfl (pLenS Try.underlying89 rfl) fun a hf => ?_
  refine stP hf rfl rfl rfl (pNe rfl rfl) fun a hf => ?_
  refine cNil ?_
  refine h3 _ _ ?_
  refine cCond (b := (((a_.length : Nat) : Int) != ((b_.length : Nat) : Int))) hf rfl (fun hb => ?_) (fun hb => ?_)
  · replace hF := condT hb hF
    clear hb
    refine wp_seq_k fun K4 h4 => ?_
    refine cReg ?_
    refine stP hf rfl rfl rfl (pA rfl) fun a hf => ?_
    refine cNil ?_
    refine h4 _ _ ?_
    refine wp_ret ?_
    refine xThenR ?_
    obtain rfl := Option.some.inj hF
    exact fnOut1 (by simp) rfl Try.results57 hf hc (show look _ 4 = _ from rfl) ⟨rfl, hc⟩
  · replace hF := condF hb hF
    clear hb
    refine wp_skip ?_
    refine h2 _ _ ?_
    refine wp_seq_k fun K5 h5 => ?_
    refine wp_seq_k fun K6 h6 => ?_
    refine cReg ?_
    refine stP hf rfl rfl rfl (pA rfl) fun a hf => ?_
    refine cNil ?_
    refine h6 _ _ ?_
    refine wp_block ?_
    obtain ⟨x7, hx7, hF⟩ := bnd_some hF
    let S7 : Int → Act → World → Prop := (fun (zz : Int) a w => Has 26 a [(0, .slice a__p a_.length a__c), (1, .slice b__p b_.length b__c), (5, .int .i64 zz)] ∧ Ctx G (Lf) w)
    have hr7 : ∀ (zz : Int) a w, x7 = .go zz → S7 zz a w → K5 a w := by
      rintro i_1 a w rfl ⟨hf, hc⟩
      replace hF : _ = some res := hF
      refine h5 _ _ ?_
      refine wp_seq_k fun K8 h8 => ?_
      refine cReg ?_
      refine stP hf rfl rfl rfl (pA rfl) fun a hf => ?_
      refine cNil ?_
      refine h8 _ _ ?_
      refine wp_ret ?_
      obtain rfl := Option.some.inj hF
      exact fnOut1 (by simp) rfl Try.results57 hf hc (show look _ 4 = _ from rfl) ⟨rfl, hc⟩
    have ho7 : ∀ r, x7 = .out r → r = res := by
      rintro r rfl
      exact Option.some.inj hF
    refine cLoop N (loopW (S := S7) (x := x7) ?_ N 0 _ _ ⟨hf.keep ⟨rfl, rfl, rfl, trivial⟩, hc⟩ hx7)
    clear hF hf hc
    rintro i_1 st7 a w KB7 ⟨hf, hc⟩ hF hfin7 hK7
    unfold kit_Same_share_Year_b7 at hF
    refine wp_seq_k fun K9 h9 => ?_
    refine wp_seq_k fun K10 h10 => ?_
    refine cReg ?_
    refine stP hf rfl rfl rfl (pM rfl) fun a hf => ?_
    refine stP hf rfl rfl rfl (pM rfl) fun a hf => ?_
    refine stP hf rfl rfl rfl (pLenS Try.underlying89 rfl) fun a hf => ?_
    refine stP hf rfl rfl rfl (pLt rfl rfl) fun a hf => ?_
    refine cNil ?_
    refine h10 _ _ ?_
    refine cCond (b := (decide (i_1 < ((a_.length : Nat) : Int)))) hf rfl (fun hb => ?_) (fun hb => ?_)
    · replace hF := condT hb hF
      clear hb
      refine wp_skip ?_
      refine h9 _ _ ?_
      refine wp_seq_k fun K11 h11 => ?_
      refine wp_block ?_
      refine wp_seq_k fun K12 h12 => ?_
      obtain ⟨e_1, he_1, hF⟩ := bnd_some hF
      obtain ⟨b_1, o, qa, qp⟩ := h_a_.atm he_1
      obtain ⟨e_2, he_2, hF⟩ := bnd_some hF
      obtain ⟨b_2, o_1, qa_1, qp_1⟩ := h_b_.atm he_2
      refine cQ hc follows_mx (by kernel_rfl) ?_
      refine qE hf rfl rfl rfl (Pu.ev (pM rfl)) fun a hf => ?_
      refine qE hf rfl rfl rfl (Pu.ev (pM rfl)) fun a hf => ?_
      refine qE hf rfl rfl rfl (Pu.ev (pIA Try.underlying89 sz_94 rfl rfl qa)) fun a hf => ?_
      refine qE hf rfl rfl rfl (eLdN (vs := [.int .i64 e_1.Index.Lo, .int .i64 e_1.Index.Hi, .int .i64 e_1.Delivered.Lo, .int .i64 e_1.Delivered.Hi, .bool e_1.Spill]) ag_94 rfl rfl (cells_pc qp (n := 5) (o' := 0) rfl)) fun a hf => ?_
      refine qE hf rfl rfl rfl (Pu.ev (pM rfl)) fun a hf => ?_
      refine qE hf rfl rfl rfl (Pu.ev (pM rfl)) fun a hf => ?_
      refine qE hf rfl rfl rfl (Pu.ev (pIA Try.underlying89 sz_94 rfl rfl qa_1)) fun a hf => ?_
      refine qE hf rfl rfl rfl (eLdN (vs := [.int .i64 e_2.Index.Lo, .int .i64 e_2.Index.Hi, .int .i64 e_2.Delivered.Lo, .int .i64 e_2.Delivered.Hi, .bool e_2.Spill]) ag_94 rfl rfl (cells_pc qp_1 (n := 5) (o' := 0) rfl)) fun a hf => ?_
      refine qE hf rfl rfl rfl (Pu.ev (pNeA ge_94 rfl rfl (eqs_94 _ _ _ _ _ _ _ _ _ _))) fun a hf => ?_
      intro w hc
      refine h12 _ _ ?_
      refine cCond (b := (!(e_1.Index.Lo == e_2.Index.Lo && e_1.Index.Hi == e_2.Index.Hi && e_1.Delivered.Lo == e_2.Delivered.Lo && e_1.Delivered.Hi == e_2.Delivered.Hi && e_1.Spill == e_2.Spill))) hf rfl (fun hb => ?_) (fun hb => ?_)
      · replace hF := condT hb hF
        clear hb
        refine wp_seq_k fun K13 h13 => ?_
        refine cReg ?_
        refine stP hf rfl rfl rfl (pA rfl) fun a hf => ?_
        refine cNil ?_
        refine h13 _ _ ?_
        refine wp_ret ?_
        refine xBlkR ?_
        refine xThenR ?_
        refine xThenR ?_
        have he := Option.some.inj hF
        rw [← he] at hfin7
        replace hF := ho7 _ hfin7
        refine xBlkR ?_
        refine xThenR ?_
        obtain rfl := hF
        exact fnOut1 (by simp) rfl Try.results57 hf hc (show look _ 4 = _ from rfl) ⟨rfl, hc⟩
      · replace hF := condF hb hF
        clear hb
        refine wp_skip ?_
        refine h11 _ _ ?_
        refine cReg ?_
        refine stP hf rfl rfl rfl (pM rfl) fun a hf => ?_
        refine stP hf rfl rfl rfl (pAdd rfl rfl) fun a hf => ?_
        refine stP hf rfl rfl rfl (pA rfl) fun a hf => ?_
        refine cNil ?_
        exact hK7 (W (i_1 + 1)) _ _ (Option.some.inj hF).symm ⟨hf.keep ⟨rfl, rfl, rfl, trivial⟩, hc⟩
    · replace hF := condF hb hF
      clear hb
      refine wp_exit ?_
      refine xThen ?_
      refine xThen ?_
      have he := Option.some.inj hF
      rw [← he] at hfin7
      refine cHit ?_
      exact hr7 _ _ _ hfin7 ⟨hf.keep ⟨rfl, rfl, rfl, trivial⟩, hc⟩

def kit_Same_share_Truth_b7 (N : Nat) (a_ : List share_Truth) (b_ : List share_Truth) (i_1 : Int) : Option (Step (Int) (Bool)) :=
  cond (decide (i_1 < ((a_.length : Nat) : Int)))
  (Option.bind (getI a_ i_1) fun e_1 =>
  Option.bind (getI b_ i_1) fun e_2 =>
  cond (!(e_1.Index == e_2.Index && e_1.Delivered == e_2.Delivered))
  (some (.ret false))
  (some (.cont (W (i_1 + 1)))))
  (some (.brk i_1))
def kit_Same_share_Truth (N : Nat) (a_ : List share_Truth) (b_ : List share_Truth) : Option (Bool) :=
  cond (((a_.length : Nat) : Int) != ((b_.length : Nat) : Int))
  (some false)
  (Option.bind (loopO (fun s7 => kit_Same_share_Truth_b7 N a_ b_ s7) N 0) fun x7 =>
  exK x7 (fun s7 => some true) some)
theorem kit_Same_share_Truth_ok {N : Nat} {G : Pers} {Lf : List Ent} {w : World} (a_ : List share_Truth) (b_ : List share_Truth) {a__p : Option Addr} {a__c : Nat} {b__p : Option Addr} {b__c : Nat} (h_a_ : Rd G 2 a__p a__c (a_.map enc_share_Truth)) (h_b_ : Rd G 2 b__p b__c (b_.map enc_share_Truth)) (hc : Ctx G (Lf) w) {res : Bool} (hF : kit_Same_share_Truth N a_ b_ = some res) : Calls Try.prog 58 #[.slice a__p a_.length a__c, .slice b__p b_.length b__c] w (fun e w => e = .returned (.bool res) ∧ Ctx G (Lf) w) := by
  unfold kit_Same_share_Truth at hF
  refine fnIn (args := [.slice a__p a_.length a__c, .slice b__p b_.length b__c]) Try.func58 rfl Try.ntmps58 rfl fun a hf => ?_
  refine wp_seq_k fun K1 h1 => ?_
  refine cReg ?_
  refine stP hf rfl rfl rfl (pA rfl) fun a hf => ?_
  refine cNil ?_
  refine h1 _ _ ?_
  refine wp_seq_k fun K2 h2 => ?_
  refine wp_seq_k fun K3 h3 => ?_
  refine cReg ?_
  refine stP hf rfl rfl rfl (pM rfl) fun a hf => ?_
  refine stP hf rfl rfl rfl (pLenS Try.underlying90 rfl) fun a hf => ?_
  refine stP hf rfl rfl rfl (pM rfl) fun a hf => ?_
  refine stP hf rfl rfl rfl (pLenS Try.underlying90 rfl) fun a hf => ?_
  refine stP hf rfl rfl rfl (pNe rfl rfl) fun a hf => ?_
  refine cNil ?_
  refine h3 _ _ ?_
  refine cCond (b := (((a_.length : Nat) : Int) != ((b_.length : Nat) : Int))) hf rfl (fun hb => ?_) (fun hb => ?_)
  · replace hF := condT hb hF
    clear hb
    refine wp_seq_k fun K4 h4 => ?_
    refine cReg ?_
    refine stP hf rfl rfl rfl (pA rfl) fun a hf => ?_
    refine cNil ?_
    refine h4 _ _ ?_
    refine wp_ret ?_
    refine xThenR ?_
    obtain rfl := Option.some.inj hF
    exact fnOut1 (by simp) rfl Try.results58 hf hc (show look _ 4 = _ from rfl) ⟨rfl, hc⟩
  · replace hF := condF hb hF
    clear hb
    refine wp_skip ?_
    refine h2 _ _ ?_
    refine wp_seq_k fun K5 h5 => ?_
    refine wp_seq_k fun K6 h6 => ?_
    refine cReg ?_
    refine stP hf rfl rfl rfl (pA rfl) fun a hf => ?_
    refine cNil ?_
    refine h6 _ _ ?_
    refine wp_block ?_
    obtain ⟨x7, hx7, hF⟩ := bnd_some hF
    let S7 : Int → Act → World → Prop := (fun (zz : Int) a w => Has 26 a [(0, .slice a__p a_.length a__c), (1, .slice b__p b_.length b__c), (5, .int .i64 zz)] ∧ Ctx G (Lf) w)
    have hr7 : ∀ (zz : Int) a w, x7 = .go zz → S7 zz a w → K5 a w := by
      rintro i_1 a w rfl ⟨hf, hc⟩
      replace hF : _ = some res := hF
      refine h5 _ _ ?_
      refine wp_seq_k fun K8 h8 => ?_
      refine cReg ?_
      refine stP hf rfl rfl rfl (pA rfl) fun a hf => ?_
      refine cNil ?_
      refine h8 _ _ ?_
      refine wp_ret ?_
      obtain rfl := Option.some.inj hF
      exact fnOut1 (by simp) rfl Try.results58 hf hc (show look _ 4 = _ from rfl) ⟨rfl, hc⟩
    have ho7 : ∀ r, x7 = .out r → r = res := by
      rintro r rfl
      exact Option.some.inj hF
    refine cLoop N (loopW (S := S7) (x := x7) ?_ N 0 _ _ ⟨hf.keep ⟨rfl, rfl, rfl, trivial⟩, hc⟩ hx7)
    clear hF hf hc
    rintro i_1 st7 a w KB7 ⟨hf, hc⟩ hF hfin7 hK7
    unfold kit_Same_share_Truth_b7 at hF
    refine wp_seq_k fun K9 h9 => ?_
    refine wp_seq_k fun K10 h10 => ?_
    refine cReg ?_
    refine stP hf rfl rfl rfl (pM rfl) fun a hf => ?_
    refine stP hf rfl rfl rfl (pM rfl) fun a hf => ?_
    refine stP hf rfl rfl rfl (pLenS Try.underlying90 rfl) fun a hf => ?_
    refine stP hf rfl rfl rfl (pLt rfl rfl) fun a hf => ?_
    refine cNil ?_
    refine h10 _ _ ?_
    refine cCond (b := (decide (i_1 < ((a_.length : Nat) : Int)))) hf rfl (fun hb => ?_) (fun hb => ?_)
    · replace hF := condT hb hF
      clear hb
      refine wp_skip ?_
      refine h9 _ _ ?_
      refine wp_seq_k fun K11 h11 => ?_
      refine wp_block ?_
      refine wp_seq_k fun K12 h12 => ?_
      obtain ⟨e_1, he_1, hF⟩ := bnd_some hF
      obtain ⟨b_1, o, qa, qp⟩ := h_a_.atm he_1
      obtain ⟨e_2, he_2, hF⟩ := bnd_some hF
      obtain ⟨b_2, o_1, qa_1, qp_1⟩ := h_b_.atm he_2
      refine cQ hc follows_mx (by kernel_rfl) ?_
      refine qE hf rfl rfl rfl (Pu.ev (pM rfl)) fun a hf => ?_
      refine qE hf rfl rfl rfl (Pu.ev (pM rfl)) fun a hf => ?_
      refine qE hf rfl rfl rfl (Pu.ev (pIA Try.underlying90 sz_97 rfl rfl qa)) fun a hf => ?_
      refine qE hf rfl rfl rfl (eLdN (vs := [.int .i64 e_1.Index, .int .i64 e_1.Delivered]) ag_97 rfl rfl (cells_pc qp (n := 2) (o' := 0) rfl)) fun a hf => ?_
      refine qE hf rfl rfl rfl (Pu.ev (pM rfl)) fun a hf => ?_
      refine qE hf rfl rfl rfl (Pu.ev (pM rfl)) fun a hf => ?_
      refine qE hf rfl rfl rfl (Pu.ev (pIA Try.underlying90 sz_97 rfl rfl qa_1)) fun a hf => ?_
      refine qE hf rfl rfl rfl (eLdN (vs := [.int .i64 e_2.Index, .int .i64 e_2.Delivered]) ag_97 rfl rfl (cells_pc qp_1 (n := 2) (o' := 0) rfl)) fun a hf => ?_
      refine qE hf rfl rfl rfl (Pu.ev (pNeA ge_97 rfl rfl (eqs_97 _ _ _ _))) fun a hf => ?_
      intro w hc
      refine h12 _ _ ?_
      refine cCond (b := (!(e_1.Index == e_2.Index && e_1.Delivered == e_2.Delivered))) hf rfl (fun hb => ?_) (fun hb => ?_)
      · replace hF := condT hb hF
        clear hb
        refine wp_seq_k fun K13 h13 => ?_
        refine cReg ?_
        refine stP hf rfl rfl rfl (pA rfl) fun a hf => ?_
        refine cNil ?_
        refine h13 _ _ ?_
        refine wp_ret ?_
        refine xBlkR ?_
        refine xThenR ?_
        refine xThenR ?_
        have he := Option.some.inj hF
        rw [← he] at hfin7
        replace hF := ho7 _ hfin7
        refine xBlkR ?_
        refine xThenR ?_
        obtain rfl := hF
        exact fnOut1 (by simp) rfl Try.results58 hf hc (show look _ 4 = _ from rfl) ⟨rfl, hc⟩
      · replace hF := condF hb hF
        clear hb
        refine wp_skip ?_
        refine h11 _ _ ?_
        refine cReg ?_
        refine stP hf rfl rfl rfl (pM rfl) fun a hf => ?_
        refine stP hf rfl rfl rfl (pAdd rfl rfl) fun a hf => ?_
        refine stP hf rfl rfl rfl (pA rfl) fun a hf => ?_
        refine cNil ?_
        exact hK7 (W (i_1 + 1)) _ _ (Option.some.inj hF).symm ⟨hf.keep ⟨rfl, rfl, rfl, trivial⟩, hc⟩
    · replace hF := condF hb hF
      clear hb
      refine wp_exit ?_
      refine xThen ?_
      refine xThen ?_
      have he := Option.some.inj hF
      rw [← he] at hfin7
      refine cHit ?_
      exact hr7 _ _ _ hfin7 ⟨hf.keep ⟨rfl, rfl, rfl, trivial⟩, hc⟩

end Go.Nilo
