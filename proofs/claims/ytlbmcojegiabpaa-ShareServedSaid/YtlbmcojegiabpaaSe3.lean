/-
  What functions of the Go text compute, as plain functions, and that they do, part 3 of 3. Conditions: what each theorem names.
-/
import Derived.Test.YtlbmcojegiabpaaSe2
import Derived.Test.YtlbmcojegiabpaaProg
set_option linter.unusedVariables false
set_option maxRecDepth 100000
set_option maxHeartbeats 4000000
namespace Go.Nilo
open Go.Proofs


def law09_awake (N : Nat)  : Option (Bool) :=
  Option.bind (law09_Two N) fun r =>
  Option.bind (share_Real N r 120) fun r_1 =>
  Option.bind (law09_Two N) fun r_2 =>
  Option.bind (law09_span N 90 185) fun r_3 =>
  Option.bind (share_Shares N r_2 r_3) fun r_4 =>
  Option.bind (law09_Two N) fun r_5 =>
  Option.bind (share_Short N r_5 120) fun r_6 =>
  Option.bind (law09_Line N) fun r_7 =>
  Option.bind (share_Debts N r_7.1 (⟨0, 0⟩ : api_Span) r_7.2) fun r_8 =>
  Option.bind (cond ((((r_1.2 != 0) || (r_4.2 != 0)) || (r_6.2 != 0)) || (r_8.2 != 0)) (some true) (Option.bind (kit_Same_int N r_1.1 ([95, 18] : List Int)) fun r_9 =>
  some (!r_9))) fun t_1 =>
  Option.bind (cond t_1 (some true) (Option.bind (kit_Same_api_Span N r_4.1 ([(⟨85, 120⟩ : api_Span), (⟨0, 54⟩ : api_Span)] : List api_Span)) fun r_10 =>
  some (!r_10))) fun t_2 =>
  Option.bind (cond (t_2 || (r_6.1 != 1)) (some true) (Option.bind (kit_Same_api_Span N r_8.1 ([(⟨(-2), 8⟩ : api_Span), (⟨(-15), (-12)⟩ : api_Span), (⟨0, 0⟩ : api_Span)] : List api_Span)) fun r_11 =>
  some (!r_11))) fun t_3 =>
  cond t_3
  (some false)
  (Option.bind (share_Payback N 100 (⟨15, 4, ([20, 30, 30, 40, 40, 40] : List Int)⟩ : share_Pact)) fun r_12 =>
  Option.bind (share_Turns N ([60, 30, 10] : List Int) 9 0) fun r_13 =>
  Option.bind (share_Turns N ([60, 30, 10] : List Int) 9 1) fun r_14 =>
  Option.bind (share_Divisors N ([60, 30, 10] : List Int) ([6, 3, 0] : List Int) 0) fun r_15 =>
  Option.bind (share_Unfair N ([60, 30, 10] : List Int) ([7, 2, 0] : List Int) 0) fun r_16 =>
  Option.bind (cond (((((r_12.2 == 0) && (r_13.2 == 0)) && (r_14.2 == 0)) && (r_15.2.2 == 0)) && (r_16.2.2 == 0)) (Option.bind (kit_Same_int N r_12.1 ([20, 20, 15, 15, 15, 15] : List Int)) fun r_17 =>
  some r_17) (some false)) fun t_4 =>
  Option.bind (cond t_4 (Option.bind (kit_Same_int N r_13.1 ([6, 3, 0] : List Int)) fun r_18 =>
  some r_18) (some false)) fun t_5 =>
  Option.bind (cond t_5 (Option.bind (kit_Same_int N r_14.1 ([5, 3, 1] : List Int)) fun r_19 =>
  some r_19) (some false)) fun t_6 =>
  some ((((t_6 && (r_15.1.N == 10 && r_15.1.D == 1)) && (r_15.2.1.N == r_15.1.N && r_15.2.1.D == r_15.1.D)) && (r_16.1 == 0)) && (r_16.2.1 == 1)))
theorem law09_awake_ok {N : Nat} {G : Pers} {Lf : List Ent} {w : World}    (hc : Ctx G (Lf) w) {res : Bool} (hF : law09_awake N = some res) : Calls Try.prog 13 #[] w (fun e w => e = .returned (.bool res) ∧ Ctx G (Lf) w) := by
  unfold law09_awake at hF
  refine fnIn (args := []) Try.func13 rfl Try.ntmps13 rfl fun a hf => ?_
  refine wp_seq_k fun K1 h1 => ?_
  refine cReg ?_
  refine stP hf rfl rfl rfl (pA rfl) fun a hf => ?_
  refine cNil ?_
  refine h1 _ _ ?_
  refine wp_seq_k fun K2 h2 => ?_
  refine cReg ?_
  obtain ⟨r, hr, hF⟩ := bnd_some hF
  refine stC (vs := []) (caps := []) hf rfl rfl rfl en_67 rfl rfl rfl rfl (law09_Two_ok hc hr) ?_
  rintro _ w ⟨p_1, c_1, rfl, hc⟩
  refine ⟨_, rfl, fun a hf => ?_⟩
  obtain ⟨r_1, hr_1, hF⟩ := bnd_some hF
  obtain ⟨G1, hle1, hrd1, hc, hth1⟩ := lend hc k0
  refine stC (vs := [.agg #[.int .i64 r.States, .slice p_1 r.Rights.length c_1], .int .i64 120]) (caps := []) hf rfl rfl rfl en_18 rfl rfl rfl rfl (share_Real_ok r 120 hrd1 hc hr_1) ?_
  rintro _ w ⟨p_2, c_2, rfl, hc⟩
  refine ⟨_, rfl, fun a hf => ?_⟩
  replace hc := hth1 _ _ hc
  refine stP hf rfl rfl rfl (pM rfl) fun a hf => ?_
  refine stP hf rfl rfl rfl (pX rfl rfl) fun a hf => ?_
  refine stP hf rfl rfl rfl (pX rfl rfl) fun a hf => ?_
  refine stP hf rfl rfl rfl (pA rfl) fun a hf => ?_
  refine stP hf rfl rfl rfl (pA rfl) fun a hf => ?_
  refine cNil ?_
  refine h2 _ _ ?_
  refine wp_seq_k fun K3 h3 => ?_
  refine cReg ?_
  obtain ⟨r_2, hr_2, hF⟩ := bnd_some hF
  refine stC (vs := []) (caps := []) hf rfl rfl rfl en_67 rfl rfl rfl rfl (law09_Two_ok hc hr_2) ?_
  rintro _ w ⟨p_3, c_3, rfl, hc⟩
  refine ⟨_, rfl, fun a hf => ?_⟩
  obtain ⟨r_3, hr_3, hF⟩ := bnd_some hF
  refine stE hf hc rfl rfl rfl (eC (v := .agg #[.int .i64 r_3.Lo, .int .i64 r_3.Hi]) (vs := [.int .i64 90, .int .i64 185]) (caps := []) en_60 rfl rfl rfl rfl (fun w hc => law09_span_ok 90 185 hc hr_3)) fun a w hf hc => ?_
  obtain ⟨r_4, hr_4, hF⟩ := bnd_some hF
  obtain ⟨G1, hle1, hrd1, hc, hth1⟩ := lend hc k0
  refine stC (vs := [.agg #[.int .i64 r_2.States, .slice p_3 r_2.Rights.length c_3], .agg #[.int .i64 r_3.Lo, .int .i64 r_3.Hi]]) (caps := []) hf rfl rfl rfl en_21 rfl rfl rfl rfl (share_Shares_ok r_2 r_3 hrd1 hc hr_4) ?_
  rintro _ w ⟨p_4, c_4, rfl, hc⟩
  refine ⟨_, rfl, fun a hf => ?_⟩
  replace hc := hth1 _ _ hc
  refine stP hf rfl rfl rfl (pM rfl) fun a hf => ?_
  refine stP hf rfl rfl rfl (pX rfl rfl) fun a hf => ?_
  refine stP hf rfl rfl rfl (pX rfl rfl) fun a hf => ?_
  refine stP hf rfl rfl rfl (pA rfl) fun a hf => ?_
  refine stP hf rfl rfl rfl (pA rfl) fun a hf => ?_
  refine cNil ?_
  refine h3 _ _ ?_
  refine wp_seq_k fun K4 h4 => ?_
  refine cReg ?_
  obtain ⟨r_5, hr_5, hF⟩ := bnd_some hF
  refine stC (vs := []) (caps := []) hf rfl rfl rfl en_67 rfl rfl rfl rfl (law09_Two_ok hc hr_5) ?_
  rintro _ w ⟨p_5, c_5, rfl, hc⟩
  refine ⟨_, rfl, fun a hf => ?_⟩
  obtain ⟨r_6, hr_6, hF⟩ := bnd_some hF
  refine stE hf hc rfl rfl rfl (eC (v := .tuple #[.int .i64 r_6.1, .int .i64 r_6.2]) (vs := [.agg #[.int .i64 r_5.States, .slice p_5 r_5.Rights.length c_5], .int .i64 120]) (caps := []) en_24 rfl rfl rfl rfl (fun w hc => by obtain ⟨G1, hle1, hrd1, hc, hth1⟩ := lend hc k0; exact (share_Short_ok r_5 120 hrd1 hc hr_6).mono fun e w h => ⟨h.1, ((hth1 _ _ h.2).unpick k0)⟩)) fun a w hf hc => ?_
  refine stP hf rfl rfl rfl (pM rfl) fun a hf => ?_
  refine stP hf rfl rfl rfl (pX rfl rfl) fun a hf => ?_
  refine stP hf rfl rfl rfl (pX rfl rfl) fun a hf => ?_
  refine stP hf rfl rfl rfl (pA rfl) fun a hf => ?_
  refine stP hf rfl rfl rfl (pA rfl) fun a hf => ?_
  refine cNil ?_
  refine h4 _ _ ?_
  refine wp_seq_k fun K5 h5 => ?_
  refine cReg ?_
  obtain ⟨r_7, hr_7, hF⟩ := bnd_some hF
  refine stC (vs := []) (caps := []) hf rfl rfl rfl en_68 rfl rfl rfl rfl (law09_Line_ok hc hr_7) ?_
  rintro _ w ⟨p_6, c_6, p_7, c_7, rfl, hc⟩
  refine ⟨_, rfl, fun a hf => ?_⟩
  refine stP hf rfl rfl rfl (pM rfl) fun a hf => ?_
  refine stP hf rfl rfl rfl (pX rfl rfl) fun a hf => ?_
  refine stP hf rfl rfl rfl (pX rfl rfl) fun a hf => ?_
  refine stAl (cs := [.slice none 0 0, .int .i64 0]) hf hc rfl rfl zr_88 rfl fun b_1 a w hf hc => ?_
  refine stSt (vs := [.slice p_6 r_7.1.Table.length c_6, .int .i64 r_7.1.Credit]) hf hc rfl rfl rfl rfl sz_88 rfl rfl u0 fun w hc => ?_
  refine stP hf rfl rfl rfl (pA rfl) fun a hf => ?_
  refine cNil ?_
  refine h5 _ _ ?_
  refine wp_seq_k fun K6 h6 => ?_
  refine cReg ?_
  refine stE hf hc rfl rfl rfl (eLdN (vs := [.slice p_6 r_7.1.Table.length c_6, .int .i64 r_7.1.Credit]) ag_88 rfl rfl (cells_box (n := 2) m0 rfl)) fun a w hf hc => ?_
  refine stP hf rfl rfl rfl (pBuildS (cells := [.int .i64 0, .int .i64 0]) bt_26 rfl rfl) fun a hf => ?_
  refine stP hf rfl rfl rfl (pM rfl) fun a hf => ?_
  obtain ⟨r_8, hr_8, hF⟩ := bnd_some hF
  obtain ⟨G1, hle1, hrd1, hc, hth1⟩ := lend hc k1
  obtain ⟨G2, hle2, hrd2, hc, hth2⟩ := lend hc k1
  refine stC (vs := [.agg #[.slice p_6 r_7.1.Table.length c_6, .int .i64 r_7.1.Credit], .agg #[.int .i64 0, .int .i64 0], .slice p_7 r_7.2.length c_7]) (caps := []) hf rfl rfl rfl en_54 rfl rfl rfl rfl (share_Debts_ok r_7.1 (⟨0, 0⟩ : api_Span) r_7.2 (hrd1.mono hle2) hrd2 hc hr_8) ?_
  rintro _ w ⟨p_8, c_8, rfl, hc⟩
  refine ⟨_, rfl, fun a hf => ?_⟩
  replace hc := hth2 _ _ hc
  replace hc := hth1 _ _ hc
  refine stP hf rfl rfl rfl (pM rfl) fun a hf => ?_
  refine stP hf rfl rfl rfl (pX rfl rfl) fun a hf => ?_
  refine stP hf rfl rfl rfl (pX rfl rfl) fun a hf => ?_
  refine stP hf rfl rfl rfl (pA rfl) fun a hf => ?_
  refine stP hf rfl rfl rfl (pA rfl) fun a hf => ?_
  refine cNil ?_
  refine h6 _ _ ?_
  refine wp_seq_k fun K7 h7 => ?_
  refine wp_seq_k fun K8 h8 => ?_
  refine cReg ?_
  refine stP hf rfl rfl rfl (pM rfl) fun a hf => ?_
  refine stP hf rfl rfl rfl (pNe rfl rfl) fun a hf => ?_
  refine stP hf rfl rfl rfl (pM rfl) fun a hf => ?_
  refine stCut 3 (fun a w => Has 168 a [(1, .slice p_2 r_1.1.length c_2), (2, .int .i64 r_1.2), (3, .slice p_4 r_4.1.length c_4), (4, .int .i64 r_4.2), (5, .int .i64 r_6.1), (6, .int .i64 r_6.2), (9, .slice p_8 r_8.1.length c_8), (10, .int .i64 r_8.2), (46, .int .i64 r_1.2), (47, .bool (r_1.2 != 0)), (48, .bool (r_1.2 != 0)), (51, .bool ((r_1.2 != 0) || (r_4.2 != 0)))] ∧ Ctx G (.row p_6 c_6 (r_7.1.Table.map enc_share_Point) 116 2 :: .row p_7 c_7 (r_7.2.map enc_share_Year) 94 5 :: .row p_8 c_8 (r_8.1.map enc_api_Span) 26 2 :: .box b_1 [.slice p_6 r_7.1.Table.length c_6, .int .i64 r_7.1.Credit] 88 :: .row p_5 c_5 (r_5.Rights.map enc_share_Right) 51 3 :: .row p_3 c_3 (r_2.Rights.map enc_share_Right) 51 3 :: .row p_4 c_4 (r_4.1.map enc_api_Span) 26 2 :: .row p_1 c_1 (r.Rights.map enc_share_Right) 51 3 :: .row p_2 c_2 (r_1.1.map encI_i64) 3 1 :: Lf) w) ?_ ?_
  · cases hb : (r_1.2 != 0)
    · rw [hb] at hf
      refine stP hf rfl rfl rfl (pM rfl) fun a hf => ?_
      refine stP hf rfl rfl rfl (pNe rfl rfl) fun a hf => ?_
      refine stP hf rfl rfl rfl (pPf rfl rfl) fun a hf => ?_
      exact cNil ⟨hf.keep ⟨rfl, rfl, rfl, rfl, rfl, rfl, rfl, rfl, rfl, rfl, rfl, rfl, trivial⟩, hc⟩
    · rw [hb] at hf
      refine stS hf rfl rfl rfl fun a hf => ?_
      refine stS hf rfl rfl rfl fun a hf => ?_
      refine stP hf rfl rfl rfl (pPt rfl rfl) fun a hf => ?_
      exact cNil ⟨hf.keep ⟨rfl, rfl, rfl, rfl, rfl, rfl, rfl, rfl, rfl, rfl, rfl, rfl, trivial⟩, hc⟩
  intro a w ⟨hf, hc⟩
  refine stP hf rfl rfl rfl (pM rfl) fun a hf => ?_
  refine stCut 3 (fun a w => Has 168 a [(1, .slice p_2 r_1.1.length c_2), (2, .int .i64 r_1.2), (3, .slice p_4 r_4.1.length c_4), (4, .int .i64 r_4.2), (5, .int .i64 r_6.1), (6, .int .i64 r_6.2), (9, .slice p_8 r_8.1.length c_8), (10, .int .i64 r_8.2), (46, .int .i64 r_1.2), (47, .bool (r_1.2 != 0)), (48, .bool (r_1.2 != 0)), (51, .bool ((r_1.2 != 0) || (r_4.2 != 0))), (52, .bool ((r_1.2 != 0) || (r_4.2 != 0))), (55, .bool (((r_1.2 != 0) || (r_4.2 != 0)) || (r_6.2 != 0)))] ∧ Ctx G (.row p_6 c_6 (r_7.1.Table.map enc_share_Point) 116 2 :: .row p_7 c_7 (r_7.2.map enc_share_Year) 94 5 :: .row p_8 c_8 (r_8.1.map enc_api_Span) 26 2 :: .box b_1 [.slice p_6 r_7.1.Table.length c_6, .int .i64 r_7.1.Credit] 88 :: .row p_5 c_5 (r_5.Rights.map enc_share_Right) 51 3 :: .row p_3 c_3 (r_2.Rights.map enc_share_Right) 51 3 :: .row p_4 c_4 (r_4.1.map enc_api_Span) 26 2 :: .row p_1 c_1 (r.Rights.map enc_share_Right) 51 3 :: .row p_2 c_2 (r_1.1.map encI_i64) 3 1 :: Lf) w) ?_ ?_
  · cases hb : ((r_1.2 != 0) || (r_4.2 != 0))
    · rw [hb] at hf
      refine stP hf rfl rfl rfl (pM rfl) fun a hf => ?_
      refine stP hf rfl rfl rfl (pNe rfl rfl) fun a hf => ?_
      refine stP hf rfl rfl rfl (pPf rfl rfl) fun a hf => ?_
      exact cNil ⟨hf.keep ⟨rfl, rfl, rfl, rfl, rfl, rfl, rfl, rfl, rfl, rfl, rfl, rfl, rfl, rfl, trivial⟩, hc⟩
    · rw [hb] at hf
      refine stS hf rfl rfl rfl fun a hf => ?_
      refine stS hf rfl rfl rfl fun a hf => ?_
      refine stP hf rfl rfl rfl (pPt rfl rfl) fun a hf => ?_
      exact cNil ⟨hf.keep ⟨rfl, rfl, rfl, rfl, rfl, rfl, rfl, rfl, rfl, rfl, rfl, rfl, rfl, rfl, trivial⟩, hc⟩
  intro a w ⟨hf, hc⟩
  refine stP hf rfl rfl rfl (pM rfl) fun a hf => ?_
  refine stCut 3 (fun a w => Has 168 a [(1, .slice p_2 r_1.1.length c_2), (2, .int .i64 r_1.2), (3, .slice p_4 r_4.1.length c_4), (4, .int .i64 r_4.2), (5, .int .i64 r_6.1), (6, .int .i64 r_6.2), (9, .slice p_8 r_8.1.length c_8), (10, .int .i64 r_8.2), (46, .int .i64 r_1.2), (47, .bool (r_1.2 != 0)), (48, .bool (r_1.2 != 0)), (51, .bool ((r_1.2 != 0) || (r_4.2 != 0))), (52, .bool ((r_1.2 != 0) || (r_4.2 != 0))), (55, .bool (((r_1.2 != 0) || (r_4.2 != 0)) || (r_6.2 != 0))), (56, .bool (((r_1.2 != 0) || (r_4.2 != 0)) || (r_6.2 != 0))), (59, .bool ((((r_1.2 != 0) || (r_4.2 != 0)) || (r_6.2 != 0)) || (r_8.2 != 0)))] ∧ Ctx G (.row p_6 c_6 (r_7.1.Table.map enc_share_Point) 116 2 :: .row p_7 c_7 (r_7.2.map enc_share_Year) 94 5 :: .row p_8 c_8 (r_8.1.map enc_api_Span) 26 2 :: .box b_1 [.slice p_6 r_7.1.Table.length c_6, .int .i64 r_7.1.Credit] 88 :: .row p_5 c_5 (r_5.Rights.map enc_share_Right) 51 3 :: .row p_3 c_3 (r_2.Rights.map enc_share_Right) 51 3 :: .row p_4 c_4 (r_4.1.map enc_api_Span) 26 2 :: .row p_1 c_1 (r.Rights.map enc_share_Right) 51 3 :: .row p_2 c_2 (r_1.1.map encI_i64) 3 1 :: Lf) w) ?_ ?_
  · cases hb : (((r_1.2 != 0) || (r_4.2 != 0)) || (r_6.2 != 0))
    · rw [hb] at hf
      refine stP hf rfl rfl rfl (pM rfl) fun a hf => ?_
      refine stP hf rfl rfl rfl (pNe rfl rfl) fun a hf => ?_
      refine stP hf rfl rfl rfl (pPf rfl rfl) fun a hf => ?_
      exact cNil ⟨hf.keep ⟨rfl, rfl, rfl, rfl, rfl, rfl, rfl, rfl, rfl, rfl, rfl, rfl, rfl, rfl, rfl, rfl, trivial⟩, hc⟩
    · rw [hb] at hf
      refine stS hf rfl rfl rfl fun a hf => ?_
      refine stS hf rfl rfl rfl fun a hf => ?_
      refine stP hf rfl rfl rfl (pPt rfl rfl) fun a hf => ?_
      exact cNil ⟨hf.keep ⟨rfl, rfl, rfl, rfl, rfl, rfl, rfl, rfl, rfl, rfl, rfl, rfl, rfl, rfl, rfl, rfl, trivial⟩, hc⟩
  intro a w ⟨hf, hc⟩
  refine stP hf rfl rfl rfl (pM rfl) fun a hf => ?_
  obtain ⟨t_1, ht_1, hF⟩ := bnd_some hF
  refine stCut 5 (fun a w => Has 168 a [(1, .slice p_2 r_1.1.length c_2), (2, .int .i64 r_1.2), (3, .slice p_4 r_4.1.length c_4), (4, .int .i64 r_4.2), (5, .int .i64 r_6.1), (6, .int .i64 r_6.2), (9, .slice p_8 r_8.1.length c_8), (10, .int .i64 r_8.2), (46, .int .i64 r_1.2), (47, .bool (r_1.2 != 0)), (48, .bool (r_1.2 != 0)), (51, .bool ((r_1.2 != 0) || (r_4.2 != 0))), (52, .bool ((r_1.2 != 0) || (r_4.2 != 0))), (55, .bool (((r_1.2 != 0) || (r_4.2 != 0)) || (r_6.2 != 0))), (56, .bool (((r_1.2 != 0) || (r_4.2 != 0)) || (r_6.2 != 0))), (59, .bool ((((r_1.2 != 0) || (r_4.2 != 0)) || (r_6.2 != 0)) || (r_8.2 != 0))), (60, .bool ((((r_1.2 != 0) || (r_4.2 != 0)) || (r_6.2 != 0)) || (r_8.2 != 0))), (65, .bool t_1)] ∧ Ctx G (.row p_6 c_6 (r_7.1.Table.map enc_share_Point) 116 2 :: .row p_7 c_7 (r_7.2.map enc_share_Year) 94 5 :: .row p_8 c_8 (r_8.1.map enc_api_Span) 26 2 :: .box b_1 [.slice p_6 r_7.1.Table.length c_6, .int .i64 r_7.1.Credit] 88 :: .row p_5 c_5 (r_5.Rights.map enc_share_Right) 51 3 :: .row p_3 c_3 (r_2.Rights.map enc_share_Right) 51 3 :: .row p_4 c_4 (r_4.1.map enc_api_Span) 26 2 :: .row p_1 c_1 (r.Rights.map enc_share_Right) 51 3 :: .row p_2 c_2 (r_1.1.map encI_i64) 3 1 :: Lf) w) ?_ ?_
  · cases hb : ((((r_1.2 != 0) || (r_4.2 != 0)) || (r_6.2 != 0)) || (r_8.2 != 0))
    · rw [hb] at hf
      have hF := condF hb ht_1
      refine stP hf rfl rfl rfl (pM rfl) fun a hf => ?_
      refine stBS (rows := ([95, 18] : List Int).map encI_i64) (vs := [(0, .int .i64 95), (1, .int .i64 18)]) hf hc rfl rfl sl_36 rfl ⟨rfl, rfl, rfl, rfl, rfl, rfl, trivial⟩ rfl rfl fun b_2 a w hf hc => ?_
      obtain ⟨r_9, hr_9, hF⟩ := bnd_some hF
      refine stE hf hc rfl rfl rfl (eC (v := .bool r_9) (vs := [.slice p_2 r_1.1.length c_2, .slice (some ⟨b_2, 0, none⟩) 2 2]) (caps := []) en_20 rfl rfl rfl rfl (fun w hc => by obtain ⟨G1, hle1, hrd1, hc, hth1⟩ := lend hc k9; obtain ⟨G2, hle2, hrd2, hc, hth2⟩ := lend hc k0; exact (kit_Same_int_ok r_1.1 ([95, 18] : List Int) (hrd1.mono hle2) hrd2 hc hr_9).mono fun e w h => ⟨h.1, ((hth1 _ _ ((hth2 _ _ h.2).unpick k0)).unpick k9)⟩)) fun a w hf hc => ?_
      refine stP hf rfl rfl rfl (pNot rfl) fun a hf => ?_
      refine stP hf rfl rfl rfl (pPf rfl rfl) fun a hf => ?_
      replace hc := hc.drop k0
      obtain rfl := Option.some.inj hF
      exact cNil ⟨hf.keep ⟨rfl, rfl, rfl, rfl, rfl, rfl, rfl, rfl, rfl, rfl, rfl, rfl, rfl, rfl, rfl, rfl, rfl, rfl, trivial⟩, hc⟩
    · rw [hb] at hf
      have hF := condT hb ht_1
      obtain rfl := Option.some.inj hF
      refine stS hf rfl rfl rfl fun a hf => ?_
      refine stS hf rfl rfl rfl fun a hf => ?_
      refine stS hf rfl rfl rfl fun a hf => ?_
      refine stS hf rfl rfl rfl fun a hf => ?_
      refine stP hf rfl rfl rfl (pPt rfl rfl) fun a hf => ?_
      exact cNil ⟨hf.keep ⟨rfl, rfl, rfl, rfl, rfl, rfl, rfl, rfl, rfl, rfl, rfl, rfl, rfl, rfl, rfl, rfl, rfl, rfl, trivial⟩, hc⟩
  intro a w ⟨hf, hc⟩
  refine stP hf rfl rfl rfl (pM rfl) fun a hf => ?_
  obtain ⟨t_2, ht_2, hF⟩ := bnd_some hF
  refine stCut 7 (fun a w => Has 168 a [(1, .slice p_2 r_1.1.length c_2), (2, .int .i64 r_1.2), (3, .slice p_4 r_4.1.length c_4), (4, .int .i64 r_4.2), (5, .int .i64 r_6.1), (6, .int .i64 r_6.2), (9, .slice p_8 r_8.1.length c_8), (10, .int .i64 r_8.2), (46, .int .i64 r_1.2), (47, .bool (r_1.2 != 0)), (48, .bool (r_1.2 != 0)), (51, .bool ((r_1.2 != 0) || (r_4.2 != 0))), (52, .bool ((r_1.2 != 0) || (r_4.2 != 0))), (55, .bool (((r_1.2 != 0) || (r_4.2 != 0)) || (r_6.2 != 0))), (56, .bool (((r_1.2 != 0) || (r_4.2 != 0)) || (r_6.2 != 0))), (59, .bool ((((r_1.2 != 0) || (r_4.2 != 0)) || (r_6.2 != 0)) || (r_8.2 != 0))), (60, .bool ((((r_1.2 != 0) || (r_4.2 != 0)) || (r_6.2 != 0)) || (r_8.2 != 0))), (65, .bool t_1), (66, .bool t_1), (73, .bool t_2)] ∧ Ctx G (.row p_6 c_6 (r_7.1.Table.map enc_share_Point) 116 2 :: .row p_7 c_7 (r_7.2.map enc_share_Year) 94 5 :: .row p_8 c_8 (r_8.1.map enc_api_Span) 26 2 :: .box b_1 [.slice p_6 r_7.1.Table.length c_6, .int .i64 r_7.1.Credit] 88 :: .row p_5 c_5 (r_5.Rights.map enc_share_Right) 51 3 :: .row p_3 c_3 (r_2.Rights.map enc_share_Right) 51 3 :: .row p_4 c_4 (r_4.1.map enc_api_Span) 26 2 :: .row p_1 c_1 (r.Rights.map enc_share_Right) 51 3 :: .row p_2 c_2 (r_1.1.map encI_i64) 3 1 :: Lf) w) ?_ ?_
  · cases hb : t_1
    · rw [hb] at hf
      have hF := condF hb ht_2
      refine stP hf rfl rfl rfl (pM rfl) fun a hf => ?_
      refine stP hf rfl rfl rfl (pBuildS (cells := [.int .i64 85, .int .i64 120]) bt_26 rfl rfl) fun a hf => ?_
      refine stP hf rfl rfl rfl (pBuildS (cells := [.int .i64 0, .int .i64 54]) bt_26 rfl rfl) fun a hf => ?_
      refine stBS (rows := ([(⟨85, 120⟩ : api_Span), (⟨0, 54⟩ : api_Span)] : List api_Span).map enc_api_Span) (vs := [(0, .agg #[.int .i64 85, .int .i64 120]), (1, .agg #[.int .i64 0, .int .i64 54])]) hf hc rfl rfl sl_41 rfl ⟨rfl, rfl, rfl, rfl, rfl, rfl, trivial⟩ rfl rfl fun b_3 a w hf hc => ?_
      obtain ⟨r_10, hr_10, hF⟩ := bnd_some hF
      refine stE hf hc rfl rfl rfl (eC (v := .bool r_10) (vs := [.slice p_4 r_4.1.length c_4, .slice (some ⟨b_3, 0, none⟩) 2 2]) (caps := []) en_23 rfl rfl rfl rfl (fun w hc => by obtain ⟨G1, hle1, hrd1, hc, hth1⟩ := lend hc k7; obtain ⟨G2, hle2, hrd2, hc, hth2⟩ := lend hc k0; exact (kit_Same_api_Span_ok r_4.1 ([(⟨85, 120⟩ : api_Span), (⟨0, 54⟩ : api_Span)] : List api_Span) (hrd1.mono hle2) hrd2 hc hr_10).mono fun e w h => ⟨h.1, ((hth1 _ _ ((hth2 _ _ h.2).unpick k0)).unpick k7)⟩)) fun a w hf hc => ?_
      refine stP hf rfl rfl rfl (pNot rfl) fun a hf => ?_
      refine stP hf rfl rfl rfl (pPf rfl rfl) fun a hf => ?_
      replace hc := hc.drop k0
      obtain rfl := Option.some.inj hF
      exact cNil ⟨hf.keep ⟨rfl, rfl, rfl, rfl, rfl, rfl, rfl, rfl, rfl, rfl, rfl, rfl, rfl, rfl, rfl, rfl, rfl, rfl, rfl, rfl, trivial⟩, hc⟩
    · rw [hb] at hf
      have hF := condT hb ht_2
      obtain rfl := Option.some.inj hF
      refine stS hf rfl rfl rfl fun a hf => ?_
      refine stS hf rfl rfl rfl fun a hf => ?_
      refine stS hf rfl rfl rfl fun a hf => ?_
      refine stS hf rfl rfl rfl fun a hf => ?_
      refine stS hf rfl rfl rfl fun a hf => ?_
      refine stS hf rfl rfl rfl fun a hf => ?_
      refine stP hf rfl rfl rfl (pPt rfl rfl) fun a hf => ?_
      exact cNil ⟨hf.keep ⟨rfl, rfl, rfl, rfl, rfl, rfl, rfl, rfl, rfl, rfl, rfl, rfl, rfl, rfl, rfl, rfl, rfl, rfl, rfl, rfl, trivial⟩, hc⟩
  intro a w ⟨hf, hc⟩
  refine stP hf rfl rfl rfl (pM rfl) fun a hf => ?_
  refine stCut 3 (fun a w => Has 168 a [(1, .slice p_2 r_1.1.length c_2), (2, .int .i64 r_1.2), (3, .slice p_4 r_4.1.length c_4), (4, .int .i64 r_4.2), (5, .int .i64 r_6.1), (6, .int .i64 r_6.2), (9, .slice p_8 r_8.1.length c_8), (10, .int .i64 r_8.2), (46, .int .i64 r_1.2), (47, .bool (r_1.2 != 0)), (48, .bool (r_1.2 != 0)), (51, .bool ((r_1.2 != 0) || (r_4.2 != 0))), (52, .bool ((r_1.2 != 0) || (r_4.2 != 0))), (55, .bool (((r_1.2 != 0) || (r_4.2 != 0)) || (r_6.2 != 0))), (56, .bool (((r_1.2 != 0) || (r_4.2 != 0)) || (r_6.2 != 0))), (59, .bool ((((r_1.2 != 0) || (r_4.2 != 0)) || (r_6.2 != 0)) || (r_8.2 != 0))), (60, .bool ((((r_1.2 != 0) || (r_4.2 != 0)) || (r_6.2 != 0)) || (r_8.2 != 0))), (65, .bool t_1), (66, .bool t_1), (73, .bool t_2), (74, .bool t_2), (77, .bool (t_2 || (r_6.1 != 1)))] ∧ Ctx G (.row p_6 c_6 (r_7.1.Table.map enc_share_Point) 116 2 :: .row p_7 c_7 (r_7.2.map enc_share_Year) 94 5 :: .row p_8 c_8 (r_8.1.map enc_api_Span) 26 2 :: .box b_1 [.slice p_6 r_7.1.Table.length c_6, .int .i64 r_7.1.Credit] 88 :: .row p_5 c_5 (r_5.Rights.map enc_share_Right) 51 3 :: .row p_3 c_3 (r_2.Rights.map enc_share_Right) 51 3 :: .row p_4 c_4 (r_4.1.map enc_api_Span) 26 2 :: .row p_1 c_1 (r.Rights.map enc_share_Right) 51 3 :: .row p_2 c_2 (r_1.1.map encI_i64) 3 1 :: Lf) w) ?_ ?_
  · cases hb : t_2
    · rw [hb] at hf
      refine stP hf rfl rfl rfl (pM rfl) fun a hf => ?_
      refine stP hf rfl rfl rfl (pNe rfl rfl) fun a hf => ?_
      refine stP hf rfl rfl rfl (pPf rfl rfl) fun a hf => ?_
      exact cNil ⟨hf.keep ⟨rfl, rfl, rfl, rfl, rfl, rfl, rfl, rfl, rfl, rfl, rfl, rfl, rfl, rfl, rfl, rfl, rfl, rfl, rfl, rfl, rfl, rfl, trivial⟩, hc⟩
    · rw [hb] at hf
      refine stS hf rfl rfl rfl fun a hf => ?_
      refine stS hf rfl rfl rfl fun a hf => ?_
      refine stP hf rfl rfl rfl (pPt rfl rfl) fun a hf => ?_
      exact cNil ⟨hf.keep ⟨rfl, rfl, rfl, rfl, rfl, rfl, rfl, rfl, rfl, rfl, rfl, rfl, rfl, rfl, rfl, rfl, rfl, rfl, rfl, rfl, rfl, rfl, trivial⟩, hc⟩
  intro a w ⟨hf, hc⟩
  refine stP hf rfl rfl rfl (pM rfl) fun a hf => ?_
  obtain ⟨t_3, ht_3, hF⟩ := bnd_some hF
  refine stCut 8 (fun a w => Has 168 a [(1, .slice p_2 r_1.1.length c_2), (2, .int .i64 r_1.2), (3, .slice p_4 r_4.1.length c_4), (4, .int .i64 r_4.2), (5, .int .i64 r_6.1), (6, .int .i64 r_6.2), (9, .slice p_8 r_8.1.length c_8), (10, .int .i64 r_8.2), (46, .int .i64 r_1.2), (47, .bool (r_1.2 != 0)), (48, .bool (r_1.2 != 0)), (51, .bool ((r_1.2 != 0) || (r_4.2 != 0))), (52, .bool ((r_1.2 != 0) || (r_4.2 != 0))), (55, .bool (((r_1.2 != 0) || (r_4.2 != 0)) || (r_6.2 != 0))), (56, .bool (((r_1.2 != 0) || (r_4.2 != 0)) || (r_6.2 != 0))), (59, .bool ((((r_1.2 != 0) || (r_4.2 != 0)) || (r_6.2 != 0)) || (r_8.2 != 0))), (60, .bool ((((r_1.2 != 0) || (r_4.2 != 0)) || (r_6.2 != 0)) || (r_8.2 != 0))), (65, .bool t_1), (66, .bool t_1), (73, .bool t_2), (74, .bool t_2), (77, .bool (t_2 || (r_6.1 != 1))), (78, .bool (t_2 || (r_6.1 != 1))), (86, .bool t_3)] ∧ Ctx G (.row p_6 c_6 (r_7.1.Table.map enc_share_Point) 116 2 :: .row p_7 c_7 (r_7.2.map enc_share_Year) 94 5 :: .row p_8 c_8 (r_8.1.map enc_api_Span) 26 2 :: .box b_1 [.slice p_6 r_7.1.Table.length c_6, .int .i64 r_7.1.Credit] 88 :: .row p_5 c_5 (r_5.Rights.map enc_share_Right) 51 3 :: .row p_3 c_3 (r_2.Rights.map enc_share_Right) 51 3 :: .row p_4 c_4 (r_4.1.map enc_api_Span) 26 2 :: .row p_1 c_1 (r.Rights.map enc_share_Right) 51 3 :: .row p_2 c_2 (r_1.1.map encI_i64) 3 1 :: Lf) w) ?_ ?_
  · cases hb : (t_2 || (r_6.1 != 1))
    · rw [hb] at hf
      have hF := condF hb ht_3
      refine stP hf rfl rfl rfl (pM rfl) fun a hf => ?_
      refine stP hf rfl rfl rfl (pBuildS (cells := [.int .i64 (-2), .int .i64 8]) bt_26 rfl rfl) fun a hf => ?_
      refine stP hf rfl rfl rfl (pBuildS (cells := [.int .i64 (-15), .int .i64 (-12)]) bt_26 rfl rfl) fun a hf => ?_
      refine stP hf rfl rfl rfl (pBuildS (cells := [.int .i64 0, .int .i64 0]) bt_26 rfl rfl) fun a hf => ?_
      refine stBS (rows := ([(⟨(-2), 8⟩ : api_Span), (⟨(-15), (-12)⟩ : api_Span), (⟨0, 0⟩ : api_Span)] : List api_Span).map enc_api_Span) (vs := [(0, .agg #[.int .i64 (-2), .int .i64 8]), (1, .agg #[.int .i64 (-15), .int .i64 (-12)]), (2, .agg #[.int .i64 0, .int .i64 0])]) hf hc rfl rfl sl_41 rfl ⟨rfl, rfl, rfl, rfl, rfl, rfl, rfl, rfl, rfl, trivial⟩ rfl rfl fun b_4 a w hf hc => ?_
      obtain ⟨r_11, hr_11, hF⟩ := bnd_some hF
      refine stE hf hc rfl rfl rfl (eC (v := .bool r_11) (vs := [.slice p_8 r_8.1.length c_8, .slice (some ⟨b_4, 0, none⟩) 3 3]) (caps := []) en_23 rfl rfl rfl rfl (fun w hc => by obtain ⟨G1, hle1, hrd1, hc, hth1⟩ := lend hc k3; obtain ⟨G2, hle2, hrd2, hc, hth2⟩ := lend hc k0; exact (kit_Same_api_Span_ok r_8.1 ([(⟨(-2), 8⟩ : api_Span), (⟨(-15), (-12)⟩ : api_Span), (⟨0, 0⟩ : api_Span)] : List api_Span) (hrd1.mono hle2) hrd2 hc hr_11).mono fun e w h => ⟨h.1, ((hth1 _ _ ((hth2 _ _ h.2).unpick k0)).unpick k3)⟩)) fun a w hf hc => ?_
      refine stP hf rfl rfl rfl (pNot rfl) fun a hf => ?_
      refine stP hf rfl rfl rfl (pPf rfl rfl) fun a hf => ?_
      replace hc := hc.drop k0
      obtain rfl := Option.some.inj hF
      exact cNil ⟨hf.keep ⟨rfl, rfl, rfl, rfl, rfl, rfl, rfl, rfl, rfl, rfl, rfl, rfl, rfl, rfl, rfl, rfl, rfl, rfl, rfl, rfl, rfl, rfl, rfl, rfl, trivial⟩, hc⟩
    · rw [hb] at hf
      have hF := condT hb ht_3
      obtain rfl := Option.some.inj hF
      refine stS hf rfl rfl rfl fun a hf => ?_
      refine stS hf rfl rfl rfl fun a hf => ?_
      refine stS hf rfl rfl rfl fun a hf => ?_
      refine stS hf rfl rfl rfl fun a hf => ?_
      refine stS hf rfl rfl rfl fun a hf => ?_
      refine stS hf rfl rfl rfl fun a hf => ?_
      refine stS hf rfl rfl rfl fun a hf => ?_
      refine stP hf rfl rfl rfl (pPt rfl rfl) fun a hf => ?_
      exact cNil ⟨hf.keep ⟨rfl, rfl, rfl, rfl, rfl, rfl, rfl, rfl, rfl, rfl, rfl, rfl, rfl, rfl, rfl, rfl, rfl, rfl, rfl, rfl, rfl, rfl, rfl, rfl, trivial⟩, hc⟩
  intro a w ⟨hf, hc⟩
  refine cNil ?_
  refine h8 _ _ ?_
  refine cCond (b := t_3) hf rfl (fun hb => ?_) (fun hb => ?_)
  · replace hF := condT hb hF
    clear hb
    refine wp_seq_k fun K9 h9 => ?_
    refine cReg ?_
    refine stP hf rfl rfl rfl (pA rfl) fun a hf => ?_
    refine cNil ?_
    refine h9 _ _ ?_
    refine wp_ret ?_
    refine xThenR ?_
    obtain rfl := Option.some.inj hF
    replace hc := hc.drop k8
    replace hc := hc.drop k7
    replace hc := hc.drop k6
    replace hc := hc.drop k5
    replace hc := hc.drop k4
    replace hc := hc.drop k3
    replace hc := hc.drop k2
    replace hc := hc.drop k1
    replace hc := hc.drop k0
    exact fnOut1 (by simp) rfl Try.results13 hf hc (show look _ 0 = _ from rfl) ⟨rfl, hc⟩
  · replace hF := condF hb hF
    clear hb
    refine wp_skip ?_
    refine h7 _ _ ?_
    refine wp_seq_k fun K10 h10 => ?_
    refine cReg ?_
    refine stBS (rows := ([20, 30, 30, 40, 40, 40] : List Int).map encI_i64) (vs := [(0, .int .i64 20), (1, .int .i64 30), (2, .int .i64 30), (3, .int .i64 40), (4, .int .i64 40), (5, .int .i64 40)]) hf hc rfl rfl sl_36 rfl ⟨rfl, rfl, rfl, rfl, rfl, rfl, rfl, rfl, rfl, rfl, rfl, rfl, rfl, rfl, rfl, rfl, rfl, rfl, trivial⟩ rfl rfl fun b_5 a w hf hc => ?_
    refine stP hf rfl rfl rfl (pBuildS (cells := [.int .i64 15, .int .i64 4, .slice (some ⟨b_5, 0, none⟩) 6 6]) bt_59 rfl rfl) fun a hf => ?_
    obtain ⟨r_12, hr_12, hF⟩ := bnd_some hF
    obtain ⟨G1, hle1, hrd1, hc, hth1⟩ := lend hc k0
    refine stC (vs := [.int .i64 100, .agg #[.int .i64 15, .int .i64 4, .slice (some ⟨b_5, 0, none⟩) 6 6]]) (caps := []) hf rfl rfl rfl en_30 rfl rfl rfl rfl (share_Payback_ok 100 (⟨15, 4, ([20, 30, 30, 40, 40, 40] : List Int)⟩ : share_Pact) hrd1 hc hr_12) ?_
    rintro _ w ⟨p_9, c_9, rfl, hc⟩
    refine ⟨_, rfl, fun a hf => ?_⟩
    replace hc := hth1 _ _ hc
    refine stP hf rfl rfl rfl (pM rfl) fun a hf => ?_
    refine stP hf rfl rfl rfl (pX rfl rfl) fun a hf => ?_
    refine stP hf rfl rfl rfl (pX rfl rfl) fun a hf => ?_
    refine stP hf rfl rfl rfl (pA rfl) fun a hf => ?_
    refine stP hf rfl rfl rfl (pA rfl) fun a hf => ?_
    refine cNil ?_
    refine h10 _ _ ?_
    refine wp_seq_k fun K11 h11 => ?_
    refine cReg ?_
    refine stBS (rows := ([60, 30, 10] : List Int).map encI_i64) (vs := [(0, .int .i64 60), (1, .int .i64 30), (2, .int .i64 10)]) hf hc rfl rfl sl_36 rfl ⟨rfl, rfl, rfl, rfl, rfl, rfl, rfl, rfl, rfl, trivial⟩ rfl rfl fun b_6 a w hf hc => ?_
    obtain ⟨r_13, hr_13, hF⟩ := bnd_some hF
    obtain ⟨G1, hle1, hrd1, hc, hth1⟩ := lend hc k0
    refine stC (vs := [.slice (some ⟨b_6, 0, none⟩) 3 3, .int .i64 9, .int .i64 0]) (caps := []) hf rfl rfl rfl en_34 rfl rfl rfl rfl (share_Turns_ok ([60, 30, 10] : List Int) 9 0 hrd1 hc hr_13) ?_
    rintro _ w ⟨p_10, c_10, rfl, hc⟩
    refine ⟨_, rfl, fun a hf => ?_⟩
    replace hc := hth1 _ _ hc
    refine stP hf rfl rfl rfl (pM rfl) fun a hf => ?_
    refine stP hf rfl rfl rfl (pX rfl rfl) fun a hf => ?_
    refine stP hf rfl rfl rfl (pX rfl rfl) fun a hf => ?_
    refine stP hf rfl rfl rfl (pA rfl) fun a hf => ?_
    refine stP hf rfl rfl rfl (pA rfl) fun a hf => ?_
    refine cNil ?_
    refine h11 _ _ ?_
    refine wp_seq_k fun K12 h12 => ?_
    refine cReg ?_
    refine stBS (rows := ([60, 30, 10] : List Int).map encI_i64) (vs := [(0, .int .i64 60), (1, .int .i64 30), (2, .int .i64 10)]) hf hc rfl rfl sl_36 rfl ⟨rfl, rfl, rfl, rfl, rfl, rfl, rfl, rfl, rfl, trivial⟩ rfl rfl fun b_7 a w hf hc => ?_
    obtain ⟨r_14, hr_14, hF⟩ := bnd_some hF
    obtain ⟨G1, hle1, hrd1, hc, hth1⟩ := lend hc k0
    refine stC (vs := [.slice (some ⟨b_7, 0, none⟩) 3 3, .int .i64 9, .int .i64 1]) (caps := []) hf rfl rfl rfl en_34 rfl rfl rfl rfl (share_Turns_ok ([60, 30, 10] : List Int) 9 1 hrd1 hc hr_14) ?_
    rintro _ w ⟨p_11, c_11, rfl, hc⟩
    refine ⟨_, rfl, fun a hf => ?_⟩
    replace hc := hth1 _ _ hc
    refine stP hf rfl rfl rfl (pM rfl) fun a hf => ?_
    refine stP hf rfl rfl rfl (pX rfl rfl) fun a hf => ?_
    refine stP hf rfl rfl rfl (pX rfl rfl) fun a hf => ?_
    refine stP hf rfl rfl rfl (pA rfl) fun a hf => ?_
    refine stP hf rfl rfl rfl (pA rfl) fun a hf => ?_
    refine cNil ?_
    refine h12 _ _ ?_
    refine wp_seq_k fun K13 h13 => ?_
    refine cReg ?_
    refine stBS (rows := ([60, 30, 10] : List Int).map encI_i64) (vs := [(0, .int .i64 60), (1, .int .i64 30), (2, .int .i64 10)]) hf hc rfl rfl sl_36 rfl ⟨rfl, rfl, rfl, rfl, rfl, rfl, rfl, rfl, rfl, trivial⟩ rfl rfl fun b_8 a w hf hc => ?_
    refine stBS (rows := ([6, 3, 0] : List Int).map encI_i64) (vs := [(0, .int .i64 6), (1, .int .i64 3), (2, .int .i64 0)]) hf hc rfl rfl sl_36 rfl ⟨rfl, rfl, rfl, rfl, rfl, rfl, rfl, rfl, rfl, trivial⟩ rfl rfl fun b_9 a w hf hc => ?_
    obtain ⟨r_15, hr_15, hF⟩ := bnd_some hF
    refine stE hf hc rfl rfl rfl (eC (v := .tuple #[.agg #[.int .i64 r_15.1.N, .int .i64 r_15.1.D], .agg #[.int .i64 r_15.2.1.N, .int .i64 r_15.2.1.D], .int .i64 r_15.2.2]) (vs := [.slice (some ⟨b_8, 0, none⟩) 3 3, .slice (some ⟨b_9, 0, none⟩) 3 3, .int .i64 0]) (caps := []) en_39 rfl rfl rfl rfl (fun w hc => by obtain ⟨G1, hle1, hrd1, hc, hth1⟩ := lend hc k1; obtain ⟨G2, hle2, hrd2, hc, hth2⟩ := lend hc k0; exact (share_Divisors_ok ([60, 30, 10] : List Int) ([6, 3, 0] : List Int) 0 (hrd1.mono hle2) hrd2 hc hr_15).mono fun e w h => ⟨h.1, ((hth1 _ _ ((hth2 _ _ h.2).unpick k0)).unpick k1)⟩)) fun a w hf hc => ?_
    refine stP hf rfl rfl rfl (pM rfl) fun a hf => ?_
    refine stP hf rfl rfl rfl (pX rfl rfl) fun a hf => ?_
    refine stP hf rfl rfl rfl (pX rfl rfl) fun a hf => ?_
    refine stP hf rfl rfl rfl (pX rfl rfl) fun a hf => ?_
    refine stAl (cs := [.int .i64 0, .int .i64 0]) hf hc rfl rfl zr_71 rfl fun b_10 a w hf hc => ?_
    refine stAl (cs := [.int .i64 0, .int .i64 0]) hf hc rfl rfl zr_71 rfl fun b_11 a w hf hc => ?_
    refine stSt (vs := [.int .i64 r_15.1.N, .int .i64 r_15.1.D]) hf hc rfl rfl rfl rfl sz_71 rfl rfl u1 fun w hc => ?_
    refine stSt (vs := [.int .i64 r_15.2.1.N, .int .i64 r_15.2.1.D]) hf hc rfl rfl rfl rfl sz_71 rfl rfl u0 fun w hc => ?_
    refine stP hf rfl rfl rfl (pA rfl) fun a hf => ?_
    refine cNil ?_
    refine h13 _ _ ?_
    refine wp_seq_k fun K14 h14 => ?_
    refine cReg ?_
    refine stBS (rows := ([60, 30, 10] : List Int).map encI_i64) (vs := [(0, .int .i64 60), (1, .int .i64 30), (2, .int .i64 10)]) hf hc rfl rfl sl_36 rfl ⟨rfl, rfl, rfl, rfl, rfl, rfl, rfl, rfl, rfl, trivial⟩ rfl rfl fun b_12 a w hf hc => ?_
    refine stBS (rows := ([7, 2, 0] : List Int).map encI_i64) (vs := [(0, .int .i64 7), (1, .int .i64 2), (2, .int .i64 0)]) hf hc rfl rfl sl_36 rfl ⟨rfl, rfl, rfl, rfl, rfl, rfl, rfl, rfl, rfl, trivial⟩ rfl rfl fun b_13 a w hf hc => ?_
    obtain ⟨r_16, hr_16, hF⟩ := bnd_some hF
    refine stE hf hc rfl rfl rfl (eC (v := .tuple #[.int .i64 r_16.1, .int .i64 r_16.2.1, .int .i64 r_16.2.2]) (vs := [.slice (some ⟨b_12, 0, none⟩) 3 3, .slice (some ⟨b_13, 0, none⟩) 3 3, .int .i64 0]) (caps := []) en_37 rfl rfl rfl rfl (fun w hc => by obtain ⟨G1, hle1, hrd1, hc, hth1⟩ := lend hc k1; obtain ⟨G2, hle2, hrd2, hc, hth2⟩ := lend hc k0; exact (share_Unfair_ok ([60, 30, 10] : List Int) ([7, 2, 0] : List Int) 0 (hrd1.mono hle2) hrd2 hc hr_16).mono fun e w h => ⟨h.1, ((hth1 _ _ ((hth2 _ _ h.2).unpick k0)).unpick k1)⟩)) fun a w hf hc => ?_
    refine stP hf rfl rfl rfl (pM rfl) fun a hf => ?_
    refine stP hf rfl rfl rfl (pX rfl rfl) fun a hf => ?_
    refine stP hf rfl rfl rfl (pX rfl rfl) fun a hf => ?_
    refine stP hf rfl rfl rfl (pX rfl rfl) fun a hf => ?_
    refine stP hf rfl rfl rfl (pA rfl) fun a hf => ?_
    refine stP hf rfl rfl rfl (pA rfl) fun a hf => ?_
    refine stP hf rfl rfl rfl (pA rfl) fun a hf => ?_
    refine cNil ?_
    refine h14 _ _ ?_
    refine wp_seq_k fun K15 h15 => ?_
    refine cReg ?_
    refine stP hf rfl rfl rfl (pM rfl) fun a hf => ?_
    refine stP hf rfl rfl rfl (pEq rfl rfl) fun a hf => ?_
    refine stP hf rfl rfl rfl (pM rfl) fun a hf => ?_
    refine stCut 3 (fun a w => Has 168 a [(2, .int .i64 r_12.2), (4, .int .i64 r_13.2), (6, .int .i64 r_14.2), (10, .int .i64 r_15.2.2), (11, .slice p_9 r_12.1.length c_9), (12, .slice p_10 r_13.1.length c_10), (13, .slice p_11 r_14.1.length c_11), (14, .pointer (some ⟨b_10, 0, none⟩)), (15, .pointer (some ⟨b_11, 0, none⟩)), (16, .int .i64 r_16.1), (17, .int .i64 r_16.2.1), (18, .int .i64 r_16.2.2), (117, .int .i64 r_12.2), (118, .bool (r_12.2 == 0)), (119, .bool (r_12.2 == 0)), (122, .bool ((r_12.2 == 0) && (r_13.2 == 0)))] ∧ Ctx G (.row (some ⟨b_13, 0, none⟩) 3 (([7, 2, 0] : List Int).map encI_i64) 3 1 :: .row (some ⟨b_12, 0, none⟩) 3 (([60, 30, 10] : List Int).map encI_i64) 3 1 :: .box b_11 [.int .i64 r_15.2.1.N, .int .i64 r_15.2.1.D] 71 :: .box b_10 [.int .i64 r_15.1.N, .int .i64 r_15.1.D] 71 :: .row (some ⟨b_9, 0, none⟩) 3 (([6, 3, 0] : List Int).map encI_i64) 3 1 :: .row (some ⟨b_8, 0, none⟩) 3 (([60, 30, 10] : List Int).map encI_i64) 3 1 :: .row (some ⟨b_7, 0, none⟩) 3 (([60, 30, 10] : List Int).map encI_i64) 3 1 :: .row p_11 c_11 (r_14.1.map encI_i64) 3 1 :: .row (some ⟨b_6, 0, none⟩) 3 (([60, 30, 10] : List Int).map encI_i64) 3 1 :: .row p_10 c_10 (r_13.1.map encI_i64) 3 1 :: .row (some ⟨b_5, 0, none⟩) 6 (([20, 30, 30, 40, 40, 40] : List Int).map encI_i64) 3 1 :: .row p_9 c_9 (r_12.1.map encI_i64) 3 1 :: .row p_6 c_6 (r_7.1.Table.map enc_share_Point) 116 2 :: .row p_7 c_7 (r_7.2.map enc_share_Year) 94 5 :: .row p_8 c_8 (r_8.1.map enc_api_Span) 26 2 :: .box b_1 [.slice p_6 r_7.1.Table.length c_6, .int .i64 r_7.1.Credit] 88 :: .row p_5 c_5 (r_5.Rights.map enc_share_Right) 51 3 :: .row p_3 c_3 (r_2.Rights.map enc_share_Right) 51 3 :: .row p_4 c_4 (r_4.1.map enc_api_Span) 26 2 :: .row p_1 c_1 (r.Rights.map enc_share_Right) 51 3 :: .row p_2 c_2 (r_1.1.map encI_i64) 3 1 :: Lf) w) ?_ ?_
    · cases hb : (r_12.2 == 0)
      · rw [hb] at hf
        refine stS hf rfl rfl rfl fun a hf => ?_
        refine stS hf rfl rfl rfl fun a hf => ?_
        refine stP hf rfl rfl rfl (pPf rfl rfl) fun a hf => ?_
        exact cNil ⟨hf.keep ⟨rfl, rfl, rfl, rfl, rfl, rfl, rfl, rfl, rfl, rfl, rfl, rfl, rfl, rfl, rfl, rfl, trivial⟩, hc⟩
      · rw [hb] at hf
        refine stP hf rfl rfl rfl (pM rfl) fun a hf => ?_
        refine stP hf rfl rfl rfl (pEq rfl rfl) fun a hf => ?_
        refine stP hf rfl rfl rfl (pPt rfl rfl) fun a hf => ?_
        exact cNil ⟨hf.keep ⟨rfl, rfl, rfl, rfl, rfl, rfl, rfl, rfl, rfl, rfl, rfl, rfl, rfl, rfl, rfl, rfl, trivial⟩, hc⟩
    intro a w ⟨hf, hc⟩
    refine stP hf rfl rfl rfl (pM rfl) fun a hf => ?_
    refine stCut 3 (fun a w => Has 168 a [(2, .int .i64 r_12.2), (4, .int .i64 r_13.2), (6, .int .i64 r_14.2), (10, .int .i64 r_15.2.2), (11, .slice p_9 r_12.1.length c_9), (12, .slice p_10 r_13.1.length c_10), (13, .slice p_11 r_14.1.length c_11), (14, .pointer (some ⟨b_10, 0, none⟩)), (15, .pointer (some ⟨b_11, 0, none⟩)), (16, .int .i64 r_16.1), (17, .int .i64 r_16.2.1), (18, .int .i64 r_16.2.2), (117, .int .i64 r_12.2), (118, .bool (r_12.2 == 0)), (119, .bool (r_12.2 == 0)), (122, .bool ((r_12.2 == 0) && (r_13.2 == 0))), (123, .bool ((r_12.2 == 0) && (r_13.2 == 0))), (126, .bool (((r_12.2 == 0) && (r_13.2 == 0)) && (r_14.2 == 0)))] ∧ Ctx G (.row (some ⟨b_13, 0, none⟩) 3 (([7, 2, 0] : List Int).map encI_i64) 3 1 :: .row (some ⟨b_12, 0, none⟩) 3 (([60, 30, 10] : List Int).map encI_i64) 3 1 :: .box b_11 [.int .i64 r_15.2.1.N, .int .i64 r_15.2.1.D] 71 :: .box b_10 [.int .i64 r_15.1.N, .int .i64 r_15.1.D] 71 :: .row (some ⟨b_9, 0, none⟩) 3 (([6, 3, 0] : List Int).map encI_i64) 3 1 :: .row (some ⟨b_8, 0, none⟩) 3 (([60, 30, 10] : List Int).map encI_i64) 3 1 :: .row (some ⟨b_7, 0, none⟩) 3 (([60, 30, 10] : List Int).map encI_i64) 3 1 :: .row p_11 c_11 (r_14.1.map encI_i64) 3 1 :: .row (some ⟨b_6, 0, none⟩) 3 (([60, 30, 10] : List Int).map encI_i64) 3 1 :: .row p_10 c_10 (r_13.1.map encI_i64) 3 1 :: .row (some ⟨b_5, 0, none⟩) 6 (([20, 30, 30, 40, 40, 40] : List Int).map encI_i64) 3 1 :: .row p_9 c_9 (r_12.1.map encI_i64) 3 1 :: .row p_6 c_6 (r_7.1.Table.map enc_share_Point) 116 2 :: .row p_7 c_7 (r_7.2.map enc_share_Year) 94 5 :: .row p_8 c_8 (r_8.1.map enc_api_Span) 26 2 :: .box b_1 [.slice p_6 r_7.1.Table.length c_6, .int .i64 r_7.1.Credit] 88 :: .row p_5 c_5 (r_5.Rights.map enc_share_Right) 51 3 :: .row p_3 c_3 (r_2.Rights.map enc_share_Right) 51 3 :: .row p_4 c_4 (r_4.1.map enc_api_Span) 26 2 :: .row p_1 c_1 (r.Rights.map enc_share_Right) 51 3 :: .row p_2 c_2 (r_1.1.map encI_i64) 3 1 :: Lf) w) ?_ ?_
    · cases hb : ((r_12.2 == 0) && (r_13.2 == 0))
      · rw [hb] at hf
        refine stS hf rfl rfl rfl fun a hf => ?_
        refine stS hf rfl rfl rfl fun a hf => ?_
        refine stP hf rfl rfl rfl (pPf rfl rfl) fun a hf => ?_
        exact cNil ⟨hf.keep ⟨rfl, rfl, rfl, rfl, rfl, rfl, rfl, rfl, rfl, rfl, rfl, rfl, rfl, rfl, rfl, rfl, rfl, rfl, trivial⟩, hc⟩
      · rw [hb] at hf
        refine stP hf rfl rfl rfl (pM rfl) fun a hf => ?_
        refine stP hf rfl rfl rfl (pEq rfl rfl) fun a hf => ?_
        refine stP hf rfl rfl rfl (pPt rfl rfl) fun a hf => ?_
        exact cNil ⟨hf.keep ⟨rfl, rfl, rfl, rfl, rfl, rfl, rfl, rfl, rfl, rfl, rfl, rfl, rfl, rfl, rfl, rfl, rfl, rfl, trivial⟩, hc⟩
    intro a w ⟨hf, hc⟩
    refine stP hf rfl rfl rfl (pM rfl) fun a hf => ?_
    refine stCut 3 (fun a w => Has 168 a [(2, .int .i64 r_12.2), (4, .int .i64 r_13.2), (6, .int .i64 r_14.2), (10, .int .i64 r_15.2.2), (11, .slice p_9 r_12.1.length c_9), (12, .slice p_10 r_13.1.length c_10), (13, .slice p_11 r_14.1.length c_11), (14, .pointer (some ⟨b_10, 0, none⟩)), (15, .pointer (some ⟨b_11, 0, none⟩)), (16, .int .i64 r_16.1), (17, .int .i64 r_16.2.1), (18, .int .i64 r_16.2.2), (117, .int .i64 r_12.2), (118, .bool (r_12.2 == 0)), (119, .bool (r_12.2 == 0)), (122, .bool ((r_12.2 == 0) && (r_13.2 == 0))), (123, .bool ((r_12.2 == 0) && (r_13.2 == 0))), (126, .bool (((r_12.2 == 0) && (r_13.2 == 0)) && (r_14.2 == 0))), (127, .bool (((r_12.2 == 0) && (r_13.2 == 0)) && (r_14.2 == 0))), (130, .bool ((((r_12.2 == 0) && (r_13.2 == 0)) && (r_14.2 == 0)) && (r_15.2.2 == 0)))] ∧ Ctx G (.row (some ⟨b_13, 0, none⟩) 3 (([7, 2, 0] : List Int).map encI_i64) 3 1 :: .row (some ⟨b_12, 0, none⟩) 3 (([60, 30, 10] : List Int).map encI_i64) 3 1 :: .box b_11 [.int .i64 r_15.2.1.N, .int .i64 r_15.2.1.D] 71 :: .box b_10 [.int .i64 r_15.1.N, .int .i64 r_15.1.D] 71 :: .row (some ⟨b_9, 0, none⟩) 3 (([6, 3, 0] : List Int).map encI_i64) 3 1 :: .row (some ⟨b_8, 0, none⟩) 3 (([60, 30, 10] : List Int).map encI_i64) 3 1 :: .row (some ⟨b_7, 0, none⟩) 3 (([60, 30, 10] : List Int).map encI_i64) 3 1 :: .row p_11 c_11 (r_14.1.map encI_i64) 3 1 :: .row (some ⟨b_6, 0, none⟩) 3 (([60, 30, 10] : List Int).map encI_i64) 3 1 :: .row p_10 c_10 (r_13.1.map encI_i64) 3 1 :: .row (some ⟨b_5, 0, none⟩) 6 (([20, 30, 30, 40, 40, 40] : List Int).map encI_i64) 3 1 :: .row p_9 c_9 (r_12.1.map encI_i64) 3 1 :: .row p_6 c_6 (r_7.1.Table.map enc_share_Point) 116 2 :: .row p_7 c_7 (r_7.2.map enc_share_Year) 94 5 :: .row p_8 c_8 (r_8.1.map enc_api_Span) 26 2 :: .box b_1 [.slice p_6 r_7.1.Table.length c_6, .int .i64 r_7.1.Credit] 88 :: .row p_5 c_5 (r_5.Rights.map enc_share_Right) 51 3 :: .row p_3 c_3 (r_2.Rights.map enc_share_Right) 51 3 :: .row p_4 c_4 (r_4.1.map enc_api_Span) 26 2 :: .row p_1 c_1 (r.Rights.map enc_share_Right) 51 3 :: .row p_2 c_2 (r_1.1.map encI_i64) 3 1 :: Lf) w) ?_ ?_
    · cases hb : (((r_12.2 == 0) && (r_13.2 == 0)) && (r_14.2 == 0))
      · rw [hb] at hf
        refine stS hf rfl rfl rfl fun a hf => ?_
        refine stS hf rfl rfl rfl fun a hf => ?_
        refine stP hf rfl rfl rfl (pPf rfl rfl) fun a hf => ?_
        exact cNil ⟨hf.keep ⟨rfl, rfl, rfl, rfl, rfl, rfl, rfl, rfl, rfl, rfl, rfl, rfl, rfl, rfl, rfl, rfl, rfl, rfl, rfl, rfl, trivial⟩, hc⟩
      · rw [hb] at hf
        refine stP hf rfl rfl rfl (pM rfl) fun a hf => ?_
        refine stP hf rfl rfl rfl (pEq rfl rfl) fun a hf => ?_
        refine stP hf rfl rfl rfl (pPt rfl rfl) fun a hf => ?_
        exact cNil ⟨hf.keep ⟨rfl, rfl, rfl, rfl, rfl, rfl, rfl, rfl, rfl, rfl, rfl, rfl, rfl, rfl, rfl, rfl, rfl, rfl, rfl, rfl, trivial⟩, hc⟩
    intro a w ⟨hf, hc⟩
    refine stP hf rfl rfl rfl (pM rfl) fun a hf => ?_
    refine stCut 3 (fun a w => Has 168 a [(2, .int .i64 r_12.2), (4, .int .i64 r_13.2), (6, .int .i64 r_14.2), (10, .int .i64 r_15.2.2), (11, .slice p_9 r_12.1.length c_9), (12, .slice p_10 r_13.1.length c_10), (13, .slice p_11 r_14.1.length c_11), (14, .pointer (some ⟨b_10, 0, none⟩)), (15, .pointer (some ⟨b_11, 0, none⟩)), (16, .int .i64 r_16.1), (17, .int .i64 r_16.2.1), (18, .int .i64 r_16.2.2), (117, .int .i64 r_12.2), (118, .bool (r_12.2 == 0)), (119, .bool (r_12.2 == 0)), (122, .bool ((r_12.2 == 0) && (r_13.2 == 0))), (123, .bool ((r_12.2 == 0) && (r_13.2 == 0))), (126, .bool (((r_12.2 == 0) && (r_13.2 == 0)) && (r_14.2 == 0))), (127, .bool (((r_12.2 == 0) && (r_13.2 == 0)) && (r_14.2 == 0))), (130, .bool ((((r_12.2 == 0) && (r_13.2 == 0)) && (r_14.2 == 0)) && (r_15.2.2 == 0))), (131, .bool ((((r_12.2 == 0) && (r_13.2 == 0)) && (r_14.2 == 0)) && (r_15.2.2 == 0))), (134, .bool (((((r_12.2 == 0) && (r_13.2 == 0)) && (r_14.2 == 0)) && (r_15.2.2 == 0)) && (r_16.2.2 == 0)))] ∧ Ctx G (.row (some ⟨b_13, 0, none⟩) 3 (([7, 2, 0] : List Int).map encI_i64) 3 1 :: .row (some ⟨b_12, 0, none⟩) 3 (([60, 30, 10] : List Int).map encI_i64) 3 1 :: .box b_11 [.int .i64 r_15.2.1.N, .int .i64 r_15.2.1.D] 71 :: .box b_10 [.int .i64 r_15.1.N, .int .i64 r_15.1.D] 71 :: .row (some ⟨b_9, 0, none⟩) 3 (([6, 3, 0] : List Int).map encI_i64) 3 1 :: .row (some ⟨b_8, 0, none⟩) 3 (([60, 30, 10] : List Int).map encI_i64) 3 1 :: .row (some ⟨b_7, 0, none⟩) 3 (([60, 30, 10] : List Int).map encI_i64) 3 1 :: .row p_11 c_11 (r_14.1.map encI_i64) 3 1 :: .row (some ⟨b_6, 0, none⟩) 3 (([60, 30, 10] : List Int).map encI_i64) 3 1 :: .row p_10 c_10 (r_13.1.map encI_i64) 3 1 :: .row (some ⟨b_5, 0, none⟩) 6 (([20, 30, 30, 40, 40, 40] : List Int).map encI_i64) 3 1 :: .row p_9 c_9 (r_12.1.map encI_i64) 3 1 :: .row p_6 c_6 (r_7.1.Table.map enc_share_Point) 116 2 :: .row p_7 c_7 (r_7.2.map enc_share_Year) 94 5 :: .row p_8 c_8 (r_8.1.map enc_api_Span) 26 2 :: .box b_1 [.slice p_6 r_7.1.Table.length c_6, .int .i64 r_7.1.Credit] 88 :: .row p_5 c_5 (r_5.Rights.map enc_share_Right) 51 3 :: .row p_3 c_3 (r_2.Rights.map enc_share_Right) 51 3 :: .row p_4 c_4 (r_4.1.map enc_api_Span) 26 2 :: .row p_1 c_1 (r.Rights.map enc_share_Right) 51 3 :: .row p_2 c_2 (r_1.1.map encI_i64) 3 1 :: Lf) w) ?_ ?_
    · cases hb : ((((r_12.2 == 0) && (r_13.2 == 0)) && (r_14.2 == 0)) && (r_15.2.2 == 0))
      · rw [hb] at hf
        refine stS hf rfl rfl rfl fun a hf => ?_
        refine stS hf rfl rfl rfl fun a hf => ?_
        refine stP hf rfl rfl rfl (pPf rfl rfl) fun a hf => ?_
        exact cNil ⟨hf.keep ⟨rfl, rfl, rfl, rfl, rfl, rfl, rfl, rfl, rfl, rfl, rfl, rfl, rfl, rfl, rfl, rfl, rfl, rfl, rfl, rfl, rfl, rfl, trivial⟩, hc⟩
      · rw [hb] at hf
        refine stP hf rfl rfl rfl (pM rfl) fun a hf => ?_
        refine stP hf rfl rfl rfl (pEq rfl rfl) fun a hf => ?_
        refine stP hf rfl rfl rfl (pPt rfl rfl) fun a hf => ?_
        exact cNil ⟨hf.keep ⟨rfl, rfl, rfl, rfl, rfl, rfl, rfl, rfl, rfl, rfl, rfl, rfl, rfl, rfl, rfl, rfl, rfl, rfl, rfl, rfl, rfl, rfl, trivial⟩, hc⟩
    intro a w ⟨hf, hc⟩
    refine stP hf rfl rfl rfl (pM rfl) fun a hf => ?_
    obtain ⟨t_4, ht_4, hF⟩ := bnd_some hF
    refine stCut 4 (fun a w => Has 168 a [(2, .int .i64 r_12.2), (4, .int .i64 r_13.2), (6, .int .i64 r_14.2), (10, .int .i64 r_15.2.2), (11, .slice p_9 r_12.1.length c_9), (12, .slice p_10 r_13.1.length c_10), (13, .slice p_11 r_14.1.length c_11), (14, .pointer (some ⟨b_10, 0, none⟩)), (15, .pointer (some ⟨b_11, 0, none⟩)), (16, .int .i64 r_16.1), (17, .int .i64 r_16.2.1), (18, .int .i64 r_16.2.2), (117, .int .i64 r_12.2), (118, .bool (r_12.2 == 0)), (119, .bool (r_12.2 == 0)), (122, .bool ((r_12.2 == 0) && (r_13.2 == 0))), (123, .bool ((r_12.2 == 0) && (r_13.2 == 0))), (126, .bool (((r_12.2 == 0) && (r_13.2 == 0)) && (r_14.2 == 0))), (127, .bool (((r_12.2 == 0) && (r_13.2 == 0)) && (r_14.2 == 0))), (130, .bool ((((r_12.2 == 0) && (r_13.2 == 0)) && (r_14.2 == 0)) && (r_15.2.2 == 0))), (131, .bool ((((r_12.2 == 0) && (r_13.2 == 0)) && (r_14.2 == 0)) && (r_15.2.2 == 0))), (134, .bool (((((r_12.2 == 0) && (r_13.2 == 0)) && (r_14.2 == 0)) && (r_15.2.2 == 0)) && (r_16.2.2 == 0))), (135, .bool (((((r_12.2 == 0) && (r_13.2 == 0)) && (r_14.2 == 0)) && (r_15.2.2 == 0)) && (r_16.2.2 == 0))), (139, .bool t_4)] ∧ Ctx G (.row (some ⟨b_13, 0, none⟩) 3 (([7, 2, 0] : List Int).map encI_i64) 3 1 :: .row (some ⟨b_12, 0, none⟩) 3 (([60, 30, 10] : List Int).map encI_i64) 3 1 :: .box b_11 [.int .i64 r_15.2.1.N, .int .i64 r_15.2.1.D] 71 :: .box b_10 [.int .i64 r_15.1.N, .int .i64 r_15.1.D] 71 :: .row (some ⟨b_9, 0, none⟩) 3 (([6, 3, 0] : List Int).map encI_i64) 3 1 :: .row (some ⟨b_8, 0, none⟩) 3 (([60, 30, 10] : List Int).map encI_i64) 3 1 :: .row (some ⟨b_7, 0, none⟩) 3 (([60, 30, 10] : List Int).map encI_i64) 3 1 :: .row p_11 c_11 (r_14.1.map encI_i64) 3 1 :: .row (some ⟨b_6, 0, none⟩) 3 (([60, 30, 10] : List Int).map encI_i64) 3 1 :: .row p_10 c_10 (r_13.1.map encI_i64) 3 1 :: .row (some ⟨b_5, 0, none⟩) 6 (([20, 30, 30, 40, 40, 40] : List Int).map encI_i64) 3 1 :: .row p_9 c_9 (r_12.1.map encI_i64) 3 1 :: .row p_6 c_6 (r_7.1.Table.map enc_share_Point) 116 2 :: .row p_7 c_7 (r_7.2.map enc_share_Year) 94 5 :: .row p_8 c_8 (r_8.1.map enc_api_Span) 26 2 :: .box b_1 [.slice p_6 r_7.1.Table.length c_6, .int .i64 r_7.1.Credit] 88 :: .row p_5 c_5 (r_5.Rights.map enc_share_Right) 51 3 :: .row p_3 c_3 (r_2.Rights.map enc_share_Right) 51 3 :: .row p_4 c_4 (r_4.1.map enc_api_Span) 26 2 :: .row p_1 c_1 (r.Rights.map enc_share_Right) 51 3 :: .row p_2 c_2 (r_1.1.map encI_i64) 3 1 :: Lf) w) ?_ ?_
    · cases hb : (((((r_12.2 == 0) && (r_13.2 == 0)) && (r_14.2 == 0)) && (r_15.2.2 == 0)) && (r_16.2.2 == 0))
      · rw [hb] at hf
        have hF := condF hb ht_4
        obtain rfl := Option.some.inj hF
        refine stS hf rfl rfl rfl fun a hf => ?_
        refine stS hf rfl rfl rfl fun a hf => ?_
        refine stS hf rfl rfl rfl fun a hf => ?_
        refine stP hf rfl rfl rfl (pPf rfl rfl) fun a hf => ?_
        exact cNil ⟨hf.keep ⟨rfl, rfl, rfl, rfl, rfl, rfl, rfl, rfl, rfl, rfl, rfl, rfl, rfl, rfl, rfl, rfl, rfl, rfl, rfl, rfl, rfl, rfl, rfl, rfl, trivial⟩, hc⟩
      · rw [hb] at hf
        have hF := condT hb ht_4
        refine stP hf rfl rfl rfl (pM rfl) fun a hf => ?_
        refine stBS (rows := ([20, 20, 15, 15, 15, 15] : List Int).map encI_i64) (vs := [(0, .int .i64 20), (1, .int .i64 20), (2, .int .i64 15), (3, .int .i64 15), (4, .int .i64 15), (5, .int .i64 15)]) hf hc rfl rfl sl_36 rfl ⟨rfl, rfl, rfl, rfl, rfl, rfl, rfl, rfl, rfl, rfl, rfl, rfl, rfl, rfl, rfl, rfl, rfl, rfl, trivial⟩ rfl rfl fun b_14 a w hf hc => ?_
        obtain ⟨r_17, hr_17, hF⟩ := bnd_some hF
        refine stE hf hc rfl rfl rfl (eC (v := .bool r_17) (vs := [.slice p_9 r_12.1.length c_9, .slice (some ⟨b_14, 0, none⟩) 6 6]) (caps := []) en_20 rfl rfl rfl rfl (fun w hc => by obtain ⟨G1, hle1, hrd1, hc, hth1⟩ := lend hc k12; obtain ⟨G2, hle2, hrd2, hc, hth2⟩ := lend hc k0; exact (kit_Same_int_ok r_12.1 ([20, 20, 15, 15, 15, 15] : List Int) (hrd1.mono hle2) hrd2 hc hr_17).mono fun e w h => ⟨h.1, ((hth1 _ _ ((hth2 _ _ h.2).unpick k0)).unpick k12)⟩)) fun a w hf hc => ?_
        refine stP hf rfl rfl rfl (pPt rfl rfl) fun a hf => ?_
        replace hc := hc.drop k0
        obtain rfl := Option.some.inj hF
        exact cNil ⟨hf.keep ⟨rfl, rfl, rfl, rfl, rfl, rfl, rfl, rfl, rfl, rfl, rfl, rfl, rfl, rfl, rfl, rfl, rfl, rfl, rfl, rfl, rfl, rfl, rfl, rfl, trivial⟩, hc⟩
    intro a w ⟨hf, hc⟩
    refine stP hf rfl rfl rfl (pM rfl) fun a hf => ?_
    obtain ⟨t_5, ht_5, hF⟩ := bnd_some hF
    refine stCut 4 (fun a w => Has 168 a [(2, .int .i64 r_12.2), (4, .int .i64 r_13.2), (6, .int .i64 r_14.2), (10, .int .i64 r_15.2.2), (11, .slice p_9 r_12.1.length c_9), (12, .slice p_10 r_13.1.length c_10), (13, .slice p_11 r_14.1.length c_11), (14, .pointer (some ⟨b_10, 0, none⟩)), (15, .pointer (some ⟨b_11, 0, none⟩)), (16, .int .i64 r_16.1), (17, .int .i64 r_16.2.1), (18, .int .i64 r_16.2.2), (117, .int .i64 r_12.2), (118, .bool (r_12.2 == 0)), (119, .bool (r_12.2 == 0)), (122, .bool ((r_12.2 == 0) && (r_13.2 == 0))), (123, .bool ((r_12.2 == 0) && (r_13.2 == 0))), (126, .bool (((r_12.2 == 0) && (r_13.2 == 0)) && (r_14.2 == 0))), (127, .bool (((r_12.2 == 0) && (r_13.2 == 0)) && (r_14.2 == 0))), (130, .bool ((((r_12.2 == 0) && (r_13.2 == 0)) && (r_14.2 == 0)) && (r_15.2.2 == 0))), (131, .bool ((((r_12.2 == 0) && (r_13.2 == 0)) && (r_14.2 == 0)) && (r_15.2.2 == 0))), (134, .bool (((((r_12.2 == 0) && (r_13.2 == 0)) && (r_14.2 == 0)) && (r_15.2.2 == 0)) && (r_16.2.2 == 0))), (135, .bool (((((r_12.2 == 0) && (r_13.2 == 0)) && (r_14.2 == 0)) && (r_15.2.2 == 0)) && (r_16.2.2 == 0))), (139, .bool t_4), (140, .bool t_4), (144, .bool t_5)] ∧ Ctx G (.row (some ⟨b_13, 0, none⟩) 3 (([7, 2, 0] : List Int).map encI_i64) 3 1 :: .row (some ⟨b_12, 0, none⟩) 3 (([60, 30, 10] : List Int).map encI_i64) 3 1 :: .box b_11 [.int .i64 r_15.2.1.N, .int .i64 r_15.2.1.D] 71 :: .box b_10 [.int .i64 r_15.1.N, .int .i64 r_15.1.D] 71 :: .row (some ⟨b_9, 0, none⟩) 3 (([6, 3, 0] : List Int).map encI_i64) 3 1 :: .row (some ⟨b_8, 0, none⟩) 3 (([60, 30, 10] : List Int).map encI_i64) 3 1 :: .row (some ⟨b_7, 0, none⟩) 3 (([60, 30, 10] : List Int).map encI_i64) 3 1 :: .row p_11 c_11 (r_14.1.map encI_i64) 3 1 :: .row (some ⟨b_6, 0, none⟩) 3 (([60, 30, 10] : List Int).map encI_i64) 3 1 :: .row p_10 c_10 (r_13.1.map encI_i64) 3 1 :: .row (some ⟨b_5, 0, none⟩) 6 (([20, 30, 30, 40, 40, 40] : List Int).map encI_i64) 3 1 :: .row p_9 c_9 (r_12.1.map encI_i64) 3 1 :: .row p_6 c_6 (r_7.1.Table.map enc_share_Point) 116 2 :: .row p_7 c_7 (r_7.2.map enc_share_Year) 94 5 :: .row p_8 c_8 (r_8.1.map enc_api_Span) 26 2 :: .box b_1 [.slice p_6 r_7.1.Table.length c_6, .int .i64 r_7.1.Credit] 88 :: .row p_5 c_5 (r_5.Rights.map enc_share_Right) 51 3 :: .row p_3 c_3 (r_2.Rights.map enc_share_Right) 51 3 :: .row p_4 c_4 (r_4.1.map enc_api_Span) 26 2 :: .row p_1 c_1 (r.Rights.map enc_share_Right) 51 3 :: .row p_2 c_2 (r_1.1.map encI_i64) 3 1 :: Lf) w) ?_ ?_
    · cases hb : t_4
      · rw [hb] at hf
        have hF := condF hb ht_5
        obtain rfl := Option.some.inj hF
        refine stS hf rfl rfl rfl fun a hf => ?_
        refine stS hf rfl rfl rfl fun a hf => ?_
        refine stS hf rfl rfl rfl fun a hf => ?_
        refine stP hf rfl rfl rfl (pPf rfl rfl) fun a hf => ?_
        exact cNil ⟨hf.keep ⟨rfl, rfl, rfl, rfl, rfl, rfl, rfl, rfl, rfl, rfl, rfl, rfl, rfl, rfl, rfl, rfl, rfl, rfl, rfl, rfl, rfl, rfl, rfl, rfl, rfl, rfl, trivial⟩, hc⟩
      · rw [hb] at hf
        have hF := condT hb ht_5
        refine stP hf rfl rfl rfl (pM rfl) fun a hf => ?_
        refine stBS (rows := ([6, 3, 0] : List Int).map encI_i64) (vs := [(0, .int .i64 6), (1, .int .i64 3), (2, .int .i64 0)]) hf hc rfl rfl sl_36 rfl ⟨rfl, rfl, rfl, rfl, rfl, rfl, rfl, rfl, rfl, trivial⟩ rfl rfl fun b_15 a w hf hc => ?_
        obtain ⟨r_18, hr_18, hF⟩ := bnd_some hF
        refine stE hf hc rfl rfl rfl (eC (v := .bool r_18) (vs := [.slice p_10 r_13.1.length c_10, .slice (some ⟨b_15, 0, none⟩) 3 3]) (caps := []) en_20 rfl rfl rfl rfl (fun w hc => by obtain ⟨G1, hle1, hrd1, hc, hth1⟩ := lend hc k10; obtain ⟨G2, hle2, hrd2, hc, hth2⟩ := lend hc k0; exact (kit_Same_int_ok r_13.1 ([6, 3, 0] : List Int) (hrd1.mono hle2) hrd2 hc hr_18).mono fun e w h => ⟨h.1, ((hth1 _ _ ((hth2 _ _ h.2).unpick k0)).unpick k10)⟩)) fun a w hf hc => ?_
        refine stP hf rfl rfl rfl (pPt rfl rfl) fun a hf => ?_
        replace hc := hc.drop k0
        obtain rfl := Option.some.inj hF
        exact cNil ⟨hf.keep ⟨rfl, rfl, rfl, rfl, rfl, rfl, rfl, rfl, rfl, rfl, rfl, rfl, rfl, rfl, rfl, rfl, rfl, rfl, rfl, rfl, rfl, rfl, rfl, rfl, rfl, rfl, trivial⟩, hc⟩
    intro a w ⟨hf, hc⟩
    refine stP hf rfl rfl rfl (pM rfl) fun a hf => ?_
    obtain ⟨t_6, ht_6, hF⟩ := bnd_some hF
    refine stCut 4 (fun a w => Has 168 a [(2, .int .i64 r_12.2), (4, .int .i64 r_13.2), (6, .int .i64 r_14.2), (10, .int .i64 r_15.2.2), (11, .slice p_9 r_12.1.length c_9), (12, .slice p_10 r_13.1.length c_10), (13, .slice p_11 r_14.1.length c_11), (14, .pointer (some ⟨b_10, 0, none⟩)), (15, .pointer (some ⟨b_11, 0, none⟩)), (16, .int .i64 r_16.1), (17, .int .i64 r_16.2.1), (18, .int .i64 r_16.2.2), (117, .int .i64 r_12.2), (118, .bool (r_12.2 == 0)), (119, .bool (r_12.2 == 0)), (122, .bool ((r_12.2 == 0) && (r_13.2 == 0))), (123, .bool ((r_12.2 == 0) && (r_13.2 == 0))), (126, .bool (((r_12.2 == 0) && (r_13.2 == 0)) && (r_14.2 == 0))), (127, .bool (((r_12.2 == 0) && (r_13.2 == 0)) && (r_14.2 == 0))), (130, .bool ((((r_12.2 == 0) && (r_13.2 == 0)) && (r_14.2 == 0)) && (r_15.2.2 == 0))), (131, .bool ((((r_12.2 == 0) && (r_13.2 == 0)) && (r_14.2 == 0)) && (r_15.2.2 == 0))), (134, .bool (((((r_12.2 == 0) && (r_13.2 == 0)) && (r_14.2 == 0)) && (r_15.2.2 == 0)) && (r_16.2.2 == 0))), (135, .bool (((((r_12.2 == 0) && (r_13.2 == 0)) && (r_14.2 == 0)) && (r_15.2.2 == 0)) && (r_16.2.2 == 0))), (139, .bool t_4), (140, .bool t_4), (144, .bool t_5), (145, .bool t_5), (149, .bool t_6)] ∧ Ctx G (.row (some ⟨b_13, 0, none⟩) 3 (([7, 2, 0] : List Int).map encI_i64) 3 1 :: .row (some ⟨b_12, 0, none⟩) 3 (([60, 30, 10] : List Int).map encI_i64) 3 1 :: .box b_11 [.int .i64 r_15.2.1.N, .int .i64 r_15.2.1.D] 71 :: .box b_10 [.int .i64 r_15.1.N, .int .i64 r_15.1.D] 71 :: .row (some ⟨b_9, 0, none⟩) 3 (([6, 3, 0] : List Int).map encI_i64) 3 1 :: .row (some ⟨b_8, 0, none⟩) 3 (([60, 30, 10] : List Int).map encI_i64) 3 1 :: .row (some ⟨b_7, 0, none⟩) 3 (([60, 30, 10] : List Int).map encI_i64) 3 1 :: .row p_11 c_11 (r_14.1.map encI_i64) 3 1 :: .row (some ⟨b_6, 0, none⟩) 3 (([60, 30, 10] : List Int).map encI_i64) 3 1 :: .row p_10 c_10 (r_13.1.map encI_i64) 3 1 :: .row (some ⟨b_5, 0, none⟩) 6 (([20, 30, 30, 40, 40, 40] : List Int).map encI_i64) 3 1 :: .row p_9 c_9 (r_12.1.map encI_i64) 3 1 :: .row p_6 c_6 (r_7.1.Table.map enc_share_Point) 116 2 :: .row p_7 c_7 (r_7.2.map enc_share_Year) 94 5 :: .row p_8 c_8 (r_8.1.map enc_api_Span) 26 2 :: .box b_1 [.slice p_6 r_7.1.Table.length c_6, .int .i64 r_7.1.Credit] 88 :: .row p_5 c_5 (r_5.Rights.map enc_share_Right) 51 3 :: .row p_3 c_3 (r_2.Rights.map enc_share_Right) 51 3 :: .row p_4 c_4 (r_4.1.map enc_api_Span) 26 2 :: .row p_1 c_1 (r.Rights.map enc_share_Right) 51 3 :: .row p_2 c_2 (r_1.1.map encI_i64) 3 1 :: Lf) w) ?_ ?_
    · cases hb : t_5
      · rw [hb] at hf
        have hF := condF hb ht_6
        obtain rfl := Option.some.inj hF
        refine stS hf rfl rfl rfl fun a hf => ?_
        refine stS hf rfl rfl rfl fun a hf => ?_
        refine stS hf rfl rfl rfl fun a hf => ?_
        refine stP hf rfl rfl rfl (pPf rfl rfl) fun a hf => ?_
        exact cNil ⟨hf.keep ⟨rfl, rfl, rfl, rfl, rfl, rfl, rfl, rfl, rfl, rfl, rfl, rfl, rfl, rfl, rfl, rfl, rfl, rfl, rfl, rfl, rfl, rfl, rfl, rfl, rfl, rfl, rfl, rfl, trivial⟩, hc⟩
      · rw [hb] at hf
        have hF := condT hb ht_6
        refine stP hf rfl rfl rfl (pM rfl) fun a hf => ?_
        refine stBS (rows := ([5, 3, 1] : List Int).map encI_i64) (vs := [(0, .int .i64 5), (1, .int .i64 3), (2, .int .i64 1)]) hf hc rfl rfl sl_36 rfl ⟨rfl, rfl, rfl, rfl, rfl, rfl, rfl, rfl, rfl, trivial⟩ rfl rfl fun b_16 a w hf hc => ?_
        obtain ⟨r_19, hr_19, hF⟩ := bnd_some hF
        refine stE hf hc rfl rfl rfl (eC (v := .bool r_19) (vs := [.slice p_11 r_14.1.length c_11, .slice (some ⟨b_16, 0, none⟩) 3 3]) (caps := []) en_20 rfl rfl rfl rfl (fun w hc => by obtain ⟨G1, hle1, hrd1, hc, hth1⟩ := lend hc k8; obtain ⟨G2, hle2, hrd2, hc, hth2⟩ := lend hc k0; exact (kit_Same_int_ok r_14.1 ([5, 3, 1] : List Int) (hrd1.mono hle2) hrd2 hc hr_19).mono fun e w h => ⟨h.1, ((hth1 _ _ ((hth2 _ _ h.2).unpick k0)).unpick k8)⟩)) fun a w hf hc => ?_
        refine stP hf rfl rfl rfl (pPt rfl rfl) fun a hf => ?_
        replace hc := hc.drop k0
        obtain rfl := Option.some.inj hF
        exact cNil ⟨hf.keep ⟨rfl, rfl, rfl, rfl, rfl, rfl, rfl, rfl, rfl, rfl, rfl, rfl, rfl, rfl, rfl, rfl, rfl, rfl, rfl, rfl, rfl, rfl, rfl, rfl, rfl, rfl, rfl, rfl, trivial⟩, hc⟩
    intro a w ⟨hf, hc⟩
    refine stP hf rfl rfl rfl (pM rfl) fun a hf => ?_
    refine stCut 4 (fun a w => Has 168 a ((2, .int .i64 r_12.2) :: (4, .int .i64 r_13.2) :: (6, .int .i64 r_14.2) :: (10, .int .i64 r_15.2.2) :: (11, .slice p_9 r_12.1.length c_9) :: (12, .slice p_10 r_13.1.length c_10) :: (13, .slice p_11 r_14.1.length c_11) :: (14, .pointer (some ⟨b_10, 0, none⟩)) :: (15, .pointer (some ⟨b_11, 0, none⟩)) :: (16, .int .i64 r_16.1) :: (17, .int .i64 r_16.2.1) :: (18, .int .i64 r_16.2.2) :: (117, .int .i64 r_12.2) :: (118, .bool (r_12.2 == 0)) :: (119, .bool (r_12.2 == 0)) :: (122, .bool ((r_12.2 == 0) && (r_13.2 == 0))) :: (123, .bool ((r_12.2 == 0) && (r_13.2 == 0))) :: (126, .bool (((r_12.2 == 0) && (r_13.2 == 0)) && (r_14.2 == 0))) :: (127, .bool (((r_12.2 == 0) && (r_13.2 == 0)) && (r_14.2 == 0))) :: (130, .bool ((((r_12.2 == 0) && (r_13.2 == 0)) && (r_14.2 == 0)) && (r_15.2.2 == 0))) :: (131, .bool ((((r_12.2 == 0) && (r_13.2 == 0)) && (r_14.2 == 0)) && (r_15.2.2 == 0))) :: (134, .bool (((((r_12.2 == 0) && (r_13.2 == 0)) && (r_14.2 == 0)) && (r_15.2.2 == 0)) && (r_16.2.2 == 0))) :: (135, .bool (((((r_12.2 == 0) && (r_13.2 == 0)) && (r_14.2 == 0)) && (r_15.2.2 == 0)) && (r_16.2.2 == 0))) :: (139, .bool t_4) :: (140, .bool t_4) :: (144, .bool t_5) :: (145, .bool t_5) :: (149, .bool t_6) :: (150, .bool t_6) :: (154, .bool (t_6 && (r_15.1.N == 10 && r_15.1.D == 1))) :: []) ∧ Ctx G (.row (some ⟨b_13, 0, none⟩) 3 (([7, 2, 0] : List Int).map encI_i64) 3 1 :: .row (some ⟨b_12, 0, none⟩) 3 (([60, 30, 10] : List Int).map encI_i64) 3 1 :: .box b_11 [.int .i64 r_15.2.1.N, .int .i64 r_15.2.1.D] 71 :: .box b_10 [.int .i64 r_15.1.N, .int .i64 r_15.1.D] 71 :: .row (some ⟨b_9, 0, none⟩) 3 (([6, 3, 0] : List Int).map encI_i64) 3 1 :: .row (some ⟨b_8, 0, none⟩) 3 (([60, 30, 10] : List Int).map encI_i64) 3 1 :: .row (some ⟨b_7, 0, none⟩) 3 (([60, 30, 10] : List Int).map encI_i64) 3 1 :: .row p_11 c_11 (r_14.1.map encI_i64) 3 1 :: .row (some ⟨b_6, 0, none⟩) 3 (([60, 30, 10] : List Int).map encI_i64) 3 1 :: .row p_10 c_10 (r_13.1.map encI_i64) 3 1 :: .row (some ⟨b_5, 0, none⟩) 6 (([20, 30, 30, 40, 40, 40] : List Int).map encI_i64) 3 1 :: .row p_9 c_9 (r_12.1.map encI_i64) 3 1 :: .row p_6 c_6 (r_7.1.Table.map enc_share_Point) 116 2 :: .row p_7 c_7 (r_7.2.map enc_share_Year) 94 5 :: .row p_8 c_8 (r_8.1.map enc_api_Span) 26 2 :: .box b_1 [.slice p_6 r_7.1.Table.length c_6, .int .i64 r_7.1.Credit] 88 :: .row p_5 c_5 (r_5.Rights.map enc_share_Right) 51 3 :: .row p_3 c_3 (r_2.Rights.map enc_share_Right) 51 3 :: .row p_4 c_4 (r_4.1.map enc_api_Span) 26 2 :: .row p_1 c_1 (r.Rights.map enc_share_Right) 51 3 :: .row p_2 c_2 (r_1.1.map encI_i64) 3 1 :: Lf) w) ?_ ?_
    · cases hb : t_6
      · rw [hb] at hf
        refine stS hf rfl rfl rfl fun a hf => ?_
        refine stS hf rfl rfl rfl fun a hf => ?_
        refine stS hf rfl rfl rfl fun a hf => ?_
        refine stP hf rfl rfl rfl (pPf rfl rfl) fun a hf => ?_
        exact cNil ⟨hf.keep ⟨rfl, rfl, rfl, rfl, rfl, rfl, rfl, rfl, rfl, rfl, rfl, rfl, rfl, rfl, rfl, rfl, rfl, rfl, rfl, rfl, rfl, rfl, rfl, rfl, rfl, rfl, rfl, rfl, rfl, rfl, trivial⟩, hc⟩
      · rw [hb] at hf
        refine stE hf hc rfl rfl rfl (eLdN (vs := [.int .i64 r_15.1.N, .int .i64 r_15.1.D]) ag_71 rfl rfl (cells_box (n := 2) m3 rfl)) fun a w hf hc => ?_
        refine stP hf rfl rfl rfl (pBuildS (cells := [.int .i64 10, .int .i64 1]) bt_71 rfl rfl) fun a hf => ?_
        refine stP hf rfl rfl rfl (pEqA ge_71 rfl rfl (eqs_71 _ _ _ _)) fun a hf => ?_
        refine stP hf rfl rfl rfl (pPt rfl rfl) fun a hf => ?_
        exact cNil ⟨hf.keep ⟨rfl, rfl, rfl, rfl, rfl, rfl, rfl, rfl, rfl, rfl, rfl, rfl, rfl, rfl, rfl, rfl, rfl, rfl, rfl, rfl, rfl, rfl, rfl, rfl, rfl, rfl, rfl, rfl, rfl, rfl, trivial⟩, hc⟩
    intro a w ⟨hf, hc⟩
    refine stP hf rfl rfl rfl (pM rfl) fun a hf => ?_
    refine stCut 4 (fun a w => Has 168 a ((2, .int .i64 r_12.2) :: (4, .int .i64 r_13.2) :: (6, .int .i64 r_14.2) :: (10, .int .i64 r_15.2.2) :: (11, .slice p_9 r_12.1.length c_9) :: (12, .slice p_10 r_13.1.length c_10) :: (13, .slice p_11 r_14.1.length c_11) :: (14, .pointer (some ⟨b_10, 0, none⟩)) :: (15, .pointer (some ⟨b_11, 0, none⟩)) :: (16, .int .i64 r_16.1) :: (17, .int .i64 r_16.2.1) :: (18, .int .i64 r_16.2.2) :: (117, .int .i64 r_12.2) :: (118, .bool (r_12.2 == 0)) :: (119, .bool (r_12.2 == 0)) :: (122, .bool ((r_12.2 == 0) && (r_13.2 == 0))) :: (123, .bool ((r_12.2 == 0) && (r_13.2 == 0))) :: (126, .bool (((r_12.2 == 0) && (r_13.2 == 0)) && (r_14.2 == 0))) :: (127, .bool (((r_12.2 == 0) && (r_13.2 == 0)) && (r_14.2 == 0))) :: (130, .bool ((((r_12.2 == 0) && (r_13.2 == 0)) && (r_14.2 == 0)) && (r_15.2.2 == 0))) :: (131, .bool ((((r_12.2 == 0) && (r_13.2 == 0)) && (r_14.2 == 0)) && (r_15.2.2 == 0))) :: (134, .bool (((((r_12.2 == 0) && (r_13.2 == 0)) && (r_14.2 == 0)) && (r_15.2.2 == 0)) && (r_16.2.2 == 0))) :: (135, .bool (((((r_12.2 == 0) && (r_13.2 == 0)) && (r_14.2 == 0)) && (r_15.2.2 == 0)) && (r_16.2.2 == 0))) :: (139, .bool t_4) :: (140, .bool t_4) :: (144, .bool t_5) :: (145, .bool t_5) :: (149, .bool t_6) :: (150, .bool t_6) :: (154, .bool (t_6 && (r_15.1.N == 10 && r_15.1.D == 1))) :: (155, .bool (t_6 && (r_15.1.N == 10 && r_15.1.D == 1))) :: (159, .bool ((t_6 && (r_15.1.N == 10 && r_15.1.D == 1)) && (r_15.2.1.N == r_15.1.N && r_15.2.1.D == r_15.1.D))) :: []) ∧ Ctx G (.row (some ⟨b_13, 0, none⟩) 3 (([7, 2, 0] : List Int).map encI_i64) 3 1 :: .row (some ⟨b_12, 0, none⟩) 3 (([60, 30, 10] : List Int).map encI_i64) 3 1 :: .box b_11 [.int .i64 r_15.2.1.N, .int .i64 r_15.2.1.D] 71 :: .box b_10 [.int .i64 r_15.1.N, .int .i64 r_15.1.D] 71 :: .row (some ⟨b_9, 0, none⟩) 3 (([6, 3, 0] : List Int).map encI_i64) 3 1 :: .row (some ⟨b_8, 0, none⟩) 3 (([60, 30, 10] : List Int).map encI_i64) 3 1 :: .row (some ⟨b_7, 0, none⟩) 3 (([60, 30, 10] : List Int).map encI_i64) 3 1 :: .row p_11 c_11 (r_14.1.map encI_i64) 3 1 :: .row (some ⟨b_6, 0, none⟩) 3 (([60, 30, 10] : List Int).map encI_i64) 3 1 :: .row p_10 c_10 (r_13.1.map encI_i64) 3 1 :: .row (some ⟨b_5, 0, none⟩) 6 (([20, 30, 30, 40, 40, 40] : List Int).map encI_i64) 3 1 :: .row p_9 c_9 (r_12.1.map encI_i64) 3 1 :: .row p_6 c_6 (r_7.1.Table.map enc_share_Point) 116 2 :: .row p_7 c_7 (r_7.2.map enc_share_Year) 94 5 :: .row p_8 c_8 (r_8.1.map enc_api_Span) 26 2 :: .box b_1 [.slice p_6 r_7.1.Table.length c_6, .int .i64 r_7.1.Credit] 88 :: .row p_5 c_5 (r_5.Rights.map enc_share_Right) 51 3 :: .row p_3 c_3 (r_2.Rights.map enc_share_Right) 51 3 :: .row p_4 c_4 (r_4.1.map enc_api_Span) 26 2 :: .row p_1 c_1 (r.Rights.map enc_share_Right) 51 3 :: .row p_2 c_2 (r_1.1.map encI_i64) 3 1 :: Lf) w) ?_ ?_
    · cases hb : (t_6 && (r_15.1.N == 10 && r_15.1.D == 1))
      · rw [hb] at hf
        refine stS hf rfl rfl rfl fun a hf => ?_
        refine stS hf rfl rfl rfl fun a hf => ?_
        refine stS hf rfl rfl rfl fun a hf => ?_
        refine stP hf rfl rfl rfl (pPf rfl rfl) fun a hf => ?_
        exact cNil ⟨hf.keep ⟨rfl, rfl, rfl, rfl, rfl, rfl, rfl, rfl, rfl, rfl, rfl, rfl, rfl, rfl, rfl, rfl, rfl, rfl, rfl, rfl, rfl, rfl, rfl, rfl, rfl, rfl, rfl, rfl, rfl, rfl, rfl, rfl, trivial⟩, hc⟩
      · rw [hb] at hf
        refine stE hf hc rfl rfl rfl (eLdN (vs := [.int .i64 r_15.2.1.N, .int .i64 r_15.2.1.D]) ag_71 rfl rfl (cells_box (n := 2) m2 rfl)) fun a w hf hc => ?_
        refine stE hf hc rfl rfl rfl (eLdN (vs := [.int .i64 r_15.1.N, .int .i64 r_15.1.D]) ag_71 rfl rfl (cells_box (n := 2) m3 rfl)) fun a w hf hc => ?_
        refine stP hf rfl rfl rfl (pEqA ge_71 rfl rfl (eqs_71 _ _ _ _)) fun a hf => ?_
        refine stP hf rfl rfl rfl (pPt rfl rfl) fun a hf => ?_
        exact cNil ⟨hf.keep ⟨rfl, rfl, rfl, rfl, rfl, rfl, rfl, rfl, rfl, rfl, rfl, rfl, rfl, rfl, rfl, rfl, rfl, rfl, rfl, rfl, rfl, rfl, rfl, rfl, rfl, rfl, rfl, rfl, rfl, rfl, rfl, rfl, trivial⟩, hc⟩
    intro a w ⟨hf, hc⟩
    refine stP hf rfl rfl rfl (pM rfl) fun a hf => ?_
    refine stCut 3 (fun a w => Has 168 a ((2, .int .i64 r_12.2) :: (4, .int .i64 r_13.2) :: (6, .int .i64 r_14.2) :: (10, .int .i64 r_15.2.2) :: (11, .slice p_9 r_12.1.length c_9) :: (12, .slice p_10 r_13.1.length c_10) :: (13, .slice p_11 r_14.1.length c_11) :: (14, .pointer (some ⟨b_10, 0, none⟩)) :: (15, .pointer (some ⟨b_11, 0, none⟩)) :: (16, .int .i64 r_16.1) :: (17, .int .i64 r_16.2.1) :: (18, .int .i64 r_16.2.2) :: (117, .int .i64 r_12.2) :: (118, .bool (r_12.2 == 0)) :: (119, .bool (r_12.2 == 0)) :: (122, .bool ((r_12.2 == 0) && (r_13.2 == 0))) :: (123, .bool ((r_12.2 == 0) && (r_13.2 == 0))) :: (126, .bool (((r_12.2 == 0) && (r_13.2 == 0)) && (r_14.2 == 0))) :: (127, .bool (((r_12.2 == 0) && (r_13.2 == 0)) && (r_14.2 == 0))) :: (130, .bool ((((r_12.2 == 0) && (r_13.2 == 0)) && (r_14.2 == 0)) && (r_15.2.2 == 0))) :: (131, .bool ((((r_12.2 == 0) && (r_13.2 == 0)) && (r_14.2 == 0)) && (r_15.2.2 == 0))) :: (134, .bool (((((r_12.2 == 0) && (r_13.2 == 0)) && (r_14.2 == 0)) && (r_15.2.2 == 0)) && (r_16.2.2 == 0))) :: (135, .bool (((((r_12.2 == 0) && (r_13.2 == 0)) && (r_14.2 == 0)) && (r_15.2.2 == 0)) && (r_16.2.2 == 0))) :: (139, .bool t_4) :: (140, .bool t_4) :: (144, .bool t_5) :: (145, .bool t_5) :: (149, .bool t_6) :: (150, .bool t_6) :: (154, .bool (t_6 && (r_15.1.N == 10 && r_15.1.D == 1))) :: (155, .bool (t_6 && (r_15.1.N == 10 && r_15.1.D == 1))) :: (159, .bool ((t_6 && (r_15.1.N == 10 && r_15.1.D == 1)) && (r_15.2.1.N == r_15.1.N && r_15.2.1.D == r_15.1.D))) :: (160, .bool ((t_6 && (r_15.1.N == 10 && r_15.1.D == 1)) && (r_15.2.1.N == r_15.1.N && r_15.2.1.D == r_15.1.D))) :: (163, .bool (((t_6 && (r_15.1.N == 10 && r_15.1.D == 1)) && (r_15.2.1.N == r_15.1.N && r_15.2.1.D == r_15.1.D)) && (r_16.1 == 0))) :: []) ∧ Ctx G (.row (some ⟨b_13, 0, none⟩) 3 (([7, 2, 0] : List Int).map encI_i64) 3 1 :: .row (some ⟨b_12, 0, none⟩) 3 (([60, 30, 10] : List Int).map encI_i64) 3 1 :: .box b_11 [.int .i64 r_15.2.1.N, .int .i64 r_15.2.1.D] 71 :: .box b_10 [.int .i64 r_15.1.N, .int .i64 r_15.1.D] 71 :: .row (some ⟨b_9, 0, none⟩) 3 (([6, 3, 0] : List Int).map encI_i64) 3 1 :: .row (some ⟨b_8, 0, none⟩) 3 (([60, 30, 10] : List Int).map encI_i64) 3 1 :: .row (some ⟨b_7, 0, none⟩) 3 (([60, 30, 10] : List Int).map encI_i64) 3 1 :: .row p_11 c_11 (r_14.1.map encI_i64) 3 1 :: .row (some ⟨b_6, 0, none⟩) 3 (([60, 30, 10] : List Int).map encI_i64) 3 1 :: .row p_10 c_10 (r_13.1.map encI_i64) 3 1 :: .row (some ⟨b_5, 0, none⟩) 6 (([20, 30, 30, 40, 40, 40] : List Int).map encI_i64) 3 1 :: .row p_9 c_9 (r_12.1.map encI_i64) 3 1 :: .row p_6 c_6 (r_7.1.Table.map enc_share_Point) 116 2 :: .row p_7 c_7 (r_7.2.map enc_share_Year) 94 5 :: .row p_8 c_8 (r_8.1.map enc_api_Span) 26 2 :: .box b_1 [.slice p_6 r_7.1.Table.length c_6, .int .i64 r_7.1.Credit] 88 :: .row p_5 c_5 (r_5.Rights.map enc_share_Right) 51 3 :: .row p_3 c_3 (r_2.Rights.map enc_share_Right) 51 3 :: .row p_4 c_4 (r_4.1.map enc_api_Span) 26 2 :: .row p_1 c_1 (r.Rights.map enc_share_Right) 51 3 :: .row p_2 c_2 (r_1.1.map encI_i64) 3 1 :: Lf) w) ?_ ?_
    · cases hb : ((t_6 && (r_15.1.N == 10 && r_15.1.D == 1)) && (r_15.2.1.N == r_15.1.N && r_15.2.1.D == r_15.1.D))
      · rw [hb] at hf
        refine stS hf rfl rfl rfl fun a hf => ?_
        refine stS hf rfl rfl rfl fun a hf => ?_
        refine stP hf rfl rfl rfl (pPf rfl rfl) fun a hf => ?_
        exact cNil ⟨hf.keep ⟨rfl, rfl, rfl, rfl, rfl, rfl, rfl, rfl, rfl, rfl, rfl, rfl, rfl, rfl, rfl, rfl, rfl, rfl, rfl, rfl, rfl, rfl, rfl, rfl, rfl, rfl, rfl, rfl, rfl, rfl, rfl, rfl, rfl, rfl, trivial⟩, hc⟩
      · rw [hb] at hf
        refine stP hf rfl rfl rfl (pM rfl) fun a hf => ?_
        refine stP hf rfl rfl rfl (pEq rfl rfl) fun a hf => ?_
        refine stP hf rfl rfl rfl (pPt rfl rfl) fun a hf => ?_
        exact cNil ⟨hf.keep ⟨rfl, rfl, rfl, rfl, rfl, rfl, rfl, rfl, rfl, rfl, rfl, rfl, rfl, rfl, rfl, rfl, rfl, rfl, rfl, rfl, rfl, rfl, rfl, rfl, rfl, rfl, rfl, rfl, rfl, rfl, rfl, rfl, rfl, rfl, trivial⟩, hc⟩
    intro a w ⟨hf, hc⟩
    refine stP hf rfl rfl rfl (pM rfl) fun a hf => ?_
    refine stCut 3 (fun a w => Has 168 a ((2, .int .i64 r_12.2) :: (4, .int .i64 r_13.2) :: (6, .int .i64 r_14.2) :: (10, .int .i64 r_15.2.2) :: (11, .slice p_9 r_12.1.length c_9) :: (12, .slice p_10 r_13.1.length c_10) :: (13, .slice p_11 r_14.1.length c_11) :: (14, .pointer (some ⟨b_10, 0, none⟩)) :: (15, .pointer (some ⟨b_11, 0, none⟩)) :: (16, .int .i64 r_16.1) :: (17, .int .i64 r_16.2.1) :: (18, .int .i64 r_16.2.2) :: (117, .int .i64 r_12.2) :: (118, .bool (r_12.2 == 0)) :: (119, .bool (r_12.2 == 0)) :: (122, .bool ((r_12.2 == 0) && (r_13.2 == 0))) :: (123, .bool ((r_12.2 == 0) && (r_13.2 == 0))) :: (126, .bool (((r_12.2 == 0) && (r_13.2 == 0)) && (r_14.2 == 0))) :: (127, .bool (((r_12.2 == 0) && (r_13.2 == 0)) && (r_14.2 == 0))) :: (130, .bool ((((r_12.2 == 0) && (r_13.2 == 0)) && (r_14.2 == 0)) && (r_15.2.2 == 0))) :: (131, .bool ((((r_12.2 == 0) && (r_13.2 == 0)) && (r_14.2 == 0)) && (r_15.2.2 == 0))) :: (134, .bool (((((r_12.2 == 0) && (r_13.2 == 0)) && (r_14.2 == 0)) && (r_15.2.2 == 0)) && (r_16.2.2 == 0))) :: (135, .bool (((((r_12.2 == 0) && (r_13.2 == 0)) && (r_14.2 == 0)) && (r_15.2.2 == 0)) && (r_16.2.2 == 0))) :: (139, .bool t_4) :: (140, .bool t_4) :: (144, .bool t_5) :: (145, .bool t_5) :: (149, .bool t_6) :: (150, .bool t_6) :: (154, .bool (t_6 && (r_15.1.N == 10 && r_15.1.D == 1))) :: (155, .bool (t_6 && (r_15.1.N == 10 && r_15.1.D == 1))) :: (159, .bool ((t_6 && (r_15.1.N == 10 && r_15.1.D == 1)) && (r_15.2.1.N == r_15.1.N && r_15.2.1.D == r_15.1.D))) :: (160, .bool ((t_6 && (r_15.1.N == 10 && r_15.1.D == 1)) && (r_15.2.1.N == r_15.1.N && r_15.2.1.D == r_15.1.D))) :: (163, .bool (((t_6 && (r_15.1.N == 10 && r_15.1.D == 1)) && (r_15.2.1.N == r_15.1.N && r_15.2.1.D == r_15.1.D)) && (r_16.1 == 0))) :: (164, .bool (((t_6 && (r_15.1.N == 10 && r_15.1.D == 1)) && (r_15.2.1.N == r_15.1.N && r_15.2.1.D == r_15.1.D)) && (r_16.1 == 0))) :: (167, .bool ((((t_6 && (r_15.1.N == 10 && r_15.1.D == 1)) && (r_15.2.1.N == r_15.1.N && r_15.2.1.D == r_15.1.D)) && (r_16.1 == 0)) && (r_16.2.1 == 1))) :: []) ∧ Ctx G (.row (some ⟨b_13, 0, none⟩) 3 (([7, 2, 0] : List Int).map encI_i64) 3 1 :: .row (some ⟨b_12, 0, none⟩) 3 (([60, 30, 10] : List Int).map encI_i64) 3 1 :: .box b_11 [.int .i64 r_15.2.1.N, .int .i64 r_15.2.1.D] 71 :: .box b_10 [.int .i64 r_15.1.N, .int .i64 r_15.1.D] 71 :: .row (some ⟨b_9, 0, none⟩) 3 (([6, 3, 0] : List Int).map encI_i64) 3 1 :: .row (some ⟨b_8, 0, none⟩) 3 (([60, 30, 10] : List Int).map encI_i64) 3 1 :: .row (some ⟨b_7, 0, none⟩) 3 (([60, 30, 10] : List Int).map encI_i64) 3 1 :: .row p_11 c_11 (r_14.1.map encI_i64) 3 1 :: .row (some ⟨b_6, 0, none⟩) 3 (([60, 30, 10] : List Int).map encI_i64) 3 1 :: .row p_10 c_10 (r_13.1.map encI_i64) 3 1 :: .row (some ⟨b_5, 0, none⟩) 6 (([20, 30, 30, 40, 40, 40] : List Int).map encI_i64) 3 1 :: .row p_9 c_9 (r_12.1.map encI_i64) 3 1 :: .row p_6 c_6 (r_7.1.Table.map enc_share_Point) 116 2 :: .row p_7 c_7 (r_7.2.map enc_share_Year) 94 5 :: .row p_8 c_8 (r_8.1.map enc_api_Span) 26 2 :: .box b_1 [.slice p_6 r_7.1.Table.length c_6, .int .i64 r_7.1.Credit] 88 :: .row p_5 c_5 (r_5.Rights.map enc_share_Right) 51 3 :: .row p_3 c_3 (r_2.Rights.map enc_share_Right) 51 3 :: .row p_4 c_4 (r_4.1.map enc_api_Span) 26 2 :: .row p_1 c_1 (r.Rights.map enc_share_Right) 51 3 :: .row p_2 c_2 (r_1.1.map encI_i64) 3 1 :: Lf) w) ?_ ?_
    · cases hb : (((t_6 && (r_15.1.N == 10 && r_15.1.D == 1)) && (r_15.2.1.N == r_15.1.N && r_15.2.1.D == r_15.1.D)) && (r_16.1 == 0))
      · rw [hb] at hf
        refine stS hf rfl rfl rfl fun a hf => ?_
        refine stS hf rfl rfl rfl fun a hf => ?_
        refine stP hf rfl rfl rfl (pPf rfl rfl) fun a hf => ?_
        exact cNil ⟨hf.keep ⟨rfl, rfl, rfl, rfl, rfl, rfl, rfl, rfl, rfl, rfl, rfl, rfl, rfl, rfl, rfl, rfl, rfl, rfl, rfl, rfl, rfl, rfl, rfl, rfl, rfl, rfl, rfl, rfl, rfl, rfl, rfl, rfl, rfl, rfl, rfl, rfl, trivial⟩, hc⟩
      · rw [hb] at hf
        refine stP hf rfl rfl rfl (pM rfl) fun a hf => ?_
        refine stP hf rfl rfl rfl (pEq rfl rfl) fun a hf => ?_
        refine stP hf rfl rfl rfl (pPt rfl rfl) fun a hf => ?_
        exact cNil ⟨hf.keep ⟨rfl, rfl, rfl, rfl, rfl, rfl, rfl, rfl, rfl, rfl, rfl, rfl, rfl, rfl, rfl, rfl, rfl, rfl, rfl, rfl, rfl, rfl, rfl, rfl, rfl, rfl, rfl, rfl, rfl, rfl, rfl, rfl, rfl, rfl, rfl, rfl, trivial⟩, hc⟩
    intro a w ⟨hf, hc⟩
    refine stP hf rfl rfl rfl (pA rfl) fun a hf => ?_
    refine cNil ?_
    refine h15 _ _ ?_
    refine wp_ret ?_
    obtain rfl := Option.some.inj hF
    replace hc := hc.drop k20
    replace hc := hc.drop k19
    replace hc := hc.drop k18
    replace hc := hc.drop k17
    replace hc := hc.drop k16
    replace hc := hc.drop k15
    replace hc := hc.drop k14
    replace hc := hc.drop k13
    replace hc := hc.drop k12
    replace hc := hc.drop k11
    replace hc := hc.drop k10
    replace hc := hc.drop k9
    replace hc := hc.drop k8
    replace hc := hc.drop k7
    replace hc := hc.drop k6
    replace hc := hc.drop k5
    replace hc := hc.drop k4
    replace hc := hc.drop k3
    replace hc := hc.drop k2
    replace hc := hc.drop k1
    replace hc := hc.drop k0
    exact fnOut1 (by simp) rfl Try.results13 hf hc (show look _ 0 = _ from rfl) ⟨rfl, hc⟩

def kit_Copy_share_Right (N : Nat) (l : List share_Right) : Option ((List share_Right)) :=
  Option.bind (room (l).length) fun un =>
  some l
theorem kit_Copy_share_Right_ok {N : Nat} {G : Pers} {Lf : List Ent} {w : World} (l : List share_Right) {l_p : Option Addr} {l_c : Nat} (h_l : Rd G 3 l_p l_c (l.map enc_share_Right)) (hc : Ctx G (Lf) w) {res : (List share_Right)} (hF : kit_Copy_share_Right N l = some res) : Calls Try.prog 69 #[.slice l_p l.length l_c] w (fun e w => ∃ (p'1 : Option Addr) (c'1 : Nat), e = .returned (.slice p'1 res.length c'1) ∧ Ctx G (.row p'1 c'1 (res.map enc_share_Right) 51 3 :: Lf) w) := by
  unfold kit_Copy_share_Right at hF
  refine fnIn (args := [.slice l_p l.length l_c]) Try.func69 rfl Try.ntmps69 rfl fun a hf => ?_
  refine wp_seq_k fun K1 h1 => ?_
  refine cReg ?_
  refine stP hf rfl rfl rfl (pA rfl) fun a hf => ?_
  refine cNil ?_
  refine h1 _ _ ?_
  refine wp_seq_k fun K2 h2 => ?_
  refine cReg ?_
  refine stP hf rfl rfl rfl (pA rfl) fun a hf => ?_
  refine cNil ?_
  refine h2 _ _ ?_
  refine wp_seq_k fun K3 h3 => ?_
  refine cReg ?_
  refine stP hf rfl rfl rfl (pM rfl) fun a hf => ?_
  refine stP hf rfl rfl rfl (pM rfl) fun a hf => ?_
  replace hc := hc.nilRow 51 3
  obtain ⟨un, hun, hF⟩ := bnd_some hF
  refine stApm (xs := ([] : List share_Right)) (ys := l) hf hc rfl rfl sl_22 rfl rfl rfl rfl rfl one_enc_share_Right (src_rd hc h_l) (fun _ _ => u0) (by simpa using room_spec hun) fun p_1 c_1 a w hf hc => ?_
  refine stP hf rfl rfl rfl (pA rfl) fun a hf => ?_
  refine cNil ?_
  refine h3 _ _ ?_
  refine wp_ret ?_
  obtain rfl := Option.some.inj hF
  exact fnOut1 (by simp) rfl Try.results69 hf hc (show look _ 2 = _ from rfl) ⟨p_1, c_1, rfl, hc⟩

def law09_CopyCompact (N : Nat) (c_ : share_Compact) : Option (share_Compact) :=
  Option.bind (kit_Copy_share_Right N c_.Rights) fun r =>
  some (⟨c_.States, r⟩ : share_Compact)
theorem law09_CopyCompact_ok {N : Nat} {G : Pers} {Lf : List Ent} {w : World} (c_ : share_Compact) {c__Rights_p : Option Addr} {c__Rights_c : Nat} (h_c__Rights : Rd G 3 c__Rights_p c__Rights_c (c_.Rights.map enc_share_Right)) (hc : Ctx G (Lf) w) {res : share_Compact} (hF : law09_CopyCompact N c_ = some res) : Calls Try.prog 14 #[.agg #[.int .i64 c_.States, .slice c__Rights_p c_.Rights.length c__Rights_c]] w (fun e w => ∃ (p'1 : Option Addr) (c'1 : Nat), e = .returned (.agg #[.int .i64 res.States, .slice p'1 res.Rights.length c'1]) ∧ Ctx G (.row p'1 c'1 (res.Rights.map enc_share_Right) 51 3 :: Lf) w) := by
  unfold law09_CopyCompact at hF
  refine fnIn (args := [.agg #[.int .i64 c_.States, .slice c__Rights_p c_.Rights.length c__Rights_c]]) Try.func14 rfl Try.ntmps14 rfl fun a hf => ?_
  refine wp_seq_k fun K1 h1 => ?_
  refine cReg ?_
  refine stBx (cs := [.int .i64 c_.States, .slice c__Rights_p c_.Rights.length c__Rights_c]) hf hc rfl rfl rfl rfl fun b_1 a w hf hc => ?_
  refine stAl (cs := [.int .i64 0, .slice none 0 0]) hf hc rfl rfl zr_24 rfl fun b_2 a w hf hc => ?_
  refine cNil ?_
  refine h1 _ _ ?_
  refine wp_seq_k fun K2 h2 => ?_
  refine cReg ?_
  refine stP hf rfl rfl rfl (pFA fa_24_1 rfl) fun a hf => ?_
  refine stE hf hc rfl rfl rfl (eLd1 sc_22 rfl (cell_box m1 rfl)) fun a w hf hc => ?_
  obtain ⟨r, hr, hF⟩ := bnd_some hF
  refine stC (vs := [.slice c__Rights_p c_.Rights.length c__Rights_c]) (caps := []) hf rfl rfl rfl en_69 rfl rfl rfl rfl (kit_Copy_share_Right_ok c_.Rights h_c__Rights hc hr) ?_
  rintro _ w ⟨p_1, c_1, rfl, hc⟩
  refine ⟨_, rfl, fun a hf => ?_⟩
  refine stP hf rfl rfl rfl (pFA fa_24_1 rfl) fun a hf => ?_
  refine stSt (vs := [.slice p_1 r.length c_1]) hf hc rfl rfl rfl rfl sz_22 rfl rfl u2 fun w hc => ?_
  refine cNil ?_
  refine h2 _ _ ?_
  refine wp_seq_k fun K3 h3 => ?_
  refine cReg ?_
  refine stE hf hc rfl rfl rfl (eLdN (vs := [.int .i64 c_.States, .slice p_1 r.length c_1]) ag_24 rfl rfl (cells_box (n := 2) m2 rfl)) fun a w hf hc => ?_
  refine stSt (vs := [.int .i64 c_.States, .slice p_1 r.length c_1]) hf hc rfl rfl rfl rfl sz_24 rfl rfl u1 fun w hc => ?_
  refine cNil ?_
  refine h3 _ _ ?_
  refine wp_ret ?_
  obtain rfl := Option.some.inj hF
  replace hc := hc.drop k2
  exact fnOut1 (by simp) rfl Try.results14 hf hc (rv_cellN (vs := [.int .i64 c_.States, .slice p_1 r.length c_1]) ag_24 rfl rfl (cells_box (n := 2) m1 rfl)) ⟨p_1, c_1, rfl, (hc.drop k1)⟩

def slices_Delete_Lshare_Right_share_Right (N : Nat) (s_ : List share_Right) (i_ : Int) (j_ : Int) : Option ((List share_Right)) :=
  delO s_ i_ j_
/-! ### Walks of the library -/
section
open Go.RowKit Go.Lib
theorem iX66 : (Try.prog.info? 51).map (fun i => (i.zero, i.size, i.bytes)) = some (some (Value.agg #[.int .i64 0, .int .i64 0, .int .i64 0]), 3, 24) := by kernel_rfl
theorem zvX66 : ∀ w : World, (zeroValue 51).run Try.prog w = .ok (Value.agg #[.int .i64 0, .int .i64 0, .int .i64 0]) w := fun w => by
  obtain ⟨i0, hi0, hz0, hz1, hz2⟩ := info_parts iX66
  simp [zeroValue, typeInfo, hi0, hz0]
set_option maxHeartbeats 4000000 in
set_option maxRecDepth 1000000 in
theorem same_walk66 (p : Option Addr) (n cap i : Nat) (w : World) (hi : i ≤ n) (hc : n ≤ cap) (hm : cap ≤ 9223372036854775807) (hp : p = none → cap = 0) :
    Calls Try.prog 66 #[.slice p n cap, .int .i64 i, .int .i64 i] w fun e w' => e = .returned (.slice p n cap) ∧ w' = w := by
  have hic : i ≤ cap := by omega
  go_enter Try.func66, Try.ntmps66
  go_wp2
  all_goals (go_ret; exact ⟨rfl, rfl⟩)
set_option maxHeartbeats 4000000 in
set_option maxRecDepth 1000000 in
theorem del_walk66 (g n cap i j : Nat) (cur : Array Value) (w : World) (hg : w.heap[g]? = some (.cells cur 51 (0, 0))) (hcs : cur.size = cap * 3) (hn : n ≤ cap) (hm : cap ≤ 9223372036854775807) (hij : i < j) (hj : j ≤ n)
    (news : List Value) (hnews : news = (cur.toList.take (n * 3)).drop (j * 3)) (h1 : ∀ u ∈ news, u.oneCell' = true) :
    Calls Try.prog 66 #[.slice (some ⟨g, 0, none⟩) n cap, .int .i64 i, .int .i64 j] w fun e w' => e = .returned (.slice (some ⟨g, 0, none⟩) (n - (j - i)) cap) ∧
      w' = (w.drew.setCells g (0 + i * 3) news).setCells g ((i + (n - j)) * 3) (Builtin.zeroCells (Value.agg #[.int .i64 0, .int .i64 0, .int .i64 0]).cells (n - (i + (n - j)))).toList := by
  obtain ⟨i0, hi0, hz0, hz1, hz2⟩ := info_parts iX66
  have hlen : news.length = (n - j) * 3 := by rw [hnews]; simp; omega
  obtain ⟨A, hA, hsrc⟩ : ∃ A : Addr, (if cap = j then some (⟨g, 0, none⟩ : Addr) else some ⟨g, j * 3, none⟩) = some A ∧ Hid (∀ t u, news[t]? = some u → w.drew.cell? (A.add t) = some u) := by
    by_cases h : cap = j
    · refine ⟨⟨g, 0, none⟩, by simp [h], fun t u hu => ?_⟩
      have h0 : news.length = 0 := by rw [hlen]; omega
      rw [List.length_eq_zero_iff.1 h0] at hu
      simp at hu
    · refine ⟨⟨g, j * 3, none⟩, by simp [h], fun t u hu => ?_⟩
      have ht : t < (n - j) * 3 := by
        have := (List.getElem?_eq_some_iff.1 hu).1
        rwa [hlen] at this
      rw [hnews, List.getElem?_drop, List.getElem?_take, if_pos (by omega)] at hu
      rw [Addr.add_lit]
      show w.cell? _ = _
      simp only [World.cell?, hg]
      simpa using hu
  have s1 : Hid (news.length = (n - j) * 3) := hlen
  have s2 : Hid (∀ u ∈ news, u.oneCell' = true) := h1
  have s3 : Hid (∀ t, t < news.length → (w.drew.cell? ⟨g, 0 + i * 3 + t, none⟩).isSome = true ∧ w.drew.frozen? ⟨g, 0 + i * 3 + t, none⟩ = false) := by
    intro t ht
    rw [hlen] at ht
    refine ⟨?_, ?_⟩
    · show (w.cell? _).isSome = true
      simp only [World.cell?, hg]
      rw [Array.getElem?_eq_getElem (by omega)]
      rfl
    · show w.frozen? _ = false
      simp [World.frozen?, hg]
  obtain ⟨W1, hW1⟩ : ∃ W1, W1 = w.drew.setCells g (0 + i * 3) news := ⟨_, rfl⟩
  have hh := Go.Nilo.heap_setCells g news (0 + i * 3) w.drew cur 51 (0, 0) hg
  have hg1 : W1.heap[g]? = some (.cells (Go.Nilo.putA cur (0 + i * 3) news) 51 (0, 0)) := by rw [hW1]; exact hh.1
  have hsz : (Go.Nilo.putA cur (0 + i * 3) news).size = cap * 3 := by rw [Go.Nilo.putA_size, hcs]
  have hcl : ∀ ty, (Builtin.clear_ #[22] ty #[.slice (some ⟨g, (i + (n - j)) * 3, none⟩) (n - (i + (n - j))) (cap - (i + (n - j)))]).run Try.prog W1 = .ok (.tuple #[]) (W1.setCells g ((i + (n - j)) * 3) (Builtin.zeroCells (Value.agg #[.int .i64 0, .int .i64 0, .int .i64 0]).cells (n - (i + (n - j)))).toList) :=
    fun ty => Go.Nilo.run_clear_rows W1 22 51 ty _ Try.underlying22 zvX66 (fun n v hv => by
        simp only [Builtin.zeroCells, Array.toList_map, List.mem_map] at hv
        obtain ⟨k, -, rfl⟩ := hv
        have : ∀ m, m < 3 → ((Value.agg #[.int .i64 0, .int .i64 0, .int .i64 0]).cells[m]!).oneCell' = true := by decide
        exact this _ (Nat.mod_lt _ (by decide))) g ((i + (n - j)) * 3) _ _ (by omega) (fun t ht => by
        have ht' : t < (n - (i + (n - j))) * 3 := ht
        simp only [World.cell?, hg1]
        rw [Array.getElem?_eq_getElem (by omega)]
        rfl) (fun t ht => by simp [World.frozen?, hg1])
  have hW : Hid (W1 = w.drew.setCells g (0 + i * 3) news) := hW1
  have hic : i ≤ cap := by omega
  have hjc : j ≤ cap := by omega
  rw [← hW1]
  clear hW1 hg1 hsz hh hg hcs hnews hlen
  go_enter Try.func66, Try.ntmps66
  go_wp2_with fail
  go_region_law (refine step_append_room rfl (.tmp 22) (.tmp 25) 22 rfl 51 i0 3 Try.underlying22 hi0 hz1 g 0 i cap (by simp [Act.eval, Act.put]) A (n - j) (cap - j) news (by simp [Act.eval, Act.put]) s1.out hsrc.out s2.out (by omega) s3.out ?_; rw [← hW.out])
  go_wp2
  go_ret
  exact ⟨by rw [show n - (j - i) = i + (n - j) by omega]; rfl, rfl⟩
end

theorem slices_Delete_Lshare_Right_share_Right_ok {N : Nat} {G : Pers} {Lf : List Ent} {w : World} (s_ : List share_Right) (i_ : Int) (j_ : Int) {s__p : Option Addr} {s__c : Nat}  (hc : Ctx G (.row s__p s__c (s_.map enc_share_Right) 51 3 :: Lf) w) {res : (List share_Right)} (hF : slices_Delete_Lshare_Right_share_Right N s_ i_ j_ = some res) : Calls Try.prog 66 #[.slice s__p s_.length s__c, .int .i64 i_, .int .i64 j_] w (fun e w => ∃ (p'1 : Option Addr) (c'1 : Nat), e = .returned (.slice p'1 res.length c'1) ∧ Ctx G (.row p'1 c'1 (res.map enc_share_Right) 51 3 :: Lf) w) := by
  unfold slices_Delete_Lshare_Right_share_Right at hF
  exact delete_ctx (zs := fun k => (Builtin.zeroCells (Value.agg #[.int .i64 0, .int .i64 0, .int .i64 0]).cells k).toList) one_enc_share_Right (fun p n cap i w h1 h2 h3 h4 => same_walk66 p n cap i w h1 h2 h3 h4) (fun g n cap i j cur w h1 h2 h3 h4 h5 h6 news h7 h8 => del_walk66 g n cap i j cur w h1 h2 h3 h4 h5 h6 news h7 h8) hc hF

def slices_Insert_Lshare_Right_share_Right (N : Nat) (s_ : List share_Right) (i_ : Int) (v : List share_Right) : Option ((List share_Right)) :=
  insO s_ i_ v
/-! ### Walks of the library -/
section
open Go.RowKit Go.Lib
theorem iX65 : (Try.prog.info? 51).map (fun i => (i.zero, i.size, i.bytes)) = some (some (Value.agg #[.int .i64 0, .int .i64 0, .int .i64 0]), 3, 24) := by kernel_rfl
theorem soX65 : ∀ w : World, (Go.sizeOf 51).run Try.prog w = .ok 3 w := fun w => by
  obtain ⟨i0, hi0, hz0, hz1, hz2⟩ := info_parts iX65
  simp [Go.sizeOf, typeInfo, hi0, hz1]
theorem szX65 : (Try.prog.info? 51).map (·.size) = some 3 := by kernel_rfl
set_option maxHeartbeats 4000000 in
set_option maxRecDepth 1000000 in
theorem ins_shift65 (b n c i vb m vc : Nat) (cs vs : List Value) (w : World) (hi : i < n) (hm : 0 < m) (hroom : n + m ≤ c) (hc63 : c ≤ 9223372036854775807) (hvb : vb ≠ b)
    (hcl : cs.length = n * 3) (hvl : vs.length = m * 3)
    (hcs : ∀ j v, cs[j]? = some v → w.cell? ⟨b, j, none⟩ = some v) (hsp : ∀ j, j < (n + m) * 3 → (w.cell? ⟨b, j, none⟩).isSome = true) (hfz : ∀ j, j < (n + m) * 3 → w.frozen? ⟨b, j, none⟩ = false)
    (hvs : ∀ j v, vs[j]? = some v → w.cell? ⟨vb, j, none⟩ = some v) (h1c : ∀ v ∈ cs, v.oneCell' = true) (h1v : ∀ v ∈ vs, v.oneCell' = true)
    (tA tB : TypeId) (kA kB : Nat) (hsa : w.shape? vb = some (tA, kA)) (hsb : w.shape? b = some (tB, kB)) (hkB : kB ≠ 0) (hfa : w.frozen? ⟨vb, 0, none⟩ = false) (hfe : w.frozen? ⟨vb, kA, none⟩ = false) :
    Calls Try.prog 65 #[.slice (some ⟨b, 0, none⟩) n c, .int .i64 i, .slice (some ⟨vb, 0, none⟩) m vc] w fun e w' =>
      e = .returned (.slice (some ⟨b, 0, none⟩) (n + m) c) ∧ w' = (w.drew.setCells b ((i + m) * 3) (cs.drop (i * 3))).setCells b (i * 3) vs := by
  have hz1 : ¬ ((m : Int) = 0) := by omega
  have hz2 : ¬ ((i : Int) = (n : Int)) := by omega
  have hov : ∀ lb cb, (callFunc 113 #[.slice (some ⟨vb, 0, none⟩) m vc, .slice (some ⟨b, (i + m) * 3, none⟩) lb cb]).run Try.prog w = .ok (.value (.bool false)) w := fun lb cb => by
    rw [run_callFunc_extern Try.func113 (by kernel_rfl) (by kernel_rfl) (by kernel_rfl) (e := Extern.SlicesOverlaps.overlaps #[22, 22] #[4]) (by kernel_rfl),
      Lib.run_overlaps_apart w 22 4 51 Try.underlying22 3 soX65 ⟨vb, 0, none⟩ ⟨b, (i + m) * 3, none⟩ m vc lb cb hvb tA tB kA kB hsa hsb hkB hfa hfe]
    rfl
  have hdl : (cs.drop (i * 3)).length = (n - i) * 3 := by rw [List.length_drop, hcl]; omega
  have hw1 : IntKind.i64.wrap ((i : Int) + (m : Int)) = (i : Int) + (m : Int) := by rw [IntKind.wrap_i64]; omega
  have hb1 : (0 : Int) ≤ (i : Int) + (m : Int) := by omega
  have hin : i ≤ n := by omega
  have htn : ((i : Int) + (m : Int)).toNat = i + m := by omega
  have hb2 : ¬ (c = i + m) := by omega
  have hb3 : (i : Int) ≤ (n : Int) + (m : Int) := by omega
  have hb4 : ¬ (c = i) := by omega
  have hmin1 : Nat.min (n + m - i) (n + m - (i + m)) = n - i := by simp only [Nat.min_def]; split <;> omega
  have hmin2 : Nat.min m (n + m - i) = m := by simp only [Nat.min_def]; split <;> omega
  have hcp1 : ∀ ty dc sc, (Builtin.copy_ #[22, 22] ty #[.slice (some ⟨b, (i + m) * 3, none⟩) (n + m - (i + m)) dc, .slice (some ⟨b, i * 3, none⟩) (n + m - i) sc]).run Try.prog w.drew = .ok (goInt (Nat.min (n + m - i) (n + m - (i + m)))) (w.drew.setCells b ((i + m) * 3) (cs.drop (i * 3))) := fun ty dc sc =>
    Go.Nilo.run_copy_rows w.drew _ _ ty 51 b ((i + m) * 3) (n + m - (i + m)) dc ⟨b, i * 3, none⟩ (n + m - i) sc 3 (cs.drop (i * 3)) Try.underlying22 szX65 (by rw [hdl, hmin1])
      (fun j v hj => by rw [Addr.add_lit]; exact hcs (i * 3 + j) v (by rwa [List.getElem?_drop] at hj))
      (fun j hj => hsp _ (by omega)) (fun j hj => hfz _ (by omega)) (fun v hv => h1c v (List.mem_of_mem_drop hv))
  obtain ⟨W1, hW1⟩ : ∃ W1, W1 = w.drew.setCells b ((i + m) * 3) (cs.drop (i * 3)) := ⟨_, rfl⟩
  have hsp1 : ∀ k, k < (n + m) * 3 → (W1.cell? ⟨b, k, none⟩).isSome = true := fun k hk => by
    rw [hW1]
    exact Go.Proofs.isSome_setCells b (cs.drop (i * 3)) ((i + m) * 3) w.drew (fun j hj => hsp _ (by omega)) _ (hsp k hk)
  have hcp2 : ∀ (W : World), (∀ x, W.cell? x = W1.cell? x) → (∀ x, W.frozen? x = W1.frozen? x) → ∀ ty dc, (Builtin.copy_ #[22, 22] ty #[.slice (some ⟨b, i * 3, none⟩) (n + m - i) dc, .slice (some ⟨vb, 0, none⟩) m vc]).run Try.prog W = .ok (goInt (Nat.min m (n + m - i))) (W.setCells b (i * 3) vs) := fun W hWc hWf ty dc =>
    Go.Nilo.run_copy_rows W _ _ ty 51 b (i * 3) (n + m - i) dc ⟨vb, 0, none⟩ m vc 3 vs Try.underlying22 szX65 (by rw [hvl, hmin2])
      (fun j v hj => by
        rw [Addr.add_lit, hWc, hW1, World.cell?_setCells_out b _ _ _ _ (fun h _ => absurd h hvb), Nat.zero_add]
        exact hvs j v hj)
      (fun j hj => by rw [hWc]; exact hsp1 _ (by omega)) (fun j hj => by rw [hWf, hW1, World.frozen?_setCells]; exact hfz _ (by omega)) h1v
  rw [← hW1] at hcp1
  clear hmin1 hmin2
  go_enter Try.func65, Try.ntmps65
  go_wp2_with (simp only [hov])
  go_region_law (refine Go.Proofs.step_copy_runI rfl _ _ 22 22 rfl _ _ (by simp [Act.eval, Act.put]) (by simp [Act.eval, Act.put]) (hcp1 _ _ _) ?_)
  go_wp2_with (at_builtin; refine Go.Proofs.wpList_copy_runI _ rfl _ _ 22 22 rfl _ _ rfl rfl (hcp2 _ (fun _ => rfl) (fun _ => rfl) _ _) ?_)
  go_ret
  first | exact ⟨rfl, rfl⟩ | exact ⟨rfl, by rw [hW1]⟩

set_option maxHeartbeats 4000000 in
set_option maxRecDepth 1000000 in
theorem ins_grow65 (b n c i vb m vc : Nat) (cs vs : List Value) (w : World) (hi : i < n) (hm : 0 < m) (hnc : n ≤ c) (hroom : c < n + m) (hbig : (n + m) * 24 ≤ 140737488355328)
    (hcl : cs.length = n * 3) (hvl : vs.length = m * 3)
    (hcs : ∀ j v, cs[j]? = some v → w.cell? ⟨b, j, none⟩ = some v)
    (hvs : ∀ j v, vs[j]? = some v → w.cell? ⟨vb, j, none⟩ = some v) (h1c : ∀ v ∈ cs, v.oneCell' = true) (h1v : ∀ v ∈ vs, v.oneCell' = true) (hbw : b < w.heap.size) (hvw : vb < w.heap.size) :
    Calls Try.prog 65 #[.slice (some ⟨b, 0, none⟩) n c, .int .i64 i, .slice (some ⟨vb, 0, none⟩) m vc] w fun e w' =>
      e = .returned (.slice (some ⟨w.heap.size, 0, none⟩) (n + m) (grownCap w (n + m) c 51)) ∧
      w' = (((w.alloc (.cells ((cs.take (i * 3)).toArray ++ Builtin.zeroCells (Value.agg #[.int .i64 0, .int .i64 0, .int .i64 0]).cells (n + m - i) ++ Builtin.zeroCells (Value.agg #[.int .i64 0, .int .i64 0, .int .i64 0]).cells (grownCap w (n + m) c 51 - (n + m))) 51)).drew.setCells w.heap.size (i * 3) vs).drew).setCells w.heap.size ((i + m) * 3) (cs.drop (i * 3)) := by
  obtain ⟨i0, hi0, hz0, hzs, hzb⟩ := info_parts iX65
  have hz1 : ¬ ((m : Int) = 0) := by omega
  have hz2 : ¬ ((i : Int) = (n : Int)) := by omega
  have hz3 : (c : Int) < (n : Int) + (m : Int) := by omega
  have hkk : (n : Int) + (m : Int) - (i : Int) = ((n + m - i : Nat) : Int) := by omega
  have hik : i + (n + m - i) = n + m := by omega
  have hold : (Builtin.firstCells i0.size i (.slice (some ⟨b, 0, none⟩) i c)).run Try.prog w.drew = .ok (cs.take (i * 3)).toArray w.drew := by
    rw [hzs]
    exact run_firstCells_some w.drew 3 i ⟨b, 0, none⟩ i c (cs.take (i * 3)) (by rw [List.length_take]; omega) (fun j v hj => by
      rw [Addr.add_lit]
      rw [List.getElem?_take] at hj
      split at hj
      · rw [Nat.zero_add]; exact hcs j v hj
      · cases hj)
  have hrz : ∀ ty, (Builtin.append_ #[22, 3] ty #[.slice (some ⟨b, 0, none⟩) i c, .int .i64 ((n : Int) + (m : Int) - (i : Int))]).run Try.prog w =
      .ok (.slice (some ⟨w.heap.size, 0, none⟩) (n + m) (grownCap w (n + m) c 51)) (w.drew.alloc (.cells ((cs.take (i * 3)).toArray ++ Builtin.zeroCells (Value.agg #[.int .i64 0, .int .i64 0, .int .i64 0]).cells (n + m - i) ++ Builtin.zeroCells (Value.agg #[.int .i64 0, .int .i64 0, .int .i64 0]).cells (grownCap w (n + m) c 51 - (n + m))) 51)) := fun ty => by
    have h := Lib.run_append_grow_zeros w 22 3 ty 51 i0 _ .i64 .i64 Try.underlying22 Try.underlying3 hi0 hz0 (some ⟨b, 0, none⟩) i c (cs.take (i * 3)) hold (n + m - i) (by omega) (by omega) (by omega) (by omega) (by rw [hzb]; omega) (by rw [hzb, hik]; exact growslice_fits hroom hbig)
    rw [hik] at h
    rw [hkk]
    exact h
  obtain ⟨G, hG⟩ : ∃ G, G = grownCap w (n + m) c 51 := ⟨_, rfl⟩
  obtain ⟨ROW, hROW⟩ : ∃ ROW : Array Value, ROW = (cs.take (i * 3)).toArray ++ Builtin.zeroCells (Value.agg #[.int .i64 0, .int .i64 0, .int .i64 0]).cells (n + m - i) ++ Builtin.zeroCells (Value.agg #[.int .i64 0, .int .i64 0, .int .i64 0]).cells (G - (n + m)) := ⟨_, rfl⟩
  rw [← hG] at hrz ⊢
  rw [← hROW] at hrz ⊢
  have hRl : (n + m) * 3 ≤ ROW.size := by
    rw [hROW, Array.size_append, Array.size_append, size_zeroCells, size_zeroCells, List.size_toArray, List.length_take]
    have : (Value.agg #[.int .i64 0, .int .i64 0, .int .i64 0]).cells.size = 3 := by decide
    rw [this]
    omega
  obtain ⟨W1, hW1⟩ : ∃ W1, W1 = w.drew.alloc (.cells ROW 51) := ⟨_, rfl⟩
  rw [← hW1] at hrz
  have hN : ∀ j, j < (n + m) * 3 → (W1.cell? ⟨w.heap.size, j, none⟩).isSome = true := fun j hj => by
    rw [hW1, World.cell?_alloc_at (w := w.drew) ROW _ w.heap.size j rfl, Array.getElem?_eq_getElem (by omega)]; rfl
  have hNf : ∀ j, W1.frozen? ⟨w.heap.size, j, none⟩ = false := fun j => by rw [hW1]; exact World.frozen?_alloc_at (w := w.drew) ROW _ w.heap.size j rfl
  have hOb : ∀ j v, w.cell? ⟨b, j, none⟩ = some v → W1.cell? ⟨b, j, none⟩ = some v := fun j v h => by rw [hW1, World.cell?_alloc_past (w := w.drew) _ b j hbw]; exact h
  have hOv : ∀ j v, w.cell? ⟨vb, j, none⟩ = some v → W1.cell? ⟨vb, j, none⟩ = some v := fun j v h => by rw [hW1, World.cell?_alloc_past (w := w.drew) _ vb j hvw]; exact h
  have hmin1 : Nat.min m (n + m - i) = m := by simp only [Nat.min_def]; split <;> omega
  have hmin2 : Nat.min (n - i) (n + m - (i + m)) = n - i := by simp only [Nat.min_def]; split <;> omega
  have hcpA : ∀ (W : World), (∀ x, W.cell? x = W1.cell? x) → (∀ x, W.frozen? x = W1.frozen? x) → ∀ ty dc, (Builtin.copy_ #[22, 22] ty #[.slice (some ⟨w.heap.size, i * 3, none⟩) (n + m - i) dc, .slice (some ⟨vb, 0, none⟩) m vc]).run Try.prog W = .ok (goInt (Nat.min m (n + m - i))) (W.setCells w.heap.size (i * 3) vs) := fun W hWc hWf ty dc =>
    Go.Nilo.run_copy_rows W _ _ ty 51 w.heap.size (i * 3) (n + m - i) dc ⟨vb, 0, none⟩ m vc 3 vs Try.underlying22 szX65 (by rw [hvl, hmin1])
      (fun j v hj => by rw [Addr.add_lit, hWc, Nat.zero_add]; exact hOv _ v (hvs j v hj))
      (fun j hj => by rw [hWc]; exact hN _ (by omega)) (fun j hj => by rw [hWf]; exact hNf _) h1v
  have hGn : n + m ≤ G := by rw [hG]; exact grownCap_ge w _ _ _
  have hG63 : G ≤ 9223372036854775807 := by
    have := grownCap_le_maxLen w (n + m) c 51 (by unfold maxLen; omega)
    rw [← hG] at this
    unfold maxLen at this
    omega
  have hGi : ¬ (G = i) := by omega
  have hGim : ¬ (G = i + m) := by omega
  have hci : ¬ (c = i) := by omega
  have hbN : b ≠ w.heap.size := by omega
  have hdl : (cs.drop (i * 3)).length = (n - i) * 3 := by rw [List.length_drop, hcl]; omega
  have hcpB : ∀ (W : World), (∀ x, W.cell? x = (W1.setCells w.heap.size (i * 3) vs).cell? x) → (∀ x, W.frozen? x = (W1.setCells w.heap.size (i * 3) vs).frozen? x) → ∀ ty dc sc, (Builtin.copy_ #[22, 22] ty #[.slice (some ⟨w.heap.size, (i + m) * 3, none⟩) (n + m - (i + m)) dc, .slice (some ⟨b, i * 3, none⟩) (n - i) sc]).run Try.prog W = .ok (goInt (Nat.min (n - i) (n + m - (i + m)))) (W.setCells w.heap.size ((i + m) * 3) (cs.drop (i * 3))) := fun W hWc hWf ty dc sc =>
    Go.Nilo.run_copy_rows W _ _ ty 51 w.heap.size ((i + m) * 3) (n + m - (i + m)) dc ⟨b, i * 3, none⟩ (n - i) sc 3 (cs.drop (i * 3)) Try.underlying22 szX65 (by rw [hdl, hmin2])
      (fun j v hj => by
        rw [Addr.add_lit, hWc, World.cell?_setCells_out _ _ _ _ _ (fun h _ => absurd h hbN)]
        exact hOb _ v (hcs (i * 3 + j) v (by rwa [List.getElem?_drop] at hj)))
      (fun j hj => by rw [hWc]; exact Go.Proofs.isSome_setCells _ vs _ _ (fun t ht => hN _ (by omega)) _ (hN _ (by omega)))
      (fun j hj => by rw [hWf, World.frozen?_setCells]; exact hNf _) (fun v hv => h1c v (List.mem_of_mem_drop hv))
  subst hW1
  have hE1 : ∀ x, ((w.alloc (.cells ROW 51)).drew).cell? x = (w.drew.alloc (.cells ROW 51)).cell? x := fun x => rfl
  have hE2 : ∀ x, ((w.alloc (.cells ROW 51)).drew).frozen? x = (w.drew.alloc (.cells ROW 51)).frozen? x := fun x => rfl
  have hF1 : ∀ x, (((w.alloc (.cells ROW 51)).drew.setCells w.heap.size (i * 3) vs).drew).cell? x = ((w.drew.alloc (.cells ROW 51)).setCells w.heap.size (i * 3) vs).cell? x := fun x => rfl
  have hF2 : ∀ x, (((w.alloc (.cells ROW 51)).drew.setCells w.heap.size (i * 3) vs).drew).frozen? x = ((w.drew.alloc (.cells ROW 51)).setCells w.heap.size (i * 3) vs).frozen? x := fun x => rfl
  have hw1 : IntKind.i64.wrap ((i : Int) + (m : Int)) = (i : Int) + (m : Int) := by rw [IntKind.wrap_i64]; omega
  have hb1 : (0 : Int) ≤ (i : Int) + (m : Int) := by omega
  have hin : i ≤ n := by omega
  have htn : ((i : Int) + (m : Int)).toNat = i + m := by omega
  have hb3 : (i : Int) ≤ (n : Int) := by omega
  clear hkk hik hold hROW hG hRl hmin1 hmin2
  go_enter Try.func65, Try.ntmps65
  go_wp2_with (first
    | (at_builtin; refine Lib.wpList_append_run _ rfl _ _ _ _ rfl _ _ rfl rfl _ _ (hrz _) ?_)
    | (at_builtin; refine Go.Proofs.wpList_copy_runI _ rfl _ _ 22 22 rfl _ _ rfl rfl (hcpA _ hE1 hE2 _ _) ?_)
    | (at_builtin; refine Go.Proofs.wpList_copy_runI _ rfl _ _ 22 22 rfl _ _ rfl rfl (hcpB _ (fun _ => rfl) (fun _ => rfl) _ _ _) ?_))
  go_region_law (refine Go.Proofs.step_copy_runI rfl _ _ 22 22 rfl (.slice (some ⟨w.heap.size, (i + m) * 3, none⟩) (n + m - (i + m)) (G - (i + m))) (.slice (some ⟨b, i * 3, none⟩) (n - i) (c - i)) (by simp [Act.eval, Act.put]) (by simp [Act.eval, Act.put]) (hcpB _ hF1 hF2 3 (G - (i + m)) (c - i)) ?_)
  go_wp2
  go_ret
  exact ⟨rfl, rfl⟩

set_option maxHeartbeats 4000000 in
set_option maxRecDepth 1000000 in
theorem ins_end65 (p : Option Addr) (n cap : Nat) (q : Option Addr) (m vc : Nat) (w w' : World) (r : Value) (hm : 0 < m) (hn : n ≤ cap) (hc63 : cap ≤ 9223372036854775807)
    (hr : ∀ ty, (Builtin.append_ #[22, 22] ty #[.slice p n cap, .slice q m vc]).run Try.prog w = .ok r w') :
    Calls Try.prog 65 #[.slice p n cap, .int .i64 n, .slice q m vc] w fun e w2 => e = .returned r ∧ w2 = w' := by
  have hz1 : ¬ ((m : Int) = 0) := by omega
  go_enter Try.func65, Try.ntmps65
  go_wp2_with (at_builtin; refine Lib.wpList_append_run _ rfl _ _ _ _ rfl _ _ rfl rfl _ _ (hr _) ?_)
  all_goals (go_ret; exact ⟨rfl, rfl⟩)
end

theorem slices_Insert_Lshare_Right_share_Right_ok {N : Nat} {G : Pers} {Lf : List Ent} {w : World} (s_ : List share_Right) (i_ : Int) (v : List share_Right) {s__p : Option Addr} {s__c : Nat} {v_p : Option Addr} {v_c : Nat}  (hc : Ctx G (.row s__p s__c (s_.map enc_share_Right) 51 3 :: .row v_p v_c (v.map enc_share_Right) 51 3 :: Lf) w) {res : (List share_Right)} (hF : slices_Insert_Lshare_Right_share_Right N s_ i_ v = some res) : Calls Try.prog 65 #[.slice s__p s_.length s__c, .int .i64 i_, .slice v_p v.length v_c] w (fun e w => ∃ (p'1 : Option Addr) (c'1 : Nat), e = .returned (.slice p'1 res.length c'1) ∧ Ctx G (.row p'1 c'1 (res.map enc_share_Right) 51 3 :: .row v_p v_c (v.map enc_share_Right) 51 3 :: Lf) w) := by
  unfold slices_Insert_Lshare_Right_share_Right at hF
  exact insert_ctx (ty0 := 0) sl_22 (by decide) one_enc_share_Right (fun p n cap q m vc w w' r h1 h2 h3 h4 => ins_end65 p n cap q m vc w w' r h1 h2 h3 h4) (fun _ _ _ _ => rfl) (fun b n c i vb m vc cs vs w h1 h2 h3 h4 h5 h6 h7 h8 h9 h10 h11 h12 h13 tA tB kA kB h14 h15 h16 h17 h18 => ins_shift65 b n c i vb m vc cs vs w h1 h2 h3 h4 h5 h6 h7 h8 h9 h10 h11 h12 h13 tA tB kA kB h14 h15 h16 h17 h18) (fun b n c i vb m vc cs vs w h1 h2 h3 h4 h5 h6 h7 h8 h9 h10 h11 h12 h13 => ins_grow65 b n c i vb m vc cs vs w h1 h2 h3 h4 h5 h6 h7 h8 h9 h10 h11 h12 h13) hc hF

def law09_ShareServed_b15 (N : Nat) (r_3 : (List api_Span) × Int) (r_5 : (List Int) × Int) (r_6 : (List Int) × Int) (s_1 : List api_Span) (got : List Int) (x : Int) : Option (Step ((List api_Span) × (List Int) × Int) (Bool)) :=
  cond (decide (x < ((r_3.1.length : Nat) : Int)))
  (Option.bind (getI got x) fun e_4 =>
  Option.bind (getI s_1 x) fun e_5 =>
  Option.bind (cond (decide (e_4 < e_5.Lo)) (some true) (Option.bind (getI got x) fun e_6 =>
  Option.bind (getI s_1 x) fun e_7 =>
  some (decide (e_7.Hi < e_6)))) fun t_6 =>
  Option.bind (cond t_6 (some true) (Option.bind (getI r_5.1 x) fun e_8 =>
  Option.bind (getI s_1 x) fun e_9 =>
  some (e_8 != e_9.Lo))) fun t_7 =>
  Option.bind (cond t_7 (some true) (Option.bind (getI r_6.1 x) fun e_10 =>
  Option.bind (getI s_1 x) fun e_11 =>
  some (e_10 != e_11.Hi))) fun t_8 =>
  cond t_8
  (some (.ret false))
  (some (.cont (s_1, got, W (x + 1)))))
  (some (.brk (s_1, got, x)))
def law09_ShareServed (N : Nat) (numbers : List Int) (a_ : Int) (b_ : Int) (at_ : Int) : Option (Bool) :=
  Option.bind (kit_New N numbers) fun r =>
  Option.bind (law09_Made N (⟨numbers, r.1, r.2⟩ : kit_Stream)) fun r_1 =>
  Option.bind (law09_span N ((W (a_)).tmod 900) (W (((W (a_)).tmod 900) + ((W (b_)).tmod 500)))) fun r_2 =>
  Option.bind (share_Shares N r_1.1 r_2) fun r_3 =>
  Option.bind (share_Real N r_1.1 (W (r_2.Lo + (W ((W ((W (at_)) * (W (r_2.Hi - r_2.Lo)))).tdiv 255))))) fun r_4 =>
  Option.bind (share_Real N r_1.1 r_2.Lo) fun r_5 =>
  Option.bind (share_Real N r_1.1 r_2.Hi) fun r_6 =>
  cond ((((((((r_3.2 != 0) || (r_4.2 != 0)) || (r_5.2 != 0)) || (r_6.2 != 0)) || (((r_3.1.length : Nat) : Int) != r_1.1.States)) || (((r_4.1.length : Nat) : Int) != r_1.1.States)) || (((r_5.1.length : Nat) : Int) != r_1.1.States)) || (((r_6.1.length : Nat) : Int) != r_1.1.States))
  (some false)
  (Option.bind (loopO (fun s15 => law09_ShareServed_b15 N r_3 r_5 r_6 s15.1 s15.2.1 s15.2.2) N (r_3.1, r_4.1, 0)) fun x15 =>
  exK x15 (fun s15 => Option.bind (law09_total N s15.2.1) fun r_7 =>
  cond (decide ((W (r_2.Lo + (W ((W ((W (at_)) * (W (r_2.Hi - r_2.Lo)))).tdiv 255)))) < r_7))
  (some false)
  (Option.bind (share_Short N r_1.1 (W (r_2.Lo + (W ((W ((W (at_)) * (W (r_2.Hi - r_2.Lo)))).tdiv 255))))) fun r_8 =>
  cond (((r_8.2 != 0) || (decide (r_8.1 < (-1)))) || (decide (((r_1.1.Rights.length : Nat) : Int) ≤ r_8.1)))
  (some false)
  (cond (r_8.1 == (-1))
  (Option.bind (share_Real N r_1.1 (W ((W (r_2.Lo + (W ((W ((W (at_)) * (W (r_2.Hi - r_2.Lo)))).tdiv 255)))) + 50))) fun r_9 =>
  Option.bind (cond (r_9.2 == 0) (Option.bind (kit_Same_int N r_9.1 s15.2.1) fun r_10 =>
  some r_10) (some false)) fun t_1 =>
  Option.bind (cond t_1 (Option.bind (law09_awake N) fun r_11 =>
  some r_11) (some false)) fun t_2 =>
  some t_2)
  (Option.bind (law09_CopyCompact N r_1.1) fun r_12 =>
  Option.bind (subO r_12.Rights 0 (W (r_8.1 + 1))) fun sub =>
  Option.bind (share_Real N (⟨r_12.States, sub⟩ : share_Compact) (W (r_2.Lo + (W ((W ((W (at_)) * (W (r_2.Hi - r_2.Lo)))).tdiv 255))))) fun r_13 =>
  Option.bind (cond (r_13.2 != 0) (some true) (Option.bind (kit_Same_int N r_13.1 s15.2.1) fun r_14 =>
  some (!r_14))) fun t_3 =>
  cond t_3
  (some false)
  (Option.bind (law09_CopyCompact N r_1.1) fun r_15 =>
  Option.bind (getI r_15.Rights r_8.1) fun e_1 =>
  Option.bind (slices_Delete_Lshare_Right_share_Right N r_15.Rights r_8.1 (W (r_8.1 + 1))) fun r_16 =>
  Option.bind (slices_Insert_Lshare_Right_share_Right N r_16 0 ([e_1] : List share_Right)) fun r_17 =>
  Option.bind (share_Real N (⟨r_15.States, r_17⟩ : share_Compact) (W (r_2.Lo + (W ((W ((W (at_)) * (W (r_2.Hi - r_2.Lo)))).tdiv 255))))) fun r_18 =>
  Option.bind (share_Real N (⟨r_1.1.States, ([e_1] : List share_Right)⟩ : share_Compact) (W (r_2.Lo + (W ((W ((W (at_)) * (W (r_2.Hi - r_2.Lo)))).tdiv 255))))) fun r_19 =>
  Option.bind (cond ((((r_18.2 == 0) && (r_19.2 == 0)) && (((r_18.1.length : Nat) : Int) == r_1.1.States)) && (((r_19.1.length : Nat) : Int) == r_1.1.States)) (Option.bind (getI r_18.1 e_1.State) fun e_2 =>
  Option.bind (getI r_19.1 e_1.State) fun e_3 =>
  some (decide (e_3 ≤ e_2))) (some false)) fun t_4 =>
  Option.bind (cond t_4 (Option.bind (law09_awake N) fun r_20 =>
  some r_20) (some false)) fun t_5 =>
  some t_5))))) some)
theorem law09_ShareServed_ok {N : Nat} {G : Pers} {Lf : List Ent} {w : World} (numbers : List Int) (a_ : Int) (b_ : Int) (at_ : Int) {numbers_p : Option Addr} {numbers_c : Nat} (h_numbers : Rd G 1 numbers_p numbers_c (numbers.map encI_u8)) (hc : Ctx G (Lf) w) {res : Bool} (hF : law09_ShareServed N numbers a_ b_ at_ = some res) : Calls Try.prog 12 #[.slice numbers_p numbers.length numbers_c, .int .u16 a_, .int .u16 b_, .int .u8 at_] w (fun e w => e = .returned (.bool res) ∧ Ctx G (Lf) w) := by
  unfold law09_ShareServed at hF
  refine fnIn (args := [.slice numbers_p numbers.length numbers_c, .int .u16 a_, .int .u16 b_, .int .u8 at_]) Try.func12 rfl Try.ntmps12 rfl fun a hf => ?_
  refine wp_seq_k fun K1 h1 => ?_
  refine cReg ?_
  refine stP hf rfl rfl rfl (pA rfl) fun a hf => ?_
  refine cNil ?_
  refine h1 _ _ ?_
  refine wp_seq_k fun K2 h2 => ?_
  refine cReg ?_
  refine stP hf rfl rfl rfl (pM rfl) fun a hf => ?_
  obtain ⟨r, hr, hF⟩ := bnd_some hF
  refine stC (vs := [.slice numbers_p numbers.length numbers_c]) (caps := []) hf rfl rfl rfl en_27 rfl rfl rfl rfl (kit_New_ok numbers h_numbers hc hr) ?_
  rintro _ w ⟨b_1, rfl, hc⟩
  refine ⟨_, rfl, fun a hf => ?_⟩
  obtain ⟨r_1, hr_1, hF⟩ := bnd_some hF
  refine stC (vs := [.pointer (some ⟨b_1, 0, none⟩)]) (caps := []) hf rfl rfl rfl en_62 rfl rfl rfl rfl (law09_Made_ok (⟨numbers, r.1, r.2⟩ : kit_Stream) h_numbers (hc.pick k0) hr_1) ?_
  rintro _ w ⟨p_1, c_1, rfl, hc⟩
  refine ⟨_, rfl, fun a hf => ?_⟩
  refine stAl (cs := [.int .i64 0, .slice none 0 0]) hf hc rfl rfl zr_24 rfl fun b_2 a w hf hc => ?_
  refine stSt (vs := [.int .i64 r_1.1.States, .slice p_1 r_1.1.Rights.length c_1]) hf hc rfl rfl rfl rfl sz_24 rfl rfl u0 fun w hc => ?_
  refine cNil ?_
  refine h2 _ _ ?_
  refine wp_seq_k fun K3 h3 => ?_
  refine cReg ?_
  refine stP hf rfl rfl rfl (pM rfl) fun a hf => ?_
  refine stP hf rfl rfl rfl (pCv Try.underlying54 Try.underlying3 rfl) fun a hf => ?_
  refine stP hf rfl rfl rfl (pRem rfl rfl (by decide)) fun a hf => ?_
  refine stP hf rfl rfl rfl (pA rfl) fun a hf => ?_
  refine cNil ?_
  refine h3 _ _ ?_
  refine wp_seq_k fun K4 h4 => ?_
  refine cReg ?_
  refine stP hf rfl rfl rfl (pM rfl) fun a hf => ?_
  refine stP hf rfl rfl rfl (pM rfl) fun a hf => ?_
  refine stP hf rfl rfl rfl (pM rfl) fun a hf => ?_
  refine stP hf rfl rfl rfl (pCv Try.underlying54 Try.underlying3 rfl) fun a hf => ?_
  refine stP hf rfl rfl rfl (pRem rfl rfl (by decide)) fun a hf => ?_
  refine stP hf rfl rfl rfl (pAdd rfl rfl) fun a hf => ?_
  obtain ⟨r_2, hr_2, hF⟩ := bnd_some hF
  refine stE hf hc rfl rfl rfl (eC (v := .agg #[.int .i64 r_2.Lo, .int .i64 r_2.Hi]) (vs := [.int .i64 ((W (a_)).tmod 900), .int .i64 (W (((W (a_)).tmod 900) + ((W (b_)).tmod 500)))]) (caps := []) en_60 rfl rfl rfl rfl (fun w hc => law09_span_ok ((W (a_)).tmod 900) (W (((W (a_)).tmod 900) + ((W (b_)).tmod 500))) hc hr_2)) fun a w hf hc => ?_
  refine stAl (cs := [.int .i64 0, .int .i64 0]) hf hc rfl rfl zr_26 rfl fun b_3 a w hf hc => ?_
  refine stSt (vs := [.int .i64 r_2.Lo, .int .i64 r_2.Hi]) hf hc rfl rfl rfl rfl sz_26 rfl rfl u0 fun w hc => ?_
  refine cNil ?_
  refine h4 _ _ ?_
  refine wp_seq_k fun K5 h5 => ?_
  refine cReg ?_
  refine stP hf rfl rfl rfl (pFA fa_26_0 rfl) fun a hf => ?_
  refine stE hf hc rfl rfl rfl (eLd1 sc_3 rfl (cell_box m0 rfl)) fun a w hf hc => ?_
  refine stP hf rfl rfl rfl (pM rfl) fun a hf => ?_
  refine stP hf rfl rfl rfl (pCv Try.underlying5 Try.underlying3 rfl) fun a hf => ?_
  refine stP hf rfl rfl rfl (pFA fa_26_1 rfl) fun a hf => ?_
  refine stE hf hc rfl rfl rfl (eLd1 sc_3 rfl (cell_box m0 rfl)) fun a w hf hc => ?_
  refine stP hf rfl rfl rfl (pFA fa_26_0 rfl) fun a hf => ?_
  refine stE hf hc rfl rfl rfl (eLd1 sc_3 rfl (cell_box m0 rfl)) fun a w hf hc => ?_
  refine stP hf rfl rfl rfl (pSub rfl rfl) fun a hf => ?_
  refine stP hf rfl rfl rfl (pMul rfl rfl) fun a hf => ?_
  refine stP hf rfl rfl rfl (pQuo rfl rfl (by decide)) fun a hf => ?_
  refine stP hf rfl rfl rfl (pAdd rfl rfl) fun a hf => ?_
  refine stP hf rfl rfl rfl (pA rfl) fun a hf => ?_
  refine cNil ?_
  refine h5 _ _ ?_
  refine wp_seq_k fun K6 h6 => ?_
  refine cReg ?_
  refine stE hf hc rfl rfl rfl (eLdN (vs := [.int .i64 r_1.1.States, .slice p_1 r_1.1.Rights.length c_1]) ag_24 rfl rfl (cells_box (n := 2) m1 rfl)) fun a w hf hc => ?_
  refine stE hf hc rfl rfl rfl (eLdN (vs := [.int .i64 r_2.Lo, .int .i64 r_2.Hi]) ag_26 rfl rfl (cells_box (n := 2) m0 rfl)) fun a w hf hc => ?_
  obtain ⟨r_3, hr_3, hF⟩ := bnd_some hF
  obtain ⟨G1, hle1, hrd1, hc, hth1⟩ := lend hc k2
  refine stC (vs := [.agg #[.int .i64 r_1.1.States, .slice p_1 r_1.1.Rights.length c_1], .agg #[.int .i64 r_2.Lo, .int .i64 r_2.Hi]]) (caps := []) hf rfl rfl rfl en_21 rfl rfl rfl rfl (share_Shares_ok r_1.1 r_2 hrd1 hc hr_3) ?_
  rintro _ w ⟨p_2, c_2, rfl, hc⟩
  refine ⟨_, rfl, fun a hf => ?_⟩
  replace hc := hth1 _ _ hc
  refine stP hf rfl rfl rfl (pM rfl) fun a hf => ?_
  refine stP hf rfl rfl rfl (pX rfl rfl) fun a hf => ?_
  refine stP hf rfl rfl rfl (pX rfl rfl) fun a hf => ?_
  refine stP hf rfl rfl rfl (pA rfl) fun a hf => ?_
  refine stP hf rfl rfl rfl (pA rfl) fun a hf => ?_
  refine cNil ?_
  refine h6 _ _ ?_
  refine wp_seq_k fun K7 h7 => ?_
  refine cReg ?_
  refine stE hf hc rfl rfl rfl (eLdN (vs := [.int .i64 r_1.1.States, .slice p_1 r_1.1.Rights.length c_1]) ag_24 rfl rfl (cells_box (n := 2) m3 rfl)) fun a w hf hc => ?_
  refine stP hf rfl rfl rfl (pM rfl) fun a hf => ?_
  obtain ⟨r_4, hr_4, hF⟩ := bnd_some hF
  obtain ⟨G1, hle1, hrd1, hc, hth1⟩ := lend hc k0
  refine stC (vs := [.agg #[.int .i64 r_1.1.States, .slice p_1 r_1.1.Rights.length c_1], .int .i64 (W (r_2.Lo + (W ((W ((W (at_)) * (W (r_2.Hi - r_2.Lo)))).tdiv 255))))]) (caps := []) hf rfl rfl rfl en_18 rfl rfl rfl rfl (share_Real_ok r_1.1 (W (r_2.Lo + (W ((W ((W (at_)) * (W (r_2.Hi - r_2.Lo)))).tdiv 255)))) hrd1 hc hr_4) ?_
  rintro _ w ⟨p_3, c_3, rfl, hc⟩
  refine ⟨_, rfl, fun a hf => ?_⟩
  replace hc := hth1 _ _ hc
  refine stP hf rfl rfl rfl (pM rfl) fun a hf => ?_
  refine stP hf rfl rfl rfl (pX rfl rfl) fun a hf => ?_
  refine stP hf rfl rfl rfl (pX rfl rfl) fun a hf => ?_
  refine stP hf rfl rfl rfl (pA rfl) fun a hf => ?_
  refine stP hf rfl rfl rfl (pA rfl) fun a hf => ?_
  refine cNil ?_
  refine h7 _ _ ?_
  refine wp_seq_k fun K8 h8 => ?_
  refine cReg ?_
  refine stE hf hc rfl rfl rfl (eLdN (vs := [.int .i64 r_1.1.States, .slice p_1 r_1.1.Rights.length c_1]) ag_24 rfl rfl (cells_box (n := 2) m4 rfl)) fun a w hf hc => ?_
  refine stP hf rfl rfl rfl (pFA fa_26_0 rfl) fun a hf => ?_
  refine stE hf hc rfl rfl rfl (eLd1 sc_3 rfl (cell_box m3 rfl)) fun a w hf hc => ?_
  obtain ⟨r_5, hr_5, hF⟩ := bnd_some hF
  obtain ⟨G1, hle1, hrd1, hc, hth1⟩ := lend hc k0
  refine stC (vs := [.agg #[.int .i64 r_1.1.States, .slice p_1 r_1.1.Rights.length c_1], .int .i64 r_2.Lo]) (caps := []) hf rfl rfl rfl en_18 rfl rfl rfl rfl (share_Real_ok r_1.1 r_2.Lo hrd1 hc hr_5) ?_
  rintro _ w ⟨p_4, c_4, rfl, hc⟩
  refine ⟨_, rfl, fun a hf => ?_⟩
  replace hc := hth1 _ _ hc
  refine stP hf rfl rfl rfl (pM rfl) fun a hf => ?_
  refine stP hf rfl rfl rfl (pX rfl rfl) fun a hf => ?_
  refine stP hf rfl rfl rfl (pX rfl rfl) fun a hf => ?_
  refine stP hf rfl rfl rfl (pA rfl) fun a hf => ?_
  refine stP hf rfl rfl rfl (pA rfl) fun a hf => ?_
  refine cNil ?_
  refine h8 _ _ ?_
  refine wp_seq_k fun K9 h9 => ?_
  refine cReg ?_
  refine stE hf hc rfl rfl rfl (eLdN (vs := [.int .i64 r_1.1.States, .slice p_1 r_1.1.Rights.length c_1]) ag_24 rfl rfl (cells_box (n := 2) m5 rfl)) fun a w hf hc => ?_
  refine stP hf rfl rfl rfl (pFA fa_26_1 rfl) fun a hf => ?_
  refine stE hf hc rfl rfl rfl (eLd1 sc_3 rfl (cell_box m4 rfl)) fun a w hf hc => ?_
  obtain ⟨r_6, hr_6, hF⟩ := bnd_some hF
  obtain ⟨G1, hle1, hrd1, hc, hth1⟩ := lend hc k0
  refine stC (vs := [.agg #[.int .i64 r_1.1.States, .slice p_1 r_1.1.Rights.length c_1], .int .i64 r_2.Hi]) (caps := []) hf rfl rfl rfl en_18 rfl rfl rfl rfl (share_Real_ok r_1.1 r_2.Hi hrd1 hc hr_6) ?_
  rintro _ w ⟨p_5, c_5, rfl, hc⟩
  refine ⟨_, rfl, fun a hf => ?_⟩
  replace hc := hth1 _ _ hc
  refine stP hf rfl rfl rfl (pM rfl) fun a hf => ?_
  refine stP hf rfl rfl rfl (pX rfl rfl) fun a hf => ?_
  refine stP hf rfl rfl rfl (pX rfl rfl) fun a hf => ?_
  refine stP hf rfl rfl rfl (pA rfl) fun a hf => ?_
  refine stP hf rfl rfl rfl (pA rfl) fun a hf => ?_
  refine cNil ?_
  refine h9 _ _ ?_
  refine wp_seq_k fun K10 h10 => ?_
  refine wp_seq_k fun K11 h11 => ?_
  refine cReg ?_
  refine stP hf rfl rfl rfl (pM rfl) fun a hf => ?_
  refine stP hf rfl rfl rfl (pNe rfl rfl) fun a hf => ?_
  refine stP hf rfl rfl rfl (pM rfl) fun a hf => ?_
  refine stCut 3 (fun a w => Has 311 a [(9, .pointer (some ⟨b_2, 0, none⟩)), (12, .int .i64 (W (r_2.Lo + (W ((W ((W (at_)) * (W (r_2.Hi - r_2.Lo)))).tdiv 255))))), (13, .slice p_2 r_3.1.length c_2), (14, .int .i64 r_3.2), (15, .slice p_3 r_4.1.length c_3), (16, .int .i64 r_4.2), (17, .slice p_4 r_5.1.length c_4), (18, .int .i64 r_5.2), (19, .slice p_5 r_6.1.length c_5), (20, .int .i64 r_6.2), (83, .int .i64 r_3.2), (84, .bool (r_3.2 != 0)), (85, .bool (r_3.2 != 0)), (88, .bool ((r_3.2 != 0) || (r_4.2 != 0)))] ∧ Ctx G (.row p_1 c_1 (r_1.1.Rights.map enc_share_Right) 51 3 :: .row p_5 c_5 (r_6.1.map encI_i64) 3 1 :: .row p_4 c_4 (r_5.1.map encI_i64) 3 1 :: .row p_3 c_3 (r_4.1.map encI_i64) 3 1 :: .row p_2 c_2 (r_3.1.map enc_api_Span) 26 2 :: .box b_3 [.int .i64 r_2.Lo, .int .i64 r_2.Hi] 26 :: .box b_2 [.int .i64 r_1.1.States, .slice p_1 r_1.1.Rights.length c_1] 24 :: .box b_1 [.slice numbers_p numbers.length numbers_c, .int .i64 r_1.2.1, .int .i64 r_1.2.2] 161 :: Lf) w) ?_ ?_
  · cases hb : (r_3.2 != 0)
    · rw [hb] at hf
      refine stP hf rfl rfl rfl (pM rfl) fun a hf => ?_
      refine stP hf rfl rfl rfl (pNe rfl rfl) fun a hf => ?_
      refine stP hf rfl rfl rfl (pPf rfl rfl) fun a hf => ?_
      exact cNil ⟨hf.keep ⟨rfl, rfl, rfl, rfl, rfl, rfl, rfl, rfl, rfl, rfl, rfl, rfl, rfl, rfl, trivial⟩, hc⟩
    · rw [hb] at hf
      refine stS hf rfl rfl rfl fun a hf => ?_
      refine stS hf rfl rfl rfl fun a hf => ?_
      refine stP hf rfl rfl rfl (pPt rfl rfl) fun a hf => ?_
      exact cNil ⟨hf.keep ⟨rfl, rfl, rfl, rfl, rfl, rfl, rfl, rfl, rfl, rfl, rfl, rfl, rfl, rfl, trivial⟩, hc⟩
  intro a w ⟨hf, hc⟩
  refine stP hf rfl rfl rfl (pM rfl) fun a hf => ?_
  refine stCut 3 (fun a w => Has 311 a [(9, .pointer (some ⟨b_2, 0, none⟩)), (12, .int .i64 (W (r_2.Lo + (W ((W ((W (at_)) * (W (r_2.Hi - r_2.Lo)))).tdiv 255))))), (13, .slice p_2 r_3.1.length c_2), (14, .int .i64 r_3.2), (15, .slice p_3 r_4.1.length c_3), (16, .int .i64 r_4.2), (17, .slice p_4 r_5.1.length c_4), (18, .int .i64 r_5.2), (19, .slice p_5 r_6.1.length c_5), (20, .int .i64 r_6.2), (83, .int .i64 r_3.2), (84, .bool (r_3.2 != 0)), (85, .bool (r_3.2 != 0)), (88, .bool ((r_3.2 != 0) || (r_4.2 != 0))), (89, .bool ((r_3.2 != 0) || (r_4.2 != 0))), (92, .bool (((r_3.2 != 0) || (r_4.2 != 0)) || (r_5.2 != 0)))] ∧ Ctx G (.row p_1 c_1 (r_1.1.Rights.map enc_share_Right) 51 3 :: .row p_5 c_5 (r_6.1.map encI_i64) 3 1 :: .row p_4 c_4 (r_5.1.map encI_i64) 3 1 :: .row p_3 c_3 (r_4.1.map encI_i64) 3 1 :: .row p_2 c_2 (r_3.1.map enc_api_Span) 26 2 :: .box b_3 [.int .i64 r_2.Lo, .int .i64 r_2.Hi] 26 :: .box b_2 [.int .i64 r_1.1.States, .slice p_1 r_1.1.Rights.length c_1] 24 :: .box b_1 [.slice numbers_p numbers.length numbers_c, .int .i64 r_1.2.1, .int .i64 r_1.2.2] 161 :: Lf) w) ?_ ?_
  · cases hb : ((r_3.2 != 0) || (r_4.2 != 0))
    · rw [hb] at hf
      refine stP hf rfl rfl rfl (pM rfl) fun a hf => ?_
      refine stP hf rfl rfl rfl (pNe rfl rfl) fun a hf => ?_
      refine stP hf rfl rfl rfl (pPf rfl rfl) fun a hf => ?_
      exact cNil ⟨hf.keep ⟨rfl, rfl, rfl, rfl, rfl, rfl, rfl, rfl, rfl, rfl, rfl, rfl, rfl, rfl, rfl, rfl, trivial⟩, hc⟩
    · rw [hb] at hf
      refine stS hf rfl rfl rfl fun a hf => ?_
      refine stS hf rfl rfl rfl fun a hf => ?_
      refine stP hf rfl rfl rfl (pPt rfl rfl) fun a hf => ?_
      exact cNil ⟨hf.keep ⟨rfl, rfl, rfl, rfl, rfl, rfl, rfl, rfl, rfl, rfl, rfl, rfl, rfl, rfl, rfl, rfl, trivial⟩, hc⟩
  intro a w ⟨hf, hc⟩
  refine stP hf rfl rfl rfl (pM rfl) fun a hf => ?_
  refine stCut 3 (fun a w => Has 311 a [(9, .pointer (some ⟨b_2, 0, none⟩)), (12, .int .i64 (W (r_2.Lo + (W ((W ((W (at_)) * (W (r_2.Hi - r_2.Lo)))).tdiv 255))))), (13, .slice p_2 r_3.1.length c_2), (14, .int .i64 r_3.2), (15, .slice p_3 r_4.1.length c_3), (16, .int .i64 r_4.2), (17, .slice p_4 r_5.1.length c_4), (18, .int .i64 r_5.2), (19, .slice p_5 r_6.1.length c_5), (20, .int .i64 r_6.2), (83, .int .i64 r_3.2), (84, .bool (r_3.2 != 0)), (85, .bool (r_3.2 != 0)), (88, .bool ((r_3.2 != 0) || (r_4.2 != 0))), (89, .bool ((r_3.2 != 0) || (r_4.2 != 0))), (92, .bool (((r_3.2 != 0) || (r_4.2 != 0)) || (r_5.2 != 0))), (93, .bool (((r_3.2 != 0) || (r_4.2 != 0)) || (r_5.2 != 0))), (96, .bool ((((r_3.2 != 0) || (r_4.2 != 0)) || (r_5.2 != 0)) || (r_6.2 != 0)))] ∧ Ctx G (.row p_1 c_1 (r_1.1.Rights.map enc_share_Right) 51 3 :: .row p_5 c_5 (r_6.1.map encI_i64) 3 1 :: .row p_4 c_4 (r_5.1.map encI_i64) 3 1 :: .row p_3 c_3 (r_4.1.map encI_i64) 3 1 :: .row p_2 c_2 (r_3.1.map enc_api_Span) 26 2 :: .box b_3 [.int .i64 r_2.Lo, .int .i64 r_2.Hi] 26 :: .box b_2 [.int .i64 r_1.1.States, .slice p_1 r_1.1.Rights.length c_1] 24 :: .box b_1 [.slice numbers_p numbers.length numbers_c, .int .i64 r_1.2.1, .int .i64 r_1.2.2] 161 :: Lf) w) ?_ ?_
  · cases hb : (((r_3.2 != 0) || (r_4.2 != 0)) || (r_5.2 != 0))
    · rw [hb] at hf
      refine stP hf rfl rfl rfl (pM rfl) fun a hf => ?_
      refine stP hf rfl rfl rfl (pNe rfl rfl) fun a hf => ?_
      refine stP hf rfl rfl rfl (pPf rfl rfl) fun a hf => ?_
      exact cNil ⟨hf.keep ⟨rfl, rfl, rfl, rfl, rfl, rfl, rfl, rfl, rfl, rfl, rfl, rfl, rfl, rfl, rfl, rfl, rfl, rfl, trivial⟩, hc⟩
    · rw [hb] at hf
      refine stS hf rfl rfl rfl fun a hf => ?_
      refine stS hf rfl rfl rfl fun a hf => ?_
      refine stP hf rfl rfl rfl (pPt rfl rfl) fun a hf => ?_
      exact cNil ⟨hf.keep ⟨rfl, rfl, rfl, rfl, rfl, rfl, rfl, rfl, rfl, rfl, rfl, rfl, rfl, rfl, rfl, rfl, rfl, rfl, trivial⟩, hc⟩
  intro a w ⟨hf, hc⟩
  refine stP hf rfl rfl rfl (pM rfl) fun a hf => ?_
  refine stCut 6 (fun a w => Has 311 a [(9, .pointer (some ⟨b_2, 0, none⟩)), (12, .int .i64 (W (r_2.Lo + (W ((W ((W (at_)) * (W (r_2.Hi - r_2.Lo)))).tdiv 255))))), (13, .slice p_2 r_3.1.length c_2), (14, .int .i64 r_3.2), (15, .slice p_3 r_4.1.length c_3), (16, .int .i64 r_4.2), (17, .slice p_4 r_5.1.length c_4), (18, .int .i64 r_5.2), (19, .slice p_5 r_6.1.length c_5), (20, .int .i64 r_6.2), (83, .int .i64 r_3.2), (84, .bool (r_3.2 != 0)), (85, .bool (r_3.2 != 0)), (88, .bool ((r_3.2 != 0) || (r_4.2 != 0))), (89, .bool ((r_3.2 != 0) || (r_4.2 != 0))), (92, .bool (((r_3.2 != 0) || (r_4.2 != 0)) || (r_5.2 != 0))), (93, .bool (((r_3.2 != 0) || (r_4.2 != 0)) || (r_5.2 != 0))), (96, .bool ((((r_3.2 != 0) || (r_4.2 != 0)) || (r_5.2 != 0)) || (r_6.2 != 0))), (97, .bool ((((r_3.2 != 0) || (r_4.2 != 0)) || (r_5.2 != 0)) || (r_6.2 != 0))), (103, .bool (((((r_3.2 != 0) || (r_4.2 != 0)) || (r_5.2 != 0)) || (r_6.2 != 0)) || (((r_3.1.length : Nat) : Int) != r_1.1.States)))] ∧ Ctx G (.row p_1 c_1 (r_1.1.Rights.map enc_share_Right) 51 3 :: .row p_5 c_5 (r_6.1.map encI_i64) 3 1 :: .row p_4 c_4 (r_5.1.map encI_i64) 3 1 :: .row p_3 c_3 (r_4.1.map encI_i64) 3 1 :: .row p_2 c_2 (r_3.1.map enc_api_Span) 26 2 :: .box b_3 [.int .i64 r_2.Lo, .int .i64 r_2.Hi] 26 :: .box b_2 [.int .i64 r_1.1.States, .slice p_1 r_1.1.Rights.length c_1] 24 :: .box b_1 [.slice numbers_p numbers.length numbers_c, .int .i64 r_1.2.1, .int .i64 r_1.2.2] 161 :: Lf) w) ?_ ?_
  · cases hb : ((((r_3.2 != 0) || (r_4.2 != 0)) || (r_5.2 != 0)) || (r_6.2 != 0))
    · rw [hb] at hf
      refine stP hf rfl rfl rfl (pM rfl) fun a hf => ?_
      refine stP hf rfl rfl rfl (pLenS Try.underlying41 rfl) fun a hf => ?_
      refine stP hf rfl rfl rfl (pFA fa_24_0 rfl) fun a hf => ?_
      refine stE hf hc rfl rfl rfl (eLd1 sc_3 rfl (cell_box m6 rfl)) fun a w hf hc => ?_
      refine stP hf rfl rfl rfl (pNe rfl rfl) fun a hf => ?_
      refine stP hf rfl rfl rfl (pPf rfl rfl) fun a hf => ?_
      exact cNil ⟨hf.keep ⟨rfl, rfl, rfl, rfl, rfl, rfl, rfl, rfl, rfl, rfl, rfl, rfl, rfl, rfl, rfl, rfl, rfl, rfl, rfl, rfl, trivial⟩, hc⟩
    · rw [hb] at hf
      refine stS hf rfl rfl rfl fun a hf => ?_
      refine stS hf rfl rfl rfl fun a hf => ?_
      refine stS hf rfl rfl rfl fun a hf => ?_
      refine stS hf rfl rfl rfl fun a hf => ?_
      refine stS hf rfl rfl rfl fun a hf => ?_
      refine stP hf rfl rfl rfl (pPt rfl rfl) fun a hf => ?_
      exact cNil ⟨hf.keep ⟨rfl, rfl, rfl, rfl, rfl, rfl, rfl, rfl, rfl, rfl, rfl, rfl, rfl, rfl, rfl, rfl, rfl, rfl, rfl, rfl, trivial⟩, hc⟩
  intro a w ⟨hf, hc⟩
  refine stP hf rfl rfl rfl (pM rfl) fun a hf => ?_
  refine stCut 6 (fun a w => Has 311 a [(9, .pointer (some ⟨b_2, 0, none⟩)), (12, .int .i64 (W (r_2.Lo + (W ((W ((W (at_)) * (W (r_2.Hi - r_2.Lo)))).tdiv 255))))), (13, .slice p_2 r_3.1.length c_2), (14, .int .i64 r_3.2), (15, .slice p_3 r_4.1.length c_3), (16, .int .i64 r_4.2), (17, .slice p_4 r_5.1.length c_4), (18, .int .i64 r_5.2), (19, .slice p_5 r_6.1.length c_5), (20, .int .i64 r_6.2), (83, .int .i64 r_3.2), (84, .bool (r_3.2 != 0)), (85, .bool (r_3.2 != 0)), (88, .bool ((r_3.2 != 0) || (r_4.2 != 0))), (89, .bool ((r_3.2 != 0) || (r_4.2 != 0))), (92, .bool (((r_3.2 != 0) || (r_4.2 != 0)) || (r_5.2 != 0))), (93, .bool (((r_3.2 != 0) || (r_4.2 != 0)) || (r_5.2 != 0))), (96, .bool ((((r_3.2 != 0) || (r_4.2 != 0)) || (r_5.2 != 0)) || (r_6.2 != 0))), (97, .bool ((((r_3.2 != 0) || (r_4.2 != 0)) || (r_5.2 != 0)) || (r_6.2 != 0))), (103, .bool (((((r_3.2 != 0) || (r_4.2 != 0)) || (r_5.2 != 0)) || (r_6.2 != 0)) || (((r_3.1.length : Nat) : Int) != r_1.1.States))), (104, .bool (((((r_3.2 != 0) || (r_4.2 != 0)) || (r_5.2 != 0)) || (r_6.2 != 0)) || (((r_3.1.length : Nat) : Int) != r_1.1.States))), (110, .bool ((((((r_3.2 != 0) || (r_4.2 != 0)) || (r_5.2 != 0)) || (r_6.2 != 0)) || (((r_3.1.length : Nat) : Int) != r_1.1.States)) || (((r_4.1.length : Nat) : Int) != r_1.1.States)))] ∧ Ctx G (.row p_1 c_1 (r_1.1.Rights.map enc_share_Right) 51 3 :: .row p_5 c_5 (r_6.1.map encI_i64) 3 1 :: .row p_4 c_4 (r_5.1.map encI_i64) 3 1 :: .row p_3 c_3 (r_4.1.map encI_i64) 3 1 :: .row p_2 c_2 (r_3.1.map enc_api_Span) 26 2 :: .box b_3 [.int .i64 r_2.Lo, .int .i64 r_2.Hi] 26 :: .box b_2 [.int .i64 r_1.1.States, .slice p_1 r_1.1.Rights.length c_1] 24 :: .box b_1 [.slice numbers_p numbers.length numbers_c, .int .i64 r_1.2.1, .int .i64 r_1.2.2] 161 :: Lf) w) ?_ ?_
  · cases hb : (((((r_3.2 != 0) || (r_4.2 != 0)) || (r_5.2 != 0)) || (r_6.2 != 0)) || (((r_3.1.length : Nat) : Int) != r_1.1.States))
    · rw [hb] at hf
      refine stP hf rfl rfl rfl (pM rfl) fun a hf => ?_
      refine stP hf rfl rfl rfl (pLenS Try.underlying36 rfl) fun a hf => ?_
      refine stP hf rfl rfl rfl (pFA fa_24_0 rfl) fun a hf => ?_
      refine stE hf hc rfl rfl rfl (eLd1 sc_3 rfl (cell_box m6 rfl)) fun a w hf hc => ?_
      refine stP hf rfl rfl rfl (pNe rfl rfl) fun a hf => ?_
      refine stP hf rfl rfl rfl (pPf rfl rfl) fun a hf => ?_
      exact cNil ⟨hf.keep ⟨rfl, rfl, rfl, rfl, rfl, rfl, rfl, rfl, rfl, rfl, rfl, rfl, rfl, rfl, rfl, rfl, rfl, rfl, rfl, rfl, rfl, rfl, trivial⟩, hc⟩
    · rw [hb] at hf
      refine stS hf rfl rfl rfl fun a hf => ?_
      refine stS hf rfl rfl rfl fun a hf => ?_
      refine stS hf rfl rfl rfl fun a hf => ?_
      refine stS hf rfl rfl rfl fun a hf => ?_
      refine stS hf rfl rfl rfl fun a hf => ?_
      refine stP hf rfl rfl rfl (pPt rfl rfl) fun a hf => ?_
      exact cNil ⟨hf.keep ⟨rfl, rfl, rfl, rfl, rfl, rfl, rfl, rfl, rfl, rfl, rfl, rfl, rfl, rfl, rfl, rfl, rfl, rfl, rfl, rfl, rfl, rfl, trivial⟩, hc⟩
  intro a w ⟨hf, hc⟩
  refine stP hf rfl rfl rfl (pM rfl) fun a hf => ?_
  refine stCut 6 (fun a w => Has 311 a [(9, .pointer (some ⟨b_2, 0, none⟩)), (12, .int .i64 (W (r_2.Lo + (W ((W ((W (at_)) * (W (r_2.Hi - r_2.Lo)))).tdiv 255))))), (13, .slice p_2 r_3.1.length c_2), (14, .int .i64 r_3.2), (15, .slice p_3 r_4.1.length c_3), (16, .int .i64 r_4.2), (17, .slice p_4 r_5.1.length c_4), (18, .int .i64 r_5.2), (19, .slice p_5 r_6.1.length c_5), (20, .int .i64 r_6.2), (83, .int .i64 r_3.2), (84, .bool (r_3.2 != 0)), (85, .bool (r_3.2 != 0)), (88, .bool ((r_3.2 != 0) || (r_4.2 != 0))), (89, .bool ((r_3.2 != 0) || (r_4.2 != 0))), (92, .bool (((r_3.2 != 0) || (r_4.2 != 0)) || (r_5.2 != 0))), (93, .bool (((r_3.2 != 0) || (r_4.2 != 0)) || (r_5.2 != 0))), (96, .bool ((((r_3.2 != 0) || (r_4.2 != 0)) || (r_5.2 != 0)) || (r_6.2 != 0))), (97, .bool ((((r_3.2 != 0) || (r_4.2 != 0)) || (r_5.2 != 0)) || (r_6.2 != 0))), (103, .bool (((((r_3.2 != 0) || (r_4.2 != 0)) || (r_5.2 != 0)) || (r_6.2 != 0)) || (((r_3.1.length : Nat) : Int) != r_1.1.States))), (104, .bool (((((r_3.2 != 0) || (r_4.2 != 0)) || (r_5.2 != 0)) || (r_6.2 != 0)) || (((r_3.1.length : Nat) : Int) != r_1.1.States))), (110, .bool ((((((r_3.2 != 0) || (r_4.2 != 0)) || (r_5.2 != 0)) || (r_6.2 != 0)) || (((r_3.1.length : Nat) : Int) != r_1.1.States)) || (((r_4.1.length : Nat) : Int) != r_1.1.States))), (111, .bool ((((((r_3.2 != 0) || (r_4.2 != 0)) || (r_5.2 != 0)) || (r_6.2 != 0)) || (((r_3.1.length : Nat) : Int) != r_1.1.States)) || (((r_4.1.length : Nat) : Int) != r_1.1.States))), (117, .bool (((((((r_3.2 != 0) || (r_4.2 != 0)) || (r_5.2 != 0)) || (r_6.2 != 0)) || (((r_3.1.length : Nat) : Int) != r_1.1.States)) || (((r_4.1.length : Nat) : Int) != r_1.1.States)) || (((r_5.1.length : Nat) : Int) != r_1.1.States)))] ∧ Ctx G (.row p_1 c_1 (r_1.1.Rights.map enc_share_Right) 51 3 :: .row p_5 c_5 (r_6.1.map encI_i64) 3 1 :: .row p_4 c_4 (r_5.1.map encI_i64) 3 1 :: .row p_3 c_3 (r_4.1.map encI_i64) 3 1 :: .row p_2 c_2 (r_3.1.map enc_api_Span) 26 2 :: .box b_3 [.int .i64 r_2.Lo, .int .i64 r_2.Hi] 26 :: .box b_2 [.int .i64 r_1.1.States, .slice p_1 r_1.1.Rights.length c_1] 24 :: .box b_1 [.slice numbers_p numbers.length numbers_c, .int .i64 r_1.2.1, .int .i64 r_1.2.2] 161 :: Lf) w) ?_ ?_
  · cases hb : ((((((r_3.2 != 0) || (r_4.2 != 0)) || (r_5.2 != 0)) || (r_6.2 != 0)) || (((r_3.1.length : Nat) : Int) != r_1.1.States)) || (((r_4.1.length : Nat) : Int) != r_1.1.States))
    · rw [hb] at hf
      refine stP hf rfl rfl rfl (pM rfl) fun a hf => ?_
      refine stP hf rfl rfl rfl (pLenS Try.underlying36 rfl) fun a hf => ?_
      refine stP hf rfl rfl rfl (pFA fa_24_0 rfl) fun a hf => ?_
      refine stE hf hc rfl rfl rfl (eLd1 sc_3 rfl (cell_box m6 rfl)) fun a w hf hc => ?_
      refine stP hf rfl rfl rfl (pNe rfl rfl) fun a hf => ?_
      refine stP hf rfl rfl rfl (pPf rfl rfl) fun a hf => ?_
      exact cNil ⟨hf.keep ⟨rfl, rfl, rfl, rfl, rfl, rfl, rfl, rfl, rfl, rfl, rfl, rfl, rfl, rfl, rfl, rfl, rfl, rfl, rfl, rfl, rfl, rfl, rfl, rfl, trivial⟩, hc⟩
    · rw [hb] at hf
      refine stS hf rfl rfl rfl fun a hf => ?_
      refine stS hf rfl rfl rfl fun a hf => ?_
      refine stS hf rfl rfl rfl fun a hf => ?_
      refine stS hf rfl rfl rfl fun a hf => ?_
      refine stS hf rfl rfl rfl fun a hf => ?_
      refine stP hf rfl rfl rfl (pPt rfl rfl) fun a hf => ?_
      exact cNil ⟨hf.keep ⟨rfl, rfl, rfl, rfl, rfl, rfl, rfl, rfl, rfl, rfl, rfl, rfl, rfl, rfl, rfl, rfl, rfl, rfl, rfl, rfl, rfl, rfl, rfl, rfl, trivial⟩, hc⟩
  intro a w ⟨hf, hc⟩
  refine stP hf rfl rfl rfl (pM rfl) fun a hf => ?_
  refine stCut 6 (fun a w => Has 311 a [(9, .pointer (some ⟨b_2, 0, none⟩)), (12, .int .i64 (W (r_2.Lo + (W ((W ((W (at_)) * (W (r_2.Hi - r_2.Lo)))).tdiv 255))))), (13, .slice p_2 r_3.1.length c_2), (14, .int .i64 r_3.2), (15, .slice p_3 r_4.1.length c_3), (16, .int .i64 r_4.2), (17, .slice p_4 r_5.1.length c_4), (18, .int .i64 r_5.2), (19, .slice p_5 r_6.1.length c_5), (20, .int .i64 r_6.2), (83, .int .i64 r_3.2), (84, .bool (r_3.2 != 0)), (85, .bool (r_3.2 != 0)), (88, .bool ((r_3.2 != 0) || (r_4.2 != 0))), (89, .bool ((r_3.2 != 0) || (r_4.2 != 0))), (92, .bool (((r_3.2 != 0) || (r_4.2 != 0)) || (r_5.2 != 0))), (93, .bool (((r_3.2 != 0) || (r_4.2 != 0)) || (r_5.2 != 0))), (96, .bool ((((r_3.2 != 0) || (r_4.2 != 0)) || (r_5.2 != 0)) || (r_6.2 != 0))), (97, .bool ((((r_3.2 != 0) || (r_4.2 != 0)) || (r_5.2 != 0)) || (r_6.2 != 0))), (103, .bool (((((r_3.2 != 0) || (r_4.2 != 0)) || (r_5.2 != 0)) || (r_6.2 != 0)) || (((r_3.1.length : Nat) : Int) != r_1.1.States))), (104, .bool (((((r_3.2 != 0) || (r_4.2 != 0)) || (r_5.2 != 0)) || (r_6.2 != 0)) || (((r_3.1.length : Nat) : Int) != r_1.1.States))), (110, .bool ((((((r_3.2 != 0) || (r_4.2 != 0)) || (r_5.2 != 0)) || (r_6.2 != 0)) || (((r_3.1.length : Nat) : Int) != r_1.1.States)) || (((r_4.1.length : Nat) : Int) != r_1.1.States))), (111, .bool ((((((r_3.2 != 0) || (r_4.2 != 0)) || (r_5.2 != 0)) || (r_6.2 != 0)) || (((r_3.1.length : Nat) : Int) != r_1.1.States)) || (((r_4.1.length : Nat) : Int) != r_1.1.States))), (117, .bool (((((((r_3.2 != 0) || (r_4.2 != 0)) || (r_5.2 != 0)) || (r_6.2 != 0)) || (((r_3.1.length : Nat) : Int) != r_1.1.States)) || (((r_4.1.length : Nat) : Int) != r_1.1.States)) || (((r_5.1.length : Nat) : Int) != r_1.1.States))), (118, .bool (((((((r_3.2 != 0) || (r_4.2 != 0)) || (r_5.2 != 0)) || (r_6.2 != 0)) || (((r_3.1.length : Nat) : Int) != r_1.1.States)) || (((r_4.1.length : Nat) : Int) != r_1.1.States)) || (((r_5.1.length : Nat) : Int) != r_1.1.States))), (124, .bool ((((((((r_3.2 != 0) || (r_4.2 != 0)) || (r_5.2 != 0)) || (r_6.2 != 0)) || (((r_3.1.length : Nat) : Int) != r_1.1.States)) || (((r_4.1.length : Nat) : Int) != r_1.1.States)) || (((r_5.1.length : Nat) : Int) != r_1.1.States)) || (((r_6.1.length : Nat) : Int) != r_1.1.States)))] ∧ Ctx G (.row p_1 c_1 (r_1.1.Rights.map enc_share_Right) 51 3 :: .row p_5 c_5 (r_6.1.map encI_i64) 3 1 :: .row p_4 c_4 (r_5.1.map encI_i64) 3 1 :: .row p_3 c_3 (r_4.1.map encI_i64) 3 1 :: .row p_2 c_2 (r_3.1.map enc_api_Span) 26 2 :: .box b_3 [.int .i64 r_2.Lo, .int .i64 r_2.Hi] 26 :: .box b_2 [.int .i64 r_1.1.States, .slice p_1 r_1.1.Rights.length c_1] 24 :: .box b_1 [.slice numbers_p numbers.length numbers_c, .int .i64 r_1.2.1, .int .i64 r_1.2.2] 161 :: Lf) w) ?_ ?_
  · cases hb : (((((((r_3.2 != 0) || (r_4.2 != 0)) || (r_5.2 != 0)) || (r_6.2 != 0)) || (((r_3.1.length : Nat) : Int) != r_1.1.States)) || (((r_4.1.length : Nat) : Int) != r_1.1.States)) || (((r_5.1.length : Nat) : Int) != r_1.1.States))
    · rw [hb] at hf
      refine stP hf rfl rfl rfl (pM rfl) fun a hf => ?_
      refine stP hf rfl rfl rfl (pLenS Try.underlying36 rfl) fun a hf => ?_
      refine stP hf rfl rfl rfl (pFA fa_24_0 rfl) fun a hf => ?_
      refine stE hf hc rfl rfl rfl (eLd1 sc_3 rfl (cell_box m6 rfl)) fun a w hf hc => ?_
      refine stP hf rfl rfl rfl (pNe rfl rfl) fun a hf => ?_
      refine stP hf rfl rfl rfl (pPf rfl rfl) fun a hf => ?_
      exact cNil ⟨hf.keep ⟨rfl, rfl, rfl, rfl, rfl, rfl, rfl, rfl, rfl, rfl, rfl, rfl, rfl, rfl, rfl, rfl, rfl, rfl, rfl, rfl, rfl, rfl, rfl, rfl, rfl, rfl, trivial⟩, hc⟩
    · rw [hb] at hf
      refine stS hf rfl rfl rfl fun a hf => ?_
      refine stS hf rfl rfl rfl fun a hf => ?_
      refine stS hf rfl rfl rfl fun a hf => ?_
      refine stS hf rfl rfl rfl fun a hf => ?_
      refine stS hf rfl rfl rfl fun a hf => ?_
      refine stP hf rfl rfl rfl (pPt rfl rfl) fun a hf => ?_
      exact cNil ⟨hf.keep ⟨rfl, rfl, rfl, rfl, rfl, rfl, rfl, rfl, rfl, rfl, rfl, rfl, rfl, rfl, rfl, rfl, rfl, rfl, rfl, rfl, rfl, rfl, rfl, rfl, rfl, rfl, trivial⟩, hc⟩
  intro a w ⟨hf, hc⟩
  refine cNil ?_
  refine h11 _ _ ?_
  refine cCond (b := ((((((((r_3.2 != 0) || (r_4.2 != 0)) || (r_5.2 != 0)) || (r_6.2 != 0)) || (((r_3.1.length : Nat) : Int) != r_1.1.States)) || (((r_4.1.length : Nat) : Int) != r_1.1.States)) || (((r_5.1.length : Nat) : Int) != r_1.1.States)) || (((r_6.1.length : Nat) : Int) != r_1.1.States))) hf rfl (fun hb => ?_) (fun hb => ?_)
  · replace hF := condT hb hF
    clear hb
    refine wp_seq_k fun K12 h12 => ?_
    refine cReg ?_
    refine stP hf rfl rfl rfl (pA rfl) fun a hf => ?_
    refine cNil ?_
    refine h12 _ _ ?_
    refine wp_ret ?_
    refine xThenR ?_
    obtain rfl := Option.some.inj hF
    replace hc := hc.drop k7
    replace hc := hc.drop k6
    replace hc := hc.drop k5
    replace hc := hc.drop k4
    replace hc := hc.drop k3
    replace hc := hc.drop k2
    replace hc := hc.drop k1
    replace hc := hc.drop k0
    exact fnOut1 (by simp) rfl Try.results12 hf hc (show look _ 8 = _ from rfl) ⟨rfl, hc⟩
  · replace hF := condF hb hF
    clear hb
    refine wp_skip ?_
    refine h10 _ _ ?_
    refine wp_seq_k fun K13 h13 => ?_
    refine wp_seq_k fun K14 h14 => ?_
    refine cReg ?_
    refine stP hf rfl rfl rfl (pM rfl) fun a hf => ?_
    refine stP hf rfl rfl rfl (pLenS Try.underlying41 rfl) fun a hf => ?_
    refine stP hf rfl rfl rfl (pM rfl) fun a hf => ?_
    refine cNil ?_
    refine h14 _ _ ?_
    refine wp_block ?_
    obtain ⟨x15, hx15, hF⟩ := bnd_some hF
    let S15 : ((List api_Span) × (List Int) × Int) → Act → World → Prop := (fun (zz : (List api_Span) × (List Int) × Int) a w => ∃ (p_6 : Option Addr) (c_6 : Nat) (p_7 : Option Addr) (c_7 : Nat), Has 311 a [(9, .pointer (some ⟨b_2, 0, none⟩)), (12, .int .i64 (W (r_2.Lo + (W ((W ((W (at_)) * (W (r_2.Hi - r_2.Lo)))).tdiv 255))))), (13, .slice p_6 zz.1.length c_6), (15, .slice p_7 zz.2.1.length c_7), (17, .slice p_4 r_5.1.length c_4), (19, .slice p_5 r_6.1.length c_5), (126, .int .i64 ((r_3.1.length : Nat) : Int)), (127, .int .i64 zz.2.2)] ∧ Ctx G (.row p_1 c_1 (r_1.1.Rights.map enc_share_Right) 51 3 :: .row p_5 c_5 (r_6.1.map encI_i64) 3 1 :: .row p_4 c_4 (r_5.1.map encI_i64) 3 1 :: .row p_7 c_7 (zz.2.1.map encI_i64) 3 1 :: .row p_6 c_6 (zz.1.map enc_api_Span) 26 2 :: .box b_2 [.int .i64 r_1.1.States, .slice p_1 r_1.1.Rights.length c_1] 24 :: Lf) w)
    have hr15 : ∀ (zz : (List api_Span) × (List Int) × Int) a w, x15 = .go zz → S15 zz a w → K13 a w := by
      rintro ⟨s_1, got, x⟩ a w rfl ⟨p_6, c_6, p_7, c_7, hf, hc⟩
      replace hF : _ = some res := hF
      refine h13 _ _ ?_
      refine wp_seq_k fun K16 h16 => ?_
      refine wp_seq_k fun K17 h17 => ?_
      refine cReg ?_
      refine stP hf rfl rfl rfl (pM rfl) fun a hf => ?_
      obtain ⟨r_7, hr_7, hF⟩ := bnd_some hF
      refine stE hf hc rfl rfl rfl (eC (v := .int .i64 r_7) (vs := [.slice p_7 got.length c_7]) (caps := []) en_31 rfl rfl rfl rfl (fun w hc => by obtain ⟨G1, hle1, hrd1, hc, hth1⟩ := lend hc k3; exact (law09_total_ok got hrd1 hc hr_7).mono fun e w h => ⟨h.1, ((hth1 _ _ h.2).unpick k3)⟩)) fun a w hf hc => ?_
      refine stP hf rfl rfl rfl (pM rfl) fun a hf => ?_
      refine stP hf rfl rfl rfl (pGt rfl rfl) fun a hf => ?_
      refine cNil ?_
      refine h17 _ _ ?_
      refine cCond (b := (decide ((W (r_2.Lo + (W ((W ((W (at_)) * (W (r_2.Hi - r_2.Lo)))).tdiv 255)))) < r_7))) hf rfl (fun hb => ?_) (fun hb => ?_)
      · replace hF := condT hb hF
        clear hb
        refine wp_seq_k fun K18 h18 => ?_
        refine cReg ?_
        refine stP hf rfl rfl rfl (pA rfl) fun a hf => ?_
        refine cNil ?_
        refine h18 _ _ ?_
        refine wp_ret ?_
        refine xThenR ?_
        obtain rfl := Option.some.inj hF
        replace hc := hc.drop k5
        replace hc := hc.drop k4
        replace hc := hc.drop k3
        replace hc := hc.drop k2
        replace hc := hc.drop k1
        replace hc := hc.drop k0
        exact fnOut1 (by simp) rfl Try.results12 hf hc (show look _ 8 = _ from rfl) ⟨rfl, hc⟩
      · replace hF := condF hb hF
        clear hb
        refine wp_skip ?_
        refine h16 _ _ ?_
        refine wp_seq_k fun K19 h19 => ?_
        refine cReg ?_
        refine stE hf hc rfl rfl rfl (eLdN (vs := [.int .i64 r_1.1.States, .slice p_1 r_1.1.Rights.length c_1]) ag_24 rfl rfl (cells_box (n := 2) m5 rfl)) fun a w hf hc => ?_
        refine stP hf rfl rfl rfl (pM rfl) fun a hf => ?_
        obtain ⟨r_8, hr_8, hF⟩ := bnd_some hF
        refine stE hf hc rfl rfl rfl (eC (v := .tuple #[.int .i64 r_8.1, .int .i64 r_8.2]) (vs := [.agg #[.int .i64 r_1.1.States, .slice p_1 r_1.1.Rights.length c_1], .int .i64 (W (r_2.Lo + (W ((W ((W (at_)) * (W (r_2.Hi - r_2.Lo)))).tdiv 255))))]) (caps := []) en_24 rfl rfl rfl rfl (fun w hc => by obtain ⟨G1, hle1, hrd1, hc, hth1⟩ := lend hc k0; exact (share_Short_ok r_1.1 (W (r_2.Lo + (W ((W ((W (at_)) * (W (r_2.Hi - r_2.Lo)))).tdiv 255)))) hrd1 hc hr_8).mono fun e w h => ⟨h.1, ((hth1 _ _ h.2).unpick k0)⟩)) fun a w hf hc => ?_
        refine stP hf rfl rfl rfl (pM rfl) fun a hf => ?_
        refine stP hf rfl rfl rfl (pX rfl rfl) fun a hf => ?_
        refine stP hf rfl rfl rfl (pX rfl rfl) fun a hf => ?_
        refine stP hf rfl rfl rfl (pA rfl) fun a hf => ?_
        refine stP hf rfl rfl rfl (pA rfl) fun a hf => ?_
        refine cNil ?_
        refine h19 _ _ ?_
        refine wp_seq_k fun K20 h20 => ?_
        refine wp_seq_k fun K21 h21 => ?_
        refine cReg ?_
        refine stP hf rfl rfl rfl (pM rfl) fun a hf => ?_
        refine stP hf rfl rfl rfl (pNe rfl rfl) fun a hf => ?_
        refine stP hf rfl rfl rfl (pM rfl) fun a hf => ?_
        refine stCut 3 (fun a w => Has 311 a [(9, .pointer (some ⟨b_2, 0, none⟩)), (12, .int .i64 (W (r_2.Lo + (W ((W ((W (at_)) * (W (r_2.Hi - r_2.Lo)))).tdiv 255))))), (15, .slice p_7 got.length c_7), (22, .int .i64 r_8.1), (14, .int .i64 r_8.2), (187, .int .i64 r_8.2), (188, .bool (r_8.2 != 0)), (189, .bool (r_8.2 != 0)), (192, .bool ((r_8.2 != 0) || (decide (r_8.1 < (-1)))))] ∧ Ctx G (.row p_1 c_1 (r_1.1.Rights.map enc_share_Right) 51 3 :: .row p_5 c_5 (r_6.1.map encI_i64) 3 1 :: .row p_4 c_4 (r_5.1.map encI_i64) 3 1 :: .row p_7 c_7 (got.map encI_i64) 3 1 :: .row p_6 c_6 (s_1.map enc_api_Span) 26 2 :: .box b_2 [.int .i64 r_1.1.States, .slice p_1 r_1.1.Rights.length c_1] 24 :: Lf) w) ?_ ?_
        · cases hb : (r_8.2 != 0)
          · rw [hb] at hf
            refine stP hf rfl rfl rfl (pM rfl) fun a hf => ?_
            refine stP hf rfl rfl rfl (pLt rfl rfl) fun a hf => ?_
            refine stP hf rfl rfl rfl (pPf rfl rfl) fun a hf => ?_
            exact cNil ⟨hf.keep ⟨rfl, rfl, rfl, rfl, rfl, rfl, rfl, rfl, rfl, trivial⟩, hc⟩
          · rw [hb] at hf
            refine stS hf rfl rfl rfl fun a hf => ?_
            refine stS hf rfl rfl rfl fun a hf => ?_
            refine stP hf rfl rfl rfl (pPt rfl rfl) fun a hf => ?_
            exact cNil ⟨hf.keep ⟨rfl, rfl, rfl, rfl, rfl, rfl, rfl, rfl, rfl, trivial⟩, hc⟩
        intro a w ⟨hf, hc⟩
        refine stP hf rfl rfl rfl (pM rfl) fun a hf => ?_
        refine stCut 6 (fun a w => Has 311 a [(9, .pointer (some ⟨b_2, 0, none⟩)), (12, .int .i64 (W (r_2.Lo + (W ((W ((W (at_)) * (W (r_2.Hi - r_2.Lo)))).tdiv 255))))), (15, .slice p_7 got.length c_7), (22, .int .i64 r_8.1), (14, .int .i64 r_8.2), (187, .int .i64 r_8.2), (188, .bool (r_8.2 != 0)), (189, .bool (r_8.2 != 0)), (192, .bool ((r_8.2 != 0) || (decide (r_8.1 < (-1))))), (193, .bool ((r_8.2 != 0) || (decide (r_8.1 < (-1))))), (199, .bool (((r_8.2 != 0) || (decide (r_8.1 < (-1)))) || (decide (((r_1.1.Rights.length : Nat) : Int) ≤ r_8.1))))] ∧ Ctx G (.row p_1 c_1 (r_1.1.Rights.map enc_share_Right) 51 3 :: .row p_5 c_5 (r_6.1.map encI_i64) 3 1 :: .row p_4 c_4 (r_5.1.map encI_i64) 3 1 :: .row p_7 c_7 (got.map encI_i64) 3 1 :: .row p_6 c_6 (s_1.map enc_api_Span) 26 2 :: .box b_2 [.int .i64 r_1.1.States, .slice p_1 r_1.1.Rights.length c_1] 24 :: Lf) w) ?_ ?_
        · cases hb : ((r_8.2 != 0) || (decide (r_8.1 < (-1))))
          · rw [hb] at hf
            refine stP hf rfl rfl rfl (pM rfl) fun a hf => ?_
            refine stP hf rfl rfl rfl (pFA fa_24_1 rfl) fun a hf => ?_
            refine stE hf hc rfl rfl rfl (eLd1 sc_22 rfl (cell_box m5 rfl)) fun a w hf hc => ?_
            refine stP hf rfl rfl rfl (pLenS Try.underlying22 rfl) fun a hf => ?_
            refine stP hf rfl rfl rfl (pGe rfl rfl) fun a hf => ?_
            refine stP hf rfl rfl rfl (pPf rfl rfl) fun a hf => ?_
            exact cNil ⟨hf.keep ⟨rfl, rfl, rfl, rfl, rfl, rfl, rfl, rfl, rfl, rfl, rfl, trivial⟩, hc⟩
          · rw [hb] at hf
            refine stS hf rfl rfl rfl fun a hf => ?_
            refine stS hf rfl rfl rfl fun a hf => ?_
            refine stS hf rfl rfl rfl fun a hf => ?_
            refine stS hf rfl rfl rfl fun a hf => ?_
            refine stS hf rfl rfl rfl fun a hf => ?_
            refine stP hf rfl rfl rfl (pPt rfl rfl) fun a hf => ?_
            exact cNil ⟨hf.keep ⟨rfl, rfl, rfl, rfl, rfl, rfl, rfl, rfl, rfl, rfl, rfl, trivial⟩, hc⟩
        intro a w ⟨hf, hc⟩
        refine cNil ?_
        refine h21 _ _ ?_
        refine cCond (b := (((r_8.2 != 0) || (decide (r_8.1 < (-1)))) || (decide (((r_1.1.Rights.length : Nat) : Int) ≤ r_8.1)))) hf rfl (fun hb => ?_) (fun hb => ?_)
        · replace hF := condT hb hF
          clear hb
          refine wp_seq_k fun K22 h22 => ?_
          refine cReg ?_
          refine stP hf rfl rfl rfl (pA rfl) fun a hf => ?_
          refine cNil ?_
          refine h22 _ _ ?_
          refine wp_ret ?_
          refine xThenR ?_
          obtain rfl := Option.some.inj hF
          replace hc := hc.drop k5
          replace hc := hc.drop k4
          replace hc := hc.drop k3
          replace hc := hc.drop k2
          replace hc := hc.drop k1
          replace hc := hc.drop k0
          exact fnOut1 (by simp) rfl Try.results12 hf hc (show look _ 8 = _ from rfl) ⟨rfl, hc⟩
        · replace hF := condF hb hF
          clear hb
          refine wp_skip ?_
          refine h20 _ _ ?_
          refine wp_seq_k fun K23 h23 => ?_
          refine wp_seq_k fun K24 h24 => ?_
          refine cReg ?_
          refine stP hf rfl rfl rfl (pM rfl) fun a hf => ?_
          refine stP hf rfl rfl rfl (pEq rfl rfl) fun a hf => ?_
          refine cNil ?_
          refine h24 _ _ ?_
          refine cCond (b := (r_8.1 == (-1))) hf rfl (fun hb => ?_) (fun hb => ?_)
          · replace hF := condT hb hF
            clear hb
            refine wp_seq_k fun K25 h25 => ?_
            refine cReg ?_
            refine stE hf hc rfl rfl rfl (eLdN (vs := [.int .i64 r_1.1.States, .slice p_1 r_1.1.Rights.length c_1]) ag_24 rfl rfl (cells_box (n := 2) m5 rfl)) fun a w hf hc => ?_
            refine stP hf rfl rfl rfl (pM rfl) fun a hf => ?_
            refine stP hf rfl rfl rfl (pAdd rfl rfl) fun a hf => ?_
            obtain ⟨r_9, hr_9, hF⟩ := bnd_some hF
            obtain ⟨G1, hle1, hrd1, hc, hth1⟩ := lend hc k0
            refine stC (vs := [.agg #[.int .i64 r_1.1.States, .slice p_1 r_1.1.Rights.length c_1], .int .i64 (W ((W (r_2.Lo + (W ((W ((W (at_)) * (W (r_2.Hi - r_2.Lo)))).tdiv 255)))) + 50))]) (caps := []) hf rfl rfl rfl en_18 rfl rfl rfl rfl (share_Real_ok r_1.1 (W ((W (r_2.Lo + (W ((W ((W (at_)) * (W (r_2.Hi - r_2.Lo)))).tdiv 255)))) + 50)) hrd1 hc hr_9) ?_
            rintro _ w ⟨p_8, c_8, rfl, hc⟩
            refine ⟨_, rfl, fun a hf => ?_⟩
            replace hc := hth1 _ _ hc
            refine stP hf rfl rfl rfl (pM rfl) fun a hf => ?_
            refine stP hf rfl rfl rfl (pX rfl rfl) fun a hf => ?_
            refine stP hf rfl rfl rfl (pX rfl rfl) fun a hf => ?_
            refine stP hf rfl rfl rfl (pA rfl) fun a hf => ?_
            refine stP hf rfl rfl rfl (pA rfl) fun a hf => ?_
            refine cNil ?_
            refine h25 _ _ ?_
            refine wp_seq_k fun K26 h26 => ?_
            refine cReg ?_
            refine stP hf rfl rfl rfl (pM rfl) fun a hf => ?_
            refine stP hf rfl rfl rfl (pEq rfl rfl) fun a hf => ?_
            refine stP hf rfl rfl rfl (pM rfl) fun a hf => ?_
            obtain ⟨t_1, ht_1, hF⟩ := bnd_some hF
            refine stCut 4 (fun a w => Has 311 a [(15, .slice p_7 got.length c_7), (23, .slice p_8 r_9.1.length c_8), (24, .int .i64 r_9.2), (209, .int .i64 r_9.2), (210, .bool (r_9.2 == 0)), (211, .bool (r_9.2 == 0)), (215, .bool t_1)] ∧ Ctx G (.row p_1 c_1 (r_1.1.Rights.map enc_share_Right) 51 3 :: .row p_8 c_8 (r_9.1.map encI_i64) 3 1 :: .row p_5 c_5 (r_6.1.map encI_i64) 3 1 :: .row p_4 c_4 (r_5.1.map encI_i64) 3 1 :: .row p_7 c_7 (got.map encI_i64) 3 1 :: .row p_6 c_6 (s_1.map enc_api_Span) 26 2 :: .box b_2 [.int .i64 r_1.1.States, .slice p_1 r_1.1.Rights.length c_1] 24 :: Lf) w) ?_ ?_
            · cases hb : (r_9.2 == 0)
              · rw [hb] at hf
                have hF := condF hb ht_1
                obtain rfl := Option.some.inj hF
                refine stS hf rfl rfl rfl fun a hf => ?_
                refine stS hf rfl rfl rfl fun a hf => ?_
                refine stS hf rfl rfl rfl fun a hf => ?_
                refine stP hf rfl rfl rfl (pPf rfl rfl) fun a hf => ?_
                exact cNil ⟨hf.keep ⟨rfl, rfl, rfl, rfl, rfl, rfl, rfl, trivial⟩, hc⟩
              · rw [hb] at hf
                have hF := condT hb ht_1
                refine stP hf rfl rfl rfl (pM rfl) fun a hf => ?_
                refine stP hf rfl rfl rfl (pM rfl) fun a hf => ?_
                obtain ⟨r_10, hr_10, hF⟩ := bnd_some hF
                refine stE hf hc rfl rfl rfl (eC (v := .bool r_10) (vs := [.slice p_8 r_9.1.length c_8, .slice p_7 got.length c_7]) (caps := []) en_20 rfl rfl rfl rfl (fun w hc => by obtain ⟨G1, hle1, hrd1, hc, hth1⟩ := lend hc k1; obtain ⟨G2, hle2, hrd2, hc, hth2⟩ := lend hc k3; exact (kit_Same_int_ok r_9.1 got (hrd1.mono hle2) hrd2 hc hr_10).mono fun e w h => ⟨h.1, ((hth1 _ _ ((hth2 _ _ h.2).unpick k3)).unpick k1)⟩)) fun a w hf hc => ?_
                refine stP hf rfl rfl rfl (pPt rfl rfl) fun a hf => ?_
                obtain rfl := Option.some.inj hF
                exact cNil ⟨hf.keep ⟨rfl, rfl, rfl, rfl, rfl, rfl, rfl, trivial⟩, hc⟩
            intro a w ⟨hf, hc⟩
            refine stP hf rfl rfl rfl (pM rfl) fun a hf => ?_
            obtain ⟨t_2, ht_2, hF⟩ := bnd_some hF
            refine stCut 2 (fun a w => Has 311 a [(15, .slice p_7 got.length c_7), (23, .slice p_8 r_9.1.length c_8), (24, .int .i64 r_9.2), (209, .int .i64 r_9.2), (210, .bool (r_9.2 == 0)), (211, .bool (r_9.2 == 0)), (215, .bool t_1), (216, .bool t_1), (218, .bool t_2)] ∧ Ctx G (.row p_1 c_1 (r_1.1.Rights.map enc_share_Right) 51 3 :: .row p_8 c_8 (r_9.1.map encI_i64) 3 1 :: .row p_5 c_5 (r_6.1.map encI_i64) 3 1 :: .row p_4 c_4 (r_5.1.map encI_i64) 3 1 :: .row p_7 c_7 (got.map encI_i64) 3 1 :: .row p_6 c_6 (s_1.map enc_api_Span) 26 2 :: .box b_2 [.int .i64 r_1.1.States, .slice p_1 r_1.1.Rights.length c_1] 24 :: Lf) w) ?_ ?_
            · cases hb : t_1
              · rw [hb] at hf
                have hF := condF hb ht_2
                obtain rfl := Option.some.inj hF
                refine stS hf rfl rfl rfl fun a hf => ?_
                refine stP hf rfl rfl rfl (pPf rfl rfl) fun a hf => ?_
                exact cNil ⟨hf.keep ⟨rfl, rfl, rfl, rfl, rfl, rfl, rfl, rfl, rfl, trivial⟩, hc⟩
              · rw [hb] at hf
                have hF := condT hb ht_2
                obtain ⟨r_11, hr_11, hF⟩ := bnd_some hF
                refine stE hf hc rfl rfl rfl (eC (v := .bool r_11) (vs := []) (caps := []) en_13 rfl rfl rfl rfl (fun w hc => law09_awake_ok hc hr_11)) fun a w hf hc => ?_
                refine stP hf rfl rfl rfl (pPt rfl rfl) fun a hf => ?_
                obtain rfl := Option.some.inj hF
                exact cNil ⟨hf.keep ⟨rfl, rfl, rfl, rfl, rfl, rfl, rfl, rfl, rfl, trivial⟩, hc⟩
            intro a w ⟨hf, hc⟩
            refine stP hf rfl rfl rfl (pA rfl) fun a hf => ?_
            refine cNil ?_
            refine h26 _ _ ?_
            refine wp_ret ?_
            refine xThenR ?_
            obtain rfl := Option.some.inj hF
            replace hc := hc.drop k6
            replace hc := hc.drop k5
            replace hc := hc.drop k4
            replace hc := hc.drop k3
            replace hc := hc.drop k2
            replace hc := hc.drop k1
            replace hc := hc.drop k0
            exact fnOut1 (by simp) rfl Try.results12 hf hc (show look _ 8 = _ from rfl) ⟨rfl, hc⟩
          · replace hF := condF hb hF
            clear hb
            refine wp_skip ?_
            refine h23 _ _ ?_
            refine wp_seq_k fun K27 h27 => ?_
            refine cReg ?_
            refine stE hf hc rfl rfl rfl (eLdN (vs := [.int .i64 r_1.1.States, .slice p_1 r_1.1.Rights.length c_1]) ag_24 rfl rfl (cells_box (n := 2) m5 rfl)) fun a w hf hc => ?_
            obtain ⟨r_12, hr_12, hF⟩ := bnd_some hF
            obtain ⟨G1, hle1, hrd1, hc, hth1⟩ := lend hc k0
            refine stC (vs := [.agg #[.int .i64 r_1.1.States, .slice p_1 r_1.1.Rights.length c_1]]) (caps := []) hf rfl rfl rfl en_14 rfl rfl rfl rfl (law09_CopyCompact_ok r_1.1 hrd1 hc hr_12) ?_
            rintro _ w ⟨p_9, c_9, rfl, hc⟩
            refine ⟨_, rfl, fun a hf => ?_⟩
            replace hc := hth1 _ _ hc
            refine stAl (cs := [.int .i64 0, .slice none 0 0]) hf hc rfl rfl zr_24 rfl fun b_4 a w hf hc => ?_
            refine stSt (vs := [.int .i64 r_12.States, .slice p_9 r_12.Rights.length c_9]) hf hc rfl rfl rfl rfl sz_24 rfl rfl u0 fun w hc => ?_
            refine cNil ?_
            refine h27 _ _ ?_
            refine wp_seq_k fun K28 h28 => ?_
            refine cReg ?_
            refine stP hf rfl rfl rfl (pFA fa_24_1 rfl) fun a hf => ?_
            refine stE hf hc rfl rfl rfl (eLd1 sc_22 rfl (cell_box m0 rfl)) fun a w hf hc => ?_
            refine stP hf rfl rfl rfl (pM rfl) fun a hf => ?_
            refine stP hf rfl rfl rfl (pAdd rfl rfl) fun a hf => ?_
            have qc := row_cap hc m2
            obtain ⟨sub, hsub, hF⟩ := bnd_some hF
            refine stP hf rfl rfl rfl (pSl Try.underlying22 sz_51 rfl rfl qc rfl rfl hsub) fun a hf => ?_
            refine stP hf rfl rfl rfl (pFA fa_24_1 rfl) fun a hf => ?_
            refine stSt (vs := [.slice (subP p_9 c_9 (0 : Int).toNat 3) sub.length (c_9 - (0 : Int).toNat)]) hf hc rfl rfl rfl rfl sz_22 rfl rfl u0 fun w hc => ?_
            refine cNil ?_
            refine h28 _ _ ?_
            refine wp_seq_k fun K29 h29 => ?_
            refine cReg ?_
            refine stE hf hc rfl rfl rfl (eLdN (vs := [.int .i64 r_12.States, .slice (subP p_9 c_9 (0 : Int).toNat 3) sub.length (c_9 - (0 : Int).toNat)]) ag_24 rfl rfl (cells_box (n := 2) m0 rfl)) fun a w hf hc => ?_
            refine stP hf rfl rfl rfl (pM rfl) fun a hf => ?_
            obtain ⟨r_13, hr_13, hF⟩ := bnd_some hF
            obtain ⟨G1, hle1, hrd1, hc, hth1⟩ := lend hc k2
            refine stC (vs := [.agg #[.int .i64 r_12.States, .slice (subP p_9 c_9 (0 : Int).toNat 3) sub.length (c_9 - (0 : Int).toNat)], .int .i64 (W (r_2.Lo + (W ((W ((W (at_)) * (W (r_2.Hi - r_2.Lo)))).tdiv 255))))]) (caps := []) hf rfl rfl rfl en_18 rfl rfl rfl rfl (share_Real_ok (⟨r_12.States, sub⟩ : share_Compact) (W (r_2.Lo + (W ((W ((W (at_)) * (W (r_2.Hi - r_2.Lo)))).tdiv 255)))) (Rd.sub hrd1 hsub) hc hr_13) ?_
            rintro _ w ⟨p_10, c_10, rfl, hc⟩
            refine ⟨_, rfl, fun a hf => ?_⟩
            replace hc := hth1 _ _ hc
            refine stP hf rfl rfl rfl (pM rfl) fun a hf => ?_
            refine stP hf rfl rfl rfl (pX rfl rfl) fun a hf => ?_
            refine stP hf rfl rfl rfl (pX rfl rfl) fun a hf => ?_
            refine stP hf rfl rfl rfl (pA rfl) fun a hf => ?_
            refine stP hf rfl rfl rfl (pA rfl) fun a hf => ?_
            refine cNil ?_
            refine h29 _ _ ?_
            refine wp_seq_k fun K30 h30 => ?_
            refine wp_seq_k fun K31 h31 => ?_
            refine cReg ?_
            refine stP hf rfl rfl rfl (pM rfl) fun a hf => ?_
            refine stP hf rfl rfl rfl (pNe rfl rfl) fun a hf => ?_
            refine stP hf rfl rfl rfl (pM rfl) fun a hf => ?_
            obtain ⟨t_3, ht_3, hF⟩ := bnd_some hF
            refine stCut 5 (fun a w => Has 311 a [(9, .pointer (some ⟨b_2, 0, none⟩)), (12, .int .i64 (W (r_2.Lo + (W ((W ((W (at_)) * (W (r_2.Hi - r_2.Lo)))).tdiv 255))))), (15, .slice p_7 got.length c_7), (22, .int .i64 r_8.1), (14, .int .i64 r_13.2), (26, .slice p_10 r_13.1.length c_10), (233, .int .i64 r_13.2), (234, .bool (r_13.2 != 0)), (235, .bool (r_13.2 != 0)), (240, .bool t_3)] ∧ Ctx G (.row p_9 c_9 (r_12.Rights.map enc_share_Right) 51 3 :: .row p_10 c_10 (r_13.1.map encI_i64) 3 1 :: .box b_4 [.int .i64 r_12.States, .slice (subP p_9 c_9 (0 : Int).toNat 3) sub.length (c_9 - (0 : Int).toNat)] 24 :: .row p_1 c_1 (r_1.1.Rights.map enc_share_Right) 51 3 :: .row p_5 c_5 (r_6.1.map encI_i64) 3 1 :: .row p_4 c_4 (r_5.1.map encI_i64) 3 1 :: .row p_7 c_7 (got.map encI_i64) 3 1 :: .row p_6 c_6 (s_1.map enc_api_Span) 26 2 :: .box b_2 [.int .i64 r_1.1.States, .slice p_1 r_1.1.Rights.length c_1] 24 :: Lf) w) ?_ ?_
            · cases hb : (r_13.2 != 0)
              · rw [hb] at hf
                have hF := condF hb ht_3
                refine stP hf rfl rfl rfl (pM rfl) fun a hf => ?_
                refine stP hf rfl rfl rfl (pM rfl) fun a hf => ?_
                obtain ⟨r_14, hr_14, hF⟩ := bnd_some hF
                refine stE hf hc rfl rfl rfl (eC (v := .bool r_14) (vs := [.slice p_10 r_13.1.length c_10, .slice p_7 got.length c_7]) (caps := []) en_20 rfl rfl rfl rfl (fun w hc => by obtain ⟨G1, hle1, hrd1, hc, hth1⟩ := lend hc k1; obtain ⟨G2, hle2, hrd2, hc, hth2⟩ := lend hc k5; exact (kit_Same_int_ok r_13.1 got (hrd1.mono hle2) hrd2 hc hr_14).mono fun e w h => ⟨h.1, ((hth1 _ _ ((hth2 _ _ h.2).unpick k5)).unpick k1)⟩)) fun a w hf hc => ?_
                refine stP hf rfl rfl rfl (pNot rfl) fun a hf => ?_
                refine stP hf rfl rfl rfl (pPf rfl rfl) fun a hf => ?_
                obtain rfl := Option.some.inj hF
                exact cNil ⟨hf.keep ⟨rfl, rfl, rfl, rfl, rfl, rfl, rfl, rfl, rfl, rfl, trivial⟩, hc⟩
              · rw [hb] at hf
                have hF := condT hb ht_3
                obtain rfl := Option.some.inj hF
                refine stS hf rfl rfl rfl fun a hf => ?_
                refine stS hf rfl rfl rfl fun a hf => ?_
                refine stS hf rfl rfl rfl fun a hf => ?_
                refine stS hf rfl rfl rfl fun a hf => ?_
                refine stP hf rfl rfl rfl (pPt rfl rfl) fun a hf => ?_
                exact cNil ⟨hf.keep ⟨rfl, rfl, rfl, rfl, rfl, rfl, rfl, rfl, rfl, rfl, trivial⟩, hc⟩
            intro a w ⟨hf, hc⟩
            refine cNil ?_
            refine h31 _ _ ?_
            refine cCond (b := t_3) hf rfl (fun hb => ?_) (fun hb => ?_)
            · replace hF := condT hb hF
              clear hb
              refine wp_seq_k fun K32 h32 => ?_
              refine cReg ?_
              refine stP hf rfl rfl rfl (pA rfl) fun a hf => ?_
              refine cNil ?_
              refine h32 _ _ ?_
              refine wp_ret ?_
              refine xThenR ?_
              obtain rfl := Option.some.inj hF
              replace hc := hc.drop k8
              replace hc := hc.drop k7
              replace hc := hc.drop k6
              replace hc := hc.drop k5
              replace hc := hc.drop k4
              replace hc := hc.drop k3
              replace hc := hc.drop k2
              replace hc := hc.drop k1
              replace hc := hc.drop k0
              exact fnOut1 (by simp) rfl Try.results12 hf hc (show look _ 8 = _ from rfl) ⟨rfl, hc⟩
            · replace hF := condF hb hF
              clear hb
              refine wp_skip ?_
              refine h30 _ _ ?_
              refine wp_seq_k fun K33 h33 => ?_
              refine cReg ?_
              refine stE hf hc rfl rfl rfl (eLdN (vs := [.int .i64 r_1.1.States, .slice p_1 r_1.1.Rights.length c_1]) ag_24 rfl rfl (cells_box (n := 2) m8 rfl)) fun a w hf hc => ?_
              obtain ⟨r_15, hr_15, hF⟩ := bnd_some hF
              obtain ⟨G1, hle1, hrd1, hc, hth1⟩ := lend hc k3
              refine stC (vs := [.agg #[.int .i64 r_1.1.States, .slice p_1 r_1.1.Rights.length c_1]]) (caps := []) hf rfl rfl rfl en_14 rfl rfl rfl rfl (law09_CopyCompact_ok r_1.1 hrd1 hc hr_15) ?_
              rintro _ w ⟨p_11, c_11, rfl, hc⟩
              refine ⟨_, rfl, fun a hf => ?_⟩
              replace hc := hth1 _ _ hc
              refine stAl (cs := [.int .i64 0, .slice none 0 0]) hf hc rfl rfl zr_24 rfl fun b_5 a w hf hc => ?_
              refine stSt (vs := [.int .i64 r_15.States, .slice p_11 r_15.Rights.length c_11]) hf hc rfl rfl rfl rfl sz_24 rfl rfl u0 fun w hc => ?_
              refine cNil ?_
              refine h33 _ _ ?_
              refine wp_seq_k fun K34 h34 => ?_
              refine cReg ?_
              refine stP hf rfl rfl rfl (pFA fa_24_1 rfl) fun a hf => ?_
              refine stE hf hc rfl rfl rfl (eLd1 sc_22 rfl (cell_box m0 rfl)) fun a w hf hc => ?_
              refine stP hf rfl rfl rfl (pM rfl) fun a hf => ?_
              obtain ⟨e_1, he_1, hF⟩ := bnd_some hF
              obtain ⟨g, rfl, qa, qr⟩ := row_atm hc m2 he_1
              refine stP hf rfl rfl rfl (pIA Try.underlying22 sz_51 rfl rfl qa) fun a hf => ?_
              refine stE hf hc rfl rfl rfl (eLdN (vs := [.int .i64 e_1.State, .int .i64 e_1.Amount, .int .i64 e_1.Loss]) ag_51 rfl rfl (cells_rw (sz := 3) (i := r_8.1.toNat) m2 qr (n := 3) (o' := 0) rfl)) fun a w hf hc => ?_
              refine stAl (cs := [.int .i64 0, .int .i64 0, .int .i64 0]) hf hc rfl rfl zr_51 rfl fun b_6 a w hf hc => ?_
              refine stSt (vs := [.int .i64 e_1.State, .int .i64 e_1.Amount, .int .i64 e_1.Loss]) hf hc rfl rfl rfl rfl sz_51 rfl rfl u0 fun w hc => ?_
              refine cNil ?_
              refine h34 _ _ ?_
              refine wp_seq_k fun K35 h35 => ?_
              obtain ⟨r_16, hr_16, hF⟩ := bnd_some hF
              obtain ⟨r_17, hr_17, hF⟩ := bnd_some hF
              replace hc := hc.nilRow 0 0
              refine regionE (fun θ => [⟨none, none, 9, .pointer (some ⟨b_2, 0, none⟩)⟩, ⟨none, none, 12, .int .i64 (W (r_2.Lo + (W ((W ((W (at_)) * (W (r_2.Hi - r_2.Lo)))).tdiv 255))))⟩, ⟨none, none, 22, .int .i64 r_8.1⟩, ⟨none, none, 27, .pointer (some ⟨b_5, 0, none⟩)⟩, ⟨none, none, 28, .pointer (some ⟨b_6, 0, none⟩)⟩, ⟨some 0, none, 248, .pointer (some ⟨b_5, 1, none⟩)⟩, ⟨some 1, none, 249, .slice (some ⟨g, 0, none⟩) r_15.Rights.length c_11⟩, ⟨some 2, none, 250, .int .i64 r_8.1⟩, ⟨some 3, none, 251, .int .i64 r_8.1⟩, ⟨some 4, none, 252, .int .i64 (W (r_8.1 + 1))⟩, ⟨some 5, none, 253, .slice ((θ 40).p) r_16.length ((θ 40).c)⟩, ⟨some 6, none, 254, .agg #[.int .i64 e_1.State, .int .i64 e_1.Amount, .int .i64 e_1.Loss]⟩, ⟨some 7, none, 255, .slice (some ⟨(θ 56).b, 0, none⟩) 1 1⟩, ⟨some 8, none, 256, .slice ((θ 64).p) r_17.length ((θ 64).c)⟩, ⟨some 9, none, 257, .pointer (some ⟨b_5, 1, none⟩)⟩]) (fun E θ => (bif E 7 then .row (some ⟨(θ 56).b, 0, none⟩) 1 (([e_1] : List share_Right).map enc_share_Right) 51 3 else .row none 0 [] 0 0) :: .box b_6 [.int .i64 e_1.State, .int .i64 e_1.Amount, .int .i64 e_1.Loss] 51 :: (bif E 10 then .box b_5 [.int .i64 r_15.States, .slice ((θ 64).p) r_17.length ((θ 64).c)] 24 else .box b_5 [.int .i64 r_15.States, .slice (some ⟨g, 0, none⟩) r_15.Rights.length c_11] 24) :: .row p_1 c_1 (r_1.1.Rights.map enc_share_Right) 51 3 :: (bif E 8 then .row ((θ 64).p) ((θ 64).c) (r_17.map enc_share_Right) 51 3 else bif E 5 then .row ((θ 40).p) ((θ 40).c) (r_16.map enc_share_Right) 51 3 else .row (some ⟨g, 0, none⟩) c_11 (r_15.Rights.map enc_share_Right) 51 3) :: .row p_9 c_9 (r_12.Rights.map enc_share_Right) 51 3 :: .row p_10 c_10 (r_13.1.map encI_i64) 3 1 :: .box b_4 [.int .i64 r_12.States, .slice (subP p_9 c_9 (0 : Int).toNat 3) sub.length (c_9 - (0 : Int).toNat)] 24 :: .row p_5 c_5 (r_6.1.map encI_i64) 3 1 :: .row p_4 c_4 (r_5.1.map encI_i64) 3 1 :: .row p_7 c_7 (got.map encI_i64) 3 1 :: .row p_6 c_6 (s_1.map enc_api_Span) 26 2 :: .box b_2 [.int .i64 r_1.1.States, .slice p_1 r_1.1.Rights.length c_1] 24 :: Lf) [(10, 1), (8, 5), (10, 8)] (fun a w => ∃ (b_8 : Nat) (p_14 : Option Addr) (c_14 : Nat), Has 311 a [(9, .pointer (some ⟨b_2, 0, none⟩)), (12, .int .i64 (W (r_2.Lo + (W ((W ((W (at_)) * (W (r_2.Hi - r_2.Lo)))).tdiv 255))))), (27, .pointer (some ⟨b_5, 0, none⟩)), (28, .pointer (some ⟨b_6, 0, none⟩))] ∧ Ctx G (.row (some ⟨b_8, 0, none⟩) 1 (([e_1] : List share_Right).map enc_share_Right) 51 3 :: .box b_6 [.int .i64 e_1.State, .int .i64 e_1.Amount, .int .i64 e_1.Loss] 51 :: .box b_5 [.int .i64 r_15.States, .slice p_14 r_17.length c_14] 24 :: .row p_1 c_1 (r_1.1.Rights.map enc_share_Right) 51 3 :: .row p_14 c_14 (r_17.map enc_share_Right) 51 3 :: .row p_9 c_9 (r_12.Rights.map enc_share_Right) 51 3 :: .row p_10 c_10 (r_13.1.map encI_i64) 3 1 :: .box b_4 [.int .i64 r_12.States, .slice (subP p_9 c_9 (0 : Int).toNat 3) sub.length (c_9 - (0 : Int).toNat)] 24 :: .row p_5 c_5 (r_6.1.map encI_i64) 3 1 :: .row p_4 c_4 (r_5.1.map encI_i64) 3 1 :: .row p_7 c_7 (got.map encI_i64) 3 1 :: .row p_6 c_6 (s_1.map enc_api_Span) 26 2 :: .box b_2 [.int .i64 r_1.1.States, .slice p_1 r_1.1.Rights.length c_1] 24 :: Lf) w) follows_mx (by kernel_rfl) (by kernel_rfl) (HasE.of hf ⟨rfl, rfl, rfl, rfl, rfl, trivial, trivial, trivial, trivial, trivial, trivial, trivial, trivial, trivial, trivial, trivial⟩) hc ⟨?_, ?_, ?_, ?_, ?_, ?_, ?_, ?_, ?_, ?_, ?_, trivial⟩ ?_ ?_
              · intro E θ a w hD hi hp he hc
                have hf := he.h0
                replace hf := hf.more he 3 rfl onT
                refine stP hf rfl rfl rfl (pFA fa_24_1 rfl) fun a hf => ?_
                refine cNil ?_
                refine xThenN ?_
                intro ds u hau
                refine ⟨θ, he.put0 hi hau hf rfl 5 rfl rfl, ?_⟩
                exact hc
              · intro E θ a w hD hi hp he hc
                have e0 := hp.of (k := 0) rfl
                have e10 := hD.f 0 rfl hi
                try dsimp only at hc
                rw [e10] at hc
                have hf := he.h0
                replace hf := hf.more he 5 rfl (onP e0)
                refine stE hf hc rfl rfl rfl (eLd1 sc_22 rfl (cell_box m2 rfl)) fun a w hf hc => ?_
                refine cNil ?_
                refine xThenN ?_
                intro ds u hau
                refine ⟨θ, he.put0 hi hau hf rfl 6 rfl rfl, ?_⟩
                try dsimp only
                rw [updE_fls 1 e10 rfl]
                exact hc
              · intro E θ a w hD hi hp he hc
                have hf := he.h0
                replace hf := hf.more he 2 rfl onT
                refine stP hf rfl rfl rfl (pM rfl) fun a hf => ?_
                refine cNil ?_
                refine xThenN ?_
                intro ds u hau
                refine ⟨θ, he.put0 hi hau hf rfl 7 rfl rfl, ?_⟩
                exact hc
              · intro E θ a w hD hi hp he hc
                have hf := he.h0
                replace hf := hf.more he 2 rfl onT
                refine stP hf rfl rfl rfl (pM rfl) fun a hf => ?_
                refine cNil ?_
                refine xThenN ?_
                intro ds u hau
                refine ⟨θ, he.put0 hi hau hf rfl 8 rfl rfl, ?_⟩
                exact hc
              · intro E θ a w hD hi hp he hc
                have e3 := hp.of (k := 3) rfl
                have hf := he.h0
                replace hf := hf.more he 8 rfl (onP e3)
                refine stP hf rfl rfl rfl (pAdd rfl rfl) fun a hf => ?_
                refine cNil ?_
                refine xThenN ?_
                intro ds u hau
                refine ⟨θ, he.put0 hi hau hf rfl 9 rfl rfl, ?_⟩
                exact hc
              · intro E θ a w hD hi hp he hc
                have e1 := hp.of (k := 1) rfl
                have e2 := hp.of (k := 2) rfl
                have e4 := hp.of (k := 4) rfl
                have e8 := hD.f 1 rfl hi
                try dsimp only at hc
                rw [hi, e8] at hc
                have hf := he.h0
                replace hf := hf.more he 6 rfl (onP e1)
                replace hf := hf.more he 7 rfl (onP e2)
                replace hf := hf.more he 9 rfl (onP e4)
                refine stC (vs := [.slice (some ⟨g, 0, none⟩) r_15.Rights.length c_11, .int .i64 r_8.1, .int .i64 (W (r_8.1 + 1))]) (caps := []) hf rfl rfl rfl en_66 rfl rfl rfl rfl (slices_Delete_Lshare_Right_share_Right_ok r_15.Rights r_8.1 (W (r_8.1 + 1)) (hc.pick k4) hr_16) ?_
                rintro _ w ⟨p_12, c_12, rfl, hc⟩
                refine ⟨_, rfl, fun a hf => ?_⟩
                refine cNil ?_
                refine xThenN ?_
                intro ds u hau
                replace hc := hc.pick k0
                replace hc := hc.pick k4
                replace hc := hc.pick k4
                replace hc := hc.pick k4
                replace hc := hc.pick k4
                refine ⟨(setT θ 40 ⟨0, p_12, c_12⟩), he.put hi hau hf rfl [] trivial ⟨qq, qq, qq, qq, qq, qq, qq, qq, qq, qq, qq, qq, qq, qq, qq, trivial⟩, ?_⟩
                try dsimp only
                rw [updE_self E 5, updE_fls 5 e8 rfl]
                exact hc
              · intro E θ a w hD hi hp he hc
                have hf := he.h0
                replace hf := hf.more he 4 rfl onT
                refine stE hf hc rfl rfl rfl (eLdN (vs := [.int .i64 e_1.State, .int .i64 e_1.Amount, .int .i64 e_1.Loss]) ag_51 rfl rfl (cells_box (n := 3) m1 rfl)) fun a w hf hc => ?_
                refine cNil ?_
                refine xThenN ?_
                intro ds u hau
                refine ⟨θ, he.put0 hi hau hf rfl 11 rfl rfl, ?_⟩
                exact hc
              · intro E θ a w hD hi hp he hc
                have e6 := hp.of (k := 6) rfl
                try dsimp only at hc
                rw [hi] at hc
                have hf := he.h0
                replace hf := hf.more he 11 rfl (onP e6)
                refine stBS (rows := ([e_1] : List share_Right).map enc_share_Right) (vs := [(0, .agg #[.int .i64 e_1.State, .int .i64 e_1.Amount, .int .i64 e_1.Loss])]) hf hc rfl rfl sl_22 rfl ⟨rfl, rfl, rfl, trivial⟩ rfl rfl fun b_7 a w hf hc => ?_
                refine cNil ?_
                refine xThenN ?_
                intro ds u hau
                replace hc := hc.drop k1
                refine ⟨(setT θ 56 ⟨b_7, none, 0⟩), he.put hi hau hf rfl [] trivial ⟨qq, qq, qq, qq, qq, qq, qq, qq, qq, qq, qq, qq, qq, qq, qq, trivial⟩, ?_⟩
                try dsimp only
                rw [updE_self E 7]
                exact hc
              · intro E θ a w hD hi hp he hc
                have e5 := hp.of (k := 5) rfl
                have e7 := hp.of (k := 7) rfl
                have e10 := hD.f 2 rfl hi
                try dsimp only at hc
                rw [e7, e5, hi, e10] at hc
                have hf := he.h0
                replace hf := hf.more he 10 rfl (onP e5)
                replace hf := hf.more he 12 rfl (onP e7)
                refine stC (vs := [.slice ((θ 40).p) r_16.length ((θ 40).c), .int .i64 0, .slice (some ⟨(θ 56).b, 0, none⟩) 1 1]) (caps := []) hf rfl rfl rfl en_65 rfl rfl rfl rfl (slices_Insert_Lshare_Right_share_Right_ok r_16 0 ([e_1] : List share_Right) ((hc.pick k0).pick k4) hr_17) ?_
                rintro _ w ⟨p_13, c_13, rfl, hc⟩
                refine ⟨_, rfl, fun a hf => ?_⟩
                refine cNil ?_
                refine xThenN ?_
                intro ds u hau
                replace hc := hc.pick k0
                replace hc := hc.pick k4
                replace hc := hc.pick k4
                replace hc := hc.pick k4
                replace hc := hc.pick k4
                refine ⟨(setT θ 64 ⟨0, p_13, c_13⟩), he.put hi hau hf rfl [] trivial ⟨qq, qq, qq, qq, qq, qq, qq, qq, qq, qq, qq, qq, qq, qq, qq, trivial⟩, ?_⟩
                try dsimp only
                rw [updE_tru 8 e7, updE_tru 8 e5, updE_self E 8, updE_fls 8 e10 rfl]
                exact hc
              · intro E θ a w hD hi hp he hc
                have hf := he.h0
                replace hf := hf.more he 3 rfl onT
                refine stP hf rfl rfl rfl (pFA fa_24_1 rfl) fun a hf => ?_
                refine cNil ?_
                refine xThenN ?_
                intro ds u hau
                refine ⟨θ, he.put0 hi hau hf rfl 14 rfl rfl, ?_⟩
                exact hc
              · intro E θ a w hD hi hp he hc
                have e8 := hp.of (k := 8) rfl
                have e9 := hp.of (k := 9) rfl
                try dsimp only at hc
                rw [hi] at hc
                have hf := he.h0
                replace hf := hf.more he 13 rfl (onP e8)
                replace hf := hf.more he 14 rfl (onP e9)
                refine stSt (vs := [.slice ((θ 64).p) r_17.length ((θ 64).c)]) hf hc rfl rfl rfl rfl sz_22 rfl rfl u2 fun w hc => ?_
                refine cNil ?_
                refine xThenN ?_
                intro ds u hau
                refine ⟨θ, he.stay0 hi hau hf rfl, ?_⟩
                try dsimp only
                rw [updE_self E 10]
                exact hc
              · intro E θ a w hall he hc
                have hf := he.h0
                have e5 := hall 5 rfl
                have e7 := hall 7 rfl
                have e8 := hall 8 rfl
                have e10 := hall 10 rfl
                replace hf := hf.more he 4 rfl (onT)
                replace hf := hf.more he 3 rfl (onT)
                replace hf := hf.more he 1 rfl (onT)
                replace hf := hf.more he 0 rfl (onT)
                try dsimp only at hc
                rw [e5, e7, e8, e10] at hc
                exact ⟨(θ 56).b, (θ 64).p, (θ 64).c, hf.keep ⟨rfl, rfl, rfl, rfl, trivial⟩, hc⟩
              rintro a w ⟨b_8, p_14, c_14, hf, hc⟩
              refine h35 _ _ ?_
              refine wp_seq_k fun K36 h36 => ?_
              refine cReg ?_
              refine stP hf rfl rfl rfl (pFA fa_24_0 rfl) fun a hf => ?_
              refine stE hf hc rfl rfl rfl (eLd1 sc_3 rfl (cell_box m12 rfl)) fun a w hf hc => ?_
              refine stE hf hc rfl rfl rfl (eLdN (vs := [.int .i64 e_1.State, .int .i64 e_1.Amount, .int .i64 e_1.Loss]) ag_51 rfl rfl (cells_box (n := 3) m1 rfl)) fun a w hf hc => ?_
              refine stBS (rows := ([e_1] : List share_Right).map enc_share_Right) (vs := [(0, .agg #[.int .i64 e_1.State, .int .i64 e_1.Amount, .int .i64 e_1.Loss])]) hf hc rfl rfl sl_22 rfl ⟨rfl, rfl, rfl, trivial⟩ rfl rfl fun b_9 a w hf hc => ?_
              refine stP hf rfl rfl rfl (pBuildS (cells := [.int .i64 r_1.1.States, .slice (some ⟨b_9, 0, none⟩) 1 1]) bt_24 rfl rfl) fun a hf => ?_
              refine stAl (cs := [.int .i64 0, .slice none 0 0]) hf hc rfl rfl zr_24 rfl fun b_10 a w hf hc => ?_
              refine stSt (vs := [.int .i64 r_1.1.States, .slice (some ⟨b_9, 0, none⟩) 1 1]) hf hc rfl rfl rfl rfl sz_24 rfl rfl u0 fun w hc => ?_
              refine cNil ?_
              refine h36 _ _ ?_
              refine wp_seq_k fun K37 h37 => ?_
              refine cReg ?_
              refine stE hf hc rfl rfl rfl (eLdN (vs := [.int .i64 r_15.States, .slice p_14 r_17.length c_14]) ag_24 rfl rfl (cells_box (n := 2) m4 rfl)) fun a w hf hc => ?_
              refine stP hf rfl rfl rfl (pM rfl) fun a hf => ?_
              obtain ⟨r_18, hr_18, hF⟩ := bnd_some hF
              obtain ⟨G1, hle1, hrd1, hc, hth1⟩ := lend hc k6
              refine stC (vs := [.agg #[.int .i64 r_15.States, .slice p_14 r_17.length c_14], .int .i64 (W (r_2.Lo + (W ((W ((W (at_)) * (W (r_2.Hi - r_2.Lo)))).tdiv 255))))]) (caps := []) hf rfl rfl rfl en_18 rfl rfl rfl rfl (share_Real_ok (⟨r_15.States, r_17⟩ : share_Compact) (W (r_2.Lo + (W ((W ((W (at_)) * (W (r_2.Hi - r_2.Lo)))).tdiv 255)))) hrd1 hc hr_18) ?_
              rintro _ w ⟨p_15, c_15, rfl, hc⟩
              refine ⟨_, rfl, fun a hf => ?_⟩
              replace hc := hth1 _ _ hc
              refine stP hf rfl rfl rfl (pM rfl) fun a hf => ?_
              refine stP hf rfl rfl rfl (pX rfl rfl) fun a hf => ?_
              refine stP hf rfl rfl rfl (pX rfl rfl) fun a hf => ?_
              refine stP hf rfl rfl rfl (pA rfl) fun a hf => ?_
              refine stP hf rfl rfl rfl (pA rfl) fun a hf => ?_
              refine cNil ?_
              refine h37 _ _ ?_
              refine wp_seq_k fun K38 h38 => ?_
              refine cReg ?_
              refine stE hf hc rfl rfl rfl (eLdN (vs := [.int .i64 r_1.1.States, .slice (some ⟨b_9, 0, none⟩) 1 1]) ag_24 rfl rfl (cells_box (n := 2) m2 rfl)) fun a w hf hc => ?_
              refine stP hf rfl rfl rfl (pM rfl) fun a hf => ?_
              obtain ⟨r_19, hr_19, hF⟩ := bnd_some hF
              obtain ⟨G1, hle1, hrd1, hc, hth1⟩ := lend hc k3
              refine stC (vs := [.agg #[.int .i64 r_1.1.States, .slice (some ⟨b_9, 0, none⟩) 1 1], .int .i64 (W (r_2.Lo + (W ((W ((W (at_)) * (W (r_2.Hi - r_2.Lo)))).tdiv 255))))]) (caps := []) hf rfl rfl rfl en_18 rfl rfl rfl rfl (share_Real_ok (⟨r_1.1.States, ([e_1] : List share_Right)⟩ : share_Compact) (W (r_2.Lo + (W ((W ((W (at_)) * (W (r_2.Hi - r_2.Lo)))).tdiv 255)))) hrd1 hc hr_19) ?_
              rintro _ w ⟨p_16, c_16, rfl, hc⟩
              refine ⟨_, rfl, fun a hf => ?_⟩
              replace hc := hth1 _ _ hc
              refine stP hf rfl rfl rfl (pM rfl) fun a hf => ?_
              refine stP hf rfl rfl rfl (pX rfl rfl) fun a hf => ?_
              refine stP hf rfl rfl rfl (pX rfl rfl) fun a hf => ?_
              refine stP hf rfl rfl rfl (pA rfl) fun a hf => ?_
              refine stP hf rfl rfl rfl (pA rfl) fun a hf => ?_
              refine cNil ?_
              refine h38 _ _ ?_
              refine wp_seq_k fun K39 h39 => ?_
              obtain ⟨t_4, ht_4, hF⟩ := bnd_some hF
              obtain ⟨t_5, ht_5, hF⟩ := bnd_some hF
              refine cQ hc follows_mx (by kernel_rfl) ?_
              refine qE hf rfl rfl rfl (Pu.ev (pM rfl)) fun a hf => ?_
              refine qE hf rfl rfl rfl (Pu.ev (pEq rfl rfl)) fun a hf => ?_
              refine qE hf rfl rfl rfl (Pu.ev (pM rfl)) fun a hf => ?_
              refine qCut 3 (fun a => Has 311 a [(9, .pointer (some ⟨b_2, 0, none⟩)), (28, .pointer (some ⟨b_6, 0, none⟩)), (30, .slice p_15 r_18.1.length c_15), (14, .int .i64 r_18.2), (31, .slice p_16 r_19.1.length c_16), (16, .int .i64 r_19.2), (275, .int .i64 r_18.2), (276, .bool (r_18.2 == 0)), (277, .bool (r_18.2 == 0)), (280, .bool ((r_18.2 == 0) && (r_19.2 == 0)))]) ?_ ?_
              · cases hb : (r_18.2 == 0)
                · rw [hb] at hf
                  refine qS hf rfl rfl rfl fun a hf => ?_
                  refine qS hf rfl rfl rfl fun a hf => ?_
                  refine qE hf rfl rfl rfl (Pu.ev (pPf rfl rfl)) fun a hf => ?_
                  exact qNil (hf.keep ⟨rfl, rfl, rfl, rfl, rfl, rfl, rfl, rfl, rfl, rfl, trivial⟩)
                · rw [hb] at hf
                  refine qE hf rfl rfl rfl (Pu.ev (pM rfl)) fun a hf => ?_
                  refine qE hf rfl rfl rfl (Pu.ev (pEq rfl rfl)) fun a hf => ?_
                  refine qE hf rfl rfl rfl (Pu.ev (pPt rfl rfl)) fun a hf => ?_
                  exact qNil (hf.keep ⟨rfl, rfl, rfl, rfl, rfl, rfl, rfl, rfl, rfl, rfl, trivial⟩)
              intro a hf
              refine qE hf rfl rfl rfl (Pu.ev (pM rfl)) fun a hf => ?_
              refine qCut 6 (fun a => Has 311 a [(9, .pointer (some ⟨b_2, 0, none⟩)), (28, .pointer (some ⟨b_6, 0, none⟩)), (30, .slice p_15 r_18.1.length c_15), (14, .int .i64 r_18.2), (31, .slice p_16 r_19.1.length c_16), (16, .int .i64 r_19.2), (275, .int .i64 r_18.2), (276, .bool (r_18.2 == 0)), (277, .bool (r_18.2 == 0)), (280, .bool ((r_18.2 == 0) && (r_19.2 == 0))), (281, .bool ((r_18.2 == 0) && (r_19.2 == 0))), (287, .bool (((r_18.2 == 0) && (r_19.2 == 0)) && (((r_18.1.length : Nat) : Int) == r_1.1.States)))]) ?_ ?_
              · cases hb : ((r_18.2 == 0) && (r_19.2 == 0))
                · rw [hb] at hf
                  refine qS hf rfl rfl rfl fun a hf => ?_
                  refine qS hf rfl rfl rfl fun a hf => ?_
                  refine qS hf rfl rfl rfl fun a hf => ?_
                  refine qS hf rfl rfl rfl fun a hf => ?_
                  refine qS hf rfl rfl rfl fun a hf => ?_
                  refine qE hf rfl rfl rfl (Pu.ev (pPf rfl rfl)) fun a hf => ?_
                  exact qNil (hf.keep ⟨rfl, rfl, rfl, rfl, rfl, rfl, rfl, rfl, rfl, rfl, rfl, rfl, trivial⟩)
                · rw [hb] at hf
                  refine qE hf rfl rfl rfl (Pu.ev (pM rfl)) fun a hf => ?_
                  refine qE hf rfl rfl rfl (Pu.ev (pLenS Try.underlying36 rfl)) fun a hf => ?_
                  refine qE hf rfl rfl rfl (Pu.ev (pFA fa_24_0 rfl)) fun a hf => ?_
                  refine qE hf rfl rfl rfl (eLd1 sc_3 rfl (cell_box m16 rfl)) fun a hf => ?_
                  refine qE hf rfl rfl rfl (Pu.ev (pEq rfl rfl)) fun a hf => ?_
                  refine qE hf rfl rfl rfl (Pu.ev (pPt rfl rfl)) fun a hf => ?_
                  exact qNil (hf.keep ⟨rfl, rfl, rfl, rfl, rfl, rfl, rfl, rfl, rfl, rfl, rfl, rfl, trivial⟩)
              intro a hf
              refine qE hf rfl rfl rfl (Pu.ev (pM rfl)) fun a hf => ?_
              refine qCut 6 (fun a => Has 311 a [(9, .pointer (some ⟨b_2, 0, none⟩)), (28, .pointer (some ⟨b_6, 0, none⟩)), (30, .slice p_15 r_18.1.length c_15), (14, .int .i64 r_18.2), (31, .slice p_16 r_19.1.length c_16), (16, .int .i64 r_19.2), (275, .int .i64 r_18.2), (276, .bool (r_18.2 == 0)), (277, .bool (r_18.2 == 0)), (280, .bool ((r_18.2 == 0) && (r_19.2 == 0))), (281, .bool ((r_18.2 == 0) && (r_19.2 == 0))), (287, .bool (((r_18.2 == 0) && (r_19.2 == 0)) && (((r_18.1.length : Nat) : Int) == r_1.1.States))), (288, .bool (((r_18.2 == 0) && (r_19.2 == 0)) && (((r_18.1.length : Nat) : Int) == r_1.1.States))), (294, .bool ((((r_18.2 == 0) && (r_19.2 == 0)) && (((r_18.1.length : Nat) : Int) == r_1.1.States)) && (((r_19.1.length : Nat) : Int) == r_1.1.States)))]) ?_ ?_
              · cases hb : (((r_18.2 == 0) && (r_19.2 == 0)) && (((r_18.1.length : Nat) : Int) == r_1.1.States))
                · rw [hb] at hf
                  refine qS hf rfl rfl rfl fun a hf => ?_
                  refine qS hf rfl rfl rfl fun a hf => ?_
                  refine qS hf rfl rfl rfl fun a hf => ?_
                  refine qS hf rfl rfl rfl fun a hf => ?_
                  refine qS hf rfl rfl rfl fun a hf => ?_
                  refine qE hf rfl rfl rfl (Pu.ev (pPf rfl rfl)) fun a hf => ?_
                  exact qNil (hf.keep ⟨rfl, rfl, rfl, rfl, rfl, rfl, rfl, rfl, rfl, rfl, rfl, rfl, rfl, rfl, trivial⟩)
                · rw [hb] at hf
                  refine qE hf rfl rfl rfl (Pu.ev (pM rfl)) fun a hf => ?_
                  refine qE hf rfl rfl rfl (Pu.ev (pLenS Try.underlying36 rfl)) fun a hf => ?_
                  refine qE hf rfl rfl rfl (Pu.ev (pFA fa_24_0 rfl)) fun a hf => ?_
                  refine qE hf rfl rfl rfl (eLd1 sc_3 rfl (cell_box m16 rfl)) fun a hf => ?_
                  refine qE hf rfl rfl rfl (Pu.ev (pEq rfl rfl)) fun a hf => ?_
                  refine qE hf rfl rfl rfl (Pu.ev (pPt rfl rfl)) fun a hf => ?_
                  exact qNil (hf.keep ⟨rfl, rfl, rfl, rfl, rfl, rfl, rfl, rfl, rfl, rfl, rfl, rfl, rfl, rfl, trivial⟩)
              intro a hf
              refine qE hf rfl rfl rfl (Pu.ev (pM rfl)) fun a hf => ?_
              refine qCut 12 (fun a => Has 311 a [(9, .pointer (some ⟨b_2, 0, none⟩)), (28, .pointer (some ⟨b_6, 0, none⟩)), (30, .slice p_15 r_18.1.length c_15), (14, .int .i64 r_18.2), (31, .slice p_16 r_19.1.length c_16), (16, .int .i64 r_19.2), (275, .int .i64 r_18.2), (276, .bool (r_18.2 == 0)), (277, .bool (r_18.2 == 0)), (280, .bool ((r_18.2 == 0) && (r_19.2 == 0))), (281, .bool ((r_18.2 == 0) && (r_19.2 == 0))), (287, .bool (((r_18.2 == 0) && (r_19.2 == 0)) && (((r_18.1.length : Nat) : Int) == r_1.1.States))), (288, .bool (((r_18.2 == 0) && (r_19.2 == 0)) && (((r_18.1.length : Nat) : Int) == r_1.1.States))), (294, .bool ((((r_18.2 == 0) && (r_19.2 == 0)) && (((r_18.1.length : Nat) : Int) == r_1.1.States)) && (((r_19.1.length : Nat) : Int) == r_1.1.States))), (295, .bool ((((r_18.2 == 0) && (r_19.2 == 0)) && (((r_18.1.length : Nat) : Int) == r_1.1.States)) && (((r_19.1.length : Nat) : Int) == r_1.1.States))), (307, .bool t_4)]) ?_ ?_
              · cases hb : ((((r_18.2 == 0) && (r_19.2 == 0)) && (((r_18.1.length : Nat) : Int) == r_1.1.States)) && (((r_19.1.length : Nat) : Int) == r_1.1.States))
                · rw [hb] at hf
                  have hF := condF hb ht_4
                  obtain rfl := Option.some.inj hF
                  refine qS hf rfl rfl rfl fun a hf => ?_
                  refine qS hf rfl rfl rfl fun a hf => ?_
                  refine qS hf rfl rfl rfl fun a hf => ?_
                  refine qS hf rfl rfl rfl fun a hf => ?_
                  refine qS hf rfl rfl rfl fun a hf => ?_
                  refine qS hf rfl rfl rfl fun a hf => ?_
                  refine qS hf rfl rfl rfl fun a hf => ?_
                  refine qS hf rfl rfl rfl fun a hf => ?_
                  refine qS hf rfl rfl rfl fun a hf => ?_
                  refine qS hf rfl rfl rfl fun a hf => ?_
                  refine qS hf rfl rfl rfl fun a hf => ?_
                  refine qE hf rfl rfl rfl (Pu.ev (pPf rfl rfl)) fun a hf => ?_
                  exact qNil (hf.keep ⟨rfl, rfl, rfl, rfl, rfl, rfl, rfl, rfl, rfl, rfl, rfl, rfl, rfl, rfl, rfl, rfl, trivial⟩)
                · rw [hb] at hf
                  have hF := condT hb ht_4
                  obtain ⟨e_2, he_2, hF⟩ := bnd_some hF
                  obtain ⟨g_1, rfl, qa_1, qr_1⟩ := row_atm hc m3 he_2
                  obtain ⟨e_3, he_3, hF⟩ := bnd_some hF
                  obtain ⟨g_2, rfl, qa_2, qr_2⟩ := row_atm hc m1 he_3
                  refine qE hf rfl rfl rfl (Pu.ev (pM rfl)) fun a hf => ?_
                  refine qE hf rfl rfl rfl (Pu.ev (pFA fa_51_0 rfl)) fun a hf => ?_
                  refine qE hf rfl rfl rfl (eLd1 sc_3 rfl (cell_box m6 rfl)) fun a hf => ?_
                  refine qE hf rfl rfl rfl (Pu.ev (pIA Try.underlying36 sz_3 rfl rfl qa_1)) fun a hf => ?_
                  refine qE hf rfl rfl rfl (eLd1 sc_3 rfl (cell_row (sz := 1) (i := e_1.State.toNat) (j := 0) m3 qr_1 rfl)) fun a hf => ?_
                  refine qE hf rfl rfl rfl (Pu.ev (pM rfl)) fun a hf => ?_
                  refine qE hf rfl rfl rfl (Pu.ev (pFA fa_51_0 rfl)) fun a hf => ?_
                  refine qE hf rfl rfl rfl (eLd1 sc_3 rfl (cell_box m6 rfl)) fun a hf => ?_
                  refine qE hf rfl rfl rfl (Pu.ev (pIA Try.underlying36 sz_3 rfl rfl qa_2)) fun a hf => ?_
                  refine qE hf rfl rfl rfl (eLd1 sc_3 rfl (cell_row (sz := 1) (i := e_1.State.toNat) (j := 0) m1 qr_2 rfl)) fun a hf => ?_
                  refine qE hf rfl rfl rfl (Pu.ev (pGe rfl rfl)) fun a hf => ?_
                  refine qE hf rfl rfl rfl (Pu.ev (pPt rfl rfl)) fun a hf => ?_
                  obtain rfl := Option.some.inj hF
                  exact qNil (hf.keep ⟨rfl, rfl, rfl, rfl, rfl, rfl, rfl, rfl, rfl, rfl, rfl, rfl, rfl, rfl, rfl, rfl, trivial⟩)
              intro a hf
              refine qE hf rfl rfl rfl (Pu.ev (pM rfl)) fun a hf => ?_
              refine qCut 2 (fun a => Has 311 a [(9, .pointer (some ⟨b_2, 0, none⟩)), (28, .pointer (some ⟨b_6, 0, none⟩)), (30, .slice p_15 r_18.1.length c_15), (14, .int .i64 r_18.2), (31, .slice p_16 r_19.1.length c_16), (16, .int .i64 r_19.2), (275, .int .i64 r_18.2), (276, .bool (r_18.2 == 0)), (277, .bool (r_18.2 == 0)), (280, .bool ((r_18.2 == 0) && (r_19.2 == 0))), (281, .bool ((r_18.2 == 0) && (r_19.2 == 0))), (287, .bool (((r_18.2 == 0) && (r_19.2 == 0)) && (((r_18.1.length : Nat) : Int) == r_1.1.States))), (288, .bool (((r_18.2 == 0) && (r_19.2 == 0)) && (((r_18.1.length : Nat) : Int) == r_1.1.States))), (294, .bool ((((r_18.2 == 0) && (r_19.2 == 0)) && (((r_18.1.length : Nat) : Int) == r_1.1.States)) && (((r_19.1.length : Nat) : Int) == r_1.1.States))), (295, .bool ((((r_18.2 == 0) && (r_19.2 == 0)) && (((r_18.1.length : Nat) : Int) == r_1.1.States)) && (((r_19.1.length : Nat) : Int) == r_1.1.States))), (307, .bool t_4), (308, .bool t_4), (310, .bool t_5)]) ?_ ?_
              · cases hb : t_4
                · rw [hb] at hf
                  have hF := condF hb ht_5
                  obtain rfl := Option.some.inj hF
                  refine qS hf rfl rfl rfl fun a hf => ?_
                  refine qE hf rfl rfl rfl (Pu.ev (pPf rfl rfl)) fun a hf => ?_
                  exact qNil (hf.keep ⟨rfl, rfl, rfl, rfl, rfl, rfl, rfl, rfl, rfl, rfl, rfl, rfl, rfl, rfl, rfl, rfl, rfl, rfl, trivial⟩)
                · rw [hb] at hf
                  have hF := condT hb ht_5
                  obtain ⟨r_20, hr_20, hF⟩ := bnd_some hF
                  refine qE hf rfl rfl rfl (eC (v := .bool r_20) (vs := []) (caps := []) en_13 rfl rfl rfl rfl (fun w hc => law09_awake_ok hc hr_20)) fun a hf => ?_
                  refine qE hf rfl rfl rfl (Pu.ev (pPt rfl rfl)) fun a hf => ?_
                  obtain rfl := Option.some.inj hF
                  exact qNil (hf.keep ⟨rfl, rfl, rfl, rfl, rfl, rfl, rfl, rfl, rfl, rfl, rfl, rfl, rfl, rfl, rfl, rfl, rfl, rfl, trivial⟩)
              intro a hf
              refine qE hf rfl rfl rfl (Pu.ev (pA rfl)) fun a hf => ?_
              intro w hc
              refine h39 _ _ ?_
              refine wp_ret ?_
              obtain rfl := Option.some.inj hF
              replace hc := hc.drop k16
              replace hc := hc.drop k15
              replace hc := hc.drop k14
              replace hc := hc.drop k13
              replace hc := hc.drop k12
              replace hc := hc.drop k11
              replace hc := hc.drop k10
              replace hc := hc.drop k9
              replace hc := hc.drop k8
              replace hc := hc.drop k7
              replace hc := hc.drop k6
              replace hc := hc.drop k5
              replace hc := hc.drop k4
              replace hc := hc.drop k3
              replace hc := hc.drop k2
              replace hc := hc.drop k1
              replace hc := hc.drop k0
              exact fnOut1 (by simp) rfl Try.results12 hf hc (show look _ 8 = _ from rfl) ⟨rfl, hc⟩
    have ho15 : ∀ r, x15 = .out r → r = res := by
      rintro r rfl
      exact Option.some.inj hF
    replace hc := hc.drop k7
    replace hc := hc.drop k5
    refine cLoop N (loopW (S := S15) (x := x15) ?_ N (r_3.1, r_4.1, 0) _ _ ⟨p_2, c_2, p_3, c_3, hf.keep ⟨rfl, rfl, rfl, rfl, rfl, rfl, rfl, rfl, trivial⟩, hc⟩ hx15)
    clear hF hf hc
    rintro ⟨s_1, got, x⟩ st15 a w KB15 ⟨p_6, c_6, p_7, c_7, hf, hc⟩ hF hfin15 hK15
    unfold law09_ShareServed_b15 at hF
    refine wp_seq_k fun K40 h40 => ?_
    refine cReg ?_
    refine stP hf rfl rfl rfl (pLt rfl rfl) fun a hf => ?_
    refine cNil ?_
    refine h40 _ _ ?_
    refine wp_seq_k fun K41 h41 => ?_
    refine cCond (b := (decide (x < ((r_3.1.length : Nat) : Int)))) hf rfl (fun hb => ?_) (fun hb => ?_)
    · replace hF := condT hb hF
      clear hb
      refine wp_skip ?_
      refine h41 _ _ ?_
      refine wp_seq_k fun K42 h42 => ?_
      refine wp_block ?_
      refine wp_seq_k fun K43 h43 => ?_
      refine cReg ?_
      refine stP hf rfl rfl rfl (pM rfl) fun a hf => ?_
      refine stP hf rfl rfl rfl (pA rfl) fun a hf => ?_
      refine cNil ?_
      refine h43 _ _ ?_
      refine wp_seq_k fun K44 h44 => ?_
      obtain ⟨e_4, he_4, hF⟩ := bnd_some hF
      obtain ⟨g_3, rfl, qa_3, qr_3⟩ := row_atm hc m3 he_4
      obtain ⟨e_5, he_5, hF⟩ := bnd_some hF
      obtain ⟨g_4, rfl, qa_4, qr_4⟩ := row_atm hc m4 he_5
      obtain ⟨t_6, ht_6, hF⟩ := bnd_some hF
      obtain ⟨t_7, ht_7, hF⟩ := bnd_some hF
      obtain ⟨t_8, ht_8, hF⟩ := bnd_some hF
      refine cQ hc follows_mx (by kernel_rfl) ?_
      refine qE hf rfl rfl rfl (Pu.ev (pM rfl)) fun a hf => ?_
      refine qE hf rfl rfl rfl (Pu.ev (pM rfl)) fun a hf => ?_
      refine qE hf rfl rfl rfl (Pu.ev (pIA Try.underlying36 sz_3 rfl rfl qa_3)) fun a hf => ?_
      refine qE hf rfl rfl rfl (eLd1 sc_3 rfl (cell_row (sz := 1) (i := x.toNat) (j := 0) m3 qr_3 rfl)) fun a hf => ?_
      refine qE hf rfl rfl rfl (Pu.ev (pM rfl)) fun a hf => ?_
      refine qE hf rfl rfl rfl (Pu.ev (pM rfl)) fun a hf => ?_
      refine qE hf rfl rfl rfl (Pu.ev (pIA Try.underlying41 sz_26 rfl rfl qa_4)) fun a hf => ?_
      refine qE hf rfl rfl rfl (Pu.ev (pFA fa_26_0 rfl)) fun a hf => ?_
      refine qE hf rfl rfl rfl (eLd1 sc_3 rfl (cell_row (sz := 2) (i := x.toNat) (j := 0) m4 qr_4 rfl)) fun a hf => ?_
      refine qE hf rfl rfl rfl (Pu.ev (pLt rfl rfl)) fun a hf => ?_
      refine qE hf rfl rfl rfl (Pu.ev (pM rfl)) fun a hf => ?_
      refine qCut 11 (fun a => Has 311 a [(9, .pointer (some ⟨b_2, 0, none⟩)), (12, .int .i64 (W (r_2.Lo + (W ((W ((W (at_)) * (W (r_2.Hi - r_2.Lo)))).tdiv 255))))), (13, .slice (some ⟨g_4, 0, none⟩) s_1.length c_6), (15, .slice (some ⟨g_3, 0, none⟩) got.length c_7), (17, .slice p_4 r_5.1.length c_4), (19, .slice p_5 r_6.1.length c_5), (126, .int .i64 ((r_3.1.length : Nat) : Int)), (127, .int .i64 x), (21, .int .i64 x), (130, .slice (some ⟨g_3, 0, none⟩) got.length c_7), (131, .int .i64 x), (132, .pointer (some ⟨g_3, x.toNat * 1, none⟩)), (133, .int .i64 e_4), (134, .slice (some ⟨g_4, 0, none⟩) s_1.length c_6), (135, .int .i64 x), (136, .pointer (some ⟨g_4, x.toNat * 2, none⟩)), (137, .pointer (some ⟨g_4, x.toNat * 2 + 0, none⟩)), (138, .int .i64 e_5.Lo), (139, .bool (decide (e_4 < e_5.Lo))), (140, .bool (decide (e_4 < e_5.Lo))), (151, .bool t_6)]) ?_ ?_
      · cases hb : (decide (e_4 < e_5.Lo))
        · rw [hb] at hf
          have hF := condF hb ht_6
          obtain ⟨e_6, he_6, hF⟩ := bnd_some hF
          obtain ⟨qa_5, qr_5⟩ := row_atk hc m3 he_6
          obtain ⟨e_7, he_7, hF⟩ := bnd_some hF
          obtain ⟨qa_6, qr_6⟩ := row_atk hc m4 he_7
          refine qE hf rfl rfl rfl (Pu.ev (pM rfl)) fun a hf => ?_
          refine qE hf rfl rfl rfl (Pu.ev (pM rfl)) fun a hf => ?_
          refine qE hf rfl rfl rfl (Pu.ev (pIA Try.underlying36 sz_3 rfl rfl qa_5)) fun a hf => ?_
          refine qE hf rfl rfl rfl (eLd1 sc_3 rfl (cell_row (sz := 1) (i := x.toNat) (j := 0) m3 qr_5 rfl)) fun a hf => ?_
          refine qE hf rfl rfl rfl (Pu.ev (pM rfl)) fun a hf => ?_
          refine qE hf rfl rfl rfl (Pu.ev (pM rfl)) fun a hf => ?_
          refine qE hf rfl rfl rfl (Pu.ev (pIA Try.underlying41 sz_26 rfl rfl qa_6)) fun a hf => ?_
          refine qE hf rfl rfl rfl (Pu.ev (pFA fa_26_1 rfl)) fun a hf => ?_
          refine qE hf rfl rfl rfl (eLd1 sc_3 rfl (cell_row (sz := 2) (i := x.toNat) (j := 1) m4 qr_6 rfl)) fun a hf => ?_
          refine qE hf rfl rfl rfl (Pu.ev (pGt rfl rfl)) fun a hf => ?_
          refine qE hf rfl rfl rfl (Pu.ev (pPf rfl rfl)) fun a hf => ?_
          obtain rfl := Option.some.inj hF
          exact qNil (hf.keep ⟨rfl, rfl, rfl, rfl, rfl, rfl, rfl, rfl, rfl, rfl, rfl, rfl, rfl, rfl, rfl, rfl, rfl, rfl, rfl, rfl, rfl, trivial⟩)
        · rw [hb] at hf
          have hF := condT hb ht_6
          obtain rfl := Option.some.inj hF
          refine qS hf rfl rfl rfl fun a hf => ?_
          refine qS hf rfl rfl rfl fun a hf => ?_
          refine qS hf rfl rfl rfl fun a hf => ?_
          refine qS hf rfl rfl rfl fun a hf => ?_
          refine qS hf rfl rfl rfl fun a hf => ?_
          refine qS hf rfl rfl rfl fun a hf => ?_
          refine qS hf rfl rfl rfl fun a hf => ?_
          refine qS hf rfl rfl rfl fun a hf => ?_
          refine qS hf rfl rfl rfl fun a hf => ?_
          refine qS hf rfl rfl rfl fun a hf => ?_
          refine qE hf rfl rfl rfl (Pu.ev (pPt rfl rfl)) fun a hf => ?_
          exact qNil (hf.keep ⟨rfl, rfl, rfl, rfl, rfl, rfl, rfl, rfl, rfl, rfl, rfl, rfl, rfl, rfl, rfl, rfl, rfl, rfl, rfl, rfl, rfl, trivial⟩)
      intro a hf
      refine qE hf rfl rfl rfl (Pu.ev (pM rfl)) fun a hf => ?_
      refine qCut 11 (fun a => Has 311 a [(9, .pointer (some ⟨b_2, 0, none⟩)), (12, .int .i64 (W (r_2.Lo + (W ((W ((W (at_)) * (W (r_2.Hi - r_2.Lo)))).tdiv 255))))), (13, .slice (some ⟨g_4, 0, none⟩) s_1.length c_6), (15, .slice (some ⟨g_3, 0, none⟩) got.length c_7), (17, .slice p_4 r_5.1.length c_4), (19, .slice p_5 r_6.1.length c_5), (126, .int .i64 ((r_3.1.length : Nat) : Int)), (127, .int .i64 x), (21, .int .i64 x), (130, .slice (some ⟨g_3, 0, none⟩) got.length c_7), (131, .int .i64 x), (132, .pointer (some ⟨g_3, x.toNat * 1, none⟩)), (133, .int .i64 e_4), (134, .slice (some ⟨g_4, 0, none⟩) s_1.length c_6), (135, .int .i64 x), (136, .pointer (some ⟨g_4, x.toNat * 2, none⟩)), (137, .pointer (some ⟨g_4, x.toNat * 2 + 0, none⟩)), (138, .int .i64 e_5.Lo), (139, .bool (decide (e_4 < e_5.Lo))), (140, .bool (decide (e_4 < e_5.Lo))), (151, .bool t_6), (152, .bool t_6), (163, .bool t_7)]) ?_ ?_
      · cases hb : t_6
        · rw [hb] at hf
          have hF := condF hb ht_7
          obtain ⟨e_8, he_8, hF⟩ := bnd_some hF
          obtain ⟨g_5, rfl, qa_7, qr_7⟩ := row_atm hc m2 he_8
          obtain ⟨e_9, he_9, hF⟩ := bnd_some hF
          obtain ⟨qa_8, qr_8⟩ := row_atk hc m4 he_9
          refine qE hf rfl rfl rfl (Pu.ev (pM rfl)) fun a hf => ?_
          refine qE hf rfl rfl rfl (Pu.ev (pM rfl)) fun a hf => ?_
          refine qE hf rfl rfl rfl (Pu.ev (pIA Try.underlying36 sz_3 rfl rfl qa_7)) fun a hf => ?_
          refine qE hf rfl rfl rfl (eLd1 sc_3 rfl (cell_row (sz := 1) (i := x.toNat) (j := 0) m2 qr_7 rfl)) fun a hf => ?_
          refine qE hf rfl rfl rfl (Pu.ev (pM rfl)) fun a hf => ?_
          refine qE hf rfl rfl rfl (Pu.ev (pM rfl)) fun a hf => ?_
          refine qE hf rfl rfl rfl (Pu.ev (pIA Try.underlying41 sz_26 rfl rfl qa_8)) fun a hf => ?_
          refine qE hf rfl rfl rfl (Pu.ev (pFA fa_26_0 rfl)) fun a hf => ?_
          refine qE hf rfl rfl rfl (eLd1 sc_3 rfl (cell_row (sz := 2) (i := x.toNat) (j := 0) m4 qr_8 rfl)) fun a hf => ?_
          refine qE hf rfl rfl rfl (Pu.ev (pNe rfl rfl)) fun a hf => ?_
          refine qE hf rfl rfl rfl (Pu.ev (pPf rfl rfl)) fun a hf => ?_
          obtain rfl := Option.some.inj hF
          exact qNil (hf.keep ⟨rfl, rfl, rfl, rfl, rfl, rfl, rfl, rfl, rfl, rfl, rfl, rfl, rfl, rfl, rfl, rfl, rfl, rfl, rfl, rfl, rfl, rfl, rfl, trivial⟩)
        · rw [hb] at hf
          have hF := condT hb ht_7
          obtain rfl := Option.some.inj hF
          refine qS hf rfl rfl rfl fun a hf => ?_
          refine qS hf rfl rfl rfl fun a hf => ?_
          refine qS hf rfl rfl rfl fun a hf => ?_
          refine qS hf rfl rfl rfl fun a hf => ?_
          refine qS hf rfl rfl rfl fun a hf => ?_
          refine qS hf rfl rfl rfl fun a hf => ?_
          refine qS hf rfl rfl rfl fun a hf => ?_
          refine qS hf rfl rfl rfl fun a hf => ?_
          refine qS hf rfl rfl rfl fun a hf => ?_
          refine qS hf rfl rfl rfl fun a hf => ?_
          refine qE hf rfl rfl rfl (Pu.ev (pPt rfl rfl)) fun a hf => ?_
          exact qNil (hf.keep ⟨rfl, rfl, rfl, rfl, rfl, rfl, rfl, rfl, rfl, rfl, rfl, rfl, rfl, rfl, rfl, rfl, rfl, rfl, rfl, rfl, rfl, rfl, rfl, trivial⟩)
      intro a hf
      refine qE hf rfl rfl rfl (Pu.ev (pM rfl)) fun a hf => ?_
      refine qCut 11 (fun a => Has 311 a [(9, .pointer (some ⟨b_2, 0, none⟩)), (12, .int .i64 (W (r_2.Lo + (W ((W ((W (at_)) * (W (r_2.Hi - r_2.Lo)))).tdiv 255))))), (13, .slice (some ⟨g_4, 0, none⟩) s_1.length c_6), (15, .slice (some ⟨g_3, 0, none⟩) got.length c_7), (17, .slice p_4 r_5.1.length c_4), (19, .slice p_5 r_6.1.length c_5), (126, .int .i64 ((r_3.1.length : Nat) : Int)), (127, .int .i64 x), (21, .int .i64 x), (130, .slice (some ⟨g_3, 0, none⟩) got.length c_7), (131, .int .i64 x), (132, .pointer (some ⟨g_3, x.toNat * 1, none⟩)), (133, .int .i64 e_4), (134, .slice (some ⟨g_4, 0, none⟩) s_1.length c_6), (135, .int .i64 x), (136, .pointer (some ⟨g_4, x.toNat * 2, none⟩)), (137, .pointer (some ⟨g_4, x.toNat * 2 + 0, none⟩)), (138, .int .i64 e_5.Lo), (139, .bool (decide (e_4 < e_5.Lo))), (140, .bool (decide (e_4 < e_5.Lo))), (151, .bool t_6), (152, .bool t_6), (163, .bool t_7), (164, .bool t_7), (175, .bool t_8)]) ?_ ?_
      · cases hb : t_7
        · rw [hb] at hf
          have hF := condF hb ht_8
          obtain ⟨e_10, he_10, hF⟩ := bnd_some hF
          obtain ⟨g_6, rfl, qa_9, qr_9⟩ := row_atm hc m1 he_10
          obtain ⟨e_11, he_11, hF⟩ := bnd_some hF
          obtain ⟨qa_10, qr_10⟩ := row_atk hc m4 he_11
          refine qE hf rfl rfl rfl (Pu.ev (pM rfl)) fun a hf => ?_
          refine qE hf rfl rfl rfl (Pu.ev (pM rfl)) fun a hf => ?_
          refine qE hf rfl rfl rfl (Pu.ev (pIA Try.underlying36 sz_3 rfl rfl qa_9)) fun a hf => ?_
          refine qE hf rfl rfl rfl (eLd1 sc_3 rfl (cell_row (sz := 1) (i := x.toNat) (j := 0) m1 qr_9 rfl)) fun a hf => ?_
          refine qE hf rfl rfl rfl (Pu.ev (pM rfl)) fun a hf => ?_
          refine qE hf rfl rfl rfl (Pu.ev (pM rfl)) fun a hf => ?_
          refine qE hf rfl rfl rfl (Pu.ev (pIA Try.underlying41 sz_26 rfl rfl qa_10)) fun a hf => ?_
          refine qE hf rfl rfl rfl (Pu.ev (pFA fa_26_1 rfl)) fun a hf => ?_
          refine qE hf rfl rfl rfl (eLd1 sc_3 rfl (cell_row (sz := 2) (i := x.toNat) (j := 1) m4 qr_10 rfl)) fun a hf => ?_
          refine qE hf rfl rfl rfl (Pu.ev (pNe rfl rfl)) fun a hf => ?_
          refine qE hf rfl rfl rfl (Pu.ev (pPf rfl rfl)) fun a hf => ?_
          obtain rfl := Option.some.inj hF
          exact qNil (hf.keep ⟨rfl, rfl, rfl, rfl, rfl, rfl, rfl, rfl, rfl, rfl, rfl, rfl, rfl, rfl, rfl, rfl, rfl, rfl, rfl, rfl, rfl, rfl, rfl, rfl, rfl, trivial⟩)
        · rw [hb] at hf
          have hF := condT hb ht_8
          obtain rfl := Option.some.inj hF
          refine qS hf rfl rfl rfl fun a hf => ?_
          refine qS hf rfl rfl rfl fun a hf => ?_
          refine qS hf rfl rfl rfl fun a hf => ?_
          refine qS hf rfl rfl rfl fun a hf => ?_
          refine qS hf rfl rfl rfl fun a hf => ?_
          refine qS hf rfl rfl rfl fun a hf => ?_
          refine qS hf rfl rfl rfl fun a hf => ?_
          refine qS hf rfl rfl rfl fun a hf => ?_
          refine qS hf rfl rfl rfl fun a hf => ?_
          refine qS hf rfl rfl rfl fun a hf => ?_
          refine qE hf rfl rfl rfl (Pu.ev (pPt rfl rfl)) fun a hf => ?_
          exact qNil (hf.keep ⟨rfl, rfl, rfl, rfl, rfl, rfl, rfl, rfl, rfl, rfl, rfl, rfl, rfl, rfl, rfl, rfl, rfl, rfl, rfl, rfl, rfl, rfl, rfl, rfl, rfl, trivial⟩)
      intro a hf
      intro w hc
      refine h44 _ _ ?_
      refine cCond (b := t_8) hf rfl (fun hb => ?_) (fun hb => ?_)
      · replace hF := condT hb hF
        clear hb
        refine wp_seq_k fun K45 h45 => ?_
        refine cReg ?_
        refine stP hf rfl rfl rfl (pA rfl) fun a hf => ?_
        refine cNil ?_
        refine h45 _ _ ?_
        refine wp_ret ?_
        refine xBlkR ?_
        refine xThenR ?_
        refine xThenR ?_
        have he := Option.some.inj hF
        rw [← he] at hfin15
        replace hF := ho15 _ hfin15
        refine xBlkR ?_
        refine xThenR ?_
        obtain rfl := hF
        replace hc := hc.drop k5
        replace hc := hc.drop k4
        replace hc := hc.drop k3
        replace hc := hc.drop k2
        replace hc := hc.drop k1
        replace hc := hc.drop k0
        exact fnOut1 (by simp) rfl Try.results12 hf hc (show look _ 8 = _ from rfl) ⟨rfl, hc⟩
      · replace hF := condF hb hF
        clear hb
        refine wp_skip ?_
        refine h42 _ _ ?_
        refine cReg ?_
        refine stP hf rfl rfl rfl (pAdd rfl rfl) fun a hf => ?_
        refine stP hf rfl rfl rfl (pM rfl) fun a hf => ?_
        refine cNil ?_
        exact hK15 (s_1, got, W (x + 1)) _ _ (Option.some.inj hF).symm ⟨(some ⟨g_4, 0, none⟩), c_6, (some ⟨g_3, 0, none⟩), c_7, hf.keep ⟨rfl, rfl, rfl, rfl, rfl, rfl, rfl, rfl, trivial⟩, hc⟩
    · replace hF := condF hb hF
      clear hb
      refine wp_exit ?_
      refine xThen ?_
      refine xThen ?_
      have he := Option.some.inj hF
      rw [← he] at hfin15
      refine cHit ?_
      exact hr15 _ _ _ hfin15 ⟨p_6, c_6, p_7, c_7, hf.keep ⟨rfl, rfl, rfl, rfl, rfl, rfl, rfl, rfl, trivial⟩, hc⟩

end Go.Nilo
