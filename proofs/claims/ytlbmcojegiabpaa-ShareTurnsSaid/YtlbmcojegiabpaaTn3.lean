/-
  What functions of the Go text compute, as plain functions, and that they do, part 3 of 4. Conditions: what each theorem names.
-/
import Derived.Test.YtlbmcojegiabpaaTn2
import Derived.Test.YtlbmcojegiabpaaProg
set_option linter.unusedVariables false
set_option maxRecDepth 100000
set_option maxHeartbeats 4000000
namespace Go.Nilo
open Go.Proofs


def law09_awake (N : Nat)  : Option (Bool) :=
  Option.bind (law09_Two N) fun r =>
  Option.bind (share_Real N r 120) fun r_1 =>
  Option.bind (law09_Two N) fun r_2 =>
  Option.bind (law09_span N 90 185) fun r_3 =>
  Option.bind (share_Shares N r_2 r_3) fun r_4 =>
  Option.bind (law09_Two N) fun r_5 =>
  Option.bind (share_Short N r_5 120) fun r_6 =>
  Option.bind (law09_Line N) fun r_7 =>
  Option.bind (share_Debts N r_7.1 (⟨0, 0⟩ : api_Span) r_7.2) fun r_8 =>
  Option.bind (cond ((((r_1.2 != 0) || (r_4.2 != 0)) || (r_6.2 != 0)) || (r_8.2 != 0)) (some true) (Option.bind (kit_Same_int N r_1.1 ([95, 18] : List Int)) fun r_9 =>
  some (!r_9))) fun t_1 =>
  Option.bind (cond t_1 (some true) (Option.bind (kit_Same_api_Span N r_4.1 ([(⟨85, 120⟩ : api_Span), (⟨0, 54⟩ : api_Span)] : List api_Span)) fun r_10 =>
  some (!r_10))) fun t_2 =>
  Option.bind (cond (t_2 || (r_6.1 != 1)) (some true) (Option.bind (kit_Same_api_Span N r_8.1 ([(⟨(-2), 8⟩ : api_Span), (⟨(-15), (-12)⟩ : api_Span), (⟨0, 0⟩ : api_Span)] : List api_Span)) fun r_11 =>
  some (!r_11))) fun t_3 =>
  cond t_3
  (some false)
  (Option.bind (share_Payback N 100 (⟨15, 4, ([20, 30, 30, 40, 40, 40] : List Int)⟩ : share_Pact)) fun r_12 =>
  Option.bind (share_Turns N ([60, 30, 10] : List Int) 9 0) fun r_13 =>
  Option.bind (share_Turns N ([60, 30, 10] : List Int) 9 1) fun r_14 =>
  Option.bind (share_Divisors N ([60, 30, 10] : List Int) ([6, 3, 0] : List Int) 0) fun r_15 =>
  Option.bind (share_Unfair N ([60, 30, 10] : List Int) ([7, 2, 0] : List Int) 0) fun r_16 =>
  Option.bind (cond (((((r_12.2 == 0) && (r_13.2 == 0)) && (r_14.2 == 0)) && (r_15.2.2 == 0)) && (r_16.2.2 == 0)) (Option.bind (kit_Same_int N r_12.1 ([20, 20, 15, 15, 15, 15] : List Int)) fun r_17 =>
  some r_17) (some false)) fun t_4 =>
  Option.bind (cond t_4 (Option.bind (kit_Same_int N r_13.1 ([6, 3, 0] : List Int)) fun r_18 =>
  some r_18) (some false)) fun t_5 =>
  Option.bind (cond t_5 (Option.bind (kit_Same_int N r_14.1 ([5, 3, 1] : List Int)) fun r_19 =>
  some r_19) (some false)) fun t_6 =>
  some ((((t_6 && (r_15.1.N == 10 && r_15.1.D == 1)) && (r_15.2.1.N == r_15.1.N && r_15.2.1.D == r_15.1.D)) && (r_16.1 == 0)) && (r_16.2.1 == 1)))
theorem law09_awake_ok {N : Nat} {G : Pers} {Lf : List Ent} {w : World}    (hc : Ctx G (Lf) w) {res : Bool} (hF : law09_awake N = some res) : Calls Try.prog 13 #[] w (fun e w => e = .returned (.bool res) ∧ Ctx G (Lf) w) := by
  unfold law09_awake at hF
  refine fnIn (args := []) Try.func13 rfl Try.ntmps13 rfl fun a hf => ?_
  refine wp_seq_k fun K1 h1 => ?_
  refine cReg ?_
  refine stP hf rfl rfl rfl (pA rfl) fun a hf => ?_
  refine cNil ?_
  refine h1 _ _ ?_
  refine wp_seq_k fun K2 h2 => ?_
  refine cReg ?_
  obtain ⟨r, hr, hF⟩ := bnd_some hF
  refine stC (vs := []) (caps := []) hf rfl rfl rfl en_67 rfl rfl rfl rfl (law09_Two_ok hc hr) ?_
  rintro _ w ⟨p_1, c_1, rfl, hc⟩
  refine ⟨_, rfl, fun a hf => ?_⟩
  obtain ⟨r_1, hr_1, hF⟩ := bnd_some hF
  obtain ⟨G1, hle1, hrd1, hc, hth1⟩ := lend hc k0
  refine stC (vs := [.agg #[.int .i64 r.States, .slice p_1 r.Rights.length c_1], .int .i64 120]) (caps := []) hf rfl rfl rfl en_18 rfl rfl rfl rfl (share_Real_ok r 120 hrd1 hc hr_1) ?_
  rintro _ w ⟨p_2, c_2, rfl, hc⟩
  refine ⟨_, rfl, fun a hf => ?_⟩
  replace hc := hth1 _ _ hc
  refine stP hf rfl rfl rfl (pM rfl) fun a hf => ?_
  refine stP hf rfl rfl rfl (pX rfl rfl) fun a hf => ?_
  refine stP hf rfl rfl rfl (pX rfl rfl) fun a hf => ?_
  refine stP hf rfl rfl rfl (pA rfl) fun a hf => ?_
  refine stP hf rfl rfl rfl (pA rfl) fun a hf => ?_
  refine cNil ?_
  refine h2 _ _ ?_
  refine wp_seq_k fun K3 h3 => ?_
  refine cReg ?_
  obtain ⟨r_2, hr_2, hF⟩ := bnd_some hF
  refine stC (vs := []) (caps := []) hf rfl rfl rfl en_67 rfl rfl rfl rfl (law09_Two_ok hc hr_2) ?_
  rintro _ w ⟨p_3, c_3, rfl, hc⟩
  refine ⟨_, rfl, fun a hf => ?_⟩
  obtain ⟨r_3, hr_3, hF⟩ := bnd_some hF
  refine stE hf hc rfl rfl rfl (eC (v := .agg #[.int .i64 r_3.Lo, .int .i64 r_3.Hi]) (vs := [.int .i64 90, .int .i64 185]) (caps := []) en_60 rfl rfl rfl rfl (fun w hc => law09_span_ok 90 185 hc hr_3)) fun a w hf hc => ?_
  obtain ⟨r_4, hr_4, hF⟩ := bnd_some hF
  obtain ⟨G1, hle1, hrd1, hc, hth1⟩ := lend hc k0
  refine stC (vs := [.agg #[.int .i64 r_2.States, .slice p_3 r_2.Rights.length c_3], .agg #[.int .i64 r_3.Lo, .int .i64 r_3.Hi]]) (caps := []) hf rfl rfl rfl en_21 rfl rfl rfl rfl (share_Shares_ok r_2 r_3 hrd1 hc hr_4) ?_
  rintro _ w ⟨p_4, c_4, rfl, hc⟩
  refine ⟨_, rfl, fun a hf => ?_⟩
  replace hc := hth1 _ _ hc
  refine stP hf rfl rfl rfl (pM rfl) fun a hf => ?_
  refine stP hf rfl rfl rfl (pX rfl rfl) fun a hf => ?_
  refine stP hf rfl rfl rfl (pX rfl rfl) fun a hf => ?_
  refine stP hf rfl rfl rfl (pA rfl) fun a hf => ?_
  refine stP hf rfl rfl rfl (pA rfl) fun a hf => ?_
  refine cNil ?_
  refine h3 _ _ ?_
  refine wp_seq_k fun K4 h4 => ?_
  refine cReg ?_
  obtain ⟨r_5, hr_5, hF⟩ := bnd_some hF
  refine stC (vs := []) (caps := []) hf rfl rfl rfl en_67 rfl rfl rfl rfl (law09_Two_ok hc hr_5) ?_
  rintro _ w ⟨p_5, c_5, rfl, hc⟩
  refine ⟨_, rfl, fun a hf => ?_⟩
  obtain ⟨r_6, hr_6, hF⟩ := bnd_some hF
  refine stE hf hc rfl rfl rfl (eC (v := .tuple #[.int .i64 r_6.1, .int .i64 r_6.2]) (vs := [.agg #[.int .i64 r_5.States, .slice p_5 r_5.Rights.length c_5], .int .i64 120]) (caps := []) en_24 rfl rfl rfl rfl (fun w hc => by obtain ⟨G1, hle1, hrd1, hc, hth1⟩ := lend hc k0; exact (share_Short_ok r_5 120 hrd1 hc hr_6).mono fun e w h => ⟨h.1, ((hth1 _ _ h.2).unpick k0)⟩)) fun a w hf hc => ?_
  refine stP hf rfl rfl rfl (pM rfl) fun a hf => ?_
  refine stP hf rfl rfl rfl (pX rfl rfl) fun a hf => ?_
  refine stP hf rfl rfl rfl (pX rfl rfl) fun a hf => ?_
  refine stP hf rfl rfl rfl (pA rfl) fun a hf => ?_
  refine stP hf rfl rfl rfl (pA rfl) fun a hf => ?_
  refine cNil ?_
  refine h4 _ _ ?_
  refine wp_seq_k fun K5 h5 => ?_
  refine cReg ?_
  obtain ⟨r_7, hr_7, hF⟩ := bnd_some hF
  refine stC (vs := []) (caps := []) hf rfl rfl rfl en_68 rfl rfl rfl rfl (law09_Line_ok hc hr_7) ?_
  rintro _ w ⟨p_6, c_6, p_7, c_7, rfl, hc⟩
  refine ⟨_, rfl, fun a hf => ?_⟩
  refine stP hf rfl rfl rfl (pM rfl) fun a hf => ?_
  refine stP hf rfl rfl rfl (pX rfl rfl) fun a hf => ?_
  refine stP hf rfl rfl rfl (pX rfl rfl) fun a hf => ?_
  refine stAl (cs := [.slice none 0 0, .int .i64 0]) hf hc rfl rfl zr_88 rfl fun b_1 a w hf hc => ?_
  refine stSt (vs := [.slice p_6 r_7.1.Table.length c_6, .int .i64 r_7.1.Credit]) hf hc rfl rfl rfl rfl sz_88 rfl rfl u0 fun w hc => ?_
  refine stP hf rfl rfl rfl (pA rfl) fun a hf => ?_
  refine cNil ?_
  refine h5 _ _ ?_
  refine wp_seq_k fun K6 h6 => ?_
  refine cReg ?_
  refine stE hf hc rfl rfl rfl (eLdN (vs := [.slice p_6 r_7.1.Table.length c_6, .int .i64 r_7.1.Credit]) ag_88 rfl rfl (cells_box (n := 2) m0 rfl)) fun a w hf hc => ?_
  refine stP hf rfl rfl rfl (pBuildS (cells := [.int .i64 0, .int .i64 0]) bt_26 rfl rfl) fun a hf => ?_
  refine stP hf rfl rfl rfl (pM rfl) fun a hf => ?_
  obtain ⟨r_8, hr_8, hF⟩ := bnd_some hF
  obtain ⟨G1, hle1, hrd1, hc, hth1⟩ := lend hc k1
  obtain ⟨G2, hle2, hrd2, hc, hth2⟩ := lend hc k1
  refine stC (vs := [.agg #[.slice p_6 r_7.1.Table.length c_6, .int .i64 r_7.1.Credit], .agg #[.int .i64 0, .int .i64 0], .slice p_7 r_7.2.length c_7]) (caps := []) hf rfl rfl rfl en_54 rfl rfl rfl rfl (share_Debts_ok r_7.1 (⟨0, 0⟩ : api_Span) r_7.2 (hrd1.mono hle2) hrd2 hc hr_8) ?_
  rintro _ w ⟨p_8, c_8, rfl, hc⟩
  refine ⟨_, rfl, fun a hf => ?_⟩
  replace hc := hth2 _ _ hc
  replace hc := hth1 _ _ hc
  refine stP hf rfl rfl rfl (pM rfl) fun a hf => ?_
  refine stP hf rfl rfl rfl (pX rfl rfl) fun a hf => ?_
  refine stP hf rfl rfl rfl (pX rfl rfl) fun a hf => ?_
  refine stP hf rfl rfl rfl (pA rfl) fun a hf => ?_
  refine stP hf rfl rfl rfl (pA rfl) fun a hf => ?_
  refine cNil ?_
  refine h6 _ _ ?_
  refine wp_seq_k fun K7 h7 => ?_
  refine wp_seq_k fun K8 h8 => ?_
  refine cReg ?_
  refine stP hf rfl rfl rfl (pM rfl) fun a hf => ?_
  refine stP hf rfl rfl rfl (pNe rfl rfl) fun a hf => ?_
  refine stP hf rfl rfl rfl (pM rfl) fun a hf => ?_
  refine stCut 3 (fun a w => Has 168 a [(1, .slice p_2 r_1.1.length c_2), (2, .int .i64 r_1.2), (3, .slice p_4 r_4.1.length c_4), (4, .int .i64 r_4.2), (5, .int .i64 r_6.1), (6, .int .i64 r_6.2), (9, .slice p_8 r_8.1.length c_8), (10, .int .i64 r_8.2), (46, .int .i64 r_1.2), (47, .bool (r_1.2 != 0)), (48, .bool (r_1.2 != 0)), (51, .bool ((r_1.2 != 0) || (r_4.2 != 0)))] ∧ Ctx G (.row p_6 c_6 (r_7.1.Table.map enc_share_Point) 116 2 :: .row p_7 c_7 (r_7.2.map enc_share_Year) 94 5 :: .row p_8 c_8 (r_8.1.map enc_api_Span) 26 2 :: .box b_1 [.slice p_6 r_7.1.Table.length c_6, .int .i64 r_7.1.Credit] 88 :: .row p_5 c_5 (r_5.Rights.map enc_share_Right) 51 3 :: .row p_3 c_3 (r_2.Rights.map enc_share_Right) 51 3 :: .row p_4 c_4 (r_4.1.map enc_api_Span) 26 2 :: .row p_1 c_1 (r.Rights.map enc_share_Right) 51 3 :: .row p_2 c_2 (r_1.1.map encI_i64) 3 1 :: Lf) w) ?_ ?_
  · cases hb : (r_1.2 != 0)
    · rw [hb] at hf
      refine stP hf rfl rfl rfl (pM rfl) fun a hf => ?_
      refine stP hf rfl rfl rfl (pNe rfl rfl) fun a hf => ?_
      refine stP hf rfl rfl rfl (pPf rfl rfl) fun a hf => ?_
      exact cNil ⟨hf.keep ⟨rfl, rfl, rfl, rfl, rfl, rfl, rfl, rfl, rfl, rfl, rfl, rfl, trivial⟩, hc⟩
    · rw [hb] at hf
      refine stS hf rfl rfl rfl fun a hf => ?_
      refine stS hf rfl rfl rfl fun a hf => ?_
      refine stP hf rfl rfl rfl (pPt rfl rfl) fun a hf => ?_
      exact cNil ⟨hf.keep ⟨rfl, rfl, rfl, rfl, rfl, rfl, rfl, rfl, rfl, rfl, rfl, rfl, trivial⟩, hc⟩
  intro a w ⟨hf, hc⟩
  refine stP hf rfl rfl rfl (pM rfl) fun a hf => ?_
  refine stCut 3 (fun a w => Has 168 a [(1, .slice p_2 r_1.1.length c_2), (2, .int .i64 r_1.2), (3, .slice p_4 r_4.1.length c_4), (4, .int .i64 r_4.2), (5, .int .i64 r_6.1), (6, .int .i64 r_6.2), (9, .slice p_8 r_8.1.length c_8), (10, .int .i64 r_8.2), (46, .int .i64 r_1.2), (47, .bool (r_1.2 != 0)), (48, .bool (r_1.2 != 0)), (51, .bool ((r_1.2 != 0) || (r_4.2 != 0))), (52, .bool ((r_1.2 != 0) || (r_4.2 != 0))), (55, .bool (((r_1.2 != 0) || (r_4.2 != 0)) || (r_6.2 != 0)))] ∧ Ctx G (.row p_6 c_6 (r_7.1.Table.map enc_share_Point) 116 2 :: .row p_7 c_7 (r_7.2.map enc_share_Year) 94 5 :: .row p_8 c_8 (r_8.1.map enc_api_Span) 26 2 :: .box b_1 [.slice p_6 r_7.1.Table.length c_6, .int .i64 r_7.1.Credit] 88 :: .row p_5 c_5 (r_5.Rights.map enc_share_Right) 51 3 :: .row p_3 c_3 (r_2.Rights.map enc_share_Right) 51 3 :: .row p_4 c_4 (r_4.1.map enc_api_Span) 26 2 :: .row p_1 c_1 (r.Rights.map enc_share_Right) 51 3 :: .row p_2 c_2 (r_1.1.map encI_i64) 3 1 :: Lf) w) ?_ ?_
  · cases hb : ((r_1.2 != 0) || (r_4.2 != 0))
    · rw [hb] at hf
      refine stP hf rfl rfl rfl (pM rfl) fun a hf => ?_
      refine stP hf rfl rfl rfl (pNe rfl rfl) fun a hf => ?_
      refine stP hf rfl rfl rfl (pPf rfl rfl) fun a hf => ?_
      exact cNil ⟨hf.keep ⟨rfl, rfl, rfl, rfl, rfl, rfl, rfl, rfl, rfl, rfl, rfl, rfl, rfl, rfl, trivial⟩, hc⟩
    · rw [hb] at hf
      refine stS hf rfl rfl rfl fun a hf => ?_
      refine stS hf rfl rfl rfl fun a hf => ?_
      refine stP hf rfl rfl rfl (pPt rfl rfl) fun a hf => ?_
      exact cNil ⟨hf.keep ⟨rfl, rfl, rfl, rfl, rfl, rfl, rfl, rfl, rfl, rfl, rfl, rfl, rfl, rfl, trivial⟩, hc⟩
  intro a w ⟨hf, hc⟩
  refine stP hf rfl rfl rfl (pM rfl) fun a hf => ?_
  refine stCut 3 (fun a w => Has 168 a [(1, .slice p_2 r_1.1.length c_2), (2, .int .i64 r_1.2), (3, .slice p_4 r_4.1.length c_4), (4, .int .i64 r_4.2), (5, .int .i64 r_6.1), (6, .int .i64 r_6.2), (9, .slice p_8 r_8.1.length c_8), (10, .int .i64 r_8.2), (46, .int .i64 r_1.2), (47, .bool (r_1.2 != 0)), (48, .bool (r_1.2 != 0)), (51, .bool ((r_1.2 != 0) || (r_4.2 != 0))), (52, .bool ((r_1.2 != 0) || (r_4.2 != 0))), (55, .bool (((r_1.2 != 0) || (r_4.2 != 0)) || (r_6.2 != 0))), (56, .bool (((r_1.2 != 0) || (r_4.2 != 0)) || (r_6.2 != 0))), (59, .bool ((((r_1.2 != 0) || (r_4.2 != 0)) || (r_6.2 != 0)) || (r_8.2 != 0)))] ∧ Ctx G (.row p_6 c_6 (r_7.1.Table.map enc_share_Point) 116 2 :: .row p_7 c_7 (r_7.2.map enc_share_Year) 94 5 :: .row p_8 c_8 (r_8.1.map enc_api_Span) 26 2 :: .box b_1 [.slice p_6 r_7.1.Table.length c_6, .int .i64 r_7.1.Credit] 88 :: .row p_5 c_5 (r_5.Rights.map enc_share_Right) 51 3 :: .row p_3 c_3 (r_2.Rights.map enc_share_Right) 51 3 :: .row p_4 c_4 (r_4.1.map enc_api_Span) 26 2 :: .row p_1 c_1 (r.Rights.map enc_share_Right) 51 3 :: .row p_2 c_2 (r_1.1.map encI_i64) 3 1 :: Lf) w) ?_ ?_
  · cases hb : (((r_1.2 != 0) || (r_4.2 != 0)) || (r_6.2 != 0))
    · rw [hb] at hf
      refine stP hf rfl rfl rfl (pM rfl) fun a hf => ?_
      refine stP hf rfl rfl rfl (pNe rfl rfl) fun a hf => ?_
      refine stP hf rfl rfl rfl (pPf rfl rfl) fun a hf => ?_
      exact cNil ⟨hf.keep ⟨rfl, rfl, rfl, rfl, rfl, rfl, rfl, rfl, rfl, rfl, rfl, rfl, rfl, rfl, rfl, rfl, trivial⟩, hc⟩
    · rw [hb] at hf
      refine stS hf rfl rfl rfl fun a hf => ?_
      refine stS hf rfl rfl rfl fun a hf => ?_
      refine stP hf rfl rfl rfl (pPt rfl rfl) fun a hf => ?_
      exact cNil ⟨hf.keep ⟨rfl, rfl, rfl, rfl, rfl, rfl, rfl, rfl, rfl, rfl, rfl, rfl, rfl, rfl, rfl, rfl, trivial⟩, hc⟩
  intro a w ⟨hf, hc⟩
  refine stP hf rfl rfl rfl (pM rfl) fun a hf => ?_
  obtain ⟨t_1, ht_1, hF⟩ := bnd_some hF
  refine stCut 5 (fun a w => Has 168 a [(1, .slice p_2 r_1.1.length c_2), (2, .int .i64 r_1.2), (3, .slice p_4 r_4.1.length c_4), (4, .int .i64 r_4.2), (5, .int .i64 r_6.1), (6, .int .i64 r_6.2), (9, .slice p_8 r_8.1.length c_8), (10, .int .i64 r_8.2), (46, .int .i64 r_1.2), (47, .bool (r_1.2 != 0)), (48, .bool (r_1.2 != 0)), (51, .bool ((r_1.2 != 0) || (r_4.2 != 0))), (52, .bool ((r_1.2 != 0) || (r_4.2 != 0))), (55, .bool (((r_1.2 != 0) || (r_4.2 != 0)) || (r_6.2 != 0))), (56, .bool (((r_1.2 != 0) || (r_4.2 != 0)) || (r_6.2 != 0))), (59, .bool ((((r_1.2 != 0) || (r_4.2 != 0)) || (r_6.2 != 0)) || (r_8.2 != 0))), (60, .bool ((((r_1.2 != 0) || (r_4.2 != 0)) || (r_6.2 != 0)) || (r_8.2 != 0))), (65, .bool t_1)] ∧ Ctx G (.row p_6 c_6 (r_7.1.Table.map enc_share_Point) 116 2 :: .row p_7 c_7 (r_7.2.map enc_share_Year) 94 5 :: .row p_8 c_8 (r_8.1.map enc_api_Span) 26 2 :: .box b_1 [.slice p_6 r_7.1.Table.length c_6, .int .i64 r_7.1.Credit] 88 :: .row p_5 c_5 (r_5.Rights.map enc_share_Right) 51 3 :: .row p_3 c_3 (r_2.Rights.map enc_share_Right) 51 3 :: .row p_4 c_4 (r_4.1.map enc_api_Span) 26 2 :: .row p_1 c_1 (r.Rights.map enc_share_Right) 51 3 :: .row p_2 c_2 (r_1.1.map encI_i64) 3 1 :: Lf) w) ?_ ?_
  · cases hb : ((((r_1.2 != 0) || (r_4.2 != 0)) || (r_6.2 != 0)) || (r_8.2 != 0))
    · rw [hb] at hf
      have hF := condF hb ht_1
      refine stP hf rfl rfl rfl (pM rfl) fun a hf => ?_
      refine stBS (rows := ([95, 18] : List Int).map encI_i64) (vs := [(0, .int .i64 95), (1, .int .i64 18)]) hf hc rfl rfl sl_36 rfl ⟨rfl, rfl, rfl, rfl, rfl, rfl, trivial⟩ rfl rfl fun b_2 a w hf hc => ?_
      obtain ⟨r_9, hr_9, hF⟩ := bnd_some hF
      refine stE hf hc rfl rfl rfl (eC (v := .bool r_9) (vs := [.slice p_2 r_1.1.length c_2, .slice (some ⟨b_2, 0, none⟩) 2 2]) (caps := []) en_20 rfl rfl rfl rfl (fun w hc => by obtain ⟨G1, hle1, hrd1, hc, hth1⟩ := lend hc k9; obtain ⟨G2, hle2, hrd2, hc, hth2⟩ := lend hc k0; exact (kit_Same_int_ok r_1.1 ([95, 18] : List Int) (hrd1.mono hle2) hrd2 hc hr_9).mono fun e w h => ⟨h.1, ((hth1 _ _ ((hth2 _ _ h.2).unpick k0)).unpick k9)⟩)) fun a w hf hc => ?_
      refine stP hf rfl rfl rfl (pNot rfl) fun a hf => ?_
      refine stP hf rfl rfl rfl (pPf rfl rfl) fun a hf => ?_
      replace hc := hc.drop k0
      obtain rfl := Option.some.inj hF
      exact cNil ⟨hf.keep ⟨rfl, rfl, rfl, rfl, rfl, rfl, rfl, rfl, rfl, rfl, rfl, rfl, rfl, rfl, rfl, rfl, rfl, rfl, trivial⟩, hc⟩
    · rw [hb] at hf
      have hF := condT hb ht_1
      obtain rfl := Option.some.inj hF
      refine stS hf rfl rfl rfl fun a hf => ?_
      refine stS hf rfl rfl rfl fun a hf => ?_
      refine stS hf rfl rfl rfl fun a hf => ?_
      refine stS hf rfl rfl rfl fun a hf => ?_
      refine stP hf rfl rfl rfl (pPt rfl rfl) fun a hf => ?_
      exact cNil ⟨hf.keep ⟨rfl, rfl, rfl, rfl, rfl, rfl, rfl, rfl, rfl, rfl, rfl, rfl, rfl, rfl, rfl, rfl, rfl, rfl, trivial⟩, hc⟩
  intro a w ⟨hf, hc⟩
  refine stP hf rfl rfl rfl (pM rfl) fun a hf => ?_
  obtain ⟨t_2, ht_2, hF⟩ := bnd_some hF
  refine stCut 7 (fun a w => Has 168 a [(1, .slice p_2 r_1.1.length c_2), (2, .int .i64 r_1.2), (3, .slice p_4 r_4.1.length c_4), (4, .int .i64 r_4.2), (5, .int .i64 r_6.1), (6, .int .i64 r_6.2), (9, .slice p_8 r_8.1.length c_8), (10, .int .i64 r_8.2), (46, .int .i64 r_1.2), (47, .bool (r_1.2 != 0)), (48, .bool (r_1.2 != 0)), (51, .bool ((r_1.2 != 0) || (r_4.2 != 0))), (52, .bool ((r_1.2 != 0) || (r_4.2 != 0))), (55, .bool (((r_1.2 != 0) || (r_4.2 != 0)) || (r_6.2 != 0))), (56, .bool (((r_1.2 != 0) || (r_4.2 != 0)) || (r_6.2 != 0))), (59, .bool ((((r_1.2 != 0) || (r_4.2 != 0)) || (r_6.2 != 0)) || (r_8.2 != 0))), (60, .bool ((((r_1.2 != 0) || (r_4.2 != 0)) || (r_6.2 != 0)) || (r_8.2 != 0))), (65, .bool t_1), (66, .bool t_1), (73, .bool t_2)] ∧ Ctx G (.row p_6 c_6 (r_7.1.Table.map enc_share_Point) 116 2 :: .row p_7 c_7 (r_7.2.map enc_share_Year) 94 5 :: .row p_8 c_8 (r_8.1.map enc_api_Span) 26 2 :: .box b_1 [.slice p_6 r_7.1.Table.length c_6, .int .i64 r_7.1.Credit] 88 :: .row p_5 c_5 (r_5.Rights.map enc_share_Right) 51 3 :: .row p_3 c_3 (r_2.Rights.map enc_share_Right) 51 3 :: .row p_4 c_4 (r_4.1.map enc_api_Span) 26 2 :: .row p_1 c_1 (r.Rights.map enc_share_Right) 51 3 :: .row p_2 c_2 (r_1.1.map encI_i64) 3 1 :: Lf) w) ?_ ?_
  · cases hb : t_1
    · rw [hb] at hf
      have hF := condF hb ht_2
      refine stP hf rfl rfl rfl (pM rfl) fun a hf => ?_
      refine stP hf rfl rfl rfl (pBuildS (cells := [.int .i64 85, .int .i64 120]) bt_26 rfl rfl) fun a hf => ?_
      refine stP hf rfl rfl rfl (pBuildS (cells := [.int .i64 0, .int .i64 54]) bt_26 rfl rfl) fun a hf => ?_
      refine stBS (rows := ([(⟨85, 120⟩ : api_Span), (⟨0, 54⟩ : api_Span)] : List api_Span).map enc_api_Span) (vs := [(0, .agg #[.int .i64 85, .int .i64 120]), (1, .agg #[.int .i64 0, .int .i64 54])]) hf hc rfl rfl sl_41 rfl ⟨rfl, rfl, rfl, rfl, rfl, rfl, trivial⟩ rfl rfl fun b_3 a w hf hc => ?_
      obtain ⟨r_10, hr_10, hF⟩ := bnd_some hF
      refine stE hf hc rfl rfl rfl (eC (v := .bool r_10) (vs := [.slice p_4 r_4.1.length c_4, .slice (some ⟨b_3, 0, none⟩) 2 2]) (caps := []) en_23 rfl rfl rfl rfl (fun w hc => by obtain ⟨G1, hle1, hrd1, hc, hth1⟩ := lend hc k7; obtain ⟨G2, hle2, hrd2, hc, hth2⟩ := lend hc k0; exact (kit_Same_api_Span_ok r_4.1 ([(⟨85, 120⟩ : api_Span), (⟨0, 54⟩ : api_Span)] : List api_Span) (hrd1.mono hle2) hrd2 hc hr_10).mono fun e w h => ⟨h.1, ((hth1 _ _ ((hth2 _ _ h.2).unpick k0)).unpick k7)⟩)) fun a w hf hc => ?_
      refine stP hf rfl rfl rfl (pNot rfl) fun a hf => ?_
      refine stP hf rfl rfl rfl (pPf rfl rfl) fun a hf => ?_
      replace hc := hc.drop k0
      obtain rfl := Option.some.inj hF
      exact cNil ⟨hf.keep ⟨rfl, rfl, rfl, rfl, rfl, rfl, rfl, rfl, rfl, rfl, rfl, rfl, rfl, rfl, rfl, rfl, rfl, rfl, rfl, rfl, trivial⟩, hc⟩
    · rw [hb] at hf
      have hF := condT hb ht_2
      obtain rfl := Option.some.inj hF
      refine stS hf rfl rfl rfl fun a hf => ?_
      refine stS hf rfl rfl rfl fun a hf => ?_
      refine stS hf rfl rfl rfl fun a hf => ?_
      refine stS hf rfl rfl rfl fun a hf => ?_
      refine stS hf rfl rfl rfl fun a hf => ?_
      refine stS hf rfl rfl rfl fun a hf => ?_
      refine stP hf rfl rfl rfl (pPt rfl rfl) fun a hf => ?_
      exact cNil ⟨hf.keep ⟨rfl, rfl, rfl, rfl, rfl, rfl, rfl, rfl, rfl, rfl, rfl, rfl, rfl, rfl, rfl, rfl, rfl, rfl, rfl, rfl, trivial⟩, hc⟩
  intro a w ⟨hf, hc⟩
  refine stP hf rfl rfl rfl (pM rfl) fun a hf => ?_
  refine stCut 3 (fun a w => Has 168 a [(1, .slice p_2 r_1.1.length c_2), (2, .int .i64 r_1.2), (3, .slice p_4 r_4.1.length c_4), (4, .int .i64 r_4.2), (5, .int .i64 r_6.1), (6, .int .i64 r_6.2), (9, .slice p_8 r_8.1.length c_8), (10, .int .i64 r_8.2), (46, .int .i64 r_1.2), (47, .bool (r_1.2 != 0)), (48, .bool (r_1.2 != 0)), (51, .bool ((r_1.2 != 0) || (r_4.2 != 0))), (52, .bool ((r_1.2 != 0) || (r_4.2 != 0))), (55, .bool (((r_1.2 != 0) || (r_4.2 != 0)) || (r_6.2 != 0))), (56, .bool (((r_1.2 != 0) || (r_4.2 != 0)) || (r_6.2 != 0))), (59, .bool ((((r_1.2 != 0) || (r_4.2 != 0)) || (r_6.2 != 0)) || (r_8.2 != 0))), (60, .bool ((((r_1.2 != 0) || (r_4.2 != 0)) || (r_6.2 != 0)) || (r_8.2 != 0))), (65, .bool t_1), (66, .bool t_1), (73, .bool t_2), (74, .bool t_2), (77, .bool (t_2 || (r_6.1 != 1)))] ∧ Ctx G (.row p_6 c_6 (r_7.1.Table.map enc_share_Point) 116 2 :: .row p_7 c_7 (r_7.2.map enc_share_Year) 94 5 :: .row p_8 c_8 (r_8.1.map enc_api_Span) 26 2 :: .box b_1 [.slice p_6 r_7.1.Table.length c_6, .int .i64 r_7.1.Credit] 88 :: .row p_5 c_5 (r_5.Rights.map enc_share_Right) 51 3 :: .row p_3 c_3 (r_2.Rights.map enc_share_Right) 51 3 :: .row p_4 c_4 (r_4.1.map enc_api_Span) 26 2 :: .row p_1 c_1 (r.Rights.map enc_share_Right) 51 3 :: .row p_2 c_2 (r_1.1.map encI_i64) 3 1 :: Lf) w) ?_ ?_
  · cases hb : t_2
    · rw [hb] at hf
      refine stP hf rfl rfl rfl (pM rfl) fun a hf => ?_
      refine stP hf rfl rfl rfl (pNe rfl rfl) fun a hf => ?_
      refine stP hf rfl rfl rfl (pPf rfl rfl) fun a hf => ?_
      exact cNil ⟨hf.keep ⟨rfl, rfl, rfl, rfl, rfl, rfl, rfl, rfl, rfl, rfl, rfl, rfl, rfl, rfl, rfl, rfl, rfl, rfl, rfl, rfl, rfl, rfl, trivial⟩, hc⟩
    · rw [hb] at hf
      refine stS hf rfl rfl rfl fun a hf => ?_
      refine stS hf rfl rfl rfl fun a hf => ?_
      refine stP hf rfl rfl rfl (pPt rfl rfl) fun a hf => ?_
      exact cNil ⟨hf.keep ⟨rfl, rfl, rfl, rfl, rfl, rfl, rfl, rfl, rfl, rfl, rfl, rfl, rfl, rfl, rfl, rfl, rfl, rfl, rfl, rfl, rfl, rfl, trivial⟩, hc⟩
  intro a w ⟨hf, hc⟩
  refine stP hf rfl rfl rfl (pM rfl) fun a hf => ?_
  obtain ⟨t_3, ht_3, hF⟩ := bnd_some hF
  refine stCut 8 (fun a w => Has 168 a [(1, .slice p_2 r_1.1.length c_2), (2, .int .i64 r_1.2), (3, .slice p_4 r_4.1.length c_4), (4, .int .i64 r_4.2), (5, .int .i64 r_6.1), (6, .int .i64 r_6.2), (9, .slice p_8 r_8.1.length c_8), (10, .int .i64 r_8.2), (46, .int .i64 r_1.2), (47, .bool (r_1.2 != 0)), (48, .bool (r_1.2 != 0)), (51, .bool ((r_1.2 != 0) || (r_4.2 != 0))), (52, .bool ((r_1.2 != 0) || (r_4.2 != 0))), (55, .bool (((r_1.2 != 0) || (r_4.2 != 0)) || (r_6.2 != 0))), (56, .bool (((r_1.2 != 0) || (r_4.2 != 0)) || (r_6.2 != 0))), (59, .bool ((((r_1.2 != 0) || (r_4.2 != 0)) || (r_6.2 != 0)) || (r_8.2 != 0))), (60, .bool ((((r_1.2 != 0) || (r_4.2 != 0)) || (r_6.2 != 0)) || (r_8.2 != 0))), (65, .bool t_1), (66, .bool t_1), (73, .bool t_2), (74, .bool t_2), (77, .bool (t_2 || (r_6.1 != 1))), (78, .bool (t_2 || (r_6.1 != 1))), (86, .bool t_3)] ∧ Ctx G (.row p_6 c_6 (r_7.1.Table.map enc_share_Point) 116 2 :: .row p_7 c_7 (r_7.2.map enc_share_Year) 94 5 :: .row p_8 c_8 (r_8.1.map enc_api_Span) 26 2 :: .box b_1 [.slice p_6 r_7.1.Table.length c_6, .int .i64 r_7.1.Credit] 88 :: .row p_5 c_5 (r_5.Rights.map enc_share_Right) 51 3 :: .row p_3 c_3 (r_2.Rights.map enc_share_Right) 51 3 :: .row p_4 c_4 (r_4.1.map enc_api_Span) 26 2 :: .row p_1 c_1 (r.Rights.map enc_share_Right) 51 3 :: .row p_2 c_2 (r_1.1.map encI_i64) 3 1 :: Lf) w) ?_ ?_
  · cases hb : (t_2 || (r_6.1 != 1))
    · rw [hb] at hf
      have hF := condF hb ht_3
      refine stP hf rfl rfl rfl (pM rfl) fun a hf => ?_
      refine stP hf rfl rfl rfl (pBuildS (cells := [.int .i64 (-2), .int .i64 8]) bt_26 rfl rfl) fun a hf => ?_
      refine stP hf rfl rfl rfl (pBuildS (cells := [.int .i64 (-15), .int .i64 (-12)]) bt_26 rfl rfl) fun a hf => ?_
      refine stP hf rfl rfl rfl (pBuildS (cells := [.int .i64 0, .int .i64 0]) bt_26 rfl rfl) fun a hf => ?_
      refine stBS (rows := ([(⟨(-2), 8⟩ : api_Span), (⟨(-15), (-12)⟩ : api_Span), (⟨0, 0⟩ : api_Span)] : List api_Span).map enc_api_Span) (vs := [(0, .agg #[.int .i64 (-2), .int .i64 8]), (1, .agg #[.int .i64 (-15), .int .i64 (-12)]), (2, .agg #[.int .i64 0, .int .i64 0])]) hf hc rfl rfl sl_41 rfl ⟨rfl, rfl, rfl, rfl, rfl, rfl, rfl, rfl, rfl, trivial⟩ rfl rfl fun b_4 a w hf hc => ?_
      obtain ⟨r_11, hr_11, hF⟩ := bnd_some hF
      refine stE hf hc rfl rfl rfl (eC (v := .bool r_11) (vs := [.slice p_8 r_8.1.length c_8, .slice (some ⟨b_4, 0, none⟩) 3 3]) (caps := []) en_23 rfl rfl rfl rfl (fun w hc => by obtain ⟨G1, hle1, hrd1, hc, hth1⟩ := lend hc k3; obtain ⟨G2, hle2, hrd2, hc, hth2⟩ := lend hc k0; exact (kit_Same_api_Span_ok r_8.1 ([(⟨(-2), 8⟩ : api_Span), (⟨(-15), (-12)⟩ : api_Span), (⟨0, 0⟩ : api_Span)] : List api_Span) (hrd1.mono hle2) hrd2 hc hr_11).mono fun e w h => ⟨h.1, ((hth1 _ _ ((hth2 _ _ h.2).unpick k0)).unpick k3)⟩)) fun a w hf hc => ?_
      refine stP hf rfl rfl rfl (pNot rfl) fun a hf => ?_
      refine stP hf rfl rfl rfl (pPf rfl rfl) fun a hf => ?_
      replace hc := hc.drop k0
      obtain rfl := Option.some.inj hF
      exact cNil ⟨hf.keep ⟨rfl, rfl, rfl, rfl, rfl, rfl, rfl, rfl, rfl, rfl, rfl, rfl, rfl, rfl, rfl, rfl, rfl, rfl, rfl, rfl, rfl, rfl, rfl, rfl, trivial⟩, hc⟩
    · rw [hb] at hf
      have hF := condT hb ht_3
      obtain rfl := Option.some.inj hF
      refine stS hf rfl rfl rfl fun a hf => ?_
      refine stS hf rfl rfl rfl fun a hf => ?_
      refine stS hf rfl rfl rfl fun a hf => ?_
      refine stS hf rfl rfl rfl fun a hf => ?_
      refine stS hf rfl rfl rfl fun a hf => ?_
      refine stS hf rfl rfl rfl fun a hf => ?_
      refine stS hf rfl rfl rfl fun a hf => ?_
      refine stP hf rfl rfl rfl (pPt rfl rfl) fun a hf => ?_
      exact cNil ⟨hf.keep ⟨rfl, rfl, rfl, rfl, rfl, rfl, rfl, rfl, rfl, rfl, rfl, rfl, rfl, rfl, rfl, rfl, rfl, rfl, rfl, rfl, rfl, rfl, rfl, rfl, trivial⟩, hc⟩
  intro a w ⟨hf, hc⟩
  refine cNil ?_
  refine h8 _ _ ?_
  refine cCond (b := t_3) hf rfl (fun hb => ?_) (fun hb => ?_)
  · replace hF := condT hb hF
    clear hb
    refine wp_seq_k fun K9 h9 => ?_
    refine cReg ?_
    refine stP hf rfl rfl rfl (pA rfl) fun a hf => ?_
    refine cNil ?_
    refine h9 _ _ ?_
    refine wp_ret ?_
    refine xThenR ?_
    obtain rfl := Option.some.inj hF
    replace hc := hc.drop k8
    replace hc := hc.drop k7
    replace hc := hc.drop k6
    replace hc := hc.drop k5
    replace hc := hc.drop k4
    replace hc := hc.drop k3
    replace hc := hc.drop k2
    replace hc := hc.drop k1
    replace hc := hc.drop k0
    exact fnOut1 (by simp) rfl Try.results13 hf hc (show look _ 0 = _ from rfl) ⟨rfl, hc⟩
  · replace hF := condF hb hF
    clear hb
    refine wp_skip ?_
    refine h7 _ _ ?_
    refine wp_seq_k fun K10 h10 => ?_
    refine cReg ?_
    refine stBS (rows := ([20, 30, 30, 40, 40, 40] : List Int).map encI_i64) (vs := [(0, .int .i64 20), (1, .int .i64 30), (2, .int .i64 30), (3, .int .i64 40), (4, .int .i64 40), (5, .int .i64 40)]) hf hc rfl rfl sl_36 rfl ⟨rfl, rfl, rfl, rfl, rfl, rfl, rfl, rfl, rfl, rfl, rfl, rfl, rfl, rfl, rfl, rfl, rfl, rfl, trivial⟩ rfl rfl fun b_5 a w hf hc => ?_
    refine stP hf rfl rfl rfl (pBuildS (cells := [.int .i64 15, .int .i64 4, .slice (some ⟨b_5, 0, none⟩) 6 6]) bt_59 rfl rfl) fun a hf => ?_
    obtain ⟨r_12, hr_12, hF⟩ := bnd_some hF
    obtain ⟨G1, hle1, hrd1, hc, hth1⟩ := lend hc k0
    refine stC (vs := [.int .i64 100, .agg #[.int .i64 15, .int .i64 4, .slice (some ⟨b_5, 0, none⟩) 6 6]]) (caps := []) hf rfl rfl rfl en_30 rfl rfl rfl rfl (share_Payback_ok 100 (⟨15, 4, ([20, 30, 30, 40, 40, 40] : List Int)⟩ : share_Pact) hrd1 hc hr_12) ?_
    rintro _ w ⟨p_9, c_9, rfl, hc⟩
    refine ⟨_, rfl, fun a hf => ?_⟩
    replace hc := hth1 _ _ hc
    refine stP hf rfl rfl rfl (pM rfl) fun a hf => ?_
    refine stP hf rfl rfl rfl (pX rfl rfl) fun a hf => ?_
    refine stP hf rfl rfl rfl (pX rfl rfl) fun a hf => ?_
    refine stP hf rfl rfl rfl (pA rfl) fun a hf => ?_
    refine stP hf rfl rfl rfl (pA rfl) fun a hf => ?_
    refine cNil ?_
    refine h10 _ _ ?_
    refine wp_seq_k fun K11 h11 => ?_
    refine cReg ?_
    refine stBS (rows := ([60, 30, 10] : List Int).map encI_i64) (vs := [(0, .int .i64 60), (1, .int .i64 30), (2, .int .i64 10)]) hf hc rfl rfl sl_36 rfl ⟨rfl, rfl, rfl, rfl, rfl, rfl, rfl, rfl, rfl, trivial⟩ rfl rfl fun b_6 a w hf hc => ?_
    obtain ⟨r_13, hr_13, hF⟩ := bnd_some hF
    obtain ⟨G1, hle1, hrd1, hc, hth1⟩ := lend hc k0
    refine stC (vs := [.slice (some ⟨b_6, 0, none⟩) 3 3, .int .i64 9, .int .i64 0]) (caps := []) hf rfl rfl rfl en_34 rfl rfl rfl rfl (share_Turns_ok ([60, 30, 10] : List Int) 9 0 hrd1 hc hr_13) ?_
    rintro _ w ⟨p_10, c_10, rfl, hc⟩
    refine ⟨_, rfl, fun a hf => ?_⟩
    replace hc := hth1 _ _ hc
    refine stP hf rfl rfl rfl (pM rfl) fun a hf => ?_
    refine stP hf rfl rfl rfl (pX rfl rfl) fun a hf => ?_
    refine stP hf rfl rfl rfl (pX rfl rfl) fun a hf => ?_
    refine stP hf rfl rfl rfl (pA rfl) fun a hf => ?_
    refine stP hf rfl rfl rfl (pA rfl) fun a hf => ?_
    refine cNil ?_
    refine h11 _ _ ?_
    refine wp_seq_k fun K12 h12 => ?_
    refine cReg ?_
    refine stBS (rows := ([60, 30, 10] : List Int).map encI_i64) (vs := [(0, .int .i64 60), (1, .int .i64 30), (2, .int .i64 10)]) hf hc rfl rfl sl_36 rfl ⟨rfl, rfl, rfl, rfl, rfl, rfl, rfl, rfl, rfl, trivial⟩ rfl rfl fun b_7 a w hf hc => ?_
    obtain ⟨r_14, hr_14, hF⟩ := bnd_some hF
    obtain ⟨G1, hle1, hrd1, hc, hth1⟩ := lend hc k0
    refine stC (vs := [.slice (some ⟨b_7, 0, none⟩) 3 3, .int .i64 9, .int .i64 1]) (caps := []) hf rfl rfl rfl en_34 rfl rfl rfl rfl (share_Turns_ok ([60, 30, 10] : List Int) 9 1 hrd1 hc hr_14) ?_
    rintro _ w ⟨p_11, c_11, rfl, hc⟩
    refine ⟨_, rfl, fun a hf => ?_⟩
    replace hc := hth1 _ _ hc
    refine stP hf rfl rfl rfl (pM rfl) fun a hf => ?_
    refine stP hf rfl rfl rfl (pX rfl rfl) fun a hf => ?_
    refine stP hf rfl rfl rfl (pX rfl rfl) fun a hf => ?_
    refine stP hf rfl rfl rfl (pA rfl) fun a hf => ?_
    refine stP hf rfl rfl rfl (pA rfl) fun a hf => ?_
    refine cNil ?_
    refine h12 _ _ ?_
    refine wp_seq_k fun K13 h13 => ?_
    refine cReg ?_
    refine stBS (rows := ([60, 30, 10] : List Int).map encI_i64) (vs := [(0, .int .i64 60), (1, .int .i64 30), (2, .int .i64 10)]) hf hc rfl rfl sl_36 rfl ⟨rfl, rfl, rfl, rfl, rfl, rfl, rfl, rfl, rfl, trivial⟩ rfl rfl fun b_8 a w hf hc => ?_
    refine stBS (rows := ([6, 3, 0] : List Int).map encI_i64) (vs := [(0, .int .i64 6), (1, .int .i64 3), (2, .int .i64 0)]) hf hc rfl rfl sl_36 rfl ⟨rfl, rfl, rfl, rfl, rfl, rfl, rfl, rfl, rfl, trivial⟩ rfl rfl fun b_9 a w hf hc => ?_
    obtain ⟨r_15, hr_15, hF⟩ := bnd_some hF
    refine stE hf hc rfl rfl rfl (eC (v := .tuple #[.agg #[.int .i64 r_15.1.N, .int .i64 r_15.1.D], .agg #[.int .i64 r_15.2.1.N, .int .i64 r_15.2.1.D], .int .i64 r_15.2.2]) (vs := [.slice (some ⟨b_8, 0, none⟩) 3 3, .slice (some ⟨b_9, 0, none⟩) 3 3, .int .i64 0]) (caps := []) en_39 rfl rfl rfl rfl (fun w hc => by obtain ⟨G1, hle1, hrd1, hc, hth1⟩ := lend hc k1; obtain ⟨G2, hle2, hrd2, hc, hth2⟩ := lend hc k0; exact (share_Divisors_ok ([60, 30, 10] : List Int) ([6, 3, 0] : List Int) 0 (hrd1.mono hle2) hrd2 hc hr_15).mono fun e w h => ⟨h.1, ((hth1 _ _ ((hth2 _ _ h.2).unpick k0)).unpick k1)⟩)) fun a w hf hc => ?_
    refine stP hf rfl rfl rfl (pM rfl) fun a hf => ?_
    refine stP hf rfl rfl rfl (pX rfl rfl) fun a hf => ?_
    refine stP hf rfl rfl rfl (pX rfl rfl) fun a hf => ?_
    refine stP hf rfl rfl rfl (pX rfl rfl) fun a hf => ?_
    refine stAl (cs := [.int .i64 0, .int .i64 0]) hf hc rfl rfl zr_71 rfl fun b_10 a w hf hc => ?_
    refine stAl (cs := [.int .i64 0, .int .i64 0]) hf hc rfl rfl zr_71 rfl fun b_11 a w hf hc => ?_
    refine stSt (vs := [.int .i64 r_15.1.N, .int .i64 r_15.1.D]) hf hc rfl rfl rfl rfl sz_71 rfl rfl u1 fun w hc => ?_
    refine stSt (vs := [.int .i64 r_15.2.1.N, .int .i64 r_15.2.1.D]) hf hc rfl rfl rfl rfl sz_71 rfl rfl u0 fun w hc => ?_
    refine stP hf rfl rfl rfl (pA rfl) fun a hf => ?_
    refine cNil ?_
    refine h13 _ _ ?_
    refine wp_seq_k fun K14 h14 => ?_
    refine cReg ?_
    refine stBS (rows := ([60, 30, 10] : List Int).map encI_i64) (vs := [(0, .int .i64 60), (1, .int .i64 30), (2, .int .i64 10)]) hf hc rfl rfl sl_36 rfl ⟨rfl, rfl, rfl, rfl, rfl, rfl, rfl, rfl, rfl, trivial⟩ rfl rfl fun b_12 a w hf hc => ?_
    refine stBS (rows := ([7, 2, 0] : List Int).map encI_i64) (vs := [(0, .int .i64 7), (1, .int .i64 2), (2, .int .i64 0)]) hf hc rfl rfl sl_36 rfl ⟨rfl, rfl, rfl, rfl, rfl, rfl, rfl, rfl, rfl, trivial⟩ rfl rfl fun b_13 a w hf hc => ?_
    obtain ⟨r_16, hr_16, hF⟩ := bnd_some hF
    refine stE hf hc rfl rfl rfl (eC (v := .tuple #[.int .i64 r_16.1, .int .i64 r_16.2.1, .int .i64 r_16.2.2]) (vs := [.slice (some ⟨b_12, 0, none⟩) 3 3, .slice (some ⟨b_13, 0, none⟩) 3 3, .int .i64 0]) (caps := []) en_37 rfl rfl rfl rfl (fun w hc => by obtain ⟨G1, hle1, hrd1, hc, hth1⟩ := lend hc k1; obtain ⟨G2, hle2, hrd2, hc, hth2⟩ := lend hc k0; exact (share_Unfair_ok ([60, 30, 10] : List Int) ([7, 2, 0] : List Int) 0 (hrd1.mono hle2) hrd2 hc hr_16).mono fun e w h => ⟨h.1, ((hth1 _ _ ((hth2 _ _ h.2).unpick k0)).unpick k1)⟩)) fun a w hf hc => ?_
    refine stP hf rfl rfl rfl (pM rfl) fun a hf => ?_
    refine stP hf rfl rfl rfl (pX rfl rfl) fun a hf => ?_
    refine stP hf rfl rfl rfl (pX rfl rfl) fun a hf => ?_
    refine stP hf rfl rfl rfl (pX rfl rfl) fun a hf => ?_
    refine stP hf rfl rfl rfl (pA rfl) fun a hf => ?_
    refine stP hf rfl rfl rfl (pA rfl) fun a hf => ?_
    refine stP hf rfl rfl rfl (pA rfl) fun a hf => ?_
    refine cNil ?_
    refine h14 _ _ ?_
    refine wp_seq_k fun K15 h15 => ?_
    refine cReg ?_
    refine stP hf rfl rfl rfl (pM rfl) fun a hf => ?_
    refine stP hf rfl rfl rfl (pEq rfl rfl) fun a hf => ?_
    refine stP hf rfl rfl rfl (pM rfl) fun a hf => ?_
    refine stCut 3 (fun a w => Has 168 a [(2, .int .i64 r_12.2), (4, .int .i64 r_13.2), (6, .int .i64 r_14.2), (10, .int .i64 r_15.2.2), (11, .slice p_9 r_12.1.length c_9), (12, .slice p_10 r_13.1.length c_10), (13, .slice p_11 r_14.1.length c_11), (14, .pointer (some ⟨b_10, 0, none⟩)), (15, .pointer (some ⟨b_11, 0, none⟩)), (16, .int .i64 r_16.1), (17, .int .i64 r_16.2.1), (18, .int .i64 r_16.2.2), (117, .int .i64 r_12.2), (118, .bool (r_12.2 == 0)), (119, .bool (r_12.2 == 0)), (122, .bool ((r_12.2 == 0) && (r_13.2 == 0)))] ∧ Ctx G (.row (some ⟨b_13, 0, none⟩) 3 (([7, 2, 0] : List Int).map encI_i64) 3 1 :: .row (some ⟨b_12, 0, none⟩) 3 (([60, 30, 10] : List Int).map encI_i64) 3 1 :: .box b_11 [.int .i64 r_15.2.1.N, .int .i64 r_15.2.1.D] 71 :: .box b_10 [.int .i64 r_15.1.N, .int .i64 r_15.1.D] 71 :: .row (some ⟨b_9, 0, none⟩) 3 (([6, 3, 0] : List Int).map encI_i64) 3 1 :: .row (some ⟨b_8, 0, none⟩) 3 (([60, 30, 10] : List Int).map encI_i64) 3 1 :: .row (some ⟨b_7, 0, none⟩) 3 (([60, 30, 10] : List Int).map encI_i64) 3 1 :: .row p_11 c_11 (r_14.1.map encI_i64) 3 1 :: .row (some ⟨b_6, 0, none⟩) 3 (([60, 30, 10] : List Int).map encI_i64) 3 1 :: .row p_10 c_10 (r_13.1.map encI_i64) 3 1 :: .row (some ⟨b_5, 0, none⟩) 6 (([20, 30, 30, 40, 40, 40] : List Int).map encI_i64) 3 1 :: .row p_9 c_9 (r_12.1.map encI_i64) 3 1 :: .row p_6 c_6 (r_7.1.Table.map enc_share_Point) 116 2 :: .row p_7 c_7 (r_7.2.map enc_share_Year) 94 5 :: .row p_8 c_8 (r_8.1.map enc_api_Span) 26 2 :: .box b_1 [.slice p_6 r_7.1.Table.length c_6, .int .i64 r_7.1.Credit] 88 :: .row p_5 c_5 (r_5.Rights.map enc_share_Right) 51 3 :: .row p_3 c_3 (r_2.Rights.map enc_share_Right) 51 3 :: .row p_4 c_4 (r_4.1.map enc_api_Span) 26 2 :: .row p_1 c_1 (r.Rights.map enc_share_Right) 51 3 :: .row p_2 c_2 (r_1.1.map encI_i64) 3 1 :: Lf) w) ?_ ?_
    · cases hb : (r_12.2 == 0)
      · rw [hb] at hf
        refine stS hf rfl rfl rfl fun a hf => ?_
        refine stS hf rfl rfl rfl fun a hf => ?_
        refine stP hf rfl rfl rfl (pPf rfl rfl) fun a hf => ?_
        exact cNil ⟨hf.keep ⟨rfl, rfl, rfl, rfl, rfl, rfl, rfl, rfl, rfl, rfl, rfl, rfl, rfl, rfl, rfl, rfl, trivial⟩, hc⟩
      · rw [hb] at hf
        refine stP hf rfl rfl rfl (pM rfl) fun a hf => ?_
        refine stP hf rfl rfl rfl (pEq rfl rfl) fun a hf => ?_
        refine stP hf rfl rfl rfl (pPt rfl rfl) fun a hf => ?_
        exact cNil ⟨hf.keep ⟨rfl, rfl, rfl, rfl, rfl, rfl, rfl, rfl, rfl, rfl, rfl, rfl, rfl, rfl, rfl, rfl, trivial⟩, hc⟩
    intro a w ⟨hf, hc⟩
    refine stP hf rfl rfl rfl (pM rfl) fun a hf => ?_
    refine stCut 3 (fun a w => Has 168 a [(2, .int .i64 r_12.2), (4, .int .i64 r_13.2), (6, .int .i64 r_14.2), (10, .int .i64 r_15.2.2), (11, .slice p_9 r_12.1.length c_9), (12, .slice p_10 r_13.1.length c_10), (13, .slice p_11 r_14.1.length c_11), (14, .pointer (some ⟨b_10, 0, none⟩)), (15, .pointer (some ⟨b_11, 0, none⟩)), (16, .int .i64 r_16.1), (17, .int .i64 r_16.2.1), (18, .int .i64 r_16.2.2), (117, .int .i64 r_12.2), (118, .bool (r_12.2 == 0)), (119, .bool (r_12.2 == 0)), (122, .bool ((r_12.2 == 0) && (r_13.2 == 0))), (123, .bool ((r_12.2 == 0) && (r_13.2 == 0))), (126, .bool (((r_12.2 == 0) && (r_13.2 == 0)) && (r_14.2 == 0)))] ∧ Ctx G (.row (some ⟨b_13, 0, none⟩) 3 (([7, 2, 0] : List Int).map encI_i64) 3 1 :: .row (some ⟨b_12, 0, none⟩) 3 (([60, 30, 10] : List Int).map encI_i64) 3 1 :: .box b_11 [.int .i64 r_15.2.1.N, .int .i64 r_15.2.1.D] 71 :: .box b_10 [.int .i64 r_15.1.N, .int .i64 r_15.1.D] 71 :: .row (some ⟨b_9, 0, none⟩) 3 (([6, 3, 0] : List Int).map encI_i64) 3 1 :: .row (some ⟨b_8, 0, none⟩) 3 (([60, 30, 10] : List Int).map encI_i64) 3 1 :: .row (some ⟨b_7, 0, none⟩) 3 (([60, 30, 10] : List Int).map encI_i64) 3 1 :: .row p_11 c_11 (r_14.1.map encI_i64) 3 1 :: .row (some ⟨b_6, 0, none⟩) 3 (([60, 30, 10] : List Int).map encI_i64) 3 1 :: .row p_10 c_10 (r_13.1.map encI_i64) 3 1 :: .row (some ⟨b_5, 0, none⟩) 6 (([20, 30, 30, 40, 40, 40] : List Int).map encI_i64) 3 1 :: .row p_9 c_9 (r_12.1.map encI_i64) 3 1 :: .row p_6 c_6 (r_7.1.Table.map enc_share_Point) 116 2 :: .row p_7 c_7 (r_7.2.map enc_share_Year) 94 5 :: .row p_8 c_8 (r_8.1.map enc_api_Span) 26 2 :: .box b_1 [.slice p_6 r_7.1.Table.length c_6, .int .i64 r_7.1.Credit] 88 :: .row p_5 c_5 (r_5.Rights.map enc_share_Right) 51 3 :: .row p_3 c_3 (r_2.Rights.map enc_share_Right) 51 3 :: .row p_4 c_4 (r_4.1.map enc_api_Span) 26 2 :: .row p_1 c_1 (r.Rights.map enc_share_Right) 51 3 :: .row p_2 c_2 (r_1.1.map encI_i64) 3 1 :: Lf) w) ?_ ?_
    · cases hb : ((r_12.2 == 0) && (r_13.2 == 0))
      · rw [hb] at hf
        refine stS hf rfl rfl rfl fun a hf => ?_
        refine stS hf rfl rfl rfl fun a hf => ?_
        refine stP hf rfl rfl rfl (pPf rfl rfl) fun a hf => ?_
        exact cNil ⟨hf.keep ⟨rfl, rfl, rfl, rfl, rfl, rfl, rfl, rfl, rfl, rfl, rfl, rfl, rfl, rfl, rfl, rfl, rfl, rfl, trivial⟩, hc⟩
      · rw [hb] at hf
        refine stP hf rfl rfl rfl (pM rfl) fun a hf => ?_
        refine stP hf rfl rfl rfl (pEq rfl rfl) fun a hf => ?_
        refine stP hf rfl rfl rfl (pPt rfl rfl) fun a hf => ?_
        exact cNil ⟨hf.keep ⟨rfl, rfl, rfl, rfl, rfl, rfl, rfl, rfl, rfl, rfl, rfl, rfl, rfl, rfl, rfl, rfl, rfl, rfl, trivial⟩, hc⟩
    intro a w ⟨hf, hc⟩
    refine stP hf rfl rfl rfl (pM rfl) fun a hf => ?_
    refine stCut 3 (fun a w => Has 168 a [(2, .int .i64 r_12.2), (4, .int .i64 r_13.2), (6, .int .i64 r_14.2), (10, .int .i64 r_15.2.2), (11, .slice p_9 r_12.1.length c_9), (12, .slice p_10 r_13.1.length c_10), (13, .slice p_11 r_14.1.length c_11), (14, .pointer (some ⟨b_10, 0, none⟩)), (15, .pointer (some ⟨b_11, 0, none⟩)), (16, .int .i64 r_16.1), (17, .int .i64 r_16.2.1), (18, .int .i64 r_16.2.2), (117, .int .i64 r_12.2), (118, .bool (r_12.2 == 0)), (119, .bool (r_12.2 == 0)), (122, .bool ((r_12.2 == 0) && (r_13.2 == 0))), (123, .bool ((r_12.2 == 0) && (r_13.2 == 0))), (126, .bool (((r_12.2 == 0) && (r_13.2 == 0)) && (r_14.2 == 0))), (127, .bool (((r_12.2 == 0) && (r_13.2 == 0)) && (r_14.2 == 0))), (130, .bool ((((r_12.2 == 0) && (r_13.2 == 0)) && (r_14.2 == 0)) && (r_15.2.2 == 0)))] ∧ Ctx G (.row (some ⟨b_13, 0, none⟩) 3 (([7, 2, 0] : List Int).map encI_i64) 3 1 :: .row (some ⟨b_12, 0, none⟩) 3 (([60, 30, 10] : List Int).map encI_i64) 3 1 :: .box b_11 [.int .i64 r_15.2.1.N, .int .i64 r_15.2.1.D] 71 :: .box b_10 [.int .i64 r_15.1.N, .int .i64 r_15.1.D] 71 :: .row (some ⟨b_9, 0, none⟩) 3 (([6, 3, 0] : List Int).map encI_i64) 3 1 :: .row (some ⟨b_8, 0, none⟩) 3 (([60, 30, 10] : List Int).map encI_i64) 3 1 :: .row (some ⟨b_7, 0, none⟩) 3 (([60, 30, 10] : List Int).map encI_i64) 3 1 :: .row p_11 c_11 (r_14.1.map encI_i64) 3 1 :: .row (some ⟨b_6, 0, none⟩) 3 (([60, 30, 10] : List Int).map encI_i64) 3 1 :: .row p_10 c_10 (r_13.1.map encI_i64) 3 1 :: .row (some ⟨b_5, 0, none⟩) 6 (([20, 30, 30, 40, 40, 40] : List Int).map encI_i64) 3 1 :: .row p_9 c_9 (r_12.1.map encI_i64) 3 1 :: .row p_6 c_6 (r_7.1.Table.map enc_share_Point) 116 2 :: .row p_7 c_7 (r_7.2.map enc_share_Year) 94 5 :: .row p_8 c_8 (r_8.1.map enc_api_Span) 26 2 :: .box b_1 [.slice p_6 r_7.1.Table.length c_6, .int .i64 r_7.1.Credit] 88 :: .row p_5 c_5 (r_5.Rights.map enc_share_Right) 51 3 :: .row p_3 c_3 (r_2.Rights.map enc_share_Right) 51 3 :: .row p_4 c_4 (r_4.1.map enc_api_Span) 26 2 :: .row p_1 c_1 (r.Rights.map enc_share_Right) 51 3 :: .row p_2 c_2 (r_1.1.map encI_i64) 3 1 :: Lf) w) ?_ ?_
    · cases hb : (((r_12.2 == 0) && (r_13.2 == 0)) && (r_14.2 == 0))
      · rw [hb] at hf
        refine stS hf rfl rfl rfl fun a hf => ?_
        refine stS hf rfl rfl rfl fun a hf => ?_
        refine stP hf rfl rfl rfl (pPf rfl rfl) fun a hf => ?_
        exact cNil ⟨hf.keep ⟨rfl, rfl, rfl, rfl, rfl, rfl, rfl, rfl, rfl, rfl, rfl, rfl, rfl, rfl, rfl, rfl, rfl, rfl, rfl, rfl, trivial⟩, hc⟩
      · rw [hb] at hf
        refine stP hf rfl rfl rfl (pM rfl) fun a hf => ?_
        refine stP hf rfl rfl rfl (pEq rfl rfl) fun a hf => ?_
        refine stP hf rfl rfl rfl (pPt rfl rfl) fun a hf => ?_
        exact cNil ⟨hf.keep ⟨rfl, rfl, rfl, rfl, rfl, rfl, rfl, rfl, rfl, rfl, rfl, rfl, rfl, rfl, rfl, rfl, rfl, rfl, rfl, rfl, trivial⟩, hc⟩
    intro a w ⟨hf, hc⟩
    refine stP hf rfl rfl rfl (pM rfl) fun a hf => ?_
    refine stCut 3 (fun a w => Has 168 a [(2, .int .i64 r_12.2), (4, .int .i64 r_13.2), (6, .int .i64 r_14.2), (10, .int .i64 r_15.2.2), (11, .slice p_9 r_12.1.length c_9), (12, .slice p_10 r_13.1.length c_10), (13, .slice p_11 r_14.1.length c_11), (14, .pointer (some ⟨b_10, 0, none⟩)), (15, .pointer (some ⟨b_11, 0, none⟩)), (16, .int .i64 r_16.1), (17, .int .i64 r_16.2.1), (18, .int .i64 r_16.2.2), (117, .int .i64 r_12.2), (118, .bool (r_12.2 == 0)), (119, .bool (r_12.2 == 0)), (122, .bool ((r_12.2 == 0) && (r_13.2 == 0))), (123, .bool ((r_12.2 == 0) && (r_13.2 == 0))), (126, .bool (((r_12.2 == 0) && (r_13.2 == 0)) && (r_14.2 == 0))), (127, .bool (((r_12.2 == 0) && (r_13.2 == 0)) && (r_14.2 == 0))), (130, .bool ((((r_12.2 == 0) && (r_13.2 == 0)) && (r_14.2 == 0)) && (r_15.2.2 == 0))), (131, .bool ((((r_12.2 == 0) && (r_13.2 == 0)) && (r_14.2 == 0)) && (r_15.2.2 == 0))), (134, .bool (((((r_12.2 == 0) && (r_13.2 == 0)) && (r_14.2 == 0)) && (r_15.2.2 == 0)) && (r_16.2.2 == 0)))] ∧ Ctx G (.row (some ⟨b_13, 0, none⟩) 3 (([7, 2, 0] : List Int).map encI_i64) 3 1 :: .row (some ⟨b_12, 0, none⟩) 3 (([60, 30, 10] : List Int).map encI_i64) 3 1 :: .box b_11 [.int .i64 r_15.2.1.N, .int .i64 r_15.2.1.D] 71 :: .box b_10 [.int .i64 r_15.1.N, .int .i64 r_15.1.D] 71 :: .row (some ⟨b_9, 0, none⟩) 3 (([6, 3, 0] : List Int).map encI_i64) 3 1 :: .row (some ⟨b_8, 0, none⟩) 3 (([60, 30, 10] : List Int).map encI_i64) 3 1 :: .row (some ⟨b_7, 0, none⟩) 3 (([60, 30, 10] : List Int).map encI_i64) 3 1 :: .row p_11 c_11 (r_14.1.map encI_i64) 3 1 :: .row (some ⟨b_6, 0, none⟩) 3 (([60, 30, 10] : List Int).map encI_i64) 3 1 :: .row p_10 c_10 (r_13.1.map encI_i64) 3 1 :: .row (some ⟨b_5, 0, none⟩) 6 (([20, 30, 30, 40, 40, 40] : List Int).map encI_i64) 3 1 :: .row p_9 c_9 (r_12.1.map encI_i64) 3 1 :: .row p_6 c_6 (r_7.1.Table.map enc_share_Point) 116 2 :: .row p_7 c_7 (r_7.2.map enc_share_Year) 94 5 :: .row p_8 c_8 (r_8.1.map enc_api_Span) 26 2 :: .box b_1 [.slice p_6 r_7.1.Table.length c_6, .int .i64 r_7.1.Credit] 88 :: .row p_5 c_5 (r_5.Rights.map enc_share_Right) 51 3 :: .row p_3 c_3 (r_2.Rights.map enc_share_Right) 51 3 :: .row p_4 c_4 (r_4.1.map enc_api_Span) 26 2 :: .row p_1 c_1 (r.Rights.map enc_share_Right) 51 3 :: .row p_2 c_2 (r_1.1.map encI_i64) 3 1 :: Lf) w) ?_ ?_
    · cases hb : ((((r_12.2 == 0) && (r_13.2 == 0)) && (r_14.2 == 0)) && (r_15.2.2 == 0))
      · rw [hb] at hf
        refine stS hf rfl rfl rfl fun a hf => ?_
        refine stS hf rfl rfl rfl fun a hf => ?_
        refine stP hf rfl rfl rfl (pPf rfl rfl) fun a hf => ?_
        exact cNil ⟨hf.keep ⟨rfl, rfl, rfl, rfl, rfl, rfl, rfl, rfl, rfl, rfl, rfl, rfl, rfl, rfl, rfl, rfl, rfl, rfl, rfl, rfl, rfl, rfl, trivial⟩, hc⟩
      · rw [hb] at hf
        refine stP hf rfl rfl rfl (pM rfl) fun a hf => ?_
        refine stP hf rfl rfl rfl (pEq rfl rfl) fun a hf => ?_
        refine stP hf rfl rfl rfl (pPt rfl rfl) fun a hf => ?_
        exact cNil ⟨hf.keep ⟨rfl, rfl, rfl, rfl, rfl, rfl, rfl, rfl, rfl, rfl, rfl, rfl, rfl, rfl, rfl, rfl, rfl, rfl, rfl, rfl, rfl, rfl, trivial⟩, hc⟩
    intro a w ⟨hf, hc⟩
    refine stP hf rfl rfl rfl (pM rfl) fun a hf => ?_
    obtain ⟨t_4, ht_4, hF⟩ := bnd_some hF
    refine stCut 4 (fun a w => Has 168 a [(2, .int .i64 r_12.2), (4, .int .i64 r_13.2), (6, .int .i64 r_14.2), (10, .int .i64 r_15.2.2), (11, .slice p_9 r_12.1.length c_9), (12, .slice p_10 r_13.1.length c_10), (13, .slice p_11 r_14.1.length c_11), (14, .pointer (some ⟨b_10, 0, none⟩)), (15, .pointer (some ⟨b_11, 0, none⟩)), (16, .int .i64 r_16.1), (17, .int .i64 r_16.2.1), (18, .int .i64 r_16.2.2), (117, .int .i64 r_12.2), (118, .bool (r_12.2 == 0)), (119, .bool (r_12.2 == 0)), (122, .bool ((r_12.2 == 0) && (r_13.2 == 0))), (123, .bool ((r_12.2 == 0) && (r_13.2 == 0))), (126, .bool (((r_12.2 == 0) && (r_13.2 == 0)) && (r_14.2 == 0))), (127, .bool (((r_12.2 == 0) && (r_13.2 == 0)) && (r_14.2 == 0))), (130, .bool ((((r_12.2 == 0) && (r_13.2 == 0)) && (r_14.2 == 0)) && (r_15.2.2 == 0))), (131, .bool ((((r_12.2 == 0) && (r_13.2 == 0)) && (r_14.2 == 0)) && (r_15.2.2 == 0))), (134, .bool (((((r_12.2 == 0) && (r_13.2 == 0)) && (r_14.2 == 0)) && (r_15.2.2 == 0)) && (r_16.2.2 == 0))), (135, .bool (((((r_12.2 == 0) && (r_13.2 == 0)) && (r_14.2 == 0)) && (r_15.2.2 == 0)) && (r_16.2.2 == 0))), (139, .bool t_4)] ∧ Ctx G (.row (some ⟨b_13, 0, none⟩) 3 (([7, 2, 0] : List Int).map encI_i64) 3 1 :: .row (some ⟨b_12, 0, none⟩) 3 (([60, 30, 10] : List Int).map encI_i64) 3 1 :: .box b_11 [.int .i64 r_15.2.1.N, .int .i64 r_15.2.1.D] 71 :: .box b_10 [.int .i64 r_15.1.N, .int .i64 r_15.1.D] 71 :: .row (some ⟨b_9, 0, none⟩) 3 (([6, 3, 0] : List Int).map encI_i64) 3 1 :: .row (some ⟨b_8, 0, none⟩) 3 (([60, 30, 10] : List Int).map encI_i64) 3 1 :: .row (some ⟨b_7, 0, none⟩) 3 (([60, 30, 10] : List Int).map encI_i64) 3 1 :: .row p_11 c_11 (r_14.1.map encI_i64) 3 1 :: .row (some ⟨b_6, 0, none⟩) 3 (([60, 30, 10] : List Int).map encI_i64) 3 1 :: .row p_10 c_10 (r_13.1.map encI_i64) 3 1 :: .row (some ⟨b_5, 0, none⟩) 6 (([20, 30, 30, 40, 40, 40] : List Int).map encI_i64) 3 1 :: .row p_9 c_9 (r_12.1.map encI_i64) 3 1 :: .row p_6 c_6 (r_7.1.Table.map enc_share_Point) 116 2 :: .row p_7 c_7 (r_7.2.map enc_share_Year) 94 5 :: .row p_8 c_8 (r_8.1.map enc_api_Span) 26 2 :: .box b_1 [.slice p_6 r_7.1.Table.length c_6, .int .i64 r_7.1.Credit] 88 :: .row p_5 c_5 (r_5.Rights.map enc_share_Right) 51 3 :: .row p_3 c_3 (r_2.Rights.map enc_share_Right) 51 3 :: .row p_4 c_4 (r_4.1.map enc_api_Span) 26 2 :: .row p_1 c_1 (r.Rights.map enc_share_Right) 51 3 :: .row p_2 c_2 (r_1.1.map encI_i64) 3 1 :: Lf) w) ?_ ?_
    · cases hb : (((((r_12.2 == 0) && (r_13.2 == 0)) && (r_14.2 == 0)) && (r_15.2.2 == 0)) && (r_16.2.2 == 0))
      · rw [hb] at hf
        have hF := condF hb ht_4
        obtain rfl := Option.some.inj hF
        refine stS hf rfl rfl rfl fun a hf => ?_
        refine stS hf rfl rfl rfl fun a hf => ?_
        refine stS hf rfl rfl rfl fun a hf => ?_
        refine stP hf rfl rfl rfl (pPf rfl rfl) fun a hf => ?_
        exact cNil ⟨hf.keep ⟨rfl, rfl, rfl, rfl, rfl, rfl, rfl, rfl, rfl, rfl, rfl, rfl, rfl, rfl, rfl, rfl, rfl, rfl, rfl, rfl, rfl, rfl, rfl, rfl, trivial⟩, hc⟩
      · rw [hb] at hf
        have hF := condT hb ht_4
        refine stP hf rfl rfl rfl (pM rfl) fun a hf => ?_
        refine stBS (rows := ([20, 20, 15, 15, 15, 15] : List Int).map encI_i64) (vs := [(0, .int .i64 20), (1, .int .i64 20), (2, .int .i64 15), (3, .int .i64 15), (4, .int .i64 15), (5, .int .i64 15)]) hf hc rfl rfl sl_36 rfl ⟨rfl, rfl, rfl, rfl, rfl, rfl, rfl, rfl, rfl, rfl, rfl, rfl, rfl, rfl, rfl, rfl, rfl, rfl, trivial⟩ rfl rfl fun b_14 a w hf hc => ?_
        obtain ⟨r_17, hr_17, hF⟩ := bnd_some hF
        refine stE hf hc rfl rfl rfl (eC (v := .bool r_17) (vs := [.slice p_9 r_12.1.length c_9, .slice (some ⟨b_14, 0, none⟩) 6 6]) (caps := []) en_20 rfl rfl rfl rfl (fun w hc => by obtain ⟨G1, hle1, hrd1, hc, hth1⟩ := lend hc k12; obtain ⟨G2, hle2, hrd2, hc, hth2⟩ := lend hc k0; exact (kit_Same_int_ok r_12.1 ([20, 20, 15, 15, 15, 15] : List Int) (hrd1.mono hle2) hrd2 hc hr_17).mono fun e w h => ⟨h.1, ((hth1 _ _ ((hth2 _ _ h.2).unpick k0)).unpick k12)⟩)) fun a w hf hc => ?_
        refine stP hf rfl rfl rfl (pPt rfl rfl) fun a hf => ?_
        replace hc := hc.drop k0
        obtain rfl := Option.some.inj hF
        exact cNil ⟨hf.keep ⟨rfl, rfl, rfl, rfl, rfl, rfl, rfl, rfl, rfl, rfl, rfl, rfl, rfl, rfl, rfl, rfl, rfl, rfl, rfl, rfl, rfl, rfl, rfl, rfl, trivial⟩, hc⟩
    intro a w ⟨hf, hc⟩
    refine stP hf rfl rfl rfl (pM rfl) fun a hf => ?_
    obtain ⟨t_5, ht_5, hF⟩ := bnd_some hF
    refine stCut 4 (fun a w => Has 168 a [(2, .int .i64 r_12.2), (4, .int .i64 r_13.2), (6, .int .i64 r_14.2), (10, .int .i64 r_15.2.2), (11, .slice p_9 r_12.1.length c_9), (12, .slice p_10 r_13.1.length c_10), (13, .slice p_11 r_14.1.length c_11), (14, .pointer (some ⟨b_10, 0, none⟩)), (15, .pointer (some ⟨b_11, 0, none⟩)), (16, .int .i64 r_16.1), (17, .int .i64 r_16.2.1), (18, .int .i64 r_16.2.2), (117, .int .i64 r_12.2), (118, .bool (r_12.2 == 0)), (119, .bool (r_12.2 == 0)), (122, .bool ((r_12.2 == 0) && (r_13.2 == 0))), (123, .bool ((r_12.2 == 0) && (r_13.2 == 0))), (126, .bool (((r_12.2 == 0) && (r_13.2 == 0)) && (r_14.2 == 0))), (127, .bool (((r_12.2 == 0) && (r_13.2 == 0)) && (r_14.2 == 0))), (130, .bool ((((r_12.2 == 0) && (r_13.2 == 0)) && (r_14.2 == 0)) && (r_15.2.2 == 0))), (131, .bool ((((r_12.2 == 0) && (r_13.2 == 0)) && (r_14.2 == 0)) && (r_15.2.2 == 0))), (134, .bool (((((r_12.2 == 0) && (r_13.2 == 0)) && (r_14.2 == 0)) && (r_15.2.2 == 0)) && (r_16.2.2 == 0))), (135, .bool (((((r_12.2 == 0) && (r_13.2 == 0)) && (r_14.2 == 0)) && (r_15.2.2 == 0)) && (r_16.2.2 == 0))), (139, .bool t_4), (140, .bool t_4), (144, .bool t_5)] ∧ Ctx G (.row (some ⟨b_13, 0, none⟩) 3 (([7, 2, 0] : List Int).map encI_i64) 3 1 :: .row (some ⟨b_12, 0, none⟩) 3 (([60, 30, 10] : List Int).map encI_i64) 3 1 :: .box b_11 [.int .i64 r_15.2.1.N, .int .i64 r_15.2.1.D] 71 :: .box b_10 [.int .i64 r_15.1.N, .int .i64 r_15.1.D] 71 :: .row (some ⟨b_9, 0, none⟩) 3 (([6, 3, 0] : List Int).map encI_i64) 3 1 :: .row (some ⟨b_8, 0, none⟩) 3 (([60, 30, 10] : List Int).map encI_i64) 3 1 :: .row (some ⟨b_7, 0, none⟩) 3 (([60, 30, 10] : List Int).map encI_i64) 3 1 :: .row p_11 c_11 (r_14.1.map encI_i64) 3 1 :: .row (some ⟨b_6, 0, none⟩) 3 (([60, 30, 10] : List Int).map encI_i64) 3 1 :: .row p_10 c_10 (r_13.1.map encI_i64) 3 1 :: .row (some ⟨b_5, 0, none⟩) 6 (([20, 30, 30, 40, 40, 40] : List Int).map encI_i64) 3 1 :: .row p_9 c_9 (r_12.1.map encI_i64) 3 1 :: .row p_6 c_6 (r_7.1.Table.map enc_share_Point) 116 2 :: .row p_7 c_7 (r_7.2.map enc_share_Year) 94 5 :: .row p_8 c_8 (r_8.1.map enc_api_Span) 26 2 :: .box b_1 [.slice p_6 r_7.1.Table.length c_6, .int .i64 r_7.1.Credit] 88 :: .row p_5 c_5 (r_5.Rights.map enc_share_Right) 51 3 :: .row p_3 c_3 (r_2.Rights.map enc_share_Right) 51 3 :: .row p_4 c_4 (r_4.1.map enc_api_Span) 26 2 :: .row p_1 c_1 (r.Rights.map enc_share_Right) 51 3 :: .row p_2 c_2 (r_1.1.map encI_i64) 3 1 :: Lf) w) ?_ ?_
    · cases hb : t_4
      · rw [hb] at hf
        have hF := condF hb ht_5
        obtain rfl := Option.some.inj hF
        refine stS hf rfl rfl rfl fun a hf => ?_
        refine stS hf rfl rfl rfl fun a hf => ?_
        refine stS hf rfl rfl rfl fun a hf => ?_
        refine stP hf rfl rfl rfl (pPf rfl rfl) fun a hf => ?_
        exact cNil ⟨hf.keep ⟨rfl, rfl, rfl, rfl, rfl, rfl, rfl, rfl, rfl, rfl, rfl, rfl, rfl, rfl, rfl, rfl, rfl, rfl, rfl, rfl, rfl, rfl, rfl, rfl, rfl, rfl, trivial⟩, hc⟩
      · rw [hb] at hf
        have hF := condT hb ht_5
        refine stP hf rfl rfl rfl (pM rfl) fun a hf => ?_
        refine stBS (rows := ([6, 3, 0] : List Int).map encI_i64) (vs := [(0, .int .i64 6), (1, .int .i64 3), (2, .int .i64 0)]) hf hc rfl rfl sl_36 rfl ⟨rfl, rfl, rfl, rfl, rfl, rfl, rfl, rfl, rfl, trivial⟩ rfl rfl fun b_15 a w hf hc => ?_
        obtain ⟨r_18, hr_18, hF⟩ := bnd_some hF
        refine stE hf hc rfl rfl rfl (eC (v := .bool r_18) (vs := [.slice p_10 r_13.1.length c_10, .slice (some ⟨b_15, 0, none⟩) 3 3]) (caps := []) en_20 rfl rfl rfl rfl (fun w hc => by obtain ⟨G1, hle1, hrd1, hc, hth1⟩ := lend hc k10; obtain ⟨G2, hle2, hrd2, hc, hth2⟩ := lend hc k0; exact (kit_Same_int_ok r_13.1 ([6, 3, 0] : List Int) (hrd1.mono hle2) hrd2 hc hr_18).mono fun e w h => ⟨h.1, ((hth1 _ _ ((hth2 _ _ h.2).unpick k0)).unpick k10)⟩)) fun a w hf hc => ?_
        refine stP hf rfl rfl rfl (pPt rfl rfl) fun a hf => ?_
        replace hc := hc.drop k0
        obtain rfl := Option.some.inj hF
        exact cNil ⟨hf.keep ⟨rfl, rfl, rfl, rfl, rfl, rfl, rfl, rfl, rfl, rfl, rfl, rfl, rfl, rfl, rfl, rfl, rfl, rfl, rfl, rfl, rfl, rfl, rfl, rfl, rfl, rfl, trivial⟩, hc⟩
    intro a w ⟨hf, hc⟩
    refine stP hf rfl rfl rfl (pM rfl) fun a hf => ?_
    obtain ⟨t_6, ht_6, hF⟩ := bnd_some hF
    refine stCut 4 (fun a w => Has 168 a [(2, .int .i64 r_12.2), (4, .int .i64 r_13.2), (6, .int .i64 r_14.2), (10, .int .i64 r_15.2.2), (11, .slice p_9 r_12.1.length c_9), (12, .slice p_10 r_13.1.length c_10), (13, .slice p_11 r_14.1.length c_11), (14, .pointer (some ⟨b_10, 0, none⟩)), (15, .pointer (some ⟨b_11, 0, none⟩)), (16, .int .i64 r_16.1), (17, .int .i64 r_16.2.1), (18, .int .i64 r_16.2.2), (117, .int .i64 r_12.2), (118, .bool (r_12.2 == 0)), (119, .bool (r_12.2 == 0)), (122, .bool ((r_12.2 == 0) && (r_13.2 == 0))), (123, .bool ((r_12.2 == 0) && (r_13.2 == 0))), (126, .bool (((r_12.2 == 0) && (r_13.2 == 0)) && (r_14.2 == 0))), (127, .bool (((r_12.2 == 0) && (r_13.2 == 0)) && (r_14.2 == 0))), (130, .bool ((((r_12.2 == 0) && (r_13.2 == 0)) && (r_14.2 == 0)) && (r_15.2.2 == 0))), (131, .bool ((((r_12.2 == 0) && (r_13.2 == 0)) && (r_14.2 == 0)) && (r_15.2.2 == 0))), (134, .bool (((((r_12.2 == 0) && (r_13.2 == 0)) && (r_14.2 == 0)) && (r_15.2.2 == 0)) && (r_16.2.2 == 0))), (135, .bool (((((r_12.2 == 0) && (r_13.2 == 0)) && (r_14.2 == 0)) && (r_15.2.2 == 0)) && (r_16.2.2 == 0))), (139, .bool t_4), (140, .bool t_4), (144, .bool t_5), (145, .bool t_5), (149, .bool t_6)] ∧ Ctx G (.row (some ⟨b_13, 0, none⟩) 3 (([7, 2, 0] : List Int).map encI_i64) 3 1 :: .row (some ⟨b_12, 0, none⟩) 3 (([60, 30, 10] : List Int).map encI_i64) 3 1 :: .box b_11 [.int .i64 r_15.2.1.N, .int .i64 r_15.2.1.D] 71 :: .box b_10 [.int .i64 r_15.1.N, .int .i64 r_15.1.D] 71 :: .row (some ⟨b_9, 0, none⟩) 3 (([6, 3, 0] : List Int).map encI_i64) 3 1 :: .row (some ⟨b_8, 0, none⟩) 3 (([60, 30, 10] : List Int).map encI_i64) 3 1 :: .row (some ⟨b_7, 0, none⟩) 3 (([60, 30, 10] : List Int).map encI_i64) 3 1 :: .row p_11 c_11 (r_14.1.map encI_i64) 3 1 :: .row (some ⟨b_6, 0, none⟩) 3 (([60, 30, 10] : List Int).map encI_i64) 3 1 :: .row p_10 c_10 (r_13.1.map encI_i64) 3 1 :: .row (some ⟨b_5, 0, none⟩) 6 (([20, 30, 30, 40, 40, 40] : List Int).map encI_i64) 3 1 :: .row p_9 c_9 (r_12.1.map encI_i64) 3 1 :: .row p_6 c_6 (r_7.1.Table.map enc_share_Point) 116 2 :: .row p_7 c_7 (r_7.2.map enc_share_Year) 94 5 :: .row p_8 c_8 (r_8.1.map enc_api_Span) 26 2 :: .box b_1 [.slice p_6 r_7.1.Table.length c_6, .int .i64 r_7.1.Credit] 88 :: .row p_5 c_5 (r_5.Rights.map enc_share_Right) 51 3 :: .row p_3 c_3 (r_2.Rights.map enc_share_Right) 51 3 :: .row p_4 c_4 (r_4.1.map enc_api_Span) 26 2 :: .row p_1 c_1 (r.Rights.map enc_share_Right) 51 3 :: .row p_2 c_2 (r_1.1.map encI_i64) 3 1 :: Lf) w) ?_ ?_
    · cases hb : t_5
      · rw [hb] at hf
        have hF := condF hb ht_6
        obtain rfl := Option.some.inj hF
        refine stS hf rfl rfl rfl fun a hf => ?_
        refine stS hf rfl rfl rfl fun a hf => ?_
        refine stS hf rfl rfl rfl fun a hf => ?_
        refine stP hf rfl rfl rfl (pPf rfl rfl) fun a hf => ?_
        exact cNil ⟨hf.keep ⟨rfl, rfl, rfl, rfl, rfl, rfl, rfl, rfl, rfl, rfl, rfl, rfl, rfl, rfl, rfl, rfl, rfl, rfl, rfl, rfl, rfl, rfl, rfl, rfl, rfl, rfl, rfl, rfl, trivial⟩, hc⟩
      · rw [hb] at hf
        have hF := condT hb ht_6
        refine stP hf rfl rfl rfl (pM rfl) fun a hf => ?_
        refine stBS (rows := ([5, 3, 1] : List Int).map encI_i64) (vs := [(0, .int .i64 5), (1, .int .i64 3), (2, .int .i64 1)]) hf hc rfl rfl sl_36 rfl ⟨rfl, rfl, rfl, rfl, rfl, rfl, rfl, rfl, rfl, trivial⟩ rfl rfl fun b_16 a w hf hc => ?_
        obtain ⟨r_19, hr_19, hF⟩ := bnd_some hF
        refine stE hf hc rfl rfl rfl (eC (v := .bool r_19) (vs := [.slice p_11 r_14.1.length c_11, .slice (some ⟨b_16, 0, none⟩) 3 3]) (caps := []) en_20 rfl rfl rfl rfl (fun w hc => by obtain ⟨G1, hle1, hrd1, hc, hth1⟩ := lend hc k8; obtain ⟨G2, hle2, hrd2, hc, hth2⟩ := lend hc k0; exact (kit_Same_int_ok r_14.1 ([5, 3, 1] : List Int) (hrd1.mono hle2) hrd2 hc hr_19).mono fun e w h => ⟨h.1, ((hth1 _ _ ((hth2 _ _ h.2).unpick k0)).unpick k8)⟩)) fun a w hf hc => ?_
        refine stP hf rfl rfl rfl (pPt rfl rfl) fun a hf => ?_
        replace hc := hc.drop k0
        obtain rfl := Option.some.inj hF
        exact cNil ⟨hf.keep ⟨rfl, rfl, rfl, rfl, rfl, rfl, rfl, rfl, rfl, rfl, rfl, rfl, rfl, rfl, rfl, rfl, rfl, rfl, rfl, rfl, rfl, rfl, rfl, rfl, rfl, rfl, rfl, rfl, trivial⟩, hc⟩
    intro a w ⟨hf, hc⟩
    refine stP hf rfl rfl rfl (pM rfl) fun a hf => ?_
    refine stCut 4 (fun a w => Has 168 a ((2, .int .i64 r_12.2) :: (4, .int .i64 r_13.2) :: (6, .int .i64 r_14.2) :: (10, .int .i64 r_15.2.2) :: (11, .slice p_9 r_12.1.length c_9) :: (12, .slice p_10 r_13.1.length c_10) :: (13, .slice p_11 r_14.1.length c_11) :: (14, .pointer (some ⟨b_10, 0, none⟩)) :: (15, .pointer (some ⟨b_11, 0, none⟩)) :: (16, .int .i64 r_16.1) :: (17, .int .i64 r_16.2.1) :: (18, .int .i64 r_16.2.2) :: (117, .int .i64 r_12.2) :: (118, .bool (r_12.2 == 0)) :: (119, .bool (r_12.2 == 0)) :: (122, .bool ((r_12.2 == 0) && (r_13.2 == 0))) :: (123, .bool ((r_12.2 == 0) && (r_13.2 == 0))) :: (126, .bool (((r_12.2 == 0) && (r_13.2 == 0)) && (r_14.2 == 0))) :: (127, .bool (((r_12.2 == 0) && (r_13.2 == 0)) && (r_14.2 == 0))) :: (130, .bool ((((r_12.2 == 0) && (r_13.2 == 0)) && (r_14.2 == 0)) && (r_15.2.2 == 0))) :: (131, .bool ((((r_12.2 == 0) && (r_13.2 == 0)) && (r_14.2 == 0)) && (r_15.2.2 == 0))) :: (134, .bool (((((r_12.2 == 0) && (r_13.2 == 0)) && (r_14.2 == 0)) && (r_15.2.2 == 0)) && (r_16.2.2 == 0))) :: (135, .bool (((((r_12.2 == 0) && (r_13.2 == 0)) && (r_14.2 == 0)) && (r_15.2.2 == 0)) && (r_16.2.2 == 0))) :: (139, .bool t_4) :: (140, .bool t_4) :: (144, .bool t_5) :: (145, .bool t_5) :: (149, .bool t_6) :: (150, .bool t_6) :: (154, .bool (t_6 && (r_15.1.N == 10 && r_15.1.D == 1))) :: []) ∧ Ctx G (.row (some ⟨b_13, 0, none⟩) 3 (([7, 2, 0] : List Int).map encI_i64) 3 1 :: .row (some ⟨b_12, 0, none⟩) 3 (([60, 30, 10] : List Int).map encI_i64) 3 1 :: .box b_11 [.int .i64 r_15.2.1.N, .int .i64 r_15.2.1.D] 71 :: .box b_10 [.int .i64 r_15.1.N, .int .i64 r_15.1.D] 71 :: .row (some ⟨b_9, 0, none⟩) 3 (([6, 3, 0] : List Int).map encI_i64) 3 1 :: .row (some ⟨b_8, 0, none⟩) 3 (([60, 30, 10] : List Int).map encI_i64) 3 1 :: .row (some ⟨b_7, 0, none⟩) 3 (([60, 30, 10] : List Int).map encI_i64) 3 1 :: .row p_11 c_11 (r_14.1.map encI_i64) 3 1 :: .row (some ⟨b_6, 0, none⟩) 3 (([60, 30, 10] : List Int).map encI_i64) 3 1 :: .row p_10 c_10 (r_13.1.map encI_i64) 3 1 :: .row (some ⟨b_5, 0, none⟩) 6 (([20, 30, 30, 40, 40, 40] : List Int).map encI_i64) 3 1 :: .row p_9 c_9 (r_12.1.map encI_i64) 3 1 :: .row p_6 c_6 (r_7.1.Table.map enc_share_Point) 116 2 :: .row p_7 c_7 (r_7.2.map enc_share_Year) 94 5 :: .row p_8 c_8 (r_8.1.map enc_api_Span) 26 2 :: .box b_1 [.slice p_6 r_7.1.Table.length c_6, .int .i64 r_7.1.Credit] 88 :: .row p_5 c_5 (r_5.Rights.map enc_share_Right) 51 3 :: .row p_3 c_3 (r_2.Rights.map enc_share_Right) 51 3 :: .row p_4 c_4 (r_4.1.map enc_api_Span) 26 2 :: .row p_1 c_1 (r.Rights.map enc_share_Right) 51 3 :: .row p_2 c_2 (r_1.1.map encI_i64) 3 1 :: Lf) w) ?_ ?_
    · cases hb : t_6
      · rw [hb] at hf
        refine stS hf rfl rfl rfl fun a hf => ?_
        refine stS hf rfl rfl rfl fun a hf => ?_
        refine stS hf rfl rfl rfl fun a hf => ?_
        refine stP hf rfl rfl rfl (pPf rfl rfl) fun a hf => ?_
        exact cNil ⟨hf.keep ⟨rfl, rfl, rfl, rfl, rfl, rfl, rfl, rfl, rfl, rfl, rfl, rfl, rfl, rfl, rfl, rfl, rfl, rfl, rfl, rfl, rfl, rfl, rfl, rfl, rfl, rfl, rfl, rfl, rfl, rfl, trivial⟩, hc⟩
      · rw [hb] at hf
        refine stE hf hc rfl rfl rfl (eLdN (vs := [.int .i64 r_15.1.N, .int .i64 r_15.1.D]) ag_71 rfl rfl (cells_box (n := 2) m3 rfl)) fun a w hf hc => ?_
        refine stP hf rfl rfl rfl (pBuildS (cells := [.int .i64 10, .int .i64 1]) bt_71 rfl rfl) fun a hf => ?_
        refine stP hf rfl rfl rfl (pEqA ge_71 rfl rfl (eqs_71 _ _ _ _)) fun a hf => ?_
        refine stP hf rfl rfl rfl (pPt rfl rfl) fun a hf => ?_
        exact cNil ⟨hf.keep ⟨rfl, rfl, rfl, rfl, rfl, rfl, rfl, rfl, rfl, rfl, rfl, rfl, rfl, rfl, rfl, rfl, rfl, rfl, rfl, rfl, rfl, rfl, rfl, rfl, rfl, rfl, rfl, rfl, rfl, rfl, trivial⟩, hc⟩
    intro a w ⟨hf, hc⟩
    refine stP hf rfl rfl rfl (pM rfl) fun a hf => ?_
    refine stCut 4 (fun a w => Has 168 a ((2, .int .i64 r_12.2) :: (4, .int .i64 r_13.2) :: (6, .int .i64 r_14.2) :: (10, .int .i64 r_15.2.2) :: (11, .slice p_9 r_12.1.length c_9) :: (12, .slice p_10 r_13.1.length c_10) :: (13, .slice p_11 r_14.1.length c_11) :: (14, .pointer (some ⟨b_10, 0, none⟩)) :: (15, .pointer (some ⟨b_11, 0, none⟩)) :: (16, .int .i64 r_16.1) :: (17, .int .i64 r_16.2.1) :: (18, .int .i64 r_16.2.2) :: (117, .int .i64 r_12.2) :: (118, .bool (r_12.2 == 0)) :: (119, .bool (r_12.2 == 0)) :: (122, .bool ((r_12.2 == 0) && (r_13.2 == 0))) :: (123, .bool ((r_12.2 == 0) && (r_13.2 == 0))) :: (126, .bool (((r_12.2 == 0) && (r_13.2 == 0)) && (r_14.2 == 0))) :: (127, .bool (((r_12.2 == 0) && (r_13.2 == 0)) && (r_14.2 == 0))) :: (130, .bool ((((r_12.2 == 0) && (r_13.2 == 0)) && (r_14.2 == 0)) && (r_15.2.2 == 0))) :: (131, .bool ((((r_12.2 == 0) && (r_13.2 == 0)) && (r_14.2 == 0)) && (r_15.2.2 == 0))) :: (134, .bool (((((r_12.2 == 0) && (r_13.2 == 0)) && (r_14.2 == 0)) && (r_15.2.2 == 0)) && (r_16.2.2 == 0))) :: (135, .bool (((((r_12.2 == 0) && (r_13.2 == 0)) && (r_14.2 == 0)) && (r_15.2.2 == 0)) && (r_16.2.2 == 0))) :: (139, .bool t_4) :: (140, .bool t_4) :: (144, .bool t_5) :: (145, .bool t_5) :: (149, .bool t_6) :: (150, .bool t_6) :: (154, .bool (t_6 && (r_15.1.N == 10 && r_15.1.D == 1))) :: (155, .bool (t_6 && (r_15.1.N == 10 && r_15.1.D == 1))) :: (159, .bool ((t_6 && (r_15.1.N == 10 && r_15.1.D == 1)) && (r_15.2.1.N == r_15.1.N && r_15.2.1.D == r_15.1.D))) :: []) ∧ Ctx G (.row (some ⟨b_13, 0, none⟩) 3 (([7, 2, 0] : List Int).map encI_i64) 3 1 :: .row (some ⟨b_12, 0, none⟩) 3 (([60, 30, 10] : List Int).map encI_i64) 3 1 :: .box b_11 [.int .i64 r_15.2.1.N, .int .i64 r_15.2.1.D] 71 :: .box b_10 [.int .i64 r_15.1.N, .int .i64 r_15.1.D] 71 :: .row (some ⟨b_9, 0, none⟩) 3 (([6, 3, 0] : List Int).map encI_i64) 3 1 :: .row (some ⟨b_8, 0, none⟩) 3 (([60, 30, 10] : List Int).map encI_i64) 3 1 :: .row (some ⟨b_7, 0, none⟩) 3 (([60, 30, 10] : List Int).map encI_i64) 3 1 :: .row p_11 c_11 (r_14.1.map encI_i64) 3 1 :: .row (some ⟨b_6, 0, none⟩) 3 (([60, 30, 10] : List Int).map encI_i64) 3 1 :: .row p_10 c_10 (r_13.1.map encI_i64) 3 1 :: .row (some ⟨b_5, 0, none⟩) 6 (([20, 30, 30, 40, 40, 40] : List Int).map encI_i64) 3 1 :: .row p_9 c_9 (r_12.1.map encI_i64) 3 1 :: .row p_6 c_6 (r_7.1.Table.map enc_share_Point) 116 2 :: .row p_7 c_7 (r_7.2.map enc_share_Year) 94 5 :: .row p_8 c_8 (r_8.1.map enc_api_Span) 26 2 :: .box b_1 [.slice p_6 r_7.1.Table.length c_6, .int .i64 r_7.1.Credit] 88 :: .row p_5 c_5 (r_5.Rights.map enc_share_Right) 51 3 :: .row p_3 c_3 (r_2.Rights.map enc_share_Right) 51 3 :: .row p_4 c_4 (r_4.1.map enc_api_Span) 26 2 :: .row p_1 c_1 (r.Rights.map enc_share_Right) 51 3 :: .row p_2 c_2 (r_1.1.map encI_i64) 3 1 :: Lf) w) ?_ ?_
    · cases hb : (t_6 && (r_15.1.N == 10 && r_15.1.D == 1))
      · rw [hb] at hf
        refine stS hf rfl rfl rfl fun a hf => ?_
        refine stS hf rfl rfl rfl fun a hf => ?_
        refine stS hf rfl rfl rfl fun a hf => ?_
        refine stP hf rfl rfl rfl (pPf rfl rfl) fun a hf => ?_
        exact cNil ⟨hf.keep ⟨rfl, rfl, rfl, rfl, rfl, rfl, rfl, rfl, rfl, rfl, rfl, rfl, rfl, rfl, rfl, rfl, rfl, rfl, rfl, rfl, rfl, rfl, rfl, rfl, rfl, rfl, rfl, rfl, rfl, rfl, rfl, rfl, trivial⟩, hc⟩
      · rw [hb] at hf
        refine stE hf hc rfl rfl rfl (eLdN (vs := [.int .i64 r_15.2.1.N, .int .i64 r_15.2.1.D]) ag_71 rfl rfl (cells_box (n := 2) m2 rfl)) fun a w hf hc => ?_
        refine stE hf hc rfl rfl rfl (eLdN (vs := [.int .i64 r_15.1.N, .int .i64 r_15.1.D]) ag_71 rfl rfl (cells_box (n := 2) m3 rfl)) fun a w hf hc => ?_
        refine stP hf rfl rfl rfl (pEqA ge_71 rfl rfl (eqs_71 _ _ _ _)) fun a hf => ?_
        refine stP hf rfl rfl rfl (pPt rfl rfl) fun a hf => ?_
        exact cNil ⟨hf.keep ⟨rfl, rfl, rfl, rfl, rfl, rfl, rfl, rfl, rfl, rfl, rfl, rfl, rfl, rfl, rfl, rfl, rfl, rfl, rfl, rfl, rfl, rfl, rfl, rfl, rfl, rfl, rfl, rfl, rfl, rfl, rfl, rfl, trivial⟩, hc⟩
    intro a w ⟨hf, hc⟩
    refine stP hf rfl rfl rfl (pM rfl) fun a hf => ?_
    refine stCut 3 (fun a w => Has 168 a ((2, .int .i64 r_12.2) :: (4, .int .i64 r_13.2) :: (6, .int .i64 r_14.2) :: (10, .int .i64 r_15.2.2) :: (11, .slice p_9 r_12.1.length c_9) :: (12, .slice p_10 r_13.1.length c_10) :: (13, .slice p_11 r_14.1.length c_11) :: (14, .pointer (some ⟨b_10, 0, none⟩)) :: (15, .pointer (some ⟨b_11, 0, none⟩)) :: (16, .int .i64 r_16.1) :: (17, .int .i64 r_16.2.1) :: (18, .int .i64 r_16.2.2) :: (117, .int .i64 r_12.2) :: (118, .bool (r_12.2 == 0)) :: (119, .bool (r_12.2 == 0)) :: (122, .bool ((r_12.2 == 0) && (r_13.2 == 0))) :: (123, .bool ((r_12.2 == 0) && (r_13.2 == 0))) :: (126, .bool (((r_12.2 == 0) && (r_13.2 == 0)) && (r_14.2 == 0))) :: (127, .bool (((r_12.2 == 0) && (r_13.2 == 0)) && (r_14.2 == 0))) :: (130, .bool ((((r_12.2 == 0) && (r_13.2 == 0)) && (r_14.2 == 0)) && (r_15.2.2 == 0))) :: (131, .bool ((((r_12.2 == 0) && (r_13.2 == 0)) && (r_14.2 == 0)) && (r_15.2.2 == 0))) :: (134, .bool (((((r_12.2 == 0) && (r_13.2 == 0)) && (r_14.2 == 0)) && (r_15.2.2 == 0)) && (r_16.2.2 == 0))) :: (135, .bool (((((r_12.2 == 0) && (r_13.2 == 0)) && (r_14.2 == 0)) && (r_15.2.2 == 0)) && (r_16.2.2 == 0))) :: (139, .bool t_4) :: (140, .bool t_4) :: (144, .bool t_5) :: (145, .bool t_5) :: (149, .bool t_6) :: (150, .bool t_6) :: (154, .bool (t_6 && (r_15.1.N == 10 && r_15.1.D == 1))) :: (155, .bool (t_6 && (r_15.1.N == 10 && r_15.1.D == 1))) :: (159, .bool ((t_6 && (r_15.1.N == 10 && r_15.1.D == 1)) && (r_15.2.1.N == r_15.1.N && r_15.2.1.D == r_15.1.D))) :: (160, .bool ((t_6 && (r_15.1.N == 10 && r_15.1.D == 1)) && (r_15.2.1.N == r_15.1.N && r_15.2.1.D == r_15.1.D))) :: (163, .bool (((t_6 && (r_15.1.N == 10 && r_15.1.D == 1)) && (r_15.2.1.N == r_15.1.N && r_15.2.1.D == r_15.1.D)) && (r_16.1 == 0))) :: []) ∧ Ctx G (.row (some ⟨b_13, 0, none⟩) 3 (([7, 2, 0] : List Int).map encI_i64) 3 1 :: .row (some ⟨b_12, 0, none⟩) 3 (([60, 30, 10] : List Int).map encI_i64) 3 1 :: .box b_11 [.int .i64 r_15.2.1.N, .int .i64 r_15.2.1.D] 71 :: .box b_10 [.int .i64 r_15.1.N, .int .i64 r_15.1.D] 71 :: .row (some ⟨b_9, 0, none⟩) 3 (([6, 3, 0] : List Int).map encI_i64) 3 1 :: .row (some ⟨b_8, 0, none⟩) 3 (([60, 30, 10] : List Int).map encI_i64) 3 1 :: .row (some ⟨b_7, 0, none⟩) 3 (([60, 30, 10] : List Int).map encI_i64) 3 1 :: .row p_11 c_11 (r_14.1.map encI_i64) 3 1 :: .row (some ⟨b_6, 0, none⟩) 3 (([60, 30, 10] : List Int).map encI_i64) 3 1 :: .row p_10 c_10 (r_13.1.map encI_i64) 3 1 :: .row (some ⟨b_5, 0, none⟩) 6 (([20, 30, 30, 40, 40, 40] : List Int).map encI_i64) 3 1 :: .row p_9 c_9 (r_12.1.map encI_i64) 3 1 :: .row p_6 c_6 (r_7.1.Table.map enc_share_Point) 116 2 :: .row p_7 c_7 (r_7.2.map enc_share_Year) 94 5 :: .row p_8 c_8 (r_8.1.map enc_api_Span) 26 2 :: .box b_1 [.slice p_6 r_7.1.Table.length c_6, .int .i64 r_7.1.Credit] 88 :: .row p_5 c_5 (r_5.Rights.map enc_share_Right) 51 3 :: .row p_3 c_3 (r_2.Rights.map enc_share_Right) 51 3 :: .row p_4 c_4 (r_4.1.map enc_api_Span) 26 2 :: .row p_1 c_1 (r.Rights.map enc_share_Right) 51 3 :: .row p_2 c_2 (r_1.1.map encI_i64) 3 1 :: Lf) w) ?_ ?_
    · cases hb : ((t_6 && (r_15.1.N == 10 && r_15.1.D == 1)) && (r_15.2.1.N == r_15.1.N && r_15.2.1.D == r_15.1.D))
      · rw [hb] at hf
        refine stS hf rfl rfl rfl fun a hf => ?_
        refine stS hf rfl rfl rfl fun a hf => ?_
        refine stP hf rfl rfl rfl (pPf rfl rfl) fun a hf => ?_
        exact cNil ⟨hf.keep ⟨rfl, rfl, rfl, rfl, rfl, rfl, rfl, rfl, rfl, rfl, rfl, rfl, rfl, rfl, rfl, rfl, rfl, rfl, rfl, rfl, rfl, rfl, rfl, rfl, rfl, rfl, rfl, rfl, rfl, rfl, rfl, rfl, rfl, rfl, trivial⟩, hc⟩
      · rw [hb] at hf
        refine stP hf rfl rfl rfl (pM rfl) fun a hf => ?_
        refine stP hf rfl rfl rfl (pEq rfl rfl) fun a hf => ?_
        refine stP hf rfl rfl rfl (pPt rfl rfl) fun a hf => ?_
        exact cNil ⟨hf.keep ⟨rfl, rfl, rfl, rfl, rfl, rfl, rfl, rfl, rfl, rfl, rfl, rfl, rfl, rfl, rfl, rfl, rfl, rfl, rfl, rfl, rfl, rfl, rfl, rfl, rfl, rfl, rfl, rfl, rfl, rfl, rfl, rfl, rfl, rfl, trivial⟩, hc⟩
    intro a w ⟨hf, hc⟩
    refine stP hf rfl rfl rfl (pM rfl) fun a hf => ?_
    refine stCut 3 (fun a w => Has 168 a ((2, .int .i64 r_12.2) :: (4, .int .i64 r_13.2) :: (6, .int .i64 r_14.2) :: (10, .int .i64 r_15.2.2) :: (11, .slice p_9 r_12.1.length c_9) :: (12, .slice p_10 r_13.1.length c_10) :: (13, .slice p_11 r_14.1.length c_11) :: (14, .pointer (some ⟨b_10, 0, none⟩)) :: (15, .pointer (some ⟨b_11, 0, none⟩)) :: (16, .int .i64 r_16.1) :: (17, .int .i64 r_16.2.1) :: (18, .int .i64 r_16.2.2) :: (117, .int .i64 r_12.2) :: (118, .bool (r_12.2 == 0)) :: (119, .bool (r_12.2 == 0)) :: (122, .bool ((r_12.2 == 0) && (r_13.2 == 0))) :: (123, .bool ((r_12.2 == 0) && (r_13.2 == 0))) :: (126, .bool (((r_12.2 == 0) && (r_13.2 == 0)) && (r_14.2 == 0))) :: (127, .bool (((r_12.2 == 0) && (r_13.2 == 0)) && (r_14.2 == 0))) :: (130, .bool ((((r_12.2 == 0) && (r_13.2 == 0)) && (r_14.2 == 0)) && (r_15.2.2 == 0))) :: (131, .bool ((((r_12.2 == 0) && (r_13.2 == 0)) && (r_14.2 == 0)) && (r_15.2.2 == 0))) :: (134, .bool (((((r_12.2 == 0) && (r_13.2 == 0)) && (r_14.2 == 0)) && (r_15.2.2 == 0)) && (r_16.2.2 == 0))) :: (135, .bool (((((r_12.2 == 0) && (r_13.2 == 0)) && (r_14.2 == 0)) && (r_15.2.2 == 0)) && (r_16.2.2 == 0))) :: (139, .bool t_4) :: (140, .bool t_4) :: (144, .bool t_5) :: (145, .bool t_5) :: (149, .bool t_6) :: (150, .bool t_6) :: (154, .bool (t_6 && (r_15.1.N == 10 && r_15.1.D == 1))) :: (155, .bool (t_6 && (r_15.1.N == 10 && r_15.1.D == 1))) :: (159, .bool ((t_6 && (r_15.1.N == 10 && r_15.1.D == 1)) && (r_15.2.1.N == r_15.1.N && r_15.2.1.D == r_15.1.D))) :: (160, .bool ((t_6 && (r_15.1.N == 10 && r_15.1.D == 1)) && (r_15.2.1.N == r_15.1.N && r_15.2.1.D == r_15.1.D))) :: (163, .bool (((t_6 && (r_15.1.N == 10 && r_15.1.D == 1)) && (r_15.2.1.N == r_15.1.N && r_15.2.1.D == r_15.1.D)) && (r_16.1 == 0))) :: (164, .bool (((t_6 && (r_15.1.N == 10 && r_15.1.D == 1)) && (r_15.2.1.N == r_15.1.N && r_15.2.1.D == r_15.1.D)) && (r_16.1 == 0))) :: (167, .bool ((((t_6 && (r_15.1.N == 10 && r_15.1.D == 1)) && (r_15.2.1.N == r_15.1.N && r_15.2.1.D == r_15.1.D)) && (r_16.1 == 0)) && (r_16.2.1 == 1))) :: []) ∧ Ctx G (.row (some ⟨b_13, 0, none⟩) 3 (([7, 2, 0] : List Int).map encI_i64) 3 1 :: .row (some ⟨b_12, 0, none⟩) 3 (([60, 30, 10] : List Int).map encI_i64) 3 1 :: .box b_11 [.int .i64 r_15.2.1.N, .int .i64 r_15.2.1.D] 71 :: .box b_10 [.int .i64 r_15.1.N, .int .i64 r_15.1.D] 71 :: .row (some ⟨b_9, 0, none⟩) 3 (([6, 3, 0] : List Int).map encI_i64) 3 1 :: .row (some ⟨b_8, 0, none⟩) 3 (([60, 30, 10] : List Int).map encI_i64) 3 1 :: .row (some ⟨b_7, 0, none⟩) 3 (([60, 30, 10] : List Int).map encI_i64) 3 1 :: .row p_11 c_11 (r_14.1.map encI_i64) 3 1 :: .row (some ⟨b_6, 0, none⟩) 3 (([60, 30, 10] : List Int).map encI_i64) 3 1 :: .row p_10 c_10 (r_13.1.map encI_i64) 3 1 :: .row (some ⟨b_5, 0, none⟩) 6 (([20, 30, 30, 40, 40, 40] : List Int).map encI_i64) 3 1 :: .row p_9 c_9 (r_12.1.map encI_i64) 3 1 :: .row p_6 c_6 (r_7.1.Table.map enc_share_Point) 116 2 :: .row p_7 c_7 (r_7.2.map enc_share_Year) 94 5 :: .row p_8 c_8 (r_8.1.map enc_api_Span) 26 2 :: .box b_1 [.slice p_6 r_7.1.Table.length c_6, .int .i64 r_7.1.Credit] 88 :: .row p_5 c_5 (r_5.Rights.map enc_share_Right) 51 3 :: .row p_3 c_3 (r_2.Rights.map enc_share_Right) 51 3 :: .row p_4 c_4 (r_4.1.map enc_api_Span) 26 2 :: .row p_1 c_1 (r.Rights.map enc_share_Right) 51 3 :: .row p_2 c_2 (r_1.1.map encI_i64) 3 1 :: Lf) w) ?_ ?_
    · cases hb : (((t_6 && (r_15.1.N == 10 && r_15.1.D == 1)) && (r_15.2.1.N == r_15.1.N && r_15.2.1.D == r_15.1.D)) && (r_16.1 == 0))
      · rw [hb] at hf
        refine stS hf rfl rfl rfl fun a hf => ?_
        refine stS hf rfl rfl rfl fun a hf => ?_
        refine stP hf rfl rfl rfl (pPf rfl rfl) fun a hf => ?_
        exact cNil ⟨hf.keep ⟨rfl, rfl, rfl, rfl, rfl, rfl, rfl, rfl, rfl, rfl, rfl, rfl, rfl, rfl, rfl, rfl, rfl, rfl, rfl, rfl, rfl, rfl, rfl, rfl, rfl, rfl, rfl, rfl, rfl, rfl, rfl, rfl, rfl, rfl, rfl, rfl, trivial⟩, hc⟩
      · rw [hb] at hf
        refine stP hf rfl rfl rfl (pM rfl) fun a hf => ?_
        refine stP hf rfl rfl rfl (pEq rfl rfl) fun a hf => ?_
        refine stP hf rfl rfl rfl (pPt rfl rfl) fun a hf => ?_
        exact cNil ⟨hf.keep ⟨rfl, rfl, rfl, rfl, rfl, rfl, rfl, rfl, rfl, rfl, rfl, rfl, rfl, rfl, rfl, rfl, rfl, rfl, rfl, rfl, rfl, rfl, rfl, rfl, rfl, rfl, rfl, rfl, rfl, rfl, rfl, rfl, rfl, rfl, rfl, rfl, trivial⟩, hc⟩
    intro a w ⟨hf, hc⟩
    refine stP hf rfl rfl rfl (pA rfl) fun a hf => ?_
    refine cNil ?_
    refine h15 _ _ ?_
    refine wp_ret ?_
    obtain rfl := Option.some.inj hF
    replace hc := hc.drop k20
    replace hc := hc.drop k19
    replace hc := hc.drop k18
    replace hc := hc.drop k17
    replace hc := hc.drop k16
    replace hc := hc.drop k15
    replace hc := hc.drop k14
    replace hc := hc.drop k13
    replace hc := hc.drop k12
    replace hc := hc.drop k11
    replace hc := hc.drop k10
    replace hc := hc.drop k9
    replace hc := hc.drop k8
    replace hc := hc.drop k7
    replace hc := hc.drop k6
    replace hc := hc.drop k5
    replace hc := hc.drop k4
    replace hc := hc.drop k3
    replace hc := hc.drop k2
    replace hc := hc.drop k1
    replace hc := hc.drop k0
    exact fnOut1 (by simp) rfl Try.results13 hf hc (show look _ 0 = _ from rfl) ⟨rfl, hc⟩

def kit_Copy_int (N : Nat) (l : List Int) : Option ((List Int)) :=
  Option.bind (room (l).length) fun un =>
  some l
theorem kit_Copy_int_ok {N : Nat} {G : Pers} {Lf : List Ent} {w : World} (l : List Int) {l_p : Option Addr} {l_c : Nat} (h_l : Rd G 1 l_p l_c (l.map encI_i64)) (hc : Ctx G (Lf) w) {res : (List Int)} (hF : kit_Copy_int N l = some res) : Calls Try.prog 32 #[.slice l_p l.length l_c] w (fun e w => ∃ (p'1 : Option Addr) (c'1 : Nat), e = .returned (.slice p'1 res.length c'1) ∧ Ctx G (.row p'1 c'1 (res.map encI_i64) 3 1 :: Lf) w) := by
  unfold kit_Copy_int at hF
  refine fnIn (args := [.slice l_p l.length l_c]) Try.func32 rfl Try.ntmps32 rfl fun a hf => ?_
  refine wp_seq_k fun K1 h1 => ?_
  refine cReg ?_
  refine stP hf rfl rfl rfl (pA rfl) fun a hf => ?_
  refine cNil ?_
  refine h1 _ _ ?_
  refine wp_seq_k fun K2 h2 => ?_
  refine cReg ?_
  refine stP hf rfl rfl rfl (pA rfl) fun a hf => ?_
  refine cNil ?_
  refine h2 _ _ ?_
  refine wp_seq_k fun K3 h3 => ?_
  refine cReg ?_
  refine stP hf rfl rfl rfl (pM rfl) fun a hf => ?_
  refine stP hf rfl rfl rfl (pM rfl) fun a hf => ?_
  replace hc := hc.nilRow 3 1
  obtain ⟨un, hun, hF⟩ := bnd_some hF
  refine stApm (xs := ([] : List Int)) (ys := l) hf hc rfl rfl sl_36 rfl rfl rfl rfl rfl one_encI_i64 (src_rd hc h_l) (fun _ _ => u0) (by simpa using room_spec hun) fun p_1 c_1 a w hf hc => ?_
  refine stP hf rfl rfl rfl (pA rfl) fun a hf => ?_
  refine cNil ?_
  refine h3 _ _ ?_
  refine wp_ret ?_
  obtain rfl := Option.some.inj hF
  exact fnOut1 (by simp) rfl Try.results32 hf hc (show look _ 2 = _ from rfl) ⟨p_1, c_1, rfl, hc⟩

def ref09_outside (n : Int) (a_ : Int) (b_ : Int) : Bool :=
  ((decide (n < a_)) || (decide (b_ < n)))
theorem ref09_outside_ok {G : Pers} {Lf : List Ent} {w : World} (n : Int) (a_ : Int) (b_ : Int)   (hc : Ctx G (Lf) w) {res : Bool} (hF : ref09_outside n a_ b_ = res) : Calls Try.prog 74 #[.int .i64 n, .int .i64 a_, .int .i64 b_] w (fun e w => e = .returned (.bool res) ∧ Ctx G (Lf) w) := by
  unfold ref09_outside at hF
  refine fnIn (args := [.int .i64 n, .int .i64 a_, .int .i64 b_]) Try.func74 rfl Try.ntmps74 rfl fun a hf => ?_
  refine wp_seq_k fun K1 h1 => ?_
  refine cReg ?_
  refine stP hf rfl rfl rfl (pA rfl) fun a hf => ?_
  refine cNil ?_
  refine h1 _ _ ?_
  refine wp_seq_k fun K2 h2 => ?_
  refine cReg ?_
  refine stP hf rfl rfl rfl (pM rfl) fun a hf => ?_
  refine stP hf rfl rfl rfl (pM rfl) fun a hf => ?_
  refine stP hf rfl rfl rfl (pLt rfl rfl) fun a hf => ?_
  refine stP hf rfl rfl rfl (pM rfl) fun a hf => ?_
  refine stCut 4 (fun a w => Has 15 a [(0, .int .i64 n), (1, .int .i64 a_), (2, .int .i64 b_), (6, .bool false), (7, .int .i64 n), (8, .int .i64 a_), (9, .bool (decide (n < a_))), (10, .bool (decide (n < a_))), (14, .bool ((decide (n < a_)) || (decide (b_ < n))))] ∧ Ctx G (Lf) w) ?_ ?_
  · cases hb : (decide (n < a_))
    · rw [hb] at hf
      refine stP hf rfl rfl rfl (pM rfl) fun a hf => ?_
      refine stP hf rfl rfl rfl (pM rfl) fun a hf => ?_
      refine stP hf rfl rfl rfl (pGt rfl rfl) fun a hf => ?_
      refine stP hf rfl rfl rfl (pPf rfl rfl) fun a hf => ?_
      exact cNil ⟨hf.keep ⟨rfl, rfl, rfl, rfl, rfl, rfl, rfl, rfl, rfl, trivial⟩, hc⟩
    · rw [hb] at hf
      refine stS hf rfl rfl rfl fun a hf => ?_
      refine stS hf rfl rfl rfl fun a hf => ?_
      refine stS hf rfl rfl rfl fun a hf => ?_
      refine stP hf rfl rfl rfl (pPt rfl rfl) fun a hf => ?_
      exact cNil ⟨hf.keep ⟨rfl, rfl, rfl, rfl, rfl, rfl, rfl, rfl, rfl, trivial⟩, hc⟩
  intro a w ⟨hf, hc⟩
  refine stP hf rfl rfl rfl (pA rfl) fun a hf => ?_
  refine cNil ?_
  refine h2 _ _ ?_
  refine wp_ret ?_
  obtain rfl := hF
  exact fnOut1 (by simp) rfl Try.results74 hf hc (show look _ 6 = _ from rfl) ⟨rfl, hc⟩

def ref09_Payback_j29 (N : Nat) (debt_0 : Int) (out : List Int) (i_2 : Int) (n_3 : Int) : Option (Step (Int × (List Int) × Int) ((List Int) × Int)) :=
  Option.bind (room ((out ++ [n_3])).length) fun un_1 =>
  some (.cont (W (debt_0 - n_3), (out ++ [n_3]), W (i_2 + 1)))
def ref09_Payback_j28 (N : Nat) (debt_0 : Int) (out : List Int) (i_2 : Int) (n_2 : Int) : Option (Step (Int × (List Int) × Int) ((List Int) × Int)) :=
  cond (decide (debt_0 < n_2))
  (ref09_Payback_j29 N debt_0 out i_2 debt_0)
  (ref09_Payback_j29 N debt_0 out i_2 n_2)
def ref09_Payback_j27 (N : Nat) (can : List Int) (debt_0 : Int) (out : List Int) (i_2 : Int) (n_1 : Int) : Option (Step (Int × (List Int) × Int) ((List Int) × Int)) :=
  Option.bind (getI can i_2) fun e_1 =>
  cond (decide (e_1 < n_1))
  (Option.bind (getI can i_2) fun e_2 =>
  ref09_Payback_j28 N debt_0 out i_2 e_2)
  (ref09_Payback_j28 N debt_0 out i_2 n_1)
def ref09_Payback_j26 (N : Nat) (least : Int) (can : List Int) (debt_0 : Int) (out : List Int) (i_2 : Int) (n : Int) : Option (Step (Int × (List Int) × Int) ((List Int) × Int)) :=
  cond (decide (n < least))
  (ref09_Payback_j27 N can debt_0 out i_2 least)
  (ref09_Payback_j27 N can debt_0 out i_2 n)
def ref09_Payback_b17 (N : Nat) (least : Int) (part : Int) (can : List Int) (debt_0 : Int) (out : List Int) (i_2 : Int) : Option (Step (Int × (List Int) × Int) ((List Int) × Int)) :=
  cond ((decide (i_2 < ((can.length : Nat) : Int))) && (decide (0 < debt_0)))
  (Option.bind (nz part) fun un =>
  cond (decide ((W ((W (debt_0.tdiv part)) * part)) < debt_0))
  (ref09_Payback_j26 N least can debt_0 out i_2 (W ((W (debt_0.tdiv part)) + 1)))
  (ref09_Payback_j26 N least can debt_0 out i_2 (W (debt_0.tdiv part))))
  (some (.brk (debt_0, out, i_2)))
def ref09_Payback_b13 (N : Nat) (can : List Int) (i_1 : Int) : Option (Step (Int) ((List Int) × Int)) :=
  cond (decide (i_1 < ((can.length : Nat) : Int)))
  (Option.bind (getI can i_1) fun e_3 =>
  cond (ref09_outside e_3 0 1000000000)
  (some (.ret (([] : List Int), 100)))
  (some (.cont (W (i_1 + 1)))))
  (some (.brk i_1))
def ref09_Payback (N : Nat) (debt : Int) (least : Int) (part : Int) (can : List Int) : Option ((List Int) × Int) :=
  cond (ref09_outside debt 0 1000000000)
  (some (([] : List Int), 4))
  (cond (decide (40 < ((can.length : Nat) : Int)))
  (some (([] : List Int), 3))
  (cond ((ref09_outside least 1 1000000000) || (ref09_outside part 1 100))
  (some (([] : List Int), 100))
  (Option.bind (loopO (fun s13 => ref09_Payback_b13 N can s13) N 0) fun x13 =>
  exK x13 (fun s13 => Option.bind (loopO (fun s17 => ref09_Payback_b17 N least part can s17.1 s17.2.1 s17.2.2) N (debt, ([] : List Int), 0)) fun x17 =>
  exK x17 (fun s17 => cond (decide (0 < s17.1))
  (some (([] : List Int), 5))
  (some (s17.2.1, 0))) some) some)))
theorem ref09_Payback_ok {N : Nat} {G : Pers} {Lf : List Ent} {w : World} (debt : Int) (least : Int) (part : Int) (can : List Int) {can_p : Option Addr} {can_c : Nat} (h_can : Rd G 1 can_p can_c (can.map encI_i64)) (hc : Ctx G (Lf) w) {res : (List Int) × Int} (hF : ref09_Payback N debt least part can = some res) : Calls Try.prog 35 #[.int .i64 debt, .int .i64 least, .int .i64 part, .slice can_p can.length can_c] w (fun e w => ∃ (p'1 : Option Addr) (c'1 : Nat), e = .returned (.tuple #[.slice p'1 res.1.length c'1, .int .i64 res.2]) ∧ Ctx G (.row p'1 c'1 (res.1.map encI_i64) 3 1 :: Lf) w) := by
  unfold ref09_Payback at hF
  refine fnIn (args := [.int .i64 debt, .int .i64 least, .int .i64 part, .slice can_p can.length can_c]) Try.func35 rfl Try.ntmps35 rfl fun a hf => ?_
  refine wp_seq_k fun K1 h1 => ?_
  refine cReg ?_
  refine stP hf rfl rfl rfl (pA rfl) fun a hf => ?_
  refine stP hf rfl rfl rfl (pA rfl) fun a hf => ?_
  refine cNil ?_
  refine h1 _ _ ?_
  refine wp_seq_k fun K2 h2 => ?_
  refine wp_seq_k fun K3 h3 => ?_
  refine cReg ?_
  refine stP hf rfl rfl rfl (pM rfl) fun a hf => ?_
  refine stE hf hc rfl rfl rfl (eC (v := .bool (ref09_outside debt 0 1000000000)) (vs := [.int .i64 debt, .int .i64 0, .int .i64 1000000000]) (caps := []) en_74 rfl rfl rfl rfl (fun w hc => ref09_outside_ok debt 0 1000000000 hc rfl)) fun a w hf hc => ?_
  refine cNil ?_
  refine h3 _ _ ?_
  refine cCond (b := (ref09_outside debt 0 1000000000)) hf rfl (fun hb => ?_) (fun hb => ?_)
  · replace hF := condT hb hF
    clear hb
    refine wp_seq_k fun K4 h4 => ?_
    refine cReg ?_
    refine stP hf rfl rfl rfl (pA rfl) fun a hf => ?_
    refine stP hf rfl rfl rfl (pA rfl) fun a hf => ?_
    refine cNil ?_
    refine h4 _ _ ?_
    refine wp_ret ?_
    refine xThenR ?_
    obtain rfl := Option.some.inj hF
    replace hc := hc.nilRow 3 1
    exact fnOut2 (by simp) rfl Try.results35 hf hc (show look _ 8 = _ from rfl) (show look _ 9 = _ from rfl) ⟨none, 0, rfl, hc⟩
  · replace hF := condF hb hF
    clear hb
    refine wp_skip ?_
    refine h2 _ _ ?_
    refine wp_seq_k fun K5 h5 => ?_
    refine wp_seq_k fun K6 h6 => ?_
    refine cReg ?_
    refine stP hf rfl rfl rfl (pM rfl) fun a hf => ?_
    refine stP hf rfl rfl rfl (pLenS Try.underlying36 rfl) fun a hf => ?_
    refine stP hf rfl rfl rfl (pGt rfl rfl) fun a hf => ?_
    refine cNil ?_
    refine h6 _ _ ?_
    refine cCond (b := (decide (40 < ((can.length : Nat) : Int)))) hf rfl (fun hb => ?_) (fun hb => ?_)
    · replace hF := condT hb hF
      clear hb
      refine wp_seq_k fun K7 h7 => ?_
      refine cReg ?_
      refine stP hf rfl rfl rfl (pA rfl) fun a hf => ?_
      refine stP hf rfl rfl rfl (pA rfl) fun a hf => ?_
      refine cNil ?_
      refine h7 _ _ ?_
      refine wp_ret ?_
      refine xThenR ?_
      obtain rfl := Option.some.inj hF
      replace hc := hc.nilRow 3 1
      exact fnOut2 (by simp) rfl Try.results35 hf hc (show look _ 8 = _ from rfl) (show look _ 9 = _ from rfl) ⟨none, 0, rfl, hc⟩
    · replace hF := condF hb hF
      clear hb
      refine wp_skip ?_
      refine h5 _ _ ?_
      refine wp_seq_k fun K8 h8 => ?_
      refine wp_seq_k fun K9 h9 => ?_
      refine cReg ?_
      refine stP hf rfl rfl rfl (pM rfl) fun a hf => ?_
      refine stE hf hc rfl rfl rfl (eC (v := .bool (ref09_outside least 1 1000000000)) (vs := [.int .i64 least, .int .i64 1, .int .i64 1000000000]) (caps := []) en_74 rfl rfl rfl rfl (fun w hc => ref09_outside_ok least 1 1000000000 hc rfl)) fun a w hf hc => ?_
      refine stP hf rfl rfl rfl (pM rfl) fun a hf => ?_
      refine stCut 3 (fun a w => Has 84 a [(0, .int .i64 debt), (1, .int .i64 least), (2, .int .i64 part), (3, .slice can_p can.length can_c), (19, .int .i64 least), (20, .bool (ref09_outside least 1 1000000000)), (21, .bool (ref09_outside least 1 1000000000)), (24, .bool ((ref09_outside least 1 1000000000) || (ref09_outside part 1 100)))] ∧ Ctx G (Lf) w) ?_ ?_
      · cases hb : (ref09_outside least 1 1000000000)
        · rw [hb] at hf
          refine stP hf rfl rfl rfl (pM rfl) fun a hf => ?_
          refine stE hf hc rfl rfl rfl (eC (v := .bool (ref09_outside part 1 100)) (vs := [.int .i64 part, .int .i64 1, .int .i64 100]) (caps := []) en_74 rfl rfl rfl rfl (fun w hc => ref09_outside_ok part 1 100 hc rfl)) fun a w hf hc => ?_
          refine stP hf rfl rfl rfl (pPf rfl rfl) fun a hf => ?_
          exact cNil ⟨hf.keep ⟨rfl, rfl, rfl, rfl, rfl, rfl, rfl, rfl, trivial⟩, hc⟩
        · rw [hb] at hf
          refine stS hf rfl rfl rfl fun a hf => ?_
          refine stS hf rfl rfl rfl fun a hf => ?_
          refine stP hf rfl rfl rfl (pPt rfl rfl) fun a hf => ?_
          exact cNil ⟨hf.keep ⟨rfl, rfl, rfl, rfl, rfl, rfl, rfl, rfl, trivial⟩, hc⟩
      intro a w ⟨hf, hc⟩
      refine cNil ?_
      refine h9 _ _ ?_
      refine cCond (b := ((ref09_outside least 1 1000000000) || (ref09_outside part 1 100))) hf rfl (fun hb => ?_) (fun hb => ?_)
      · replace hF := condT hb hF
        clear hb
        refine wp_seq_k fun K10 h10 => ?_
        refine cReg ?_
        refine stP hf rfl rfl rfl (pA rfl) fun a hf => ?_
        refine stP hf rfl rfl rfl (pA rfl) fun a hf => ?_
        refine cNil ?_
        refine h10 _ _ ?_
        refine wp_ret ?_
        refine xThenR ?_
        obtain rfl := Option.some.inj hF
        replace hc := hc.nilRow 3 1
        exact fnOut2 (by simp) rfl Try.results35 hf hc (show look _ 8 = _ from rfl) (show look _ 9 = _ from rfl) ⟨none, 0, rfl, hc⟩
      · replace hF := condF hb hF
        clear hb
        refine wp_skip ?_
        refine h8 _ _ ?_
        refine wp_seq_k fun K11 h11 => ?_
        refine wp_seq_k fun K12 h12 => ?_
        refine cReg ?_
        refine stP hf rfl rfl rfl (pA rfl) fun a hf => ?_
        refine cNil ?_
        refine h12 _ _ ?_
        refine wp_block ?_
        obtain ⟨x13, hx13, hF⟩ := bnd_some hF
        let S13 : Int → Act → World → Prop := (fun (zz : Int) a w => Has 84 a [(0, .int .i64 debt), (1, .int .i64 least), (2, .int .i64 part), (3, .slice can_p can.length can_c), (10, .int .i64 zz)] ∧ Ctx G (Lf) w)
        have hr13 : ∀ (zz : Int) a w, x13 = .go zz → S13 zz a w → K11 a w := by
          rintro i_1 a w rfl ⟨hf, hc⟩
          replace hF : _ = some res := hF
          refine h11 _ _ ?_
          refine wp_seq_k fun K14 h14 => ?_
          refine cReg ?_
          refine stP hf rfl rfl rfl (pA rfl) fun a hf => ?_
          refine cNil ?_
          refine h14 _ _ ?_
          refine wp_seq_k fun K15 h15 => ?_
          refine wp_seq_k fun K16 h16 => ?_
          refine cReg ?_
          refine stP hf rfl rfl rfl (pA rfl) fun a hf => ?_
          refine cNil ?_
          refine h16 _ _ ?_
          refine wp_block ?_
          obtain ⟨x17, hx17, hF⟩ := bnd_some hF
          let S17 : (Int × (List Int) × Int) → Act → World → Prop := (fun (zz : Int × (List Int) × Int) a w => ∃ (p_1 : Option Addr) (c_1 : Nat), Has 84 a [(0, .int .i64 zz.1), (1, .int .i64 least), (2, .int .i64 part), (3, .slice can_p can.length can_c), (11, .slice p_1 zz.2.1.length c_1), (12, .int .i64 zz.2.2)] ∧ Ctx G (.row p_1 c_1 (zz.2.1.map encI_i64) 3 1 :: Lf) w)
          have hr17 : ∀ (zz : Int × (List Int) × Int) a w, x17 = .go zz → S17 zz a w → K15 a w := by
            rintro ⟨debt_0, out, i_2⟩ a w rfl ⟨p_1, c_1, hf, hc⟩
            replace hF : _ = some res := hF
            refine h15 _ _ ?_
            refine wp_seq_k fun K18 h18 => ?_
            refine wp_seq_k fun K19 h19 => ?_
            refine cReg ?_
            refine stP hf rfl rfl rfl (pM rfl) fun a hf => ?_
            refine stP hf rfl rfl rfl (pGt rfl rfl) fun a hf => ?_
            refine cNil ?_
            refine h19 _ _ ?_
            refine cCond (b := (decide (0 < debt_0))) hf rfl (fun hb => ?_) (fun hb => ?_)
            · replace hF := condT hb hF
              clear hb
              refine wp_seq_k fun K20 h20 => ?_
              refine cReg ?_
              refine stP hf rfl rfl rfl (pA rfl) fun a hf => ?_
              refine stP hf rfl rfl rfl (pA rfl) fun a hf => ?_
              refine cNil ?_
              refine h20 _ _ ?_
              refine wp_ret ?_
              refine xThenR ?_
              obtain rfl := Option.some.inj hF
              replace hc := hc.nilRow 3 1
              replace hc := hc.drop k1
              exact fnOut2 (by simp) rfl Try.results35 hf hc (show look _ 8 = _ from rfl) (show look _ 9 = _ from rfl) ⟨none, 0, rfl, hc⟩
            · replace hF := condF hb hF
              clear hb
              refine wp_skip ?_
              refine h18 _ _ ?_
              refine wp_seq_k fun K21 h21 => ?_
              refine cReg ?_
              refine stP hf rfl rfl rfl (pM rfl) fun a hf => ?_
              refine stP hf rfl rfl rfl (pA rfl) fun a hf => ?_
              refine stP hf rfl rfl rfl (pA rfl) fun a hf => ?_
              refine cNil ?_
              refine h21 _ _ ?_
              refine wp_ret ?_
              obtain rfl := Option.some.inj hF
              exact fnOut2 (by simp) rfl Try.results35 hf hc (show look _ 8 = _ from rfl) (show look _ 9 = _ from rfl) ⟨p_1, c_1, rfl, hc⟩
          have ho17 : ∀ r, x17 = .out r → r = res := by
            rintro r rfl
            exact Option.some.inj hF
          replace hc := hc.nilRow 3 1
          refine cLoop N (loopW (S := S17) (x := x17) ?_ N (debt, ([] : List Int), 0) _ _ ⟨none, 0, hf.keep ⟨rfl, rfl, rfl, rfl, rfl, rfl, trivial⟩, hc⟩ hx17)
          clear hF hf hc
          rintro ⟨debt_0, out, i_2⟩ st17 a w KB17 ⟨p_1, c_1, hf, hc⟩ hF hfin17 hK17
          unfold ref09_Payback_b17 at hF
          refine wp_seq_k fun K22 h22 => ?_
          refine wp_seq_k fun K23 h23 => ?_
          refine cReg ?_
          refine stP hf rfl rfl rfl (pM rfl) fun a hf => ?_
          refine stP hf rfl rfl rfl (pM rfl) fun a hf => ?_
          refine stP hf rfl rfl rfl (pLenS Try.underlying36 rfl) fun a hf => ?_
          refine stP hf rfl rfl rfl (pLt rfl rfl) fun a hf => ?_
          refine stP hf rfl rfl rfl (pM rfl) fun a hf => ?_
          refine stCut 3 (fun a w => Has 84 a [(0, .int .i64 debt_0), (1, .int .i64 least), (2, .int .i64 part), (3, .slice can_p can.length can_c), (11, .slice p_1 out.length c_1), (12, .int .i64 i_2), (36, .int .i64 i_2), (37, .slice can_p can.length can_c), (38, .int .i64 ((can.length : Nat) : Int)), (39, .bool (decide (i_2 < ((can.length : Nat) : Int)))), (40, .bool (decide (i_2 < ((can.length : Nat) : Int)))), (43, .bool ((decide (i_2 < ((can.length : Nat) : Int))) && (decide (0 < debt_0))))] ∧ Ctx G (.row p_1 c_1 (out.map encI_i64) 3 1 :: Lf) w) ?_ ?_
          · cases hb : (decide (i_2 < ((can.length : Nat) : Int)))
            · rw [hb] at hf
              refine stS hf rfl rfl rfl fun a hf => ?_
              refine stS hf rfl rfl rfl fun a hf => ?_
              refine stP hf rfl rfl rfl (pPf rfl rfl) fun a hf => ?_
              exact cNil ⟨hf.keep ⟨rfl, rfl, rfl, rfl, rfl, rfl, rfl, rfl, rfl, rfl, rfl, rfl, trivial⟩, hc⟩
            · rw [hb] at hf
              refine stP hf rfl rfl rfl (pM rfl) fun a hf => ?_
              refine stP hf rfl rfl rfl (pGt rfl rfl) fun a hf => ?_
              refine stP hf rfl rfl rfl (pPt rfl rfl) fun a hf => ?_
              exact cNil ⟨hf.keep ⟨rfl, rfl, rfl, rfl, rfl, rfl, rfl, rfl, rfl, rfl, rfl, rfl, trivial⟩, hc⟩
          intro a w ⟨hf, hc⟩
          refine cNil ?_
          refine h23 _ _ ?_
          refine cCond (b := ((decide (i_2 < ((can.length : Nat) : Int))) && (decide (0 < debt_0)))) hf rfl (fun hb => ?_) (fun hb => ?_)
          · replace hF := condT hb hF
            clear hb
            refine wp_skip ?_
            refine h22 _ _ ?_
            refine wp_seq_k fun K24 h24 => ?_
            refine wp_block ?_
            refine wp_seq_k fun K25 h25 => ?_
            refine cReg ?_
            refine stP hf rfl rfl rfl (pM rfl) fun a hf => ?_
            refine stP hf rfl rfl rfl (pM rfl) fun a hf => ?_
            obtain ⟨un, hun, hF⟩ := bnd_some hF
            refine stP hf rfl rfl rfl (pQuo rfl rfl (nz_spec hun)) fun a hf => ?_
            refine stP hf rfl rfl rfl (pA rfl) fun a hf => ?_
            refine cNil ?_
            refine h25 _ _ ?_
            refine wp_seq_k fun K26 h26 => ?_
            have hj26 : ∀ (n : Int) a w, Has 84 a [(0, .int .i64 debt_0), (1, .int .i64 least), (2, .int .i64 part), (3, .slice can_p can.length can_c), (11, .slice p_1 out.length c_1), (12, .int .i64 i_2), (13, .int .i64 n)] → Ctx G (.row p_1 c_1 (out.map encI_i64) 3 1 :: Lf) w → ref09_Payback_j26 N least can debt_0 out i_2 n = some st17 → K26 a w := by
              intro n a w hf hc hF
              unfold ref09_Payback_j26 at hF
              refine h26 _ _ ?_
              refine wp_seq_k fun K27 h27 => ?_
              have hj27 : ∀ (n_1 : Int) a w, Has 84 a [(0, .int .i64 debt_0), (1, .int .i64 least), (2, .int .i64 part), (3, .slice can_p can.length can_c), (11, .slice p_1 out.length c_1), (12, .int .i64 i_2), (13, .int .i64 n_1)] → Ctx G (.row p_1 c_1 (out.map encI_i64) 3 1 :: Lf) w → ref09_Payback_j27 N can debt_0 out i_2 n_1 = some st17 → K27 a w := by
                intro n_1 a w hf hc hF
                unfold ref09_Payback_j27 at hF
                refine h27 _ _ ?_
                refine wp_seq_k fun K28 h28 => ?_
                have hj28 : ∀ (n_2 : Int) a w, Has 84 a [(0, .int .i64 debt_0), (1, .int .i64 least), (2, .int .i64 part), (3, .slice can_p can.length can_c), (11, .slice p_1 out.length c_1), (12, .int .i64 i_2), (13, .int .i64 n_2)] → Ctx G (.row p_1 c_1 (out.map encI_i64) 3 1 :: Lf) w → ref09_Payback_j28 N debt_0 out i_2 n_2 = some st17 → K28 a w := by
                  intro n_2 a w hf hc hF
                  unfold ref09_Payback_j28 at hF
                  refine h28 _ _ ?_
                  refine wp_seq_k fun K29 h29 => ?_
                  have hj29 : ∀ (n_3 : Int) a w, Has 84 a [(0, .int .i64 debt_0), (1, .int .i64 least), (2, .int .i64 part), (3, .slice can_p can.length can_c), (11, .slice p_1 out.length c_1), (12, .int .i64 i_2), (13, .int .i64 n_3)] → Ctx G (.row p_1 c_1 (out.map encI_i64) 3 1 :: Lf) w → ref09_Payback_j29 N debt_0 out i_2 n_3 = some st17 → K29 a w := by
                    intro n_3 a w hf hc hF
                    unfold ref09_Payback_j29 at hF
                    refine h29 _ _ ?_
                    refine wp_seq_k fun K30 h30 => ?_
                    refine cReg ?_
                    refine stP hf rfl rfl rfl (pM rfl) fun a hf => ?_
                    refine stP hf rfl rfl rfl (pM rfl) fun a hf => ?_
                    refine stBS (rows := ([n_3] : List Int).map encI_i64) (vs := [(0, .int .i64 n_3)]) hf hc rfl rfl sl_36 rfl ⟨rfl, rfl, rfl, trivial⟩ rfl rfl fun b_1 a w hf hc => ?_
                    obtain ⟨un_1, hun_1, hF⟩ := bnd_some hF
                    refine stApm (xs := out) (ys := ([n_3] : List Int)) hf hc rfl rfl sl_36 rfl rfl rfl rfl rfl one_encI_i64 (src_row hc m0) (fun _ _ => u1) (by simpa using room_spec hun_1) fun p_2 c_2 a w hf hc => ?_
                    refine stP hf rfl rfl rfl (pA rfl) fun a hf => ?_
                    refine cNil ?_
                    refine h30 _ _ ?_
                    refine cReg ?_
                    refine stP hf rfl rfl rfl (pM rfl) fun a hf => ?_
                    refine stP hf rfl rfl rfl (pM rfl) fun a hf => ?_
                    refine stP hf rfl rfl rfl (pSub rfl rfl) fun a hf => ?_
                    refine stP hf rfl rfl rfl (pA rfl) fun a hf => ?_
                    refine cNil ?_
                    refine h24 _ _ ?_
                    refine cReg ?_
                    refine stP hf rfl rfl rfl (pM rfl) fun a hf => ?_
                    refine stP hf rfl rfl rfl (pAdd rfl rfl) fun a hf => ?_
                    refine stP hf rfl rfl rfl (pA rfl) fun a hf => ?_
                    refine cNil ?_
                    replace hc := hc.drop k0
                    exact hK17 (W (debt_0 - n_3), (out ++ [n_3]), W (i_2 + 1)) _ _ (Option.some.inj hF).symm ⟨p_2, c_2, hf.keep ⟨rfl, rfl, rfl, rfl, rfl, rfl, trivial⟩, hc⟩
                  refine wp_seq_k fun K31 h31 => ?_
                  refine cReg ?_
                  refine stP hf rfl rfl rfl (pM rfl) fun a hf => ?_
                  refine stP hf rfl rfl rfl (pM rfl) fun a hf => ?_
                  refine stP hf rfl rfl rfl (pGt rfl rfl) fun a hf => ?_
                  refine cNil ?_
                  refine h31 _ _ ?_
                  refine cCond (b := (decide (debt_0 < n_2))) hf rfl (fun hb => ?_) (fun hb => ?_)
                  · replace hF := condT hb hF
                    clear hb
                    refine cReg ?_
                    refine stP hf rfl rfl rfl (pM rfl) fun a hf => ?_
                    refine stP hf rfl rfl rfl (pA rfl) fun a hf => ?_
                    refine cNil ?_
                    exact hj29 debt_0 _ _  (hf.keep ⟨rfl, rfl, rfl, rfl, rfl, rfl, rfl, trivial⟩) hc hF
                  · replace hF := condF hb hF
                    clear hb
                    refine wp_skip ?_
                    exact hj29 n_2 _ _  (hf.keep ⟨rfl, rfl, rfl, rfl, rfl, rfl, rfl, trivial⟩) hc hF
                refine wp_seq_k fun K32 h32 => ?_
                refine cReg ?_
                refine stP hf rfl rfl rfl (pM rfl) fun a hf => ?_
                refine stP hf rfl rfl rfl (pM rfl) fun a hf => ?_
                refine stP hf rfl rfl rfl (pM rfl) fun a hf => ?_
                obtain ⟨e_1, he_1, hF⟩ := bnd_some hF
                obtain ⟨b_2, o, qa, qp⟩ := h_can.atm he_1
                refine stP hf rfl rfl rfl (pIA Try.underlying36 sz_3 rfl rfl qa) fun a hf => ?_
                refine stE hf hc rfl rfl rfl (eLd1 sc_3 rfl (cell_pc (j := 0) qp rfl)) fun a w hf hc => ?_
                refine stP hf rfl rfl rfl (pGt rfl rfl) fun a hf => ?_
                refine cNil ?_
                refine h32 _ _ ?_
                refine cCond (b := (decide (e_1 < n_1))) hf rfl (fun hb => ?_) (fun hb => ?_)
                · replace hF := condT hb hF
                  clear hb
                  refine cReg ?_
                  refine stP hf rfl rfl rfl (pM rfl) fun a hf => ?_
                  refine stP hf rfl rfl rfl (pM rfl) fun a hf => ?_
                  obtain ⟨e_2, he_2, hF⟩ := bnd_some hF
                  obtain ⟨b_3, o_1, qa_1, qp_1⟩ := h_can.atm he_2
                  refine stP hf rfl rfl rfl (pIA Try.underlying36 sz_3 rfl rfl qa_1) fun a hf => ?_
                  refine stE hf hc rfl rfl rfl (eLd1 sc_3 rfl (cell_pc (j := 0) qp_1 rfl)) fun a w hf hc => ?_
                  refine stP hf rfl rfl rfl (pA rfl) fun a hf => ?_
                  refine cNil ?_
                  exact hj28 e_2 _ _  (hf.keep ⟨rfl, rfl, rfl, rfl, rfl, rfl, rfl, trivial⟩) hc hF
                · replace hF := condF hb hF
                  clear hb
                  refine wp_skip ?_
                  exact hj28 n_1 _ _  (hf.keep ⟨rfl, rfl, rfl, rfl, rfl, rfl, rfl, trivial⟩) hc hF
              refine wp_seq_k fun K33 h33 => ?_
              refine cReg ?_
              refine stP hf rfl rfl rfl (pM rfl) fun a hf => ?_
              refine stP hf rfl rfl rfl (pM rfl) fun a hf => ?_
              refine stP hf rfl rfl rfl (pLt rfl rfl) fun a hf => ?_
              refine cNil ?_
              refine h33 _ _ ?_
              refine cCond (b := (decide (n < least))) hf rfl (fun hb => ?_) (fun hb => ?_)
              · replace hF := condT hb hF
                clear hb
                refine cReg ?_
                refine stP hf rfl rfl rfl (pM rfl) fun a hf => ?_
                refine stP hf rfl rfl rfl (pA rfl) fun a hf => ?_
                refine cNil ?_
                exact hj27 least _ _  (hf.keep ⟨rfl, rfl, rfl, rfl, rfl, rfl, rfl, trivial⟩) hc hF
              · replace hF := condF hb hF
                clear hb
                refine wp_skip ?_
                exact hj27 n _ _  (hf.keep ⟨rfl, rfl, rfl, rfl, rfl, rfl, rfl, trivial⟩) hc hF
            refine wp_seq_k fun K34 h34 => ?_
            refine cReg ?_
            refine stP hf rfl rfl rfl (pM rfl) fun a hf => ?_
            refine stP hf rfl rfl rfl (pM rfl) fun a hf => ?_
            refine stP hf rfl rfl rfl (pMul rfl rfl) fun a hf => ?_
            refine stP hf rfl rfl rfl (pM rfl) fun a hf => ?_
            refine stP hf rfl rfl rfl (pLt rfl rfl) fun a hf => ?_
            refine cNil ?_
            refine h34 _ _ ?_
            refine cCond (b := (decide ((W ((W (debt_0.tdiv part)) * part)) < debt_0))) hf rfl (fun hb => ?_) (fun hb => ?_)
            · replace hF := condT hb hF
              clear hb
              refine cReg ?_
              refine stP hf rfl rfl rfl (pM rfl) fun a hf => ?_
              refine stP hf rfl rfl rfl (pAdd rfl rfl) fun a hf => ?_
              refine stP hf rfl rfl rfl (pA rfl) fun a hf => ?_
              refine cNil ?_
              exact hj26 (W ((W (debt_0.tdiv part)) + 1)) _ _  (hf.keep ⟨rfl, rfl, rfl, rfl, rfl, rfl, rfl, trivial⟩) hc hF
            · replace hF := condF hb hF
              clear hb
              refine wp_skip ?_
              exact hj26 (W (debt_0.tdiv part)) _ _  (hf.keep ⟨rfl, rfl, rfl, rfl, rfl, rfl, rfl, trivial⟩) hc hF
          · replace hF := condF hb hF
            clear hb
            refine wp_exit ?_
            refine xThen ?_
            refine xThen ?_
            have he := Option.some.inj hF
            rw [← he] at hfin17
            refine cHit ?_
            exact hr17 _ _ _ hfin17 ⟨p_1, c_1, hf.keep ⟨rfl, rfl, rfl, rfl, rfl, rfl, trivial⟩, hc⟩
        have ho13 : ∀ r, x13 = .out r → r = res := by
          rintro r rfl
          exact Option.some.inj hF
        refine cLoop N (loopW (S := S13) (x := x13) ?_ N 0 _ _ ⟨hf.keep ⟨rfl, rfl, rfl, rfl, rfl, trivial⟩, hc⟩ hx13)
        clear hF hf hc
        rintro i_1 st13 a w KB13 ⟨hf, hc⟩ hF hfin13 hK13
        unfold ref09_Payback_b13 at hF
        refine wp_seq_k fun K35 h35 => ?_
        refine wp_seq_k fun K36 h36 => ?_
        refine cReg ?_
        refine stP hf rfl rfl rfl (pM rfl) fun a hf => ?_
        refine stP hf rfl rfl rfl (pM rfl) fun a hf => ?_
        refine stP hf rfl rfl rfl (pLenS Try.underlying36 rfl) fun a hf => ?_
        refine stP hf rfl rfl rfl (pLt rfl rfl) fun a hf => ?_
        refine cNil ?_
        refine h36 _ _ ?_
        refine cCond (b := (decide (i_1 < ((can.length : Nat) : Int)))) hf rfl (fun hb => ?_) (fun hb => ?_)
        · replace hF := condT hb hF
          clear hb
          refine wp_skip ?_
          refine h35 _ _ ?_
          refine wp_seq_k fun K37 h37 => ?_
          refine wp_block ?_
          refine wp_seq_k fun K38 h38 => ?_
          refine cReg ?_
          refine stP hf rfl rfl rfl (pM rfl) fun a hf => ?_
          refine stP hf rfl rfl rfl (pM rfl) fun a hf => ?_
          obtain ⟨e_3, he_3, hF⟩ := bnd_some hF
          obtain ⟨b_4, o_2, qa_2, qp_2⟩ := h_can.atm he_3
          refine stP hf rfl rfl rfl (pIA Try.underlying36 sz_3 rfl rfl qa_2) fun a hf => ?_
          refine stE hf hc rfl rfl rfl (eLd1 sc_3 rfl (cell_pc (j := 0) qp_2 rfl)) fun a w hf hc => ?_
          refine stE hf hc rfl rfl rfl (eC (v := .bool (ref09_outside e_3 0 1000000000)) (vs := [.int .i64 e_3, .int .i64 0, .int .i64 1000000000]) (caps := []) en_74 rfl rfl rfl rfl (fun w hc => ref09_outside_ok e_3 0 1000000000 hc rfl)) fun a w hf hc => ?_
          refine cNil ?_
          refine h38 _ _ ?_
          refine cCond (b := (ref09_outside e_3 0 1000000000)) hf rfl (fun hb => ?_) (fun hb => ?_)
          · replace hF := condT hb hF
            clear hb
            refine wp_seq_k fun K39 h39 => ?_
            refine cReg ?_
            refine stP hf rfl rfl rfl (pA rfl) fun a hf => ?_
            refine stP hf rfl rfl rfl (pA rfl) fun a hf => ?_
            refine cNil ?_
            refine h39 _ _ ?_
            refine wp_ret ?_
            refine xBlkR ?_
            refine xThenR ?_
            refine xThenR ?_
            have he := Option.some.inj hF
            rw [← he] at hfin13
            replace hF := ho13 _ hfin13
            refine xBlkR ?_
            refine xThenR ?_
            obtain rfl := hF
            replace hc := hc.nilRow 3 1
            exact fnOut2 (by simp) rfl Try.results35 hf hc (show look _ 8 = _ from rfl) (show look _ 9 = _ from rfl) ⟨none, 0, rfl, hc⟩
          · replace hF := condF hb hF
            clear hb
            refine wp_skip ?_
            refine h37 _ _ ?_
            refine cReg ?_
            refine stP hf rfl rfl rfl (pM rfl) fun a hf => ?_
            refine stP hf rfl rfl rfl (pAdd rfl rfl) fun a hf => ?_
            refine stP hf rfl rfl rfl (pA rfl) fun a hf => ?_
            refine cNil ?_
            exact hK13 (W (i_1 + 1)) _ _ (Option.some.inj hF).symm ⟨hf.keep ⟨rfl, rfl, rfl, rfl, rfl, trivial⟩, hc⟩
        · replace hF := condF hb hF
          clear hb
          refine wp_exit ?_
          refine xThen ?_
          refine xThen ?_
          have he := Option.some.inj hF
          rw [← he] at hfin13
          refine cHit ?_
          exact hr13 _ _ _ hfin13 ⟨hf.keep ⟨rfl, rfl, rfl, rfl, rfl, trivial⟩, hc⟩

def ref09_claimed_b7 (N : Nat) (claims : List Int) (i_1 : Int) : Option (Step (Int) (Int)) :=
  cond (decide (i_1 < ((claims.length : Nat) : Int)))
  (Option.bind (getI claims i_1) fun e_1 =>
  cond (ref09_outside e_1 1 1000000)
  (some (.ret 4))
  (some (.cont (W (i_1 + 1)))))
  (some (.brk i_1))
def ref09_claimed (N : Nat) (claims : List Int) : Option (Int) :=
  cond ((decide (((claims.length : Nat) : Int) < 1)) || (decide (12 < ((claims.length : Nat) : Int))))
  (some 3)
  (Option.bind (loopO (fun s7 => ref09_claimed_b7 N claims s7) N 0) fun x7 =>
  exK x7 (fun s7 => some 0) some)
theorem ref09_claimed_ok {N : Nat} {G : Pers} {Lf : List Ent} {w : World} (claims : List Int) {claims_p : Option Addr} {claims_c : Nat} (h_claims : Rd G 1 claims_p claims_c (claims.map encI_i64)) (hc : Ctx G (Lf) w) {res : Int} (hF : ref09_claimed N claims = some res) : Calls Try.prog 85 #[.slice claims_p claims.length claims_c] w (fun e w => e = .returned (.int .i64 res) ∧ Ctx G (Lf) w) := by
  unfold ref09_claimed at hF
  refine fnIn (args := [.slice claims_p claims.length claims_c]) Try.func85 rfl Try.ntmps85 rfl fun a hf => ?_
  refine wp_seq_k fun K1 h1 => ?_
  refine cReg ?_
  refine stP hf rfl rfl rfl (pA rfl) fun a hf => ?_
  refine cNil ?_
  refine h1 _ _ ?_
  refine wp_seq_k fun K2 h2 => ?_
  refine wp_seq_k fun K3 h3 => ?_
  refine cReg ?_
  refine stP hf rfl rfl rfl (pM rfl) fun a hf => ?_
  refine stP hf rfl rfl rfl (pLenS Try.underlying36 rfl) fun a hf => ?_
  refine stP hf rfl rfl rfl (pLt rfl rfl) fun a hf => ?_
  refine stP hf rfl rfl rfl (pM rfl) fun a hf => ?_
  refine stCut 4 (fun a w => Has 23 a [(0, .slice claims_p claims.length claims_c), (4, .slice claims_p claims.length claims_c), (5, .int .i64 ((claims.length : Nat) : Int)), (6, .bool (decide (((claims.length : Nat) : Int) < 1))), (7, .bool (decide (((claims.length : Nat) : Int) < 1))), (11, .bool ((decide (((claims.length : Nat) : Int) < 1)) || (decide (12 < ((claims.length : Nat) : Int)))))] ∧ Ctx G (Lf) w) ?_ ?_
  · cases hb : (decide (((claims.length : Nat) : Int) < 1))
    · rw [hb] at hf
      refine stP hf rfl rfl rfl (pM rfl) fun a hf => ?_
      refine stP hf rfl rfl rfl (pLenS Try.underlying36 rfl) fun a hf => ?_
      refine stP hf rfl rfl rfl (pGt rfl rfl) fun a hf => ?_
      refine stP hf rfl rfl rfl (pPf rfl rfl) fun a hf => ?_
      exact cNil ⟨hf.keep ⟨rfl, rfl, rfl, rfl, rfl, rfl, trivial⟩, hc⟩
    · rw [hb] at hf
      refine stS hf rfl rfl rfl fun a hf => ?_
      refine stS hf rfl rfl rfl fun a hf => ?_
      refine stS hf rfl rfl rfl fun a hf => ?_
      refine stP hf rfl rfl rfl (pPt rfl rfl) fun a hf => ?_
      exact cNil ⟨hf.keep ⟨rfl, rfl, rfl, rfl, rfl, rfl, trivial⟩, hc⟩
  intro a w ⟨hf, hc⟩
  refine cNil ?_
  refine h3 _ _ ?_
  refine cCond (b := ((decide (((claims.length : Nat) : Int) < 1)) || (decide (12 < ((claims.length : Nat) : Int))))) hf rfl (fun hb => ?_) (fun hb => ?_)
  · replace hF := condT hb hF
    clear hb
    refine wp_seq_k fun K4 h4 => ?_
    refine cReg ?_
    refine stP hf rfl rfl rfl (pA rfl) fun a hf => ?_
    refine cNil ?_
    refine h4 _ _ ?_
    refine wp_ret ?_
    refine xThenR ?_
    obtain rfl := Option.some.inj hF
    exact fnOut1 (by simp) rfl Try.results85 hf hc (show look _ 2 = _ from rfl) ⟨rfl, hc⟩
  · replace hF := condF hb hF
    clear hb
    refine wp_skip ?_
    refine h2 _ _ ?_
    refine wp_seq_k fun K5 h5 => ?_
    refine wp_seq_k fun K6 h6 => ?_
    refine cReg ?_
    refine stP hf rfl rfl rfl (pA rfl) fun a hf => ?_
    refine cNil ?_
    refine h6 _ _ ?_
    refine wp_block ?_
    obtain ⟨x7, hx7, hF⟩ := bnd_some hF
    let S7 : Int → Act → World → Prop := (fun (zz : Int) a w => Has 23 a [(0, .slice claims_p claims.length claims_c), (3, .int .i64 zz)] ∧ Ctx G (Lf) w)
    have hr7 : ∀ (zz : Int) a w, x7 = .go zz → S7 zz a w → K5 a w := by
      rintro i_1 a w rfl ⟨hf, hc⟩
      replace hF : _ = some res := hF
      refine h5 _ _ ?_
      refine wp_seq_k fun K8 h8 => ?_
      refine cReg ?_
      refine stP hf rfl rfl rfl (pA rfl) fun a hf => ?_
      refine cNil ?_
      refine h8 _ _ ?_
      refine wp_ret ?_
      obtain rfl := Option.some.inj hF
      exact fnOut1 (by simp) rfl Try.results85 hf hc (show look _ 2 = _ from rfl) ⟨rfl, hc⟩
    have ho7 : ∀ r, x7 = .out r → r = res := by
      rintro r rfl
      exact Option.some.inj hF
    refine cLoop N (loopW (S := S7) (x := x7) ?_ N 0 _ _ ⟨hf.keep ⟨rfl, rfl, trivial⟩, hc⟩ hx7)
    clear hF hf hc
    rintro i_1 st7 a w KB7 ⟨hf, hc⟩ hF hfin7 hK7
    unfold ref09_claimed_b7 at hF
    refine wp_seq_k fun K9 h9 => ?_
    refine wp_seq_k fun K10 h10 => ?_
    refine cReg ?_
    refine stP hf rfl rfl rfl (pM rfl) fun a hf => ?_
    refine stP hf rfl rfl rfl (pM rfl) fun a hf => ?_
    refine stP hf rfl rfl rfl (pLenS Try.underlying36 rfl) fun a hf => ?_
    refine stP hf rfl rfl rfl (pLt rfl rfl) fun a hf => ?_
    refine cNil ?_
    refine h10 _ _ ?_
    refine cCond (b := (decide (i_1 < ((claims.length : Nat) : Int)))) hf rfl (fun hb => ?_) (fun hb => ?_)
    · replace hF := condT hb hF
      clear hb
      refine wp_skip ?_
      refine h9 _ _ ?_
      refine wp_seq_k fun K11 h11 => ?_
      refine wp_block ?_
      refine wp_seq_k fun K12 h12 => ?_
      refine cReg ?_
      refine stP hf rfl rfl rfl (pM rfl) fun a hf => ?_
      refine stP hf rfl rfl rfl (pM rfl) fun a hf => ?_
      obtain ⟨e_1, he_1, hF⟩ := bnd_some hF
      obtain ⟨b_1, o, qa, qp⟩ := h_claims.atm he_1
      refine stP hf rfl rfl rfl (pIA Try.underlying36 sz_3 rfl rfl qa) fun a hf => ?_
      refine stE hf hc rfl rfl rfl (eLd1 sc_3 rfl (cell_pc (j := 0) qp rfl)) fun a w hf hc => ?_
      refine stE hf hc rfl rfl rfl (eC (v := .bool (ref09_outside e_1 1 1000000)) (vs := [.int .i64 e_1, .int .i64 1, .int .i64 1000000]) (caps := []) en_74 rfl rfl rfl rfl (fun w hc => ref09_outside_ok e_1 1 1000000 hc rfl)) fun a w hf hc => ?_
      refine cNil ?_
      refine h12 _ _ ?_
      refine cCond (b := (ref09_outside e_1 1 1000000)) hf rfl (fun hb => ?_) (fun hb => ?_)
      · replace hF := condT hb hF
        clear hb
        refine wp_seq_k fun K13 h13 => ?_
        refine cReg ?_
        refine stP hf rfl rfl rfl (pA rfl) fun a hf => ?_
        refine cNil ?_
        refine h13 _ _ ?_
        refine wp_ret ?_
        refine xBlkR ?_
        refine xThenR ?_
        refine xThenR ?_
        have he := Option.some.inj hF
        rw [← he] at hfin7
        replace hF := ho7 _ hfin7
        refine xBlkR ?_
        refine xThenR ?_
        obtain rfl := hF
        exact fnOut1 (by simp) rfl Try.results85 hf hc (show look _ 2 = _ from rfl) ⟨rfl, hc⟩
      · replace hF := condF hb hF
        clear hb
        refine wp_skip ?_
        refine h11 _ _ ?_
        refine cReg ?_
        refine stP hf rfl rfl rfl (pM rfl) fun a hf => ?_
        refine stP hf rfl rfl rfl (pAdd rfl rfl) fun a hf => ?_
        refine stP hf rfl rfl rfl (pA rfl) fun a hf => ?_
        refine cNil ?_
        exact hK7 (W (i_1 + 1)) _ _ (Option.some.inj hF).symm ⟨hf.keep ⟨rfl, rfl, trivial⟩, hc⟩
    · replace hF := condF hb hF
      clear hb
      refine wp_exit ?_
      refine xThen ?_
      refine xThen ?_
      have he := Option.some.inj hF
      rw [← he] at hfin7
      refine cHit ?_
      exact hr7 _ _ _ hfin7 ⟨hf.keep ⟨rfl, rfl, trivial⟩, hc⟩

def ref09_ask (rule : Int) (n : Int) : Int :=
  cond (rule == 0)
  (W (2 * n))
  (cond (rule == 1)
  (W ((W (2 * n)) - 1))
  (W ((W (2 * n)) - 2)))
theorem ref09_ask_ok {G : Pers} {Lf : List Ent} {w : World} (rule : Int) (n : Int)   (hc : Ctx G (Lf) w) {res : Int} (hF : ref09_ask rule n = res) : Calls Try.prog 87 #[.int .i64 rule, .int .i64 n] w (fun e w => e = .returned (.int .i64 res) ∧ Ctx G (Lf) w) := by
  unfold ref09_ask at hF
  refine fnIn (args := [.int .i64 rule, .int .i64 n]) Try.func87 rfl Try.ntmps87 rfl fun a hf => ?_
  refine wp_seq_k fun K1 h1 => ?_
  refine cReg ?_
  refine stP hf rfl rfl rfl (pA rfl) fun a hf => ?_
  refine cNil ?_
  refine h1 _ _ ?_
  refine wp_seq_k fun K2 h2 => ?_
  refine wp_seq_k fun K3 h3 => ?_
  refine cReg ?_
  refine stP hf rfl rfl rfl (pM rfl) fun a hf => ?_
  refine stP hf rfl rfl rfl (pEq rfl rfl) fun a hf => ?_
  refine cNil ?_
  refine h3 _ _ ?_
  refine cCond (b := (rule == 0)) hf rfl (fun hb => ?_) (fun hb => ?_)
  · replace hF := condT hb hF
    clear hb
    refine wp_seq_k fun K4 h4 => ?_
    refine cReg ?_
    refine stP hf rfl rfl rfl (pM rfl) fun a hf => ?_
    refine stP hf rfl rfl rfl (pMul rfl rfl) fun a hf => ?_
    refine stP hf rfl rfl rfl (pA rfl) fun a hf => ?_
    refine cNil ?_
    refine h4 _ _ ?_
    refine wp_ret ?_
    refine xThenR ?_
    obtain rfl := hF
    exact fnOut1 (by simp) rfl Try.results87 hf hc (show look _ 4 = _ from rfl) ⟨rfl, hc⟩
  · replace hF := condF hb hF
    clear hb
    refine wp_skip ?_
    refine h2 _ _ ?_
    refine wp_seq_k fun K5 h5 => ?_
    refine wp_seq_k fun K6 h6 => ?_
    refine cReg ?_
    refine stP hf rfl rfl rfl (pM rfl) fun a hf => ?_
    refine stP hf rfl rfl rfl (pEq rfl rfl) fun a hf => ?_
    refine cNil ?_
    refine h6 _ _ ?_
    refine cCond (b := (rule == 1)) hf rfl (fun hb => ?_) (fun hb => ?_)
    · replace hF := condT hb hF
      clear hb
      refine wp_seq_k fun K7 h7 => ?_
      refine cReg ?_
      refine stP hf rfl rfl rfl (pM rfl) fun a hf => ?_
      refine stP hf rfl rfl rfl (pMul rfl rfl) fun a hf => ?_
      refine stP hf rfl rfl rfl (pSub rfl rfl) fun a hf => ?_
      refine stP hf rfl rfl rfl (pA rfl) fun a hf => ?_
      refine cNil ?_
      refine h7 _ _ ?_
      refine wp_ret ?_
      refine xThenR ?_
      obtain rfl := hF
      exact fnOut1 (by simp) rfl Try.results87 hf hc (show look _ 4 = _ from rfl) ⟨rfl, hc⟩
    · replace hF := condF hb hF
      clear hb
      refine wp_skip ?_
      refine h5 _ _ ?_
      refine wp_seq_k fun K8 h8 => ?_
      refine cReg ?_
      refine stP hf rfl rfl rfl (pM rfl) fun a hf => ?_
      refine stP hf rfl rfl rfl (pMul rfl rfl) fun a hf => ?_
      refine stP hf rfl rfl rfl (pSub rfl rfl) fun a hf => ?_
      refine stP hf rfl rfl rfl (pA rfl) fun a hf => ?_
      refine cNil ?_
      refine h8 _ _ ?_
      refine wp_ret ?_
      obtain rfl := hF
      exact fnOut1 (by simp) rfl Try.results87 hf hc (show look _ 4 = _ from rfl) ⟨rfl, hc⟩

def ref09_above (a_ : Int) (x : Int) (b_ : Int) (y : Int) : Bool :=
  cond ((x == 0) || (y == 0))
  (((x == 0) && (y != 0)))
  ((decide ((W (b_ * x)) < (W (a_ * y)))))
theorem ref09_above_ok {G : Pers} {Lf : List Ent} {w : World} (a_ : Int) (x : Int) (b_ : Int) (y : Int)   (hc : Ctx G (Lf) w) {res : Bool} (hF : ref09_above a_ x b_ y = res) : Calls Try.prog 86 #[.int .i64 a_, .int .i64 x, .int .i64 b_, .int .i64 y] w (fun e w => e = .returned (.bool res) ∧ Ctx G (Lf) w) := by
  unfold ref09_above at hF
  refine fnIn (args := [.int .i64 a_, .int .i64 x, .int .i64 b_, .int .i64 y]) Try.func86 rfl Try.ntmps86 rfl fun a hf => ?_
  refine wp_seq_k fun K1 h1 => ?_
  refine cReg ?_
  refine stP hf rfl rfl rfl (pA rfl) fun a hf => ?_
  refine cNil ?_
  refine h1 _ _ ?_
  refine wp_seq_k fun K2 h2 => ?_
  refine wp_seq_k fun K3 h3 => ?_
  refine cReg ?_
  refine stP hf rfl rfl rfl (pM rfl) fun a hf => ?_
  refine stP hf rfl rfl rfl (pEq rfl rfl) fun a hf => ?_
  refine stP hf rfl rfl rfl (pM rfl) fun a hf => ?_
  refine stCut 3 (fun a w => Has 28 a [(0, .int .i64 a_), (1, .int .i64 x), (2, .int .i64 b_), (3, .int .i64 y), (9, .int .i64 x), (10, .bool (x == 0)), (11, .bool (x == 0)), (14, .bool ((x == 0) || (y == 0)))] ∧ Ctx G (Lf) w) ?_ ?_
  · cases hb : (x == 0)
    · rw [hb] at hf
      refine stP hf rfl rfl rfl (pM rfl) fun a hf => ?_
      refine stP hf rfl rfl rfl (pEq rfl rfl) fun a hf => ?_
      refine stP hf rfl rfl rfl (pPf rfl rfl) fun a hf => ?_
      exact cNil ⟨hf.keep ⟨rfl, rfl, rfl, rfl, rfl, rfl, rfl, rfl, trivial⟩, hc⟩
    · rw [hb] at hf
      refine stS hf rfl rfl rfl fun a hf => ?_
      refine stS hf rfl rfl rfl fun a hf => ?_
      refine stP hf rfl rfl rfl (pPt rfl rfl) fun a hf => ?_
      exact cNil ⟨hf.keep ⟨rfl, rfl, rfl, rfl, rfl, rfl, rfl, rfl, trivial⟩, hc⟩
  intro a w ⟨hf, hc⟩
  refine cNil ?_
  refine h3 _ _ ?_
  refine cCond (b := ((x == 0) || (y == 0))) hf rfl (fun hb => ?_) (fun hb => ?_)
  · replace hF := condT hb hF
    clear hb
    refine wp_seq_k fun K4 h4 => ?_
    refine cReg ?_
    refine stP hf rfl rfl rfl (pM rfl) fun a hf => ?_
    refine stP hf rfl rfl rfl (pEq rfl rfl) fun a hf => ?_
    refine stP hf rfl rfl rfl (pM rfl) fun a hf => ?_
    refine stCut 3 (fun a w => Has 28 a [(1, .int .i64 x), (3, .int .i64 y), (15, .int .i64 x), (16, .bool (x == 0)), (17, .bool (x == 0)), (20, .bool ((x == 0) && (y != 0)))] ∧ Ctx G (Lf) w) ?_ ?_
    · cases hb : (x == 0)
      · rw [hb] at hf
        refine stS hf rfl rfl rfl fun a hf => ?_
        refine stS hf rfl rfl rfl fun a hf => ?_
        refine stP hf rfl rfl rfl (pPf rfl rfl) fun a hf => ?_
        exact cNil ⟨hf.keep ⟨rfl, rfl, rfl, rfl, rfl, rfl, trivial⟩, hc⟩
      · rw [hb] at hf
        refine stP hf rfl rfl rfl (pM rfl) fun a hf => ?_
        refine stP hf rfl rfl rfl (pNe rfl rfl) fun a hf => ?_
        refine stP hf rfl rfl rfl (pPt rfl rfl) fun a hf => ?_
        exact cNil ⟨hf.keep ⟨rfl, rfl, rfl, rfl, rfl, rfl, trivial⟩, hc⟩
    intro a w ⟨hf, hc⟩
    refine stP hf rfl rfl rfl (pA rfl) fun a hf => ?_
    refine cNil ?_
    refine h4 _ _ ?_
    refine wp_ret ?_
    refine xThenR ?_
    obtain rfl := hF
    exact fnOut1 (by simp) rfl Try.results86 hf hc (show look _ 8 = _ from rfl) ⟨rfl, hc⟩
  · replace hF := condF hb hF
    clear hb
    refine wp_skip ?_
    refine h2 _ _ ?_
    refine wp_seq_k fun K5 h5 => ?_
    refine cReg ?_
    refine stP hf rfl rfl rfl (pM rfl) fun a hf => ?_
    refine stP hf rfl rfl rfl (pM rfl) fun a hf => ?_
    refine stP hf rfl rfl rfl (pMul rfl rfl) fun a hf => ?_
    refine stP hf rfl rfl rfl (pM rfl) fun a hf => ?_
    refine stP hf rfl rfl rfl (pM rfl) fun a hf => ?_
    refine stP hf rfl rfl rfl (pMul rfl rfl) fun a hf => ?_
    refine stP hf rfl rfl rfl (pGt rfl rfl) fun a hf => ?_
    refine stP hf rfl rfl rfl (pA rfl) fun a hf => ?_
    refine cNil ?_
    refine h5 _ _ ?_
    refine wp_ret ?_
    obtain rfl := hF
    exact fnOut1 (by simp) rfl Try.results86 hf hc (show look _ 8 = _ from rfl) ⟨rfl, hc⟩

def ref09_Turns_j28 (N : Nat) (n : Int) (out_2 : List Int) : Option (Step ((List Int) × Int) (Step ((List Int) × Int) ((List Int) × Int))) :=
  some (.cont (out_2, W (n + 1)))
def ref09_Turns_j42 (N : Nat) (m : Int) (ahead_2 : Int) : Option (Step (Int × Int) (Step (Int × Int) (Step ((List Int) × Int) (Step ((List Int) × Int) ((List Int) × Int))))) :=
  some (.cont (ahead_2, W (m + 1)))
def ref09_Turns_b39 (N : Nat) (claims : List Int) (days : Int) (rule : Int) (s_1 : Int) (n : Int) (t_1 : Int) (ahead_1 : Int) (m : Int) : Option (Step (Int × Int) (Step (Int × Int) (Step ((List Int) × Int) (Step ((List Int) × Int) ((List Int) × Int))))) :=
  cond (decide (m ≤ days))
  (Option.bind (getI claims t_1) fun e_3 =>
  Option.bind (getI claims s_1) fun e_4 =>
  Option.bind (getI claims s_1) fun e_5 =>
  Option.bind (getI claims t_1) fun e_6 =>
  cond ((ref09_above e_3 (ref09_ask rule m) e_4 (ref09_ask rule n)) || ((!(ref09_above e_5 (ref09_ask rule n) e_6 (ref09_ask rule m))) && (decide (t_1 < s_1))))
  (ref09_Turns_j42 N m (W (ahead_1 + 1)))
  (ref09_Turns_j42 N m ahead_1))
  (some (.brk (ahead_1, m)))
def ref09_Turns_b32 (N : Nat) (claims : List Int) (days : Int) (rule : Int) (s_1 : Int) (n : Int) (ahead : Int) (t_1 : Int) : Option (Step (Int × Int) (Step ((List Int) × Int) (Step ((List Int) × Int) ((List Int) × Int)))) :=
  cond (decide (t_1 < ((claims.length : Nat) : Int)))
  (Option.bind (loopO (fun s39 => ref09_Turns_b39 N claims days rule s_1 n t_1 s39.1 s39.2) N (ahead, 1)) fun x39 =>
  exK x39 (fun s39 => some (.cont (s39.1, W (t_1 + 1)))) some)
  (some (.brk (ahead, t_1)))
def ref09_Turns_b25 (N : Nat) (claims : List Int) (days : Int) (rule : Int) (s_1 : Int) (out_1 : List Int) (n : Int) : Option (Step ((List Int) × Int) (Step ((List Int) × Int) ((List Int) × Int))) :=
  cond (decide (n ≤ days))
  (Option.bind (loopO (fun s32 => ref09_Turns_b32 N claims days rule s_1 n s32.1 s32.2) N (0, 0)) fun x32 =>
  exK x32 (fun s32 => cond (decide (s32.1 < days))
  (Option.bind (getI out_1 s_1) fun e_1 =>
  Option.bind (getI out_1 s_1) fun e_2 =>
  ref09_Turns_j28 N n (out_1.set s_1.toNat (W (e_1 + 1))))
  (ref09_Turns_j28 N n out_1)) some)
  (some (.brk (out_1, n)))
def ref09_Turns_b18 (N : Nat) (claims : List Int) (days : Int) (rule : Int) (out : List Int) (s_1 : Int) : Option (Step ((List Int) × Int) ((List Int) × Int)) :=
  cond (decide (s_1 < ((claims.length : Nat) : Int)))
  (Option.bind (loopO (fun s25 => ref09_Turns_b25 N claims days rule s_1 s25.1 s25.2) N (out, 1)) fun x25 =>
  exK x25 (fun s25 => some (.cont (s25.1, W (s_1 + 1)))) some)
  (some (.brk (out, s_1)))
def ref09_Turns (N : Nat) (claims : List Int) (days : Int) (rule : Int) : Option ((List Int) × Int) :=
  Option.bind (ref09_claimed N claims) fun r =>
  cond (r != 0)
  (some (([] : List Int), r))
  (cond (ref09_outside days 1 366)
  (some (([] : List Int), 4))
  (cond (ref09_outside rule 0 2)
  (some (([] : List Int), 2))
  (cond ((rule == 2) && (decide (days < ((claims.length : Nat) : Int))))
  (some (([] : List Int), 6))
  (Option.bind (inM ((claims.length : Nat) : Int)) fun un =>
  Option.bind (loopO (fun s18 => ref09_Turns_b18 N claims days rule s18.1 s18.2) N ((List.replicate ((claims.length : Nat) : Int).toNat (0 : Int)), 0)) fun x18 =>
  exK x18 (fun s18 => some (s18.1, 0)) some))))
theorem ref09_Turns_ok {N : Nat} {G : Pers} {Lf : List Ent} {w : World} (claims : List Int) (days : Int) (rule : Int) {claims_p : Option Addr} {claims_c : Nat} (h_claims : Rd G 1 claims_p claims_c (claims.map encI_i64)) (hc : Ctx G (Lf) w) {res : (List Int) × Int} (hF : ref09_Turns N claims days rule = some res) : Calls Try.prog 36 #[.slice claims_p claims.length claims_c, .int .i64 days, .int .i64 rule] w (fun e w => ∃ (p'1 : Option Addr) (c'1 : Nat), e = .returned (.tuple #[.slice p'1 res.1.length c'1, .int .i64 res.2]) ∧ Ctx G (.row p'1 c'1 (res.1.map encI_i64) 3 1 :: Lf) w) := by
  unfold ref09_Turns at hF
  refine fnIn (args := [.slice claims_p claims.length claims_c, .int .i64 days, .int .i64 rule]) Try.func36 rfl Try.ntmps36 rfl fun a hf => ?_
  refine wp_seq_k fun K1 h1 => ?_
  refine cReg ?_
  refine stP hf rfl rfl rfl (pA rfl) fun a hf => ?_
  refine stP hf rfl rfl rfl (pA rfl) fun a hf => ?_
  refine cNil ?_
  refine h1 _ _ ?_
  refine wp_seq_k fun K2 h2 => ?_
  refine wp_seq_k fun K3 h3 => ?_
  refine cReg ?_
  refine stP hf rfl rfl rfl (pM rfl) fun a hf => ?_
  obtain ⟨r, hr, hF⟩ := bnd_some hF
  refine stE hf hc rfl rfl rfl (eC (v := .int .i64 r) (vs := [.slice claims_p claims.length claims_c]) (caps := []) en_85 rfl rfl rfl rfl (fun w hc => ref09_claimed_ok claims h_claims hc hr)) fun a w hf hc => ?_
  refine stP hf rfl rfl rfl (pA rfl) fun a hf => ?_
  refine cNil ?_
  refine h3 _ _ ?_
  refine wp_seq_k fun K4 h4 => ?_
  refine cReg ?_
  refine stP hf rfl rfl rfl (pM rfl) fun a hf => ?_
  refine stP hf rfl rfl rfl (pNe rfl rfl) fun a hf => ?_
  refine cNil ?_
  refine h4 _ _ ?_
  refine cCond (b := (r != 0)) hf rfl (fun hb => ?_) (fun hb => ?_)
  · replace hF := condT hb hF
    clear hb
    refine wp_seq_k fun K5 h5 => ?_
    refine cReg ?_
    refine stP hf rfl rfl rfl (pM rfl) fun a hf => ?_
    refine stP hf rfl rfl rfl (pA rfl) fun a hf => ?_
    refine stP hf rfl rfl rfl (pA rfl) fun a hf => ?_
    refine cNil ?_
    refine h5 _ _ ?_
    refine wp_ret ?_
    refine xThenR ?_
    obtain rfl := Option.some.inj hF
    replace hc := hc.nilRow 3 1
    exact fnOut2 (by simp) rfl Try.results36 hf hc (show look _ 6 = _ from rfl) (show look _ 7 = _ from rfl) ⟨none, 0, rfl, hc⟩
  · replace hF := condF hb hF
    clear hb
    refine wp_skip ?_
    refine h2 _ _ ?_
    refine wp_seq_k fun K6 h6 => ?_
    refine wp_seq_k fun K7 h7 => ?_
    refine cReg ?_
    refine stP hf rfl rfl rfl (pM rfl) fun a hf => ?_
    refine stE hf hc rfl rfl rfl (eC (v := .bool (ref09_outside days 1 366)) (vs := [.int .i64 days, .int .i64 1, .int .i64 366]) (caps := []) en_74 rfl rfl rfl rfl (fun w hc => ref09_outside_ok days 1 366 hc rfl)) fun a w hf hc => ?_
    refine cNil ?_
    refine h7 _ _ ?_
    refine cCond (b := (ref09_outside days 1 366)) hf rfl (fun hb => ?_) (fun hb => ?_)
    · replace hF := condT hb hF
      clear hb
      refine wp_seq_k fun K8 h8 => ?_
      refine cReg ?_
      refine stP hf rfl rfl rfl (pA rfl) fun a hf => ?_
      refine stP hf rfl rfl rfl (pA rfl) fun a hf => ?_
      refine cNil ?_
      refine h8 _ _ ?_
      refine wp_ret ?_
      refine xThenR ?_
      obtain rfl := Option.some.inj hF
      replace hc := hc.nilRow 3 1
      exact fnOut2 (by simp) rfl Try.results36 hf hc (show look _ 6 = _ from rfl) (show look _ 7 = _ from rfl) ⟨none, 0, rfl, hc⟩
    · replace hF := condF hb hF
      clear hb
      refine wp_skip ?_
      refine h6 _ _ ?_
      refine wp_seq_k fun K9 h9 => ?_
      refine wp_seq_k fun K10 h10 => ?_
      refine cReg ?_
      refine stP hf rfl rfl rfl (pM rfl) fun a hf => ?_
      refine stE hf hc rfl rfl rfl (eC (v := .bool (ref09_outside rule 0 2)) (vs := [.int .i64 rule, .int .i64 0, .int .i64 2]) (caps := []) en_74 rfl rfl rfl rfl (fun w hc => ref09_outside_ok rule 0 2 hc rfl)) fun a w hf hc => ?_
      refine cNil ?_
      refine h10 _ _ ?_
      refine cCond (b := (ref09_outside rule 0 2)) hf rfl (fun hb => ?_) (fun hb => ?_)
      · replace hF := condT hb hF
        clear hb
        refine wp_seq_k fun K11 h11 => ?_
        refine cReg ?_
        refine stP hf rfl rfl rfl (pA rfl) fun a hf => ?_
        refine stP hf rfl rfl rfl (pA rfl) fun a hf => ?_
        refine cNil ?_
        refine h11 _ _ ?_
        refine wp_ret ?_
        refine xThenR ?_
        obtain rfl := Option.some.inj hF
        replace hc := hc.nilRow 3 1
        exact fnOut2 (by simp) rfl Try.results36 hf hc (show look _ 6 = _ from rfl) (show look _ 7 = _ from rfl) ⟨none, 0, rfl, hc⟩
      · replace hF := condF hb hF
        clear hb
        refine wp_skip ?_
        refine h9 _ _ ?_
        refine wp_seq_k fun K12 h12 => ?_
        refine wp_seq_k fun K13 h13 => ?_
        refine cReg ?_
        refine stP hf rfl rfl rfl (pM rfl) fun a hf => ?_
        refine stP hf rfl rfl rfl (pEq rfl rfl) fun a hf => ?_
        refine stP hf rfl rfl rfl (pM rfl) fun a hf => ?_
        refine stCut 5 (fun a w => Has 113 a [(0, .slice claims_p claims.length claims_c), (1, .int .i64 days), (2, .int .i64 rule), (26, .int .i64 rule), (27, .bool (rule == 2)), (28, .bool (rule == 2)), (33, .bool ((rule == 2) && (decide (days < ((claims.length : Nat) : Int)))))] ∧ Ctx G (Lf) w) ?_ ?_
        · cases hb : (rule == 2)
          · rw [hb] at hf
            refine stS hf rfl rfl rfl fun a hf => ?_
            refine stS hf rfl rfl rfl fun a hf => ?_
            refine stS hf rfl rfl rfl fun a hf => ?_
            refine stS hf rfl rfl rfl fun a hf => ?_
            refine stP hf rfl rfl rfl (pPf rfl rfl) fun a hf => ?_
            exact cNil ⟨hf.keep ⟨rfl, rfl, rfl, rfl, rfl, rfl, rfl, trivial⟩, hc⟩
          · rw [hb] at hf
            refine stP hf rfl rfl rfl (pM rfl) fun a hf => ?_
            refine stP hf rfl rfl rfl (pM rfl) fun a hf => ?_
            refine stP hf rfl rfl rfl (pLenS Try.underlying36 rfl) fun a hf => ?_
            refine stP hf rfl rfl rfl (pLt rfl rfl) fun a hf => ?_
            refine stP hf rfl rfl rfl (pPt rfl rfl) fun a hf => ?_
            exact cNil ⟨hf.keep ⟨rfl, rfl, rfl, rfl, rfl, rfl, rfl, trivial⟩, hc⟩
        intro a w ⟨hf, hc⟩
        refine cNil ?_
        refine h13 _ _ ?_
        refine cCond (b := ((rule == 2) && (decide (days < ((claims.length : Nat) : Int))))) hf rfl (fun hb => ?_) (fun hb => ?_)
        · replace hF := condT hb hF
          clear hb
          refine wp_seq_k fun K14 h14 => ?_
          refine cReg ?_
          refine stP hf rfl rfl rfl (pA rfl) fun a hf => ?_
          refine stP hf rfl rfl rfl (pA rfl) fun a hf => ?_
          refine cNil ?_
          refine h14 _ _ ?_
          refine wp_ret ?_
          refine xThenR ?_
          obtain rfl := Option.some.inj hF
          replace hc := hc.nilRow 3 1
          exact fnOut2 (by simp) rfl Try.results36 hf hc (show look _ 6 = _ from rfl) (show look _ 7 = _ from rfl) ⟨none, 0, rfl, hc⟩
        · replace hF := condF hb hF
          clear hb
          refine wp_skip ?_
          refine h12 _ _ ?_
          refine wp_seq_k fun K15 h15 => ?_
          refine cReg ?_
          refine stP hf rfl rfl rfl (pM rfl) fun a hf => ?_
          refine stP hf rfl rfl rfl (pLenS Try.underlying36 rfl) fun a hf => ?_
          obtain ⟨un, hun, hF⟩ := bnd_some hF
          refine stMk (m := (List.replicate ((claims.length : Nat) : Int).toNat (0 : Int)).length) (rows := (List.replicate ((claims.length : Nat) : Int).toNat (0 : Int)).map encI_i64) hf hc rfl rfl sl_36 rfl rfl (inM_spec hun) rfl rfl (by simp [List.map_replicate, Value.cells]) (by simp) fun b_1 a w hf hc => ?_
          refine stP hf rfl rfl rfl (pA rfl) fun a hf => ?_
          refine cNil ?_
          refine h15 _ _ ?_
          refine wp_seq_k fun K16 h16 => ?_
          refine wp_seq_k fun K17 h17 => ?_
          refine cReg ?_
          refine stP hf rfl rfl rfl (pA rfl) fun a hf => ?_
          refine cNil ?_
          refine h17 _ _ ?_
          refine wp_block ?_
          obtain ⟨x18, hx18, hF⟩ := bnd_some hF
          let S18 : ((List Int) × Int) → Act → World → Prop := (fun (zz : (List Int) × Int) a w => ∃ (p_1 : Option Addr) (c_1 : Nat), Has 113 a [(0, .slice claims_p claims.length claims_c), (1, .int .i64 days), (2, .int .i64 rule), (9, .slice p_1 zz.1.length c_1), (10, .int .i64 zz.2)] ∧ Ctx G (.row p_1 c_1 (zz.1.map encI_i64) 3 1 :: Lf) w)
          have hr18 : ∀ (zz : (List Int) × Int) a w, x18 = .go zz → S18 zz a w → K16 a w := by
            rintro ⟨out, s_1⟩ a w rfl ⟨p_1, c_1, hf, hc⟩
            replace hF : _ = some res := hF
            refine h16 _ _ ?_
            refine wp_seq_k fun K19 h19 => ?_
            refine cReg ?_
            refine stP hf rfl rfl rfl (pM rfl) fun a hf => ?_
            refine stP hf rfl rfl rfl (pA rfl) fun a hf => ?_
            refine stP hf rfl rfl rfl (pA rfl) fun a hf => ?_
            refine cNil ?_
            refine h19 _ _ ?_
            refine wp_ret ?_
            obtain rfl := Option.some.inj hF
            exact fnOut2 (by simp) rfl Try.results36 hf hc (show look _ 6 = _ from rfl) (show look _ 7 = _ from rfl) ⟨p_1, c_1, rfl, hc⟩
          have ho18 : ∀ r, x18 = .out r → r = res := by
            rintro r rfl
            exact Option.some.inj hF
          refine cLoop N (loopW (S := S18) (x := x18) ?_ N ((List.replicate ((claims.length : Nat) : Int).toNat (0 : Int)), 0) _ _ ⟨(some ⟨b_1, 0, none⟩), ((claims.length : Nat) : Int).toNat, hf.keep ⟨rfl, rfl, rfl, rfl, rfl, trivial⟩, hc⟩ hx18)
          clear hF hf hc
          rintro ⟨out, s_1⟩ st18 a w KB18 ⟨p_1, c_1, hf, hc⟩ hF hfin18 hK18
          unfold ref09_Turns_b18 at hF
          refine wp_seq_k fun K20 h20 => ?_
          refine wp_seq_k fun K21 h21 => ?_
          refine cReg ?_
          refine stP hf rfl rfl rfl (pM rfl) fun a hf => ?_
          refine stP hf rfl rfl rfl (pM rfl) fun a hf => ?_
          refine stP hf rfl rfl rfl (pLenS Try.underlying36 rfl) fun a hf => ?_
          refine stP hf rfl rfl rfl (pLt rfl rfl) fun a hf => ?_
          refine cNil ?_
          refine h21 _ _ ?_
          refine cCond (b := (decide (s_1 < ((claims.length : Nat) : Int)))) hf rfl (fun hb => ?_) (fun hb => ?_)
          · replace hF := condT hb hF
            clear hb
            refine wp_skip ?_
            refine h20 _ _ ?_
            refine wp_seq_k fun K22 h22 => ?_
            refine wp_block ?_
            refine wp_seq_k fun K23 h23 => ?_
            refine cReg ?_
            refine stP hf rfl rfl rfl (pA rfl) fun a hf => ?_
            refine cNil ?_
            refine h23 _ _ ?_
            refine wp_thenK fun K24 h24 => ?_
            refine wp_block ?_
            obtain ⟨x25, hx25, hF⟩ := bnd_some hF
            let S25 : ((List Int) × Int) → Act → World → Prop := (fun (zz : (List Int) × Int) a w => ∃ (p_2 : Option Addr) (c_2 : Nat), Has 113 a [(0, .slice claims_p claims.length claims_c), (1, .int .i64 days), (2, .int .i64 rule), (9, .slice p_2 zz.1.length c_2), (10, .int .i64 s_1), (11, .int .i64 zz.2)] ∧ Ctx G (.row p_2 c_2 (zz.1.map encI_i64) 3 1 :: Lf) w)
            have hr25 : ∀ (zz : (List Int) × Int) a w, x25 = .go zz → S25 zz a w → K24 a w := by
              rintro ⟨out_1, n⟩ a w rfl ⟨p_2, c_2, hf, hc⟩
              replace hF : _ = some st18 := hF
              refine h24 _ _ ?_
              refine h22 _ _ ?_
              refine cReg ?_
              refine stP hf rfl rfl rfl (pM rfl) fun a hf => ?_
              refine stP hf rfl rfl rfl (pAdd rfl rfl) fun a hf => ?_
              refine stP hf rfl rfl rfl (pA rfl) fun a hf => ?_
              refine cNil ?_
              exact hK18 (out_1, W (s_1 + 1)) _ _ (Option.some.inj hF).symm ⟨p_2, c_2, hf.keep ⟨rfl, rfl, rfl, rfl, rfl, trivial⟩, hc⟩
            have ho25 : ∀ r, x25 = .out r → r = st18 := by
              rintro r rfl
              exact Option.some.inj hF
            refine cLoop N (loopW (S := S25) (x := x25) ?_ N (out, 1) _ _ ⟨p_1, c_1, hf.keep ⟨rfl, rfl, rfl, rfl, rfl, rfl, trivial⟩, hc⟩ hx25)
            clear hF hf hc
            rintro ⟨out_1, n⟩ st25 a w KB25 ⟨p_2, c_2, hf, hc⟩ hF hfin25 hK25
            unfold ref09_Turns_b25 at hF
            refine wp_seq_k fun K26 h26 => ?_
            refine wp_seq_k fun K27 h27 => ?_
            refine cReg ?_
            refine stP hf rfl rfl rfl (pM rfl) fun a hf => ?_
            refine stP hf rfl rfl rfl (pM rfl) fun a hf => ?_
            refine stP hf rfl rfl rfl (pLe rfl rfl) fun a hf => ?_
            refine cNil ?_
            refine h27 _ _ ?_
            refine cCond (b := (decide (n ≤ days))) hf rfl (fun hb => ?_) (fun hb => ?_)
            · replace hF := condT hb hF
              clear hb
              refine wp_skip ?_
              refine h26 _ _ ?_
              refine wp_seq_k fun K28 h28 => ?_
              have hj28 : ∀ (out_2 : List Int) (p_3 : Option Addr) (c_3 : Nat) a w, Has 113 a [(0, .slice claims_p claims.length claims_c), (1, .int .i64 days), (2, .int .i64 rule), (9, .slice p_3 out_2.length c_3), (10, .int .i64 s_1), (11, .int .i64 n)] → Ctx G (.row p_3 c_3 (out_2.map encI_i64) 3 1 :: Lf) w → ref09_Turns_j28 N n out_2 = some st25 → K28 a w := by
                intro out_2 p_3 c_3 a w hf hc hF
                unfold ref09_Turns_j28 at hF
                refine h28 _ _ ?_
                refine cReg ?_
                refine stP hf rfl rfl rfl (pM rfl) fun a hf => ?_
                refine stP hf rfl rfl rfl (pAdd rfl rfl) fun a hf => ?_
                refine stP hf rfl rfl rfl (pA rfl) fun a hf => ?_
                refine cNil ?_
                exact hK25 (out_2, W (n + 1)) _ _ (Option.some.inj hF).symm ⟨p_3, c_3, hf.keep ⟨rfl, rfl, rfl, rfl, rfl, rfl, trivial⟩, hc⟩
              refine wp_block ?_
              refine wp_seq_k fun K29 h29 => ?_
              refine cReg ?_
              refine stP hf rfl rfl rfl (pA rfl) fun a hf => ?_
              refine cNil ?_
              refine h29 _ _ ?_
              refine wp_seq_k fun K30 h30 => ?_
              refine wp_seq_k fun K31 h31 => ?_
              refine cReg ?_
              refine stP hf rfl rfl rfl (pA rfl) fun a hf => ?_
              refine cNil ?_
              refine h31 _ _ ?_
              refine wp_block ?_
              obtain ⟨x32, hx32, hF⟩ := bnd_some hF
              let S32 : (Int × Int) → Act → World → Prop := (fun (zz : Int × Int) a w => Has 113 a [(0, .slice claims_p claims.length claims_c), (1, .int .i64 days), (2, .int .i64 rule), (9, .slice p_2 out_1.length c_2), (10, .int .i64 s_1), (11, .int .i64 n), (12, .int .i64 zz.1), (13, .int .i64 zz.2)] ∧ Ctx G (.row p_2 c_2 (out_1.map encI_i64) 3 1 :: Lf) w)
              have hr32 : ∀ (zz : Int × Int) a w, x32 = .go zz → S32 zz a w → K30 a w := by
                rintro ⟨ahead, t_1⟩ a w rfl ⟨hf, hc⟩
                replace hF : _ = some st25 := hF
                refine h30 _ _ ?_
                refine wp_seq_k fun K33 h33 => ?_
                refine cReg ?_
                refine stP hf rfl rfl rfl (pM rfl) fun a hf => ?_
                refine stP hf rfl rfl rfl (pM rfl) fun a hf => ?_
                refine stP hf rfl rfl rfl (pLt rfl rfl) fun a hf => ?_
                refine cNil ?_
                refine h33 _ _ ?_
                refine cCond (b := (decide (ahead < days))) hf rfl (fun hb => ?_) (fun hb => ?_)
                · replace hF := condT hb hF
                  clear hb
                  refine cReg ?_
                  refine stP hf rfl rfl rfl (pM rfl) fun a hf => ?_
                  refine stP hf rfl rfl rfl (pM rfl) fun a hf => ?_
                  refine stP hf rfl rfl rfl (pM rfl) fun a hf => ?_
                  refine stP hf rfl rfl rfl (pM rfl) fun a hf => ?_
                  obtain ⟨e_1, he_1, hF⟩ := bnd_some hF
                  obtain ⟨g, rfl, qa, qr⟩ := row_atm hc m0 he_1
                  refine stP hf rfl rfl rfl (pIA Try.underlying36 sz_3 rfl rfl qa) fun a hf => ?_
                  refine stE hf hc rfl rfl rfl (eLd1 sc_3 rfl (cell_row (sz := 1) (i := s_1.toNat) (j := 0) m0 qr rfl)) fun a w hf hc => ?_
                  refine stP hf rfl rfl rfl (pAdd rfl rfl) fun a hf => ?_
                  obtain ⟨e_2, he_2, hF⟩ := bnd_some hF
                  obtain ⟨qa_1, qr_1⟩ := row_atk hc m0 he_2
                  refine stP hf rfl rfl rfl (pIA Try.underlying36 sz_3 rfl rfl qa_1) fun a hf => ?_
                  refine stRw (vs := [.int .i64 (W (e_1 + 1))]) (o' := 0) (z := W (e_1 + 1)) (xs := out_1) hf hc rfl rfl rfl rfl sz_3 rfl (fun x => (one_encI_i64 x).1) (getI_lt he_2) (fun _ _ => rfl) rfl u0 fun w hc => ?_
                  refine cNil ?_
                  rw [(by simp : out_1.length = (out_1.set s_1.toNat (W (e_1 + 1))).length)] at hf
                  exact hj28 (out_1.set s_1.toNat (W (e_1 + 1))) (some ⟨g, 0, none⟩) c_2 _ _  (hf.keep ⟨rfl, rfl, rfl, rfl, rfl, rfl, trivial⟩) hc hF
                · replace hF := condF hb hF
                  clear hb
                  refine wp_skip ?_
                  exact hj28 out_1 p_2 c_2 _ _  (hf.keep ⟨rfl, rfl, rfl, rfl, rfl, rfl, trivial⟩) hc hF
              have ho32 : ∀ r, x32 = .out r → r = st25 := by
                rintro r rfl
                exact Option.some.inj hF
              refine cLoop N (loopW (S := S32) (x := x32) ?_ N (0, 0) _ _ ⟨hf.keep ⟨rfl, rfl, rfl, rfl, rfl, rfl, rfl, rfl, trivial⟩, hc⟩ hx32)
              clear hF hf hc
              rintro ⟨ahead, t_1⟩ st32 a w KB32 ⟨hf, hc⟩ hF hfin32 hK32
              unfold ref09_Turns_b32 at hF
              refine wp_seq_k fun K34 h34 => ?_
              refine wp_seq_k fun K35 h35 => ?_
              refine cReg ?_
              refine stP hf rfl rfl rfl (pM rfl) fun a hf => ?_
              refine stP hf rfl rfl rfl (pM rfl) fun a hf => ?_
              refine stP hf rfl rfl rfl (pLenS Try.underlying36 rfl) fun a hf => ?_
              refine stP hf rfl rfl rfl (pLt rfl rfl) fun a hf => ?_
              refine cNil ?_
              refine h35 _ _ ?_
              refine cCond (b := (decide (t_1 < ((claims.length : Nat) : Int)))) hf rfl (fun hb => ?_) (fun hb => ?_)
              · replace hF := condT hb hF
                clear hb
                refine wp_skip ?_
                refine h34 _ _ ?_
                refine wp_seq_k fun K36 h36 => ?_
                refine wp_block ?_
                refine wp_seq_k fun K37 h37 => ?_
                refine cReg ?_
                refine stP hf rfl rfl rfl (pA rfl) fun a hf => ?_
                refine cNil ?_
                refine h37 _ _ ?_
                refine wp_thenK fun K38 h38 => ?_
                refine wp_block ?_
                obtain ⟨x39, hx39, hF⟩ := bnd_some hF
                let S39 : (Int × Int) → Act → World → Prop := (fun (zz : Int × Int) a w => Has 113 a [(0, .slice claims_p claims.length claims_c), (1, .int .i64 days), (2, .int .i64 rule), (9, .slice p_2 out_1.length c_2), (10, .int .i64 s_1), (11, .int .i64 n), (12, .int .i64 zz.1), (13, .int .i64 t_1), (14, .int .i64 zz.2)] ∧ Ctx G (.row p_2 c_2 (out_1.map encI_i64) 3 1 :: Lf) w)
                have hr39 : ∀ (zz : Int × Int) a w, x39 = .go zz → S39 zz a w → K38 a w := by
                  rintro ⟨ahead_1, m⟩ a w rfl ⟨hf, hc⟩
                  replace hF : _ = some st32 := hF
                  refine h38 _ _ ?_
                  refine h36 _ _ ?_
                  refine cReg ?_
                  refine stP hf rfl rfl rfl (pM rfl) fun a hf => ?_
                  refine stP hf rfl rfl rfl (pAdd rfl rfl) fun a hf => ?_
                  refine stP hf rfl rfl rfl (pA rfl) fun a hf => ?_
                  refine cNil ?_
                  exact hK32 (ahead_1, W (t_1 + 1)) _ _ (Option.some.inj hF).symm ⟨hf.keep ⟨rfl, rfl, rfl, rfl, rfl, rfl, rfl, rfl, trivial⟩, hc⟩
                have ho39 : ∀ r, x39 = .out r → r = st32 := by
                  rintro r rfl
                  exact Option.some.inj hF
                refine cLoop N (loopW (S := S39) (x := x39) ?_ N (ahead, 1) _ _ ⟨hf.keep ⟨rfl, rfl, rfl, rfl, rfl, rfl, rfl, rfl, rfl, trivial⟩, hc⟩ hx39)
                clear hF hf hc
                rintro ⟨ahead_1, m⟩ st39 a w KB39 ⟨hf, hc⟩ hF hfin39 hK39
                unfold ref09_Turns_b39 at hF
                refine wp_seq_k fun K40 h40 => ?_
                refine wp_seq_k fun K41 h41 => ?_
                refine cReg ?_
                refine stP hf rfl rfl rfl (pM rfl) fun a hf => ?_
                refine stP hf rfl rfl rfl (pM rfl) fun a hf => ?_
                refine stP hf rfl rfl rfl (pLe rfl rfl) fun a hf => ?_
                refine cNil ?_
                refine h41 _ _ ?_
                refine cCond (b := (decide (m ≤ days))) hf rfl (fun hb => ?_) (fun hb => ?_)
                · replace hF := condT hb hF
                  clear hb
                  refine wp_skip ?_
                  refine h40 _ _ ?_
                  refine wp_seq_k fun K42 h42 => ?_
                  have hj42 : ∀ (ahead_2 : Int) a w, Has 113 a [(0, .slice claims_p claims.length claims_c), (1, .int .i64 days), (2, .int .i64 rule), (9, .slice p_2 out_1.length c_2), (10, .int .i64 s_1), (11, .int .i64 n), (12, .int .i64 ahead_2), (13, .int .i64 t_1), (14, .int .i64 m)] → Ctx G (.row p_2 c_2 (out_1.map encI_i64) 3 1 :: Lf) w → ref09_Turns_j42 N m ahead_2 = some st39 → K42 a w := by
                    intro ahead_2 a w hf hc hF
                    unfold ref09_Turns_j42 at hF
                    refine h42 _ _ ?_
                    refine cReg ?_
                    refine stP hf rfl rfl rfl (pM rfl) fun a hf => ?_
                    refine stP hf rfl rfl rfl (pAdd rfl rfl) fun a hf => ?_
                    refine stP hf rfl rfl rfl (pA rfl) fun a hf => ?_
                    refine cNil ?_
                    exact hK39 (ahead_2, W (m + 1)) _ _ (Option.some.inj hF).symm ⟨hf.keep ⟨rfl, rfl, rfl, rfl, rfl, rfl, rfl, rfl, rfl, trivial⟩, hc⟩
                  refine wp_block ?_
                  refine wp_seq_k fun K43 h43 => ?_
                  obtain ⟨e_3, he_3, hF⟩ := bnd_some hF
                  obtain ⟨b_2, o, qa_2, qp⟩ := h_claims.atm he_3
                  obtain ⟨e_4, he_4, hF⟩ := bnd_some hF
                  obtain ⟨b_3, o_1, qa_3, qp_1⟩ := h_claims.atm he_4
                  obtain ⟨e_5, he_5, hF⟩ := bnd_some hF
                  obtain ⟨b_4, o_2, qa_4, qp_2⟩ := h_claims.atm he_5
                  obtain ⟨e_6, he_6, hF⟩ := bnd_some hF
                  obtain ⟨b_5, o_3, qa_5, qp_3⟩ := h_claims.atm he_6
                  refine cQ hc follows_mx (by kernel_rfl) ?_
                  refine qE hf rfl rfl rfl (Pu.ev (pM rfl)) fun a hf => ?_
                  refine qE hf rfl rfl rfl (Pu.ev (pM rfl)) fun a hf => ?_
                  refine qE hf rfl rfl rfl (Pu.ev (pIA Try.underlying36 sz_3 rfl rfl qa_2)) fun a hf => ?_
                  refine qE hf rfl rfl rfl (eLd1 sc_3 rfl (cell_pc (j := 0) qp rfl)) fun a hf => ?_
                  refine qE hf rfl rfl rfl (Pu.ev (pM rfl)) fun a hf => ?_
                  refine qE hf rfl rfl rfl (Pu.ev (pM rfl)) fun a hf => ?_
                  refine qE hf rfl rfl rfl (eC (v := .int .i64 (ref09_ask rule m)) (vs := [.int .i64 rule, .int .i64 m]) (caps := []) en_87 rfl rfl rfl rfl (fun w hc => ref09_ask_ok rule m hc rfl)) fun a hf => ?_
                  refine qE hf rfl rfl rfl (Pu.ev (pM rfl)) fun a hf => ?_
                  refine qE hf rfl rfl rfl (Pu.ev (pM rfl)) fun a hf => ?_
                  refine qE hf rfl rfl rfl (Pu.ev (pIA Try.underlying36 sz_3 rfl rfl qa_3)) fun a hf => ?_
                  refine qE hf rfl rfl rfl (eLd1 sc_3 rfl (cell_pc (j := 0) qp_1 rfl)) fun a hf => ?_
                  refine qE hf rfl rfl rfl (Pu.ev (pM rfl)) fun a hf => ?_
                  refine qE hf rfl rfl rfl (Pu.ev (pM rfl)) fun a hf => ?_
                  refine qE hf rfl rfl rfl (eC (v := .int .i64 (ref09_ask rule n)) (vs := [.int .i64 rule, .int .i64 n]) (caps := []) en_87 rfl rfl rfl rfl (fun w hc => ref09_ask_ok rule n hc rfl)) fun a hf => ?_
                  refine qE hf rfl rfl rfl (eC (v := .bool (ref09_above e_3 (ref09_ask rule m) e_4 (ref09_ask rule n))) (vs := [.int .i64 e_3, .int .i64 (ref09_ask rule m), .int .i64 e_4, .int .i64 (ref09_ask rule n)]) (caps := []) en_86 rfl rfl rfl rfl (fun w hc => ref09_above_ok e_3 (ref09_ask rule m) e_4 (ref09_ask rule n) hc rfl)) fun a hf => ?_
                  refine qE hf rfl rfl rfl (Pu.ev (pM rfl)) fun a hf => ?_
                  refine qE hf rfl rfl rfl (Pu.ev (pM rfl)) fun a hf => ?_
                  refine qE hf rfl rfl rfl (Pu.ev (pIA Try.underlying36 sz_3 rfl rfl qa_4)) fun a hf => ?_
                  refine qE hf rfl rfl rfl (eLd1 sc_3 rfl (cell_pc (j := 0) qp_2 rfl)) fun a hf => ?_
                  refine qE hf rfl rfl rfl (Pu.ev (pM rfl)) fun a hf => ?_
                  refine qE hf rfl rfl rfl (Pu.ev (pM rfl)) fun a hf => ?_
                  refine qE hf rfl rfl rfl (eC (v := .int .i64 (ref09_ask rule n)) (vs := [.int .i64 rule, .int .i64 n]) (caps := []) en_87 rfl rfl rfl rfl (fun w hc => ref09_ask_ok rule n hc rfl)) fun a hf => ?_
                  refine qE hf rfl rfl rfl (Pu.ev (pM rfl)) fun a hf => ?_
                  refine qE hf rfl rfl rfl (Pu.ev (pM rfl)) fun a hf => ?_
                  refine qE hf rfl rfl rfl (Pu.ev (pIA Try.underlying36 sz_3 rfl rfl qa_5)) fun a hf => ?_
                  refine qE hf rfl rfl rfl (eLd1 sc_3 rfl (cell_pc (j := 0) qp_3 rfl)) fun a hf => ?_
                  refine qE hf rfl rfl rfl (Pu.ev (pM rfl)) fun a hf => ?_
                  refine qE hf rfl rfl rfl (Pu.ev (pM rfl)) fun a hf => ?_
                  refine qE hf rfl rfl rfl (eC (v := .int .i64 (ref09_ask rule m)) (vs := [.int .i64 rule, .int .i64 m]) (caps := []) en_87 rfl rfl rfl rfl (fun w hc => ref09_ask_ok rule m hc rfl)) fun a hf => ?_
                  refine qE hf rfl rfl rfl (eC (v := .bool (ref09_above e_5 (ref09_ask rule n) e_6 (ref09_ask rule m))) (vs := [.int .i64 e_5, .int .i64 (ref09_ask rule n), .int .i64 e_6, .int .i64 (ref09_ask rule m)]) (caps := []) en_86 rfl rfl rfl rfl (fun w hc => ref09_above_ok e_5 (ref09_ask rule n) e_6 (ref09_ask rule m) hc rfl)) fun a hf => ?_
                  refine qE hf rfl rfl rfl (Pu.ev (pA rfl)) fun a hf => ?_
                  refine qE hf rfl rfl rfl (Pu.ev (pA rfl)) fun a hf => ?_
                  intro w hc
                  refine h43 _ _ ?_
                  refine wp_seq_k fun K44 h44 => ?_
                  refine cReg ?_
                  refine stP hf rfl rfl rfl (pM rfl) fun a hf => ?_
                  refine stP hf rfl rfl rfl (pM rfl) fun a hf => ?_
                  refine stCut 8 (fun a w => Has 113 a [(0, .slice claims_p claims.length claims_c), (1, .int .i64 days), (2, .int .i64 rule), (9, .slice p_2 out_1.length c_2), (10, .int .i64 s_1), (11, .int .i64 n), (12, .int .i64 ahead_1), (13, .int .i64 t_1), (14, .int .i64 m), (15, .bool (ref09_above e_3 (ref09_ask rule m) e_4 (ref09_ask rule n))), (16, .bool (ref09_above e_5 (ref09_ask rule n) e_6 (ref09_ask rule m))), (89, .bool (ref09_above e_3 (ref09_ask rule m) e_4 (ref09_ask rule n))), (90, .bool (ref09_above e_3 (ref09_ask rule m) e_4 (ref09_ask rule n))), (98, .bool ((ref09_above e_3 (ref09_ask rule m) e_4 (ref09_ask rule n)) || ((!(ref09_above e_5 (ref09_ask rule n) e_6 (ref09_ask rule m))) && (decide (t_1 < s_1)))))] ∧ Ctx G (.row p_2 c_2 (out_1.map encI_i64) 3 1 :: Lf) w) ?_ ?_
                  · cases hb : (ref09_above e_3 (ref09_ask rule m) e_4 (ref09_ask rule n))
                    · rw [hb] at hf
                      refine stP hf rfl rfl rfl (pM rfl) fun a hf => ?_
                      refine stP hf rfl rfl rfl (pNot rfl) fun a hf => ?_
                      refine stP hf rfl rfl rfl (pM rfl) fun a hf => ?_
                      refine stCut 4 (fun a w => Has 113 a [(0, .slice claims_p claims.length claims_c), (1, .int .i64 days), (2, .int .i64 rule), (9, .slice p_2 out_1.length c_2), (10, .int .i64 s_1), (11, .int .i64 n), (12, .int .i64 ahead_1), (13, .int .i64 t_1), (14, .int .i64 m), (15, .bool false), (16, .bool (ref09_above e_5 (ref09_ask rule n) e_6 (ref09_ask rule m))), (89, .bool false), (90, .bool false), (91, .bool (ref09_above e_5 (ref09_ask rule n) e_6 (ref09_ask rule m))), (92, .bool (!(ref09_above e_5 (ref09_ask rule n) e_6 (ref09_ask rule m)))), (93, .bool (!(ref09_above e_5 (ref09_ask rule n) e_6 (ref09_ask rule m)))), (97, .bool ((!(ref09_above e_5 (ref09_ask rule n) e_6 (ref09_ask rule m))) && (decide (t_1 < s_1))))] ∧ Ctx G (.row p_2 c_2 (out_1.map encI_i64) 3 1 :: Lf) w) ?_ ?_
                      · cases hb : (!(ref09_above e_5 (ref09_ask rule n) e_6 (ref09_ask rule m)))
                        · rw [hb] at hf
                          refine stS hf rfl rfl rfl fun a hf => ?_
                          refine stS hf rfl rfl rfl fun a hf => ?_
                          refine stS hf rfl rfl rfl fun a hf => ?_
                          refine stP hf rfl rfl rfl (pPf rfl rfl) fun a hf => ?_
                          exact cNil ⟨hf.keep ⟨rfl, rfl, rfl, rfl, rfl, rfl, rfl, rfl, rfl, rfl, rfl, rfl, rfl, rfl, rfl, rfl, rfl, trivial⟩, hc⟩
                        · rw [hb] at hf
                          refine stP hf rfl rfl rfl (pM rfl) fun a hf => ?_
                          refine stP hf rfl rfl rfl (pM rfl) fun a hf => ?_
                          refine stP hf rfl rfl rfl (pLt rfl rfl) fun a hf => ?_
                          refine stP hf rfl rfl rfl (pPt rfl rfl) fun a hf => ?_
                          exact cNil ⟨hf.keep ⟨rfl, rfl, rfl, rfl, rfl, rfl, rfl, rfl, rfl, rfl, rfl, rfl, rfl, rfl, rfl, rfl, rfl, trivial⟩, hc⟩
                      intro a w ⟨hf, hc⟩
                      refine stP hf rfl rfl rfl (pPf rfl rfl) fun a hf => ?_
                      exact cNil ⟨hf.keep ⟨rfl, rfl, rfl, rfl, rfl, rfl, rfl, rfl, rfl, rfl, rfl, rfl, rfl, rfl, trivial⟩, hc⟩
                    · rw [hb] at hf
                      refine stS hf rfl rfl rfl fun a hf => ?_
                      refine stS hf rfl rfl rfl fun a hf => ?_
                      refine stS hf rfl rfl rfl fun a hf => ?_
                      refine stS hf rfl rfl rfl fun a hf => ?_
                      refine stS hf rfl rfl rfl fun a hf => ?_
                      refine stS hf rfl rfl rfl fun a hf => ?_
                      refine stS hf rfl rfl rfl fun a hf => ?_
                      refine stP hf rfl rfl rfl (pPt rfl rfl) fun a hf => ?_
                      exact cNil ⟨hf.keep ⟨rfl, rfl, rfl, rfl, rfl, rfl, rfl, rfl, rfl, rfl, rfl, rfl, rfl, rfl, trivial⟩, hc⟩
                  intro a w ⟨hf, hc⟩
                  refine cNil ?_
                  refine h44 _ _ ?_
                  refine cCond (b := ((ref09_above e_3 (ref09_ask rule m) e_4 (ref09_ask rule n)) || ((!(ref09_above e_5 (ref09_ask rule n) e_6 (ref09_ask rule m))) && (decide (t_1 < s_1))))) hf rfl (fun hb => ?_) (fun hb => ?_)
                  · replace hF := condT hb hF
                    clear hb
                    refine cReg ?_
                    refine stP hf rfl rfl rfl (pM rfl) fun a hf => ?_
                    refine stP hf rfl rfl rfl (pAdd rfl rfl) fun a hf => ?_
                    refine stP hf rfl rfl rfl (pA rfl) fun a hf => ?_
                    refine cNil ?_
                    exact hj42 (W (ahead_1 + 1)) _ _  (hf.keep ⟨rfl, rfl, rfl, rfl, rfl, rfl, rfl, rfl, rfl, trivial⟩) hc hF
                  · replace hF := condF hb hF
                    clear hb
                    refine wp_skip ?_
                    exact hj42 ahead_1 _ _  (hf.keep ⟨rfl, rfl, rfl, rfl, rfl, rfl, rfl, rfl, rfl, trivial⟩) hc hF
                · replace hF := condF hb hF
                  clear hb
                  refine wp_exit ?_
                  refine xThen ?_
                  refine xThen ?_
                  have he := Option.some.inj hF
                  rw [← he] at hfin39
                  refine cHit ?_
                  exact hr39 _ _ _ hfin39 ⟨hf.keep ⟨rfl, rfl, rfl, rfl, rfl, rfl, rfl, rfl, rfl, trivial⟩, hc⟩
              · replace hF := condF hb hF
                clear hb
                refine wp_exit ?_
                refine xThen ?_
                refine xThen ?_
                have he := Option.some.inj hF
                rw [← he] at hfin32
                refine cHit ?_
                exact hr32 _ _ _ hfin32 ⟨hf.keep ⟨rfl, rfl, rfl, rfl, rfl, rfl, rfl, rfl, trivial⟩, hc⟩
            · replace hF := condF hb hF
              clear hb
              refine wp_exit ?_
              refine xThen ?_
              refine xThen ?_
              have he := Option.some.inj hF
              rw [← he] at hfin25
              refine cHit ?_
              exact hr25 _ _ _ hfin25 ⟨p_2, c_2, hf.keep ⟨rfl, rfl, rfl, rfl, rfl, rfl, trivial⟩, hc⟩
          · replace hF := condF hb hF
            clear hb
            refine wp_exit ?_
            refine xThen ?_
            refine xThen ?_
            have he := Option.some.inj hF
            rw [← he] at hfin18
            refine cHit ?_
            exact hr18 _ _ _ hfin18 ⟨p_1, c_1, hf.keep ⟨rfl, rfl, rfl, rfl, rfl, trivial⟩, hc⟩

def ref09_shared_b11 (N : Nat) (shares : List Int) (i_1 : Int) : Option (Step (Int) (Int)) :=
  cond (decide (i_1 < ((shares.length : Nat) : Int)))
  (Option.bind (getI shares i_1) fun e_1 =>
  cond (ref09_outside e_1 0 366)
  (some (.ret 4))
  (some (.cont (W (i_1 + 1)))))
  (some (.brk i_1))
def ref09_shared (N : Nat) (claims : List Int) (shares : List Int) (rule : Int) : Option (Int) :=
  Option.bind (ref09_claimed N claims) fun r =>
  cond (r != 0)
  (some r)
  (cond (((shares.length : Nat) : Int) != ((claims.length : Nat) : Int))
  (some 2)
  (Option.bind (loopO (fun s11 => ref09_shared_b11 N shares s11) N 0) fun x11 =>
  exK x11 (fun s11 => cond (ref09_outside rule 0 2)
  (some 2)
  (some 0)) some))
theorem ref09_shared_ok {N : Nat} {G : Pers} {Lf : List Ent} {w : World} (claims : List Int) (shares : List Int) (rule : Int) {claims_p : Option Addr} {claims_c : Nat} {shares_p : Option Addr} {shares_c : Nat} (h_claims : Rd G 1 claims_p claims_c (claims.map encI_i64)) (h_shares : Rd G 1 shares_p shares_c (shares.map encI_i64)) (hc : Ctx G (Lf) w) {res : Int} (hF : ref09_shared N claims shares rule = some res) : Calls Try.prog 89 #[.slice claims_p claims.length claims_c, .slice shares_p shares.length shares_c, .int .i64 rule] w (fun e w => e = .returned (.int .i64 res) ∧ Ctx G (Lf) w) := by
  unfold ref09_shared at hF
  refine fnIn (args := [.slice claims_p claims.length claims_c, .slice shares_p shares.length shares_c, .int .i64 rule]) Try.func89 rfl Try.ntmps89 rfl fun a hf => ?_
  refine wp_seq_k fun K1 h1 => ?_
  refine cReg ?_
  refine stP hf rfl rfl rfl (pA rfl) fun a hf => ?_
  refine cNil ?_
  refine h1 _ _ ?_
  refine wp_seq_k fun K2 h2 => ?_
  refine wp_seq_k fun K3 h3 => ?_
  refine cReg ?_
  refine stP hf rfl rfl rfl (pM rfl) fun a hf => ?_
  obtain ⟨r, hr, hF⟩ := bnd_some hF
  refine stE hf hc rfl rfl rfl (eC (v := .int .i64 r) (vs := [.slice claims_p claims.length claims_c]) (caps := []) en_85 rfl rfl rfl rfl (fun w hc => ref09_claimed_ok claims h_claims hc hr)) fun a w hf hc => ?_
  refine stP hf rfl rfl rfl (pA rfl) fun a hf => ?_
  refine cNil ?_
  refine h3 _ _ ?_
  refine wp_seq_k fun K4 h4 => ?_
  refine cReg ?_
  refine stP hf rfl rfl rfl (pM rfl) fun a hf => ?_
  refine stP hf rfl rfl rfl (pNe rfl rfl) fun a hf => ?_
  refine cNil ?_
  refine h4 _ _ ?_
  refine cCond (b := (r != 0)) hf rfl (fun hb => ?_) (fun hb => ?_)
  · replace hF := condT hb hF
    clear hb
    refine wp_seq_k fun K5 h5 => ?_
    refine cReg ?_
    refine stP hf rfl rfl rfl (pM rfl) fun a hf => ?_
    refine stP hf rfl rfl rfl (pA rfl) fun a hf => ?_
    refine cNil ?_
    refine h5 _ _ ?_
    refine wp_ret ?_
    refine xThenR ?_
    obtain rfl := Option.some.inj hF
    exact fnOut1 (by simp) rfl Try.results89 hf hc (show look _ 6 = _ from rfl) ⟨rfl, hc⟩
  · replace hF := condF hb hF
    clear hb
    refine wp_skip ?_
    refine h2 _ _ ?_
    refine wp_seq_k fun K6 h6 => ?_
    refine wp_seq_k fun K7 h7 => ?_
    refine cReg ?_
    refine stP hf rfl rfl rfl (pM rfl) fun a hf => ?_
    refine stP hf rfl rfl rfl (pLenS Try.underlying36 rfl) fun a hf => ?_
    refine stP hf rfl rfl rfl (pM rfl) fun a hf => ?_
    refine stP hf rfl rfl rfl (pLenS Try.underlying36 rfl) fun a hf => ?_
    refine stP hf rfl rfl rfl (pNe rfl rfl) fun a hf => ?_
    refine cNil ?_
    refine h7 _ _ ?_
    refine cCond (b := (((shares.length : Nat) : Int) != ((claims.length : Nat) : Int))) hf rfl (fun hb => ?_) (fun hb => ?_)
    · replace hF := condT hb hF
      clear hb
      refine wp_seq_k fun K8 h8 => ?_
      refine cReg ?_
      refine stP hf rfl rfl rfl (pA rfl) fun a hf => ?_
      refine cNil ?_
      refine h8 _ _ ?_
      refine wp_ret ?_
      refine xThenR ?_
      obtain rfl := Option.some.inj hF
      exact fnOut1 (by simp) rfl Try.results89 hf hc (show look _ 6 = _ from rfl) ⟨rfl, hc⟩
    · replace hF := condF hb hF
      clear hb
      refine wp_skip ?_
      refine h6 _ _ ?_
      refine wp_seq_k fun K9 h9 => ?_
      refine wp_seq_k fun K10 h10 => ?_
      refine cReg ?_
      refine stP hf rfl rfl rfl (pA rfl) fun a hf => ?_
      refine cNil ?_
      refine h10 _ _ ?_
      refine wp_block ?_
      obtain ⟨x11, hx11, hF⟩ := bnd_some hF
      let S11 : Int → Act → World → Prop := (fun (zz : Int) a w => Has 32 a [(1, .slice shares_p shares.length shares_c), (2, .int .i64 rule), (8, .int .i64 zz)] ∧ Ctx G (Lf) w)
      have hr11 : ∀ (zz : Int) a w, x11 = .go zz → S11 zz a w → K9 a w := by
        rintro i_1 a w rfl ⟨hf, hc⟩
        replace hF : _ = some res := hF
        refine h9 _ _ ?_
        refine wp_seq_k fun K12 h12 => ?_
        refine wp_seq_k fun K13 h13 => ?_
        refine cReg ?_
        refine stP hf rfl rfl rfl (pM rfl) fun a hf => ?_
        refine stE hf hc rfl rfl rfl (eC (v := .bool (ref09_outside rule 0 2)) (vs := [.int .i64 rule, .int .i64 0, .int .i64 2]) (caps := []) en_74 rfl rfl rfl rfl (fun w hc => ref09_outside_ok rule 0 2 hc rfl)) fun a w hf hc => ?_
        refine cNil ?_
        refine h13 _ _ ?_
        refine cCond (b := (ref09_outside rule 0 2)) hf rfl (fun hb => ?_) (fun hb => ?_)
        · replace hF := condT hb hF
          clear hb
          refine wp_seq_k fun K14 h14 => ?_
          refine cReg ?_
          refine stP hf rfl rfl rfl (pA rfl) fun a hf => ?_
          refine cNil ?_
          refine h14 _ _ ?_
          refine wp_ret ?_
          refine xThenR ?_
          obtain rfl := Option.some.inj hF
          exact fnOut1 (by simp) rfl Try.results89 hf hc (show look _ 6 = _ from rfl) ⟨rfl, hc⟩
        · replace hF := condF hb hF
          clear hb
          refine wp_skip ?_
          refine h12 _ _ ?_
          refine wp_seq_k fun K15 h15 => ?_
          refine cReg ?_
          refine stP hf rfl rfl rfl (pA rfl) fun a hf => ?_
          refine cNil ?_
          refine h15 _ _ ?_
          refine wp_ret ?_
          obtain rfl := Option.some.inj hF
          exact fnOut1 (by simp) rfl Try.results89 hf hc (show look _ 6 = _ from rfl) ⟨rfl, hc⟩
      have ho11 : ∀ r, x11 = .out r → r = res := by
        rintro r rfl
        exact Option.some.inj hF
      refine cLoop N (loopW (S := S11) (x := x11) ?_ N 0 _ _ ⟨hf.keep ⟨rfl, rfl, rfl, trivial⟩, hc⟩ hx11)
      clear hF hf hc
      rintro i_1 st11 a w KB11 ⟨hf, hc⟩ hF hfin11 hK11
      unfold ref09_shared_b11 at hF
      refine wp_seq_k fun K16 h16 => ?_
      refine wp_seq_k fun K17 h17 => ?_
      refine cReg ?_
      refine stP hf rfl rfl rfl (pM rfl) fun a hf => ?_
      refine stP hf rfl rfl rfl (pM rfl) fun a hf => ?_
      refine stP hf rfl rfl rfl (pLenS Try.underlying36 rfl) fun a hf => ?_
      refine stP hf rfl rfl rfl (pLt rfl rfl) fun a hf => ?_
      refine cNil ?_
      refine h17 _ _ ?_
      refine cCond (b := (decide (i_1 < ((shares.length : Nat) : Int)))) hf rfl (fun hb => ?_) (fun hb => ?_)
      · replace hF := condT hb hF
        clear hb
        refine wp_skip ?_
        refine h16 _ _ ?_
        refine wp_seq_k fun K18 h18 => ?_
        refine wp_block ?_
        refine wp_seq_k fun K19 h19 => ?_
        refine cReg ?_
        refine stP hf rfl rfl rfl (pM rfl) fun a hf => ?_
        refine stP hf rfl rfl rfl (pM rfl) fun a hf => ?_
        obtain ⟨e_1, he_1, hF⟩ := bnd_some hF
        obtain ⟨b_1, o, qa, qp⟩ := h_shares.atm he_1
        refine stP hf rfl rfl rfl (pIA Try.underlying36 sz_3 rfl rfl qa) fun a hf => ?_
        refine stE hf hc rfl rfl rfl (eLd1 sc_3 rfl (cell_pc (j := 0) qp rfl)) fun a w hf hc => ?_
        refine stE hf hc rfl rfl rfl (eC (v := .bool (ref09_outside e_1 0 366)) (vs := [.int .i64 e_1, .int .i64 0, .int .i64 366]) (caps := []) en_74 rfl rfl rfl rfl (fun w hc => ref09_outside_ok e_1 0 366 hc rfl)) fun a w hf hc => ?_
        refine cNil ?_
        refine h19 _ _ ?_
        refine cCond (b := (ref09_outside e_1 0 366)) hf rfl (fun hb => ?_) (fun hb => ?_)
        · replace hF := condT hb hF
          clear hb
          refine wp_seq_k fun K20 h20 => ?_
          refine cReg ?_
          refine stP hf rfl rfl rfl (pA rfl) fun a hf => ?_
          refine cNil ?_
          refine h20 _ _ ?_
          refine wp_ret ?_
          refine xBlkR ?_
          refine xThenR ?_
          refine xThenR ?_
          have he := Option.some.inj hF
          rw [← he] at hfin11
          replace hF := ho11 _ hfin11
          refine xBlkR ?_
          refine xThenR ?_
          obtain rfl := hF
          exact fnOut1 (by simp) rfl Try.results89 hf hc (show look _ 6 = _ from rfl) ⟨rfl, hc⟩
        · replace hF := condF hb hF
          clear hb
          refine wp_skip ?_
          refine h18 _ _ ?_
          refine cReg ?_
          refine stP hf rfl rfl rfl (pM rfl) fun a hf => ?_
          refine stP hf rfl rfl rfl (pAdd rfl rfl) fun a hf => ?_
          refine stP hf rfl rfl rfl (pA rfl) fun a hf => ?_
          refine cNil ?_
          exact hK11 (W (i_1 + 1)) _ _ (Option.some.inj hF).symm ⟨hf.keep ⟨rfl, rfl, rfl, trivial⟩, hc⟩
      · replace hF := condF hb hF
        clear hb
        refine wp_exit ?_
        refine xThen ?_
        refine xThen ?_
        have he := Option.some.inj hF
        rw [← he] at hfin11
        refine cHit ?_
        exact hr11 _ _ _ hfin11 ⟨hf.keep ⟨rfl, rfl, rfl, trivial⟩, hc⟩

def ref09_Unfair_b15 (N : Nat) (claims : List Int) (shares : List Int) (rule : Int) (a_1 : Int) (b_1 : Int) : Option (Step (Int) (Step (Int) (Int × Int × Int))) :=
  cond (decide (b_1 < ((claims.length : Nat) : Int)))
  (Option.bind (cond (a_1 != b_1) (Option.bind (getI shares a_1) fun e_1 =>
  some (decide (0 < e_1))) (some false)) fun t_1 =>
  Option.bind (cond t_1 (Option.bind (getI claims b_1) fun e_2 =>
  Option.bind (getI shares b_1) fun e_3 =>
  Option.bind (getI claims a_1) fun e_4 =>
  Option.bind (getI shares a_1) fun e_5 =>
  some (ref09_above e_2 (ref09_ask rule (W (e_3 + 1))) e_4 (ref09_ask rule e_5))) (some false)) fun t_2 =>
  cond t_2
  (some (.ret (.ret (a_1, b_1, 0))))
  (some (.cont (W (b_1 + 1)))))
  (some (.brk b_1))
def ref09_Unfair_b8 (N : Nat) (claims : List Int) (shares : List Int) (rule : Int) (a_1 : Int) : Option (Step (Int) (Int × Int × Int)) :=
  cond (decide (a_1 < ((claims.length : Nat) : Int)))
  (Option.bind (loopO (fun s15 => ref09_Unfair_b15 N claims shares rule a_1 s15) N 0) fun x15 =>
  exK x15 (fun s15 => some (.cont (W (a_1 + 1)))) some)
  (some (.brk a_1))
def ref09_Unfair (N : Nat) (claims : List Int) (shares : List Int) (rule : Int) : Option (Int × Int × Int) :=
  Option.bind (ref09_shared N claims shares rule) fun r =>
  cond (r != 0)
  (some (0, 0, r))
  (Option.bind (loopO (fun s8 => ref09_Unfair_b8 N claims shares rule s8) N 0) fun x8 =>
  exK x8 (fun s8 => some (0, 0, 5)) some)
theorem ref09_Unfair_ok {N : Nat} {G : Pers} {Lf : List Ent} {w : World} (claims : List Int) (shares : List Int) (rule : Int) {claims_p : Option Addr} {claims_c : Nat} {shares_p : Option Addr} {shares_c : Nat} (h_claims : Rd G 1 claims_p claims_c (claims.map encI_i64)) (h_shares : Rd G 1 shares_p shares_c (shares.map encI_i64)) (hc : Ctx G (Lf) w) {res : Int × Int × Int} (hF : ref09_Unfair N claims shares rule = some res) : Calls Try.prog 38 #[.slice claims_p claims.length claims_c, .slice shares_p shares.length shares_c, .int .i64 rule] w (fun e w => e = .returned (.tuple #[.int .i64 res.1, .int .i64 res.2.1, .int .i64 res.2.2]) ∧ Ctx G (Lf) w) := by
  unfold ref09_Unfair at hF
  refine fnIn (args := [.slice claims_p claims.length claims_c, .slice shares_p shares.length shares_c, .int .i64 rule]) Try.func38 rfl Try.ntmps38 rfl fun a hf => ?_
  refine wp_seq_k fun K1 h1 => ?_
  refine cReg ?_
  refine stP hf rfl rfl rfl (pA rfl) fun a hf => ?_
  refine stP hf rfl rfl rfl (pA rfl) fun a hf => ?_
  refine stP hf rfl rfl rfl (pA rfl) fun a hf => ?_
  refine cNil ?_
  refine h1 _ _ ?_
  refine wp_seq_k fun K2 h2 => ?_
  refine wp_seq_k fun K3 h3 => ?_
  refine cReg ?_
  refine stP hf rfl rfl rfl (pM rfl) fun a hf => ?_
  refine stP hf rfl rfl rfl (pM rfl) fun a hf => ?_
  refine stP hf rfl rfl rfl (pM rfl) fun a hf => ?_
  obtain ⟨r, hr, hF⟩ := bnd_some hF
  refine stE hf hc rfl rfl rfl (eC (v := .int .i64 r) (vs := [.slice claims_p claims.length claims_c, .slice shares_p shares.length shares_c, .int .i64 rule]) (caps := []) en_89 rfl rfl rfl rfl (fun w hc => ref09_shared_ok claims shares rule h_claims h_shares hc hr)) fun a w hf hc => ?_
  refine stP hf rfl rfl rfl (pA rfl) fun a hf => ?_
  refine cNil ?_
  refine h3 _ _ ?_
  refine wp_seq_k fun K4 h4 => ?_
  refine cReg ?_
  refine stP hf rfl rfl rfl (pM rfl) fun a hf => ?_
  refine stP hf rfl rfl rfl (pNe rfl rfl) fun a hf => ?_
  refine cNil ?_
  refine h4 _ _ ?_
  refine cCond (b := (r != 0)) hf rfl (fun hb => ?_) (fun hb => ?_)
  · replace hF := condT hb hF
    clear hb
    refine wp_seq_k fun K5 h5 => ?_
    refine cReg ?_
    refine stP hf rfl rfl rfl (pM rfl) fun a hf => ?_
    refine stP hf rfl rfl rfl (pA rfl) fun a hf => ?_
    refine stP hf rfl rfl rfl (pA rfl) fun a hf => ?_
    refine stP hf rfl rfl rfl (pA rfl) fun a hf => ?_
    refine cNil ?_
    refine h5 _ _ ?_
    refine wp_ret ?_
    refine xThenR ?_
    obtain rfl := Option.some.inj hF
    exact fnOut3 (by simp) rfl Try.results38 hf hc (show look _ 6 = _ from rfl) (show look _ 7 = _ from rfl) (show look _ 8 = _ from rfl) ⟨rfl, hc⟩
  · replace hF := condF hb hF
    clear hb
    refine wp_skip ?_
    refine h2 _ _ ?_
    refine wp_seq_k fun K6 h6 => ?_
    refine wp_seq_k fun K7 h7 => ?_
    refine cReg ?_
    refine stP hf rfl rfl rfl (pA rfl) fun a hf => ?_
    refine cNil ?_
    refine h7 _ _ ?_
    refine wp_block ?_
    obtain ⟨x8, hx8, hF⟩ := bnd_some hF
    let S8 : Int → Act → World → Prop := (fun (zz : Int) a w => Has 67 a [(0, .slice claims_p claims.length claims_c), (1, .slice shares_p shares.length shares_c), (2, .int .i64 rule), (10, .int .i64 zz)] ∧ Ctx G (Lf) w)
    have hr8 : ∀ (zz : Int) a w, x8 = .go zz → S8 zz a w → K6 a w := by
      rintro a_1 a w rfl ⟨hf, hc⟩
      replace hF : _ = some res := hF
      refine h6 _ _ ?_
      refine wp_seq_k fun K9 h9 => ?_
      refine cReg ?_
      refine stP hf rfl rfl rfl (pA rfl) fun a hf => ?_
      refine stP hf rfl rfl rfl (pA rfl) fun a hf => ?_
      refine stP hf rfl rfl rfl (pA rfl) fun a hf => ?_
      refine cNil ?_
      refine h9 _ _ ?_
      refine wp_ret ?_
      obtain rfl := Option.some.inj hF
      exact fnOut3 (by simp) rfl Try.results38 hf hc (show look _ 6 = _ from rfl) (show look _ 7 = _ from rfl) (show look _ 8 = _ from rfl) ⟨rfl, hc⟩
    have ho8 : ∀ r, x8 = .out r → r = res := by
      rintro r rfl
      exact Option.some.inj hF
    refine cLoop N (loopW (S := S8) (x := x8) ?_ N 0 _ _ ⟨hf.keep ⟨rfl, rfl, rfl, rfl, trivial⟩, hc⟩ hx8)
    clear hF hf hc
    rintro a_1 st8 a w KB8 ⟨hf, hc⟩ hF hfin8 hK8
    unfold ref09_Unfair_b8 at hF
    refine wp_seq_k fun K10 h10 => ?_
    refine wp_seq_k fun K11 h11 => ?_
    refine cReg ?_
    refine stP hf rfl rfl rfl (pM rfl) fun a hf => ?_
    refine stP hf rfl rfl rfl (pM rfl) fun a hf => ?_
    refine stP hf rfl rfl rfl (pLenS Try.underlying36 rfl) fun a hf => ?_
    refine stP hf rfl rfl rfl (pLt rfl rfl) fun a hf => ?_
    refine cNil ?_
    refine h11 _ _ ?_
    refine cCond (b := (decide (a_1 < ((claims.length : Nat) : Int)))) hf rfl (fun hb => ?_) (fun hb => ?_)
    · replace hF := condT hb hF
      clear hb
      refine wp_skip ?_
      refine h10 _ _ ?_
      refine wp_seq_k fun K12 h12 => ?_
      refine wp_block ?_
      refine wp_seq_k fun K13 h13 => ?_
      refine cReg ?_
      refine stP hf rfl rfl rfl (pA rfl) fun a hf => ?_
      refine cNil ?_
      refine h13 _ _ ?_
      refine wp_thenK fun K14 h14 => ?_
      refine wp_block ?_
      obtain ⟨x15, hx15, hF⟩ := bnd_some hF
      let S15 : Int → Act → World → Prop := (fun (zz : Int) a w => Has 67 a [(0, .slice claims_p claims.length claims_c), (1, .slice shares_p shares.length shares_c), (2, .int .i64 rule), (10, .int .i64 a_1), (11, .int .i64 zz)] ∧ Ctx G (Lf) w)
      have hr15 : ∀ (zz : Int) a w, x15 = .go zz → S15 zz a w → K14 a w := by
        rintro b_1 a w rfl ⟨hf, hc⟩
        replace hF : _ = some st8 := hF
        refine h14 _ _ ?_
        refine h12 _ _ ?_
        refine cReg ?_
        refine stP hf rfl rfl rfl (pM rfl) fun a hf => ?_
        refine stP hf rfl rfl rfl (pAdd rfl rfl) fun a hf => ?_
        refine stP hf rfl rfl rfl (pA rfl) fun a hf => ?_
        refine cNil ?_
        exact hK8 (W (a_1 + 1)) _ _ (Option.some.inj hF).symm ⟨hf.keep ⟨rfl, rfl, rfl, rfl, trivial⟩, hc⟩
      have ho15 : ∀ r, x15 = .out r → r = st8 := by
        rintro r rfl
        exact Option.some.inj hF
      refine cLoop N (loopW (S := S15) (x := x15) ?_ N 0 _ _ ⟨hf.keep ⟨rfl, rfl, rfl, rfl, rfl, trivial⟩, hc⟩ hx15)
      clear hF hf hc
      rintro b_1 st15 a w KB15 ⟨hf, hc⟩ hF hfin15 hK15
      unfold ref09_Unfair_b15 at hF
      refine wp_seq_k fun K16 h16 => ?_
      refine wp_seq_k fun K17 h17 => ?_
      refine cReg ?_
      refine stP hf rfl rfl rfl (pM rfl) fun a hf => ?_
      refine stP hf rfl rfl rfl (pM rfl) fun a hf => ?_
      refine stP hf rfl rfl rfl (pLenS Try.underlying36 rfl) fun a hf => ?_
      refine stP hf rfl rfl rfl (pLt rfl rfl) fun a hf => ?_
      refine cNil ?_
      refine h17 _ _ ?_
      refine cCond (b := (decide (b_1 < ((claims.length : Nat) : Int)))) hf rfl (fun hb => ?_) (fun hb => ?_)
      · replace hF := condT hb hF
        clear hb
        refine wp_skip ?_
        refine h16 _ _ ?_
        refine wp_seq_k fun K18 h18 => ?_
        refine wp_block ?_
        refine wp_seq_k fun K19 h19 => ?_
        obtain ⟨t_1, ht_1, hF⟩ := bnd_some hF
        obtain ⟨t_2, ht_2, hF⟩ := bnd_some hF
        refine cQ hc follows_mx (by kernel_rfl) ?_
        refine qE hf rfl rfl rfl (Pu.ev (pM rfl)) fun a hf => ?_
        refine qE hf rfl rfl rfl (Pu.ev (pM rfl)) fun a hf => ?_
        refine qE hf rfl rfl rfl (Pu.ev (pNe rfl rfl)) fun a hf => ?_
        refine qE hf rfl rfl rfl (Pu.ev (pM rfl)) fun a hf => ?_
        refine qCut 6 (fun a => Has 67 a [(0, .slice claims_p claims.length claims_c), (1, .slice shares_p shares.length shares_c), (2, .int .i64 rule), (10, .int .i64 a_1), (11, .int .i64 b_1), (31, .int .i64 a_1), (32, .int .i64 b_1), (33, .bool (a_1 != b_1)), (34, .bool (a_1 != b_1)), (40, .bool t_1)]) ?_ ?_
        · cases hb : (a_1 != b_1)
          · rw [hb] at hf
            have hF := condF hb ht_1
            obtain rfl := Option.some.inj hF
            refine qS hf rfl rfl rfl fun a hf => ?_
            refine qS hf rfl rfl rfl fun a hf => ?_
            refine qS hf rfl rfl rfl fun a hf => ?_
            refine qS hf rfl rfl rfl fun a hf => ?_
            refine qS hf rfl rfl rfl fun a hf => ?_
            refine qE hf rfl rfl rfl (Pu.ev (pPf rfl rfl)) fun a hf => ?_
            exact qNil (hf.keep ⟨rfl, rfl, rfl, rfl, rfl, rfl, rfl, rfl, rfl, rfl, trivial⟩)
          · rw [hb] at hf
            have hF := condT hb ht_1
            obtain ⟨e_1, he_1, hF⟩ := bnd_some hF
            obtain ⟨b_2, o, qa, qp⟩ := h_shares.atm he_1
            refine qE hf rfl rfl rfl (Pu.ev (pM rfl)) fun a hf => ?_
            refine qE hf rfl rfl rfl (Pu.ev (pM rfl)) fun a hf => ?_
            refine qE hf rfl rfl rfl (Pu.ev (pIA Try.underlying36 sz_3 rfl rfl qa)) fun a hf => ?_
            refine qE hf rfl rfl rfl (eLd1 sc_3 rfl (cell_pc (j := 0) qp rfl)) fun a hf => ?_
            refine qE hf rfl rfl rfl (Pu.ev (pGt rfl rfl)) fun a hf => ?_
            refine qE hf rfl rfl rfl (Pu.ev (pPt rfl rfl)) fun a hf => ?_
            obtain rfl := Option.some.inj hF
            exact qNil (hf.keep ⟨rfl, rfl, rfl, rfl, rfl, rfl, rfl, rfl, rfl, rfl, trivial⟩)
        intro a hf
        refine qE hf rfl rfl rfl (Pu.ev (pM rfl)) fun a hf => ?_
        refine qCut 23 (fun a => Has 67 a [(0, .slice claims_p claims.length claims_c), (1, .slice shares_p shares.length shares_c), (2, .int .i64 rule), (10, .int .i64 a_1), (11, .int .i64 b_1), (31, .int .i64 a_1), (32, .int .i64 b_1), (33, .bool (a_1 != b_1)), (34, .bool (a_1 != b_1)), (40, .bool t_1), (41, .bool t_1), (64, .bool t_2)]) ?_ ?_
        · cases hb : t_1
          · rw [hb] at hf
            have hF := condF hb ht_2
            obtain rfl := Option.some.inj hF
            refine qS hf rfl rfl rfl fun a hf => ?_
            refine qS hf rfl rfl rfl fun a hf => ?_
            refine qS hf rfl rfl rfl fun a hf => ?_
            refine qS hf rfl rfl rfl fun a hf => ?_
            refine qS hf rfl rfl rfl fun a hf => ?_
            refine qS hf rfl rfl rfl fun a hf => ?_
            refine qS hf rfl rfl rfl fun a hf => ?_
            refine qS hf rfl rfl rfl fun a hf => ?_
            refine qS hf rfl rfl rfl fun a hf => ?_
            refine qS hf rfl rfl rfl fun a hf => ?_
            refine qS hf rfl rfl rfl fun a hf => ?_
            refine qS hf rfl rfl rfl fun a hf => ?_
            refine qS hf rfl rfl rfl fun a hf => ?_
            refine qS hf rfl rfl rfl fun a hf => ?_
            refine qS hf rfl rfl rfl fun a hf => ?_
            refine qS hf rfl rfl rfl fun a hf => ?_
            refine qS hf rfl rfl rfl fun a hf => ?_
            refine qS hf rfl rfl rfl fun a hf => ?_
            refine qS hf rfl rfl rfl fun a hf => ?_
            refine qS hf rfl rfl rfl fun a hf => ?_
            refine qS hf rfl rfl rfl fun a hf => ?_
            refine qS hf rfl rfl rfl fun a hf => ?_
            refine qE hf rfl rfl rfl (Pu.ev (pPf rfl rfl)) fun a hf => ?_
            exact qNil (hf.keep ⟨rfl, rfl, rfl, rfl, rfl, rfl, rfl, rfl, rfl, rfl, rfl, rfl, trivial⟩)
          · rw [hb] at hf
            have hF := condT hb ht_2
            obtain ⟨e_2, he_2, hF⟩ := bnd_some hF
            obtain ⟨b_3, o_1, qa_1, qp_1⟩ := h_claims.atm he_2
            obtain ⟨e_3, he_3, hF⟩ := bnd_some hF
            obtain ⟨b_4, o_2, qa_2, qp_2⟩ := h_shares.atm he_3
            obtain ⟨e_4, he_4, hF⟩ := bnd_some hF
            obtain ⟨b_5, o_3, qa_3, qp_3⟩ := h_claims.atm he_4
            obtain ⟨e_5, he_5, hF⟩ := bnd_some hF
            obtain ⟨b_6, o_4, qa_4, qp_4⟩ := h_shares.atm he_5
            refine qE hf rfl rfl rfl (Pu.ev (pM rfl)) fun a hf => ?_
            refine qE hf rfl rfl rfl (Pu.ev (pM rfl)) fun a hf => ?_
            refine qE hf rfl rfl rfl (Pu.ev (pIA Try.underlying36 sz_3 rfl rfl qa_1)) fun a hf => ?_
            refine qE hf rfl rfl rfl (eLd1 sc_3 rfl (cell_pc (j := 0) qp_1 rfl)) fun a hf => ?_
            refine qE hf rfl rfl rfl (Pu.ev (pM rfl)) fun a hf => ?_
            refine qE hf rfl rfl rfl (Pu.ev (pM rfl)) fun a hf => ?_
            refine qE hf rfl rfl rfl (Pu.ev (pM rfl)) fun a hf => ?_
            refine qE hf rfl rfl rfl (Pu.ev (pIA Try.underlying36 sz_3 rfl rfl qa_2)) fun a hf => ?_
            refine qE hf rfl rfl rfl (eLd1 sc_3 rfl (cell_pc (j := 0) qp_2 rfl)) fun a hf => ?_
            refine qE hf rfl rfl rfl (Pu.ev (pAdd rfl rfl)) fun a hf => ?_
            refine qE hf rfl rfl rfl (eC (v := .int .i64 (ref09_ask rule (W (e_3 + 1)))) (vs := [.int .i64 rule, .int .i64 (W (e_3 + 1))]) (caps := []) en_87 rfl rfl rfl rfl (fun w hc => ref09_ask_ok rule (W (e_3 + 1)) hc rfl)) fun a hf => ?_
            refine qE hf rfl rfl rfl (Pu.ev (pM rfl)) fun a hf => ?_
            refine qE hf rfl rfl rfl (Pu.ev (pM rfl)) fun a hf => ?_
            refine qE hf rfl rfl rfl (Pu.ev (pIA Try.underlying36 sz_3 rfl rfl qa_3)) fun a hf => ?_
            refine qE hf rfl rfl rfl (eLd1 sc_3 rfl (cell_pc (j := 0) qp_3 rfl)) fun a hf => ?_
            refine qE hf rfl rfl rfl (Pu.ev (pM rfl)) fun a hf => ?_
            refine qE hf rfl rfl rfl (Pu.ev (pM rfl)) fun a hf => ?_
            refine qE hf rfl rfl rfl (Pu.ev (pM rfl)) fun a hf => ?_
            refine qE hf rfl rfl rfl (Pu.ev (pIA Try.underlying36 sz_3 rfl rfl qa_4)) fun a hf => ?_
            refine qE hf rfl rfl rfl (eLd1 sc_3 rfl (cell_pc (j := 0) qp_4 rfl)) fun a hf => ?_
            refine qE hf rfl rfl rfl (eC (v := .int .i64 (ref09_ask rule e_5)) (vs := [.int .i64 rule, .int .i64 e_5]) (caps := []) en_87 rfl rfl rfl rfl (fun w hc => ref09_ask_ok rule e_5 hc rfl)) fun a hf => ?_
            refine qE hf rfl rfl rfl (eC (v := .bool (ref09_above e_2 (ref09_ask rule (W (e_3 + 1))) e_4 (ref09_ask rule e_5))) (vs := [.int .i64 e_2, .int .i64 (ref09_ask rule (W (e_3 + 1))), .int .i64 e_4, .int .i64 (ref09_ask rule e_5)]) (caps := []) en_86 rfl rfl rfl rfl (fun w hc => ref09_above_ok e_2 (ref09_ask rule (W (e_3 + 1))) e_4 (ref09_ask rule e_5) hc rfl)) fun a hf => ?_
            refine qE hf rfl rfl rfl (Pu.ev (pPt rfl rfl)) fun a hf => ?_
            obtain rfl := Option.some.inj hF
            exact qNil (hf.keep ⟨rfl, rfl, rfl, rfl, rfl, rfl, rfl, rfl, rfl, rfl, rfl, rfl, trivial⟩)
        intro a hf
        intro w hc
        refine h19 _ _ ?_
        refine cCond (b := t_2) hf rfl (fun hb => ?_) (fun hb => ?_)
        · replace hF := condT hb hF
          clear hb
          refine wp_seq_k fun K20 h20 => ?_
          refine cReg ?_
          refine stP hf rfl rfl rfl (pM rfl) fun a hf => ?_
          refine stP hf rfl rfl rfl (pM rfl) fun a hf => ?_
          refine stP hf rfl rfl rfl (pA rfl) fun a hf => ?_
          refine stP hf rfl rfl rfl (pA rfl) fun a hf => ?_
          refine stP hf rfl rfl rfl (pA rfl) fun a hf => ?_
          refine cNil ?_
          refine h20 _ _ ?_
          refine wp_ret ?_
          refine xBlkR ?_
          refine xThenR ?_
          refine xThenR ?_
          have he := Option.some.inj hF
          rw [← he] at hfin15
          replace hF := ho15 _ hfin15
          refine xBlkR ?_
          refine xThenR ?_
          refine xBlkR ?_
          refine xThenR ?_
          refine xThenR ?_
          have he := hF
          rw [← he] at hfin8
          replace hF := ho8 _ hfin8
          refine xBlkR ?_
          refine xThenR ?_
          obtain rfl := hF
          exact fnOut3 (by simp) rfl Try.results38 hf hc (show look _ 6 = _ from rfl) (show look _ 7 = _ from rfl) (show look _ 8 = _ from rfl) ⟨rfl, hc⟩
        · replace hF := condF hb hF
          clear hb
          refine wp_skip ?_
          refine h18 _ _ ?_
          refine cReg ?_
          refine stP hf rfl rfl rfl (pM rfl) fun a hf => ?_
          refine stP hf rfl rfl rfl (pAdd rfl rfl) fun a hf => ?_
          refine stP hf rfl rfl rfl (pA rfl) fun a hf => ?_
          refine cNil ?_
          exact hK15 (W (b_1 + 1)) _ _ (Option.some.inj hF).symm ⟨hf.keep ⟨rfl, rfl, rfl, rfl, rfl, trivial⟩, hc⟩
      · replace hF := condF hb hF
        clear hb
        refine wp_exit ?_
        refine xThen ?_
        refine xThen ?_
        have he := Option.some.inj hF
        rw [← he] at hfin15
        refine cHit ?_
        exact hr15 _ _ _ hfin15 ⟨hf.keep ⟨rfl, rfl, rfl, rfl, rfl, trivial⟩, hc⟩
    · replace hF := condF hb hF
      clear hb
      refine wp_exit ?_
      refine xThen ?_
      refine xThen ?_
      have he := Option.some.inj hF
      rw [← he] at hfin8
      refine cHit ?_
      exact hr8 _ _ _ hfin8 ⟨hf.keep ⟨rfl, rfl, rfl, rfl, trivial⟩, hc⟩

def ref09_lowest_b4 (N : Nat) (a_1 : Int) (b_2 : Int) : Option (Step (Int × Int) (api_Ratio)) :=
  cond (decide (0 < b_2))
  (Option.bind (nz b_2) fun un_2 =>
  some (.cont (b_2, a_1.tmod b_2)))
  (some (.brk (a_1, b_2)))
def ref09_lowest (N : Nat) (n : Int) (d : Int) : Option (api_Ratio) :=
  Option.bind (loopO (fun s4 => ref09_lowest_b4 N s4.1 s4.2) N (n, d)) fun x4 =>
  exK x4 (fun s4 => Option.bind (nz s4.1) fun un =>
  Option.bind (nz s4.1) fun un_1 =>
  some (⟨W (n.tdiv s4.1), W (d.tdiv s4.1)⟩ : api_Ratio)) some
theorem ref09_lowest_ok {N : Nat} {G : Pers} {Lf : List Ent} {w : World} (n : Int) (d : Int)   (hc : Ctx G (Lf) w) {res : api_Ratio} (hF : ref09_lowest N n d = some res) : Calls Try.prog 92 #[.int .i64 n, .int .i64 d] w (fun e w => e = .returned (.agg #[.int .i64 res.N, .int .i64 res.D]) ∧ Ctx G (Lf) w) := by
  unfold ref09_lowest at hF
  refine fnIn (args := [.int .i64 n, .int .i64 d]) Try.func92 rfl Try.ntmps92 rfl fun a hf => ?_
  refine wp_seq_k fun K1 h1 => ?_
  refine cReg ?_
  refine stAl (cs := [.int .i64 0, .int .i64 0]) hf hc rfl rfl zr_71 rfl fun b_1 a w hf hc => ?_
  refine cNil ?_
  refine h1 _ _ ?_
  refine wp_seq_k fun K2 h2 => ?_
  refine cReg ?_
  refine stP hf rfl rfl rfl (pM rfl) fun a hf => ?_
  refine stP hf rfl rfl rfl (pM rfl) fun a hf => ?_
  refine stP hf rfl rfl rfl (pA rfl) fun a hf => ?_
  refine stP hf rfl rfl rfl (pA rfl) fun a hf => ?_
  refine cNil ?_
  refine h2 _ _ ?_
  refine wp_seq_k fun K3 h3 => ?_
  refine wp_block ?_
  obtain ⟨x4, hx4, hF⟩ := bnd_some hF
  let S4 : (Int × Int) → Act → World → Prop := (fun (zz : Int × Int) a w => Has 22 a [(0, .int .i64 n), (1, .int .i64 d), (4, .pointer (some ⟨b_1, 0, none⟩)), (5, .int .i64 zz.1), (6, .int .i64 zz.2)] ∧ Ctx G (.box b_1 [.int .i64 0, .int .i64 0] 71 :: Lf) w)
  have hr4 : ∀ (zz : Int × Int) a w, x4 = .go zz → S4 zz a w → K3 a w := by
    rintro ⟨a_1, b_2⟩ a w rfl ⟨hf, hc⟩
    replace hF : _ = some res := hF
    refine h3 _ _ ?_
    refine wp_seq_k fun K5 h5 => ?_
    obtain ⟨un, hun, hF⟩ := bnd_some hF
    obtain ⟨un_1, hun_1, hF⟩ := bnd_some hF
    refine regionE (fun θ => [⟨none, none, 0, .int .i64 n⟩, ⟨none, none, 1, .int .i64 d⟩, ⟨none, none, 4, .pointer (some ⟨b_1, 0, none⟩)⟩, ⟨none, none, 5, .int .i64 a_1⟩, ⟨some 0, none, 15, .int .i64 n⟩, ⟨some 1, none, 16, .int .i64 a_1⟩, ⟨some 2, none, 17, .int .i64 (W (n.tdiv a_1))⟩, ⟨some 3, none, 18, .int .i64 d⟩, ⟨some 4, none, 19, .int .i64 a_1⟩, ⟨some 5, none, 20, .int .i64 (W (d.tdiv a_1))⟩, ⟨some 6, none, 21, .agg #[.int .i64 (W (n.tdiv a_1)), .int .i64 (W (d.tdiv a_1))]⟩]) (fun E θ => (bif E 7 then .box b_1 [.int .i64 (W (n.tdiv a_1)), .int .i64 (W (d.tdiv a_1))] 71 else .box b_1 [.int .i64 0, .int .i64 0] 71) :: Lf) [] (fun a w => Has 22 a [(4, .pointer (some ⟨b_1, 0, none⟩))] ∧ Ctx G (.box b_1 [.int .i64 (W (n.tdiv a_1)), .int .i64 (W (d.tdiv a_1))] 71 :: Lf) w) follows_mx (by kernel_rfl) (by kernel_rfl) (HasE.of hf ⟨rfl, rfl, rfl, rfl, trivial, trivial, trivial, trivial, trivial, trivial, trivial, trivial⟩) hc ⟨?_, ?_, ?_, ?_, ?_, ?_, ?_, ?_, trivial⟩ ?_ ?_
    · intro E θ a w hD hi hp he hc
      have hf := he.h0
      replace hf := hf.more he 0 rfl onT
      refine stP hf rfl rfl rfl (pM rfl) fun a hf => ?_
      refine cNil ?_
      refine xThenN ?_
      intro ds u hau
      refine ⟨θ, he.put0 hi hau hf rfl 4 rfl rfl, ?_⟩
      exact hc
    · intro E θ a w hD hi hp he hc
      have hf := he.h0
      replace hf := hf.more he 3 rfl onT
      refine stP hf rfl rfl rfl (pM rfl) fun a hf => ?_
      refine cNil ?_
      refine xThenN ?_
      intro ds u hau
      refine ⟨θ, he.put0 hi hau hf rfl 5 rfl rfl, ?_⟩
      exact hc
    · intro E θ a w hD hi hp he hc
      have e0 := hp.of (k := 0) rfl
      have e1 := hp.of (k := 1) rfl
      have hf := he.h0
      replace hf := hf.more he 4 rfl (onP e0)
      replace hf := hf.more he 5 rfl (onP e1)
      refine stP hf rfl rfl rfl (pQuo rfl rfl (nz_spec hun)) fun a hf => ?_
      refine cNil ?_
      refine xThenN ?_
      intro ds u hau
      refine ⟨θ, he.put0 hi hau hf rfl 6 rfl rfl, ?_⟩
      exact hc
    · intro E θ a w hD hi hp he hc
      have hf := he.h0
      replace hf := hf.more he 1 rfl onT
      refine stP hf rfl rfl rfl (pM rfl) fun a hf => ?_
      refine cNil ?_
      refine xThenN ?_
      intro ds u hau
      refine ⟨θ, he.put0 hi hau hf rfl 7 rfl rfl, ?_⟩
      exact hc
    · intro E θ a w hD hi hp he hc
      have hf := he.h0
      replace hf := hf.more he 3 rfl onT
      refine stP hf rfl rfl rfl (pM rfl) fun a hf => ?_
      refine cNil ?_
      refine xThenN ?_
      intro ds u hau
      refine ⟨θ, he.put0 hi hau hf rfl 8 rfl rfl, ?_⟩
      exact hc
    · intro E θ a w hD hi hp he hc
      have e3 := hp.of (k := 3) rfl
      have e4 := hp.of (k := 4) rfl
      have hf := he.h0
      replace hf := hf.more he 7 rfl (onP e3)
      replace hf := hf.more he 8 rfl (onP e4)
      refine stP hf rfl rfl rfl (pQuo rfl rfl (nz_spec hun_1)) fun a hf => ?_
      refine cNil ?_
      refine xThenN ?_
      intro ds u hau
      refine ⟨θ, he.put0 hi hau hf rfl 9 rfl rfl, ?_⟩
      exact hc
    · intro E θ a w hD hi hp he hc
      have e2 := hp.of (k := 2) rfl
      have e5 := hp.of (k := 5) rfl
      have hf := he.h0
      replace hf := hf.more he 6 rfl (onP e2)
      replace hf := hf.more he 9 rfl (onP e5)
      refine stP hf rfl rfl rfl (pBuildS (cells := [.int .i64 (W (n.tdiv a_1)), .int .i64 (W (d.tdiv a_1))]) bt_71 rfl rfl) fun a hf => ?_
      refine cNil ?_
      refine xThenN ?_
      intro ds u hau
      refine ⟨θ, he.put0 hi hau hf rfl 10 rfl rfl, ?_⟩
      exact hc
    · intro E θ a w hD hi hp he hc
      have e6 := hp.of (k := 6) rfl
      try dsimp only at hc
      rw [hi] at hc
      have hf := he.h0
      replace hf := hf.more he 2 rfl onT
      replace hf := hf.more he 10 rfl (onP e6)
      refine stSt (vs := [.int .i64 (W (n.tdiv a_1)), .int .i64 (W (d.tdiv a_1))]) hf hc rfl rfl rfl rfl sz_71 rfl rfl u0 fun w hc => ?_
      refine cNil ?_
      refine xThenN ?_
      intro ds u hau
      refine ⟨θ, he.stay0 hi hau hf rfl, ?_⟩
      try dsimp only
      rw [updE_self E 7]
      exact hc
    · intro E θ a w hall he hc
      have hf := he.h0
      have e7 := hall 7 rfl
      replace hf := hf.more he 2 rfl (onT)
      try dsimp only at hc
      rw [e7] at hc
      exact ⟨hf.keep ⟨rfl, trivial⟩, hc⟩
    rintro a w ⟨hf, hc⟩
    refine h5 _ _ ?_
    refine wp_ret ?_
    obtain rfl := Option.some.inj hF
    exact fnOut1 (by simp) rfl Try.results92 hf hc (rv_cellN (vs := [.int .i64 (W (n.tdiv a_1)), .int .i64 (W (d.tdiv a_1))]) ag_71 rfl rfl (cells_box (n := 2) m0 rfl)) ⟨rfl, (hc.drop k0)⟩
  have ho4 : ∀ r, x4 = .out r → r = res := by
    rintro r rfl
    exact Option.some.inj hF
  refine cLoop N (loopW (S := S4) (x := x4) ?_ N (n, d) _ _ ⟨hf.keep ⟨rfl, rfl, rfl, rfl, rfl, trivial⟩, hc⟩ hx4)
  clear hF hf hc
  rintro ⟨a_1, b_2⟩ st4 a w KB4 ⟨hf, hc⟩ hF hfin4 hK4
  unfold ref09_lowest_b4 at hF
  refine wp_seq_k fun K6 h6 => ?_
  refine wp_seq_k fun K7 h7 => ?_
  refine cReg ?_
  refine stP hf rfl rfl rfl (pM rfl) fun a hf => ?_
  refine stP hf rfl rfl rfl (pGt rfl rfl) fun a hf => ?_
  refine cNil ?_
  refine h7 _ _ ?_
  refine cCond (b := (decide (0 < b_2))) hf rfl (fun hb => ?_) (fun hb => ?_)
  · replace hF := condT hb hF
    clear hb
    refine wp_skip ?_
    refine h6 _ _ ?_
    refine wp_thenK fun K8 h8 => ?_
    refine wp_block ?_
    obtain ⟨un_2, hun_2, hF⟩ := bnd_some hF
    refine cQ hc follows_mx (by kernel_rfl) ?_
    refine qE hf rfl rfl rfl (Pu.ev (pM rfl)) fun a hf => ?_
    refine qE hf rfl rfl rfl (Pu.ev (pM rfl)) fun a hf => ?_
    refine qE hf rfl rfl rfl (Pu.ev (pM rfl)) fun a hf => ?_
    refine qE hf rfl rfl rfl (Pu.ev (pRem rfl rfl (nz_spec hun_2))) fun a hf => ?_
    refine qE hf rfl rfl rfl (Pu.ev (pA rfl)) fun a hf => ?_
    refine qE hf rfl rfl rfl (Pu.ev (pA rfl)) fun a hf => ?_
    intro w hc
    refine h8 _ _ ?_
    exact hK4 (b_2, a_1.tmod b_2) _ _ (Option.some.inj hF).symm ⟨hf.keep ⟨rfl, rfl, rfl, rfl, rfl, trivial⟩, hc⟩
  · replace hF := condF hb hF
    clear hb
    refine wp_exit ?_
    refine xThen ?_
    refine xThen ?_
    have he := Option.some.inj hF
    rw [← he] at hfin4
    refine cHit ?_
    exact hr4 _ _ _ hfin4 ⟨hf.keep ⟨rfl, rfl, rfl, rfl, rfl, trivial⟩, hc⟩

def ref09_Proves_b11 (N : Nat) (claims : List Int) (shares : List Int) (rule : Int) (x : api_Ratio) (i_1 : Int) : Option (Step (Int) (Bool × Int)) :=
  cond (decide (i_1 < ((claims.length : Nat) : Int)))
  (Option.bind (getI shares i_1) fun e_1 =>
  Option.bind (getI shares i_1) fun e_2 =>
  Option.bind (getI claims i_1) fun e_3 =>
  Option.bind (cond (decide ((W ((W (2 * e_3)) * x.D)) < (W ((ref09_ask rule e_1) * x.N)))) (some true) (Option.bind (getI claims i_1) fun e_4 =>
  some (decide ((W ((ref09_ask rule (W (e_2 + 1))) * x.N)) < (W ((W (2 * e_4)) * x.D)))))) fun t_1 =>
  cond t_1
  (some (.ret (false, 0)))
  (some (.cont (W (i_1 + 1)))))
  (some (.brk i_1))
def ref09_Proves (N : Nat) (claims : List Int) (shares : List Int) (rule : Int) (x : api_Ratio) : Option (Bool × Int) :=
  Option.bind (ref09_shared N claims shares rule) fun r =>
  cond (r != 0)
  (some (false, r))
  (cond (((ref09_outside x.N 1 1000000000) || (ref09_outside x.D 1 1000000000)) || (decide ((W (2000000 * x.D)) < x.N)))
  (some (false, 4))
  (Option.bind (loopO (fun s11 => ref09_Proves_b11 N claims shares rule x s11) N 0) fun x11 =>
  exK x11 (fun s11 => some (true, 0)) some))
theorem ref09_Proves_ok {N : Nat} {G : Pers} {Lf : List Ent} {w : World} (claims : List Int) (shares : List Int) (rule : Int) (x : api_Ratio) {claims_p : Option Addr} {claims_c : Nat} {shares_p : Option Addr} {shares_c : Nat} (h_claims : Rd G 1 claims_p claims_c (claims.map encI_i64)) (h_shares : Rd G 1 shares_p shares_c (shares.map encI_i64)) (hc : Ctx G (Lf) w) {res : Bool × Int} (hF : ref09_Proves N claims shares rule x = some res) : Calls Try.prog 42 #[.slice claims_p claims.length claims_c, .slice shares_p shares.length shares_c, .int .i64 rule, .agg #[.int .i64 x.N, .int .i64 x.D]] w (fun e w => e = .returned (.tuple #[.bool res.1, .int .i64 res.2]) ∧ Ctx G (Lf) w) := by
  unfold ref09_Proves at hF
  refine fnIn (args := [.slice claims_p claims.length claims_c, .slice shares_p shares.length shares_c, .int .i64 rule, .agg #[.int .i64 x.N, .int .i64 x.D]]) Try.func42 rfl Try.ntmps42 rfl fun a hf => ?_
  refine wp_seq_k fun K1 h1 => ?_
  refine cReg ?_
  refine stBx (cs := [.int .i64 x.N, .int .i64 x.D]) hf hc rfl rfl rfl rfl fun b_1 a w hf hc => ?_
  refine stP hf rfl rfl rfl (pA rfl) fun a hf => ?_
  refine stP hf rfl rfl rfl (pA rfl) fun a hf => ?_
  refine cNil ?_
  refine h1 _ _ ?_
  refine wp_seq_k fun K2 h2 => ?_
  refine wp_seq_k fun K3 h3 => ?_
  refine cReg ?_
  refine stP hf rfl rfl rfl (pM rfl) fun a hf => ?_
  refine stP hf rfl rfl rfl (pM rfl) fun a hf => ?_
  refine stP hf rfl rfl rfl (pM rfl) fun a hf => ?_
  obtain ⟨r, hr, hF⟩ := bnd_some hF
  refine stE hf hc rfl rfl rfl (eC (v := .int .i64 r) (vs := [.slice claims_p claims.length claims_c, .slice shares_p shares.length shares_c, .int .i64 rule]) (caps := []) en_89 rfl rfl rfl rfl (fun w hc => ref09_shared_ok claims shares rule h_claims h_shares hc hr)) fun a w hf hc => ?_
  refine stP hf rfl rfl rfl (pA rfl) fun a hf => ?_
  refine cNil ?_
  refine h3 _ _ ?_
  refine wp_seq_k fun K4 h4 => ?_
  refine cReg ?_
  refine stP hf rfl rfl rfl (pM rfl) fun a hf => ?_
  refine stP hf rfl rfl rfl (pNe rfl rfl) fun a hf => ?_
  refine cNil ?_
  refine h4 _ _ ?_
  refine cCond (b := (r != 0)) hf rfl (fun hb => ?_) (fun hb => ?_)
  · replace hF := condT hb hF
    clear hb
    refine wp_seq_k fun K5 h5 => ?_
    refine cReg ?_
    refine stP hf rfl rfl rfl (pM rfl) fun a hf => ?_
    refine stP hf rfl rfl rfl (pA rfl) fun a hf => ?_
    refine stP hf rfl rfl rfl (pA rfl) fun a hf => ?_
    refine cNil ?_
    refine h5 _ _ ?_
    refine wp_ret ?_
    refine xThenR ?_
    obtain rfl := Option.some.inj hF
    replace hc := hc.drop k0
    exact fnOut2 (by simp) rfl Try.results42 hf hc (show look _ 8 = _ from rfl) (show look _ 9 = _ from rfl) ⟨rfl, hc⟩
  · replace hF := condF hb hF
    clear hb
    refine wp_skip ?_
    refine h2 _ _ ?_
    refine wp_seq_k fun K6 h6 => ?_
    refine wp_seq_k fun K7 h7 => ?_
    refine cReg ?_
    refine stP hf rfl rfl rfl (pFA fa_71_0 rfl) fun a hf => ?_
    refine stE hf hc rfl rfl rfl (eLd1 sc_3 rfl (cell_box m0 rfl)) fun a w hf hc => ?_
    refine stE hf hc rfl rfl rfl (eC (v := .bool (ref09_outside x.N 1 1000000000)) (vs := [.int .i64 x.N, .int .i64 1, .int .i64 1000000000]) (caps := []) en_74 rfl rfl rfl rfl (fun w hc => ref09_outside_ok x.N 1 1000000000 hc rfl)) fun a w hf hc => ?_
    refine stP hf rfl rfl rfl (pM rfl) fun a hf => ?_
    refine stCut 4 (fun a w => Has 84 a [(0, .slice claims_p claims.length claims_c), (1, .slice shares_p shares.length shares_c), (2, .int .i64 rule), (7, .pointer (some ⟨b_1, 0, none⟩)), (21, .pointer (some ⟨b_1, 0, none⟩)), (22, .int .i64 x.N), (23, .bool (ref09_outside x.N 1 1000000000)), (24, .bool (ref09_outside x.N 1 1000000000)), (28, .bool ((ref09_outside x.N 1 1000000000) || (ref09_outside x.D 1 1000000000)))] ∧ Ctx G (.box b_1 [.int .i64 x.N, .int .i64 x.D] 71 :: Lf) w) ?_ ?_
    · cases hb : (ref09_outside x.N 1 1000000000)
      · rw [hb] at hf
        refine stP hf rfl rfl rfl (pFA fa_71_1 rfl) fun a hf => ?_
        refine stE hf hc rfl rfl rfl (eLd1 sc_3 rfl (cell_box m0 rfl)) fun a w hf hc => ?_
        refine stE hf hc rfl rfl rfl (eC (v := .bool (ref09_outside x.D 1 1000000000)) (vs := [.int .i64 x.D, .int .i64 1, .int .i64 1000000000]) (caps := []) en_74 rfl rfl rfl rfl (fun w hc => ref09_outside_ok x.D 1 1000000000 hc rfl)) fun a w hf hc => ?_
        refine stP hf rfl rfl rfl (pPf rfl rfl) fun a hf => ?_
        exact cNil ⟨hf.keep ⟨rfl, rfl, rfl, rfl, rfl, rfl, rfl, rfl, rfl, trivial⟩, hc⟩
      · rw [hb] at hf
        refine stS hf rfl rfl rfl fun a hf => ?_
        refine stS hf rfl rfl rfl fun a hf => ?_
        refine stS hf rfl rfl rfl fun a hf => ?_
        refine stP hf rfl rfl rfl (pPt rfl rfl) fun a hf => ?_
        exact cNil ⟨hf.keep ⟨rfl, rfl, rfl, rfl, rfl, rfl, rfl, rfl, rfl, trivial⟩, hc⟩
    intro a w ⟨hf, hc⟩
    refine stP hf rfl rfl rfl (pM rfl) fun a hf => ?_
    refine stCut 7 (fun a w => Has 84 a [(0, .slice claims_p claims.length claims_c), (1, .slice shares_p shares.length shares_c), (2, .int .i64 rule), (7, .pointer (some ⟨b_1, 0, none⟩)), (21, .pointer (some ⟨b_1, 0, none⟩)), (22, .int .i64 x.N), (23, .bool (ref09_outside x.N 1 1000000000)), (24, .bool (ref09_outside x.N 1 1000000000)), (28, .bool ((ref09_outside x.N 1 1000000000) || (ref09_outside x.D 1 1000000000))), (29, .bool ((ref09_outside x.N 1 1000000000) || (ref09_outside x.D 1 1000000000))), (36, .bool (((ref09_outside x.N 1 1000000000) || (ref09_outside x.D 1 1000000000)) || (decide ((W (2000000 * x.D)) < x.N))))] ∧ Ctx G (.box b_1 [.int .i64 x.N, .int .i64 x.D] 71 :: Lf) w) ?_ ?_
    · cases hb : ((ref09_outside x.N 1 1000000000) || (ref09_outside x.D 1 1000000000))
      · rw [hb] at hf
        refine stP hf rfl rfl rfl (pFA fa_71_0 rfl) fun a hf => ?_
        refine stE hf hc rfl rfl rfl (eLd1 sc_3 rfl (cell_box m0 rfl)) fun a w hf hc => ?_
        refine stP hf rfl rfl rfl (pFA fa_71_1 rfl) fun a hf => ?_
        refine stE hf hc rfl rfl rfl (eLd1 sc_3 rfl (cell_box m0 rfl)) fun a w hf hc => ?_
        refine stP hf rfl rfl rfl (pMul rfl rfl) fun a hf => ?_
        refine stP hf rfl rfl rfl (pGt rfl rfl) fun a hf => ?_
        refine stP hf rfl rfl rfl (pPf rfl rfl) fun a hf => ?_
        exact cNil ⟨hf.keep ⟨rfl, rfl, rfl, rfl, rfl, rfl, rfl, rfl, rfl, rfl, rfl, trivial⟩, hc⟩
      · rw [hb] at hf
        refine stS hf rfl rfl rfl fun a hf => ?_
        refine stS hf rfl rfl rfl fun a hf => ?_
        refine stS hf rfl rfl rfl fun a hf => ?_
        refine stS hf rfl rfl rfl fun a hf => ?_
        refine stS hf rfl rfl rfl fun a hf => ?_
        refine stS hf rfl rfl rfl fun a hf => ?_
        refine stP hf rfl rfl rfl (pPt rfl rfl) fun a hf => ?_
        exact cNil ⟨hf.keep ⟨rfl, rfl, rfl, rfl, rfl, rfl, rfl, rfl, rfl, rfl, rfl, trivial⟩, hc⟩
    intro a w ⟨hf, hc⟩
    refine cNil ?_
    refine h7 _ _ ?_
    refine cCond (b := (((ref09_outside x.N 1 1000000000) || (ref09_outside x.D 1 1000000000)) || (decide ((W (2000000 * x.D)) < x.N)))) hf rfl (fun hb => ?_) (fun hb => ?_)
    · replace hF := condT hb hF
      clear hb
      refine wp_seq_k fun K8 h8 => ?_
      refine cReg ?_
      refine stP hf rfl rfl rfl (pA rfl) fun a hf => ?_
      refine stP hf rfl rfl rfl (pA rfl) fun a hf => ?_
      refine cNil ?_
      refine h8 _ _ ?_
      refine wp_ret ?_
      refine xThenR ?_
      obtain rfl := Option.some.inj hF
      replace hc := hc.drop k0
      exact fnOut2 (by simp) rfl Try.results42 hf hc (show look _ 8 = _ from rfl) (show look _ 9 = _ from rfl) ⟨rfl, hc⟩
    · replace hF := condF hb hF
      clear hb
      refine wp_skip ?_
      refine h6 _ _ ?_
      refine wp_seq_k fun K9 h9 => ?_
      refine wp_seq_k fun K10 h10 => ?_
      refine cReg ?_
      refine stP hf rfl rfl rfl (pA rfl) fun a hf => ?_
      refine cNil ?_
      refine h10 _ _ ?_
      refine wp_block ?_
      obtain ⟨x11, hx11, hF⟩ := bnd_some hF
      let S11 : Int → Act → World → Prop := (fun (zz : Int) a w => Has 84 a [(0, .slice claims_p claims.length claims_c), (1, .slice shares_p shares.length shares_c), (2, .int .i64 rule), (7, .pointer (some ⟨b_1, 0, none⟩)), (11, .int .i64 zz)] ∧ Ctx G (.box b_1 [.int .i64 x.N, .int .i64 x.D] 71 :: Lf) w)
      have hr11 : ∀ (zz : Int) a w, x11 = .go zz → S11 zz a w → K9 a w := by
        rintro i_1 a w rfl ⟨hf, hc⟩
        replace hF : _ = some res := hF
        refine h9 _ _ ?_
        refine wp_seq_k fun K12 h12 => ?_
        refine cReg ?_
        refine stP hf rfl rfl rfl (pA rfl) fun a hf => ?_
        refine stP hf rfl rfl rfl (pA rfl) fun a hf => ?_
        refine cNil ?_
        refine h12 _ _ ?_
        refine wp_ret ?_
        obtain rfl := Option.some.inj hF
        replace hc := hc.drop k0
        exact fnOut2 (by simp) rfl Try.results42 hf hc (show look _ 8 = _ from rfl) (show look _ 9 = _ from rfl) ⟨rfl, hc⟩
      have ho11 : ∀ r, x11 = .out r → r = res := by
        rintro r rfl
        exact Option.some.inj hF
      refine cLoop N (loopW (S := S11) (x := x11) ?_ N 0 _ _ ⟨hf.keep ⟨rfl, rfl, rfl, rfl, rfl, trivial⟩, hc⟩ hx11)
      clear hF hf hc
      rintro i_1 st11 a w KB11 ⟨hf, hc⟩ hF hfin11 hK11
      unfold ref09_Proves_b11 at hF
      refine wp_seq_k fun K13 h13 => ?_
      refine wp_seq_k fun K14 h14 => ?_
      refine cReg ?_
      refine stP hf rfl rfl rfl (pM rfl) fun a hf => ?_
      refine stP hf rfl rfl rfl (pM rfl) fun a hf => ?_
      refine stP hf rfl rfl rfl (pLenS Try.underlying36 rfl) fun a hf => ?_
      refine stP hf rfl rfl rfl (pLt rfl rfl) fun a hf => ?_
      refine cNil ?_
      refine h14 _ _ ?_
      refine cCond (b := (decide (i_1 < ((claims.length : Nat) : Int)))) hf rfl (fun hb => ?_) (fun hb => ?_)
      · replace hF := condT hb hF
        clear hb
        refine wp_skip ?_
        refine h13 _ _ ?_
        refine wp_seq_k fun K15 h15 => ?_
        refine wp_block ?_
        refine wp_seq_k fun K16 h16 => ?_
        obtain ⟨e_1, he_1, hF⟩ := bnd_some hF
        obtain ⟨b_2, o, qa, qp⟩ := h_shares.atm he_1
        obtain ⟨e_2, he_2, hF⟩ := bnd_some hF
        obtain ⟨b_3, o_1, qa_1, qp_1⟩ := h_shares.atm he_2
        refine cQ hc follows_mx (by kernel_rfl) ?_
        refine qE hf rfl rfl rfl (Pu.ev (pM rfl)) fun a hf => ?_
        refine qE hf rfl rfl rfl (Pu.ev (pM rfl)) fun a hf => ?_
        refine qE hf rfl rfl rfl (Pu.ev (pM rfl)) fun a hf => ?_
        refine qE hf rfl rfl rfl (Pu.ev (pIA Try.underlying36 sz_3 rfl rfl qa)) fun a hf => ?_
        refine qE hf rfl rfl rfl (eLd1 sc_3 rfl (cell_pc (j := 0) qp rfl)) fun a hf => ?_
        refine qE hf rfl rfl rfl (eC (v := .int .i64 (ref09_ask rule e_1)) (vs := [.int .i64 rule, .int .i64 e_1]) (caps := []) en_87 rfl rfl rfl rfl (fun w hc => ref09_ask_ok rule e_1 hc rfl)) fun a hf => ?_
        refine qE hf rfl rfl rfl (Pu.ev (pM rfl)) fun a hf => ?_
        refine qE hf rfl rfl rfl (Pu.ev (pM rfl)) fun a hf => ?_
        refine qE hf rfl rfl rfl (Pu.ev (pM rfl)) fun a hf => ?_
        refine qE hf rfl rfl rfl (Pu.ev (pIA Try.underlying36 sz_3 rfl rfl qa_1)) fun a hf => ?_
        refine qE hf rfl rfl rfl (eLd1 sc_3 rfl (cell_pc (j := 0) qp_1 rfl)) fun a hf => ?_
        refine qE hf rfl rfl rfl (Pu.ev (pAdd rfl rfl)) fun a hf => ?_
        refine qE hf rfl rfl rfl (eC (v := .int .i64 (ref09_ask rule (W (e_2 + 1)))) (vs := [.int .i64 rule, .int .i64 (W (e_2 + 1))]) (caps := []) en_87 rfl rfl rfl rfl (fun w hc => ref09_ask_ok rule (W (e_2 + 1)) hc rfl)) fun a hf => ?_
        refine qE hf rfl rfl rfl (Pu.ev (pA rfl)) fun a hf => ?_
        refine qE hf rfl rfl rfl (Pu.ev (pA rfl)) fun a hf => ?_
        intro w hc
        refine h16 _ _ ?_
        refine wp_seq_k fun K17 h17 => ?_
        obtain ⟨e_3, he_3, hF⟩ := bnd_some hF
        obtain ⟨b_4, o_2, qa_2, qp_2⟩ := h_claims.atm he_3
        obtain ⟨t_1, ht_1, hF⟩ := bnd_some hF
        refine cQ hc follows_mx (by kernel_rfl) ?_
        refine qE hf rfl rfl rfl (Pu.ev (pM rfl)) fun a hf => ?_
        refine qE hf rfl rfl rfl (Pu.ev (pM rfl)) fun a hf => ?_
        refine qE hf rfl rfl rfl (Pu.ev (pIA Try.underlying36 sz_3 rfl rfl qa_2)) fun a hf => ?_
        refine qE hf rfl rfl rfl (eLd1 sc_3 rfl (cell_pc (j := 0) qp_2 rfl)) fun a hf => ?_
        refine qE hf rfl rfl rfl (Pu.ev (pMul rfl rfl)) fun a hf => ?_
        refine qE hf rfl rfl rfl (Pu.ev (pFA fa_71_1 rfl)) fun a hf => ?_
        refine qE hf rfl rfl rfl (eLd1 sc_3 rfl (cell_box m0 rfl)) fun a hf => ?_
        refine qE hf rfl rfl rfl (Pu.ev (pMul rfl rfl)) fun a hf => ?_
        refine qE hf rfl rfl rfl (Pu.ev (pM rfl)) fun a hf => ?_
        refine qE hf rfl rfl rfl (Pu.ev (pFA fa_71_0 rfl)) fun a hf => ?_
        refine qE hf rfl rfl rfl (eLd1 sc_3 rfl (cell_box m0 rfl)) fun a hf => ?_
        refine qE hf rfl rfl rfl (Pu.ev (pMul rfl rfl)) fun a hf => ?_
        refine qE hf rfl rfl rfl (Pu.ev (pLt rfl rfl)) fun a hf => ?_
        refine qE hf rfl rfl rfl (Pu.ev (pM rfl)) fun a hf => ?_
        refine qCut 14 (fun a => Has 84 a [(0, .slice claims_p claims.length claims_c), (1, .slice shares_p shares.length shares_c), (2, .int .i64 rule), (7, .pointer (some ⟨b_1, 0, none⟩)), (11, .int .i64 i_1), (12, .int .i64 (ref09_ask rule e_1)), (13, .int .i64 (ref09_ask rule (W (e_2 + 1)))), (56, .slice claims_p claims.length claims_c), (57, .int .i64 i_1), (58, .pointer (some ⟨b_4, o_2, none⟩)), (59, .int .i64 e_3), (60, .int .i64 (W (2 * e_3))), (61, .pointer (some ⟨b_1, 1, none⟩)), (62, .int .i64 x.D), (63, .int .i64 (W ((W (2 * e_3)) * x.D))), (64, .int .i64 (ref09_ask rule e_1)), (65, .pointer (some ⟨b_1, 0, none⟩)), (66, .int .i64 x.N), (67, .int .i64 (W ((ref09_ask rule e_1) * x.N))), (68, .bool (decide ((W ((W (2 * e_3)) * x.D)) < (W ((ref09_ask rule e_1) * x.N))))), (69, .bool (decide ((W ((W (2 * e_3)) * x.D)) < (W ((ref09_ask rule e_1) * x.N))))), (83, .bool t_1)]) ?_ ?_
        · cases hb : (decide ((W ((W (2 * e_3)) * x.D)) < (W ((ref09_ask rule e_1) * x.N))))
          · rw [hb] at hf
            have hF := condF hb ht_1
            obtain ⟨e_4, he_4, hF⟩ := bnd_some hF
            obtain ⟨b_5, o_3, qa_3, qp_3⟩ := h_claims.atm he_4
            refine qE hf rfl rfl rfl (Pu.ev (pM rfl)) fun a hf => ?_
            refine qE hf rfl rfl rfl (Pu.ev (pM rfl)) fun a hf => ?_
            refine qE hf rfl rfl rfl (Pu.ev (pIA Try.underlying36 sz_3 rfl rfl qa_3)) fun a hf => ?_
            refine qE hf rfl rfl rfl (eLd1 sc_3 rfl (cell_pc (j := 0) qp_3 rfl)) fun a hf => ?_
            refine qE hf rfl rfl rfl (Pu.ev (pMul rfl rfl)) fun a hf => ?_
            refine qE hf rfl rfl rfl (Pu.ev (pFA fa_71_1 rfl)) fun a hf => ?_
            refine qE hf rfl rfl rfl (eLd1 sc_3 rfl (cell_box m0 rfl)) fun a hf => ?_
            refine qE hf rfl rfl rfl (Pu.ev (pMul rfl rfl)) fun a hf => ?_
            refine qE hf rfl rfl rfl (Pu.ev (pM rfl)) fun a hf => ?_
            refine qE hf rfl rfl rfl (Pu.ev (pFA fa_71_0 rfl)) fun a hf => ?_
            refine qE hf rfl rfl rfl (eLd1 sc_3 rfl (cell_box m0 rfl)) fun a hf => ?_
            refine qE hf rfl rfl rfl (Pu.ev (pMul rfl rfl)) fun a hf => ?_
            refine qE hf rfl rfl rfl (Pu.ev (pGt rfl rfl)) fun a hf => ?_
            refine qE hf rfl rfl rfl (Pu.ev (pPf rfl rfl)) fun a hf => ?_
            obtain rfl := Option.some.inj hF
            exact qNil (hf.keep ⟨rfl, rfl, rfl, rfl, rfl, rfl, rfl, rfl, rfl, rfl, rfl, rfl, rfl, rfl, rfl, rfl, rfl, rfl, rfl, rfl, rfl, rfl, trivial⟩)
          · rw [hb] at hf
            have hF := condT hb ht_1
            obtain rfl := Option.some.inj hF
            refine qS hf rfl rfl rfl fun a hf => ?_
            refine qS hf rfl rfl rfl fun a hf => ?_
            refine qS hf rfl rfl rfl fun a hf => ?_
            refine qS hf rfl rfl rfl fun a hf => ?_
            refine qS hf rfl rfl rfl fun a hf => ?_
            refine qS hf rfl rfl rfl fun a hf => ?_
            refine qS hf rfl rfl rfl fun a hf => ?_
            refine qS hf rfl rfl rfl fun a hf => ?_
            refine qS hf rfl rfl rfl fun a hf => ?_
            refine qS hf rfl rfl rfl fun a hf => ?_
            refine qS hf rfl rfl rfl fun a hf => ?_
            refine qS hf rfl rfl rfl fun a hf => ?_
            refine qS hf rfl rfl rfl fun a hf => ?_
            refine qE hf rfl rfl rfl (Pu.ev (pPt rfl rfl)) fun a hf => ?_
            exact qNil (hf.keep ⟨rfl, rfl, rfl, rfl, rfl, rfl, rfl, rfl, rfl, rfl, rfl, rfl, rfl, rfl, rfl, rfl, rfl, rfl, rfl, rfl, rfl, rfl, trivial⟩)
        intro a hf
        intro w hc
        refine h17 _ _ ?_
        refine cCond (b := t_1) hf rfl (fun hb => ?_) (fun hb => ?_)
        · replace hF := condT hb hF
          clear hb
          refine wp_seq_k fun K18 h18 => ?_
          refine cReg ?_
          refine stP hf rfl rfl rfl (pA rfl) fun a hf => ?_
          refine stP hf rfl rfl rfl (pA rfl) fun a hf => ?_
          refine cNil ?_
          refine h18 _ _ ?_
          refine wp_ret ?_
          refine xBlkR ?_
          refine xThenR ?_
          refine xThenR ?_
          have he := Option.some.inj hF
          rw [← he] at hfin11
          replace hF := ho11 _ hfin11
          refine xBlkR ?_
          refine xThenR ?_
          obtain rfl := hF
          replace hc := hc.drop k0
          exact fnOut2 (by simp) rfl Try.results42 hf hc (show look _ 8 = _ from rfl) (show look _ 9 = _ from rfl) ⟨rfl, hc⟩
        · replace hF := condF hb hF
          clear hb
          refine wp_skip ?_
          refine h15 _ _ ?_
          refine cReg ?_
          refine stP hf rfl rfl rfl (pM rfl) fun a hf => ?_
          refine stP hf rfl rfl rfl (pAdd rfl rfl) fun a hf => ?_
          refine stP hf rfl rfl rfl (pA rfl) fun a hf => ?_
          refine cNil ?_
          exact hK11 (W (i_1 + 1)) _ _ (Option.some.inj hF).symm ⟨hf.keep ⟨rfl, rfl, rfl, rfl, rfl, trivial⟩, hc⟩
      · replace hF := condF hb hF
        clear hb
        refine wp_exit ?_
        refine xThen ?_
        refine xThen ?_
        have he := Option.some.inj hF
        rw [← he] at hfin11
        refine cHit ?_
        exact hr11 _ _ _ hfin11 ⟨hf.keep ⟨rfl, rfl, rfl, rfl, rfl, trivial⟩, hc⟩

def ref09_Divisors_j20 (N : Nat) (i_2 : Int) (l_2 : List api_Ratio) (x_4 : Int) (x_5 : Int) (x_6 : Int) (x_7 : Int) : Option (Step ((List api_Ratio) × Int × Int × Int × Int × Int) (api_Ratio × api_Ratio × Int)) :=
  some (.cont (l_2, W (i_2 + 1), x_4, x_5, x_6, x_7))
def ref09_Divisors_j24 (N : Nat) (l_1 : List api_Ratio) (i_2 : Int) (x_2 : Int) (x_3 : Int) (x_8 : Int) (x_9 : Int) : Option (Step ((List api_Ratio) × Int × Int × Int × Int × Int) (api_Ratio × api_Ratio × Int)) :=
  Option.bind (cond (x_3 == 0) (some true) (Option.bind (getI l_1 i_2) fun e_2 =>
  Option.bind (getI l_1 i_2) fun e_3 =>
  some (decide ((W (x_2 * e_3.D)) < (W (e_2.N * x_3)))))) fun t_1 =>
  cond t_1
  (Option.bind (getI l_1 i_2) fun e_4 =>
  ref09_Divisors_j20 N i_2 l_1 x_8 x_9 e_4.N e_4.D)
  (ref09_Divisors_j20 N i_2 l_1 x_8 x_9 x_2 x_3)
def ref09_Divisors_b13 (N : Nat) (claims : List Int) (shares : List Int) (rule : Int) (l_1 : List api_Ratio) (i_2 : Int) (x : Int) (x_1 : Int) (x_2 : Int) (x_3 : Int) : Option (Step ((List api_Ratio) × Int × Int × Int × Int × Int) (api_Ratio × api_Ratio × Int)) :=
  cond (decide (i_2 < ((l_1.length : Nat) : Int)))
  (Option.bind (getI l_1 i_2) fun e_1 =>
  Option.bind (ref09_Proves N claims shares rule e_1) fun r_1 =>
  cond ((r_1.2 != 0) || (!r_1.1))
  (ref09_Divisors_j20 N i_2 l_1 x x_1 x_2 x_3)
  (Option.bind (cond (x_1 == 0) (some true) (Option.bind (getI l_1 i_2) fun e_5 =>
  Option.bind (getI l_1 i_2) fun e_6 =>
  some (decide ((W (e_5.N * x_1)) < (W (x * e_6.D)))))) fun t_2 =>
  cond t_2
  (Option.bind (getI l_1 i_2) fun e_7 =>
  ref09_Divisors_j24 N l_1 i_2 x_2 x_3 e_7.N e_7.D)
  (ref09_Divisors_j24 N l_1 i_2 x_2 x_3 x x_1)))
  (some (.brk (l_1, i_2, x, x_1, x_2, x_3)))
def ref09_Divisors_j35 (N : Nat) (k : Int) (l_4 : List api_Ratio) : Option (Step ((List api_Ratio) × Int) (Step ((List api_Ratio) × Int) (api_Ratio × api_Ratio × Int))) :=
  some (.cont (l_4, W (k + 1)))
def ref09_Divisors_b32 (N : Nat) (claims : List Int) (shares : List Int) (rule : Int) (i_1 : Int) (l_3 : List api_Ratio) (k : Int) : Option (Step ((List api_Ratio) × Int) (Step ((List api_Ratio) × Int) (api_Ratio × api_Ratio × Int))) :=
  cond (decide (k < 2))
  (Option.bind (getI shares i_1) fun e_8 =>
  cond (decide (0 < (ref09_ask rule (W (e_8 + k)))))
  (Option.bind (getI claims i_1) fun e_9 =>
  Option.bind (ref09_lowest N (W (2 * e_9)) (ref09_ask rule (W (e_8 + k)))) fun r_2 =>
  Option.bind (room ((l_3 ++ [r_2])).length) fun un =>
  ref09_Divisors_j35 N k (l_3 ++ [r_2]))
  (ref09_Divisors_j35 N k l_3))
  (some (.brk (l_3, k)))
def ref09_Divisors_b9 (N : Nat) (claims : List Int) (shares : List Int) (rule : Int) (l : List api_Ratio) (i_1 : Int) : Option (Step ((List api_Ratio) × Int) (api_Ratio × api_Ratio × Int)) :=
  cond (decide (i_1 < ((claims.length : Nat) : Int)))
  (Option.bind (loopO (fun s32 => ref09_Divisors_b32 N claims shares rule i_1 s32.1 s32.2) N (l, 0)) fun x32 =>
  exK x32 (fun s32 => some (.cont (s32.1, W (i_1 + 1)))) some)
  (some (.brk (l, i_1)))
def ref09_Divisors (N : Nat) (claims : List Int) (shares : List Int) (rule : Int) : Option (api_Ratio × api_Ratio × Int) :=
  Option.bind (ref09_shared N claims shares rule) fun r =>
  cond (r != 0)
  (some ((⟨0, 0⟩ : api_Ratio), (⟨0, 0⟩ : api_Ratio), r))
  (Option.bind (loopO (fun s9 => ref09_Divisors_b9 N claims shares rule s9.1 s9.2) N (([(⟨2000000, 1⟩ : api_Ratio)] : List api_Ratio), 0)) fun x9 =>
  exK x9 (fun s9 => Option.bind (loopO (fun s13 => ref09_Divisors_b13 N claims shares rule s13.1 s13.2.1 s13.2.2.1 s13.2.2.2.1 s13.2.2.2.2.1 s13.2.2.2.2.2) N (s9.1, 0, 0, 0, 0, 0)) fun x13 =>
  exK x13 (fun s13 => cond (s13.2.2.2.1 == 0)
  (some ((⟨0, 0⟩ : api_Ratio), (⟨0, 0⟩ : api_Ratio), 7))
  (some ((⟨s13.2.2.1, s13.2.2.2.1⟩ : api_Ratio), (⟨s13.2.2.2.2.1, s13.2.2.2.2.2⟩ : api_Ratio), 0))) some) some)
theorem ref09_Divisors_ok {N : Nat} {G : Pers} {Lf : List Ent} {w : World} (claims : List Int) (shares : List Int) (rule : Int) {claims_p : Option Addr} {claims_c : Nat} {shares_p : Option Addr} {shares_c : Nat} (h_claims : Rd G 1 claims_p claims_c (claims.map encI_i64)) (h_shares : Rd G 1 shares_p shares_c (shares.map encI_i64)) (hc : Ctx G (Lf) w) {res : api_Ratio × api_Ratio × Int} (hF : ref09_Divisors N claims shares rule = some res) : Calls Try.prog 40 #[.slice claims_p claims.length claims_c, .slice shares_p shares.length shares_c, .int .i64 rule] w (fun e w => e = .returned (.tuple #[.agg #[.int .i64 res.1.N, .int .i64 res.1.D], .agg #[.int .i64 res.2.1.N, .int .i64 res.2.1.D], .int .i64 res.2.2]) ∧ Ctx G (Lf) w) := by
  unfold ref09_Divisors at hF
  refine fnIn (args := [.slice claims_p claims.length claims_c, .slice shares_p shares.length shares_c, .int .i64 rule]) Try.func40 rfl Try.ntmps40 rfl fun a hf => ?_
  refine wp_seq_k fun K1 h1 => ?_
  refine cReg ?_
  refine stAl (cs := [.int .i64 0, .int .i64 0]) hf hc rfl rfl zr_71 rfl fun b_1 a w hf hc => ?_
  refine stAl (cs := [.int .i64 0, .int .i64 0]) hf hc rfl rfl zr_71 rfl fun b_2 a w hf hc => ?_
  refine stP hf rfl rfl rfl (pA rfl) fun a hf => ?_
  refine cNil ?_
  refine h1 _ _ ?_
  refine wp_seq_k fun K2 h2 => ?_
  refine wp_seq_k fun K3 h3 => ?_
  refine cReg ?_
  refine stP hf rfl rfl rfl (pM rfl) fun a hf => ?_
  refine stP hf rfl rfl rfl (pM rfl) fun a hf => ?_
  refine stP hf rfl rfl rfl (pM rfl) fun a hf => ?_
  obtain ⟨r, hr, hF⟩ := bnd_some hF
  refine stE hf hc rfl rfl rfl (eC (v := .int .i64 r) (vs := [.slice claims_p claims.length claims_c, .slice shares_p shares.length shares_c, .int .i64 rule]) (caps := []) en_89 rfl rfl rfl rfl (fun w hc => ref09_shared_ok claims shares rule h_claims h_shares hc hr)) fun a w hf hc => ?_
  refine stP hf rfl rfl rfl (pA rfl) fun a hf => ?_
  refine cNil ?_
  refine h3 _ _ ?_
  refine wp_seq_k fun K4 h4 => ?_
  refine cReg ?_
  refine stP hf rfl rfl rfl (pM rfl) fun a hf => ?_
  refine stP hf rfl rfl rfl (pNe rfl rfl) fun a hf => ?_
  refine cNil ?_
  refine h4 _ _ ?_
  refine cCond (b := (r != 0)) hf rfl (fun hb => ?_) (fun hb => ?_)
  · replace hF := condT hb hF
    clear hb
    refine wp_seq_k fun K5 h5 => ?_
    refine cReg ?_
    refine stP hf rfl rfl rfl (pBuildS (cells := [.int .i64 0, .int .i64 0]) bt_71 rfl rfl) fun a hf => ?_
    refine stP hf rfl rfl rfl (pBuildS (cells := [.int .i64 0, .int .i64 0]) bt_71 rfl rfl) fun a hf => ?_
    refine stP hf rfl rfl rfl (pM rfl) fun a hf => ?_
    refine stSt (vs := [.int .i64 0, .int .i64 0]) hf hc rfl rfl rfl rfl sz_71 rfl rfl u1 fun w hc => ?_
    refine stSt (vs := [.int .i64 0, .int .i64 0]) hf hc rfl rfl rfl rfl sz_71 rfl rfl u0 fun w hc => ?_
    refine stP hf rfl rfl rfl (pA rfl) fun a hf => ?_
    refine cNil ?_
    refine h5 _ _ ?_
    refine wp_ret ?_
    refine xThenR ?_
    obtain rfl := Option.some.inj hF
    replace hc := hc.pick k0
    replace hc := hc.pick k1
    exact fnOut3 (by simp) rfl Try.results40 hf hc (rv_cellN (vs := [.int .i64 0, .int .i64 0]) ag_71 rfl rfl (cells_box (n := 2) m0 rfl)) (rv_cellN (vs := [.int .i64 0, .int .i64 0]) ag_71 rfl rfl (cells_box (n := 2) m1 rfl)) (show look _ 8 = _ from rfl) ⟨rfl, ((hc.drop k1).drop k0)⟩
  · replace hF := condF hb hF
    clear hb
    refine wp_skip ?_
    refine h2 _ _ ?_
    refine wp_seq_k fun K6 h6 => ?_
    refine cReg ?_
    refine stP hf rfl rfl rfl (pBuildS (cells := [.int .i64 2000000, .int .i64 1]) bt_71 rfl rfl) fun a hf => ?_
    refine stBS (rows := ([(⟨2000000, 1⟩ : api_Ratio)] : List api_Ratio).map enc_api_Ratio) (vs := [(0, .agg #[.int .i64 2000000, .int .i64 1])]) hf hc rfl rfl sl_84 rfl ⟨rfl, rfl, rfl, trivial⟩ rfl rfl fun b_3 a w hf hc => ?_
    refine stP hf rfl rfl rfl (pA rfl) fun a hf => ?_
    refine cNil ?_
    refine h6 _ _ ?_
    refine wp_seq_k fun K7 h7 => ?_
    refine wp_seq_k fun K8 h8 => ?_
    refine cReg ?_
    refine stP hf rfl rfl rfl (pA rfl) fun a hf => ?_
    refine cNil ?_
    refine h8 _ _ ?_
    refine wp_block ?_
    obtain ⟨x9, hx9, hF⟩ := bnd_some hF
    let S9 : ((List api_Ratio) × Int) → Act → World → Prop := (fun (zz : (List api_Ratio) × Int) a w => ∃ (p_1 : Option Addr) (c_1 : Nat), Has 142 a [(0, .slice claims_p claims.length claims_c), (1, .slice shares_p shares.length shares_c), (2, .int .i64 rule), (6, .pointer (some ⟨b_1, 0, none⟩)), (7, .pointer (some ⟨b_2, 0, none⟩)), (10, .slice p_1 zz.1.length c_1), (11, .int .i64 zz.2)] ∧ Ctx G (.row p_1 c_1 (zz.1.map enc_api_Ratio) 71 2 :: .box b_2 [.int .i64 0, .int .i64 0] 71 :: .box b_1 [.int .i64 0, .int .i64 0] 71 :: Lf) w)
    have hr9 : ∀ (zz : (List api_Ratio) × Int) a w, x9 = .go zz → S9 zz a w → K7 a w := by
      rintro ⟨l, i_1⟩ a w rfl ⟨p_1, c_1, hf, hc⟩
      replace hF : _ = some res := hF
      refine h7 _ _ ?_
      refine wp_seq_k fun K10 h10 => ?_
      refine cReg ?_
      refine stAl (cs := [.int .i64 0, .int .i64 0]) hf hc rfl rfl zr_71 rfl fun b_4 a w hf hc => ?_
      refine stAl (cs := [.int .i64 0, .int .i64 0]) hf hc rfl rfl zr_71 rfl fun b_5 a w hf hc => ?_
      refine cNil ?_
      refine h10 _ _ ?_
      refine wp_seq_k fun K11 h11 => ?_
      refine wp_seq_k fun K12 h12 => ?_
      refine cReg ?_
      refine stP hf rfl rfl rfl (pA rfl) fun a hf => ?_
      refine cNil ?_
      refine h12 _ _ ?_
      refine wp_block ?_
      obtain ⟨x13, hx13, hF⟩ := bnd_some hF
      let S13 : ((List api_Ratio) × Int × Int × Int × Int × Int) → Act → World → Prop := (fun (zz : (List api_Ratio) × Int × Int × Int × Int × Int) a w => ∃ (p_2 : Option Addr) (c_2 : Nat), Has 142 a [(0, .slice claims_p claims.length claims_c), (1, .slice shares_p shares.length shares_c), (2, .int .i64 rule), (6, .pointer (some ⟨b_1, 0, none⟩)), (7, .pointer (some ⟨b_2, 0, none⟩)), (10, .slice p_2 zz.1.length c_2), (14, .pointer (some ⟨b_4, 0, none⟩)), (15, .pointer (some ⟨b_5, 0, none⟩)), (16, .int .i64 zz.2.1)] ∧ Ctx G (.box b_5 [.int .i64 zz.2.2.2.2.1, .int .i64 zz.2.2.2.2.2] 71 :: .box b_4 [.int .i64 zz.2.2.1, .int .i64 zz.2.2.2.1] 71 :: .row p_2 c_2 (zz.1.map enc_api_Ratio) 71 2 :: .box b_2 [.int .i64 0, .int .i64 0] 71 :: .box b_1 [.int .i64 0, .int .i64 0] 71 :: Lf) w)
      have hr13 : ∀ (zz : (List api_Ratio) × Int × Int × Int × Int × Int) a w, x13 = .go zz → S13 zz a w → K11 a w := by
        rintro ⟨l_1, i_2, x, x_1, x_2, x_3⟩ a w rfl ⟨p_2, c_2, hf, hc⟩
        replace hF : _ = some res := hF
        refine h11 _ _ ?_
        refine wp_seq_k fun K14 h14 => ?_
        refine wp_seq_k fun K15 h15 => ?_
        refine cReg ?_
        refine stP hf rfl rfl rfl (pFA fa_71_1 rfl) fun a hf => ?_
        refine stE hf hc rfl rfl rfl (eLd1 sc_3 rfl (cell_box m1 rfl)) fun a w hf hc => ?_
        refine stP hf rfl rfl rfl (pEq rfl rfl) fun a hf => ?_
        refine cNil ?_
        refine h15 _ _ ?_
        refine cCond (b := (x_1 == 0)) hf rfl (fun hb => ?_) (fun hb => ?_)
        · replace hF := condT hb hF
          clear hb
          refine wp_seq_k fun K16 h16 => ?_
          refine cReg ?_
          refine stP hf rfl rfl rfl (pBuildS (cells := [.int .i64 0, .int .i64 0]) bt_71 rfl rfl) fun a hf => ?_
          refine stP hf rfl rfl rfl (pBuildS (cells := [.int .i64 0, .int .i64 0]) bt_71 rfl rfl) fun a hf => ?_
          refine stSt (vs := [.int .i64 0, .int .i64 0]) hf hc rfl rfl rfl rfl sz_71 rfl rfl u4 fun w hc => ?_
          refine stSt (vs := [.int .i64 0, .int .i64 0]) hf hc rfl rfl rfl rfl sz_71 rfl rfl u3 fun w hc => ?_
          refine stP hf rfl rfl rfl (pA rfl) fun a hf => ?_
          refine cNil ?_
          refine h16 _ _ ?_
          refine wp_ret ?_
          refine xThenR ?_
          obtain rfl := Option.some.inj hF
          replace hc := hc.drop k2
          replace hc := hc.drop k1
          replace hc := hc.drop k0
          replace hc := hc.pick k0
          replace hc := hc.pick k1
          exact fnOut3 (by simp) rfl Try.results40 hf hc (rv_cellN (vs := [.int .i64 0, .int .i64 0]) ag_71 rfl rfl (cells_box (n := 2) m0 rfl)) (rv_cellN (vs := [.int .i64 0, .int .i64 0]) ag_71 rfl rfl (cells_box (n := 2) m1 rfl)) (show look _ 8 = _ from rfl) ⟨rfl, ((hc.drop k1).drop k0)⟩
        · replace hF := condF hb hF
          clear hb
          refine wp_skip ?_
          refine h14 _ _ ?_
          refine wp_seq_k fun K17 h17 => ?_
          refine regionE (fun θ => [⟨none, none, 6, .pointer (some ⟨b_1, 0, none⟩)⟩, ⟨none, none, 7, .pointer (some ⟨b_2, 0, none⟩)⟩, ⟨none, none, 14, .pointer (some ⟨b_4, 0, none⟩)⟩, ⟨none, none, 15, .pointer (some ⟨b_5, 0, none⟩)⟩, ⟨some 0, none, 140, .agg #[.int .i64 x, .int .i64 x_1]⟩, ⟨some 1, none, 141, .agg #[.int .i64 x_2, .int .i64 x_3]⟩, ⟨some 4, none, 8, .int .i64 0⟩]) (fun E θ => .box b_5 [.int .i64 x_2, .int .i64 x_3] 71 :: .box b_4 [.int .i64 x, .int .i64 x_1] 71 :: .row p_2 c_2 (l_1.map enc_api_Ratio) 71 2 :: (bif E 3 then .box b_2 [.int .i64 x_2, .int .i64 x_3] 71 else .box b_2 [.int .i64 0, .int .i64 0] 71) :: (bif E 2 then .box b_1 [.int .i64 x, .int .i64 x_1] 71 else .box b_1 [.int .i64 0, .int .i64 0] 71) :: Lf) [] (fun a w => Has 142 a [(6, .pointer (some ⟨b_1, 0, none⟩)), (7, .pointer (some ⟨b_2, 0, none⟩)), (8, .int .i64 0)] ∧ Ctx G (.box b_5 [.int .i64 x_2, .int .i64 x_3] 71 :: .box b_4 [.int .i64 x, .int .i64 x_1] 71 :: .row p_2 c_2 (l_1.map enc_api_Ratio) 71 2 :: .box b_2 [.int .i64 x_2, .int .i64 x_3] 71 :: .box b_1 [.int .i64 x, .int .i64 x_1] 71 :: Lf) w) follows_mx (by kernel_rfl) (by kernel_rfl) (HasE.of hf ⟨rfl, rfl, rfl, rfl, trivial, trivial, trivial, trivial⟩) hc ⟨?_, ?_, ?_, ?_, ?_, trivial⟩ ?_ ?_
          · intro E θ a w hD hi hp he hc
            have hf := he.h0
            replace hf := hf.more he 2 rfl onT
            refine stE hf hc rfl rfl rfl (eLdN (vs := [.int .i64 x, .int .i64 x_1]) ag_71 rfl rfl (cells_box (n := 2) m1 rfl)) fun a w hf hc => ?_
            refine cNil ?_
            refine xThenN ?_
            intro ds u hau
            refine ⟨θ, he.put0 hi hau hf rfl 4 rfl rfl, ?_⟩
            exact hc
          · intro E θ a w hD hi hp he hc
            have hf := he.h0
            replace hf := hf.more he 3 rfl onT
            refine stE hf hc rfl rfl rfl (eLdN (vs := [.int .i64 x_2, .int .i64 x_3]) ag_71 rfl rfl (cells_box (n := 2) m0 rfl)) fun a w hf hc => ?_
            refine cNil ?_
            refine xThenN ?_
            intro ds u hau
            refine ⟨θ, he.put0 hi hau hf rfl 5 rfl rfl, ?_⟩
            exact hc
          · intro E θ a w hD hi hp he hc
            have e0 := hp.of (k := 0) rfl
            try dsimp only at hc
            rw [hi] at hc
            have hf := he.h0
            replace hf := hf.more he 0 rfl onT
            replace hf := hf.more he 4 rfl (onP e0)
            refine stSt (vs := [.int .i64 x, .int .i64 x_1]) hf hc rfl rfl rfl rfl sz_71 rfl rfl u4 fun w hc => ?_
            refine cNil ?_
            refine xThenN ?_
            intro ds u hau
            refine ⟨θ, he.stay0 hi hau hf rfl, ?_⟩
            try dsimp only
            rw [updE_self E 2]
            exact hc
          · intro E θ a w hD hi hp he hc
            have e1 := hp.of (k := 1) rfl
            try dsimp only at hc
            rw [hi] at hc
            have hf := he.h0
            replace hf := hf.more he 1 rfl onT
            replace hf := hf.more he 5 rfl (onP e1)
            refine stSt (vs := [.int .i64 x_2, .int .i64 x_3]) hf hc rfl rfl rfl rfl sz_71 rfl rfl u3 fun w hc => ?_
            refine cNil ?_
            refine xThenN ?_
            intro ds u hau
            refine ⟨θ, he.stay0 hi hau hf rfl, ?_⟩
            try dsimp only
            rw [updE_self E 3]
            exact hc
          · intro E θ a w hD hi hp he hc
            have hf := he.h0
            refine stP hf rfl rfl rfl (pA rfl) fun a hf => ?_
            refine cNil ?_
            refine xThenN ?_
            intro ds u hau
            refine ⟨θ, he.put0 hi hau hf rfl 6 rfl rfl, ?_⟩
            exact hc
          · intro E θ a w hall he hc
            have hf := he.h0
            have e2 := hall 2 rfl
            have e3 := hall 3 rfl
            have e4 := hall 4 rfl
            replace hf := hf.more he 6 rfl (onP e4)
            replace hf := hf.more he 1 rfl (onT)
            replace hf := hf.more he 0 rfl (onT)
            try dsimp only at hc
            rw [e2, e3] at hc
            exact ⟨hf.keep ⟨rfl, rfl, rfl, trivial⟩, hc⟩
          rintro a w ⟨hf, hc⟩
          refine h17 _ _ ?_
          refine wp_ret ?_
          obtain rfl := Option.some.inj hF
          replace hc := hc.drop k2
          replace hc := hc.drop k1
          replace hc := hc.drop k0
          replace hc := hc.pick k0
          replace hc := hc.pick k1
          exact fnOut3 (by simp) rfl Try.results40 hf hc (rv_cellN (vs := [.int .i64 x, .int .i64 x_1]) ag_71 rfl rfl (cells_box (n := 2) m0 rfl)) (rv_cellN (vs := [.int .i64 x_2, .int .i64 x_3]) ag_71 rfl rfl (cells_box (n := 2) m1 rfl)) (show look _ 8 = _ from rfl) ⟨rfl, ((hc.drop k1).drop k0)⟩
      have ho13 : ∀ r, x13 = .out r → r = res := by
        rintro r rfl
        exact Option.some.inj hF
      refine cLoop N (loopW (S := S13) (x := x13) ?_ N (l, 0, 0, 0, 0, 0) _ _ ⟨p_1, c_1, hf.keep ⟨rfl, rfl, rfl, rfl, rfl, rfl, rfl, rfl, rfl, trivial⟩, hc⟩ hx13)
      clear hF hf hc
      rintro ⟨l_1, i_2, x, x_1, x_2, x_3⟩ st13 a w KB13 ⟨p_2, c_2, hf, hc⟩ hF hfin13 hK13
      unfold ref09_Divisors_b13 at hF
      refine wp_seq_k fun K18 h18 => ?_
      refine wp_seq_k fun K19 h19 => ?_
      refine cReg ?_
      refine stP hf rfl rfl rfl (pM rfl) fun a hf => ?_
      refine stP hf rfl rfl rfl (pM rfl) fun a hf => ?_
      refine stP hf rfl rfl rfl (pLenS Try.underlying84 rfl) fun a hf => ?_
      refine stP hf rfl rfl rfl (pLt rfl rfl) fun a hf => ?_
      refine cNil ?_
      refine h19 _ _ ?_
      refine cCond (b := (decide (i_2 < ((l_1.length : Nat) : Int)))) hf rfl (fun hb => ?_) (fun hb => ?_)
      · replace hF := condT hb hF
        clear hb
        refine wp_skip ?_
        refine h18 _ _ ?_
        refine wp_seq_k fun K20 h20 => ?_
        have hj20 : ∀ (l_2 : List api_Ratio) (x_4 : Int) (x_5 : Int) (x_6 : Int) (x_7 : Int) (p_3 : Option Addr) (c_3 : Nat) a w, Has 142 a [(0, .slice claims_p claims.length claims_c), (1, .slice shares_p shares.length shares_c), (2, .int .i64 rule), (6, .pointer (some ⟨b_1, 0, none⟩)), (7, .pointer (some ⟨b_2, 0, none⟩)), (10, .slice p_3 l_2.length c_3), (14, .pointer (some ⟨b_4, 0, none⟩)), (15, .pointer (some ⟨b_5, 0, none⟩)), (16, .int .i64 i_2)] → Ctx G (.box b_5 [.int .i64 x_6, .int .i64 x_7] 71 :: .box b_4 [.int .i64 x_4, .int .i64 x_5] 71 :: .row p_3 c_3 (l_2.map enc_api_Ratio) 71 2 :: .box b_2 [.int .i64 0, .int .i64 0] 71 :: .box b_1 [.int .i64 0, .int .i64 0] 71 :: Lf) w → ref09_Divisors_j20 N i_2 l_2 x_4 x_5 x_6 x_7 = some st13 → K20 a w := by
          intro l_2 x_4 x_5 x_6 x_7 p_3 c_3 a w hf hc hF
          unfold ref09_Divisors_j20 at hF
          refine h20 _ _ ?_
          refine cReg ?_
          refine stP hf rfl rfl rfl (pM rfl) fun a hf => ?_
          refine stP hf rfl rfl rfl (pAdd rfl rfl) fun a hf => ?_
          refine stP hf rfl rfl rfl (pA rfl) fun a hf => ?_
          refine cNil ?_
          exact hK13 (l_2, W (i_2 + 1), x_4, x_5, x_6, x_7) _ _ (Option.some.inj hF).symm ⟨p_3, c_3, hf.keep ⟨rfl, rfl, rfl, rfl, rfl, rfl, rfl, rfl, rfl, trivial⟩, hc⟩
        refine wp_block ?_
        refine wp_seq_k fun K21 h21 => ?_
        refine cReg ?_
        refine stP hf rfl rfl rfl (pM rfl) fun a hf => ?_
        refine stP hf rfl rfl rfl (pM rfl) fun a hf => ?_
        refine stP hf rfl rfl rfl (pM rfl) fun a hf => ?_
        refine stP hf rfl rfl rfl (pM rfl) fun a hf => ?_
        refine stP hf rfl rfl rfl (pM rfl) fun a hf => ?_
        obtain ⟨e_1, he_1, hF⟩ := bnd_some hF
        obtain ⟨g, rfl, qa, qr⟩ := row_atm hc m2 he_1
        refine stP hf rfl rfl rfl (pIA Try.underlying84 sz_71 rfl rfl qa) fun a hf => ?_
        refine stE hf hc rfl rfl rfl (eLdN (vs := [.int .i64 e_1.N, .int .i64 e_1.D]) ag_71 rfl rfl (cells_rw (sz := 2) (i := i_2.toNat) m2 qr (n := 2) (o' := 0) rfl)) fun a w hf hc => ?_
        obtain ⟨r_1, hr_1, hF⟩ := bnd_some hF
        refine stE hf hc rfl rfl rfl (eC (v := .tuple #[.bool r_1.1, .int .i64 r_1.2]) (vs := [.slice claims_p claims.length claims_c, .slice shares_p shares.length shares_c, .int .i64 rule, .agg #[.int .i64 e_1.N, .int .i64 e_1.D]]) (caps := []) en_42 rfl rfl rfl rfl (fun w hc => ref09_Proves_ok claims shares rule e_1 h_claims h_shares hc hr_1)) fun a w hf hc => ?_
        refine stP hf rfl rfl rfl (pM rfl) fun a hf => ?_
        refine stP hf rfl rfl rfl (pX rfl rfl) fun a hf => ?_
        refine stP hf rfl rfl rfl (pX rfl rfl) fun a hf => ?_
        refine stP hf rfl rfl rfl (pA rfl) fun a hf => ?_
        refine stP hf rfl rfl rfl (pA rfl) fun a hf => ?_
        refine cNil ?_
        refine h21 _ _ ?_
        refine wp_seq_k fun K22 h22 => ?_
        refine wp_seq_k fun K23 h23 => ?_
        refine cReg ?_
        refine stP hf rfl rfl rfl (pM rfl) fun a hf => ?_
        refine stP hf rfl rfl rfl (pNe rfl rfl) fun a hf => ?_
        refine stP hf rfl rfl rfl (pM rfl) fun a hf => ?_
        refine stCut 3 (fun a w => Has 142 a [(0, .slice claims_p claims.length claims_c), (1, .slice shares_p shares.length shares_c), (2, .int .i64 rule), (6, .pointer (some ⟨b_1, 0, none⟩)), (7, .pointer (some ⟨b_2, 0, none⟩)), (10, .slice (some ⟨g, 0, none⟩) l_1.length c_2), (14, .pointer (some ⟨b_4, 0, none⟩)), (15, .pointer (some ⟨b_5, 0, none⟩)), (16, .int .i64 i_2), (17, .bool r_1.1), (18, .int .i64 r_1.2), (77, .int .i64 r_1.2), (78, .bool (r_1.2 != 0)), (79, .bool (r_1.2 != 0)), (82, .bool ((r_1.2 != 0) || (!r_1.1)))] ∧ Ctx G (.box b_5 [.int .i64 x_2, .int .i64 x_3] 71 :: .box b_4 [.int .i64 x, .int .i64 x_1] 71 :: .row (some ⟨g, 0, none⟩) c_2 (l_1.map enc_api_Ratio) 71 2 :: .box b_2 [.int .i64 0, .int .i64 0] 71 :: .box b_1 [.int .i64 0, .int .i64 0] 71 :: Lf) w) ?_ ?_
        · cases hb : (r_1.2 != 0)
          · rw [hb] at hf
            refine stP hf rfl rfl rfl (pM rfl) fun a hf => ?_
            refine stP hf rfl rfl rfl (pNot rfl) fun a hf => ?_
            refine stP hf rfl rfl rfl (pPf rfl rfl) fun a hf => ?_
            exact cNil ⟨hf.keep ⟨rfl, rfl, rfl, rfl, rfl, rfl, rfl, rfl, rfl, rfl, rfl, rfl, rfl, rfl, rfl, trivial⟩, hc⟩
          · rw [hb] at hf
            refine stS hf rfl rfl rfl fun a hf => ?_
            refine stS hf rfl rfl rfl fun a hf => ?_
            refine stP hf rfl rfl rfl (pPt rfl rfl) fun a hf => ?_
            exact cNil ⟨hf.keep ⟨rfl, rfl, rfl, rfl, rfl, rfl, rfl, rfl, rfl, rfl, rfl, rfl, rfl, rfl, rfl, trivial⟩, hc⟩
        intro a w ⟨hf, hc⟩
        refine cNil ?_
        refine h23 _ _ ?_
        refine cCond (b := ((r_1.2 != 0) || (!r_1.1))) hf rfl (fun hb => ?_) (fun hb => ?_)
        · replace hF := condT hb hF
          clear hb
          refine wp_exit ?_
          refine xThen ?_
          refine cHit ?_
          exact hj20 l_1 x x_1 x_2 x_3 (some ⟨g, 0, none⟩) c_2 _ _  (hf.keep ⟨rfl, rfl, rfl, rfl, rfl, rfl, rfl, rfl, rfl, trivial⟩) hc hF
        · replace hF := condF hb hF
          clear hb
          refine wp_skip ?_
          refine h22 _ _ ?_
          refine wp_seq_k fun K24 h24 => ?_
          have hj24 : ∀ (x_8 : Int) (x_9 : Int) a w, Has 142 a [(0, .slice claims_p claims.length claims_c), (1, .slice shares_p shares.length shares_c), (2, .int .i64 rule), (6, .pointer (some ⟨b_1, 0, none⟩)), (7, .pointer (some ⟨b_2, 0, none⟩)), (10, .slice (some ⟨g, 0, none⟩) l_1.length c_2), (14, .pointer (some ⟨b_4, 0, none⟩)), (15, .pointer (some ⟨b_5, 0, none⟩)), (16, .int .i64 i_2)] → Ctx G (.box b_5 [.int .i64 x_2, .int .i64 x_3] 71 :: .box b_4 [.int .i64 x_8, .int .i64 x_9] 71 :: .row (some ⟨g, 0, none⟩) c_2 (l_1.map enc_api_Ratio) 71 2 :: .box b_2 [.int .i64 0, .int .i64 0] 71 :: .box b_1 [.int .i64 0, .int .i64 0] 71 :: Lf) w → ref09_Divisors_j24 N l_1 i_2 x_2 x_3 x_8 x_9 = some st13 → K24 a w := by
            intro x_8 x_9 a w hf hc hF
            unfold ref09_Divisors_j24 at hF
            refine h24 _ _ ?_
            refine wp_seq_k fun K25 h25 => ?_
            obtain ⟨t_1, ht_1, hF⟩ := bnd_some hF
            refine cQ hc follows_mx (by kernel_rfl) ?_
            refine qE hf rfl rfl rfl (Pu.ev (pFA fa_71_1 rfl)) fun a hf => ?_
            refine qE hf rfl rfl rfl (eLd1 sc_3 rfl (cell_box m0 rfl)) fun a hf => ?_
            refine qE hf rfl rfl rfl (Pu.ev (pEq rfl rfl)) fun a hf => ?_
            refine qE hf rfl rfl rfl (Pu.ev (pM rfl)) fun a hf => ?_
            refine qCut 18 (fun a => Has 142 a [(0, .slice claims_p claims.length claims_c), (1, .slice shares_p shares.length shares_c), (2, .int .i64 rule), (6, .pointer (some ⟨b_1, 0, none⟩)), (7, .pointer (some ⟨b_2, 0, none⟩)), (10, .slice (some ⟨g, 0, none⟩) l_1.length c_2), (14, .pointer (some ⟨b_4, 0, none⟩)), (15, .pointer (some ⟨b_5, 0, none⟩)), (16, .int .i64 i_2), (109, .pointer (some ⟨b_5, 1, none⟩)), (110, .int .i64 x_3), (111, .bool (x_3 == 0)), (112, .bool (x_3 == 0)), (130, .bool t_1)]) ?_ ?_
            · cases hb : (x_3 == 0)
              · rw [hb] at hf
                have hF := condF hb ht_1
                obtain ⟨e_2, he_2, hF⟩ := bnd_some hF
                obtain ⟨qa_1, qr_1⟩ := row_atk hc m2 he_2
                obtain ⟨e_3, he_3, hF⟩ := bnd_some hF
                obtain ⟨qa_2, qr_2⟩ := row_atk hc m2 he_3
                refine qE hf rfl rfl rfl (Pu.ev (pM rfl)) fun a hf => ?_
                refine qE hf rfl rfl rfl (Pu.ev (pM rfl)) fun a hf => ?_
                refine qE hf rfl rfl rfl (Pu.ev (pIA Try.underlying84 sz_71 rfl rfl qa_1)) fun a hf => ?_
                refine qE hf rfl rfl rfl (Pu.ev (pFA fa_71_0 rfl)) fun a hf => ?_
                refine qE hf rfl rfl rfl (eLd1 sc_3 rfl (cell_row (sz := 2) (i := i_2.toNat) (j := 0) m2 qr_1 rfl)) fun a hf => ?_
                refine qE hf rfl rfl rfl (Pu.ev (pFA fa_71_1 rfl)) fun a hf => ?_
                refine qE hf rfl rfl rfl (eLd1 sc_3 rfl (cell_box m0 rfl)) fun a hf => ?_
                refine qE hf rfl rfl rfl (Pu.ev (pMul rfl rfl)) fun a hf => ?_
                refine qE hf rfl rfl rfl (Pu.ev (pFA fa_71_0 rfl)) fun a hf => ?_
                refine qE hf rfl rfl rfl (eLd1 sc_3 rfl (cell_box m0 rfl)) fun a hf => ?_
                refine qE hf rfl rfl rfl (Pu.ev (pM rfl)) fun a hf => ?_
                refine qE hf rfl rfl rfl (Pu.ev (pM rfl)) fun a hf => ?_
                refine qE hf rfl rfl rfl (Pu.ev (pIA Try.underlying84 sz_71 rfl rfl qa_2)) fun a hf => ?_
                refine qE hf rfl rfl rfl (Pu.ev (pFA fa_71_1 rfl)) fun a hf => ?_
                refine qE hf rfl rfl rfl (eLd1 sc_3 rfl (cell_row (sz := 2) (i := i_2.toNat) (j := 1) m2 qr_2 rfl)) fun a hf => ?_
                refine qE hf rfl rfl rfl (Pu.ev (pMul rfl rfl)) fun a hf => ?_
                refine qE hf rfl rfl rfl (Pu.ev (pGt rfl rfl)) fun a hf => ?_
                refine qE hf rfl rfl rfl (Pu.ev (pPf rfl rfl)) fun a hf => ?_
                obtain rfl := Option.some.inj hF
                exact qNil (hf.keep ⟨rfl, rfl, rfl, rfl, rfl, rfl, rfl, rfl, rfl, rfl, rfl, rfl, rfl, rfl, trivial⟩)
              · rw [hb] at hf
                have hF := condT hb ht_1
                obtain rfl := Option.some.inj hF
                refine qS hf rfl rfl rfl fun a hf => ?_
                refine qS hf rfl rfl rfl fun a hf => ?_
                refine qS hf rfl rfl rfl fun a hf => ?_
                refine qS hf rfl rfl rfl fun a hf => ?_
                refine qS hf rfl rfl rfl fun a hf => ?_
                refine qS hf rfl rfl rfl fun a hf => ?_
                refine qS hf rfl rfl rfl fun a hf => ?_
                refine qS hf rfl rfl rfl fun a hf => ?_
                refine qS hf rfl rfl rfl fun a hf => ?_
                refine qS hf rfl rfl rfl fun a hf => ?_
                refine qS hf rfl rfl rfl fun a hf => ?_
                refine qS hf rfl rfl rfl fun a hf => ?_
                refine qS hf rfl rfl rfl fun a hf => ?_
                refine qS hf rfl rfl rfl fun a hf => ?_
                refine qS hf rfl rfl rfl fun a hf => ?_
                refine qS hf rfl rfl rfl fun a hf => ?_
                refine qS hf rfl rfl rfl fun a hf => ?_
                refine qE hf rfl rfl rfl (Pu.ev (pPt rfl rfl)) fun a hf => ?_
                exact qNil (hf.keep ⟨rfl, rfl, rfl, rfl, rfl, rfl, rfl, rfl, rfl, rfl, rfl, rfl, rfl, rfl, trivial⟩)
            intro a hf
            intro w hc
            refine h25 _ _ ?_
            refine cCond (b := t_1) hf rfl (fun hb => ?_) (fun hb => ?_)
            · replace hF := condT hb hF
              clear hb
              refine cReg ?_
              refine stP hf rfl rfl rfl (pM rfl) fun a hf => ?_
              refine stP hf rfl rfl rfl (pM rfl) fun a hf => ?_
              obtain ⟨e_4, he_4, hF⟩ := bnd_some hF
              obtain ⟨qa_3, qr_3⟩ := row_atk hc m2 he_4
              refine stP hf rfl rfl rfl (pIA Try.underlying84 sz_71 rfl rfl qa_3) fun a hf => ?_
              refine stE hf hc rfl rfl rfl (eLdN (vs := [.int .i64 e_4.N, .int .i64 e_4.D]) ag_71 rfl rfl (cells_rw (sz := 2) (i := i_2.toNat) m2 qr_3 (n := 2) (o' := 0) rfl)) fun a w hf hc => ?_
              refine stSt (vs := [.int .i64 e_4.N, .int .i64 e_4.D]) hf hc rfl rfl rfl rfl sz_71 rfl rfl u0 fun w hc => ?_
              refine cNil ?_
              exact hj20 l_1 x_8 x_9 e_4.N e_4.D (some ⟨g, 0, none⟩) c_2 _ _  (hf.keep ⟨rfl, rfl, rfl, rfl, rfl, rfl, rfl, rfl, rfl, trivial⟩) hc hF
            · replace hF := condF hb hF
              clear hb
              refine wp_skip ?_
              exact hj20 l_1 x_8 x_9 x_2 x_3 (some ⟨g, 0, none⟩) c_2 _ _  (hf.keep ⟨rfl, rfl, rfl, rfl, rfl, rfl, rfl, rfl, rfl, trivial⟩) hc hF
          refine wp_seq_k fun K26 h26 => ?_
          obtain ⟨t_2, ht_2, hF⟩ := bnd_some hF
          refine cQ hc follows_mx (by kernel_rfl) ?_
          refine qE hf rfl rfl rfl (Pu.ev (pFA fa_71_1 rfl)) fun a hf => ?_
          refine qE hf rfl rfl rfl (eLd1 sc_3 rfl (cell_box m1 rfl)) fun a hf => ?_
          refine qE hf rfl rfl rfl (Pu.ev (pEq rfl rfl)) fun a hf => ?_
          refine qE hf rfl rfl rfl (Pu.ev (pM rfl)) fun a hf => ?_
          refine qCut 18 (fun a => Has 142 a [(0, .slice claims_p claims.length claims_c), (1, .slice shares_p shares.length shares_c), (2, .int .i64 rule), (6, .pointer (some ⟨b_1, 0, none⟩)), (7, .pointer (some ⟨b_2, 0, none⟩)), (10, .slice (some ⟨g, 0, none⟩) l_1.length c_2), (14, .pointer (some ⟨b_4, 0, none⟩)), (15, .pointer (some ⟨b_5, 0, none⟩)), (16, .int .i64 i_2), (83, .pointer (some ⟨b_4, 1, none⟩)), (84, .int .i64 x_1), (85, .bool (x_1 == 0)), (86, .bool (x_1 == 0)), (104, .bool t_2)]) ?_ ?_
          · cases hb : (x_1 == 0)
            · rw [hb] at hf
              have hF := condF hb ht_2
              obtain ⟨e_5, he_5, hF⟩ := bnd_some hF
              obtain ⟨qa_4, qr_4⟩ := row_atk hc m2 he_5
              obtain ⟨e_6, he_6, hF⟩ := bnd_some hF
              obtain ⟨qa_5, qr_5⟩ := row_atk hc m2 he_6
              refine qE hf rfl rfl rfl (Pu.ev (pM rfl)) fun a hf => ?_
              refine qE hf rfl rfl rfl (Pu.ev (pM rfl)) fun a hf => ?_
              refine qE hf rfl rfl rfl (Pu.ev (pIA Try.underlying84 sz_71 rfl rfl qa_4)) fun a hf => ?_
              refine qE hf rfl rfl rfl (Pu.ev (pFA fa_71_0 rfl)) fun a hf => ?_
              refine qE hf rfl rfl rfl (eLd1 sc_3 rfl (cell_row (sz := 2) (i := i_2.toNat) (j := 0) m2 qr_4 rfl)) fun a hf => ?_
              refine qE hf rfl rfl rfl (Pu.ev (pFA fa_71_1 rfl)) fun a hf => ?_
              refine qE hf rfl rfl rfl (eLd1 sc_3 rfl (cell_box m1 rfl)) fun a hf => ?_
              refine qE hf rfl rfl rfl (Pu.ev (pMul rfl rfl)) fun a hf => ?_
              refine qE hf rfl rfl rfl (Pu.ev (pFA fa_71_0 rfl)) fun a hf => ?_
              refine qE hf rfl rfl rfl (eLd1 sc_3 rfl (cell_box m1 rfl)) fun a hf => ?_
              refine qE hf rfl rfl rfl (Pu.ev (pM rfl)) fun a hf => ?_
              refine qE hf rfl rfl rfl (Pu.ev (pM rfl)) fun a hf => ?_
              refine qE hf rfl rfl rfl (Pu.ev (pIA Try.underlying84 sz_71 rfl rfl qa_5)) fun a hf => ?_
              refine qE hf rfl rfl rfl (Pu.ev (pFA fa_71_1 rfl)) fun a hf => ?_
              refine qE hf rfl rfl rfl (eLd1 sc_3 rfl (cell_row (sz := 2) (i := i_2.toNat) (j := 1) m2 qr_5 rfl)) fun a hf => ?_
              refine qE hf rfl rfl rfl (Pu.ev (pMul rfl rfl)) fun a hf => ?_
              refine qE hf rfl rfl rfl (Pu.ev (pLt rfl rfl)) fun a hf => ?_
              refine qE hf rfl rfl rfl (Pu.ev (pPf rfl rfl)) fun a hf => ?_
              obtain rfl := Option.some.inj hF
              exact qNil (hf.keep ⟨rfl, rfl, rfl, rfl, rfl, rfl, rfl, rfl, rfl, rfl, rfl, rfl, rfl, rfl, trivial⟩)
            · rw [hb] at hf
              have hF := condT hb ht_2
              obtain rfl := Option.some.inj hF
              refine qS hf rfl rfl rfl fun a hf => ?_
              refine qS hf rfl rfl rfl fun a hf => ?_
              refine qS hf rfl rfl rfl fun a hf => ?_
              refine qS hf rfl rfl rfl fun a hf => ?_
              refine qS hf rfl rfl rfl fun a hf => ?_
              refine qS hf rfl rfl rfl fun a hf => ?_
              refine qS hf rfl rfl rfl fun a hf => ?_
              refine qS hf rfl rfl rfl fun a hf => ?_
              refine qS hf rfl rfl rfl fun a hf => ?_
              refine qS hf rfl rfl rfl fun a hf => ?_
              refine qS hf rfl rfl rfl fun a hf => ?_
              refine qS hf rfl rfl rfl fun a hf => ?_
              refine qS hf rfl rfl rfl fun a hf => ?_
              refine qS hf rfl rfl rfl fun a hf => ?_
              refine qS hf rfl rfl rfl fun a hf => ?_
              refine qS hf rfl rfl rfl fun a hf => ?_
              refine qS hf rfl rfl rfl fun a hf => ?_
              refine qE hf rfl rfl rfl (Pu.ev (pPt rfl rfl)) fun a hf => ?_
              exact qNil (hf.keep ⟨rfl, rfl, rfl, rfl, rfl, rfl, rfl, rfl, rfl, rfl, rfl, rfl, rfl, rfl, trivial⟩)
          intro a hf
          intro w hc
          refine h26 _ _ ?_
          refine cCond (b := t_2) hf rfl (fun hb => ?_) (fun hb => ?_)
          · replace hF := condT hb hF
            clear hb
            refine cReg ?_
            refine stP hf rfl rfl rfl (pM rfl) fun a hf => ?_
            refine stP hf rfl rfl rfl (pM rfl) fun a hf => ?_
            obtain ⟨e_7, he_7, hF⟩ := bnd_some hF
            obtain ⟨qa_6, qr_6⟩ := row_atk hc m2 he_7
            refine stP hf rfl rfl rfl (pIA Try.underlying84 sz_71 rfl rfl qa_6) fun a hf => ?_
            refine stE hf hc rfl rfl rfl (eLdN (vs := [.int .i64 e_7.N, .int .i64 e_7.D]) ag_71 rfl rfl (cells_rw (sz := 2) (i := i_2.toNat) m2 qr_6 (n := 2) (o' := 0) rfl)) fun a w hf hc => ?_
            refine stSt (vs := [.int .i64 e_7.N, .int .i64 e_7.D]) hf hc rfl rfl rfl rfl sz_71 rfl rfl u1 fun w hc => ?_
            refine cNil ?_
            exact hj24 e_7.N e_7.D _ _  (hf.keep ⟨rfl, rfl, rfl, rfl, rfl, rfl, rfl, rfl, rfl, trivial⟩) hc hF
          · replace hF := condF hb hF
            clear hb
            refine wp_skip ?_
            exact hj24 x x_1 _ _  (hf.keep ⟨rfl, rfl, rfl, rfl, rfl, rfl, rfl, rfl, rfl, trivial⟩) hc hF
      · replace hF := condF hb hF
        clear hb
        refine wp_exit ?_
        refine xThen ?_
        refine xThen ?_
        have he := Option.some.inj hF
        rw [← he] at hfin13
        refine cHit ?_
        exact hr13 _ _ _ hfin13 ⟨p_2, c_2, hf.keep ⟨rfl, rfl, rfl, rfl, rfl, rfl, rfl, rfl, rfl, trivial⟩, hc⟩
    have ho9 : ∀ r, x9 = .out r → r = res := by
      rintro r rfl
      exact Option.some.inj hF
    refine cLoop N (loopW (S := S9) (x := x9) ?_ N (([(⟨2000000, 1⟩ : api_Ratio)] : List api_Ratio), 0) _ _ ⟨(some ⟨b_3, 0, none⟩), 1, hf.keep ⟨rfl, rfl, rfl, rfl, rfl, rfl, rfl, trivial⟩, hc⟩ hx9)
    clear hF hf hc
    rintro ⟨l, i_1⟩ st9 a w KB9 ⟨p_1, c_1, hf, hc⟩ hF hfin9 hK9
    unfold ref09_Divisors_b9 at hF
    refine wp_seq_k fun K27 h27 => ?_
    refine wp_seq_k fun K28 h28 => ?_
    refine cReg ?_
    refine stP hf rfl rfl rfl (pM rfl) fun a hf => ?_
    refine stP hf rfl rfl rfl (pM rfl) fun a hf => ?_
    refine stP hf rfl rfl rfl (pLenS Try.underlying36 rfl) fun a hf => ?_
    refine stP hf rfl rfl rfl (pLt rfl rfl) fun a hf => ?_
    refine cNil ?_
    refine h28 _ _ ?_
    refine cCond (b := (decide (i_1 < ((claims.length : Nat) : Int)))) hf rfl (fun hb => ?_) (fun hb => ?_)
    · replace hF := condT hb hF
      clear hb
      refine wp_skip ?_
      refine h27 _ _ ?_
      refine wp_seq_k fun K29 h29 => ?_
      refine wp_block ?_
      refine wp_seq_k fun K30 h30 => ?_
      refine cReg ?_
      refine stP hf rfl rfl rfl (pA rfl) fun a hf => ?_
      refine cNil ?_
      refine h30 _ _ ?_
      refine wp_thenK fun K31 h31 => ?_
      refine wp_block ?_
      obtain ⟨x32, hx32, hF⟩ := bnd_some hF
      let S32 : ((List api_Ratio) × Int) → Act → World → Prop := (fun (zz : (List api_Ratio) × Int) a w => ∃ (p_4 : Option Addr) (c_4 : Nat), Has 142 a [(0, .slice claims_p claims.length claims_c), (1, .slice shares_p shares.length shares_c), (2, .int .i64 rule), (6, .pointer (some ⟨b_1, 0, none⟩)), (7, .pointer (some ⟨b_2, 0, none⟩)), (10, .slice p_4 zz.1.length c_4), (11, .int .i64 i_1), (12, .int .i64 zz.2)] ∧ Ctx G (.row p_4 c_4 (zz.1.map enc_api_Ratio) 71 2 :: .box b_2 [.int .i64 0, .int .i64 0] 71 :: .box b_1 [.int .i64 0, .int .i64 0] 71 :: Lf) w)
      have hr32 : ∀ (zz : (List api_Ratio) × Int) a w, x32 = .go zz → S32 zz a w → K31 a w := by
        rintro ⟨l_3, k⟩ a w rfl ⟨p_4, c_4, hf, hc⟩
        replace hF : _ = some st9 := hF
        refine h31 _ _ ?_
        refine h29 _ _ ?_
        refine cReg ?_
        refine stP hf rfl rfl rfl (pM rfl) fun a hf => ?_
        refine stP hf rfl rfl rfl (pAdd rfl rfl) fun a hf => ?_
        refine stP hf rfl rfl rfl (pA rfl) fun a hf => ?_
        refine cNil ?_
        exact hK9 (l_3, W (i_1 + 1)) _ _ (Option.some.inj hF).symm ⟨p_4, c_4, hf.keep ⟨rfl, rfl, rfl, rfl, rfl, rfl, rfl, trivial⟩, hc⟩
      have ho32 : ∀ r, x32 = .out r → r = st9 := by
        rintro r rfl
        exact Option.some.inj hF
      refine cLoop N (loopW (S := S32) (x := x32) ?_ N (l, 0) _ _ ⟨p_1, c_1, hf.keep ⟨rfl, rfl, rfl, rfl, rfl, rfl, rfl, rfl, trivial⟩, hc⟩ hx32)
      clear hF hf hc
      rintro ⟨l_3, k⟩ st32 a w KB32 ⟨p_4, c_4, hf, hc⟩ hF hfin32 hK32
      unfold ref09_Divisors_b32 at hF
      refine wp_seq_k fun K33 h33 => ?_
      refine wp_seq_k fun K34 h34 => ?_
      refine cReg ?_
      refine stP hf rfl rfl rfl (pM rfl) fun a hf => ?_
      refine stP hf rfl rfl rfl (pLt rfl rfl) fun a hf => ?_
      refine cNil ?_
      refine h34 _ _ ?_
      refine cCond (b := (decide (k < 2))) hf rfl (fun hb => ?_) (fun hb => ?_)
      · replace hF := condT hb hF
        clear hb
        refine wp_skip ?_
        refine h33 _ _ ?_
        refine wp_seq_k fun K35 h35 => ?_
        have hj35 : ∀ (l_4 : List api_Ratio) (p_5 : Option Addr) (c_5 : Nat) a w, Has 142 a [(0, .slice claims_p claims.length claims_c), (1, .slice shares_p shares.length shares_c), (2, .int .i64 rule), (6, .pointer (some ⟨b_1, 0, none⟩)), (7, .pointer (some ⟨b_2, 0, none⟩)), (10, .slice p_5 l_4.length c_5), (11, .int .i64 i_1), (12, .int .i64 k)] → Ctx G (.row p_5 c_5 (l_4.map enc_api_Ratio) 71 2 :: .box b_2 [.int .i64 0, .int .i64 0] 71 :: .box b_1 [.int .i64 0, .int .i64 0] 71 :: Lf) w → ref09_Divisors_j35 N k l_4 = some st32 → K35 a w := by
          intro l_4 p_5 c_5 a w hf hc hF
          unfold ref09_Divisors_j35 at hF
          refine h35 _ _ ?_
          refine cReg ?_
          refine stP hf rfl rfl rfl (pM rfl) fun a hf => ?_
          refine stP hf rfl rfl rfl (pAdd rfl rfl) fun a hf => ?_
          refine stP hf rfl rfl rfl (pA rfl) fun a hf => ?_
          refine cNil ?_
          exact hK32 (l_4, W (k + 1)) _ _ (Option.some.inj hF).symm ⟨p_5, c_5, hf.keep ⟨rfl, rfl, rfl, rfl, rfl, rfl, rfl, rfl, trivial⟩, hc⟩
        refine wp_block ?_
        refine wp_seq_k fun K36 h36 => ?_
        refine cReg ?_
        refine stP hf rfl rfl rfl (pM rfl) fun a hf => ?_
        refine stP hf rfl rfl rfl (pM rfl) fun a hf => ?_
        refine stP hf rfl rfl rfl (pM rfl) fun a hf => ?_
        obtain ⟨e_8, he_8, hF⟩ := bnd_some hF
        obtain ⟨b_6, o, qa_7, qp⟩ := h_shares.atm he_8
        refine stP hf rfl rfl rfl (pIA Try.underlying36 sz_3 rfl rfl qa_7) fun a hf => ?_
        refine stE hf hc rfl rfl rfl (eLd1 sc_3 rfl (cell_pc (j := 0) qp rfl)) fun a w hf hc => ?_
        refine stP hf rfl rfl rfl (pM rfl) fun a hf => ?_
        refine stP hf rfl rfl rfl (pAdd rfl rfl) fun a hf => ?_
        refine stE hf hc rfl rfl rfl (eC (v := .int .i64 (ref09_ask rule (W (e_8 + k)))) (vs := [.int .i64 rule, .int .i64 (W (e_8 + k))]) (caps := []) en_87 rfl rfl rfl rfl (fun w hc => ref09_ask_ok rule (W (e_8 + k)) hc rfl)) fun a w hf hc => ?_
        refine stP hf rfl rfl rfl (pA rfl) fun a hf => ?_
        refine cNil ?_
        refine h36 _ _ ?_
        refine wp_seq_k fun K37 h37 => ?_
        refine cReg ?_
        refine stP hf rfl rfl rfl (pM rfl) fun a hf => ?_
        refine stP hf rfl rfl rfl (pGt rfl rfl) fun a hf => ?_
        refine cNil ?_
        refine h37 _ _ ?_
        refine cCond (b := (decide (0 < (ref09_ask rule (W (e_8 + k)))))) hf rfl (fun hb => ?_) (fun hb => ?_)
        · replace hF := condT hb hF
          clear hb
          refine cReg ?_
          refine stP hf rfl rfl rfl (pM rfl) fun a hf => ?_
          refine stP hf rfl rfl rfl (pM rfl) fun a hf => ?_
          refine stP hf rfl rfl rfl (pM rfl) fun a hf => ?_
          obtain ⟨e_9, he_9, hF⟩ := bnd_some hF
          obtain ⟨b_7, o_1, qa_8, qp_1⟩ := h_claims.atm he_9
          refine stP hf rfl rfl rfl (pIA Try.underlying36 sz_3 rfl rfl qa_8) fun a hf => ?_
          refine stE hf hc rfl rfl rfl (eLd1 sc_3 rfl (cell_pc (j := 0) qp_1 rfl)) fun a w hf hc => ?_
          refine stP hf rfl rfl rfl (pMul rfl rfl) fun a hf => ?_
          refine stP hf rfl rfl rfl (pM rfl) fun a hf => ?_
          obtain ⟨r_2, hr_2, hF⟩ := bnd_some hF
          refine stE hf hc rfl rfl rfl (eC (v := .agg #[.int .i64 r_2.N, .int .i64 r_2.D]) (vs := [.int .i64 (W (2 * e_9)), .int .i64 (ref09_ask rule (W (e_8 + k)))]) (caps := []) en_92 rfl rfl rfl rfl (fun w hc => ref09_lowest_ok (W (2 * e_9)) (ref09_ask rule (W (e_8 + k))) hc hr_2)) fun a w hf hc => ?_
          refine stBS (rows := ([r_2] : List api_Ratio).map enc_api_Ratio) (vs := [(0, .agg #[.int .i64 r_2.N, .int .i64 r_2.D])]) hf hc rfl rfl sl_84 rfl ⟨rfl, rfl, rfl, trivial⟩ rfl rfl fun b_8 a w hf hc => ?_
          obtain ⟨un, hun, hF⟩ := bnd_some hF
          refine stApm (xs := l_3) (ys := ([r_2] : List api_Ratio)) hf hc rfl rfl sl_84 rfl rfl rfl rfl rfl one_enc_api_Ratio (src_row hc m0) (fun _ _ => u1) (by simpa using room_spec hun) fun p_6 c_6 a w hf hc => ?_
          refine stP hf rfl rfl rfl (pA rfl) fun a hf => ?_
          refine cNil ?_
          replace hc := hc.drop k0
          exact hj35 (l_3 ++ [r_2]) p_6 c_6 _ _  (hf.keep ⟨rfl, rfl, rfl, rfl, rfl, rfl, rfl, rfl, trivial⟩) hc hF
        · replace hF := condF hb hF
          clear hb
          refine wp_skip ?_
          exact hj35 l_3 p_4 c_4 _ _  (hf.keep ⟨rfl, rfl, rfl, rfl, rfl, rfl, rfl, rfl, trivial⟩) hc hF
      · replace hF := condF hb hF
        clear hb
        refine wp_exit ?_
        refine xThen ?_
        refine xThen ?_
        have he := Option.some.inj hF
        rw [← he] at hfin32
        refine cHit ?_
        exact hr32 _ _ _ hfin32 ⟨p_4, c_4, hf.keep ⟨rfl, rfl, rfl, rfl, rfl, rfl, rfl, rfl, trivial⟩, hc⟩
    · replace hF := condF hb hF
      clear hb
      refine wp_exit ?_
      refine xThen ?_
      refine xThen ?_
      have he := Option.some.inj hF
      rw [← he] at hfin9
      refine cHit ?_
      exact hr9 _ _ _ hfin9 ⟨p_1, c_1, hf.keep ⟨rfl, rfl, rfl, rfl, rfl, rfl, rfl, trivial⟩, hc⟩

def share_proof_proves (N : Nat) (p_ : share_proof) (claim : Int) (n : Int) : Option (Bool) :=
  Option.bind (share_Rule_day N p_.rule claim n) fun r =>
  Option.bind (share_Rule_day N p_.rule claim (W (n + 1))) fun r_1 =>
  some (((decide (r.by_ ≤ 0)) || (!(share_quotient_more p_.divisor r))) && (!(share_quotient_more r_1 p_.divisor)))
theorem share_proof_proves_ok {N : Nat} {G : Pers} {Lf : List Ent} {w : World} (p_ : share_proof) (claim : Int) (n : Int)   (hc : Ctx G (Lf) w) {res : Bool} (hF : share_proof_proves N p_ claim n = some res) : Calls Try.prog 93 #[.agg #[.int .i64 p_.rule, .int .i64 p_.divisor.claim, .int .i64 p_.divisor.by_], .int .i64 claim, .int .i64 n] w (fun e w => e = .returned (.bool res) ∧ Ctx G (Lf) w) := by
  unfold share_proof_proves at hF
  refine fnIn (args := [.agg #[.int .i64 p_.rule, .int .i64 p_.divisor.claim, .int .i64 p_.divisor.by_], .int .i64 claim, .int .i64 n]) Try.func93 rfl Try.ntmps93 rfl fun a hf => ?_
  refine wp_seq_k fun K1 h1 => ?_
  refine cReg ?_
  refine stBx (cs := [.int .i64 p_.rule, .int .i64 p_.divisor.claim, .int .i64 p_.divisor.by_]) hf hc rfl rfl rfl rfl fun b_1 a w hf hc => ?_
  refine stP hf rfl rfl rfl (pA rfl) fun a hf => ?_
  refine cNil ?_
  refine h1 _ _ ?_
  refine wp_seq_k fun K2 h2 => ?_
  obtain ⟨r, hr, hF⟩ := bnd_some hF
  obtain ⟨r_1, hr_1, hF⟩ := bnd_some hF
  replace hc := hc.nilRow 0 0
  replace hc := hc.nilRow 0 0
  refine regionE (fun θ => [⟨none, none, 1, .int .i64 claim⟩, ⟨none, none, 2, .int .i64 n⟩, ⟨none, none, 3, .pointer (some ⟨b_1, 0, none⟩)⟩, ⟨some 0, none, 9, .pointer (some ⟨b_1, 0, none⟩)⟩, ⟨some 1, none, 10, .int .i64 p_.rule⟩, ⟨some 2, none, 11, .int .i64 claim⟩, ⟨some 3, none, 12, .int .i64 n⟩, ⟨some 4, none, 13, .agg #[.int .i64 r.claim, .int .i64 r.by_]⟩, ⟨some 5, none, 14, .pointer (some ⟨b_1, 0, none⟩)⟩, ⟨some 6, none, 15, .int .i64 p_.rule⟩, ⟨some 7, none, 16, .int .i64 claim⟩, ⟨some 8, none, 17, .int .i64 n⟩, ⟨some 9, none, 18, .int .i64 (W (n + 1))⟩, ⟨some 10, none, 19, .agg #[.int .i64 r_1.claim, .int .i64 r_1.by_]⟩, ⟨some 11, none, 7, .pointer (some ⟨(θ 88).b, 0, none⟩)⟩, ⟨some 12, none, 8, .pointer (some ⟨(θ 96).b, 0, none⟩)⟩]) (fun E θ => (bif E 14 then .box (θ 96).b [.int .i64 r_1.claim, .int .i64 r_1.by_] 165 else bif E 12 then .box (θ 96).b [.int .i64 0, .int .i64 0] 165 else .row none 0 [] 0 0) :: (bif E 13 then .box (θ 88).b [.int .i64 r.claim, .int .i64 r.by_] 165 else bif E 11 then .box (θ 88).b [.int .i64 0, .int .i64 0] 165 else .row none 0 [] 0 0) :: .box b_1 [.int .i64 p_.rule, .int .i64 p_.divisor.claim, .int .i64 p_.divisor.by_] 177 :: Lf) [(13, 11), (14, 12)] (fun a w => ∃ (b_4 : Nat) (b_5 : Nat), Has 37 a [(3, .pointer (some ⟨b_1, 0, none⟩)), (7, .pointer (some ⟨b_4, 0, none⟩)), (8, .pointer (some ⟨b_5, 0, none⟩))] ∧ Ctx G (.box b_5 [.int .i64 r_1.claim, .int .i64 r_1.by_] 165 :: .box b_4 [.int .i64 r.claim, .int .i64 r.by_] 165 :: .box b_1 [.int .i64 p_.rule, .int .i64 p_.divisor.claim, .int .i64 p_.divisor.by_] 177 :: Lf) w) follows_mx (by kernel_rfl) (by kernel_rfl) (HasE.of hf ⟨rfl, rfl, rfl, trivial, trivial, trivial, trivial, trivial, trivial, trivial, trivial, trivial, trivial, trivial, trivial, trivial, trivial⟩) hc ⟨?_, ?_, ?_, ?_, ?_, ?_, ?_, ?_, ?_, ?_, ?_, ?_, ?_, ?_, ?_, trivial⟩ ?_ ?_
  · intro E θ a w hD hi hp he hc
    have hf := he.h0
    replace hf := hf.more he 2 rfl onT
    refine stP hf rfl rfl rfl (pFA fa_177_0 rfl) fun a hf => ?_
    refine cNil ?_
    refine xThenN ?_
    intro ds u hau
    refine ⟨θ, he.put0 hi hau hf rfl 3 rfl rfl, ?_⟩
    exact hc
  · intro E θ a w hD hi hp he hc
    have e0 := hp.of (k := 0) rfl
    have hf := he.h0
    replace hf := hf.more he 3 rfl (onP e0)
    refine stE hf hc rfl rfl rfl (eLd1 sc_65 rfl (cell_box m2 rfl)) fun a w hf hc => ?_
    refine cNil ?_
    refine xThenN ?_
    intro ds u hau
    refine ⟨θ, he.put0 hi hau hf rfl 4 rfl rfl, ?_⟩
    exact hc
  · intro E θ a w hD hi hp he hc
    have hf := he.h0
    replace hf := hf.more he 0 rfl onT
    refine stP hf rfl rfl rfl (pM rfl) fun a hf => ?_
    refine cNil ?_
    refine xThenN ?_
    intro ds u hau
    refine ⟨θ, he.put0 hi hau hf rfl 5 rfl rfl, ?_⟩
    exact hc
  · intro E θ a w hD hi hp he hc
    have hf := he.h0
    replace hf := hf.more he 1 rfl onT
    refine stP hf rfl rfl rfl (pM rfl) fun a hf => ?_
    refine cNil ?_
    refine xThenN ?_
    intro ds u hau
    refine ⟨θ, he.put0 hi hau hf rfl 6 rfl rfl, ?_⟩
    exact hc
  · intro E θ a w hD hi hp he hc
    have e1 := hp.of (k := 1) rfl
    have e2 := hp.of (k := 2) rfl
    have e3 := hp.of (k := 3) rfl
    have hf := he.h0
    replace hf := hf.more he 4 rfl (onP e1)
    replace hf := hf.more he 5 rfl (onP e2)
    replace hf := hf.more he 6 rfl (onP e3)
    refine stE hf hc rfl rfl rfl (eC (v := .agg #[.int .i64 r.claim, .int .i64 r.by_]) (vs := [.int .i64 p_.rule, .int .i64 claim, .int .i64 n]) (caps := []) en_83 rfl rfl rfl rfl (fun w hc => share_Rule_day_ok p_.rule claim n hc hr)) fun a w hf hc => ?_
    refine cNil ?_
    refine xThenN ?_
    intro ds u hau
    refine ⟨θ, he.put0 hi hau hf rfl 7 rfl rfl, ?_⟩
    exact hc
  · intro E θ a w hD hi hp he hc
    have hf := he.h0
    replace hf := hf.more he 2 rfl onT
    refine stP hf rfl rfl rfl (pFA fa_177_0 rfl) fun a hf => ?_
    refine cNil ?_
    refine xThenN ?_
    intro ds u hau
    refine ⟨θ, he.put0 hi hau hf rfl 8 rfl rfl, ?_⟩
    exact hc
  · intro E θ a w hD hi hp he hc
    have e5 := hp.of (k := 5) rfl
    have hf := he.h0
    replace hf := hf.more he 8 rfl (onP e5)
    refine stE hf hc rfl rfl rfl (eLd1 sc_65 rfl (cell_box m2 rfl)) fun a w hf hc => ?_
    refine cNil ?_
    refine xThenN ?_
    intro ds u hau
    refine ⟨θ, he.put0 hi hau hf rfl 9 rfl rfl, ?_⟩
    exact hc
  · intro E θ a w hD hi hp he hc
    have hf := he.h0
    replace hf := hf.more he 0 rfl onT
    refine stP hf rfl rfl rfl (pM rfl) fun a hf => ?_
    refine cNil ?_
    refine xThenN ?_
    intro ds u hau
    refine ⟨θ, he.put0 hi hau hf rfl 10 rfl rfl, ?_⟩
    exact hc
  · intro E θ a w hD hi hp he hc
    have hf := he.h0
    replace hf := hf.more he 1 rfl onT
    refine stP hf rfl rfl rfl (pM rfl) fun a hf => ?_
    refine cNil ?_
    refine xThenN ?_
    intro ds u hau
    refine ⟨θ, he.put0 hi hau hf rfl 11 rfl rfl, ?_⟩
    exact hc
  · intro E θ a w hD hi hp he hc
    have e8 := hp.of (k := 8) rfl
    have hf := he.h0
    replace hf := hf.more he 11 rfl (onP e8)
    refine stP hf rfl rfl rfl (pAdd rfl rfl) fun a hf => ?_
    refine cNil ?_
    refine xThenN ?_
    intro ds u hau
    refine ⟨θ, he.put0 hi hau hf rfl 12 rfl rfl, ?_⟩
    exact hc
  · intro E θ a w hD hi hp he hc
    have e6 := hp.of (k := 6) rfl
    have e7 := hp.of (k := 7) rfl
    have e9 := hp.of (k := 9) rfl
    have hf := he.h0
    replace hf := hf.more he 9 rfl (onP e6)
    replace hf := hf.more he 10 rfl (onP e7)
    replace hf := hf.more he 12 rfl (onP e9)
    refine stE hf hc rfl rfl rfl (eC (v := .agg #[.int .i64 r_1.claim, .int .i64 r_1.by_]) (vs := [.int .i64 p_.rule, .int .i64 claim, .int .i64 (W (n + 1))]) (caps := []) en_83 rfl rfl rfl rfl (fun w hc => share_Rule_day_ok p_.rule claim (W (n + 1)) hc hr_1)) fun a w hf hc => ?_
    refine cNil ?_
    refine xThenN ?_
    intro ds u hau
    refine ⟨θ, he.put0 hi hau hf rfl 13 rfl rfl, ?_⟩
    exact hc
  · intro E θ a w hD hi hp he hc
    have e13 := hD.f 0 rfl hi
    try dsimp only at hc
    rw [hi, e13] at hc
    have hf := he.h0
    refine stAl (cs := [.int .i64 0, .int .i64 0]) hf hc rfl rfl zr_165 rfl fun b_2 a w hf hc => ?_
    refine cNil ?_
    refine xThenN ?_
    intro ds u hau
    replace hc := hc.drop k2
    replace hc := hc.pick k0
    replace hc := hc.pick k1
    refine ⟨(setT θ 88 ⟨b_2, none, 0⟩), he.put hi hau hf rfl [] trivial ⟨qq, qq, qq, qq, qq, qq, qq, qq, qq, qq, qq, qq, qq, qq, qq, qq, trivial⟩, ?_⟩
    try dsimp only
    rw [updE_self E 11, updE_fls 11 e13 rfl]
    exact hc
  · intro E θ a w hD hi hp he hc
    have e14 := hD.f 1 rfl hi
    try dsimp only at hc
    rw [hi, e14] at hc
    have hf := he.h0
    refine stAl (cs := [.int .i64 0, .int .i64 0]) hf hc rfl rfl zr_165 rfl fun b_3 a w hf hc => ?_
    refine cNil ?_
    refine xThenN ?_
    intro ds u hau
    replace hc := hc.drop k1
    refine ⟨(setT θ 96 ⟨b_3, none, 0⟩), he.put hi hau hf rfl [] trivial ⟨qq, qq, qq, qq, qq, qq, qq, qq, qq, qq, qq, qq, qq, qq, qq, qq, trivial⟩, ?_⟩
    try dsimp only
    rw [updE_self E 12, updE_fls 12 e14 rfl]
    exact hc
  · intro E θ a w hD hi hp he hc
    have e4 := hp.of (k := 4) rfl
    have e11 := hp.of (k := 11) rfl
    try dsimp only at hc
    rw [e11, hi] at hc
    have hf := he.h0
    replace hf := hf.more he 7 rfl (onP e4)
    replace hf := hf.more he 14 rfl (onP e11)
    refine stSt (vs := [.int .i64 r.claim, .int .i64 r.by_]) hf hc rfl rfl rfl rfl sz_165 rfl rfl u1 fun w hc => ?_
    refine cNil ?_
    refine xThenN ?_
    intro ds u hau
    refine ⟨θ, he.stay0 hi hau hf rfl, ?_⟩
    try dsimp only
    rw [updE_tru 13 e11, updE_self E 13]
    exact hc
  · intro E θ a w hD hi hp he hc
    have e10 := hp.of (k := 10) rfl
    have e12 := hp.of (k := 12) rfl
    try dsimp only at hc
    rw [e12, hi] at hc
    have hf := he.h0
    replace hf := hf.more he 13 rfl (onP e10)
    replace hf := hf.more he 15 rfl (onP e12)
    refine stSt (vs := [.int .i64 r_1.claim, .int .i64 r_1.by_]) hf hc rfl rfl rfl rfl sz_165 rfl rfl u0 fun w hc => ?_
    refine cNil ?_
    refine xThenN ?_
    intro ds u hau
    refine ⟨θ, he.stay0 hi hau hf rfl, ?_⟩
    try dsimp only
    rw [updE_tru 14 e12, updE_self E 14]
    exact hc
  · intro E θ a w hall he hc
    have hf := he.h0
    have e11 := hall 11 rfl
    have e12 := hall 12 rfl
    have e13 := hall 13 rfl
    have e14 := hall 14 rfl
    replace hf := hf.more he 15 rfl (onP e12)
    replace hf := hf.more he 14 rfl (onP e11)
    replace hf := hf.more he 2 rfl (onT)
    try dsimp only at hc
    rw [e11, e12, e13, e14] at hc
    exact ⟨(θ 88).b, (θ 96).b, hf.keep ⟨rfl, rfl, rfl, trivial⟩, hc⟩
  rintro a w ⟨b_4, b_5, hf, hc⟩
  refine h2 _ _ ?_
  refine wp_seq_k fun K3 h3 => ?_
  refine cReg ?_
  refine stP hf rfl rfl rfl (pFA fa_165_1 rfl) fun a hf => ?_
  refine stE hf hc rfl rfl rfl (eLd1 sc_3 rfl (cell_box m1 rfl)) fun a w hf hc => ?_
  refine stP hf rfl rfl rfl (pLe rfl rfl) fun a hf => ?_
  refine stP hf rfl rfl rfl (pM rfl) fun a hf => ?_
  refine stCut 6 (fun a w => Has 37 a [(3, .pointer (some ⟨b_1, 0, none⟩)), (7, .pointer (some ⟨b_4, 0, none⟩)), (8, .pointer (some ⟨b_5, 0, none⟩)), (20, .pointer (some ⟨b_4, 1, none⟩)), (21, .int .i64 r.by_), (22, .bool (decide (r.by_ ≤ 0))), (23, .bool (decide (r.by_ ≤ 0))), (29, .bool ((decide (r.by_ ≤ 0)) || (!(share_quotient_more p_.divisor r))))] ∧ Ctx G (.box b_5 [.int .i64 r_1.claim, .int .i64 r_1.by_] 165 :: .box b_4 [.int .i64 r.claim, .int .i64 r.by_] 165 :: .box b_1 [.int .i64 p_.rule, .int .i64 p_.divisor.claim, .int .i64 p_.divisor.by_] 177 :: Lf) w) ?_ ?_
  · cases hb : (decide (r.by_ ≤ 0))
    · rw [hb] at hf
      refine stP hf rfl rfl rfl (pFA fa_177_1 rfl) fun a hf => ?_
      refine stE hf hc rfl rfl rfl (eLdN (vs := [.int .i64 p_.divisor.claim, .int .i64 p_.divisor.by_]) ag_165 rfl rfl (cells_box (n := 2) m2 rfl)) fun a w hf hc => ?_
      refine stE hf hc rfl rfl rfl (eLdN (vs := [.int .i64 r.claim, .int .i64 r.by_]) ag_165 rfl rfl (cells_box (n := 2) m1 rfl)) fun a w hf hc => ?_
      refine stE hf hc rfl rfl rfl (eC (v := .bool (share_quotient_more p_.divisor r)) (vs := [.agg #[.int .i64 p_.divisor.claim, .int .i64 p_.divisor.by_], .agg #[.int .i64 r.claim, .int .i64 r.by_]]) (caps := []) en_84 rfl rfl rfl rfl (fun w hc => share_quotient_more_ok p_.divisor r hc rfl)) fun a w hf hc => ?_
      refine stP hf rfl rfl rfl (pNot rfl) fun a hf => ?_
      refine stP hf rfl rfl rfl (pPf rfl rfl) fun a hf => ?_
      exact cNil ⟨hf.keep ⟨rfl, rfl, rfl, rfl, rfl, rfl, rfl, rfl, trivial⟩, hc⟩
    · rw [hb] at hf
      refine stS hf rfl rfl rfl fun a hf => ?_
      refine stS hf rfl rfl rfl fun a hf => ?_
      refine stS hf rfl rfl rfl fun a hf => ?_
      refine stS hf rfl rfl rfl fun a hf => ?_
      refine stS hf rfl rfl rfl fun a hf => ?_
      refine stP hf rfl rfl rfl (pPt rfl rfl) fun a hf => ?_
      exact cNil ⟨hf.keep ⟨rfl, rfl, rfl, rfl, rfl, rfl, rfl, rfl, trivial⟩, hc⟩
  intro a w ⟨hf, hc⟩
  refine stP hf rfl rfl rfl (pM rfl) fun a hf => ?_
  refine stCut 6 (fun a w => Has 37 a [(3, .pointer (some ⟨b_1, 0, none⟩)), (7, .pointer (some ⟨b_4, 0, none⟩)), (8, .pointer (some ⟨b_5, 0, none⟩)), (20, .pointer (some ⟨b_4, 1, none⟩)), (21, .int .i64 r.by_), (22, .bool (decide (r.by_ ≤ 0))), (23, .bool (decide (r.by_ ≤ 0))), (29, .bool ((decide (r.by_ ≤ 0)) || (!(share_quotient_more p_.divisor r)))), (30, .bool ((decide (r.by_ ≤ 0)) || (!(share_quotient_more p_.divisor r)))), (36, .bool (((decide (r.by_ ≤ 0)) || (!(share_quotient_more p_.divisor r))) && (!(share_quotient_more r_1 p_.divisor))))] ∧ Ctx G (.box b_5 [.int .i64 r_1.claim, .int .i64 r_1.by_] 165 :: .box b_4 [.int .i64 r.claim, .int .i64 r.by_] 165 :: .box b_1 [.int .i64 p_.rule, .int .i64 p_.divisor.claim, .int .i64 p_.divisor.by_] 177 :: Lf) w) ?_ ?_
  · cases hb : ((decide (r.by_ ≤ 0)) || (!(share_quotient_more p_.divisor r)))
    · rw [hb] at hf
      refine stS hf rfl rfl rfl fun a hf => ?_
      refine stS hf rfl rfl rfl fun a hf => ?_
      refine stS hf rfl rfl rfl fun a hf => ?_
      refine stS hf rfl rfl rfl fun a hf => ?_
      refine stS hf rfl rfl rfl fun a hf => ?_
      refine stP hf rfl rfl rfl (pPf rfl rfl) fun a hf => ?_
      exact cNil ⟨hf.keep ⟨rfl, rfl, rfl, rfl, rfl, rfl, rfl, rfl, rfl, rfl, trivial⟩, hc⟩
    · rw [hb] at hf
      refine stE hf hc rfl rfl rfl (eLdN (vs := [.int .i64 r_1.claim, .int .i64 r_1.by_]) ag_165 rfl rfl (cells_box (n := 2) m0 rfl)) fun a w hf hc => ?_
      refine stP hf rfl rfl rfl (pFA fa_177_1 rfl) fun a hf => ?_
      refine stE hf hc rfl rfl rfl (eLdN (vs := [.int .i64 p_.divisor.claim, .int .i64 p_.divisor.by_]) ag_165 rfl rfl (cells_box (n := 2) m2 rfl)) fun a w hf hc => ?_
      refine stE hf hc rfl rfl rfl (eC (v := .bool (share_quotient_more r_1 p_.divisor)) (vs := [.agg #[.int .i64 r_1.claim, .int .i64 r_1.by_], .agg #[.int .i64 p_.divisor.claim, .int .i64 p_.divisor.by_]]) (caps := []) en_84 rfl rfl rfl rfl (fun w hc => share_quotient_more_ok r_1 p_.divisor hc rfl)) fun a w hf hc => ?_
      refine stP hf rfl rfl rfl (pNot rfl) fun a hf => ?_
      refine stP hf rfl rfl rfl (pPt rfl rfl) fun a hf => ?_
      exact cNil ⟨hf.keep ⟨rfl, rfl, rfl, rfl, rfl, rfl, rfl, rfl, rfl, rfl, trivial⟩, hc⟩
  intro a w ⟨hf, hc⟩
  refine stP hf rfl rfl rfl (pA rfl) fun a hf => ?_
  refine cNil ?_
  refine h3 _ _ ?_
  refine wp_ret ?_
  obtain rfl := Option.some.inj hF
  replace hc := hc.drop k2
  replace hc := hc.drop k1
  replace hc := hc.drop k0
  exact fnOut1 (by simp) rfl Try.results93 hf hc (show look _ 6 = _ from rfl) ⟨rfl, hc⟩

end Go.Nilo
