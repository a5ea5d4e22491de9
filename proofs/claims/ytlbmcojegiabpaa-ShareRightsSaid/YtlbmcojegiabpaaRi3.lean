/-
  What functions of the Go text compute, as plain functions, and that they do, part 3 of 3. Conditions: what each theorem names.
-/
import Derived.Test.YtlbmcojegiabpaaRi2
import Derived.Test.YtlbmcojegiabpaaProg
set_option linter.unusedVariables false
set_option maxRecDepth 100000
set_option maxHeartbeats 4000000
namespace Go.Nilo
open Go.Proofs


def law09_awake (N : Nat)  : Option (Bool) :=
  Option.bind (law09_Two N) fun r =>
  Option.bind (share_Real N r 120) fun r_1 =>
  Option.bind (law09_Two N) fun r_2 =>
  Option.bind (law09_span N 90 185) fun r_3 =>
  Option.bind (share_Shares N r_2 r_3) fun r_4 =>
  Option.bind (law09_Two N) fun r_5 =>
  Option.bind (share_Short N r_5 120) fun r_6 =>
  Option.bind (law09_Line N) fun r_7 =>
  Option.bind (share_Debts N r_7.1 (⟨0, 0⟩ : api_Span) r_7.2) fun r_8 =>
  Option.bind (cond ((((r_1.2 != 0) || (r_4.2 != 0)) || (r_6.2 != 0)) || (r_8.2 != 0)) (some true) (Option.bind (kit_Same_int N r_1.1 ([95, 18] : List Int)) fun r_9 =>
  some (!r_9))) fun t_1 =>
  Option.bind (cond t_1 (some true) (Option.bind (kit_Same_api_Span N r_4.1 ([(⟨85, 120⟩ : api_Span), (⟨0, 54⟩ : api_Span)] : List api_Span)) fun r_10 =>
  some (!r_10))) fun t_2 =>
  Option.bind (cond (t_2 || (r_6.1 != 1)) (some true) (Option.bind (kit_Same_api_Span N r_8.1 ([(⟨(-2), 8⟩ : api_Span), (⟨(-15), (-12)⟩ : api_Span), (⟨0, 0⟩ : api_Span)] : List api_Span)) fun r_11 =>
  some (!r_11))) fun t_3 =>
  cond t_3
  (some false)
  (Option.bind (share_Payback N 100 (⟨15, 4, ([20, 30, 30, 40, 40, 40] : List Int)⟩ : share_Pact)) fun r_12 =>
  Option.bind (share_Turns N ([60, 30, 10] : List Int) 9 0) fun r_13 =>
  Option.bind (share_Turns N ([60, 30, 10] : List Int) 9 1) fun r_14 =>
  Option.bind (share_Divisors N ([60, 30, 10] : List Int) ([6, 3, 0] : List Int) 0) fun r_15 =>
  Option.bind (share_Unfair N ([60, 30, 10] : List Int) ([7, 2, 0] : List Int) 0) fun r_16 =>
  Option.bind (cond (((((r_12.2 == 0) && (r_13.2 == 0)) && (r_14.2 == 0)) && (r_15.2.2 == 0)) && (r_16.2.2 == 0)) (Option.bind (kit_Same_int N r_12.1 ([20, 20, 15, 15, 15, 15] : List Int)) fun r_17 =>
  some r_17) (some false)) fun t_4 =>
  Option.bind (cond t_4 (Option.bind (kit_Same_int N r_13.1 ([6, 3, 0] : List Int)) fun r_18 =>
  some r_18) (some false)) fun t_5 =>
  Option.bind (cond t_5 (Option.bind (kit_Same_int N r_14.1 ([5, 3, 1] : List Int)) fun r_19 =>
  some r_19) (some false)) fun t_6 =>
  some ((((t_6 && (r_15.1.N == 10 && r_15.1.D == 1)) && (r_15.2.1.N == r_15.1.N && r_15.2.1.D == r_15.1.D)) && (r_16.1 == 0)) && (r_16.2.1 == 1)))
theorem law09_awake_ok {N : Nat} {G : Pers} {Lf : List Ent} {w : World}    (hc : Ctx G (Lf) w) {res : Bool} (hF : law09_awake N = some res) : Calls Try.prog 13 #[] w (fun e w => e = .returned (.bool res) ∧ Ctx G (Lf) w) := by
  unfold law09_awake at hF
  refine fnIn (args := []) Try.func13 rfl Try.ntmps13 rfl fun a hf => ?_
  refine wp_seq_k fun K1 h1 => ?_
  refine cReg ?_
  refine stP hf rfl rfl rfl (pA rfl) fun a hf => ?_
  refine cNil ?_
  refine h1 _ _ ?_
  refine wp_seq_k fun K2 h2 => ?_
  refine cReg ?_
  obtain ⟨r, hr, hF⟩ := bnd_some hF
  refine stC (vs := []) (caps := []) hf rfl rfl rfl en_67 rfl rfl rfl rfl (law09_Two_ok hc hr) ?_
  rintro _ w ⟨p_1, c_1, rfl, hc⟩
  refine ⟨_, rfl, fun a hf => ?_⟩
  obtain ⟨r_1, hr_1, hF⟩ := bnd_some hF
  obtain ⟨G1, hle1, hrd1, hc, hth1⟩ := lend hc k0
  refine stC (vs := [.agg #[.int .i64 r.States, .slice p_1 r.Rights.length c_1], .int .i64 120]) (caps := []) hf rfl rfl rfl en_18 rfl rfl rfl rfl (share_Real_ok r 120 hrd1 hc hr_1) ?_
  rintro _ w ⟨p_2, c_2, rfl, hc⟩
  refine ⟨_, rfl, fun a hf => ?_⟩
  replace hc := hth1 _ _ hc
  refine stP hf rfl rfl rfl (pM rfl) fun a hf => ?_
  refine stP hf rfl rfl rfl (pX rfl rfl) fun a hf => ?_
  refine stP hf rfl rfl rfl (pX rfl rfl) fun a hf => ?_
  refine stP hf rfl rfl rfl (pA rfl) fun a hf => ?_
  refine stP hf rfl rfl rfl (pA rfl) fun a hf => ?_
  refine cNil ?_
  refine h2 _ _ ?_
  refine wp_seq_k fun K3 h3 => ?_
  refine cReg ?_
  obtain ⟨r_2, hr_2, hF⟩ := bnd_some hF
  refine stC (vs := []) (caps := []) hf rfl rfl rfl en_67 rfl rfl rfl rfl (law09_Two_ok hc hr_2) ?_
  rintro _ w ⟨p_3, c_3, rfl, hc⟩
  refine ⟨_, rfl, fun a hf => ?_⟩
  obtain ⟨r_3, hr_3, hF⟩ := bnd_some hF
  refine stE hf hc rfl rfl rfl (eC (v := .agg #[.int .i64 r_3.Lo, .int .i64 r_3.Hi]) (vs := [.int .i64 90, .int .i64 185]) (caps := []) en_60 rfl rfl rfl rfl (fun w hc => law09_span_ok 90 185 hc hr_3)) fun a w hf hc => ?_
  obtain ⟨r_4, hr_4, hF⟩ := bnd_some hF
  obtain ⟨G1, hle1, hrd1, hc, hth1⟩ := lend hc k0
  refine stC (vs := [.agg #[.int .i64 r_2.States, .slice p_3 r_2.Rights.length c_3], .agg #[.int .i64 r_3.Lo, .int .i64 r_3.Hi]]) (caps := []) hf rfl rfl rfl en_21 rfl rfl rfl rfl (share_Shares_ok r_2 r_3 hrd1 hc hr_4) ?_
  rintro _ w ⟨p_4, c_4, rfl, hc⟩
  refine ⟨_, rfl, fun a hf => ?_⟩
  replace hc := hth1 _ _ hc
  refine stP hf rfl rfl rfl (pM rfl) fun a hf => ?_
  refine stP hf rfl rfl rfl (pX rfl rfl) fun a hf => ?_
  refine stP hf rfl rfl rfl (pX rfl rfl) fun a hf => ?_
  refine stP hf rfl rfl rfl (pA rfl) fun a hf => ?_
  refine stP hf rfl rfl rfl (pA rfl) fun a hf => ?_
  refine cNil ?_
  refine h3 _ _ ?_
  refine wp_seq_k fun K4 h4 => ?_
  refine cReg ?_
  obtain ⟨r_5, hr_5, hF⟩ := bnd_some hF
  refine stC (vs := []) (caps := []) hf rfl rfl rfl en_67 rfl rfl rfl rfl (law09_Two_ok hc hr_5) ?_
  rintro _ w ⟨p_5, c_5, rfl, hc⟩
  refine ⟨_, rfl, fun a hf => ?_⟩
  obtain ⟨r_6, hr_6, hF⟩ := bnd_some hF
  refine stE hf hc rfl rfl rfl (eC (v := .tuple #[.int .i64 r_6.1, .int .i64 r_6.2]) (vs := [.agg #[.int .i64 r_5.States, .slice p_5 r_5.Rights.length c_5], .int .i64 120]) (caps := []) en_24 rfl rfl rfl rfl (fun w hc => by obtain ⟨G1, hle1, hrd1, hc, hth1⟩ := lend hc k0; exact (share_Short_ok r_5 120 hrd1 hc hr_6).mono fun e w h => ⟨h.1, ((hth1 _ _ h.2).unpick k0)⟩)) fun a w hf hc => ?_
  refine stP hf rfl rfl rfl (pM rfl) fun a hf => ?_
  refine stP hf rfl rfl rfl (pX rfl rfl) fun a hf => ?_
  refine stP hf rfl rfl rfl (pX rfl rfl) fun a hf => ?_
  refine stP hf rfl rfl rfl (pA rfl) fun a hf => ?_
  refine stP hf rfl rfl rfl (pA rfl) fun a hf => ?_
  refine cNil ?_
  refine h4 _ _ ?_
  refine wp_seq_k fun K5 h5 => ?_
  refine cReg ?_
  obtain ⟨r_7, hr_7, hF⟩ := bnd_some hF
  refine stC (vs := []) (caps := []) hf rfl rfl rfl en_68 rfl rfl rfl rfl (law09_Line_ok hc hr_7) ?_
  rintro _ w ⟨p_6, c_6, p_7, c_7, rfl, hc⟩
  refine ⟨_, rfl, fun a hf => ?_⟩
  refine stP hf rfl rfl rfl (pM rfl) fun a hf => ?_
  refine stP hf rfl rfl rfl (pX rfl rfl) fun a hf => ?_
  refine stP hf rfl rfl rfl (pX rfl rfl) fun a hf => ?_
  refine stAl (cs := [.slice none 0 0, .int .i64 0]) hf hc rfl rfl zr_88 rfl fun b_1 a w hf hc => ?_
  refine stSt (vs := [.slice p_6 r_7.1.Table.length c_6, .int .i64 r_7.1.Credit]) hf hc rfl rfl rfl rfl sz_88 rfl rfl u0 fun w hc => ?_
  refine stP hf rfl rfl rfl (pA rfl) fun a hf => ?_
  refine cNil ?_
  refine h5 _ _ ?_
  refine wp_seq_k fun K6 h6 => ?_
  refine cReg ?_
  refine stE hf hc rfl rfl rfl (eLdN (vs := [.slice p_6 r_7.1.Table.length c_6, .int .i64 r_7.1.Credit]) ag_88 rfl rfl (cells_box (n := 2) m0 rfl)) fun a w hf hc => ?_
  refine stP hf rfl rfl rfl (pBuildS (cells := [.int .i64 0, .int .i64 0]) bt_26 rfl rfl) fun a hf => ?_
  refine stP hf rfl rfl rfl (pM rfl) fun a hf => ?_
  obtain ⟨r_8, hr_8, hF⟩ := bnd_some hF
  obtain ⟨G1, hle1, hrd1, hc, hth1⟩ := lend hc k1
  obtain ⟨G2, hle2, hrd2, hc, hth2⟩ := lend hc k1
  refine stC (vs := [.agg #[.slice p_6 r_7.1.Table.length c_6, .int .i64 r_7.1.Credit], .agg #[.int .i64 0, .int .i64 0], .slice p_7 r_7.2.length c_7]) (caps := []) hf rfl rfl rfl en_54 rfl rfl rfl rfl (share_Debts_ok r_7.1 (⟨0, 0⟩ : api_Span) r_7.2 (hrd1.mono hle2) hrd2 hc hr_8) ?_
  rintro _ w ⟨p_8, c_8, rfl, hc⟩
  refine ⟨_, rfl, fun a hf => ?_⟩
  replace hc := hth2 _ _ hc
  replace hc := hth1 _ _ hc
  refine stP hf rfl rfl rfl (pM rfl) fun a hf => ?_
  refine stP hf rfl rfl rfl (pX rfl rfl) fun a hf => ?_
  refine stP hf rfl rfl rfl (pX rfl rfl) fun a hf => ?_
  refine stP hf rfl rfl rfl (pA rfl) fun a hf => ?_
  refine stP hf rfl rfl rfl (pA rfl) fun a hf => ?_
  refine cNil ?_
  refine h6 _ _ ?_
  refine wp_seq_k fun K7 h7 => ?_
  refine wp_seq_k fun K8 h8 => ?_
  refine cReg ?_
  refine stP hf rfl rfl rfl (pM rfl) fun a hf => ?_
  refine stP hf rfl rfl rfl (pNe rfl rfl) fun a hf => ?_
  refine stP hf rfl rfl rfl (pM rfl) fun a hf => ?_
  refine stCut 3 (fun a w => Has 168 a [(1, .slice p_2 r_1.1.length c_2), (2, .int .i64 r_1.2), (3, .slice p_4 r_4.1.length c_4), (4, .int .i64 r_4.2), (5, .int .i64 r_6.1), (6, .int .i64 r_6.2), (9, .slice p_8 r_8.1.length c_8), (10, .int .i64 r_8.2), (46, .int .i64 r_1.2), (47, .bool (r_1.2 != 0)), (48, .bool (r_1.2 != 0)), (51, .bool ((r_1.2 != 0) || (r_4.2 != 0)))] ∧ Ctx G (.row p_6 c_6 (r_7.1.Table.map enc_share_Point) 116 2 :: .row p_7 c_7 (r_7.2.map enc_share_Year) 94 5 :: .row p_8 c_8 (r_8.1.map enc_api_Span) 26 2 :: .box b_1 [.slice p_6 r_7.1.Table.length c_6, .int .i64 r_7.1.Credit] 88 :: .row p_5 c_5 (r_5.Rights.map enc_share_Right) 51 3 :: .row p_3 c_3 (r_2.Rights.map enc_share_Right) 51 3 :: .row p_4 c_4 (r_4.1.map enc_api_Span) 26 2 :: .row p_1 c_1 (r.Rights.map enc_share_Right) 51 3 :: .row p_2 c_2 (r_1.1.map encI_i64) 3 1 :: Lf) w) ?_ ?_
  · cases hb : (r_1.2 != 0)
    · rw [hb] at hf
      refine stP hf rfl rfl rfl (pM rfl) fun a hf => ?_
      refine stP hf rfl rfl rfl (pNe rfl rfl) fun a hf => ?_
      refine stP hf rfl rfl rfl (pPf rfl rfl) fun a hf => ?_
      exact cNil ⟨hf.keep ⟨rfl, rfl, rfl, rfl, rfl, rfl, rfl, rfl, rfl, rfl, rfl, rfl, trivial⟩, hc⟩
    · rw [hb] at hf
      refine stS hf rfl rfl rfl fun a hf => ?_
      refine stS hf rfl rfl rfl fun a hf => ?_
      refine stP hf rfl rfl rfl (pPt rfl rfl) fun a hf => ?_
      exact cNil ⟨hf.keep ⟨rfl, rfl, rfl, rfl, rfl, rfl, rfl, rfl, rfl, rfl, rfl, rfl, trivial⟩, hc⟩
  intro a w ⟨hf, hc⟩
  refine stP hf rfl rfl rfl (pM rfl) fun a hf => ?_
  refine stCut 3 (fun a w => Has 168 a [(1, .slice p_2 r_1.1.length c_2), (2, .int .i64 r_1.2), (3, .slice p_4 r_4.1.length c_4), (4, .int .i64 r_4.2), (5, .int .i64 r_6.1), (6, .int .i64 r_6.2), (9, .slice p_8 r_8.1.length c_8), (10, .int .i64 r_8.2), (46, .int .i64 r_1.2), (47, .bool (r_1.2 != 0)), (48, .bool (r_1.2 != 0)), (51, .bool ((r_1.2 != 0) || (r_4.2 != 0))), (52, .bool ((r_1.2 != 0) || (r_4.2 != 0))), (55, .bool (((r_1.2 != 0) || (r_4.2 != 0)) || (r_6.2 != 0)))] ∧ Ctx G (.row p_6 c_6 (r_7.1.Table.map enc_share_Point) 116 2 :: .row p_7 c_7 (r_7.2.map enc_share_Year) 94 5 :: .row p_8 c_8 (r_8.1.map enc_api_Span) 26 2 :: .box b_1 [.slice p_6 r_7.1.Table.length c_6, .int .i64 r_7.1.Credit] 88 :: .row p_5 c_5 (r_5.Rights.map enc_share_Right) 51 3 :: .row p_3 c_3 (r_2.Rights.map enc_share_Right) 51 3 :: .row p_4 c_4 (r_4.1.map enc_api_Span) 26 2 :: .row p_1 c_1 (r.Rights.map enc_share_Right) 51 3 :: .row p_2 c_2 (r_1.1.map encI_i64) 3 1 :: Lf) w) ?_ ?_
  · cases hb : ((r_1.2 != 0) || (r_4.2 != 0))
    · rw [hb] at hf
      refine stP hf rfl rfl rfl (pM rfl) fun a hf => ?_
      refine stP hf rfl rfl rfl (pNe rfl rfl) fun a hf => ?_
      refine stP hf rfl rfl rfl (pPf rfl rfl) fun a hf => ?_
      exact cNil ⟨hf.keep ⟨rfl, rfl, rfl, rfl, rfl, rfl, rfl, rfl, rfl, rfl, rfl, rfl, rfl, rfl, trivial⟩, hc⟩
    · rw [hb] at hf
      refine stS hf rfl rfl rfl fun a hf => ?_
      refine stS hf rfl rfl rfl fun a hf => ?_
      refine stP hf rfl rfl rfl (pPt rfl rfl) fun a hf => ?_
      exact cNil ⟨hf.keep ⟨rfl, rfl, rfl, rfl, rfl, rfl, rfl, rfl, rfl, rfl, rfl, rfl, rfl, rfl, trivial⟩, hc⟩
  intro a w ⟨hf, hc⟩
  refine stP hf rfl rfl rfl (pM rfl) fun a hf => ?_
  refine stCut 3 (fun a w => Has 168 a [(1, .slice p_2 r_1.1.length c_2), (2, .int .i64 r_1.2), (3, .slice p_4 r_4.1.length c_4), (4, .int .i64 r_4.2), (5, .int .i64 r_6.1), (6, .int .i64 r_6.2), (9, .slice p_8 r_8.1.length c_8), (10, .int .i64 r_8.2), (46, .int .i64 r_1.2), (47, .bool (r_1.2 != 0)), (48, .bool (r_1.2 != 0)), (51, .bool ((r_1.2 != 0) || (r_4.2 != 0))), (52, .bool ((r_1.2 != 0) || (r_4.2 != 0))), (55, .bool (((r_1.2 != 0) || (r_4.2 != 0)) || (r_6.2 != 0))), (56, .bool (((r_1.2 != 0) || (r_4.2 != 0)) || (r_6.2 != 0))), (59, .bool ((((r_1.2 != 0) || (r_4.2 != 0)) || (r_6.2 != 0)) || (r_8.2 != 0)))] ∧ Ctx G (.row p_6 c_6 (r_7.1.Table.map enc_share_Point) 116 2 :: .row p_7 c_7 (r_7.2.map enc_share_Year) 94 5 :: .row p_8 c_8 (r_8.1.map enc_api_Span) 26 2 :: .box b_1 [.slice p_6 r_7.1.Table.length c_6, .int .i64 r_7.1.Credit] 88 :: .row p_5 c_5 (r_5.Rights.map enc_share_Right) 51 3 :: .row p_3 c_3 (r_2.Rights.map enc_share_Right) 51 3 :: .row p_4 c_4 (r_4.1.map enc_api_Span) 26 2 :: .row p_1 c_1 (r.Rights.map enc_share_Right) 51 3 :: .row p_2 c_2 (r_1.1.map encI_i64) 3 1 :: Lf) w) ?_ ?_
  · cases hb : (((r_1.2 != 0) || (r_4.2 != 0)) || (r_6.2 != 0))
    · rw [hb] at hf
      refine stP hf rfl rfl rfl (pM rfl) fun a hf => ?_
      refine stP hf rfl rfl rfl (pNe rfl rfl) fun a hf => ?_
      refine stP hf rfl rfl rfl (pPf rfl rfl) fun a hf => ?_
      exact cNil ⟨hf.keep ⟨rfl, rfl, rfl, rfl, rfl, rfl, rfl, rfl, rfl, rfl, rfl, rfl, rfl, rfl, rfl, rfl, trivial⟩, hc⟩
    · rw [hb] at hf
      refine stS hf rfl rfl rfl fun a hf => ?_
      refine stS hf rfl rfl rfl fun a hf => ?_
      refine stP hf rfl rfl rfl (pPt rfl rfl) fun a hf => ?_
      exact cNil ⟨hf.keep ⟨rfl, rfl, rfl, rfl, rfl, rfl, rfl, rfl, rfl, rfl, rfl, rfl, rfl, rfl, rfl, rfl, trivial⟩, hc⟩
  intro a w ⟨hf, hc⟩
  refine stP hf rfl rfl rfl (pM rfl) fun a hf => ?_
  obtain ⟨t_1, ht_1, hF⟩ := bnd_some hF
  refine stCut 5 (fun a w => Has 168 a [(1, .slice p_2 r_1.1.length c_2), (2, .int .i64 r_1.2), (3, .slice p_4 r_4.1.length c_4), (4, .int .i64 r_4.2), (5, .int .i64 r_6.1), (6, .int .i64 r_6.2), (9, .slice p_8 r_8.1.length c_8), (10, .int .i64 r_8.2), (46, .int .i64 r_1.2), (47, .bool (r_1.2 != 0)), (48, .bool (r_1.2 != 0)), (51, .bool ((r_1.2 != 0) || (r_4.2 != 0))), (52, .bool ((r_1.2 != 0) || (r_4.2 != 0))), (55, .bool (((r_1.2 != 0) || (r_4.2 != 0)) || (r_6.2 != 0))), (56, .bool (((r_1.2 != 0) || (r_4.2 != 0)) || (r_6.2 != 0))), (59, .bool ((((r_1.2 != 0) || (r_4.2 != 0)) || (r_6.2 != 0)) || (r_8.2 != 0))), (60, .bool ((((r_1.2 != 0) || (r_4.2 != 0)) || (r_6.2 != 0)) || (r_8.2 != 0))), (65, .bool t_1)] ∧ Ctx G (.row p_6 c_6 (r_7.1.Table.map enc_share_Point) 116 2 :: .row p_7 c_7 (r_7.2.map enc_share_Year) 94 5 :: .row p_8 c_8 (r_8.1.map enc_api_Span) 26 2 :: .box b_1 [.slice p_6 r_7.1.Table.length c_6, .int .i64 r_7.1.Credit] 88 :: .row p_5 c_5 (r_5.Rights.map enc_share_Right) 51 3 :: .row p_3 c_3 (r_2.Rights.map enc_share_Right) 51 3 :: .row p_4 c_4 (r_4.1.map enc_api_Span) 26 2 :: .row p_1 c_1 (r.Rights.map enc_share_Right) 51 3 :: .row p_2 c_2 (r_1.1.map encI_i64) 3 1 :: Lf) w) ?_ ?_
  · cases hb : ((((r_1.2 != 0) || (r_4.2 != 0)) || (r_6.2 != 0)) || (r_8.2 != 0))
    · rw [hb] at hf
      have hF := condF hb ht_1
      refine stP hf rfl rfl rfl (pM rfl) fun a hf => ?_
      refine stBS (rows := ([95, 18] : List Int).map encI_i64) (vs := [(0, .int .i64 95), (1, .int .i64 18)]) hf hc rfl rfl sl_36 rfl ⟨rfl, rfl, rfl, rfl, rfl, rfl, trivial⟩ rfl rfl fun b_2 a w hf hc => ?_
      obtain ⟨r_9, hr_9, hF⟩ := bnd_some hF
      refine stE hf hc rfl rfl rfl (eC (v := .bool r_9) (vs := [.slice p_2 r_1.1.length c_2, .slice (some ⟨b_2, 0, none⟩) 2 2]) (caps := []) en_20 rfl rfl rfl rfl (fun w hc => by obtain ⟨G1, hle1, hrd1, hc, hth1⟩ := lend hc k9; obtain ⟨G2, hle2, hrd2, hc, hth2⟩ := lend hc k0; exact (kit_Same_int_ok r_1.1 ([95, 18] : List Int) (hrd1.mono hle2) hrd2 hc hr_9).mono fun e w h => ⟨h.1, ((hth1 _ _ ((hth2 _ _ h.2).unpick k0)).unpick k9)⟩)) fun a w hf hc => ?_
      refine stP hf rfl rfl rfl (pNot rfl) fun a hf => ?_
      refine stP hf rfl rfl rfl (pPf rfl rfl) fun a hf => ?_
      replace hc := hc.drop k0
      obtain rfl := Option.some.inj hF
      exact cNil ⟨hf.keep ⟨rfl, rfl, rfl, rfl, rfl, rfl, rfl, rfl, rfl, rfl, rfl, rfl, rfl, rfl, rfl, rfl, rfl, rfl, trivial⟩, hc⟩
    · rw [hb] at hf
      have hF := condT hb ht_1
      obtain rfl := Option.some.inj hF
      refine stS hf rfl rfl rfl fun a hf => ?_
      refine stS hf rfl rfl rfl fun a hf => ?_
      refine stS hf rfl rfl rfl fun a hf => ?_
      refine stS hf rfl rfl rfl fun a hf => ?_
      refine stP hf rfl rfl rfl (pPt rfl rfl) fun a hf => ?_
      exact cNil ⟨hf.keep ⟨rfl, rfl, rfl, rfl, rfl, rfl, rfl, rfl, rfl, rfl, rfl, rfl, rfl, rfl, rfl, rfl, rfl, rfl, trivial⟩, hc⟩
  intro a w ⟨hf, hc⟩
  refine stP hf rfl rfl rfl (pM rfl) fun a hf => ?_
  obtain ⟨t_2, ht_2, hF⟩ := bnd_some hF
  refine stCut 7 (fun a w => Has 168 a [(1, .slice p_2 r_1.1.length c_2), (2, .int .i64 r_1.2), (3, .slice p_4 r_4.1.length c_4), (4, .int .i64 r_4.2), (5, .int .i64 r_6.1), (6, .int .i64 r_6.2), (9, .slice p_8 r_8.1.length c_8), (10, .int .i64 r_8.2), (46, .int .i64 r_1.2), (47, .bool (r_1.2 != 0)), (48, .bool (r_1.2 != 0)), (51, .bool ((r_1.2 != 0) || (r_4.2 != 0))), (52, .bool ((r_1.2 != 0) || (r_4.2 != 0))), (55, .bool (((r_1.2 != 0) || (r_4.2 != 0)) || (r_6.2 != 0))), (56, .bool (((r_1.2 != 0) || (r_4.2 != 0)) || (r_6.2 != 0))), (59, .bool ((((r_1.2 != 0) || (r_4.2 != 0)) || (r_6.2 != 0)) || (r_8.2 != 0))), (60, .bool ((((r_1.2 != 0) || (r_4.2 != 0)) || (r_6.2 != 0)) || (r_8.2 != 0))), (65, .bool t_1), (66, .bool t_1), (73, .bool t_2)] ∧ Ctx G (.row p_6 c_6 (r_7.1.Table.map enc_share_Point) 116 2 :: .row p_7 c_7 (r_7.2.map enc_share_Year) 94 5 :: .row p_8 c_8 (r_8.1.map enc_api_Span) 26 2 :: .box b_1 [.slice p_6 r_7.1.Table.length c_6, .int .i64 r_7.1.Credit] 88 :: .row p_5 c_5 (r_5.Rights.map enc_share_Right) 51 3 :: .row p_3 c_3 (r_2.Rights.map enc_share_Right) 51 3 :: .row p_4 c_4 (r_4.1.map enc_api_Span) 26 2 :: .row p_1 c_1 (r.Rights.map enc_share_Right) 51 3 :: .row p_2 c_2 (r_1.1.map encI_i64) 3 1 :: Lf) w) ?_ ?_
  · cases hb : t_1
    · rw [hb] at hf
      have hF := condF hb ht_2
      refine stP hf rfl rfl rfl (pM rfl) fun a hf => ?_
      refine stP hf rfl rfl rfl (pBuildS (cells := [.int .i64 85, .int .i64 120]) bt_26 rfl rfl) fun a hf => ?_
      refine stP hf rfl rfl rfl (pBuildS (cells := [.int .i64 0, .int .i64 54]) bt_26 rfl rfl) fun a hf => ?_
      refine stBS (rows := ([(⟨85, 120⟩ : api_Span), (⟨0, 54⟩ : api_Span)] : List api_Span).map enc_api_Span) (vs := [(0, .agg #[.int .i64 85, .int .i64 120]), (1, .agg #[.int .i64 0, .int .i64 54])]) hf hc rfl rfl sl_41 rfl ⟨rfl, rfl, rfl, rfl, rfl, rfl, trivial⟩ rfl rfl fun b_3 a w hf hc => ?_
      obtain ⟨r_10, hr_10, hF⟩ := bnd_some hF
      refine stE hf hc rfl rfl rfl (eC (v := .bool r_10) (vs := [.slice p_4 r_4.1.length c_4, .slice (some ⟨b_3, 0, none⟩) 2 2]) (caps := []) en_23 rfl rfl rfl rfl (fun w hc => by obtain ⟨G1, hle1, hrd1, hc, hth1⟩ := lend hc k7; obtain ⟨G2, hle2, hrd2, hc, hth2⟩ := lend hc k0; exact (kit_Same_api_Span_ok r_4.1 ([(⟨85, 120⟩ : api_Span), (⟨0, 54⟩ : api_Span)] : List api_Span) (hrd1.mono hle2) hrd2 hc hr_10).mono fun e w h => ⟨h.1, ((hth1 _ _ ((hth2 _ _ h.2).unpick k0)).unpick k7)⟩)) fun a w hf hc => ?_
      refine stP hf rfl rfl rfl (pNot rfl) fun a hf => ?_
      refine stP hf rfl rfl rfl (pPf rfl rfl) fun a hf => ?_
      replace hc := hc.drop k0
      obtain rfl := Option.some.inj hF
      exact cNil ⟨hf.keep ⟨rfl, rfl, rfl, rfl, rfl, rfl, rfl, rfl, rfl, rfl, rfl, rfl, rfl, rfl, rfl, rfl, rfl, rfl, rfl, rfl, trivial⟩, hc⟩
    · rw [hb] at hf
      have hF := condT hb ht_2
      obtain rfl := Option.some.inj hF
      refine stS hf rfl rfl rfl fun a hf => ?_
      refine stS hf rfl rfl rfl fun a hf => ?_
      refine stS hf rfl rfl rfl fun a hf => ?_
      refine stS hf rfl rfl rfl fun a hf => ?_
      refine stS hf rfl rfl rfl fun a hf => ?_
      refine stS hf rfl rfl rfl fun a hf => ?_
      refine stP hf rfl rfl rfl (pPt rfl rfl) fun a hf => ?_
      exact cNil ⟨hf.keep ⟨rfl, rfl, rfl, rfl, rfl, rfl, rfl, rfl, rfl, rfl, rfl, rfl, rfl, rfl, rfl, rfl, rfl, rfl, rfl, rfl, trivial⟩, hc⟩
  intro a w ⟨hf, hc⟩
  refine stP hf rfl rfl rfl (pM rfl) fun a hf => ?_
  refine stCut 3 (fun a w => Has 168 a [(1, .slice p_2 r_1.1.length c_2), (2, .int .i64 r_1.2), (3, .slice p_4 r_4.1.length c_4), (4, .int .i64 r_4.2), (5, .int .i64 r_6.1), (6, .int .i64 r_6.2), (9, .slice p_8 r_8.1.length c_8), (10, .int .i64 r_8.2), (46, .int .i64 r_1.2), (47, .bool (r_1.2 != 0)), (48, .bool (r_1.2 != 0)), (51, .bool ((r_1.2 != 0) || (r_4.2 != 0))), (52, .bool ((r_1.2 != 0) || (r_4.2 != 0))), (55, .bool (((r_1.2 != 0) || (r_4.2 != 0)) || (r_6.2 != 0))), (56, .bool (((r_1.2 != 0) || (r_4.2 != 0)) || (r_6.2 != 0))), (59, .bool ((((r_1.2 != 0) || (r_4.2 != 0)) || (r_6.2 != 0)) || (r_8.2 != 0))), (60, .bool ((((r_1.2 != 0) || (r_4.2 != 0)) || (r_6.2 != 0)) || (r_8.2 != 0))), (65, .bool t_1), (66, .bool t_1), (73, .bool t_2), (74, .bool t_2), (77, .bool (t_2 || (r_6.1 != 1)))] ∧ Ctx G (.row p_6 c_6 (r_7.1.Table.map enc_share_Point) 116 2 :: .row p_7 c_7 (r_7.2.map enc_share_Year) 94 5 :: .row p_8 c_8 (r_8.1.map enc_api_Span) 26 2 :: .box b_1 [.slice p_6 r_7.1.Table.length c_6, .int .i64 r_7.1.Credit] 88 :: .row p_5 c_5 (r_5.Rights.map enc_share_Right) 51 3 :: .row p_3 c_3 (r_2.Rights.map enc_share_Right) 51 3 :: .row p_4 c_4 (r_4.1.map enc_api_Span) 26 2 :: .row p_1 c_1 (r.Rights.map enc_share_Right) 51 3 :: .row p_2 c_2 (r_1.1.map encI_i64) 3 1 :: Lf) w) ?_ ?_
  · cases hb : t_2
    · rw [hb] at hf
      refine stP hf rfl rfl rfl (pM rfl) fun a hf => ?_
      refine stP hf rfl rfl rfl (pNe rfl rfl) fun a hf => ?_
      refine stP hf rfl rfl rfl (pPf rfl rfl) fun a hf => ?_
      exact cNil ⟨hf.keep ⟨rfl, rfl, rfl, rfl, rfl, rfl, rfl, rfl, rfl, rfl, rfl, rfl, rfl, rfl, rfl, rfl, rfl, rfl, rfl, rfl, rfl, rfl, trivial⟩, hc⟩
    · rw [hb] at hf
      refine stS hf rfl rfl rfl fun a hf => ?_
      refine stS hf rfl rfl rfl fun a hf => ?_
      refine stP hf rfl rfl rfl (pPt rfl rfl) fun a hf => ?_
      exact cNil ⟨hf.keep ⟨rfl, rfl, rfl, rfl, rfl, rfl, rfl, rfl, rfl, rfl, rfl, rfl, rfl, rfl, rfl, rfl, rfl, rfl, rfl, rfl, rfl, rfl, trivial⟩, hc⟩
  intro a w ⟨hf, hc⟩
  refine stP hf rfl rfl rfl (pM rfl) fun a hf => ?_
  obtain ⟨t_3, ht_3, hF⟩ := bnd_some hF
  refine stCut 8 (fun a w => Has 168 a [(1, .slice p_2 r_1.1.length c_2), (2, .int .i64 r_1.2), (3, .slice p_4 r_4.1.length c_4), (4, .int .i64 r_4.2), (5, .int .i64 r_6.1), (6, .int .i64 r_6.2), (9, .slice p_8 r_8.1.length c_8), (10, .int .i64 r_8.2), (46, .int .i64 r_1.2), (47, .bool (r_1.2 != 0)), (48, .bool (r_1.2 != 0)), (51, .bool ((r_1.2 != 0) || (r_4.2 != 0))), (52, .bool ((r_1.2 != 0) || (r_4.2 != 0))), (55, .bool (((r_1.2 != 0) || (r_4.2 != 0)) || (r_6.2 != 0))), (56, .bool (((r_1.2 != 0) || (r_4.2 != 0)) || (r_6.2 != 0))), (59, .bool ((((r_1.2 != 0) || (r_4.2 != 0)) || (r_6.2 != 0)) || (r_8.2 != 0))), (60, .bool ((((r_1.2 != 0) || (r_4.2 != 0)) || (r_6.2 != 0)) || (r_8.2 != 0))), (65, .bool t_1), (66, .bool t_1), (73, .bool t_2), (74, .bool t_2), (77, .bool (t_2 || (r_6.1 != 1))), (78, .bool (t_2 || (r_6.1 != 1))), (86, .bool t_3)] ∧ Ctx G (.row p_6 c_6 (r_7.1.Table.map enc_share_Point) 116 2 :: .row p_7 c_7 (r_7.2.map enc_share_Year) 94 5 :: .row p_8 c_8 (r_8.1.map enc_api_Span) 26 2 :: .box b_1 [.slice p_6 r_7.1.Table.length c_6, .int .i64 r_7.1.Credit] 88 :: .row p_5 c_5 (r_5.Rights.map enc_share_Right) 51 3 :: .row p_3 c_3 (r_2.Rights.map enc_share_Right) 51 3 :: .row p_4 c_4 (r_4.1.map enc_api_Span) 26 2 :: .row p_1 c_1 (r.Rights.map enc_share_Right) 51 3 :: .row p_2 c_2 (r_1.1.map encI_i64) 3 1 :: Lf) w) ?_ ?_
  · cases hb : (t_2 || (r_6.1 != 1))
    · rw [hb] at hf
      have hF := condF hb ht_3
      refine stP hf rfl rfl rfl (pM rfl) fun a hf => ?_
      refine stP hf rfl rfl rfl (pBuildS (cells := [.int .i64 (-2), .int .i64 8]) bt_26 rfl rfl) fun a hf => ?_
      refine stP hf rfl rfl rfl (pBuildS (cells := [.int .i64 (-15), .int .i64 (-12)]) bt_26 rfl rfl) fun a hf => ?_
      refine stP hf rfl rfl rfl (pBuildS (cells := [.int .i64 0, .int .i64 0]) bt_26 rfl rfl) fun a hf => ?_
      refine stBS (rows := ([(⟨(-2), 8⟩ : api_Span), (⟨(-15), (-12)⟩ : api_Span), (⟨0, 0⟩ : api_Span)] : List api_Span).map enc_api_Span) (vs := [(0, .agg #[.int .i64 (-2), .int .i64 8]), (1, .agg #[.int .i64 (-15), .int .i64 (-12)]), (2, .agg #[.int .i64 0, .int .i64 0])]) hf hc rfl rfl sl_41 rfl ⟨rfl, rfl, rfl, rfl, rfl, rfl, rfl, rfl, rfl, trivial⟩ rfl rfl fun b_4 a w hf hc => ?_
      obtain ⟨r_11, hr_11, hF⟩ := bnd_some hF
      refine stE hf hc rfl rfl rfl (eC (v := .bool r_11) (vs := [.slice p_8 r_8.1.length c_8, .slice (some ⟨b_4, 0, none⟩) 3 3]) (caps := []) en_23 rfl rfl rfl rfl (fun w hc => by obtain ⟨G1, hle1, hrd1, hc, hth1⟩ := lend hc k3; obtain ⟨G2, hle2, hrd2, hc, hth2⟩ := lend hc k0; exact (kit_Same_api_Span_ok r_8.1 ([(⟨(-2), 8⟩ : api_Span), (⟨(-15), (-12)⟩ : api_Span), (⟨0, 0⟩ : api_Span)] : List api_Span) (hrd1.mono hle2) hrd2 hc hr_11).mono fun e w h => ⟨h.1, ((hth1 _ _ ((hth2 _ _ h.2).unpick k0)).unpick k3)⟩)) fun a w hf hc => ?_
      refine stP hf rfl rfl rfl (pNot rfl) fun a hf => ?_
      refine stP hf rfl rfl rfl (pPf rfl rfl) fun a hf => ?_
      replace hc := hc.drop k0
      obtain rfl := Option.some.inj hF
      exact cNil ⟨hf.keep ⟨rfl, rfl, rfl, rfl, rfl, rfl, rfl, rfl, rfl, rfl, rfl, rfl, rfl, rfl, rfl, rfl, rfl, rfl, rfl, rfl, rfl, rfl, rfl, rfl, trivial⟩, hc⟩
    · rw [hb] at hf
      have hF := condT hb ht_3
      obtain rfl := Option.some.inj hF
      refine stS hf rfl rfl rfl fun a hf => ?_
      refine stS hf rfl rfl rfl fun a hf => ?_
      refine stS hf rfl rfl rfl fun a hf => ?_
      refine stS hf rfl rfl rfl fun a hf => ?_
      refine stS hf rfl rfl rfl fun a hf => ?_
      refine stS hf rfl rfl rfl fun a hf => ?_
      refine stS hf rfl rfl rfl fun a hf => ?_
      refine stP hf rfl rfl rfl (pPt rfl rfl) fun a hf => ?_
      exact cNil ⟨hf.keep ⟨rfl, rfl, rfl, rfl, rfl, rfl, rfl, rfl, rfl, rfl, rfl, rfl, rfl, rfl, rfl, rfl, rfl, rfl, rfl, rfl, rfl, rfl, rfl, rfl, trivial⟩, hc⟩
  intro a w ⟨hf, hc⟩
  refine cNil ?_
  refine h8 _ _ ?_
  refine cCond (b := t_3) hf rfl (fun hb => ?_) (fun hb => ?_)
  · replace hF := condT hb hF
    clear hb
    refine wp_seq_k fun K9 h9 => ?_
    refine cReg ?_
    refine stP hf rfl rfl rfl (pA rfl) fun a hf => ?_
    refine cNil ?_
    refine h9 _ _ ?_
    refine wp_ret ?_
    refine xThenR ?_
    obtain rfl := Option.some.inj hF
    replace hc := hc.drop k8
    replace hc := hc.drop k7
    replace hc := hc.drop k6
    replace hc := hc.drop k5
    replace hc := hc.drop k4
    replace hc := hc.drop k3
    replace hc := hc.drop k2
    replace hc := hc.drop k1
    replace hc := hc.drop k0
    exact fnOut1 (by simp) rfl Try.results13 hf hc (show look _ 0 = _ from rfl) ⟨rfl, hc⟩
  · replace hF := condF hb hF
    clear hb
    refine wp_skip ?_
    refine h7 _ _ ?_
    refine wp_seq_k fun K10 h10 => ?_
    refine cReg ?_
    refine stBS (rows := ([20, 30, 30, 40, 40, 40] : List Int).map encI_i64) (vs := [(0, .int .i64 20), (1, .int .i64 30), (2, .int .i64 30), (3, .int .i64 40), (4, .int .i64 40), (5, .int .i64 40)]) hf hc rfl rfl sl_36 rfl ⟨rfl, rfl, rfl, rfl, rfl, rfl, rfl, rfl, rfl, rfl, rfl, rfl, rfl, rfl, rfl, rfl, rfl, rfl, trivial⟩ rfl rfl fun b_5 a w hf hc => ?_
    refine stP hf rfl rfl rfl (pBuildS (cells := [.int .i64 15, .int .i64 4, .slice (some ⟨b_5, 0, none⟩) 6 6]) bt_59 rfl rfl) fun a hf => ?_
    obtain ⟨r_12, hr_12, hF⟩ := bnd_some hF
    obtain ⟨G1, hle1, hrd1, hc, hth1⟩ := lend hc k0
    refine stC (vs := [.int .i64 100, .agg #[.int .i64 15, .int .i64 4, .slice (some ⟨b_5, 0, none⟩) 6 6]]) (caps := []) hf rfl rfl rfl en_30 rfl rfl rfl rfl (share_Payback_ok 100 (⟨15, 4, ([20, 30, 30, 40, 40, 40] : List Int)⟩ : share_Pact) hrd1 hc hr_12) ?_
    rintro _ w ⟨p_9, c_9, rfl, hc⟩
    refine ⟨_, rfl, fun a hf => ?_⟩
    replace hc := hth1 _ _ hc
    refine stP hf rfl rfl rfl (pM rfl) fun a hf => ?_
    refine stP hf rfl rfl rfl (pX rfl rfl) fun a hf => ?_
    refine stP hf rfl rfl rfl (pX rfl rfl) fun a hf => ?_
    refine stP hf rfl rfl rfl (pA rfl) fun a hf => ?_
    refine stP hf rfl rfl rfl (pA rfl) fun a hf => ?_
    refine cNil ?_
    refine h10 _ _ ?_
    refine wp_seq_k fun K11 h11 => ?_
    refine cReg ?_
    refine stBS (rows := ([60, 30, 10] : List Int).map encI_i64) (vs := [(0, .int .i64 60), (1, .int .i64 30), (2, .int .i64 10)]) hf hc rfl rfl sl_36 rfl ⟨rfl, rfl, rfl, rfl, rfl, rfl, rfl, rfl, rfl, trivial⟩ rfl rfl fun b_6 a w hf hc => ?_
    obtain ⟨r_13, hr_13, hF⟩ := bnd_some hF
    obtain ⟨G1, hle1, hrd1, hc, hth1⟩ := lend hc k0
    refine stC (vs := [.slice (some ⟨b_6, 0, none⟩) 3 3, .int .i64 9, .int .i64 0]) (caps := []) hf rfl rfl rfl en_34 rfl rfl rfl rfl (share_Turns_ok ([60, 30, 10] : List Int) 9 0 hrd1 hc hr_13) ?_
    rintro _ w ⟨p_10, c_10, rfl, hc⟩
    refine ⟨_, rfl, fun a hf => ?_⟩
    replace hc := hth1 _ _ hc
    refine stP hf rfl rfl rfl (pM rfl) fun a hf => ?_
    refine stP hf rfl rfl rfl (pX rfl rfl) fun a hf => ?_
    refine stP hf rfl rfl rfl (pX rfl rfl) fun a hf => ?_
    refine stP hf rfl rfl rfl (pA rfl) fun a hf => ?_
    refine stP hf rfl rfl rfl (pA rfl) fun a hf => ?_
    refine cNil ?_
    refine h11 _ _ ?_
    refine wp_seq_k fun K12 h12 => ?_
    refine cReg ?_
    refine stBS (rows := ([60, 30, 10] : List Int).map encI_i64) (vs := [(0, .int .i64 60), (1, .int .i64 30), (2, .int .i64 10)]) hf hc rfl rfl sl_36 rfl ⟨rfl, rfl, rfl, rfl, rfl, rfl, rfl, rfl, rfl, trivial⟩ rfl rfl fun b_7 a w hf hc => ?_
    obtain ⟨r_14, hr_14, hF⟩ := bnd_some hF
    obtain ⟨G1, hle1, hrd1, hc, hth1⟩ := lend hc k0
    refine stC (vs := [.slice (some ⟨b_7, 0, none⟩) 3 3, .int .i64 9, .int .i64 1]) (caps := []) hf rfl rfl rfl en_34 rfl rfl rfl rfl (share_Turns_ok ([60, 30, 10] : List Int) 9 1 hrd1 hc hr_14) ?_
    rintro _ w ⟨p_11, c_11, rfl, hc⟩
    refine ⟨_, rfl, fun a hf => ?_⟩
    replace hc := hth1 _ _ hc
    refine stP hf rfl rfl rfl (pM rfl) fun a hf => ?_
    refine stP hf rfl rfl rfl (pX rfl rfl) fun a hf => ?_
    refine stP hf rfl rfl rfl (pX rfl rfl) fun a hf => ?_
    refine stP hf rfl rfl rfl (pA rfl) fun a hf => ?_
    refine stP hf rfl rfl rfl (pA rfl) fun a hf => ?_
    refine cNil ?_
    refine h12 _ _ ?_
    refine wp_seq_k fun K13 h13 => ?_
    refine cReg ?_
    refine stBS (rows := ([60, 30, 10] : List Int).map encI_i64) (vs := [(0, .int .i64 60), (1, .int .i64 30), (2, .int .i64 10)]) hf hc rfl rfl sl_36 rfl ⟨rfl, rfl, rfl, rfl, rfl, rfl, rfl, rfl, rfl, trivial⟩ rfl rfl fun b_8 a w hf hc => ?_
    refine stBS (rows := ([6, 3, 0] : List Int).map encI_i64) (vs := [(0, .int .i64 6), (1, .int .i64 3), (2, .int .i64 0)]) hf hc rfl rfl sl_36 rfl ⟨rfl, rfl, rfl, rfl, rfl, rfl, rfl, rfl, rfl, trivial⟩ rfl rfl fun b_9 a w hf hc => ?_
    obtain ⟨r_15, hr_15, hF⟩ := bnd_some hF
    refine stE hf hc rfl rfl rfl (eC (v := .tuple #[.agg #[.int .i64 r_15.1.N, .int .i64 r_15.1.D], .agg #[.int .i64 r_15.2.1.N, .int .i64 r_15.2.1.D], .int .i64 r_15.2.2]) (vs := [.slice (some ⟨b_8, 0, none⟩) 3 3, .slice (some ⟨b_9, 0, none⟩) 3 3, .int .i64 0]) (caps := []) en_39 rfl rfl rfl rfl (fun w hc => by obtain ⟨G1, hle1, hrd1, hc, hth1⟩ := lend hc k1; obtain ⟨G2, hle2, hrd2, hc, hth2⟩ := lend hc k0; exact (share_Divisors_ok ([60, 30, 10] : List Int) ([6, 3, 0] : List Int) 0 (hrd1.mono hle2) hrd2 hc hr_15).mono fun e w h => ⟨h.1, ((hth1 _ _ ((hth2 _ _ h.2).unpick k0)).unpick k1)⟩)) fun a w hf hc => ?_
    refine stP hf rfl rfl rfl (pM rfl) fun a hf => ?_
    refine stP hf rfl rfl rfl (pX rfl rfl) fun a hf => ?_
    refine stP hf rfl rfl rfl (pX rfl rfl) fun a hf => ?_
    refine stP hf rfl rfl rfl (pX rfl rfl) fun a hf => ?_
    refine stAl (cs := [.int .i64 0, .int .i64 0]) hf hc rfl rfl zr_71 rfl fun b_10 a w hf hc => ?_
    refine stAl (cs := [.int .i64 0, .int .i64 0]) hf hc rfl rfl zr_71 rfl fun b_11 a w hf hc => ?_
    refine stSt (vs := [.int .i64 r_15.1.N, .int .i64 r_15.1.D]) hf hc rfl rfl rfl rfl sz_71 rfl rfl u1 fun w hc => ?_
    refine stSt (vs := [.int .i64 r_15.2.1.N, .int .i64 r_15.2.1.D]) hf hc rfl rfl rfl rfl sz_71 rfl rfl u0 fun w hc => ?_
    refine stP hf rfl rfl rfl (pA rfl) fun a hf => ?_
    refine cNil ?_
    refine h13 _ _ ?_
    refine wp_seq_k fun K14 h14 => ?_
    refine cReg ?_
    refine stBS (rows := ([60, 30, 10] : List Int).map encI_i64) (vs := [(0, .int .i64 60), (1, .int .i64 30), (2, .int .i64 10)]) hf hc rfl rfl sl_36 rfl ⟨rfl, rfl, rfl, rfl, rfl, rfl, rfl, rfl, rfl, trivial⟩ rfl rfl fun b_12 a w hf hc => ?_
    refine stBS (rows := ([7, 2, 0] : List Int).map encI_i64) (vs := [(0, .int .i64 7), (1, .int .i64 2), (2, .int .i64 0)]) hf hc rfl rfl sl_36 rfl ⟨rfl, rfl, rfl, rfl, rfl, rfl, rfl, rfl, rfl, trivial⟩ rfl rfl fun b_13 a w hf hc => ?_
    obtain ⟨r_16, hr_16, hF⟩ := bnd_some hF
    refine stE hf hc rfl rfl rfl (eC (v := .tuple #[.int .i64 r_16.1, .int .i64 r_16.2.1, .int .i64 r_16.2.2]) (vs := [.slice (some ⟨b_12, 0, none⟩) 3 3, .slice (some ⟨b_13, 0, none⟩) 3 3, .int .i64 0]) (caps := []) en_37 rfl rfl rfl rfl (fun w hc => by obtain ⟨G1, hle1, hrd1, hc, hth1⟩ := lend hc k1; obtain ⟨G2, hle2, hrd2, hc, hth2⟩ := lend hc k0; exact (share_Unfair_ok ([60, 30, 10] : List Int) ([7, 2, 0] : List Int) 0 (hrd1.mono hle2) hrd2 hc hr_16).mono fun e w h => ⟨h.1, ((hth1 _ _ ((hth2 _ _ h.2).unpick k0)).unpick k1)⟩)) fun a w hf hc => ?_
    refine stP hf rfl rfl rfl (pM rfl) fun a hf => ?_
    refine stP hf rfl rfl rfl (pX rfl rfl) fun a hf => ?_
    refine stP hf rfl rfl rfl (pX rfl rfl) fun a hf => ?_
    refine stP hf rfl rfl rfl (pX rfl rfl) fun a hf => ?_
    refine stP hf rfl rfl rfl (pA rfl) fun a hf => ?_
    refine stP hf rfl rfl rfl (pA rfl) fun a hf => ?_
    refine stP hf rfl rfl rfl (pA rfl) fun a hf => ?_
    refine cNil ?_
    refine h14 _ _ ?_
    refine wp_seq_k fun K15 h15 => ?_
    refine cReg ?_
    refine stP hf rfl rfl rfl (pM rfl) fun a hf => ?_
    refine stP hf rfl rfl rfl (pEq rfl rfl) fun a hf => ?_
    refine stP hf rfl rfl rfl (pM rfl) fun a hf => ?_
    refine stCut 3 (fun a w => Has 168 a [(2, .int .i64 r_12.2), (4, .int .i64 r_13.2), (6, .int .i64 r_14.2), (10, .int .i64 r_15.2.2), (11, .slice p_9 r_12.1.length c_9), (12, .slice p_10 r_13.1.length c_10), (13, .slice p_11 r_14.1.length c_11), (14, .pointer (some ⟨b_10, 0, none⟩)), (15, .pointer (some ⟨b_11, 0, none⟩)), (16, .int .i64 r_16.1), (17, .int .i64 r_16.2.1), (18, .int .i64 r_16.2.2), (117, .int .i64 r_12.2), (118, .bool (r_12.2 == 0)), (119, .bool (r_12.2 == 0)), (122, .bool ((r_12.2 == 0) && (r_13.2 == 0)))] ∧ Ctx G (.row (some ⟨b_13, 0, none⟩) 3 (([7, 2, 0] : List Int).map encI_i64) 3 1 :: .row (some ⟨b_12, 0, none⟩) 3 (([60, 30, 10] : List Int).map encI_i64) 3 1 :: .box b_11 [.int .i64 r_15.2.1.N, .int .i64 r_15.2.1.D] 71 :: .box b_10 [.int .i64 r_15.1.N, .int .i64 r_15.1.D] 71 :: .row (some ⟨b_9, 0, none⟩) 3 (([6, 3, 0] : List Int).map encI_i64) 3 1 :: .row (some ⟨b_8, 0, none⟩) 3 (([60, 30, 10] : List Int).map encI_i64) 3 1 :: .row (some ⟨b_7, 0, none⟩) 3 (([60, 30, 10] : List Int).map encI_i64) 3 1 :: .row p_11 c_11 (r_14.1.map encI_i64) 3 1 :: .row (some ⟨b_6, 0, none⟩) 3 (([60, 30, 10] : List Int).map encI_i64) 3 1 :: .row p_10 c_10 (r_13.1.map encI_i64) 3 1 :: .row (some ⟨b_5, 0, none⟩) 6 (([20, 30, 30, 40, 40, 40] : List Int).map encI_i64) 3 1 :: .row p_9 c_9 (r_12.1.map encI_i64) 3 1 :: .row p_6 c_6 (r_7.1.Table.map enc_share_Point) 116 2 :: .row p_7 c_7 (r_7.2.map enc_share_Year) 94 5 :: .row p_8 c_8 (r_8.1.map enc_api_Span) 26 2 :: .box b_1 [.slice p_6 r_7.1.Table.length c_6, .int .i64 r_7.1.Credit] 88 :: .row p_5 c_5 (r_5.Rights.map enc_share_Right) 51 3 :: .row p_3 c_3 (r_2.Rights.map enc_share_Right) 51 3 :: .row p_4 c_4 (r_4.1.map enc_api_Span) 26 2 :: .row p_1 c_1 (r.Rights.map enc_share_Right) 51 3 :: .row p_2 c_2 (r_1.1.map encI_i64) 3 1 :: Lf) w) ?_ ?_
    · cases hb : (r_12.2 == 0)
      · rw [hb] at hf
        refine stS hf rfl rfl rfl fun a hf => ?_
        refine stS hf rfl rfl rfl fun a hf => ?_
        refine stP hf rfl rfl rfl (pPf rfl rfl) fun a hf => ?_
        exact cNil ⟨hf.keep ⟨rfl, rfl, rfl, rfl, rfl, rfl, rfl, rfl, rfl, rfl, rfl, rfl, rfl, rfl, rfl, rfl, trivial⟩, hc⟩
      · rw [hb] at hf
        refine stP hf rfl rfl rfl (pM rfl) fun a hf => ?_
        refine stP hf rfl rfl rfl (pEq rfl rfl) fun a hf => ?_
        refine stP hf rfl rfl rfl (pPt rfl rfl) fun a hf => ?_
        exact cNil ⟨hf.keep ⟨rfl, rfl, rfl, rfl, rfl, rfl, rfl, rfl, rfl, rfl, rfl, rfl, rfl, rfl, rfl, rfl, trivial⟩, hc⟩
    intro a w ⟨hf, hc⟩
    refine stP hf rfl rfl rfl (pM rfl) fun a hf => ?_
    refine stCut 3 (fun a w => Has 168 a [(2, .int .i64 r_12.2), (4, .int .i64 r_13.2), (6, .int .i64 r_14.2), (10, .int .i64 r_15.2.2), (11, .slice p_9 r_12.1.length c_9), (12, .slice p_10 r_13.1.length c_10), (13, .slice p_11 r_14.1.length c_11), (14, .pointer (some ⟨b_10, 0, none⟩)), (15, .pointer (some ⟨b_11, 0, none⟩)), (16, .int .i64 r_16.1), (17, .int .i64 r_16.2.1), (18, .int .i64 r_16.2.2), (117, .int .i64 r_12.2), (118, .bool (r_12.2 == 0)), (119, .bool (r_12.2 == 0)), (122, .bool ((r_12.2 == 0) && (r_13.2 == 0))), (123, .bool ((r_12.2 == 0) && (r_13.2 == 0))), (126, .bool (((r_12.2 == 0) && (r_13.2 == 0)) && (r_14.2 == 0)))] ∧ Ctx G (.row (some ⟨b_13, 0, none⟩) 3 (([7, 2, 0] : List Int).map encI_i64) 3 1 :: .row (some ⟨b_12, 0, none⟩) 3 (([60, 30, 10] : List Int).map encI_i64) 3 1 :: .box b_11 [.int .i64 r_15.2.1.N, .int .i64 r_15.2.1.D] 71 :: .box b_10 [.int .i64 r_15.1.N, .int .i64 r_15.1.D] 71 :: .row (some ⟨b_9, 0, none⟩) 3 (([6, 3, 0] : List Int).map encI_i64) 3 1 :: .row (some ⟨b_8, 0, none⟩) 3 (([60, 30, 10] : List Int).map encI_i64) 3 1 :: .row (some ⟨b_7, 0, none⟩) 3 (([60, 30, 10] : List Int).map encI_i64) 3 1 :: .row p_11 c_11 (r_14.1.map encI_i64) 3 1 :: .row (some ⟨b_6, 0, none⟩) 3 (([60, 30, 10] : List Int).map encI_i64) 3 1 :: .row p_10 c_10 (r_13.1.map encI_i64) 3 1 :: .row (some ⟨b_5, 0, none⟩) 6 (([20, 30, 30, 40, 40, 40] : List Int).map encI_i64) 3 1 :: .row p_9 c_9 (r_12.1.map encI_i64) 3 1 :: .row p_6 c_6 (r_7.1.Table.map enc_share_Point) 116 2 :: .row p_7 c_7 (r_7.2.map enc_share_Year) 94 5 :: .row p_8 c_8 (r_8.1.map enc_api_Span) 26 2 :: .box b_1 [.slice p_6 r_7.1.Table.length c_6, .int .i64 r_7.1.Credit] 88 :: .row p_5 c_5 (r_5.Rights.map enc_share_Right) 51 3 :: .row p_3 c_3 (r_2.Rights.map enc_share_Right) 51 3 :: .row p_4 c_4 (r_4.1.map enc_api_Span) 26 2 :: .row p_1 c_1 (r.Rights.map enc_share_Right) 51 3 :: .row p_2 c_2 (r_1.1.map encI_i64) 3 1 :: Lf) w) ?_ ?_
    · cases hb : ((r_12.2 == 0) && (r_13.2 == 0))
      · rw [hb] at hf
        refine stS hf rfl rfl rfl fun a hf => ?_
        refine stS hf rfl rfl rfl fun a hf => ?_
        refine stP hf rfl rfl rfl (pPf rfl rfl) fun a hf => ?_
        exact cNil ⟨hf.keep ⟨rfl, rfl, rfl, rfl, rfl, rfl, rfl, rfl, rfl, rfl, rfl, rfl, rfl, rfl, rfl, rfl, rfl, rfl, trivial⟩, hc⟩
      · rw [hb] at hf
        refine stP hf rfl rfl rfl (pM rfl) fun a hf => ?_
        refine stP hf rfl rfl rfl (pEq rfl rfl) fun a hf => ?_
        refine stP hf rfl rfl rfl (pPt rfl rfl) fun a hf => ?_
        exact cNil ⟨hf.keep ⟨rfl, rfl, rfl, rfl, rfl, rfl, rfl, rfl, rfl, rfl, rfl, rfl, rfl, rfl, rfl, rfl, rfl, rfl, trivial⟩, hc⟩
    intro a w ⟨hf, hc⟩
    refine stP hf rfl rfl rfl (pM rfl) fun a hf => ?_
    refine stCut 3 (fun a w => Has 168 a [(2, .int .i64 r_12.2), (4, .int .i64 r_13.2), (6, .int .i64 r_14.2), (10, .int .i64 r_15.2.2), (11, .slice p_9 r_12.1.length c_9), (12, .slice p_10 r_13.1.length c_10), (13, .slice p_11 r_14.1.length c_11), (14, .pointer (some ⟨b_10, 0, none⟩)), (15, .pointer (some ⟨b_11, 0, none⟩)), (16, .int .i64 r_16.1), (17, .int .i64 r_16.2.1), (18, .int .i64 r_16.2.2), (117, .int .i64 r_12.2), (118, .bool (r_12.2 == 0)), (119, .bool (r_12.2 == 0)), (122, .bool ((r_12.2 == 0) && (r_13.2 == 0))), (123, .bool ((r_12.2 == 0) && (r_13.2 == 0))), (126, .bool (((r_12.2 == 0) && (r_13.2 == 0)) && (r_14.2 == 0))), (127, .bool (((r_12.2 == 0) && (r_13.2 == 0)) && (r_14.2 == 0))), (130, .bool ((((r_12.2 == 0) && (r_13.2 == 0)) && (r_14.2 == 0)) && (r_15.2.2 == 0)))] ∧ Ctx G (.row (some ⟨b_13, 0, none⟩) 3 (([7, 2, 0] : List Int).map encI_i64) 3 1 :: .row (some ⟨b_12, 0, none⟩) 3 (([60, 30, 10] : List Int).map encI_i64) 3 1 :: .box b_11 [.int .i64 r_15.2.1.N, .int .i64 r_15.2.1.D] 71 :: .box b_10 [.int .i64 r_15.1.N, .int .i64 r_15.1.D] 71 :: .row (some ⟨b_9, 0, none⟩) 3 (([6, 3, 0] : List Int).map encI_i64) 3 1 :: .row (some ⟨b_8, 0, none⟩) 3 (([60, 30, 10] : List Int).map encI_i64) 3 1 :: .row (some ⟨b_7, 0, none⟩) 3 (([60, 30, 10] : List Int).map encI_i64) 3 1 :: .row p_11 c_11 (r_14.1.map encI_i64) 3 1 :: .row (some ⟨b_6, 0, none⟩) 3 (([60, 30, 10] : List Int).map encI_i64) 3 1 :: .row p_10 c_10 (r_13.1.map encI_i64) 3 1 :: .row (some ⟨b_5, 0, none⟩) 6 (([20, 30, 30, 40, 40, 40] : List Int).map encI_i64) 3 1 :: .row p_9 c_9 (r_12.1.map encI_i64) 3 1 :: .row p_6 c_6 (r_7.1.Table.map enc_share_Point) 116 2 :: .row p_7 c_7 (r_7.2.map enc_share_Year) 94 5 :: .row p_8 c_8 (r_8.1.map enc_api_Span) 26 2 :: .box b_1 [.slice p_6 r_7.1.Table.length c_6, .int .i64 r_7.1.Credit] 88 :: .row p_5 c_5 (r_5.Rights.map enc_share_Right) 51 3 :: .row p_3 c_3 (r_2.Rights.map enc_share_Right) 51 3 :: .row p_4 c_4 (r_4.1.map enc_api_Span) 26 2 :: .row p_1 c_1 (r.Rights.map enc_share_Right) 51 3 :: .row p_2 c_2 (r_1.1.map encI_i64) 3 1 :: Lf) w) ?_ ?_
    · cases hb : (((r_12.2 == 0) && (r_13.2 == 0)) && (r_14.2 == 0))
      · rw [hb] at hf
        refine stS hf rfl rfl rfl fun a hf => ?_
        refine stS hf rfl rfl rfl fun a hf => ?_
        refine stP hf rfl rfl rfl (pPf rfl rfl) fun a hf => ?_
        exact cNil ⟨hf.keep ⟨rfl, rfl, rfl, rfl, rfl, rfl, rfl, rfl, rfl, rfl, rfl, rfl, rfl, rfl, rfl, rfl, rfl, rfl, rfl, rfl, trivial⟩, hc⟩
      · rw [hb] at hf
        refine stP hf rfl rfl rfl (pM rfl) fun a hf => ?_
        refine stP hf rfl rfl rfl (pEq rfl rfl) fun a hf => ?_
        refine stP hf rfl rfl rfl (pPt rfl rfl) fun a hf => ?_
        exact cNil ⟨hf.keep ⟨rfl, rfl, rfl, rfl, rfl, rfl, rfl, rfl, rfl, rfl, rfl, rfl, rfl, rfl, rfl, rfl, rfl, rfl, rfl, rfl, trivial⟩, hc⟩
    intro a w ⟨hf, hc⟩
    refine stP hf rfl rfl rfl (pM rfl) fun a hf => ?_
    refine stCut 3 (fun a w => Has 168 a [(2, .int .i64 r_12.2), (4, .int .i64 r_13.2), (6, .int .i64 r_14.2), (10, .int .i64 r_15.2.2), (11, .slice p_9 r_12.1.length c_9), (12, .slice p_10 r_13.1.length c_10), (13, .slice p_11 r_14.1.length c_11), (14, .pointer (some ⟨b_10, 0, none⟩)), (15, .pointer (some ⟨b_11, 0, none⟩)), (16, .int .i64 r_16.1), (17, .int .i64 r_16.2.1), (18, .int .i64 r_16.2.2), (117, .int .i64 r_12.2), (118, .bool (r_12.2 == 0)), (119, .bool (r_12.2 == 0)), (122, .bool ((r_12.2 == 0) && (r_13.2 == 0))), (123, .bool ((r_12.2 == 0) && (r_13.2 == 0))), (126, .bool (((r_12.2 == 0) && (r_13.2 == 0)) && (r_14.2 == 0))), (127, .bool (((r_12.2 == 0) && (r_13.2 == 0)) && (r_14.2 == 0))), (130, .bool ((((r_12.2 == 0) && (r_13.2 == 0)) && (r_14.2 == 0)) && (r_15.2.2 == 0))), (131, .bool ((((r_12.2 == 0) && (r_13.2 == 0)) && (r_14.2 == 0)) && (r_15.2.2 == 0))), (134, .bool (((((r_12.2 == 0) && (r_13.2 == 0)) && (r_14.2 == 0)) && (r_15.2.2 == 0)) && (r_16.2.2 == 0)))] ∧ Ctx G (.row (some ⟨b_13, 0, none⟩) 3 (([7, 2, 0] : List Int).map encI_i64) 3 1 :: .row (some ⟨b_12, 0, none⟩) 3 (([60, 30, 10] : List Int).map encI_i64) 3 1 :: .box b_11 [.int .i64 r_15.2.1.N, .int .i64 r_15.2.1.D] 71 :: .box b_10 [.int .i64 r_15.1.N, .int .i64 r_15.1.D] 71 :: .row (some ⟨b_9, 0, none⟩) 3 (([6, 3, 0] : List Int).map encI_i64) 3 1 :: .row (some ⟨b_8, 0, none⟩) 3 (([60, 30, 10] : List Int).map encI_i64) 3 1 :: .row (some ⟨b_7, 0, none⟩) 3 (([60, 30, 10] : List Int).map encI_i64) 3 1 :: .row p_11 c_11 (r_14.1.map encI_i64) 3 1 :: .row (some ⟨b_6, 0, none⟩) 3 (([60, 30, 10] : List Int).map encI_i64) 3 1 :: .row p_10 c_10 (r_13.1.map encI_i64) 3 1 :: .row (some ⟨b_5, 0, none⟩) 6 (([20, 30, 30, 40, 40, 40] : List Int).map encI_i64) 3 1 :: .row p_9 c_9 (r_12.1.map encI_i64) 3 1 :: .row p_6 c_6 (r_7.1.Table.map enc_share_Point) 116 2 :: .row p_7 c_7 (r_7.2.map enc_share_Year) 94 5 :: .row p_8 c_8 (r_8.1.map enc_api_Span) 26 2 :: .box b_1 [.slice p_6 r_7.1.Table.length c_6, .int .i64 r_7.1.Credit] 88 :: .row p_5 c_5 (r_5.Rights.map enc_share_Right) 51 3 :: .row p_3 c_3 (r_2.Rights.map enc_share_Right) 51 3 :: .row p_4 c_4 (r_4.1.map enc_api_Span) 26 2 :: .row p_1 c_1 (r.Rights.map enc_share_Right) 51 3 :: .row p_2 c_2 (r_1.1.map encI_i64) 3 1 :: Lf) w) ?_ ?_
    · cases hb : ((((r_12.2 == 0) && (r_13.2 == 0)) && (r_14.2 == 0)) && (r_15.2.2 == 0))
      · rw [hb] at hf
        refine stS hf rfl rfl rfl fun a hf => ?_
        refine stS hf rfl rfl rfl fun a hf => ?_
        refine stP hf rfl rfl rfl (pPf rfl rfl) fun a hf => ?_
        exact cNil ⟨hf.keep ⟨rfl, rfl, rfl, rfl, rfl, rfl, rfl, rfl, rfl, rfl, rfl, rfl, rfl, rfl, rfl, rfl, rfl, rfl, rfl, rfl, rfl, rfl, trivial⟩, hc⟩
      · rw [hb] at hf
        refine stP hf rfl rfl rfl (pM rfl) fun a hf => ?_
        refine stP hf rfl rfl rfl (pEq rfl rfl) fun a hf => ?_
        refine stP hf rfl rfl rfl (pPt rfl rfl) fun a hf => ?_
        exact cNil ⟨hf.keep ⟨rfl, rfl, rfl, rfl, rfl, rfl, rfl, rfl, rfl, rfl, rfl, rfl, rfl, rfl, rfl, rfl, rfl, rfl, rfl, rfl, rfl, rfl, trivial⟩, hc⟩
    intro a w ⟨hf, hc⟩
    refine stP hf rfl rfl rfl (pM rfl) fun a hf => ?_
    obtain ⟨t_4, ht_4, hF⟩ := bnd_some hF
    refine stCut 4 (fun a w => Has 168 a [(2, .int .i64 r_12.2), (4, .int .i64 r_13.2), (6, .int .i64 r_14.2), (10, .int .i64 r_15.2.2), (11, .slice p_9 r_12.1.length c_9), (12, .slice p_10 r_13.1.length c_10), (13, .slice p_11 r_14.1.length c_11), (14, .pointer (some ⟨b_10, 0, none⟩)), (15, .pointer (some ⟨b_11, 0, none⟩)), (16, .int .i64 r_16.1), (17, .int .i64 r_16.2.1), (18, .int .i64 r_16.2.2), (117, .int .i64 r_12.2), (118, .bool (r_12.2 == 0)), (119, .bool (r_12.2 == 0)), (122, .bool ((r_12.2 == 0) && (r_13.2 == 0))), (123, .bool ((r_12.2 == 0) && (r_13.2 == 0))), (126, .bool (((r_12.2 == 0) && (r_13.2 == 0)) && (r_14.2 == 0))), (127, .bool (((r_12.2 == 0) && (r_13.2 == 0)) && (r_14.2 == 0))), (130, .bool ((((r_12.2 == 0) && (r_13.2 == 0)) && (r_14.2 == 0)) && (r_15.2.2 == 0))), (131, .bool ((((r_12.2 == 0) && (r_13.2 == 0)) && (r_14.2 == 0)) && (r_15.2.2 == 0))), (134, .bool (((((r_12.2 == 0) && (r_13.2 == 0)) && (r_14.2 == 0)) && (r_15.2.2 == 0)) && (r_16.2.2 == 0))), (135, .bool (((((r_12.2 == 0) && (r_13.2 == 0)) && (r_14.2 == 0)) && (r_15.2.2 == 0)) && (r_16.2.2 == 0))), (139, .bool t_4)] ∧ Ctx G (.row (some ⟨b_13, 0, none⟩) 3 (([7, 2, 0] : List Int).map encI_i64) 3 1 :: .row (some ⟨b_12, 0, none⟩) 3 (([60, 30, 10] : List Int).map encI_i64) 3 1 :: .box b_11 [.int .i64 r_15.2.1.N, .int .i64 r_15.2.1.D] 71 :: .box b_10 [.int .i64 r_15.1.N, .int .i64 r_15.1.D] 71 :: .row (some ⟨b_9, 0, none⟩) 3 (([6, 3, 0] : List Int).map encI_i64) 3 1 :: .row (some ⟨b_8, 0, none⟩) 3 (([60, 30, 10] : List Int).map encI_i64) 3 1 :: .row (some ⟨b_7, 0, none⟩) 3 (([60, 30, 10] : List Int).map encI_i64) 3 1 :: .row p_11 c_11 (r_14.1.map encI_i64) 3 1 :: .row (some ⟨b_6, 0, none⟩) 3 (([60, 30, 10] : List Int).map encI_i64) 3 1 :: .row p_10 c_10 (r_13.1.map encI_i64) 3 1 :: .row (some ⟨b_5, 0, none⟩) 6 (([20, 30, 30, 40, 40, 40] : List Int).map encI_i64) 3 1 :: .row p_9 c_9 (r_12.1.map encI_i64) 3 1 :: .row p_6 c_6 (r_7.1.Table.map enc_share_Point) 116 2 :: .row p_7 c_7 (r_7.2.map enc_share_Year) 94 5 :: .row p_8 c_8 (r_8.1.map enc_api_Span) 26 2 :: .box b_1 [.slice p_6 r_7.1.Table.length c_6, .int .i64 r_7.1.Credit] 88 :: .row p_5 c_5 (r_5.Rights.map enc_share_Right) 51 3 :: .row p_3 c_3 (r_2.Rights.map enc_share_Right) 51 3 :: .row p_4 c_4 (r_4.1.map enc_api_Span) 26 2 :: .row p_1 c_1 (r.Rights.map enc_share_Right) 51 3 :: .row p_2 c_2 (r_1.1.map encI_i64) 3 1 :: Lf) w) ?_ ?_
    · cases hb : (((((r_12.2 == 0) && (r_13.2 == 0)) && (r_14.2 == 0)) && (r_15.2.2 == 0)) && (r_16.2.2 == 0))
      · rw [hb] at hf
        have hF := condF hb ht_4
        obtain rfl := Option.some.inj hF
        refine stS hf rfl rfl rfl fun a hf => ?_
        refine stS hf rfl rfl rfl fun a hf => ?_
        refine stS hf rfl rfl rfl fun a hf => ?_
        refine stP hf rfl rfl rfl (pPf rfl rfl) fun a hf => ?_
        exact cNil ⟨hf.keep ⟨rfl, rfl, rfl, rfl, rfl, rfl, rfl, rfl, rfl, rfl, rfl, rfl, rfl, rfl, rfl, rfl, rfl, rfl, rfl, rfl, rfl, rfl, rfl, rfl, trivial⟩, hc⟩
      · rw [hb] at hf
        have hF := condT hb ht_4
        refine stP hf rfl rfl rfl (pM rfl) fun a hf => ?_
        refine stBS (rows := ([20, 20, 15, 15, 15, 15] : List Int).map encI_i64) (vs := [(0, .int .i64 20), (1, .int .i64 20), (2, .int .i64 15), (3, .int .i64 15), (4, .int .i64 15), (5, .int .i64 15)]) hf hc rfl rfl sl_36 rfl ⟨rfl, rfl, rfl, rfl, rfl, rfl, rfl, rfl, rfl, rfl, rfl, rfl, rfl, rfl, rfl, rfl, rfl, rfl, trivial⟩ rfl rfl fun b_14 a w hf hc => ?_
        obtain ⟨r_17, hr_17, hF⟩ := bnd_some hF
        refine stE hf hc rfl rfl rfl (eC (v := .bool r_17) (vs := [.slice p_9 r_12.1.length c_9, .slice (some ⟨b_14, 0, none⟩) 6 6]) (caps := []) en_20 rfl rfl rfl rfl (fun w hc => by obtain ⟨G1, hle1, hrd1, hc, hth1⟩ := lend hc k12; obtain ⟨G2, hle2, hrd2, hc, hth2⟩ := lend hc k0; exact (kit_Same_int_ok r_12.1 ([20, 20, 15, 15, 15, 15] : List Int) (hrd1.mono hle2) hrd2 hc hr_17).mono fun e w h => ⟨h.1, ((hth1 _ _ ((hth2 _ _ h.2).unpick k0)).unpick k12)⟩)) fun a w hf hc => ?_
        refine stP hf rfl rfl rfl (pPt rfl rfl) fun a hf => ?_
        replace hc := hc.drop k0
        obtain rfl := Option.some.inj hF
        exact cNil ⟨hf.keep ⟨rfl, rfl, rfl, rfl, rfl, rfl, rfl, rfl, rfl, rfl, rfl, rfl, rfl, rfl, rfl, rfl, rfl, rfl, rfl, rfl, rfl, rfl, rfl, rfl, trivial⟩, hc⟩
    intro a w ⟨hf, hc⟩
    refine stP hf rfl rfl rfl (pM rfl) fun a hf => ?_
    obtain ⟨t_5, ht_5, hF⟩ := bnd_some hF
    refine stCut 4 (fun a w => Has 168 a [(2, .int .i64 r_12.2), (4, .int .i64 r_13.2), (6, .int .i64 r_14.2), (10, .int .i64 r_15.2.2), (11, .slice p_9 r_12.1.length c_9), (12, .slice p_10 r_13.1.length c_10), (13, .slice p_11 r_14.1.length c_11), (14, .pointer (some ⟨b_10, 0, none⟩)), (15, .pointer (some ⟨b_11, 0, none⟩)), (16, .int .i64 r_16.1), (17, .int .i64 r_16.2.1), (18, .int .i64 r_16.2.2), (117, .int .i64 r_12.2), (118, .bool (r_12.2 == 0)), (119, .bool (r_12.2 == 0)), (122, .bool ((r_12.2 == 0) && (r_13.2 == 0))), (123, .bool ((r_12.2 == 0) && (r_13.2 == 0))), (126, .bool (((r_12.2 == 0) && (r_13.2 == 0)) && (r_14.2 == 0))), (127, .bool (((r_12.2 == 0) && (r_13.2 == 0)) && (r_14.2 == 0))), (130, .bool ((((r_12.2 == 0) && (r_13.2 == 0)) && (r_14.2 == 0)) && (r_15.2.2 == 0))), (131, .bool ((((r_12.2 == 0) && (r_13.2 == 0)) && (r_14.2 == 0)) && (r_15.2.2 == 0))), (134, .bool (((((r_12.2 == 0) && (r_13.2 == 0)) && (r_14.2 == 0)) && (r_15.2.2 == 0)) && (r_16.2.2 == 0))), (135, .bool (((((r_12.2 == 0) && (r_13.2 == 0)) && (r_14.2 == 0)) && (r_15.2.2 == 0)) && (r_16.2.2 == 0))), (139, .bool t_4), (140, .bool t_4), (144, .bool t_5)] ∧ Ctx G (.row (some ⟨b_13, 0, none⟩) 3 (([7, 2, 0] : List Int).map encI_i64) 3 1 :: .row (some ⟨b_12, 0, none⟩) 3 (([60, 30, 10] : List Int).map encI_i64) 3 1 :: .box b_11 [.int .i64 r_15.2.1.N, .int .i64 r_15.2.1.D] 71 :: .box b_10 [.int .i64 r_15.1.N, .int .i64 r_15.1.D] 71 :: .row (some ⟨b_9, 0, none⟩) 3 (([6, 3, 0] : List Int).map encI_i64) 3 1 :: .row (some ⟨b_8, 0, none⟩) 3 (([60, 30, 10] : List Int).map encI_i64) 3 1 :: .row (some ⟨b_7, 0, none⟩) 3 (([60, 30, 10] : List Int).map encI_i64) 3 1 :: .row p_11 c_11 (r_14.1.map encI_i64) 3 1 :: .row (some ⟨b_6, 0, none⟩) 3 (([60, 30, 10] : List Int).map encI_i64) 3 1 :: .row p_10 c_10 (r_13.1.map encI_i64) 3 1 :: .row (some ⟨b_5, 0, none⟩) 6 (([20, 30, 30, 40, 40, 40] : List Int).map encI_i64) 3 1 :: .row p_9 c_9 (r_12.1.map encI_i64) 3 1 :: .row p_6 c_6 (r_7.1.Table.map enc_share_Point) 116 2 :: .row p_7 c_7 (r_7.2.map enc_share_Year) 94 5 :: .row p_8 c_8 (r_8.1.map enc_api_Span) 26 2 :: .box b_1 [.slice p_6 r_7.1.Table.length c_6, .int .i64 r_7.1.Credit] 88 :: .row p_5 c_5 (r_5.Rights.map enc_share_Right) 51 3 :: .row p_3 c_3 (r_2.Rights.map enc_share_Right) 51 3 :: .row p_4 c_4 (r_4.1.map enc_api_Span) 26 2 :: .row p_1 c_1 (r.Rights.map enc_share_Right) 51 3 :: .row p_2 c_2 (r_1.1.map encI_i64) 3 1 :: Lf) w) ?_ ?_
    · cases hb : t_4
      · rw [hb] at hf
        have hF := condF hb ht_5
        obtain rfl := Option.some.inj hF
        refine stS hf rfl rfl rfl fun a hf => ?_
        refine stS hf rfl rfl rfl fun a hf => ?_
        refine stS hf rfl rfl rfl fun a hf => ?_
        refine stP hf rfl rfl rfl (pPf rfl rfl) fun a hf => ?_
        exact cNil ⟨hf.keep ⟨rfl, rfl, rfl, rfl, rfl, rfl, rfl, rfl, rfl, rfl, rfl, rfl, rfl, rfl, rfl, rfl, rfl, rfl, rfl, rfl, rfl, rfl, rfl, rfl, rfl, rfl, trivial⟩, hc⟩
      · rw [hb] at hf
        have hF := condT hb ht_5
        refine stP hf rfl rfl rfl (pM rfl) fun a hf => ?_
        refine stBS (rows := ([6, 3, 0] : List Int).map encI_i64) (vs := [(0, .int .i64 6), (1, .int .i64 3), (2, .int .i64 0)]) hf hc rfl rfl sl_36 rfl ⟨rfl, rfl, rfl, rfl, rfl, rfl, rfl, rfl, rfl, trivial⟩ rfl rfl fun b_15 a w hf hc => ?_
        obtain ⟨r_18, hr_18, hF⟩ := bnd_some hF
        refine stE hf hc rfl rfl rfl (eC (v := .bool r_18) (vs := [.slice p_10 r_13.1.length c_10, .slice (some ⟨b_15, 0, none⟩) 3 3]) (caps := []) en_20 rfl rfl rfl rfl (fun w hc => by obtain ⟨G1, hle1, hrd1, hc, hth1⟩ := lend hc k10; obtain ⟨G2, hle2, hrd2, hc, hth2⟩ := lend hc k0; exact (kit_Same_int_ok r_13.1 ([6, 3, 0] : List Int) (hrd1.mono hle2) hrd2 hc hr_18).mono fun e w h => ⟨h.1, ((hth1 _ _ ((hth2 _ _ h.2).unpick k0)).unpick k10)⟩)) fun a w hf hc => ?_
        refine stP hf rfl rfl rfl (pPt rfl rfl) fun a hf => ?_
        replace hc := hc.drop k0
        obtain rfl := Option.some.inj hF
        exact cNil ⟨hf.keep ⟨rfl, rfl, rfl, rfl, rfl, rfl, rfl, rfl, rfl, rfl, rfl, rfl, rfl, rfl, rfl, rfl, rfl, rfl, rfl, rfl, rfl, rfl, rfl, rfl, rfl, rfl, trivial⟩, hc⟩
    intro a w ⟨hf, hc⟩
    refine stP hf rfl rfl rfl (pM rfl) fun a hf => ?_
    obtain ⟨t_6, ht_6, hF⟩ := bnd_some hF
    refine stCut 4 (fun a w => Has 168 a [(2, .int .i64 r_12.2), (4, .int .i64 r_13.2), (6, .int .i64 r_14.2), (10, .int .i64 r_15.2.2), (11, .slice p_9 r_12.1.length c_9), (12, .slice p_10 r_13.1.length c_10), (13, .slice p_11 r_14.1.length c_11), (14, .pointer (some ⟨b_10, 0, none⟩)), (15, .pointer (some ⟨b_11, 0, none⟩)), (16, .int .i64 r_16.1), (17, .int .i64 r_16.2.1), (18, .int .i64 r_16.2.2), (117, .int .i64 r_12.2), (118, .bool (r_12.2 == 0)), (119, .bool (r_12.2 == 0)), (122, .bool ((r_12.2 == 0) && (r_13.2 == 0))), (123, .bool ((r_12.2 == 0) && (r_13.2 == 0))), (126, .bool (((r_12.2 == 0) && (r_13.2 == 0)) && (r_14.2 == 0))), (127, .bool (((r_12.2 == 0) && (r_13.2 == 0)) && (r_14.2 == 0))), (130, .bool ((((r_12.2 == 0) && (r_13.2 == 0)) && (r_14.2 == 0)) && (r_15.2.2 == 0))), (131, .bool ((((r_12.2 == 0) && (r_13.2 == 0)) && (r_14.2 == 0)) && (r_15.2.2 == 0))), (134, .bool (((((r_12.2 == 0) && (r_13.2 == 0)) && (r_14.2 == 0)) && (r_15.2.2 == 0)) && (r_16.2.2 == 0))), (135, .bool (((((r_12.2 == 0) && (r_13.2 == 0)) && (r_14.2 == 0)) && (r_15.2.2 == 0)) && (r_16.2.2 == 0))), (139, .bool t_4), (140, .bool t_4), (144, .bool t_5), (145, .bool t_5), (149, .bool t_6)] ∧ Ctx G (.row (some ⟨b_13, 0, none⟩) 3 (([7, 2, 0] : List Int).map encI_i64) 3 1 :: .row (some ⟨b_12, 0, none⟩) 3 (([60, 30, 10] : List Int).map encI_i64) 3 1 :: .box b_11 [.int .i64 r_15.2.1.N, .int .i64 r_15.2.1.D] 71 :: .box b_10 [.int .i64 r_15.1.N, .int .i64 r_15.1.D] 71 :: .row (some ⟨b_9, 0, none⟩) 3 (([6, 3, 0] : List Int).map encI_i64) 3 1 :: .row (some ⟨b_8, 0, none⟩) 3 (([60, 30, 10] : List Int).map encI_i64) 3 1 :: .row (some ⟨b_7, 0, none⟩) 3 (([60, 30, 10] : List Int).map encI_i64) 3 1 :: .row p_11 c_11 (r_14.1.map encI_i64) 3 1 :: .row (some ⟨b_6, 0, none⟩) 3 (([60, 30, 10] : List Int).map encI_i64) 3 1 :: .row p_10 c_10 (r_13.1.map encI_i64) 3 1 :: .row (some ⟨b_5, 0, none⟩) 6 (([20, 30, 30, 40, 40, 40] : List Int).map encI_i64) 3 1 :: .row p_9 c_9 (r_12.1.map encI_i64) 3 1 :: .row p_6 c_6 (r_7.1.Table.map enc_share_Point) 116 2 :: .row p_7 c_7 (r_7.2.map enc_share_Year) 94 5 :: .row p_8 c_8 (r_8.1.map enc_api_Span) 26 2 :: .box b_1 [.slice p_6 r_7.1.Table.length c_6, .int .i64 r_7.1.Credit] 88 :: .row p_5 c_5 (r_5.Rights.map enc_share_Right) 51 3 :: .row p_3 c_3 (r_2.Rights.map enc_share_Right) 51 3 :: .row p_4 c_4 (r_4.1.map enc_api_Span) 26 2 :: .row p_1 c_1 (r.Rights.map enc_share_Right) 51 3 :: .row p_2 c_2 (r_1.1.map encI_i64) 3 1 :: Lf) w) ?_ ?_
    · cases hb : t_5
      · rw [hb] at hf
        have hF := condF hb ht_6
        obtain rfl := Option.some.inj hF
        refine stS hf rfl rfl rfl fun a hf => ?_
        refine stS hf rfl rfl rfl fun a hf => ?_
        refine stS hf rfl rfl rfl fun a hf => ?_
        refine stP hf rfl rfl rfl (pPf rfl rfl) fun a hf => ?_
        exact cNil ⟨hf.keep ⟨rfl, rfl, rfl, rfl, rfl, rfl, rfl, rfl, rfl, rfl, rfl, rfl, rfl, rfl, rfl, rfl, rfl, rfl, rfl, rfl, rfl, rfl, rfl, rfl, rfl, rfl, rfl, rfl, trivial⟩, hc⟩
      · rw [hb] at hf
        have hF := condT hb ht_6
        refine stP hf rfl rfl rfl (pM rfl) fun a hf => ?_
        refine stBS (rows := ([5, 3, 1] : List Int).map encI_i64) (vs := [(0, .int .i64 5), (1, .int .i64 3), (2, .int .i64 1)]) hf hc rfl rfl sl_36 rfl ⟨rfl, rfl, rfl, rfl, rfl, rfl, rfl, rfl, rfl, trivial⟩ rfl rfl fun b_16 a w hf hc => ?_
        obtain ⟨r_19, hr_19, hF⟩ := bnd_some hF
        refine stE hf hc rfl rfl rfl (eC (v := .bool r_19) (vs := [.slice p_11 r_14.1.length c_11, .slice (some ⟨b_16, 0, none⟩) 3 3]) (caps := []) en_20 rfl rfl rfl rfl (fun w hc => by obtain ⟨G1, hle1, hrd1, hc, hth1⟩ := lend hc k8; obtain ⟨G2, hle2, hrd2, hc, hth2⟩ := lend hc k0; exact (kit_Same_int_ok r_14.1 ([5, 3, 1] : List Int) (hrd1.mono hle2) hrd2 hc hr_19).mono fun e w h => ⟨h.1, ((hth1 _ _ ((hth2 _ _ h.2).unpick k0)).unpick k8)⟩)) fun a w hf hc => ?_
        refine stP hf rfl rfl rfl (pPt rfl rfl) fun a hf => ?_
        replace hc := hc.drop k0
        obtain rfl := Option.some.inj hF
        exact cNil ⟨hf.keep ⟨rfl, rfl, rfl, rfl, rfl, rfl, rfl, rfl, rfl, rfl, rfl, rfl, rfl, rfl, rfl, rfl, rfl, rfl, rfl, rfl, rfl, rfl, rfl, rfl, rfl, rfl, rfl, rfl, trivial⟩, hc⟩
    intro a w ⟨hf, hc⟩
    refine stP hf rfl rfl rfl (pM rfl) fun a hf => ?_
    refine stCut 4 (fun a w => Has 168 a ((2, .int .i64 r_12.2) :: (4, .int .i64 r_13.2) :: (6, .int .i64 r_14.2) :: (10, .int .i64 r_15.2.2) :: (11, .slice p_9 r_12.1.length c_9) :: (12, .slice p_10 r_13.1.length c_10) :: (13, .slice p_11 r_14.1.length c_11) :: (14, .pointer (some ⟨b_10, 0, none⟩)) :: (15, .pointer (some ⟨b_11, 0, none⟩)) :: (16, .int .i64 r_16.1) :: (17, .int .i64 r_16.2.1) :: (18, .int .i64 r_16.2.2) :: (117, .int .i64 r_12.2) :: (118, .bool (r_12.2 == 0)) :: (119, .bool (r_12.2 == 0)) :: (122, .bool ((r_12.2 == 0) && (r_13.2 == 0))) :: (123, .bool ((r_12.2 == 0) && (r_13.2 == 0))) :: (126, .bool (((r_12.2 == 0) && (r_13.2 == 0)) && (r_14.2 == 0))) :: (127, .bool (((r_12.2 == 0) && (r_13.2 == 0)) && (r_14.2 == 0))) :: (130, .bool ((((r_12.2 == 0) && (r_13.2 == 0)) && (r_14.2 == 0)) && (r_15.2.2 == 0))) :: (131, .bool ((((r_12.2 == 0) && (r_13.2 == 0)) && (r_14.2 == 0)) && (r_15.2.2 == 0))) :: (134, .bool (((((r_12.2 == 0) && (r_13.2 == 0)) && (r_14.2 == 0)) && (r_15.2.2 == 0)) && (r_16.2.2 == 0))) :: (135, .bool (((((r_12.2 == 0) && (r_13.2 == 0)) && (r_14.2 == 0)) && (r_15.2.2 == 0)) && (r_16.2.2 == 0))) :: (139, .bool t_4) :: (140, .bool t_4) :: (144, .bool t_5) :: (145, .bool t_5) :: (149, .bool t_6) :: (150, .bool t_6) :: (154, .bool (t_6 && (r_15.1.N == 10 && r_15.1.D == 1))) :: []) ∧ Ctx G (.row (some ⟨b_13, 0, none⟩) 3 (([7, 2, 0] : List Int).map encI_i64) 3 1 :: .row (some ⟨b_12, 0, none⟩) 3 (([60, 30, 10] : List Int).map encI_i64) 3 1 :: .box b_11 [.int .i64 r_15.2.1.N, .int .i64 r_15.2.1.D] 71 :: .box b_10 [.int .i64 r_15.1.N, .int .i64 r_15.1.D] 71 :: .row (some ⟨b_9, 0, none⟩) 3 (([6, 3, 0] : List Int).map encI_i64) 3 1 :: .row (some ⟨b_8, 0, none⟩) 3 (([60, 30, 10] : List Int).map encI_i64) 3 1 :: .row (some ⟨b_7, 0, none⟩) 3 (([60, 30, 10] : List Int).map encI_i64) 3 1 :: .row p_11 c_11 (r_14.1.map encI_i64) 3 1 :: .row (some ⟨b_6, 0, none⟩) 3 (([60, 30, 10] : List Int).map encI_i64) 3 1 :: .row p_10 c_10 (r_13.1.map encI_i64) 3 1 :: .row (some ⟨b_5, 0, none⟩) 6 (([20, 30, 30, 40, 40, 40] : List Int).map encI_i64) 3 1 :: .row p_9 c_9 (r_12.1.map encI_i64) 3 1 :: .row p_6 c_6 (r_7.1.Table.map enc_share_Point) 116 2 :: .row p_7 c_7 (r_7.2.map enc_share_Year) 94 5 :: .row p_8 c_8 (r_8.1.map enc_api_Span) 26 2 :: .box b_1 [.slice p_6 r_7.1.Table.length c_6, .int .i64 r_7.1.Credit] 88 :: .row p_5 c_5 (r_5.Rights.map enc_share_Right) 51 3 :: .row p_3 c_3 (r_2.Rights.map enc_share_Right) 51 3 :: .row p_4 c_4 (r_4.1.map enc_api_Span) 26 2 :: .row p_1 c_1 (r.Rights.map enc_share_Right) 51 3 :: .row p_2 c_2 (r_1.1.map encI_i64) 3 1 :: Lf) w) ?_ ?_
    · cases hb : t_6
      · rw [hb] at hf
        refine stS hf rfl rfl rfl fun a hf => ?_
        refine stS hf rfl rfl rfl fun a hf => ?_
        refine stS hf rfl rfl rfl fun a hf => ?_
        refine stP hf rfl rfl rfl (pPf rfl rfl) fun a hf => ?_
        exact cNil ⟨hf.keep ⟨rfl, rfl, rfl, rfl, rfl, rfl, rfl, rfl, rfl, rfl, rfl, rfl, rfl, rfl, rfl, rfl, rfl, rfl, rfl, rfl, rfl, rfl, rfl, rfl, rfl, rfl, rfl, rfl, rfl, rfl, trivial⟩, hc⟩
      · rw [hb] at hf
        refine stE hf hc rfl rfl rfl (eLdN (vs := [.int .i64 r_15.1.N, .int .i64 r_15.1.D]) ag_71 rfl rfl (cells_box (n := 2) m3 rfl)) fun a w hf hc => ?_
        refine stP hf rfl rfl rfl (pBuildS (cells := [.int .i64 10, .int .i64 1]) bt_71 rfl rfl) fun a hf => ?_
        refine stP hf rfl rfl rfl (pEqA ge_71 rfl rfl (eqs_71 _ _ _ _)) fun a hf => ?_
        refine stP hf rfl rfl rfl (pPt rfl rfl) fun a hf => ?_
        exact cNil ⟨hf.keep ⟨rfl, rfl, rfl, rfl, rfl, rfl, rfl, rfl, rfl, rfl, rfl, rfl, rfl, rfl, rfl, rfl, rfl, rfl, rfl, rfl, rfl, rfl, rfl, rfl, rfl, rfl, rfl, rfl, rfl, rfl, trivial⟩, hc⟩
    intro a w ⟨hf, hc⟩
    refine stP hf rfl rfl rfl (pM rfl) fun a hf => ?_
    refine stCut 4 (fun a w => Has 168 a ((2, .int .i64 r_12.2) :: (4, .int .i64 r_13.2) :: (6, .int .i64 r_14.2) :: (10, .int .i64 r_15.2.2) :: (11, .slice p_9 r_12.1.length c_9) :: (12, .slice p_10 r_13.1.length c_10) :: (13, .slice p_11 r_14.1.length c_11) :: (14, .pointer (some ⟨b_10, 0, none⟩)) :: (15, .pointer (some ⟨b_11, 0, none⟩)) :: (16, .int .i64 r_16.1) :: (17, .int .i64 r_16.2.1) :: (18, .int .i64 r_16.2.2) :: (117, .int .i64 r_12.2) :: (118, .bool (r_12.2 == 0)) :: (119, .bool (r_12.2 == 0)) :: (122, .bool ((r_12.2 == 0) && (r_13.2 == 0))) :: (123, .bool ((r_12.2 == 0) && (r_13.2 == 0))) :: (126, .bool (((r_12.2 == 0) && (r_13.2 == 0)) && (r_14.2 == 0))) :: (127, .bool (((r_12.2 == 0) && (r_13.2 == 0)) && (r_14.2 == 0))) :: (130, .bool ((((r_12.2 == 0) && (r_13.2 == 0)) && (r_14.2 == 0)) && (r_15.2.2 == 0))) :: (131, .bool ((((r_12.2 == 0) && (r_13.2 == 0)) && (r_14.2 == 0)) && (r_15.2.2 == 0))) :: (134, .bool (((((r_12.2 == 0) && (r_13.2 == 0)) && (r_14.2 == 0)) && (r_15.2.2 == 0)) && (r_16.2.2 == 0))) :: (135, .bool (((((r_12.2 == 0) && (r_13.2 == 0)) && (r_14.2 == 0)) && (r_15.2.2 == 0)) && (r_16.2.2 == 0))) :: (139, .bool t_4) :: (140, .bool t_4) :: (144, .bool t_5) :: (145, .bool t_5) :: (149, .bool t_6) :: (150, .bool t_6) :: (154, .bool (t_6 && (r_15.1.N == 10 && r_15.1.D == 1))) :: (155, .bool (t_6 && (r_15.1.N == 10 && r_15.1.D == 1))) :: (159, .bool ((t_6 && (r_15.1.N == 10 && r_15.1.D == 1)) && (r_15.2.1.N == r_15.1.N && r_15.2.1.D == r_15.1.D))) :: []) ∧ Ctx G (.row (some ⟨b_13, 0, none⟩) 3 (([7, 2, 0] : List Int).map encI_i64) 3 1 :: .row (some ⟨b_12, 0, none⟩) 3 (([60, 30, 10] : List Int).map encI_i64) 3 1 :: .box b_11 [.int .i64 r_15.2.1.N, .int .i64 r_15.2.1.D] 71 :: .box b_10 [.int .i64 r_15.1.N, .int .i64 r_15.1.D] 71 :: .row (some ⟨b_9, 0, none⟩) 3 (([6, 3, 0] : List Int).map encI_i64) 3 1 :: .row (some ⟨b_8, 0, none⟩) 3 (([60, 30, 10] : List Int).map encI_i64) 3 1 :: .row (some ⟨b_7, 0, none⟩) 3 (([60, 30, 10] : List Int).map encI_i64) 3 1 :: .row p_11 c_11 (r_14.1.map encI_i64) 3 1 :: .row (some ⟨b_6, 0, none⟩) 3 (([60, 30, 10] : List Int).map encI_i64) 3 1 :: .row p_10 c_10 (r_13.1.map encI_i64) 3 1 :: .row (some ⟨b_5, 0, none⟩) 6 (([20, 30, 30, 40, 40, 40] : List Int).map encI_i64) 3 1 :: .row p_9 c_9 (r_12.1.map encI_i64) 3 1 :: .row p_6 c_6 (r_7.1.Table.map enc_share_Point) 116 2 :: .row p_7 c_7 (r_7.2.map enc_share_Year) 94 5 :: .row p_8 c_8 (r_8.1.map enc_api_Span) 26 2 :: .box b_1 [.slice p_6 r_7.1.Table.length c_6, .int .i64 r_7.1.Credit] 88 :: .row p_5 c_5 (r_5.Rights.map enc_share_Right) 51 3 :: .row p_3 c_3 (r_2.Rights.map enc_share_Right) 51 3 :: .row p_4 c_4 (r_4.1.map enc_api_Span) 26 2 :: .row p_1 c_1 (r.Rights.map enc_share_Right) 51 3 :: .row p_2 c_2 (r_1.1.map encI_i64) 3 1 :: Lf) w) ?_ ?_
    · cases hb : (t_6 && (r_15.1.N == 10 && r_15.1.D == 1))
      · rw [hb] at hf
        refine stS hf rfl rfl rfl fun a hf => ?_
        refine stS hf rfl rfl rfl fun a hf => ?_
        refine stS hf rfl rfl rfl fun a hf => ?_
        refine stP hf rfl rfl rfl (pPf rfl rfl) fun a hf => ?_
        exact cNil ⟨hf.keep ⟨rfl, rfl, rfl, rfl, rfl, rfl, rfl, rfl, rfl, rfl, rfl, rfl, rfl, rfl, rfl, rfl, rfl, rfl, rfl, rfl, rfl, rfl, rfl, rfl, rfl, rfl, rfl, rfl, rfl, rfl, rfl, rfl, trivial⟩, hc⟩
      · rw [hb] at hf
        refine stE hf hc rfl rfl rfl (eLdN (vs := [.int .i64 r_15.2.1.N, .int .i64 r_15.2.1.D]) ag_71 rfl rfl (cells_box (n := 2) m2 rfl)) fun a w hf hc => ?_
        refine stE hf hc rfl rfl rfl (eLdN (vs := [.int .i64 r_15.1.N, .int .i64 r_15.1.D]) ag_71 rfl rfl (cells_box (n := 2) m3 rfl)) fun a w hf hc => ?_
        refine stP hf rfl rfl rfl (pEqA ge_71 rfl rfl (eqs_71 _ _ _ _)) fun a hf => ?_
        refine stP hf rfl rfl rfl (pPt rfl rfl) fun a hf => ?_
        exact cNil ⟨hf.keep ⟨rfl, rfl, rfl, rfl, rfl, rfl, rfl, rfl, rfl, rfl, rfl, rfl, rfl, rfl, rfl, rfl, rfl, rfl, rfl, rfl, rfl, rfl, rfl, rfl, rfl, rfl, rfl, rfl, rfl, rfl, rfl, rfl, trivial⟩, hc⟩
    intro a w ⟨hf, hc⟩
    refine stP hf rfl rfl rfl (pM rfl) fun a hf => ?_
    refine stCut 3 (fun a w => Has 168 a ((2, .int .i64 r_12.2) :: (4, .int .i64 r_13.2) :: (6, .int .i64 r_14.2) :: (10, .int .i64 r_15.2.2) :: (11, .slice p_9 r_12.1.length c_9) :: (12, .slice p_10 r_13.1.length c_10) :: (13, .slice p_11 r_14.1.length c_11) :: (14, .pointer (some ⟨b_10, 0, none⟩)) :: (15, .pointer (some ⟨b_11, 0, none⟩)) :: (16, .int .i64 r_16.1) :: (17, .int .i64 r_16.2.1) :: (18, .int .i64 r_16.2.2) :: (117, .int .i64 r_12.2) :: (118, .bool (r_12.2 == 0)) :: (119, .bool (r_12.2 == 0)) :: (122, .bool ((r_12.2 == 0) && (r_13.2 == 0))) :: (123, .bool ((r_12.2 == 0) && (r_13.2 == 0))) :: (126, .bool (((r_12.2 == 0) && (r_13.2 == 0)) && (r_14.2 == 0))) :: (127, .bool (((r_12.2 == 0) && (r_13.2 == 0)) && (r_14.2 == 0))) :: (130, .bool ((((r_12.2 == 0) && (r_13.2 == 0)) && (r_14.2 == 0)) && (r_15.2.2 == 0))) :: (131, .bool ((((r_12.2 == 0) && (r_13.2 == 0)) && (r_14.2 == 0)) && (r_15.2.2 == 0))) :: (134, .bool (((((r_12.2 == 0) && (r_13.2 == 0)) && (r_14.2 == 0)) && (r_15.2.2 == 0)) && (r_16.2.2 == 0))) :: (135, .bool (((((r_12.2 == 0) && (r_13.2 == 0)) && (r_14.2 == 0)) && (r_15.2.2 == 0)) && (r_16.2.2 == 0))) :: (139, .bool t_4) :: (140, .bool t_4) :: (144, .bool t_5) :: (145, .bool t_5) :: (149, .bool t_6) :: (150, .bool t_6) :: (154, .bool (t_6 && (r_15.1.N == 10 && r_15.1.D == 1))) :: (155, .bool (t_6 && (r_15.1.N == 10 && r_15.1.D == 1))) :: (159, .bool ((t_6 && (r_15.1.N == 10 && r_15.1.D == 1)) && (r_15.2.1.N == r_15.1.N && r_15.2.1.D == r_15.1.D))) :: (160, .bool ((t_6 && (r_15.1.N == 10 && r_15.1.D == 1)) && (r_15.2.1.N == r_15.1.N && r_15.2.1.D == r_15.1.D))) :: (163, .bool (((t_6 && (r_15.1.N == 10 && r_15.1.D == 1)) && (r_15.2.1.N == r_15.1.N && r_15.2.1.D == r_15.1.D)) && (r_16.1 == 0))) :: []) ∧ Ctx G (.row (some ⟨b_13, 0, none⟩) 3 (([7, 2, 0] : List Int).map encI_i64) 3 1 :: .row (some ⟨b_12, 0, none⟩) 3 (([60, 30, 10] : List Int).map encI_i64) 3 1 :: .box b_11 [.int .i64 r_15.2.1.N, .int .i64 r_15.2.1.D] 71 :: .box b_10 [.int .i64 r_15.1.N, .int .i64 r_15.1.D] 71 :: .row (some ⟨b_9, 0, none⟩) 3 (([6, 3, 0] : List Int).map encI_i64) 3 1 :: .row (some ⟨b_8, 0, none⟩) 3 (([60, 30, 10] : List Int).map encI_i64) 3 1 :: .row (some ⟨b_7, 0, none⟩) 3 (([60, 30, 10] : List Int).map encI_i64) 3 1 :: .row p_11 c_11 (r_14.1.map encI_i64) 3 1 :: .row (some ⟨b_6, 0, none⟩) 3 (([60, 30, 10] : List Int).map encI_i64) 3 1 :: .row p_10 c_10 (r_13.1.map encI_i64) 3 1 :: .row (some ⟨b_5, 0, none⟩) 6 (([20, 30, 30, 40, 40, 40] : List Int).map encI_i64) 3 1 :: .row p_9 c_9 (r_12.1.map encI_i64) 3 1 :: .row p_6 c_6 (r_7.1.Table.map enc_share_Point) 116 2 :: .row p_7 c_7 (r_7.2.map enc_share_Year) 94 5 :: .row p_8 c_8 (r_8.1.map enc_api_Span) 26 2 :: .box b_1 [.slice p_6 r_7.1.Table.length c_6, .int .i64 r_7.1.Credit] 88 :: .row p_5 c_5 (r_5.Rights.map enc_share_Right) 51 3 :: .row p_3 c_3 (r_2.Rights.map enc_share_Right) 51 3 :: .row p_4 c_4 (r_4.1.map enc_api_Span) 26 2 :: .row p_1 c_1 (r.Rights.map enc_share_Right) 51 3 :: .row p_2 c_2 (r_1.1.map encI_i64) 3 1 :: Lf) w) ?_ ?_
    · cases hb : ((t_6 && (r_15.1.N == 10 && r_15.1.D == 1)) && (r_15.2.1.N == r_15.1.N && r_15.2.1.D == r_15.1.D))
      · rw [hb] at hf
        refine stS hf rfl rfl rfl fun a hf => ?_
        refine stS hf rfl rfl rfl fun a hf => ?_
        refine stP hf rfl rfl rfl (pPf rfl rfl) fun a hf => ?_
        exact cNil ⟨hf.keep ⟨rfl, rfl, rfl, rfl, rfl, rfl, rfl, rfl, rfl, rfl, rfl, rfl, rfl, rfl, rfl, rfl, rfl, rfl, rfl, rfl, rfl, rfl, rfl, rfl, rfl, rfl, rfl, rfl, rfl, rfl, rfl, rfl, rfl, rfl, trivial⟩, hc⟩
      · rw [hb] at hf
        refine stP hf rfl rfl rfl (pM rfl) fun a hf => ?_
        refine stP hf rfl rfl rfl (pEq rfl rfl) fun a hf => ?_
        refine stP hf rfl rfl rfl (pPt rfl rfl) fun a hf => ?_
        exact cNil ⟨hf.keep ⟨rfl, rfl, rfl, rfl, rfl, rfl, rfl, rfl, rfl, rfl, rfl, rfl, rfl, rfl, rfl, rfl, rfl, rfl, rfl, rfl, rfl, rfl, rfl, rfl, rfl, rfl, rfl, rfl, rfl, rfl, rfl, rfl, rfl, rfl, trivial⟩, hc⟩
    intro a w ⟨hf, hc⟩
    refine stP hf rfl rfl rfl (pM rfl) fun a hf => ?_
    refine stCut 3 (fun a w => Has 168 a ((2, .int .i64 r_12.2) :: (4, .int .i64 r_13.2) :: (6, .int .i64 r_14.2) :: (10, .int .i64 r_15.2.2) :: (11, .slice p_9 r_12.1.length c_9) :: (12, .slice p_10 r_13.1.length c_10) :: (13, .slice p_11 r_14.1.length c_11) :: (14, .pointer (some ⟨b_10, 0, none⟩)) :: (15, .pointer (some ⟨b_11, 0, none⟩)) :: (16, .int .i64 r_16.1) :: (17, .int .i64 r_16.2.1) :: (18, .int .i64 r_16.2.2) :: (117, .int .i64 r_12.2) :: (118, .bool (r_12.2 == 0)) :: (119, .bool (r_12.2 == 0)) :: (122, .bool ((r_12.2 == 0) && (r_13.2 == 0))) :: (123, .bool ((r_12.2 == 0) && (r_13.2 == 0))) :: (126, .bool (((r_12.2 == 0) && (r_13.2 == 0)) && (r_14.2 == 0))) :: (127, .bool (((r_12.2 == 0) && (r_13.2 == 0)) && (r_14.2 == 0))) :: (130, .bool ((((r_12.2 == 0) && (r_13.2 == 0)) && (r_14.2 == 0)) && (r_15.2.2 == 0))) :: (131, .bool ((((r_12.2 == 0) && (r_13.2 == 0)) && (r_14.2 == 0)) && (r_15.2.2 == 0))) :: (134, .bool (((((r_12.2 == 0) && (r_13.2 == 0)) && (r_14.2 == 0)) && (r_15.2.2 == 0)) && (r_16.2.2 == 0))) :: (135, .bool (((((r_12.2 == 0) && (r_13.2 == 0)) && (r_14.2 == 0)) && (r_15.2.2 == 0)) && (r_16.2.2 == 0))) :: (139, .bool t_4) :: (140, .bool t_4) :: (144, .bool t_5) :: (145, .bool t_5) :: (149, .bool t_6) :: (150, .bool t_6) :: (154, .bool (t_6 && (r_15.1.N == 10 && r_15.1.D == 1))) :: (155, .bool (t_6 && (r_15.1.N == 10 && r_15.1.D == 1))) :: (159, .bool ((t_6 && (r_15.1.N == 10 && r_15.1.D == 1)) && (r_15.2.1.N == r_15.1.N && r_15.2.1.D == r_15.1.D))) :: (160, .bool ((t_6 && (r_15.1.N == 10 && r_15.1.D == 1)) && (r_15.2.1.N == r_15.1.N && r_15.2.1.D == r_15.1.D))) :: (163, .bool (((t_6 && (r_15.1.N == 10 && r_15.1.D == 1)) && (r_15.2.1.N == r_15.1.N && r_15.2.1.D == r_15.1.D)) && (r_16.1 == 0))) :: (164, .bool (((t_6 && (r_15.1.N == 10 && r_15.1.D == 1)) && (r_15.2.1.N == r_15.1.N && r_15.2.1.D == r_15.1.D)) && (r_16.1 == 0))) :: (167, .bool ((((t_6 && (r_15.1.N == 10 && r_15.1.D == 1)) && (r_15.2.1.N == r_15.1.N && r_15.2.1.D == r_15.1.D)) && (r_16.1 == 0)) && (r_16.2.1 == 1))) :: []) ∧ Ctx G (.row (some ⟨b_13, 0, none⟩) 3 (([7, 2, 0] : List Int).map encI_i64) 3 1 :: .row (some ⟨b_12, 0, none⟩) 3 (([60, 30, 10] : List Int).map encI_i64) 3 1 :: .box b_11 [.int .i64 r_15.2.1.N, .int .i64 r_15.2.1.D] 71 :: .box b_10 [.int .i64 r_15.1.N, .int .i64 r_15.1.D] 71 :: .row (some ⟨b_9, 0, none⟩) 3 (([6, 3, 0] : List Int).map encI_i64) 3 1 :: .row (some ⟨b_8, 0, none⟩) 3 (([60, 30, 10] : List Int).map encI_i64) 3 1 :: .row (some ⟨b_7, 0, none⟩) 3 (([60, 30, 10] : List Int).map encI_i64) 3 1 :: .row p_11 c_11 (r_14.1.map encI_i64) 3 1 :: .row (some ⟨b_6, 0, none⟩) 3 (([60, 30, 10] : List Int).map encI_i64) 3 1 :: .row p_10 c_10 (r_13.1.map encI_i64) 3 1 :: .row (some ⟨b_5, 0, none⟩) 6 (([20, 30, 30, 40, 40, 40] : List Int).map encI_i64) 3 1 :: .row p_9 c_9 (r_12.1.map encI_i64) 3 1 :: .row p_6 c_6 (r_7.1.Table.map enc_share_Point) 116 2 :: .row p_7 c_7 (r_7.2.map enc_share_Year) 94 5 :: .row p_8 c_8 (r_8.1.map enc_api_Span) 26 2 :: .box b_1 [.slice p_6 r_7.1.Table.length c_6, .int .i64 r_7.1.Credit] 88 :: .row p_5 c_5 (r_5.Rights.map enc_share_Right) 51 3 :: .row p_3 c_3 (r_2.Rights.map enc_share_Right) 51 3 :: .row p_4 c_4 (r_4.1.map enc_api_Span) 26 2 :: .row p_1 c_1 (r.Rights.map enc_share_Right) 51 3 :: .row p_2 c_2 (r_1.1.map encI_i64) 3 1 :: Lf) w) ?_ ?_
    · cases hb : (((t_6 && (r_15.1.N == 10 && r_15.1.D == 1)) && (r_15.2.1.N == r_15.1.N && r_15.2.1.D == r_15.1.D)) && (r_16.1 == 0))
      · rw [hb] at hf
        refine stS hf rfl rfl rfl fun a hf => ?_
        refine stS hf rfl rfl rfl fun a hf => ?_
        refine stP hf rfl rfl rfl (pPf rfl rfl) fun a hf => ?_
        exact cNil ⟨hf.keep ⟨rfl, rfl, rfl, rfl, rfl, rfl, rfl, rfl, rfl, rfl, rfl, rfl, rfl, rfl, rfl, rfl, rfl, rfl, rfl, rfl, rfl, rfl, rfl, rfl, rfl, rfl, rfl, rfl, rfl, rfl, rfl, rfl, rfl, rfl, rfl, rfl, trivial⟩, hc⟩
      · rw [hb] at hf
        refine stP hf rfl rfl rfl (pM rfl) fun a hf => ?_
        refine stP hf rfl rfl rfl (pEq rfl rfl) fun a hf => ?_
        refine stP hf rfl rfl rfl (pPt rfl rfl) fun a hf => ?_
        exact cNil ⟨hf.keep ⟨rfl, rfl, rfl, rfl, rfl, rfl, rfl, rfl, rfl, rfl, rfl, rfl, rfl, rfl, rfl, rfl, rfl, rfl, rfl, rfl, rfl, rfl, rfl, rfl, rfl, rfl, rfl, rfl, rfl, rfl, rfl, rfl, rfl, rfl, rfl, rfl, trivial⟩, hc⟩
    intro a w ⟨hf, hc⟩
    refine stP hf rfl rfl rfl (pA rfl) fun a hf => ?_
    refine cNil ?_
    refine h15 _ _ ?_
    refine wp_ret ?_
    obtain rfl := Option.some.inj hF
    replace hc := hc.drop k20
    replace hc := hc.drop k19
    replace hc := hc.drop k18
    replace hc := hc.drop k17
    replace hc := hc.drop k16
    replace hc := hc.drop k15
    replace hc := hc.drop k14
    replace hc := hc.drop k13
    replace hc := hc.drop k12
    replace hc := hc.drop k11
    replace hc := hc.drop k10
    replace hc := hc.drop k9
    replace hc := hc.drop k8
    replace hc := hc.drop k7
    replace hc := hc.drop k6
    replace hc := hc.drop k5
    replace hc := hc.drop k4
    replace hc := hc.drop k3
    replace hc := hc.drop k2
    replace hc := hc.drop k1
    replace hc := hc.drop k0
    exact fnOut1 (by simp) rfl Try.results13 hf hc (show look _ 0 = _ from rfl) ⟨rfl, hc⟩

def kit_Copy_share_Right (N : Nat) (l : List share_Right) : Option ((List share_Right)) :=
  Option.bind (room (l).length) fun un =>
  some l
theorem kit_Copy_share_Right_ok {N : Nat} {G : Pers} {Lf : List Ent} {w : World} (l : List share_Right) {l_p : Option Addr} {l_c : Nat} (h_l : Rd G 3 l_p l_c (l.map enc_share_Right)) (hc : Ctx G (Lf) w) {res : (List share_Right)} (hF : kit_Copy_share_Right N l = some res) : Calls Try.prog 69 #[.slice l_p l.length l_c] w (fun e w => ∃ (p'1 : Option Addr) (c'1 : Nat), e = .returned (.slice p'1 res.length c'1) ∧ Ctx G (.row p'1 c'1 (res.map enc_share_Right) 51 3 :: Lf) w) := by
  unfold kit_Copy_share_Right at hF
  refine fnIn (args := [.slice l_p l.length l_c]) Try.func69 rfl Try.ntmps69 rfl fun a hf => ?_
  refine wp_seq_k fun K1 h1 => ?_
  refine cReg ?_
  refine stP hf rfl rfl rfl (pA rfl) fun a hf => ?_
  refine cNil ?_
  refine h1 _ _ ?_
  refine wp_seq_k fun K2 h2 => ?_
  refine cReg ?_
  refine stP hf rfl rfl rfl (pA rfl) fun a hf => ?_
  refine cNil ?_
  refine h2 _ _ ?_
  refine wp_seq_k fun K3 h3 => ?_
  refine cReg ?_
  refine stP hf rfl rfl rfl (pM rfl) fun a hf => ?_
  refine stP hf rfl rfl rfl (pM rfl) fun a hf => ?_
  replace hc := hc.nilRow 51 3
  obtain ⟨un, hun, hF⟩ := bnd_some hF
  refine stApm (xs := ([] : List share_Right)) (ys := l) hf hc rfl rfl sl_22 rfl rfl rfl rfl rfl one_enc_share_Right (src_rd hc h_l) (fun _ _ => u0) (by simpa using room_spec hun) fun p_1 c_1 a w hf hc => ?_
  refine stP hf rfl rfl rfl (pA rfl) fun a hf => ?_
  refine cNil ?_
  refine h3 _ _ ?_
  refine wp_ret ?_
  obtain rfl := Option.some.inj hF
  exact fnOut1 (by simp) rfl Try.results69 hf hc (show look _ 2 = _ from rfl) ⟨p_1, c_1, rfl, hc⟩

def law09_CopyCompact (N : Nat) (c_ : share_Compact) : Option (share_Compact) :=
  Option.bind (kit_Copy_share_Right N c_.Rights) fun r =>
  some (⟨c_.States, r⟩ : share_Compact)
theorem law09_CopyCompact_ok {N : Nat} {G : Pers} {Lf : List Ent} {w : World} (c_ : share_Compact) {c__Rights_p : Option Addr} {c__Rights_c : Nat} (h_c__Rights : Rd G 3 c__Rights_p c__Rights_c (c_.Rights.map enc_share_Right)) (hc : Ctx G (Lf) w) {res : share_Compact} (hF : law09_CopyCompact N c_ = some res) : Calls Try.prog 14 #[.agg #[.int .i64 c_.States, .slice c__Rights_p c_.Rights.length c__Rights_c]] w (fun e w => ∃ (p'1 : Option Addr) (c'1 : Nat), e = .returned (.agg #[.int .i64 res.States, .slice p'1 res.Rights.length c'1]) ∧ Ctx G (.row p'1 c'1 (res.Rights.map enc_share_Right) 51 3 :: Lf) w) := by
  unfold law09_CopyCompact at hF
  refine fnIn (args := [.agg #[.int .i64 c_.States, .slice c__Rights_p c_.Rights.length c__Rights_c]]) Try.func14 rfl Try.ntmps14 rfl fun a hf => ?_
  refine wp_seq_k fun K1 h1 => ?_
  refine cReg ?_
  refine stBx (cs := [.int .i64 c_.States, .slice c__Rights_p c_.Rights.length c__Rights_c]) hf hc rfl rfl rfl rfl fun b_1 a w hf hc => ?_
  refine stAl (cs := [.int .i64 0, .slice none 0 0]) hf hc rfl rfl zr_24 rfl fun b_2 a w hf hc => ?_
  refine cNil ?_
  refine h1 _ _ ?_
  refine wp_seq_k fun K2 h2 => ?_
  refine cReg ?_
  refine stP hf rfl rfl rfl (pFA fa_24_1 rfl) fun a hf => ?_
  refine stE hf hc rfl rfl rfl (eLd1 sc_22 rfl (cell_box m1 rfl)) fun a w hf hc => ?_
  obtain ⟨r, hr, hF⟩ := bnd_some hF
  refine stC (vs := [.slice c__Rights_p c_.Rights.length c__Rights_c]) (caps := []) hf rfl rfl rfl en_69 rfl rfl rfl rfl (kit_Copy_share_Right_ok c_.Rights h_c__Rights hc hr) ?_
  rintro _ w ⟨p_1, c_1, rfl, hc⟩
  refine ⟨_, rfl, fun a hf => ?_⟩
  refine stP hf rfl rfl rfl (pFA fa_24_1 rfl) fun a hf => ?_
  refine stSt (vs := [.slice p_1 r.length c_1]) hf hc rfl rfl rfl rfl sz_22 rfl rfl u2 fun w hc => ?_
  refine cNil ?_
  refine h2 _ _ ?_
  refine wp_seq_k fun K3 h3 => ?_
  refine cReg ?_
  refine stE hf hc rfl rfl rfl (eLdN (vs := [.int .i64 c_.States, .slice p_1 r.length c_1]) ag_24 rfl rfl (cells_box (n := 2) m2 rfl)) fun a w hf hc => ?_
  refine stSt (vs := [.int .i64 c_.States, .slice p_1 r.length c_1]) hf hc rfl rfl rfl rfl sz_24 rfl rfl u1 fun w hc => ?_
  refine cNil ?_
  refine h3 _ _ ?_
  refine wp_ret ?_
  obtain rfl := Option.some.inj hF
  replace hc := hc.drop k2
  exact fnOut1 (by simp) rfl Try.results14 hf hc (rv_cellN (vs := [.int .i64 c_.States, .slice p_1 r.length c_1]) ag_24 rfl rfl (cells_box (n := 2) m1 rfl)) ⟨p_1, c_1, rfl, (hc.drop k1)⟩

def law09_Compact_b5 (N : Nat) (c_ : share_Compact) (x : Int) (x_1 : List ref09_Right) : Option (Step (Int × (List ref09_Right)) (ref09_Compact)) :=
  cond (decide (x < ((c_.Rights.length : Nat) : Int)))
  (Option.bind (getI c_.Rights x) fun e_1 =>
  Option.bind (room ((x_1 ++ [(⟨e_1.State, e_1.Amount, e_1.Loss⟩ : ref09_Right)])).length) fun un =>
  some (.cont (W (x + 1), (x_1 ++ [(⟨e_1.State, e_1.Amount, e_1.Loss⟩ : ref09_Right)]))))
  (some (.brk (x, x_1)))
def law09_Compact (N : Nat) (c_ : share_Compact) : Option (ref09_Compact) :=
  Option.bind (loopO (fun s5 => law09_Compact_b5 N c_ s5.1 s5.2) N (0, ([] : List ref09_Right))) fun x5 =>
  exK x5 (fun s5 => some (⟨c_.States, s5.2⟩ : ref09_Compact)) some
theorem law09_Compact_ok {N : Nat} {G : Pers} {Lf : List Ent} {w : World} (c_ : share_Compact) {c__Rights_p : Option Addr} {c__Rights_c : Nat} (h_c__Rights : Rd G 3 c__Rights_p c__Rights_c (c_.Rights.map enc_share_Right)) (hc : Ctx G (Lf) w) {res : ref09_Compact} (hF : law09_Compact N c_ = some res) : Calls Try.prog 17 #[.agg #[.int .i64 c_.States, .slice c__Rights_p c_.Rights.length c__Rights_c]] w (fun e w => ∃ (p'1 : Option Addr) (c'1 : Nat), e = .returned (.agg #[.int .i64 res.States, .slice p'1 res.Rights.length c'1]) ∧ Ctx G (.row p'1 c'1 (res.Rights.map enc_ref09_Right) 148 3 :: Lf) w) := by
  unfold law09_Compact at hF
  refine fnIn (args := [.agg #[.int .i64 c_.States, .slice c__Rights_p c_.Rights.length c__Rights_c]]) Try.func17 rfl Try.ntmps17 rfl fun a hf => ?_
  refine wp_seq_k fun K1 h1 => ?_
  refine cReg ?_
  refine stBx (cs := [.int .i64 c_.States, .slice c__Rights_p c_.Rights.length c__Rights_c]) hf hc rfl rfl rfl rfl fun b_1 a w hf hc => ?_
  refine stAl (cs := [.int .i64 0, .slice none 0 0]) hf hc rfl rfl zr_34 rfl fun b_2 a w hf hc => ?_
  refine cNil ?_
  refine h1 _ _ ?_
  refine wp_seq_k fun K2 h2 => ?_
  refine cReg ?_
  refine stP hf rfl rfl rfl (pFA fa_24_0 rfl) fun a hf => ?_
  refine stE hf hc rfl rfl rfl (eLd1 sc_3 rfl (cell_box m1 rfl)) fun a w hf hc => ?_
  refine stP hf rfl rfl rfl (pBuildS (cells := [.int .i64 c_.States, .slice none 0 0]) bt_34 rfl rfl) fun a hf => ?_
  refine stAl (cs := [.int .i64 0, .slice none 0 0]) hf hc rfl rfl zr_34 rfl fun b_3 a w hf hc => ?_
  refine stSt (vs := [.int .i64 c_.States, .slice none 0 0]) hf hc rfl rfl rfl rfl sz_34 rfl rfl u0 fun w hc => ?_
  refine cNil ?_
  refine h2 _ _ ?_
  refine wp_seq_k fun K3 h3 => ?_
  refine wp_seq_k fun K4 h4 => ?_
  refine cReg ?_
  refine stP hf rfl rfl rfl (pFA fa_24_1 rfl) fun a hf => ?_
  refine stE hf hc rfl rfl rfl (eLd1 sc_22 rfl (cell_box m2 rfl)) fun a w hf hc => ?_
  refine stP hf rfl rfl rfl (pLenS Try.underlying22 rfl) fun a hf => ?_
  refine stP hf rfl rfl rfl (pM rfl) fun a hf => ?_
  refine cNil ?_
  refine h4 _ _ ?_
  refine wp_block ?_
  obtain ⟨x5, hx5, hF⟩ := bnd_some hF
  let S5 : (Int × (List ref09_Right)) → Act → World → Prop := (fun (zz : Int × (List ref09_Right)) a w => ∃ (p_1 : Option Addr) (c_1 : Nat), Has 24 a [(2, .pointer (some ⟨b_2, 0, none⟩)), (3, .pointer (some ⟨b_3, 0, none⟩)), (10, .slice c__Rights_p c_.Rights.length c__Rights_c), (11, .int .i64 ((c_.Rights.length : Nat) : Int)), (12, .int .i64 zz.1)] ∧ Ctx G (.row p_1 c_1 (zz.2.map enc_ref09_Right) 148 3 :: .box b_3 [.int .i64 c_.States, .slice p_1 zz.2.length c_1] 34 :: .box b_2 [.int .i64 0, .slice none 0 0] 34 :: Lf) w)
  have hr5 : ∀ (zz : Int × (List ref09_Right)) a w, x5 = .go zz → S5 zz a w → K3 a w := by
    rintro ⟨x, x_1⟩ a w rfl ⟨p_1, c_1, hf, hc⟩
    replace hF : _ = some res := hF
    refine h3 _ _ ?_
    refine wp_seq_k fun K6 h6 => ?_
    refine cReg ?_
    refine stE hf hc rfl rfl rfl (eLdN (vs := [.int .i64 c_.States, .slice p_1 x_1.length c_1]) ag_34 rfl rfl (cells_box (n := 2) m1 rfl)) fun a w hf hc => ?_
    refine stSt (vs := [.int .i64 c_.States, .slice p_1 x_1.length c_1]) hf hc rfl rfl rfl rfl sz_34 rfl rfl u2 fun w hc => ?_
    refine cNil ?_
    refine h6 _ _ ?_
    refine wp_ret ?_
    obtain rfl := Option.some.inj hF
    replace hc := hc.drop k1
    exact fnOut1 (by simp) rfl Try.results17 hf hc (rv_cellN (vs := [.int .i64 c_.States, .slice p_1 x_1.length c_1]) ag_34 rfl rfl (cells_box (n := 2) m1 rfl)) ⟨p_1, c_1, rfl, (hc.drop k1)⟩
  have ho5 : ∀ r, x5 = .out r → r = res := by
    rintro r rfl
    exact Option.some.inj hF
  replace hc := hc.nilRow 148 3
  replace hc := hc.drop k3
  refine cLoop N (loopW (S := S5) (x := x5) ?_ N (0, ([] : List ref09_Right)) _ _ ⟨none, 0, hf.keep ⟨rfl, rfl, rfl, rfl, rfl, trivial⟩, hc⟩ hx5)
  clear hF hf hc
  rintro ⟨x, x_1⟩ st5 a w KB5 ⟨p_1, c_1, hf, hc⟩ hF hfin5 hK5
  unfold law09_Compact_b5 at hF
  refine wp_seq_k fun K7 h7 => ?_
  refine cReg ?_
  refine stP hf rfl rfl rfl (pLt rfl rfl) fun a hf => ?_
  refine cNil ?_
  refine h7 _ _ ?_
  refine wp_seq_k fun K8 h8 => ?_
  refine cCond (b := (decide (x < ((c_.Rights.length : Nat) : Int)))) hf rfl (fun hb => ?_) (fun hb => ?_)
  · replace hF := condT hb hF
    clear hb
    refine wp_skip ?_
    refine h8 _ _ ?_
    refine wp_seq_k fun K9 h9 => ?_
    refine wp_block ?_
    refine wp_seq_k fun K10 h10 => ?_
    refine cReg ?_
    obtain ⟨e_1, he_1, hF⟩ := bnd_some hF
    obtain ⟨b_4, o, qa, qp⟩ := h_c__Rights.atm he_1
    refine stP hf rfl rfl rfl (pIA Try.underlying22 sz_51 rfl rfl qa) fun a hf => ?_
    refine stE hf hc rfl rfl rfl (eLdN (vs := [.int .i64 e_1.State, .int .i64 e_1.Amount, .int .i64 e_1.Loss]) ag_51 rfl rfl (cells_pc qp (n := 3) (o' := 0) rfl)) fun a w hf hc => ?_
    refine stAl (cs := [.int .i64 0, .int .i64 0, .int .i64 0]) hf hc rfl rfl zr_51 rfl fun b_5 a w hf hc => ?_
    refine stSt (vs := [.int .i64 e_1.State, .int .i64 e_1.Amount, .int .i64 e_1.Loss]) hf hc rfl rfl rfl rfl sz_51 rfl rfl u0 fun w hc => ?_
    refine cNil ?_
    refine h10 _ _ ?_
    refine cReg ?_
    refine stP hf rfl rfl rfl (pFA fa_34_1 rfl) fun a hf => ?_
    refine stE hf hc rfl rfl rfl (eLd1 sc_32 rfl (cell_box m2 rfl)) fun a w hf hc => ?_
    refine stE hf hc rfl rfl rfl (eLdN (vs := [.int .i64 e_1.State, .int .i64 e_1.Amount, .int .i64 e_1.Loss]) ag_51 rfl rfl (cells_box (n := 3) m0 rfl)) fun a w hf hc => ?_
    refine stBS (rows := ([(⟨e_1.State, e_1.Amount, e_1.Loss⟩ : ref09_Right)] : List ref09_Right).map enc_ref09_Right) (vs := [(0, .agg #[.int .i64 e_1.State, .int .i64 e_1.Amount, .int .i64 e_1.Loss])]) hf hc rfl rfl sl_32 rfl ⟨rfl, rfl, rfl, trivial⟩ rfl rfl fun b_6 a w hf hc => ?_
    obtain ⟨un, hun, hF⟩ := bnd_some hF
    refine stApm (xs := x_1) (ys := ([(⟨e_1.State, e_1.Amount, e_1.Loss⟩ : ref09_Right)] : List ref09_Right)) hf hc rfl rfl sl_32 rfl rfl rfl rfl rfl one_enc_ref09_Right (src_row hc m0) (fun _ _ => u2) (by simpa using room_spec hun) fun p_2 c_2 a w hf hc => ?_
    refine stP hf rfl rfl rfl (pFA fa_34_1 rfl) fun a hf => ?_
    refine stSt (vs := [.slice p_2 ((x_1 ++ [(⟨e_1.State, e_1.Amount, e_1.Loss⟩ : ref09_Right)]).length) c_2]) hf hc rfl rfl rfl rfl sz_32 rfl rfl u3 fun w hc => ?_
    refine cNil ?_
    refine h9 _ _ ?_
    refine cReg ?_
    refine stP hf rfl rfl rfl (pAdd rfl rfl) fun a hf => ?_
    refine stP hf rfl rfl rfl (pM rfl) fun a hf => ?_
    refine cNil ?_
    replace hc := hc.drop k1
    replace hc := hc.drop k0
    exact hK5 (W (x + 1), (x_1 ++ [(⟨e_1.State, e_1.Amount, e_1.Loss⟩ : ref09_Right)])) _ _ (Option.some.inj hF).symm ⟨p_2, c_2, hf.keep ⟨rfl, rfl, rfl, rfl, rfl, trivial⟩, hc⟩
  · replace hF := condF hb hF
    clear hb
    refine wp_exit ?_
    refine xThen ?_
    refine xThen ?_
    have he := Option.some.inj hF
    rw [← he] at hfin5
    refine cHit ?_
    exact hr5 _ _ _ hfin5 ⟨p_1, c_1, hf.keep ⟨rfl, rfl, rfl, rfl, rfl, trivial⟩, hc⟩

def ref09_outside (n : Int) (a_ : Int) (b_ : Int) : Bool :=
  ((decide (n < a_)) || (decide (b_ < n)))
theorem ref09_outside_ok {G : Pers} {Lf : List Ent} {w : World} (n : Int) (a_ : Int) (b_ : Int)   (hc : Ctx G (Lf) w) {res : Bool} (hF : ref09_outside n a_ b_ = res) : Calls Try.prog 74 #[.int .i64 n, .int .i64 a_, .int .i64 b_] w (fun e w => e = .returned (.bool res) ∧ Ctx G (Lf) w) := by
  unfold ref09_outside at hF
  refine fnIn (args := [.int .i64 n, .int .i64 a_, .int .i64 b_]) Try.func74 rfl Try.ntmps74 rfl fun a hf => ?_
  refine wp_seq_k fun K1 h1 => ?_
  refine cReg ?_
  refine stP hf rfl rfl rfl (pA rfl) fun a hf => ?_
  refine cNil ?_
  refine h1 _ _ ?_
  refine wp_seq_k fun K2 h2 => ?_
  refine cReg ?_
  refine stP hf rfl rfl rfl (pM rfl) fun a hf => ?_
  refine stP hf rfl rfl rfl (pM rfl) fun a hf => ?_
  refine stP hf rfl rfl rfl (pLt rfl rfl) fun a hf => ?_
  refine stP hf rfl rfl rfl (pM rfl) fun a hf => ?_
  refine stCut 4 (fun a w => Has 15 a [(0, .int .i64 n), (1, .int .i64 a_), (2, .int .i64 b_), (6, .bool false), (7, .int .i64 n), (8, .int .i64 a_), (9, .bool (decide (n < a_))), (10, .bool (decide (n < a_))), (14, .bool ((decide (n < a_)) || (decide (b_ < n))))] ∧ Ctx G (Lf) w) ?_ ?_
  · cases hb : (decide (n < a_))
    · rw [hb] at hf
      refine stP hf rfl rfl rfl (pM rfl) fun a hf => ?_
      refine stP hf rfl rfl rfl (pM rfl) fun a hf => ?_
      refine stP hf rfl rfl rfl (pGt rfl rfl) fun a hf => ?_
      refine stP hf rfl rfl rfl (pPf rfl rfl) fun a hf => ?_
      exact cNil ⟨hf.keep ⟨rfl, rfl, rfl, rfl, rfl, rfl, rfl, rfl, rfl, trivial⟩, hc⟩
    · rw [hb] at hf
      refine stS hf rfl rfl rfl fun a hf => ?_
      refine stS hf rfl rfl rfl fun a hf => ?_
      refine stS hf rfl rfl rfl fun a hf => ?_
      refine stP hf rfl rfl rfl (pPt rfl rfl) fun a hf => ?_
      exact cNil ⟨hf.keep ⟨rfl, rfl, rfl, rfl, rfl, rfl, rfl, rfl, rfl, trivial⟩, hc⟩
  intro a w ⟨hf, hc⟩
  refine stP hf rfl rfl rfl (pA rfl) fun a hf => ?_
  refine cNil ?_
  refine h2 _ _ ?_
  refine wp_ret ?_
  obtain rfl := hF
  exact fnOut1 (by simp) rfl Try.results74 hf hc (show look _ 6 = _ from rfl) ⟨rfl, hc⟩

def ref09_Check_b7 (N : Nat) (c_ : ref09_Compact) (i_1 : Int) : Option (Step (Int) (Int)) :=
  cond (decide (i_1 < ((c_.Rights.length : Nat) : Int)))
  (Option.bind (getI c_.Rights i_1) fun e_1 =>
  cond (((ref09_outside e_1.State 0 (W (c_.States - 1))) || (ref09_outside e_1.Amount 0 1000000000)) || (ref09_outside e_1.Loss 0 1000))
  (some (.ret 100))
  (some (.cont (W (i_1 + 1)))))
  (some (.brk i_1))
def ref09_Check (N : Nat) (c_ : ref09_Compact) : Option (Int) :=
  cond (((ref09_outside c_.States 1 12) || (decide (((c_.Rights.length : Nat) : Int) < 1))) || (decide (30 < ((c_.Rights.length : Nat) : Int))))
  (some 3)
  (Option.bind (loopO (fun s7 => ref09_Check_b7 N c_ s7) N 0) fun x7 =>
  exK x7 (fun s7 => some 0) some)
theorem ref09_Check_ok {N : Nat} {G : Pers} {Lf : List Ent} {w : World} (c_ : ref09_Compact) {c__Rights_p : Option Addr} {c__Rights_c : Nat} (h_c__Rights : Rd G 3 c__Rights_p c__Rights_c (c_.Rights.map enc_ref09_Right)) (hc : Ctx G (Lf) w) {res : Int} (hF : ref09_Check N c_ = some res) : Calls Try.prog 16 #[.agg #[.int .i64 c_.States, .slice c__Rights_p c_.Rights.length c__Rights_c]] w (fun e w => e = .returned (.int .i64 res) ∧ Ctx G (Lf) w) := by
  unfold ref09_Check at hF
  refine fnIn (args := [.agg #[.int .i64 c_.States, .slice c__Rights_p c_.Rights.length c__Rights_c]]) Try.func16 rfl Try.ntmps16 rfl fun a hf => ?_
  refine wp_seq_k fun K1 h1 => ?_
  refine cReg ?_
  refine stBx (cs := [.int .i64 c_.States, .slice c__Rights_p c_.Rights.length c__Rights_c]) hf hc rfl rfl rfl rfl fun b_1 a w hf hc => ?_
  refine stP hf rfl rfl rfl (pA rfl) fun a hf => ?_
  refine cNil ?_
  refine h1 _ _ ?_
  refine wp_seq_k fun K2 h2 => ?_
  refine wp_seq_k fun K3 h3 => ?_
  refine cReg ?_
  refine stP hf rfl rfl rfl (pFA fa_34_0 rfl) fun a hf => ?_
  refine stE hf hc rfl rfl rfl (eLd1 sc_3 rfl (cell_box m0 rfl)) fun a w hf hc => ?_
  refine stE hf hc rfl rfl rfl (eC (v := .bool (ref09_outside c_.States 1 12)) (vs := [.int .i64 c_.States, .int .i64 1, .int .i64 12]) (caps := []) en_74 rfl rfl rfl rfl (fun w hc => ref09_outside_ok c_.States 1 12 hc rfl)) fun a w hf hc => ?_
  refine stP hf rfl rfl rfl (pM rfl) fun a hf => ?_
  refine stCut 5 (fun a w => Has 48 a [(1, .pointer (some ⟨b_1, 0, none⟩)), (5, .pointer (some ⟨b_1, 0, none⟩)), (6, .int .i64 c_.States), (7, .bool (ref09_outside c_.States 1 12)), (8, .bool (ref09_outside c_.States 1 12)), (13, .bool ((ref09_outside c_.States 1 12) || (decide (((c_.Rights.length : Nat) : Int) < 1))))] ∧ Ctx G (.box b_1 [.int .i64 c_.States, .slice c__Rights_p c_.Rights.length c__Rights_c] 34 :: Lf) w) ?_ ?_
  · cases hb : (ref09_outside c_.States 1 12)
    · rw [hb] at hf
      refine stP hf rfl rfl rfl (pFA fa_34_1 rfl) fun a hf => ?_
      refine stE hf hc rfl rfl rfl (eLd1 sc_32 rfl (cell_box m0 rfl)) fun a w hf hc => ?_
      refine stP hf rfl rfl rfl (pLenS Try.underlying32 rfl) fun a hf => ?_
      refine stP hf rfl rfl rfl (pLt rfl rfl) fun a hf => ?_
      refine stP hf rfl rfl rfl (pPf rfl rfl) fun a hf => ?_
      exact cNil ⟨hf.keep ⟨rfl, rfl, rfl, rfl, rfl, rfl, trivial⟩, hc⟩
    · rw [hb] at hf
      refine stS hf rfl rfl rfl fun a hf => ?_
      refine stS hf rfl rfl rfl fun a hf => ?_
      refine stS hf rfl rfl rfl fun a hf => ?_
      refine stS hf rfl rfl rfl fun a hf => ?_
      refine stP hf rfl rfl rfl (pPt rfl rfl) fun a hf => ?_
      exact cNil ⟨hf.keep ⟨rfl, rfl, rfl, rfl, rfl, rfl, trivial⟩, hc⟩
  intro a w ⟨hf, hc⟩
  refine stP hf rfl rfl rfl (pM rfl) fun a hf => ?_
  refine stCut 5 (fun a w => Has 48 a [(1, .pointer (some ⟨b_1, 0, none⟩)), (5, .pointer (some ⟨b_1, 0, none⟩)), (6, .int .i64 c_.States), (7, .bool (ref09_outside c_.States 1 12)), (8, .bool (ref09_outside c_.States 1 12)), (13, .bool ((ref09_outside c_.States 1 12) || (decide (((c_.Rights.length : Nat) : Int) < 1)))), (14, .bool ((ref09_outside c_.States 1 12) || (decide (((c_.Rights.length : Nat) : Int) < 1)))), (19, .bool (((ref09_outside c_.States 1 12) || (decide (((c_.Rights.length : Nat) : Int) < 1))) || (decide (30 < ((c_.Rights.length : Nat) : Int)))))] ∧ Ctx G (.box b_1 [.int .i64 c_.States, .slice c__Rights_p c_.Rights.length c__Rights_c] 34 :: Lf) w) ?_ ?_
  · cases hb : ((ref09_outside c_.States 1 12) || (decide (((c_.Rights.length : Nat) : Int) < 1)))
    · rw [hb] at hf
      refine stP hf rfl rfl rfl (pFA fa_34_1 rfl) fun a hf => ?_
      refine stE hf hc rfl rfl rfl (eLd1 sc_32 rfl (cell_box m0 rfl)) fun a w hf hc => ?_
      refine stP hf rfl rfl rfl (pLenS Try.underlying32 rfl) fun a hf => ?_
      refine stP hf rfl rfl rfl (pGt rfl rfl) fun a hf => ?_
      refine stP hf rfl rfl rfl (pPf rfl rfl) fun a hf => ?_
      exact cNil ⟨hf.keep ⟨rfl, rfl, rfl, rfl, rfl, rfl, rfl, rfl, trivial⟩, hc⟩
    · rw [hb] at hf
      refine stS hf rfl rfl rfl fun a hf => ?_
      refine stS hf rfl rfl rfl fun a hf => ?_
      refine stS hf rfl rfl rfl fun a hf => ?_
      refine stS hf rfl rfl rfl fun a hf => ?_
      refine stP hf rfl rfl rfl (pPt rfl rfl) fun a hf => ?_
      exact cNil ⟨hf.keep ⟨rfl, rfl, rfl, rfl, rfl, rfl, rfl, rfl, trivial⟩, hc⟩
  intro a w ⟨hf, hc⟩
  refine cNil ?_
  refine h3 _ _ ?_
  refine cCond (b := (((ref09_outside c_.States 1 12) || (decide (((c_.Rights.length : Nat) : Int) < 1))) || (decide (30 < ((c_.Rights.length : Nat) : Int))))) hf rfl (fun hb => ?_) (fun hb => ?_)
  · replace hF := condT hb hF
    clear hb
    refine wp_seq_k fun K4 h4 => ?_
    refine cReg ?_
    refine stP hf rfl rfl rfl (pA rfl) fun a hf => ?_
    refine cNil ?_
    refine h4 _ _ ?_
    refine wp_ret ?_
    refine xThenR ?_
    obtain rfl := Option.some.inj hF
    replace hc := hc.drop k0
    exact fnOut1 (by simp) rfl Try.results16 hf hc (show look _ 2 = _ from rfl) ⟨rfl, hc⟩
  · replace hF := condF hb hF
    clear hb
    refine wp_skip ?_
    refine h2 _ _ ?_
    refine wp_seq_k fun K5 h5 => ?_
    refine wp_seq_k fun K6 h6 => ?_
    refine cReg ?_
    refine stP hf rfl rfl rfl (pA rfl) fun a hf => ?_
    refine cNil ?_
    refine h6 _ _ ?_
    refine wp_block ?_
    obtain ⟨x7, hx7, hF⟩ := bnd_some hF
    let S7 : Int → Act → World → Prop := (fun (zz : Int) a w => Has 48 a [(1, .pointer (some ⟨b_1, 0, none⟩)), (3, .int .i64 zz)] ∧ Ctx G (.box b_1 [.int .i64 c_.States, .slice c__Rights_p c_.Rights.length c__Rights_c] 34 :: Lf) w)
    have hr7 : ∀ (zz : Int) a w, x7 = .go zz → S7 zz a w → K5 a w := by
      rintro i_1 a w rfl ⟨hf, hc⟩
      replace hF : _ = some res := hF
      refine h5 _ _ ?_
      refine wp_seq_k fun K8 h8 => ?_
      refine cReg ?_
      refine stP hf rfl rfl rfl (pA rfl) fun a hf => ?_
      refine cNil ?_
      refine h8 _ _ ?_
      refine wp_ret ?_
      obtain rfl := Option.some.inj hF
      replace hc := hc.drop k0
      exact fnOut1 (by simp) rfl Try.results16 hf hc (show look _ 2 = _ from rfl) ⟨rfl, hc⟩
    have ho7 : ∀ r, x7 = .out r → r = res := by
      rintro r rfl
      exact Option.some.inj hF
    refine cLoop N (loopW (S := S7) (x := x7) ?_ N 0 _ _ ⟨hf.keep ⟨rfl, rfl, trivial⟩, hc⟩ hx7)
    clear hF hf hc
    rintro i_1 st7 a w KB7 ⟨hf, hc⟩ hF hfin7 hK7
    unfold ref09_Check_b7 at hF
    refine wp_seq_k fun K9 h9 => ?_
    refine wp_seq_k fun K10 h10 => ?_
    refine cReg ?_
    refine stP hf rfl rfl rfl (pM rfl) fun a hf => ?_
    refine stP hf rfl rfl rfl (pFA fa_34_1 rfl) fun a hf => ?_
    refine stE hf hc rfl rfl rfl (eLd1 sc_32 rfl (cell_box m0 rfl)) fun a w hf hc => ?_
    refine stP hf rfl rfl rfl (pLenS Try.underlying32 rfl) fun a hf => ?_
    refine stP hf rfl rfl rfl (pLt rfl rfl) fun a hf => ?_
    refine cNil ?_
    refine h10 _ _ ?_
    refine cCond (b := (decide (i_1 < ((c_.Rights.length : Nat) : Int)))) hf rfl (fun hb => ?_) (fun hb => ?_)
    · replace hF := condT hb hF
      clear hb
      refine wp_skip ?_
      refine h9 _ _ ?_
      refine wp_seq_k fun K11 h11 => ?_
      refine wp_block ?_
      refine wp_seq_k fun K12 h12 => ?_
      refine cReg ?_
      refine stP hf rfl rfl rfl (pFA fa_34_1 rfl) fun a hf => ?_
      refine stE hf hc rfl rfl rfl (eLd1 sc_32 rfl (cell_box m0 rfl)) fun a w hf hc => ?_
      refine stP hf rfl rfl rfl (pM rfl) fun a hf => ?_
      obtain ⟨e_1, he_1, hF⟩ := bnd_some hF
      obtain ⟨b_2, o, qa, qp⟩ := h_c__Rights.atm he_1
      refine stP hf rfl rfl rfl (pIA Try.underlying32 sz_148 rfl rfl qa) fun a hf => ?_
      refine stE hf hc rfl rfl rfl (eLdN (vs := [.int .i64 e_1.State, .int .i64 e_1.Amount, .int .i64 e_1.Loss]) ag_148 rfl rfl (cells_pc qp (n := 3) (o' := 0) rfl)) fun a w hf hc => ?_
      refine stAl (cs := [.int .i64 0, .int .i64 0, .int .i64 0]) hf hc rfl rfl zr_148 rfl fun b_3 a w hf hc => ?_
      refine stSt (vs := [.int .i64 e_1.State, .int .i64 e_1.Amount, .int .i64 e_1.Loss]) hf hc rfl rfl rfl rfl sz_148 rfl rfl u0 fun w hc => ?_
      refine cNil ?_
      refine h12 _ _ ?_
      refine wp_seq_k fun K13 h13 => ?_
      refine cReg ?_
      refine stP hf rfl rfl rfl (pFA fa_148_0 rfl) fun a hf => ?_
      refine stE hf hc rfl rfl rfl (eLd1 sc_3 rfl (cell_box m0 rfl)) fun a w hf hc => ?_
      refine stP hf rfl rfl rfl (pFA fa_34_0 rfl) fun a hf => ?_
      refine stE hf hc rfl rfl rfl (eLd1 sc_3 rfl (cell_box m1 rfl)) fun a w hf hc => ?_
      refine stP hf rfl rfl rfl (pSub rfl rfl) fun a hf => ?_
      refine stE hf hc rfl rfl rfl (eC (v := .bool (ref09_outside e_1.State 0 (W (c_.States - 1)))) (vs := [.int .i64 e_1.State, .int .i64 0, .int .i64 (W (c_.States - 1))]) (caps := []) en_74 rfl rfl rfl rfl (fun w hc => ref09_outside_ok e_1.State 0 (W (c_.States - 1)) hc rfl)) fun a w hf hc => ?_
      refine stP hf rfl rfl rfl (pM rfl) fun a hf => ?_
      refine stCut 4 (fun a w => Has 48 a [(1, .pointer (some ⟨b_1, 0, none⟩)), (3, .int .i64 i_1), (4, .pointer (some ⟨b_3, 0, none⟩)), (32, .pointer (some ⟨b_3, 0, none⟩)), (33, .int .i64 e_1.State), (34, .pointer (some ⟨b_1, 0, none⟩)), (35, .int .i64 c_.States), (36, .int .i64 (W (c_.States - 1))), (37, .bool (ref09_outside e_1.State 0 (W (c_.States - 1)))), (38, .bool (ref09_outside e_1.State 0 (W (c_.States - 1)))), (42, .bool ((ref09_outside e_1.State 0 (W (c_.States - 1))) || (ref09_outside e_1.Amount 0 1000000000)))] ∧ Ctx G (.box b_3 [.int .i64 e_1.State, .int .i64 e_1.Amount, .int .i64 e_1.Loss] 148 :: .box b_1 [.int .i64 c_.States, .slice c__Rights_p c_.Rights.length c__Rights_c] 34 :: Lf) w) ?_ ?_
      · cases hb : (ref09_outside e_1.State 0 (W (c_.States - 1)))
        · rw [hb] at hf
          refine stP hf rfl rfl rfl (pFA fa_148_1 rfl) fun a hf => ?_
          refine stE hf hc rfl rfl rfl (eLd1 sc_3 rfl (cell_box m0 rfl)) fun a w hf hc => ?_
          refine stE hf hc rfl rfl rfl (eC (v := .bool (ref09_outside e_1.Amount 0 1000000000)) (vs := [.int .i64 e_1.Amount, .int .i64 0, .int .i64 1000000000]) (caps := []) en_74 rfl rfl rfl rfl (fun w hc => ref09_outside_ok e_1.Amount 0 1000000000 hc rfl)) fun a w hf hc => ?_
          refine stP hf rfl rfl rfl (pPf rfl rfl) fun a hf => ?_
          exact cNil ⟨hf.keep ⟨rfl, rfl, rfl, rfl, rfl, rfl, rfl, rfl, rfl, rfl, rfl, trivial⟩, hc⟩
        · rw [hb] at hf
          refine stS hf rfl rfl rfl fun a hf => ?_
          refine stS hf rfl rfl rfl fun a hf => ?_
          refine stS hf rfl rfl rfl fun a hf => ?_
          refine stP hf rfl rfl rfl (pPt rfl rfl) fun a hf => ?_
          exact cNil ⟨hf.keep ⟨rfl, rfl, rfl, rfl, rfl, rfl, rfl, rfl, rfl, rfl, rfl, trivial⟩, hc⟩
      intro a w ⟨hf, hc⟩
      refine stP hf rfl rfl rfl (pM rfl) fun a hf => ?_
      refine stCut 4 (fun a w => Has 48 a [(1, .pointer (some ⟨b_1, 0, none⟩)), (3, .int .i64 i_1), (4, .pointer (some ⟨b_3, 0, none⟩)), (32, .pointer (some ⟨b_3, 0, none⟩)), (33, .int .i64 e_1.State), (34, .pointer (some ⟨b_1, 0, none⟩)), (35, .int .i64 c_.States), (36, .int .i64 (W (c_.States - 1))), (37, .bool (ref09_outside e_1.State 0 (W (c_.States - 1)))), (38, .bool (ref09_outside e_1.State 0 (W (c_.States - 1)))), (42, .bool ((ref09_outside e_1.State 0 (W (c_.States - 1))) || (ref09_outside e_1.Amount 0 1000000000))), (43, .bool ((ref09_outside e_1.State 0 (W (c_.States - 1))) || (ref09_outside e_1.Amount 0 1000000000))), (47, .bool (((ref09_outside e_1.State 0 (W (c_.States - 1))) || (ref09_outside e_1.Amount 0 1000000000)) || (ref09_outside e_1.Loss 0 1000)))] ∧ Ctx G (.box b_3 [.int .i64 e_1.State, .int .i64 e_1.Amount, .int .i64 e_1.Loss] 148 :: .box b_1 [.int .i64 c_.States, .slice c__Rights_p c_.Rights.length c__Rights_c] 34 :: Lf) w) ?_ ?_
      · cases hb : ((ref09_outside e_1.State 0 (W (c_.States - 1))) || (ref09_outside e_1.Amount 0 1000000000))
        · rw [hb] at hf
          refine stP hf rfl rfl rfl (pFA fa_148_2 rfl) fun a hf => ?_
          refine stE hf hc rfl rfl rfl (eLd1 sc_3 rfl (cell_box m0 rfl)) fun a w hf hc => ?_
          refine stE hf hc rfl rfl rfl (eC (v := .bool (ref09_outside e_1.Loss 0 1000)) (vs := [.int .i64 e_1.Loss, .int .i64 0, .int .i64 1000]) (caps := []) en_74 rfl rfl rfl rfl (fun w hc => ref09_outside_ok e_1.Loss 0 1000 hc rfl)) fun a w hf hc => ?_
          refine stP hf rfl rfl rfl (pPf rfl rfl) fun a hf => ?_
          exact cNil ⟨hf.keep ⟨rfl, rfl, rfl, rfl, rfl, rfl, rfl, rfl, rfl, rfl, rfl, rfl, rfl, trivial⟩, hc⟩
        · rw [hb] at hf
          refine stS hf rfl rfl rfl fun a hf => ?_
          refine stS hf rfl rfl rfl fun a hf => ?_
          refine stS hf rfl rfl rfl fun a hf => ?_
          refine stP hf rfl rfl rfl (pPt rfl rfl) fun a hf => ?_
          exact cNil ⟨hf.keep ⟨rfl, rfl, rfl, rfl, rfl, rfl, rfl, rfl, rfl, rfl, rfl, rfl, rfl, trivial⟩, hc⟩
      intro a w ⟨hf, hc⟩
      refine cNil ?_
      refine h13 _ _ ?_
      refine cCond (b := (((ref09_outside e_1.State 0 (W (c_.States - 1))) || (ref09_outside e_1.Amount 0 1000000000)) || (ref09_outside e_1.Loss 0 1000))) hf rfl (fun hb => ?_) (fun hb => ?_)
      · replace hF := condT hb hF
        clear hb
        refine wp_seq_k fun K14 h14 => ?_
        refine cReg ?_
        refine stP hf rfl rfl rfl (pA rfl) fun a hf => ?_
        refine cNil ?_
        refine h14 _ _ ?_
        refine wp_ret ?_
        refine xBlkR ?_
        refine xThenR ?_
        refine xThenR ?_
        have he := Option.some.inj hF
        rw [← he] at hfin7
        replace hF := ho7 _ hfin7
        refine xBlkR ?_
        refine xThenR ?_
        obtain rfl := hF
        replace hc := hc.drop k1
        replace hc := hc.drop k0
        exact fnOut1 (by simp) rfl Try.results16 hf hc (show look _ 2 = _ from rfl) ⟨rfl, hc⟩
      · replace hF := condF hb hF
        clear hb
        refine wp_skip ?_
        refine h11 _ _ ?_
        refine cReg ?_
        refine stP hf rfl rfl rfl (pM rfl) fun a hf => ?_
        refine stP hf rfl rfl rfl (pAdd rfl rfl) fun a hf => ?_
        refine stP hf rfl rfl rfl (pA rfl) fun a hf => ?_
        refine cNil ?_
        replace hc := hc.drop k0
        exact hK7 (W (i_1 + 1)) _ _ (Option.some.inj hF).symm ⟨hf.keep ⟨rfl, rfl, trivial⟩, hc⟩
    · replace hF := condF hb hF
      clear hb
      refine wp_exit ?_
      refine xThen ?_
      refine xThen ?_
      have he := Option.some.inj hF
      rw [← he] at hfin7
      refine cHit ?_
      exact hr7 _ _ _ hfin7 ⟨hf.keep ⟨rfl, rfl, trivial⟩, hc⟩

def ref09_takes_b5 (N : Nat) (c_ : ref09_Compact) (i_ : Int) (older : Int) (k : Int) : Option (Step (Int × Int) (Int)) :=
  cond (decide (k < i_))
  (Option.bind (getI c_.Rights k) fun e_2 =>
  some (.cont (W (older + e_2.Amount), W (k + 1))))
  (some (.brk (older, k)))
def ref09_takes (N : Nat) (c_ : ref09_Compact) (flow : Int) (i_ : Int) : Option (Int) :=
  Option.bind (loopO (fun s5 => ref09_takes_b5 N c_ i_ s5.1 s5.2) N (0, 0)) fun x5 =>
  exK x5 (fun s5 => Option.bind (getI c_.Rights i_) fun e_1 =>
  some (min e_1.Amount (max 0 (W (flow - s5.1))))) some
theorem ref09_takes_ok {N : Nat} {G : Pers} {Lf : List Ent} {w : World} (c_ : ref09_Compact) (flow : Int) (i_ : Int) {c__Rights_p : Option Addr} {c__Rights_c : Nat} (h_c__Rights : Rd G 3 c__Rights_p c__Rights_c (c_.Rights.map enc_ref09_Right)) (hc : Ctx G (Lf) w) {res : Int} (hF : ref09_takes N c_ flow i_ = some res) : Calls Try.prog 76 #[.agg #[.int .i64 c_.States, .slice c__Rights_p c_.Rights.length c__Rights_c], .int .i64 flow, .int .i64 i_] w (fun e w => e = .returned (.int .i64 res) ∧ Ctx G (Lf) w) := by
  unfold ref09_takes at hF
  refine fnIn (args := [.agg #[.int .i64 c_.States, .slice c__Rights_p c_.Rights.length c__Rights_c], .int .i64 flow, .int .i64 i_]) Try.func76 rfl Try.ntmps76 rfl fun a hf => ?_
  refine wp_seq_k fun K1 h1 => ?_
  refine cReg ?_
  refine stBx (cs := [.int .i64 c_.States, .slice c__Rights_p c_.Rights.length c__Rights_c]) hf hc rfl rfl rfl rfl fun b_1 a w hf hc => ?_
  refine stP hf rfl rfl rfl (pA rfl) fun a hf => ?_
  refine cNil ?_
  refine h1 _ _ ?_
  refine wp_seq_k fun K2 h2 => ?_
  refine cReg ?_
  refine stP hf rfl rfl rfl (pA rfl) fun a hf => ?_
  refine cNil ?_
  refine h2 _ _ ?_
  refine wp_seq_k fun K3 h3 => ?_
  refine wp_seq_k fun K4 h4 => ?_
  refine cReg ?_
  refine stP hf rfl rfl rfl (pA rfl) fun a hf => ?_
  refine cNil ?_
  refine h4 _ _ ?_
  refine wp_block ?_
  obtain ⟨x5, hx5, hF⟩ := bnd_some hF
  let S5 : (Int × Int) → Act → World → Prop := (fun (zz : Int × Int) a w => Has 33 a [(1, .int .i64 flow), (2, .int .i64 i_), (3, .pointer (some ⟨b_1, 0, none⟩)), (7, .int .i64 zz.1), (8, .int .i64 zz.2)] ∧ Ctx G (.box b_1 [.int .i64 c_.States, .slice c__Rights_p c_.Rights.length c__Rights_c] 34 :: Lf) w)
  have hr5 : ∀ (zz : Int × Int) a w, x5 = .go zz → S5 zz a w → K3 a w := by
    rintro ⟨older, k⟩ a w rfl ⟨hf, hc⟩
    replace hF : _ = some res := hF
    refine h3 _ _ ?_
    refine wp_seq_k fun K6 h6 => ?_
    refine cReg ?_
    refine stP hf rfl rfl rfl (pFA fa_34_1 rfl) fun a hf => ?_
    refine stE hf hc rfl rfl rfl (eLd1 sc_32 rfl (cell_box m0 rfl)) fun a w hf hc => ?_
    refine stP hf rfl rfl rfl (pM rfl) fun a hf => ?_
    obtain ⟨e_1, he_1, hF⟩ := bnd_some hF
    obtain ⟨b_2, o, qa, qp⟩ := h_c__Rights.atm he_1
    refine stP hf rfl rfl rfl (pIA Try.underlying32 sz_148 rfl rfl qa) fun a hf => ?_
    refine stP hf rfl rfl rfl (pFA fa_148_1 rfl) fun a hf => ?_
    refine stE hf hc rfl rfl rfl (eLd1 sc_3 rfl (cell_pc (j := 1) qp rfl)) fun a w hf hc => ?_
    refine stP hf rfl rfl rfl (pM rfl) fun a hf => ?_
    refine stP hf rfl rfl rfl (pM rfl) fun a hf => ?_
    refine stP hf rfl rfl rfl (pSub rfl rfl) fun a hf => ?_
    refine stP hf rfl rfl rfl (pMax2 rfl rfl) fun a hf => ?_
    refine stP hf rfl rfl rfl (pMin2 rfl rfl) fun a hf => ?_
    refine stP hf rfl rfl rfl (pA rfl) fun a hf => ?_
    refine cNil ?_
    refine h6 _ _ ?_
    refine wp_ret ?_
    obtain rfl := Option.some.inj hF
    replace hc := hc.drop k0
    exact fnOut1 (by simp) rfl Try.results76 hf hc (show look _ 6 = _ from rfl) ⟨rfl, hc⟩
  have ho5 : ∀ r, x5 = .out r → r = res := by
    rintro r rfl
    exact Option.some.inj hF
  refine cLoop N (loopW (S := S5) (x := x5) ?_ N (0, 0) _ _ ⟨hf.keep ⟨rfl, rfl, rfl, rfl, rfl, trivial⟩, hc⟩ hx5)
  clear hF hf hc
  rintro ⟨older, k⟩ st5 a w KB5 ⟨hf, hc⟩ hF hfin5 hK5
  unfold ref09_takes_b5 at hF
  refine wp_seq_k fun K7 h7 => ?_
  refine wp_seq_k fun K8 h8 => ?_
  refine cReg ?_
  refine stP hf rfl rfl rfl (pM rfl) fun a hf => ?_
  refine stP hf rfl rfl rfl (pM rfl) fun a hf => ?_
  refine stP hf rfl rfl rfl (pLt rfl rfl) fun a hf => ?_
  refine cNil ?_
  refine h8 _ _ ?_
  refine cCond (b := (decide (k < i_))) hf rfl (fun hb => ?_) (fun hb => ?_)
  · replace hF := condT hb hF
    clear hb
    refine wp_skip ?_
    refine h7 _ _ ?_
    refine wp_seq_k fun K9 h9 => ?_
    refine wp_block ?_
    refine cReg ?_
    refine stP hf rfl rfl rfl (pM rfl) fun a hf => ?_
    refine stP hf rfl rfl rfl (pFA fa_34_1 rfl) fun a hf => ?_
    refine stE hf hc rfl rfl rfl (eLd1 sc_32 rfl (cell_box m0 rfl)) fun a w hf hc => ?_
    refine stP hf rfl rfl rfl (pM rfl) fun a hf => ?_
    obtain ⟨e_2, he_2, hF⟩ := bnd_some hF
    obtain ⟨b_3, o_1, qa_1, qp_1⟩ := h_c__Rights.atm he_2
    refine stP hf rfl rfl rfl (pIA Try.underlying32 sz_148 rfl rfl qa_1) fun a hf => ?_
    refine stP hf rfl rfl rfl (pFA fa_148_1 rfl) fun a hf => ?_
    refine stE hf hc rfl rfl rfl (eLd1 sc_3 rfl (cell_pc (j := 1) qp_1 rfl)) fun a w hf hc => ?_
    refine stP hf rfl rfl rfl (pAdd rfl rfl) fun a hf => ?_
    refine stP hf rfl rfl rfl (pA rfl) fun a hf => ?_
    refine cNil ?_
    refine h9 _ _ ?_
    refine cReg ?_
    refine stP hf rfl rfl rfl (pM rfl) fun a hf => ?_
    refine stP hf rfl rfl rfl (pAdd rfl rfl) fun a hf => ?_
    refine stP hf rfl rfl rfl (pA rfl) fun a hf => ?_
    refine cNil ?_
    exact hK5 (W (older + e_2.Amount), W (k + 1)) _ _ (Option.some.inj hF).symm ⟨hf.keep ⟨rfl, rfl, rfl, rfl, rfl, trivial⟩, hc⟩
  · replace hF := condF hb hF
    clear hb
    refine wp_exit ?_
    refine xThen ?_
    refine xThen ?_
    have he := Option.some.inj hF
    rw [← he] at hfin5
    refine cHit ?_
    exact hr5 _ _ _ hfin5 ⟨hf.keep ⟨rfl, rfl, rfl, rfl, rfl, trivial⟩, hc⟩

def ref09_Real_j23 (N : Nat) (i_1 : Int) (n_1 : Int) : Option (Step (Int × Int) (Step ((List Int) × Int) ((List Int) × Int))) :=
  some (.cont (n_1, W (i_1 + 1)))
def ref09_Real_b20 (N : Nat) (c_ : ref09_Compact) (flow : Int) (s_1 : Int) (n : Int) (i_1 : Int) : Option (Step (Int × Int) (Step ((List Int) × Int) ((List Int) × Int))) :=
  cond (decide (i_1 < ((c_.Rights.length : Nat) : Int)))
  (Option.bind (getI c_.Rights i_1) fun e_1 =>
  cond (e_1.State == s_1)
  (Option.bind (ref09_takes N c_ flow i_1) fun r_1 =>
  Option.bind (getI c_.Rights i_1) fun e_2 =>
  ref09_Real_j23 N i_1 (W (n + (W ((W (r_1 * (W (1000 - e_2.Loss)))).tdiv 1000)))))
  (ref09_Real_j23 N i_1 n))
  (some (.brk (n, i_1)))
def ref09_Real_b12 (N : Nat) (c_ : ref09_Compact) (flow : Int) (out : List Int) (s_1 : Int) : Option (Step ((List Int) × Int) ((List Int) × Int)) :=
  cond (decide (s_1 < c_.States))
  (Option.bind (loopO (fun s20 => ref09_Real_b20 N c_ flow s_1 s20.1 s20.2) N (0, 0)) fun x20 =>
  exK x20 (fun s20 => Option.bind (room ((out ++ [s20.1])).length) fun un =>
  some (.cont ((out ++ [s20.1]), W (s_1 + 1)))) some)
  (some (.brk (out, s_1)))
def ref09_Real (N : Nat) (c_ : ref09_Compact) (flow : Int) : Option ((List Int) × Int) :=
  Option.bind (ref09_Check N c_) fun r =>
  cond (r != 0)
  (some (([] : List Int), r))
  (cond (ref09_outside flow 0 1000000000)
  (some (([] : List Int), 4))
  (Option.bind (loopO (fun s12 => ref09_Real_b12 N c_ flow s12.1 s12.2) N (([] : List Int), 0)) fun x12 =>
  exK x12 (fun s12 => some (s12.1, 0)) some))
theorem ref09_Real_ok {N : Nat} {G : Pers} {Lf : List Ent} {w : World} (c_ : ref09_Compact) (flow : Int) {c__Rights_p : Option Addr} {c__Rights_c : Nat} (h_c__Rights : Rd G 3 c__Rights_p c__Rights_c (c_.Rights.map enc_ref09_Right)) (hc : Ctx G (Lf) w) {res : (List Int) × Int} (hF : ref09_Real N c_ flow = some res) : Calls Try.prog 19 #[.agg #[.int .i64 c_.States, .slice c__Rights_p c_.Rights.length c__Rights_c], .int .i64 flow] w (fun e w => ∃ (p'1 : Option Addr) (c'1 : Nat), e = .returned (.tuple #[.slice p'1 res.1.length c'1, .int .i64 res.2]) ∧ Ctx G (.row p'1 c'1 (res.1.map encI_i64) 3 1 :: Lf) w) := by
  unfold ref09_Real at hF
  refine fnIn (args := [.agg #[.int .i64 c_.States, .slice c__Rights_p c_.Rights.length c__Rights_c], .int .i64 flow]) Try.func19 rfl Try.ntmps19 rfl fun a hf => ?_
  refine wp_seq_k fun K1 h1 => ?_
  refine cReg ?_
  refine stBx (cs := [.int .i64 c_.States, .slice c__Rights_p c_.Rights.length c__Rights_c]) hf hc rfl rfl rfl rfl fun b_1 a w hf hc => ?_
  refine stP hf rfl rfl rfl (pA rfl) fun a hf => ?_
  refine stP hf rfl rfl rfl (pA rfl) fun a hf => ?_
  refine cNil ?_
  refine h1 _ _ ?_
  refine wp_seq_k fun K2 h2 => ?_
  refine wp_seq_k fun K3 h3 => ?_
  refine cReg ?_
  refine stE hf hc rfl rfl rfl (eLdN (vs := [.int .i64 c_.States, .slice c__Rights_p c_.Rights.length c__Rights_c]) ag_34 rfl rfl (cells_box (n := 2) m0 rfl)) fun a w hf hc => ?_
  obtain ⟨r, hr, hF⟩ := bnd_some hF
  refine stE hf hc rfl rfl rfl (eC (v := .int .i64 r) (vs := [.agg #[.int .i64 c_.States, .slice c__Rights_p c_.Rights.length c__Rights_c]]) (caps := []) en_16 rfl rfl rfl rfl (fun w hc => ref09_Check_ok c_ h_c__Rights hc hr)) fun a w hf hc => ?_
  refine stP hf rfl rfl rfl (pA rfl) fun a hf => ?_
  refine cNil ?_
  refine h3 _ _ ?_
  refine wp_seq_k fun K4 h4 => ?_
  refine cReg ?_
  refine stP hf rfl rfl rfl (pM rfl) fun a hf => ?_
  refine stP hf rfl rfl rfl (pNe rfl rfl) fun a hf => ?_
  refine cNil ?_
  refine h4 _ _ ?_
  refine cCond (b := (r != 0)) hf rfl (fun hb => ?_) (fun hb => ?_)
  · replace hF := condT hb hF
    clear hb
    refine wp_seq_k fun K5 h5 => ?_
    refine cReg ?_
    refine stP hf rfl rfl rfl (pM rfl) fun a hf => ?_
    refine stP hf rfl rfl rfl (pA rfl) fun a hf => ?_
    refine stP hf rfl rfl rfl (pA rfl) fun a hf => ?_
    refine cNil ?_
    refine h5 _ _ ?_
    refine wp_ret ?_
    refine xThenR ?_
    obtain rfl := Option.some.inj hF
    replace hc := hc.nilRow 3 1
    replace hc := hc.drop k1
    exact fnOut2 (by simp) rfl Try.results19 hf hc (show look _ 4 = _ from rfl) (show look _ 5 = _ from rfl) ⟨none, 0, rfl, hc⟩
  · replace hF := condF hb hF
    clear hb
    refine wp_skip ?_
    refine h2 _ _ ?_
    refine wp_seq_k fun K6 h6 => ?_
    refine wp_seq_k fun K7 h7 => ?_
    refine cReg ?_
    refine stP hf rfl rfl rfl (pM rfl) fun a hf => ?_
    refine stE hf hc rfl rfl rfl (eC (v := .bool (ref09_outside flow 0 1000000000)) (vs := [.int .i64 flow, .int .i64 0, .int .i64 1000000000]) (caps := []) en_74 rfl rfl rfl rfl (fun w hc => ref09_outside_ok flow 0 1000000000 hc rfl)) fun a w hf hc => ?_
    refine cNil ?_
    refine h7 _ _ ?_
    refine cCond (b := (ref09_outside flow 0 1000000000)) hf rfl (fun hb => ?_) (fun hb => ?_)
    · replace hF := condT hb hF
      clear hb
      refine wp_seq_k fun K8 h8 => ?_
      refine cReg ?_
      refine stP hf rfl rfl rfl (pA rfl) fun a hf => ?_
      refine stP hf rfl rfl rfl (pA rfl) fun a hf => ?_
      refine cNil ?_
      refine h8 _ _ ?_
      refine wp_ret ?_
      refine xThenR ?_
      obtain rfl := Option.some.inj hF
      replace hc := hc.nilRow 3 1
      replace hc := hc.drop k1
      exact fnOut2 (by simp) rfl Try.results19 hf hc (show look _ 4 = _ from rfl) (show look _ 5 = _ from rfl) ⟨none, 0, rfl, hc⟩
    · replace hF := condF hb hF
      clear hb
      refine wp_skip ?_
      refine h6 _ _ ?_
      refine wp_seq_k fun K9 h9 => ?_
      refine cReg ?_
      refine stP hf rfl rfl rfl (pA rfl) fun a hf => ?_
      refine cNil ?_
      refine h9 _ _ ?_
      refine wp_seq_k fun K10 h10 => ?_
      refine wp_seq_k fun K11 h11 => ?_
      refine cReg ?_
      refine stP hf rfl rfl rfl (pA rfl) fun a hf => ?_
      refine cNil ?_
      refine h11 _ _ ?_
      refine wp_block ?_
      obtain ⟨x12, hx12, hF⟩ := bnd_some hF
      let S12 : ((List Int) × Int) → Act → World → Prop := (fun (zz : (List Int) × Int) a w => ∃ (p_1 : Option Addr) (c_1 : Nat), Has 59 a [(1, .int .i64 flow), (2, .pointer (some ⟨b_1, 0, none⟩)), (7, .slice p_1 zz.1.length c_1), (8, .int .i64 zz.2)] ∧ Ctx G (.row p_1 c_1 (zz.1.map encI_i64) 3 1 :: .box b_1 [.int .i64 c_.States, .slice c__Rights_p c_.Rights.length c__Rights_c] 34 :: Lf) w)
      have hr12 : ∀ (zz : (List Int) × Int) a w, x12 = .go zz → S12 zz a w → K10 a w := by
        rintro ⟨out, s_1⟩ a w rfl ⟨p_1, c_1, hf, hc⟩
        replace hF : _ = some res := hF
        refine h10 _ _ ?_
        refine wp_seq_k fun K13 h13 => ?_
        refine cReg ?_
        refine stP hf rfl rfl rfl (pM rfl) fun a hf => ?_
        refine stP hf rfl rfl rfl (pA rfl) fun a hf => ?_
        refine stP hf rfl rfl rfl (pA rfl) fun a hf => ?_
        refine cNil ?_
        refine h13 _ _ ?_
        refine wp_ret ?_
        obtain rfl := Option.some.inj hF
        replace hc := hc.drop k1
        exact fnOut2 (by simp) rfl Try.results19 hf hc (show look _ 4 = _ from rfl) (show look _ 5 = _ from rfl) ⟨p_1, c_1, rfl, hc⟩
      have ho12 : ∀ r, x12 = .out r → r = res := by
        rintro r rfl
        exact Option.some.inj hF
      replace hc := hc.nilRow 3 1
      refine cLoop N (loopW (S := S12) (x := x12) ?_ N (([] : List Int), 0) _ _ ⟨none, 0, hf.keep ⟨rfl, rfl, rfl, rfl, trivial⟩, hc⟩ hx12)
      clear hF hf hc
      rintro ⟨out, s_1⟩ st12 a w KB12 ⟨p_1, c_1, hf, hc⟩ hF hfin12 hK12
      unfold ref09_Real_b12 at hF
      refine wp_seq_k fun K14 h14 => ?_
      refine wp_seq_k fun K15 h15 => ?_
      refine cReg ?_
      refine stP hf rfl rfl rfl (pM rfl) fun a hf => ?_
      refine stP hf rfl rfl rfl (pFA fa_34_0 rfl) fun a hf => ?_
      refine stE hf hc rfl rfl rfl (eLd1 sc_3 rfl (cell_box m1 rfl)) fun a w hf hc => ?_
      refine stP hf rfl rfl rfl (pLt rfl rfl) fun a hf => ?_
      refine cNil ?_
      refine h15 _ _ ?_
      refine cCond (b := (decide (s_1 < c_.States))) hf rfl (fun hb => ?_) (fun hb => ?_)
      · replace hF := condT hb hF
        clear hb
        refine wp_skip ?_
        refine h14 _ _ ?_
        refine wp_seq_k fun K16 h16 => ?_
        refine wp_block ?_
        refine wp_seq_k fun K17 h17 => ?_
        refine cReg ?_
        refine stP hf rfl rfl rfl (pA rfl) fun a hf => ?_
        refine cNil ?_
        refine h17 _ _ ?_
        refine wp_seq_k fun K18 h18 => ?_
        refine wp_seq_k fun K19 h19 => ?_
        refine cReg ?_
        refine stP hf rfl rfl rfl (pA rfl) fun a hf => ?_
        refine cNil ?_
        refine h19 _ _ ?_
        refine wp_block ?_
        obtain ⟨x20, hx20, hF⟩ := bnd_some hF
        let S20 : (Int × Int) → Act → World → Prop := (fun (zz : Int × Int) a w => Has 59 a [(1, .int .i64 flow), (2, .pointer (some ⟨b_1, 0, none⟩)), (7, .slice p_1 out.length c_1), (8, .int .i64 s_1), (9, .int .i64 zz.1), (10, .int .i64 zz.2)] ∧ Ctx G (.row p_1 c_1 (out.map encI_i64) 3 1 :: .box b_1 [.int .i64 c_.States, .slice c__Rights_p c_.Rights.length c__Rights_c] 34 :: Lf) w)
        have hr20 : ∀ (zz : Int × Int) a w, x20 = .go zz → S20 zz a w → K18 a w := by
          rintro ⟨n, i_1⟩ a w rfl ⟨hf, hc⟩
          replace hF : _ = some st12 := hF
          refine h18 _ _ ?_
          refine cReg ?_
          refine stP hf rfl rfl rfl (pM rfl) fun a hf => ?_
          refine stP hf rfl rfl rfl (pM rfl) fun a hf => ?_
          refine stBS (rows := ([n] : List Int).map encI_i64) (vs := [(0, .int .i64 n)]) hf hc rfl rfl sl_36 rfl ⟨rfl, rfl, rfl, trivial⟩ rfl rfl fun b_2 a w hf hc => ?_
          obtain ⟨un, hun, hF⟩ := bnd_some hF
          refine stApm (xs := out) (ys := ([n] : List Int)) hf hc rfl rfl sl_36 rfl rfl rfl rfl rfl one_encI_i64 (src_row hc m0) (fun _ _ => u1) (by simpa using room_spec hun) fun p_2 c_2 a w hf hc => ?_
          refine stP hf rfl rfl rfl (pA rfl) fun a hf => ?_
          refine cNil ?_
          refine h16 _ _ ?_
          refine cReg ?_
          refine stP hf rfl rfl rfl (pM rfl) fun a hf => ?_
          refine stP hf rfl rfl rfl (pAdd rfl rfl) fun a hf => ?_
          refine stP hf rfl rfl rfl (pA rfl) fun a hf => ?_
          refine cNil ?_
          replace hc := hc.drop k0
          exact hK12 ((out ++ [n]), W (s_1 + 1)) _ _ (Option.some.inj hF).symm ⟨p_2, c_2, hf.keep ⟨rfl, rfl, rfl, rfl, trivial⟩, hc⟩
        have ho20 : ∀ r, x20 = .out r → r = st12 := by
          rintro r rfl
          exact Option.some.inj hF
        refine cLoop N (loopW (S := S20) (x := x20) ?_ N (0, 0) _ _ ⟨hf.keep ⟨rfl, rfl, rfl, rfl, rfl, rfl, trivial⟩, hc⟩ hx20)
        clear hF hf hc
        rintro ⟨n, i_1⟩ st20 a w KB20 ⟨hf, hc⟩ hF hfin20 hK20
        unfold ref09_Real_b20 at hF
        refine wp_seq_k fun K21 h21 => ?_
        refine wp_seq_k fun K22 h22 => ?_
        refine cReg ?_
        refine stP hf rfl rfl rfl (pM rfl) fun a hf => ?_
        refine stP hf rfl rfl rfl (pFA fa_34_1 rfl) fun a hf => ?_
        refine stE hf hc rfl rfl rfl (eLd1 sc_32 rfl (cell_box m1 rfl)) fun a w hf hc => ?_
        refine stP hf rfl rfl rfl (pLenS Try.underlying32 rfl) fun a hf => ?_
        refine stP hf rfl rfl rfl (pLt rfl rfl) fun a hf => ?_
        refine cNil ?_
        refine h22 _ _ ?_
        refine cCond (b := (decide (i_1 < ((c_.Rights.length : Nat) : Int)))) hf rfl (fun hb => ?_) (fun hb => ?_)
        · replace hF := condT hb hF
          clear hb
          refine wp_skip ?_
          refine h21 _ _ ?_
          refine wp_seq_k fun K23 h23 => ?_
          have hj23 : ∀ (n_1 : Int) a w, Has 59 a [(1, .int .i64 flow), (2, .pointer (some ⟨b_1, 0, none⟩)), (7, .slice p_1 out.length c_1), (8, .int .i64 s_1), (9, .int .i64 n_1), (10, .int .i64 i_1)] → Ctx G (.row p_1 c_1 (out.map encI_i64) 3 1 :: .box b_1 [.int .i64 c_.States, .slice c__Rights_p c_.Rights.length c__Rights_c] 34 :: Lf) w → ref09_Real_j23 N i_1 n_1 = some st20 → K23 a w := by
            intro n_1 a w hf hc hF
            unfold ref09_Real_j23 at hF
            refine h23 _ _ ?_
            refine cReg ?_
            refine stP hf rfl rfl rfl (pM rfl) fun a hf => ?_
            refine stP hf rfl rfl rfl (pAdd rfl rfl) fun a hf => ?_
            refine stP hf rfl rfl rfl (pA rfl) fun a hf => ?_
            refine cNil ?_
            exact hK20 (n_1, W (i_1 + 1)) _ _ (Option.some.inj hF).symm ⟨hf.keep ⟨rfl, rfl, rfl, rfl, rfl, rfl, trivial⟩, hc⟩
          refine wp_block ?_
          refine wp_seq_k fun K24 h24 => ?_
          refine cReg ?_
          refine stP hf rfl rfl rfl (pFA fa_34_1 rfl) fun a hf => ?_
          refine stE hf hc rfl rfl rfl (eLd1 sc_32 rfl (cell_box m1 rfl)) fun a w hf hc => ?_
          refine stP hf rfl rfl rfl (pM rfl) fun a hf => ?_
          obtain ⟨e_1, he_1, hF⟩ := bnd_some hF
          obtain ⟨b_3, o, qa, qp⟩ := h_c__Rights.atm he_1
          refine stP hf rfl rfl rfl (pIA Try.underlying32 sz_148 rfl rfl qa) fun a hf => ?_
          refine stP hf rfl rfl rfl (pFA fa_148_0 rfl) fun a hf => ?_
          refine stE hf hc rfl rfl rfl (eLd1 sc_3 rfl (cell_pc (j := 0) qp rfl)) fun a w hf hc => ?_
          refine stP hf rfl rfl rfl (pM rfl) fun a hf => ?_
          refine stP hf rfl rfl rfl (pEq rfl rfl) fun a hf => ?_
          refine cNil ?_
          refine h24 _ _ ?_
          refine cCond (b := (e_1.State == s_1)) hf rfl (fun hb => ?_) (fun hb => ?_)
          · replace hF := condT hb hF
            clear hb
            obtain ⟨r_1, hr_1, hF⟩ := bnd_some hF
            obtain ⟨e_2, he_2, hF⟩ := bnd_some hF
            obtain ⟨b_4, o_1, qa_1, qp_1⟩ := h_c__Rights.atm he_2
            refine cQ hc follows_mx (by kernel_rfl) ?_
            refine qE hf rfl rfl rfl (Pu.ev (pM rfl)) fun a hf => ?_
            refine qE hf rfl rfl rfl (eLdN (vs := [.int .i64 c_.States, .slice c__Rights_p c_.Rights.length c__Rights_c]) ag_34 rfl rfl (cells_box (n := 2) m1 rfl)) fun a hf => ?_
            refine qE hf rfl rfl rfl (Pu.ev (pM rfl)) fun a hf => ?_
            refine qE hf rfl rfl rfl (Pu.ev (pM rfl)) fun a hf => ?_
            refine qE hf rfl rfl rfl (eC (v := .int .i64 r_1) (vs := [.agg #[.int .i64 c_.States, .slice c__Rights_p c_.Rights.length c__Rights_c], .int .i64 flow, .int .i64 i_1]) (caps := []) en_76 rfl rfl rfl rfl (fun w hc => ref09_takes_ok c_ flow i_1 h_c__Rights hc hr_1)) fun a hf => ?_
            refine qE hf rfl rfl rfl (Pu.ev (pFA fa_34_1 rfl)) fun a hf => ?_
            refine qE hf rfl rfl rfl (eLd1 sc_32 rfl (cell_box m1 rfl)) fun a hf => ?_
            refine qE hf rfl rfl rfl (Pu.ev (pM rfl)) fun a hf => ?_
            refine qE hf rfl rfl rfl (Pu.ev (pIA Try.underlying32 sz_148 rfl rfl qa_1)) fun a hf => ?_
            refine qE hf rfl rfl rfl (Pu.ev (pFA fa_148_2 rfl)) fun a hf => ?_
            refine qE hf rfl rfl rfl (eLd1 sc_3 rfl (cell_pc (j := 2) qp_1 rfl)) fun a hf => ?_
            refine qE hf rfl rfl rfl (Pu.ev (pSub rfl rfl)) fun a hf => ?_
            refine qE hf rfl rfl rfl (Pu.ev (pMul rfl rfl)) fun a hf => ?_
            refine qE hf rfl rfl rfl (Pu.ev (pQuo rfl rfl (by decide))) fun a hf => ?_
            refine qE hf rfl rfl rfl (Pu.ev (pAdd rfl rfl)) fun a hf => ?_
            refine qE hf rfl rfl rfl (Pu.ev (pA rfl)) fun a hf => ?_
            intro w hc
            exact hj23 (W (n + (W ((W (r_1 * (W (1000 - e_2.Loss)))).tdiv 1000)))) _ _  (hf.keep ⟨rfl, rfl, rfl, rfl, rfl, rfl, trivial⟩) hc hF
          · replace hF := condF hb hF
            clear hb
            refine wp_skip ?_
            exact hj23 n _ _  (hf.keep ⟨rfl, rfl, rfl, rfl, rfl, rfl, trivial⟩) hc hF
        · replace hF := condF hb hF
          clear hb
          refine wp_exit ?_
          refine xThen ?_
          refine xThen ?_
          have he := Option.some.inj hF
          rw [← he] at hfin20
          refine cHit ?_
          exact hr20 _ _ _ hfin20 ⟨hf.keep ⟨rfl, rfl, rfl, rfl, rfl, rfl, trivial⟩, hc⟩
      · replace hF := condF hb hF
        clear hb
        refine wp_exit ?_
        refine xThen ?_
        refine xThen ?_
        have he := Option.some.inj hF
        rw [← he] at hfin12
        refine cHit ?_
        exact hr12 _ _ _ hfin12 ⟨p_1, c_1, hf.keep ⟨rfl, rfl, rfl, rfl, trivial⟩, hc⟩

def ref09_wrong (s_ : api_Span) (a_ : Int) (b_ : Int) : Bool :=
  (((decide (s_.Lo < a_)) || (decide (b_ < s_.Hi))) || (decide (s_.Hi < s_.Lo)))
theorem ref09_wrong_ok {G : Pers} {Lf : List Ent} {w : World} (s_ : api_Span) (a_ : Int) (b_ : Int)   (hc : Ctx G (Lf) w) {res : Bool} (hF : ref09_wrong s_ a_ b_ = res) : Calls Try.prog 78 #[.agg #[.int .i64 s_.Lo, .int .i64 s_.Hi], .int .i64 a_, .int .i64 b_] w (fun e w => e = .returned (.bool res) ∧ Ctx G (Lf) w) := by
  unfold ref09_wrong at hF
  refine fnIn (args := [.agg #[.int .i64 s_.Lo, .int .i64 s_.Hi], .int .i64 a_, .int .i64 b_]) Try.func78 rfl Try.ntmps78 rfl fun a hf => ?_
  refine wp_seq_k fun K1 h1 => ?_
  refine cReg ?_
  refine stBx (cs := [.int .i64 s_.Lo, .int .i64 s_.Hi]) hf hc rfl rfl rfl rfl fun b_1 a w hf hc => ?_
  refine stP hf rfl rfl rfl (pA rfl) fun a hf => ?_
  refine cNil ?_
  refine h1 _ _ ?_
  refine wp_seq_k fun K2 h2 => ?_
  refine cReg ?_
  refine stP hf rfl rfl rfl (pFA fa_26_0 rfl) fun a hf => ?_
  refine stE hf hc rfl rfl rfl (eLd1 sc_3 rfl (cell_box m0 rfl)) fun a w hf hc => ?_
  refine stP hf rfl rfl rfl (pM rfl) fun a hf => ?_
  refine stP hf rfl rfl rfl (pLt rfl rfl) fun a hf => ?_
  refine stP hf rfl rfl rfl (pM rfl) fun a hf => ?_
  refine stCut 5 (fun a w => Has 24 a [(1, .int .i64 a_), (2, .int .i64 b_), (3, .pointer (some ⟨b_1, 0, none⟩)), (6, .bool false), (7, .pointer (some ⟨b_1, 0, none⟩)), (8, .int .i64 s_.Lo), (9, .int .i64 a_), (10, .bool (decide (s_.Lo < a_))), (11, .bool (decide (s_.Lo < a_))), (16, .bool ((decide (s_.Lo < a_)) || (decide (b_ < s_.Hi))))] ∧ Ctx G (.box b_1 [.int .i64 s_.Lo, .int .i64 s_.Hi] 26 :: Lf) w) ?_ ?_
  · cases hb : (decide (s_.Lo < a_))
    · rw [hb] at hf
      refine stP hf rfl rfl rfl (pFA fa_26_1 rfl) fun a hf => ?_
      refine stE hf hc rfl rfl rfl (eLd1 sc_3 rfl (cell_box m0 rfl)) fun a w hf hc => ?_
      refine stP hf rfl rfl rfl (pM rfl) fun a hf => ?_
      refine stP hf rfl rfl rfl (pGt rfl rfl) fun a hf => ?_
      refine stP hf rfl rfl rfl (pPf rfl rfl) fun a hf => ?_
      exact cNil ⟨hf.keep ⟨rfl, rfl, rfl, rfl, rfl, rfl, rfl, rfl, rfl, rfl, trivial⟩, hc⟩
    · rw [hb] at hf
      refine stS hf rfl rfl rfl fun a hf => ?_
      refine stS hf rfl rfl rfl fun a hf => ?_
      refine stS hf rfl rfl rfl fun a hf => ?_
      refine stS hf rfl rfl rfl fun a hf => ?_
      refine stP hf rfl rfl rfl (pPt rfl rfl) fun a hf => ?_
      exact cNil ⟨hf.keep ⟨rfl, rfl, rfl, rfl, rfl, rfl, rfl, rfl, rfl, rfl, trivial⟩, hc⟩
  intro a w ⟨hf, hc⟩
  refine stP hf rfl rfl rfl (pM rfl) fun a hf => ?_
  refine stCut 6 (fun a w => Has 24 a [(1, .int .i64 a_), (2, .int .i64 b_), (3, .pointer (some ⟨b_1, 0, none⟩)), (6, .bool false), (7, .pointer (some ⟨b_1, 0, none⟩)), (8, .int .i64 s_.Lo), (9, .int .i64 a_), (10, .bool (decide (s_.Lo < a_))), (11, .bool (decide (s_.Lo < a_))), (16, .bool ((decide (s_.Lo < a_)) || (decide (b_ < s_.Hi)))), (17, .bool ((decide (s_.Lo < a_)) || (decide (b_ < s_.Hi)))), (23, .bool (((decide (s_.Lo < a_)) || (decide (b_ < s_.Hi))) || (decide (s_.Hi < s_.Lo))))] ∧ Ctx G (.box b_1 [.int .i64 s_.Lo, .int .i64 s_.Hi] 26 :: Lf) w) ?_ ?_
  · cases hb : ((decide (s_.Lo < a_)) || (decide (b_ < s_.Hi)))
    · rw [hb] at hf
      refine stP hf rfl rfl rfl (pFA fa_26_0 rfl) fun a hf => ?_
      refine stE hf hc rfl rfl rfl (eLd1 sc_3 rfl (cell_box m0 rfl)) fun a w hf hc => ?_
      refine stP hf rfl rfl rfl (pFA fa_26_1 rfl) fun a hf => ?_
      refine stE hf hc rfl rfl rfl (eLd1 sc_3 rfl (cell_box m0 rfl)) fun a w hf hc => ?_
      refine stP hf rfl rfl rfl (pGt rfl rfl) fun a hf => ?_
      refine stP hf rfl rfl rfl (pPf rfl rfl) fun a hf => ?_
      exact cNil ⟨hf.keep ⟨rfl, rfl, rfl, rfl, rfl, rfl, rfl, rfl, rfl, rfl, rfl, rfl, trivial⟩, hc⟩
    · rw [hb] at hf
      refine stS hf rfl rfl rfl fun a hf => ?_
      refine stS hf rfl rfl rfl fun a hf => ?_
      refine stS hf rfl rfl rfl fun a hf => ?_
      refine stS hf rfl rfl rfl fun a hf => ?_
      refine stS hf rfl rfl rfl fun a hf => ?_
      refine stP hf rfl rfl rfl (pPt rfl rfl) fun a hf => ?_
      exact cNil ⟨hf.keep ⟨rfl, rfl, rfl, rfl, rfl, rfl, rfl, rfl, rfl, rfl, rfl, rfl, trivial⟩, hc⟩
  intro a w ⟨hf, hc⟩
  refine stP hf rfl rfl rfl (pA rfl) fun a hf => ?_
  refine cNil ?_
  refine h2 _ _ ?_
  refine wp_ret ?_
  obtain rfl := hF
  replace hc := hc.drop k0
  exact fnOut1 (by simp) rfl Try.results78 hf hc (show look _ 6 = _ from rfl) ⟨rfl, hc⟩

def ref09_Shares_b14 (N : Nat) (a_1 : List Int) (b_3 : List Int) (out : List api_Span) (s_1 : Int) : Option (Step ((List Int) × (List Int) × (List api_Span) × Int) ((List api_Span) × Int)) :=
  cond (decide (s_1 < ((a_1.length : Nat) : Int)))
  (Option.bind (getI a_1 s_1) fun e_1 =>
  Option.bind (getI b_3 s_1) fun e_2 =>
  Option.bind (room ((out ++ [(⟨e_1, e_2⟩ : api_Span)])).length) fun un =>
  some (.cont (a_1, b_3, (out ++ [(⟨e_1, e_2⟩ : api_Span)]), W (s_1 + 1))))
  (some (.brk (a_1, b_3, out, s_1)))
def ref09_Shares (N : Nat) (c_ : ref09_Compact) (flow : api_Span) : Option ((List api_Span) × Int) :=
  Option.bind (ref09_Check N c_) fun r =>
  cond (r != 0)
  (some (([] : List api_Span), r))
  (cond (ref09_wrong flow 0 1000000000)
  (some (([] : List api_Span), 4))
  (Option.bind (ref09_Real N c_ flow.Lo) fun r_1 =>
  Option.bind (ref09_Real N c_ flow.Hi) fun r_2 =>
  Option.bind (loopO (fun s14 => ref09_Shares_b14 N s14.1 s14.2.1 s14.2.2.1 s14.2.2.2) N (r_1.1, r_2.1, ([] : List api_Span), 0)) fun x14 =>
  exK x14 (fun s14 => some (s14.2.2.1, 0)) some))
theorem ref09_Shares_ok {N : Nat} {G : Pers} {Lf : List Ent} {w : World} (c_ : ref09_Compact) (flow : api_Span) {c__Rights_p : Option Addr} {c__Rights_c : Nat} (h_c__Rights : Rd G 3 c__Rights_p c__Rights_c (c_.Rights.map enc_ref09_Right)) (hc : Ctx G (Lf) w) {res : (List api_Span) × Int} (hF : ref09_Shares N c_ flow = some res) : Calls Try.prog 22 #[.agg #[.int .i64 c_.States, .slice c__Rights_p c_.Rights.length c__Rights_c], .agg #[.int .i64 flow.Lo, .int .i64 flow.Hi]] w (fun e w => ∃ (p'1 : Option Addr) (c'1 : Nat), e = .returned (.tuple #[.slice p'1 res.1.length c'1, .int .i64 res.2]) ∧ Ctx G (.row p'1 c'1 (res.1.map enc_api_Span) 26 2 :: Lf) w) := by
  unfold ref09_Shares at hF
  refine fnIn (args := [.agg #[.int .i64 c_.States, .slice c__Rights_p c_.Rights.length c__Rights_c], .agg #[.int .i64 flow.Lo, .int .i64 flow.Hi]]) Try.func22 rfl Try.ntmps22 rfl fun a hf => ?_
  refine wp_seq_k fun K1 h1 => ?_
  refine cReg ?_
  refine stBx (cs := [.int .i64 c_.States, .slice c__Rights_p c_.Rights.length c__Rights_c]) hf hc rfl rfl rfl rfl fun b_1 a w hf hc => ?_
  refine stBx (cs := [.int .i64 flow.Lo, .int .i64 flow.Hi]) hf hc rfl rfl rfl rfl fun b_2 a w hf hc => ?_
  refine stP hf rfl rfl rfl (pA rfl) fun a hf => ?_
  refine stP hf rfl rfl rfl (pA rfl) fun a hf => ?_
  refine cNil ?_
  refine h1 _ _ ?_
  refine wp_seq_k fun K2 h2 => ?_
  refine wp_seq_k fun K3 h3 => ?_
  refine cReg ?_
  refine stE hf hc rfl rfl rfl (eLdN (vs := [.int .i64 c_.States, .slice c__Rights_p c_.Rights.length c__Rights_c]) ag_34 rfl rfl (cells_box (n := 2) m1 rfl)) fun a w hf hc => ?_
  obtain ⟨r, hr, hF⟩ := bnd_some hF
  refine stE hf hc rfl rfl rfl (eC (v := .int .i64 r) (vs := [.agg #[.int .i64 c_.States, .slice c__Rights_p c_.Rights.length c__Rights_c]]) (caps := []) en_16 rfl rfl rfl rfl (fun w hc => ref09_Check_ok c_ h_c__Rights hc hr)) fun a w hf hc => ?_
  refine stP hf rfl rfl rfl (pA rfl) fun a hf => ?_
  refine cNil ?_
  refine h3 _ _ ?_
  refine wp_seq_k fun K4 h4 => ?_
  refine cReg ?_
  refine stP hf rfl rfl rfl (pM rfl) fun a hf => ?_
  refine stP hf rfl rfl rfl (pNe rfl rfl) fun a hf => ?_
  refine cNil ?_
  refine h4 _ _ ?_
  refine cCond (b := (r != 0)) hf rfl (fun hb => ?_) (fun hb => ?_)
  · replace hF := condT hb hF
    clear hb
    refine wp_seq_k fun K5 h5 => ?_
    refine cReg ?_
    refine stP hf rfl rfl rfl (pM rfl) fun a hf => ?_
    refine stP hf rfl rfl rfl (pA rfl) fun a hf => ?_
    refine stP hf rfl rfl rfl (pA rfl) fun a hf => ?_
    refine cNil ?_
    refine h5 _ _ ?_
    refine wp_ret ?_
    refine xThenR ?_
    obtain rfl := Option.some.inj hF
    replace hc := hc.nilRow 26 2
    replace hc := hc.drop k2
    replace hc := hc.drop k1
    exact fnOut2 (by simp) rfl Try.results22 hf hc (show look _ 4 = _ from rfl) (show look _ 5 = _ from rfl) ⟨none, 0, rfl, hc⟩
  · replace hF := condF hb hF
    clear hb
    refine wp_skip ?_
    refine h2 _ _ ?_
    refine wp_seq_k fun K6 h6 => ?_
    refine wp_seq_k fun K7 h7 => ?_
    refine cReg ?_
    refine stE hf hc rfl rfl rfl (eLdN (vs := [.int .i64 flow.Lo, .int .i64 flow.Hi]) ag_26 rfl rfl (cells_box (n := 2) m0 rfl)) fun a w hf hc => ?_
    refine stE hf hc rfl rfl rfl (eC (v := .bool (ref09_wrong flow 0 1000000000)) (vs := [.agg #[.int .i64 flow.Lo, .int .i64 flow.Hi], .int .i64 0, .int .i64 1000000000]) (caps := []) en_78 rfl rfl rfl rfl (fun w hc => ref09_wrong_ok flow 0 1000000000 hc rfl)) fun a w hf hc => ?_
    refine cNil ?_
    refine h7 _ _ ?_
    refine cCond (b := (ref09_wrong flow 0 1000000000)) hf rfl (fun hb => ?_) (fun hb => ?_)
    · replace hF := condT hb hF
      clear hb
      refine wp_seq_k fun K8 h8 => ?_
      refine cReg ?_
      refine stP hf rfl rfl rfl (pA rfl) fun a hf => ?_
      refine stP hf rfl rfl rfl (pA rfl) fun a hf => ?_
      refine cNil ?_
      refine h8 _ _ ?_
      refine wp_ret ?_
      refine xThenR ?_
      obtain rfl := Option.some.inj hF
      replace hc := hc.nilRow 26 2
      replace hc := hc.drop k2
      replace hc := hc.drop k1
      exact fnOut2 (by simp) rfl Try.results22 hf hc (show look _ 4 = _ from rfl) (show look _ 5 = _ from rfl) ⟨none, 0, rfl, hc⟩
    · replace hF := condF hb hF
      clear hb
      refine wp_skip ?_
      refine h6 _ _ ?_
      refine wp_seq_k fun K9 h9 => ?_
      refine cReg ?_
      refine stE hf hc rfl rfl rfl (eLdN (vs := [.int .i64 c_.States, .slice c__Rights_p c_.Rights.length c__Rights_c]) ag_34 rfl rfl (cells_box (n := 2) m1 rfl)) fun a w hf hc => ?_
      refine stP hf rfl rfl rfl (pFA fa_26_0 rfl) fun a hf => ?_
      refine stE hf hc rfl rfl rfl (eLd1 sc_3 rfl (cell_box m0 rfl)) fun a w hf hc => ?_
      obtain ⟨r_1, hr_1, hF⟩ := bnd_some hF
      refine stC (vs := [.agg #[.int .i64 c_.States, .slice c__Rights_p c_.Rights.length c__Rights_c], .int .i64 flow.Lo]) (caps := []) hf rfl rfl rfl en_19 rfl rfl rfl rfl (ref09_Real_ok c_ flow.Lo h_c__Rights hc hr_1) ?_
      rintro _ w ⟨p_1, c_1, rfl, hc⟩
      refine ⟨_, rfl, fun a hf => ?_⟩
      refine stP hf rfl rfl rfl (pM rfl) fun a hf => ?_
      refine stP hf rfl rfl rfl (pX rfl rfl) fun a hf => ?_
      refine stP hf rfl rfl rfl (pX rfl rfl) fun a hf => ?_
      refine stP hf rfl rfl rfl (pA rfl) fun a hf => ?_
      refine stP hf rfl rfl rfl (pA rfl) fun a hf => ?_
      refine cNil ?_
      refine h9 _ _ ?_
      refine wp_seq_k fun K10 h10 => ?_
      refine cReg ?_
      refine stE hf hc rfl rfl rfl (eLdN (vs := [.int .i64 c_.States, .slice c__Rights_p c_.Rights.length c__Rights_c]) ag_34 rfl rfl (cells_box (n := 2) m2 rfl)) fun a w hf hc => ?_
      refine stP hf rfl rfl rfl (pFA fa_26_1 rfl) fun a hf => ?_
      refine stE hf hc rfl rfl rfl (eLd1 sc_3 rfl (cell_box m1 rfl)) fun a w hf hc => ?_
      obtain ⟨r_2, hr_2, hF⟩ := bnd_some hF
      refine stC (vs := [.agg #[.int .i64 c_.States, .slice c__Rights_p c_.Rights.length c__Rights_c], .int .i64 flow.Hi]) (caps := []) hf rfl rfl rfl en_19 rfl rfl rfl rfl (ref09_Real_ok c_ flow.Hi h_c__Rights hc hr_2) ?_
      rintro _ w ⟨p_2, c_2, rfl, hc⟩
      refine ⟨_, rfl, fun a hf => ?_⟩
      refine stP hf rfl rfl rfl (pM rfl) fun a hf => ?_
      refine stP hf rfl rfl rfl (pX rfl rfl) fun a hf => ?_
      refine stP hf rfl rfl rfl (pX rfl rfl) fun a hf => ?_
      refine stP hf rfl rfl rfl (pA rfl) fun a hf => ?_
      refine stP hf rfl rfl rfl (pA rfl) fun a hf => ?_
      refine cNil ?_
      refine h10 _ _ ?_
      refine wp_seq_k fun K11 h11 => ?_
      refine cReg ?_
      refine stP hf rfl rfl rfl (pA rfl) fun a hf => ?_
      refine cNil ?_
      refine h11 _ _ ?_
      refine wp_seq_k fun K12 h12 => ?_
      refine wp_seq_k fun K13 h13 => ?_
      refine cReg ?_
      refine stP hf rfl rfl rfl (pA rfl) fun a hf => ?_
      refine cNil ?_
      refine h13 _ _ ?_
      refine wp_block ?_
      obtain ⟨x14, hx14, hF⟩ := bnd_some hF
      let S14 : ((List Int) × (List Int) × (List api_Span) × Int) → Act → World → Prop := (fun (zz : (List Int) × (List Int) × (List api_Span) × Int) a w => ∃ (p_3 : Option Addr) (c_3 : Nat) (p_4 : Option Addr) (c_4 : Nat) (p_5 : Option Addr) (c_5 : Nat), Has 53 a [(7, .slice p_3 zz.1.length c_3), (9, .slice p_4 zz.2.1.length c_4), (11, .slice p_5 zz.2.2.1.length c_5), (12, .int .i64 zz.2.2.2)] ∧ Ctx G (.row p_5 c_5 (zz.2.2.1.map enc_api_Span) 26 2 :: .row p_4 c_4 (zz.2.1.map encI_i64) 3 1 :: .row p_3 c_3 (zz.1.map encI_i64) 3 1 :: Lf) w)
      have hr14 : ∀ (zz : (List Int) × (List Int) × (List api_Span) × Int) a w, x14 = .go zz → S14 zz a w → K12 a w := by
        rintro ⟨a_1, b_3, out, s_1⟩ a w rfl ⟨p_3, c_3, p_4, c_4, p_5, c_5, hf, hc⟩
        replace hF : _ = some res := hF
        refine h12 _ _ ?_
        refine wp_seq_k fun K15 h15 => ?_
        refine cReg ?_
        refine stP hf rfl rfl rfl (pM rfl) fun a hf => ?_
        refine stP hf rfl rfl rfl (pA rfl) fun a hf => ?_
        refine stP hf rfl rfl rfl (pA rfl) fun a hf => ?_
        refine cNil ?_
        refine h15 _ _ ?_
        refine wp_ret ?_
        obtain rfl := Option.some.inj hF
        replace hc := hc.drop k2
        replace hc := hc.drop k1
        exact fnOut2 (by simp) rfl Try.results22 hf hc (show look _ 4 = _ from rfl) (show look _ 5 = _ from rfl) ⟨p_5, c_5, rfl, hc⟩
      have ho14 : ∀ r, x14 = .out r → r = res := by
        rintro r rfl
        exact Option.some.inj hF
      replace hc := hc.nilRow 26 2
      replace hc := hc.drop k4
      replace hc := hc.drop k3
      refine cLoop N (loopW (S := S14) (x := x14) ?_ N (r_1.1, r_2.1, ([] : List api_Span), 0) _ _ ⟨p_1, c_1, p_2, c_2, none, 0, hf.keep ⟨rfl, rfl, rfl, rfl, trivial⟩, hc⟩ hx14)
      clear hF hf hc
      rintro ⟨a_1, b_3, out, s_1⟩ st14 a w KB14 ⟨p_3, c_3, p_4, c_4, p_5, c_5, hf, hc⟩ hF hfin14 hK14
      unfold ref09_Shares_b14 at hF
      refine wp_seq_k fun K16 h16 => ?_
      refine wp_seq_k fun K17 h17 => ?_
      refine cReg ?_
      refine stP hf rfl rfl rfl (pM rfl) fun a hf => ?_
      refine stP hf rfl rfl rfl (pM rfl) fun a hf => ?_
      refine stP hf rfl rfl rfl (pLenS Try.underlying36 rfl) fun a hf => ?_
      refine stP hf rfl rfl rfl (pLt rfl rfl) fun a hf => ?_
      refine cNil ?_
      refine h17 _ _ ?_
      refine cCond (b := (decide (s_1 < ((a_1.length : Nat) : Int)))) hf rfl (fun hb => ?_) (fun hb => ?_)
      · replace hF := condT hb hF
        clear hb
        refine wp_skip ?_
        refine h16 _ _ ?_
        refine wp_seq_k fun K18 h18 => ?_
        refine wp_block ?_
        obtain ⟨e_1, he_1, hF⟩ := bnd_some hF
        obtain ⟨g, rfl, qa, qr⟩ := row_atm hc m2 he_1
        obtain ⟨e_2, he_2, hF⟩ := bnd_some hF
        obtain ⟨g_1, rfl, qa_1, qr_1⟩ := row_atm hc m1 he_2
        obtain ⟨un, hun, hF⟩ := bnd_some hF
        replace hc := hc.nilRow 0 0
        refine regionE (fun θ => [⟨none, none, 7, .slice (some ⟨g, 0, none⟩) a_1.length c_3⟩, ⟨none, none, 9, .slice (some ⟨g_1, 0, none⟩) b_3.length c_4⟩, ⟨none, some 12, 11, .slice p_5 out.length c_5⟩, ⟨none, none, 12, .int .i64 s_1⟩, ⟨some 0, none, 40, .slice p_5 out.length c_5⟩, ⟨some 1, none, 41, .slice (some ⟨g, 0, none⟩) a_1.length c_3⟩, ⟨some 2, none, 42, .int .i64 s_1⟩, ⟨some 3, none, 43, .pointer (some ⟨g, s_1.toNat * 1, none⟩)⟩, ⟨some 4, none, 44, .int .i64 e_1⟩, ⟨some 5, none, 45, .slice (some ⟨g_1, 0, none⟩) b_3.length c_4⟩, ⟨some 6, none, 46, .int .i64 s_1⟩, ⟨some 7, none, 47, .pointer (some ⟨g_1, s_1.toNat * 1, none⟩)⟩, ⟨some 8, none, 48, .int .i64 e_2⟩, ⟨some 9, none, 49, .agg #[.int .i64 e_1, .int .i64 e_2]⟩, ⟨some 10, none, 50, .slice (some ⟨(θ 80).b, 0, none⟩) 1 1⟩, ⟨some 11, none, 51, .slice ((θ 88).p) ((out ++ [(⟨e_1, e_2⟩ : api_Span)]).length) ((θ 88).c)⟩, ⟨some 12, none, 11, .slice ((θ 88).p) ((out ++ [(⟨e_1, e_2⟩ : api_Span)]).length) ((θ 88).c)⟩]) (fun E θ => (bif E 10 then .row (some ⟨(θ 80).b, 0, none⟩) 1 (([(⟨e_1, e_2⟩ : api_Span)] : List api_Span).map enc_api_Span) 26 2 else .row none 0 [] 0 0) :: (bif E 11 then .row ((θ 88).p) ((θ 88).c) ((out ++ [(⟨e_1, e_2⟩ : api_Span)]).map enc_api_Span) 26 2 else .row p_5 c_5 (out.map enc_api_Span) 26 2) :: .row (some ⟨g_1, 0, none⟩) c_4 (b_3.map encI_i64) 3 1 :: .row (some ⟨g, 0, none⟩) c_3 (a_1.map encI_i64) 3 1 :: Lf) [(12, 0), (12, 11)] (fun a w => ∃ (p_7 : Option Addr) (c_7 : Nat) (b_5 : Nat), Has 53 a [(7, .slice (some ⟨g, 0, none⟩) a_1.length c_3), (9, .slice (some ⟨g_1, 0, none⟩) b_3.length c_4), (12, .int .i64 s_1), (11, .slice p_7 ((out ++ [(⟨e_1, e_2⟩ : api_Span)]).length) c_7)] ∧ Ctx G (.row (some ⟨b_5, 0, none⟩) 1 (([(⟨e_1, e_2⟩ : api_Span)] : List api_Span).map enc_api_Span) 26 2 :: .row p_7 c_7 ((out ++ [(⟨e_1, e_2⟩ : api_Span)]).map enc_api_Span) 26 2 :: .row (some ⟨g_1, 0, none⟩) c_4 (b_3.map encI_i64) 3 1 :: .row (some ⟨g, 0, none⟩) c_3 (a_1.map encI_i64) 3 1 :: Lf) w) follows_mx (by kernel_rfl) (by kernel_rfl) (HasE.of hf ⟨rfl, rfl, rfl, rfl, trivial, trivial, trivial, trivial, trivial, trivial, trivial, trivial, trivial, trivial, trivial, trivial, trivial, trivial⟩) hc ⟨?_, ?_, ?_, ?_, ?_, ?_, ?_, ?_, ?_, ?_, ?_, ?_, ?_, trivial⟩ ?_ ?_
        · intro E θ a w hD hi hp he hc
          have e12 := hD.f 0 rfl hi
          have hf := he.h0
          replace hf := hf.more he 2 rfl (onN e12)
          refine stP hf rfl rfl rfl (pM rfl) fun a hf => ?_
          refine cNil ?_
          refine xThenN ?_
          intro ds u hau
          refine ⟨θ, he.put0 hi hau hf rfl 4 rfl rfl, ?_⟩
          exact hc
        · intro E θ a w hD hi hp he hc
          have hf := he.h0
          replace hf := hf.more he 0 rfl onT
          refine stP hf rfl rfl rfl (pM rfl) fun a hf => ?_
          refine cNil ?_
          refine xThenN ?_
          intro ds u hau
          refine ⟨θ, he.put0 hi hau hf rfl 5 rfl rfl, ?_⟩
          exact hc
        · intro E θ a w hD hi hp he hc
          have hf := he.h0
          replace hf := hf.more he 3 rfl onT
          refine stP hf rfl rfl rfl (pM rfl) fun a hf => ?_
          refine cNil ?_
          refine xThenN ?_
          intro ds u hau
          refine ⟨θ, he.put0 hi hau hf rfl 6 rfl rfl, ?_⟩
          exact hc
        · intro E θ a w hD hi hp he hc
          have e1 := hp.of (k := 1) rfl
          have e2 := hp.of (k := 2) rfl
          have hf := he.h0
          replace hf := hf.more he 5 rfl (onP e1)
          replace hf := hf.more he 6 rfl (onP e2)
          refine stP hf rfl rfl rfl (pIA Try.underlying36 sz_3 rfl rfl qa) fun a hf => ?_
          refine cNil ?_
          refine xThenN ?_
          intro ds u hau
          refine ⟨θ, he.put0 hi hau hf rfl 7 rfl rfl, ?_⟩
          exact hc
        · intro E θ a w hD hi hp he hc
          have e3 := hp.of (k := 3) rfl
          have hf := he.h0
          replace hf := hf.more he 7 rfl (onP e3)
          refine stE hf hc rfl rfl rfl (eLd1 sc_3 rfl (cell_row (sz := 1) (i := s_1.toNat) (j := 0) m3 qr rfl)) fun a w hf hc => ?_
          refine cNil ?_
          refine xThenN ?_
          intro ds u hau
          refine ⟨θ, he.put0 hi hau hf rfl 8 rfl rfl, ?_⟩
          exact hc
        · intro E θ a w hD hi hp he hc
          have hf := he.h0
          replace hf := hf.more he 1 rfl onT
          refine stP hf rfl rfl rfl (pM rfl) fun a hf => ?_
          refine cNil ?_
          refine xThenN ?_
          intro ds u hau
          refine ⟨θ, he.put0 hi hau hf rfl 9 rfl rfl, ?_⟩
          exact hc
        · intro E θ a w hD hi hp he hc
          have hf := he.h0
          replace hf := hf.more he 3 rfl onT
          refine stP hf rfl rfl rfl (pM rfl) fun a hf => ?_
          refine cNil ?_
          refine xThenN ?_
          intro ds u hau
          refine ⟨θ, he.put0 hi hau hf rfl 10 rfl rfl, ?_⟩
          exact hc
        · intro E θ a w hD hi hp he hc
          have e5 := hp.of (k := 5) rfl
          have e6 := hp.of (k := 6) rfl
          have hf := he.h0
          replace hf := hf.more he 9 rfl (onP e5)
          replace hf := hf.more he 10 rfl (onP e6)
          refine stP hf rfl rfl rfl (pIA Try.underlying36 sz_3 rfl rfl qa_1) fun a hf => ?_
          refine cNil ?_
          refine xThenN ?_
          intro ds u hau
          refine ⟨θ, he.put0 hi hau hf rfl 11 rfl rfl, ?_⟩
          exact hc
        · intro E θ a w hD hi hp he hc
          have e7 := hp.of (k := 7) rfl
          have hf := he.h0
          replace hf := hf.more he 11 rfl (onP e7)
          refine stE hf hc rfl rfl rfl (eLd1 sc_3 rfl (cell_row (sz := 1) (i := s_1.toNat) (j := 0) m2 qr_1 rfl)) fun a w hf hc => ?_
          refine cNil ?_
          refine xThenN ?_
          intro ds u hau
          refine ⟨θ, he.put0 hi hau hf rfl 12 rfl rfl, ?_⟩
          exact hc
        · intro E θ a w hD hi hp he hc
          have e4 := hp.of (k := 4) rfl
          have e8 := hp.of (k := 8) rfl
          have hf := he.h0
          replace hf := hf.more he 8 rfl (onP e4)
          replace hf := hf.more he 12 rfl (onP e8)
          refine stP hf rfl rfl rfl (pBuildS (cells := [.int .i64 e_1, .int .i64 e_2]) bt_26 rfl rfl) fun a hf => ?_
          refine cNil ?_
          refine xThenN ?_
          intro ds u hau
          refine ⟨θ, he.put0 hi hau hf rfl 13 rfl rfl, ?_⟩
          exact hc
        · intro E θ a w hD hi hp he hc
          have e9 := hp.of (k := 9) rfl
          try dsimp only at hc
          rw [hi] at hc
          have hf := he.h0
          replace hf := hf.more he 13 rfl (onP e9)
          refine stBS (rows := ([(⟨e_1, e_2⟩ : api_Span)] : List api_Span).map enc_api_Span) (vs := [(0, .agg #[.int .i64 e_1, .int .i64 e_2])]) hf hc rfl rfl sl_41 rfl ⟨rfl, rfl, rfl, trivial⟩ rfl rfl fun b_4 a w hf hc => ?_
          refine cNil ?_
          refine xThenN ?_
          intro ds u hau
          replace hc := hc.drop k1
          refine ⟨(setT θ 80 ⟨b_4, none, 0⟩), he.put hi hau hf rfl [] trivial ⟨qq, qq, qq, qq, qq, qq, qq, qq, qq, qq, qq, qq, qq, qq, qq, qq, qq, trivial⟩, ?_⟩
          try dsimp only
          rw [updE_self E 10]
          exact hc
        · intro E θ a w hD hi hp he hc
          have e0 := hp.of (k := 0) rfl
          have e10 := hp.of (k := 10) rfl
          have e12 := hD.f 1 rfl hi
          try dsimp only at hc
          rw [e10, hi] at hc
          have hf := he.h0
          replace hf := hf.more he 4 rfl (onP e0)
          replace hf := hf.more he 14 rfl (onP e10)
          refine stApm (xs := out) (ys := ([(⟨e_1, e_2⟩ : api_Span)] : List api_Span)) hf hc rfl rfl sl_41 rfl rfl rfl rfl rfl one_enc_api_Span (src_row hc m0) (fun _ _ => u1) (by simpa using room_spec hun) fun p_6 c_6 a w hf hc => ?_
          refine cNil ?_
          refine xThenN ?_
          intro ds u hau
          refine ⟨(setT θ 88 ⟨0, p_6, c_6⟩), he.put hi hau hf rfl [12] ⟨⟨e12, rfl⟩, trivial⟩ ⟨qq, qq, qq, qq, qq, qq, qq, qq, qq, qq, qq, qq, qq, qq, qq, qq, trivial, trivial⟩, ?_⟩
          try dsimp only
          rw [updE_tru 11 e10, updE_self E 11]
          exact hc
        · intro E θ a w hD hi hp he hc
          have e11 := hp.of (k := 11) rfl
          have hf := he.h0
          replace hf := hf.more he 15 rfl (onP e11)
          refine stP hf rfl rfl rfl (pA rfl) fun a hf => ?_
          refine cNil ?_
          refine xThenN ?_
          intro ds u hau
          refine ⟨θ, he.put0 hi hau hf rfl 16 rfl rfl, ?_⟩
          exact hc
        · intro E θ a w hall he hc
          have hf := he.h0
          have e10 := hall 10 rfl
          have e11 := hall 11 rfl
          have e12 := hall 12 rfl
          replace hf := hf.more he 16 rfl (onP e12)
          replace hf := hf.more he 3 rfl (onT)
          replace hf := hf.more he 1 rfl (onT)
          replace hf := hf.more he 0 rfl (onT)
          try dsimp only at hc
          rw [e10, e11] at hc
          exact ⟨(θ 88).p, (θ 88).c, (θ 80).b, hf.keep ⟨rfl, rfl, rfl, rfl, trivial⟩, hc⟩
        rintro a w ⟨p_7, c_7, b_5, hf, hc⟩
        refine h18 _ _ ?_
        refine cReg ?_
        refine stP hf rfl rfl rfl (pM rfl) fun a hf => ?_
        refine stP hf rfl rfl rfl (pAdd rfl rfl) fun a hf => ?_
        refine stP hf rfl rfl rfl (pA rfl) fun a hf => ?_
        refine cNil ?_
        replace hc := hc.drop k0
        exact hK14 (a_1, b_3, (out ++ [(⟨e_1, e_2⟩ : api_Span)]), W (s_1 + 1)) _ _ (Option.some.inj hF).symm ⟨(some ⟨g, 0, none⟩), c_3, (some ⟨g_1, 0, none⟩), c_4, p_7, c_7, hf.keep ⟨rfl, rfl, rfl, rfl, trivial⟩, hc⟩
      · replace hF := condF hb hF
        clear hb
        refine wp_exit ?_
        refine xThen ?_
        refine xThen ?_
        have he := Option.some.inj hF
        rw [← he] at hfin14
        refine cHit ?_
        exact hr14 _ _ _ hfin14 ⟨p_3, c_3, p_4, c_4, p_5, c_5, hf.keep ⟨rfl, rfl, rfl, rfl, trivial⟩, hc⟩

def ref09_Short_b8 (N : Nat) (c_ : ref09_Compact) (flow : Int) (i_1 : Int) : Option (Step (Int) (Int × Int)) :=
  cond (decide (i_1 < ((c_.Rights.length : Nat) : Int)))
  (Option.bind (ref09_takes N c_ flow i_1) fun r_1 =>
  Option.bind (getI c_.Rights i_1) fun e_1 =>
  cond (decide (r_1 < e_1.Amount))
  (some (.ret (i_1, 0)))
  (some (.cont (W (i_1 + 1)))))
  (some (.brk i_1))
def ref09_Short (N : Nat) (c_ : ref09_Compact) (flow : Int) : Option (Int × Int) :=
  Option.bind (ref09_Real N c_ flow) fun r =>
  cond (r.2 != 0)
  (some (0, r.2))
  (Option.bind (loopO (fun s8 => ref09_Short_b8 N c_ flow s8) N 0) fun x8 =>
  exK x8 (fun s8 => some ((-1), 0)) some)
theorem ref09_Short_ok {N : Nat} {G : Pers} {Lf : List Ent} {w : World} (c_ : ref09_Compact) (flow : Int) {c__Rights_p : Option Addr} {c__Rights_c : Nat} (h_c__Rights : Rd G 3 c__Rights_p c__Rights_c (c_.Rights.map enc_ref09_Right)) (hc : Ctx G (Lf) w) {res : Int × Int} (hF : ref09_Short N c_ flow = some res) : Calls Try.prog 25 #[.agg #[.int .i64 c_.States, .slice c__Rights_p c_.Rights.length c__Rights_c], .int .i64 flow] w (fun e w => e = .returned (.tuple #[.int .i64 res.1, .int .i64 res.2]) ∧ Ctx G (Lf) w) := by
  unfold ref09_Short at hF
  refine fnIn (args := [.agg #[.int .i64 c_.States, .slice c__Rights_p c_.Rights.length c__Rights_c], .int .i64 flow]) Try.func25 rfl Try.ntmps25 rfl fun a hf => ?_
  refine wp_seq_k fun K1 h1 => ?_
  refine cReg ?_
  refine stBx (cs := [.int .i64 c_.States, .slice c__Rights_p c_.Rights.length c__Rights_c]) hf hc rfl rfl rfl rfl fun b_1 a w hf hc => ?_
  refine stP hf rfl rfl rfl (pA rfl) fun a hf => ?_
  refine stP hf rfl rfl rfl (pA rfl) fun a hf => ?_
  refine cNil ?_
  refine h1 _ _ ?_
  refine wp_seq_k fun K2 h2 => ?_
  refine wp_seq_k fun K3 h3 => ?_
  refine cReg ?_
  refine stE hf hc rfl rfl rfl (eLdN (vs := [.int .i64 c_.States, .slice c__Rights_p c_.Rights.length c__Rights_c]) ag_34 rfl rfl (cells_box (n := 2) m0 rfl)) fun a w hf hc => ?_
  refine stP hf rfl rfl rfl (pM rfl) fun a hf => ?_
  obtain ⟨r, hr, hF⟩ := bnd_some hF
  refine stC (vs := [.agg #[.int .i64 c_.States, .slice c__Rights_p c_.Rights.length c__Rights_c], .int .i64 flow]) (caps := []) hf rfl rfl rfl en_19 rfl rfl rfl rfl (ref09_Real_ok c_ flow h_c__Rights hc hr) ?_
  rintro _ w ⟨p_1, c_1, rfl, hc⟩
  refine ⟨_, rfl, fun a hf => ?_⟩
  refine stP hf rfl rfl rfl (pM rfl) fun a hf => ?_
  refine stP hf rfl rfl rfl (pX rfl rfl) fun a hf => ?_
  refine stP hf rfl rfl rfl (pX rfl rfl) fun a hf => ?_
  refine stP hf rfl rfl rfl (pA rfl) fun a hf => ?_
  refine stP hf rfl rfl rfl (pA rfl) fun a hf => ?_
  refine cNil ?_
  refine h3 _ _ ?_
  refine wp_seq_k fun K4 h4 => ?_
  refine cReg ?_
  refine stP hf rfl rfl rfl (pM rfl) fun a hf => ?_
  refine stP hf rfl rfl rfl (pNe rfl rfl) fun a hf => ?_
  refine cNil ?_
  refine h4 _ _ ?_
  refine cCond (b := (r.2 != 0)) hf rfl (fun hb => ?_) (fun hb => ?_)
  · replace hF := condT hb hF
    clear hb
    refine wp_seq_k fun K5 h5 => ?_
    refine cReg ?_
    refine stP hf rfl rfl rfl (pM rfl) fun a hf => ?_
    refine stP hf rfl rfl rfl (pA rfl) fun a hf => ?_
    refine stP hf rfl rfl rfl (pA rfl) fun a hf => ?_
    refine cNil ?_
    refine h5 _ _ ?_
    refine wp_ret ?_
    refine xThenR ?_
    obtain rfl := Option.some.inj hF
    replace hc := hc.drop k1
    replace hc := hc.drop k0
    exact fnOut2 (by simp) rfl Try.results25 hf hc (show look _ 4 = _ from rfl) (show look _ 5 = _ from rfl) ⟨rfl, hc⟩
  · replace hF := condF hb hF
    clear hb
    refine wp_skip ?_
    refine h2 _ _ ?_
    refine wp_seq_k fun K6 h6 => ?_
    refine wp_seq_k fun K7 h7 => ?_
    refine cReg ?_
    refine stP hf rfl rfl rfl (pA rfl) fun a hf => ?_
    refine cNil ?_
    refine h7 _ _ ?_
    refine wp_block ?_
    obtain ⟨x8, hx8, hF⟩ := bnd_some hF
    let S8 : Int → Act → World → Prop := (fun (zz : Int) a w => Has 37 a [(1, .int .i64 flow), (2, .pointer (some ⟨b_1, 0, none⟩)), (8, .int .i64 zz)] ∧ Ctx G (.box b_1 [.int .i64 c_.States, .slice c__Rights_p c_.Rights.length c__Rights_c] 34 :: Lf) w)
    have hr8 : ∀ (zz : Int) a w, x8 = .go zz → S8 zz a w → K6 a w := by
      rintro i_1 a w rfl ⟨hf, hc⟩
      replace hF : _ = some res := hF
      refine h6 _ _ ?_
      refine wp_seq_k fun K9 h9 => ?_
      refine cReg ?_
      refine stP hf rfl rfl rfl (pA rfl) fun a hf => ?_
      refine stP hf rfl rfl rfl (pA rfl) fun a hf => ?_
      refine cNil ?_
      refine h9 _ _ ?_
      refine wp_ret ?_
      obtain rfl := Option.some.inj hF
      replace hc := hc.drop k0
      exact fnOut2 (by simp) rfl Try.results25 hf hc (show look _ 4 = _ from rfl) (show look _ 5 = _ from rfl) ⟨rfl, hc⟩
    have ho8 : ∀ r, x8 = .out r → r = res := by
      rintro r rfl
      exact Option.some.inj hF
    replace hc := hc.drop k0
    refine cLoop N (loopW (S := S8) (x := x8) ?_ N 0 _ _ ⟨hf.keep ⟨rfl, rfl, rfl, trivial⟩, hc⟩ hx8)
    clear hF hf hc
    rintro i_1 st8 a w KB8 ⟨hf, hc⟩ hF hfin8 hK8
    unfold ref09_Short_b8 at hF
    refine wp_seq_k fun K10 h10 => ?_
    refine wp_seq_k fun K11 h11 => ?_
    refine cReg ?_
    refine stP hf rfl rfl rfl (pM rfl) fun a hf => ?_
    refine stP hf rfl rfl rfl (pFA fa_34_1 rfl) fun a hf => ?_
    refine stE hf hc rfl rfl rfl (eLd1 sc_32 rfl (cell_box m0 rfl)) fun a w hf hc => ?_
    refine stP hf rfl rfl rfl (pLenS Try.underlying32 rfl) fun a hf => ?_
    refine stP hf rfl rfl rfl (pLt rfl rfl) fun a hf => ?_
    refine cNil ?_
    refine h11 _ _ ?_
    refine cCond (b := (decide (i_1 < ((c_.Rights.length : Nat) : Int)))) hf rfl (fun hb => ?_) (fun hb => ?_)
    · replace hF := condT hb hF
      clear hb
      refine wp_skip ?_
      refine h10 _ _ ?_
      refine wp_seq_k fun K12 h12 => ?_
      refine wp_block ?_
      refine wp_seq_k fun K13 h13 => ?_
      obtain ⟨r_1, hr_1, hF⟩ := bnd_some hF
      obtain ⟨e_1, he_1, hF⟩ := bnd_some hF
      obtain ⟨b_2, o, qa, qp⟩ := h_c__Rights.atm he_1
      refine cQ hc follows_mx (by kernel_rfl) ?_
      refine qE hf rfl rfl rfl (eLdN (vs := [.int .i64 c_.States, .slice c__Rights_p c_.Rights.length c__Rights_c]) ag_34 rfl rfl (cells_box (n := 2) m0 rfl)) fun a hf => ?_
      refine qE hf rfl rfl rfl (Pu.ev (pM rfl)) fun a hf => ?_
      refine qE hf rfl rfl rfl (Pu.ev (pM rfl)) fun a hf => ?_
      refine qE hf rfl rfl rfl (eC (v := .int .i64 r_1) (vs := [.agg #[.int .i64 c_.States, .slice c__Rights_p c_.Rights.length c__Rights_c], .int .i64 flow, .int .i64 i_1]) (caps := []) en_76 rfl rfl rfl rfl (fun w hc => ref09_takes_ok c_ flow i_1 h_c__Rights hc hr_1)) fun a hf => ?_
      refine qE hf rfl rfl rfl (Pu.ev (pFA fa_34_1 rfl)) fun a hf => ?_
      refine qE hf rfl rfl rfl (eLd1 sc_32 rfl (cell_box m0 rfl)) fun a hf => ?_
      refine qE hf rfl rfl rfl (Pu.ev (pM rfl)) fun a hf => ?_
      refine qE hf rfl rfl rfl (Pu.ev (pIA Try.underlying32 sz_148 rfl rfl qa)) fun a hf => ?_
      refine qE hf rfl rfl rfl (Pu.ev (pFA fa_148_1 rfl)) fun a hf => ?_
      refine qE hf rfl rfl rfl (eLd1 sc_3 rfl (cell_pc (j := 1) qp rfl)) fun a hf => ?_
      refine qE hf rfl rfl rfl (Pu.ev (pLt rfl rfl)) fun a hf => ?_
      intro w hc
      refine h13 _ _ ?_
      refine cCond (b := (decide (r_1 < e_1.Amount))) hf rfl (fun hb => ?_) (fun hb => ?_)
      · replace hF := condT hb hF
        clear hb
        refine wp_seq_k fun K14 h14 => ?_
        refine cReg ?_
        refine stP hf rfl rfl rfl (pM rfl) fun a hf => ?_
        refine stP hf rfl rfl rfl (pA rfl) fun a hf => ?_
        refine stP hf rfl rfl rfl (pA rfl) fun a hf => ?_
        refine cNil ?_
        refine h14 _ _ ?_
        refine wp_ret ?_
        refine xBlkR ?_
        refine xThenR ?_
        refine xThenR ?_
        have he := Option.some.inj hF
        rw [← he] at hfin8
        replace hF := ho8 _ hfin8
        refine xBlkR ?_
        refine xThenR ?_
        obtain rfl := hF
        replace hc := hc.drop k0
        exact fnOut2 (by simp) rfl Try.results25 hf hc (show look _ 4 = _ from rfl) (show look _ 5 = _ from rfl) ⟨rfl, hc⟩
      · replace hF := condF hb hF
        clear hb
        refine wp_skip ?_
        refine h12 _ _ ?_
        refine cReg ?_
        refine stP hf rfl rfl rfl (pM rfl) fun a hf => ?_
        refine stP hf rfl rfl rfl (pAdd rfl rfl) fun a hf => ?_
        refine stP hf rfl rfl rfl (pA rfl) fun a hf => ?_
        refine cNil ?_
        exact hK8 (W (i_1 + 1)) _ _ (Option.some.inj hF).symm ⟨hf.keep ⟨rfl, rfl, rfl, trivial⟩, hc⟩
    · replace hF := condF hb hF
      clear hb
      refine wp_exit ?_
      refine xThen ?_
      refine xThen ?_
      have he := Option.some.inj hF
      rw [← he] at hfin8
      refine cHit ?_
      exact hr8 _ _ _ hfin8 ⟨hf.keep ⟨rfl, rfl, rfl, trivial⟩, hc⟩

def kit_Same_share_Right_b7 (N : Nat) (a_ : List share_Right) (b_ : List share_Right) (i_1 : Int) : Option (Step (Int) (Bool)) :=
  cond (decide (i_1 < ((a_.length : Nat) : Int)))
  (Option.bind (getI a_ i_1) fun e_1 =>
  Option.bind (getI b_ i_1) fun e_2 =>
  cond (!(e_1.State == e_2.State && e_1.Amount == e_2.Amount && e_1.Loss == e_2.Loss))
  (some (.ret false))
  (some (.cont (W (i_1 + 1)))))
  (some (.brk i_1))
def kit_Same_share_Right (N : Nat) (a_ : List share_Right) (b_ : List share_Right) : Option (Bool) :=
  cond (((a_.length : Nat) : Int) != ((b_.length : Nat) : Int))
  (some false)
  (Option.bind (loopO (fun s7 => kit_Same_share_Right_b7 N a_ b_ s7) N 0) fun x7 =>
  exK x7 (fun s7 => some true) some)
theorem kit_Same_share_Right_ok {N : Nat} {G : Pers} {Lf : List Ent} {w : World} (a_ : List share_Right) (b_ : List share_Right) {a__p : Option Addr} {a__c : Nat} {b__p : Option Addr} {b__c : Nat} (h_a_ : Rd G 3 a__p a__c (a_.map enc_share_Right)) (h_b_ : Rd G 3 b__p b__c (b_.map enc_share_Right)) (hc : Ctx G (Lf) w) {res : Bool} (hF : kit_Same_share_Right N a_ b_ = some res) : Calls Try.prog 26 #[.slice a__p a_.length a__c, .slice b__p b_.length b__c] w (fun e w => e = .returned (.bool res) ∧ Ctx G (Lf) w) := by
  unfold kit_Same_share_Right at hF
  refine fnIn (args := [.slice a__p a_.length a__c, .slice b__p b_.length b__c]) Try.func26 rfl Try.ntmps26 rfl fun a hf => ?_
  refine wp_seq_k fun K1 h1 => ?_
  refine cReg ?_
  refine stP hf rfl rfl rfl (pA rfl) fun a hf => ?_
  refine cNil ?_
  refine h1 _ _ ?_
  refine wp_seq_k fun K2 h2 => ?_
  refine wp_seq_k fun K3 h3 => ?_
  refine cReg ?_
  refine stP hf rfl rfl rfl (pM rfl) fun a hf => ?_
  refine stP hf rfl rfl rfl (pLenS Try.underlying22 rfl) fun a hf => ?_
  refine stP hf rfl rfl rfl (pM rfl) fun a hf => ?_
  refine stP hf rfl rfl rfl (pLenS Try.underlying22 rfl) fun a hf => ?_
  refine stP hf rfl rfl rfl (pNe rfl rfl) fun a hf => ?_
  refine cNil ?_
  refine h3 _ _ ?_
  refine cCond (b := (((a_.length : Nat) : Int) != ((b_.length : Nat) : Int))) hf rfl (fun hb => ?_) (fun hb => ?_)
  · replace hF := condT hb hF
    clear hb
    refine wp_seq_k fun K4 h4 => ?_
    refine cReg ?_
    refine stP hf rfl rfl rfl (pA rfl) fun a hf => ?_
    refine cNil ?_
    refine h4 _ _ ?_
    refine wp_ret ?_
    refine xThenR ?_
    obtain rfl := Option.some.inj hF
    exact fnOut1 (by simp) rfl Try.results26 hf hc (show look _ 4 = _ from rfl) ⟨rfl, hc⟩
  · replace hF := condF hb hF
    clear hb
    refine wp_skip ?_
    refine h2 _ _ ?_
    refine wp_seq_k fun K5 h5 => ?_
    refine wp_seq_k fun K6 h6 => ?_
    refine cReg ?_
    refine stP hf rfl rfl rfl (pA rfl) fun a hf => ?_
    refine cNil ?_
    refine h6 _ _ ?_
    refine wp_block ?_
    obtain ⟨x7, hx7, hF⟩ := bnd_some hF
    let S7 : Int → Act → World → Prop := (fun (zz : Int) a w => Has 26 a [(0, .slice a__p a_.length a__c), (1, .slice b__p b_.length b__c), (5, .int .i64 zz)] ∧ Ctx G (Lf) w)
    have hr7 : ∀ (zz : Int) a w, x7 = .go zz → S7 zz a w → K5 a w := by
      rintro i_1 a w rfl ⟨hf, hc⟩
      replace hF : _ = some res := hF
      refine h5 _ _ ?_
      refine wp_seq_k fun K8 h8 => ?_
      refine cReg ?_
      refine stP hf rfl rfl rfl (pA rfl) fun a hf => ?_
      refine cNil ?_
      refine h8 _ _ ?_
      refine wp_ret ?_
      obtain rfl := Option.some.inj hF
      exact fnOut1 (by simp) rfl Try.results26 hf hc (show look _ 4 = _ from rfl) ⟨rfl, hc⟩
    have ho7 : ∀ r, x7 = .out r → r = res := by
      rintro r rfl
      exact Option.some.inj hF
    refine cLoop N (loopW (S := S7) (x := x7) ?_ N 0 _ _ ⟨hf.keep ⟨rfl, rfl, rfl, trivial⟩, hc⟩ hx7)
    clear hF hf hc
    rintro i_1 st7 a w KB7 ⟨hf, hc⟩ hF hfin7 hK7
    unfold kit_Same_share_Right_b7 at hF
    refine wp_seq_k fun K9 h9 => ?_
    refine wp_seq_k fun K10 h10 => ?_
    refine cReg ?_
    refine stP hf rfl rfl rfl (pM rfl) fun a hf => ?_
    refine stP hf rfl rfl rfl (pM rfl) fun a hf => ?_
    refine stP hf rfl rfl rfl (pLenS Try.underlying22 rfl) fun a hf => ?_
    refine stP hf rfl rfl rfl (pLt rfl rfl) fun a hf => ?_
    refine cNil ?_
    refine h10 _ _ ?_
    refine cCond (b := (decide (i_1 < ((a_.length : Nat) : Int)))) hf rfl (fun hb => ?_) (fun hb => ?_)
    · replace hF := condT hb hF
      clear hb
      refine wp_skip ?_
      refine h9 _ _ ?_
      refine wp_seq_k fun K11 h11 => ?_
      refine wp_block ?_
      refine wp_seq_k fun K12 h12 => ?_
      obtain ⟨e_1, he_1, hF⟩ := bnd_some hF
      obtain ⟨b_1, o, qa, qp⟩ := h_a_.atm he_1
      obtain ⟨e_2, he_2, hF⟩ := bnd_some hF
      obtain ⟨b_2, o_1, qa_1, qp_1⟩ := h_b_.atm he_2
      refine cQ hc follows_mx (by kernel_rfl) ?_
      refine qE hf rfl rfl rfl (Pu.ev (pM rfl)) fun a hf => ?_
      refine qE hf rfl rfl rfl (Pu.ev (pM rfl)) fun a hf => ?_
      refine qE hf rfl rfl rfl (Pu.ev (pIA Try.underlying22 sz_51 rfl rfl qa)) fun a hf => ?_
      refine qE hf rfl rfl rfl (eLdN (vs := [.int .i64 e_1.State, .int .i64 e_1.Amount, .int .i64 e_1.Loss]) ag_51 rfl rfl (cells_pc qp (n := 3) (o' := 0) rfl)) fun a hf => ?_
      refine qE hf rfl rfl rfl (Pu.ev (pM rfl)) fun a hf => ?_
      refine qE hf rfl rfl rfl (Pu.ev (pM rfl)) fun a hf => ?_
      refine qE hf rfl rfl rfl (Pu.ev (pIA Try.underlying22 sz_51 rfl rfl qa_1)) fun a hf => ?_
      refine qE hf rfl rfl rfl (eLdN (vs := [.int .i64 e_2.State, .int .i64 e_2.Amount, .int .i64 e_2.Loss]) ag_51 rfl rfl (cells_pc qp_1 (n := 3) (o' := 0) rfl)) fun a hf => ?_
      refine qE hf rfl rfl rfl (Pu.ev (pNeA ge_51 rfl rfl (eqs_51 _ _ _ _ _ _))) fun a hf => ?_
      intro w hc
      refine h12 _ _ ?_
      refine cCond (b := (!(e_1.State == e_2.State && e_1.Amount == e_2.Amount && e_1.Loss == e_2.Loss))) hf rfl (fun hb => ?_) (fun hb => ?_)
      · replace hF := condT hb hF
        clear hb
        refine wp_seq_k fun K13 h13 => ?_
        refine cReg ?_
        refine stP hf rfl rfl rfl (pA rfl) fun a hf => ?_
        refine cNil ?_
        refine h13 _ _ ?_
        refine wp_ret ?_
        refine xBlkR ?_
        refine xThenR ?_
        refine xThenR ?_
        have he := Option.some.inj hF
        rw [← he] at hfin7
        replace hF := ho7 _ hfin7
        refine xBlkR ?_
        refine xThenR ?_
        obtain rfl := hF
        exact fnOut1 (by simp) rfl Try.results26 hf hc (show look _ 4 = _ from rfl) ⟨rfl, hc⟩
      · replace hF := condF hb hF
        clear hb
        refine wp_skip ?_
        refine h11 _ _ ?_
        refine cReg ?_
        refine stP hf rfl rfl rfl (pM rfl) fun a hf => ?_
        refine stP hf rfl rfl rfl (pAdd rfl rfl) fun a hf => ?_
        refine stP hf rfl rfl rfl (pA rfl) fun a hf => ?_
        refine cNil ?_
        exact hK7 (W (i_1 + 1)) _ _ (Option.some.inj hF).symm ⟨hf.keep ⟨rfl, rfl, rfl, trivial⟩, hc⟩
    · replace hF := condF hb hF
      clear hb
      refine wp_exit ?_
      refine xThen ?_
      refine xThen ?_
      have he := Option.some.inj hF
      rw [← he] at hfin7
      refine cHit ?_
      exact hr7 _ _ _ hfin7 ⟨hf.keep ⟨rfl, rfl, rfl, trivial⟩, hc⟩

def law09_ShareRights (N : Nat) (c_ : share_Compact) (flow : Int) (all : api_Span) : Option (Bool) :=
  cond (decide (35 < ((c_.Rights.length : Nat) : Int)))
  (Option.bind (law09_awake N) fun r =>
  some r)
  (Option.bind (law09_CopyCompact N c_) fun r_1 =>
  Option.bind (share_Check N r_1) fun r_2 =>
  Option.bind (law09_Compact N c_) fun r_3 =>
  Option.bind (ref09_Check N r_3) fun r_4 =>
  cond (r_2 != r_4)
  (some false)
  (Option.bind (share_Real N r_1 flow) fun r_5 =>
  Option.bind (law09_Compact N c_) fun r_6 =>
  Option.bind (ref09_Real N r_6 flow) fun r_7 =>
  Option.bind (kit_Same_int N r_5.1 r_7.1) fun r_8 =>
  cond ((!r_8) || (r_5.2 != r_7.2))
  (some false)
  (Option.bind (share_Shares N r_1 all) fun r_9 =>
  Option.bind (law09_Compact N c_) fun r_10 =>
  Option.bind (ref09_Shares N r_10 all) fun r_11 =>
  Option.bind (kit_Same_api_Span N r_9.1 r_11.1) fun r_12 =>
  cond ((!r_12) || (r_9.2 != r_11.2))
  (some false)
  (Option.bind (share_Short N r_1 flow) fun r_13 =>
  Option.bind (law09_Compact N c_) fun r_14 =>
  Option.bind (ref09_Short N r_14 flow) fun r_15 =>
  Option.bind (cond (((r_13.1 == r_15.1) && (r_13.2 == r_15.2)) && (r_1.States == c_.States)) (Option.bind (kit_Same_share_Right N r_1.Rights c_.Rights) fun r_16 =>
  some r_16) (some false)) fun t_1 =>
  Option.bind (cond t_1 (Option.bind (law09_awake N) fun r_17 =>
  some r_17) (some false)) fun t_2 =>
  some t_2))))
theorem law09_ShareRights_ok {N : Nat} {G : Pers} {Lf : List Ent} {w : World} (c_ : share_Compact) (flow : Int) (all : api_Span) {c__Rights_p : Option Addr} {c__Rights_c : Nat} (h_c__Rights : Rd G 3 c__Rights_p c__Rights_c (c_.Rights.map enc_share_Right)) (hc : Ctx G (Lf) w) {res : Bool} (hF : law09_ShareRights N c_ flow all = some res) : Calls Try.prog 3 #[.agg #[.int .i64 c_.States, .slice c__Rights_p c_.Rights.length c__Rights_c], .int .i64 flow, .agg #[.int .i64 all.Lo, .int .i64 all.Hi]] w (fun e w => e = .returned (.bool res) ∧ Ctx G (Lf) w) := by
  unfold law09_ShareRights at hF
  refine fnIn (args := [.agg #[.int .i64 c_.States, .slice c__Rights_p c_.Rights.length c__Rights_c], .int .i64 flow, .agg #[.int .i64 all.Lo, .int .i64 all.Hi]]) Try.func3 rfl Try.ntmps3 rfl fun a hf => ?_
  refine wp_seq_k fun K1 h1 => ?_
  refine cReg ?_
  refine stBx (cs := [.int .i64 c_.States, .slice c__Rights_p c_.Rights.length c__Rights_c]) hf hc rfl rfl rfl rfl fun b_1 a w hf hc => ?_
  refine stBx (cs := [.int .i64 all.Lo, .int .i64 all.Hi]) hf hc rfl rfl rfl rfl fun b_2 a w hf hc => ?_
  refine stP hf rfl rfl rfl (pA rfl) fun a hf => ?_
  refine cNil ?_
  refine h1 _ _ ?_
  refine wp_seq_k fun K2 h2 => ?_
  refine wp_seq_k fun K3 h3 => ?_
  refine cReg ?_
  refine stP hf rfl rfl rfl (pFA fa_24_1 rfl) fun a hf => ?_
  refine stE hf hc rfl rfl rfl (eLd1 sc_22 rfl (cell_box m1 rfl)) fun a w hf hc => ?_
  refine stP hf rfl rfl rfl (pLenS Try.underlying22 rfl) fun a hf => ?_
  refine stP hf rfl rfl rfl (pGt rfl rfl) fun a hf => ?_
  refine cNil ?_
  refine h3 _ _ ?_
  refine cCond (b := (decide (35 < ((c_.Rights.length : Nat) : Int)))) hf rfl (fun hb => ?_) (fun hb => ?_)
  · replace hF := condT hb hF
    clear hb
    refine wp_seq_k fun K4 h4 => ?_
    refine cReg ?_
    obtain ⟨r, hr, hF⟩ := bnd_some hF
    refine stE hf hc rfl rfl rfl (eC (v := .bool r) (vs := []) (caps := []) en_13 rfl rfl rfl rfl (fun w hc => law09_awake_ok hc hr)) fun a w hf hc => ?_
    refine stP hf rfl rfl rfl (pA rfl) fun a hf => ?_
    refine cNil ?_
    refine h4 _ _ ?_
    refine wp_ret ?_
    refine xThenR ?_
    obtain rfl := Option.some.inj hF
    replace hc := hc.drop k1
    replace hc := hc.drop k0
    exact fnOut1 (by simp) rfl Try.results3 hf hc (show look _ 6 = _ from rfl) ⟨rfl, hc⟩
  · replace hF := condF hb hF
    clear hb
    refine wp_skip ?_
    refine h2 _ _ ?_
    refine wp_seq_k fun K5 h5 => ?_
    refine cReg ?_
    refine stE hf hc rfl rfl rfl (eLdN (vs := [.int .i64 c_.States, .slice c__Rights_p c_.Rights.length c__Rights_c]) ag_24 rfl rfl (cells_box (n := 2) m1 rfl)) fun a w hf hc => ?_
    obtain ⟨r_1, hr_1, hF⟩ := bnd_some hF
    refine stC (vs := [.agg #[.int .i64 c_.States, .slice c__Rights_p c_.Rights.length c__Rights_c]]) (caps := []) hf rfl rfl rfl en_14 rfl rfl rfl rfl (law09_CopyCompact_ok c_ h_c__Rights hc hr_1) ?_
    rintro _ w ⟨p_1, c_1, rfl, hc⟩
    refine ⟨_, rfl, fun a hf => ?_⟩
    refine stAl (cs := [.int .i64 0, .slice none 0 0]) hf hc rfl rfl zr_24 rfl fun b_3 a w hf hc => ?_
    refine stSt (vs := [.int .i64 r_1.States, .slice p_1 r_1.Rights.length c_1]) hf hc rfl rfl rfl rfl sz_24 rfl rfl u0 fun w hc => ?_
    refine cNil ?_
    refine h5 _ _ ?_
    refine wp_seq_k fun K6 h6 => ?_
    refine wp_seq_k fun K7 h7 => ?_
    obtain ⟨r_2, hr_2, hF⟩ := bnd_some hF
    obtain ⟨r_3, hr_3, hF⟩ := bnd_some hF
    obtain ⟨r_4, hr_4, hF⟩ := bnd_some hF
    replace hc := hc.nilRow 0 0
    refine regionE (fun θ => [⟨none, none, 1, .int .i64 flow⟩, ⟨none, none, 3, .pointer (some ⟨b_1, 0, none⟩)⟩, ⟨none, none, 5, .pointer (some ⟨b_2, 0, none⟩)⟩, ⟨none, none, 7, .pointer (some ⟨b_3, 0, none⟩)⟩, ⟨some 0, none, 23, .agg #[.int .i64 r_1.States, .slice p_1 r_1.Rights.length c_1]⟩, ⟨some 1, none, 24, .int .i64 r_2⟩, ⟨some 2, none, 25, .agg #[.int .i64 c_.States, .slice c__Rights_p c_.Rights.length c__Rights_c]⟩, ⟨some 3, none, 26, .agg #[.int .i64 r_3.States, .slice ((θ 24).p) r_3.Rights.length ((θ 24).c)]⟩, ⟨some 4, none, 27, .int .i64 r_4⟩, ⟨some 5, none, 28, .bool (r_2 != r_4)⟩]) (fun E θ => (bif E 3 then .row ((θ 24).p) ((θ 24).c) (r_3.Rights.map enc_ref09_Right) 148 3 else .row none 0 [] 0 0) :: .box b_3 [.int .i64 r_1.States, .slice p_1 r_1.Rights.length c_1] 24 :: .row p_1 c_1 (r_1.Rights.map enc_share_Right) 51 3 :: .box b_2 [.int .i64 all.Lo, .int .i64 all.Hi] 26 :: .box b_1 [.int .i64 c_.States, .slice c__Rights_p c_.Rights.length c__Rights_c] 24 :: Lf) [] (fun a w => ∃ (p_3 : Option Addr) (c_3 : Nat), Has 111 a [(1, .int .i64 flow), (3, .pointer (some ⟨b_1, 0, none⟩)), (5, .pointer (some ⟨b_2, 0, none⟩)), (7, .pointer (some ⟨b_3, 0, none⟩)), (28, .bool (r_2 != r_4))] ∧ Ctx G (.row p_3 c_3 (r_3.Rights.map enc_ref09_Right) 148 3 :: .box b_3 [.int .i64 r_1.States, .slice p_1 r_1.Rights.length c_1] 24 :: .row p_1 c_1 (r_1.Rights.map enc_share_Right) 51 3 :: .box b_2 [.int .i64 all.Lo, .int .i64 all.Hi] 26 :: .box b_1 [.int .i64 c_.States, .slice c__Rights_p c_.Rights.length c__Rights_c] 24 :: Lf) w) follows_mx (by kernel_rfl) (by kernel_rfl) (HasE.of hf ⟨rfl, rfl, rfl, rfl, trivial, trivial, trivial, trivial, trivial, trivial, trivial⟩) hc ⟨?_, ?_, ?_, ?_, ?_, ?_, trivial⟩ ?_ ?_
    · intro E θ a w hD hi hp he hc
      have hf := he.h0
      replace hf := hf.more he 3 rfl onT
      refine stE hf hc rfl rfl rfl (eLdN (vs := [.int .i64 r_1.States, .slice p_1 r_1.Rights.length c_1]) ag_24 rfl rfl (cells_box (n := 2) m1 rfl)) fun a w hf hc => ?_
      refine cNil ?_
      refine xThenN ?_
      intro ds u hau
      refine ⟨θ, he.put0 hi hau hf rfl 4 rfl rfl, ?_⟩
      exact hc
    · intro E θ a w hD hi hp he hc
      have e0 := hp.of (k := 0) rfl
      have hf := he.h0
      replace hf := hf.more he 4 rfl (onP e0)
      refine stE hf hc rfl rfl rfl (eC (v := .int .i64 r_2) (vs := [.agg #[.int .i64 r_1.States, .slice p_1 r_1.Rights.length c_1]]) (caps := []) en_15 rfl rfl rfl rfl (fun w hc => by obtain ⟨G1, hle1, hrd1, hc, hth1⟩ := lend hc k2; exact (share_Check_ok r_1 hrd1 hc hr_2).mono fun e w h => ⟨h.1, ((hth1 _ _ h.2).unpick k2)⟩)) fun a w hf hc => ?_
      refine cNil ?_
      refine xThenN ?_
      intro ds u hau
      refine ⟨θ, he.put0 hi hau hf rfl 5 rfl rfl, ?_⟩
      exact hc
    · intro E θ a w hD hi hp he hc
      have hf := he.h0
      replace hf := hf.more he 1 rfl onT
      refine stE hf hc rfl rfl rfl (eLdN (vs := [.int .i64 c_.States, .slice c__Rights_p c_.Rights.length c__Rights_c]) ag_24 rfl rfl (cells_box (n := 2) m4 rfl)) fun a w hf hc => ?_
      refine cNil ?_
      refine xThenN ?_
      intro ds u hau
      refine ⟨θ, he.put0 hi hau hf rfl 6 rfl rfl, ?_⟩
      exact hc
    · intro E θ a w hD hi hp he hc
      have e2 := hp.of (k := 2) rfl
      try dsimp only at hc
      rw [hi] at hc
      have hf := he.h0
      replace hf := hf.more he 6 rfl (onP e2)
      refine stC (vs := [.agg #[.int .i64 c_.States, .slice c__Rights_p c_.Rights.length c__Rights_c]]) (caps := []) hf rfl rfl rfl en_17 rfl rfl rfl rfl (law09_Compact_ok c_ h_c__Rights hc hr_3) ?_
      rintro _ w ⟨p_2, c_2, rfl, hc⟩
      refine ⟨_, rfl, fun a hf => ?_⟩
      refine cNil ?_
      refine xThenN ?_
      intro ds u hau
      replace hc := hc.drop k1
      refine ⟨(setT θ 24 ⟨0, p_2, c_2⟩), he.put hi hau hf rfl [] trivial ⟨qq, qq, qq, qq, qq, qq, qq, qq, qq, qq, trivial⟩, ?_⟩
      try dsimp only
      rw [updE_self E 3]
      exact hc
    · intro E θ a w hD hi hp he hc
      have e3 := hp.of (k := 3) rfl
      try dsimp only at hc
      rw [e3] at hc
      have hf := he.h0
      replace hf := hf.more he 7 rfl (onP e3)
      refine stE hf hc rfl rfl rfl (eC (v := .int .i64 r_4) (vs := [.agg #[.int .i64 r_3.States, .slice ((θ 24).p) r_3.Rights.length ((θ 24).c)]]) (caps := []) en_16 rfl rfl rfl rfl (fun w hc => by obtain ⟨G1, hle1, hrd1, hc, hth1⟩ := lend hc k0; exact (ref09_Check_ok r_3 hrd1 hc hr_4).mono fun e w h => ⟨h.1, ((hth1 _ _ h.2).unpick k0)⟩)) fun a w hf hc => ?_
      refine cNil ?_
      refine xThenN ?_
      intro ds u hau
      refine ⟨θ, he.put0 hi hau hf rfl 8 rfl rfl, ?_⟩
      try dsimp only
      rw [updE_tru 4 e3]
      exact hc
    · intro E θ a w hD hi hp he hc
      have e1 := hp.of (k := 1) rfl
      have e4 := hp.of (k := 4) rfl
      have hf := he.h0
      replace hf := hf.more he 5 rfl (onP e1)
      replace hf := hf.more he 8 rfl (onP e4)
      refine stP hf rfl rfl rfl (pNe rfl rfl) fun a hf => ?_
      refine cNil ?_
      refine xThenN ?_
      intro ds u hau
      refine ⟨θ, he.put0 hi hau hf rfl 9 rfl rfl, ?_⟩
      exact hc
    · intro E θ a w hall he hc
      have hf := he.h0
      have e3 := hall 3 rfl
      have e5 := hall 5 rfl
      replace hf := hf.more he 9 rfl (onP e5)
      replace hf := hf.more he 3 rfl (onT)
      replace hf := hf.more he 2 rfl (onT)
      replace hf := hf.more he 1 rfl (onT)
      replace hf := hf.more he 0 rfl (onT)
      try dsimp only at hc
      rw [e3] at hc
      exact ⟨(θ 24).p, (θ 24).c, hf.keep ⟨rfl, rfl, rfl, rfl, rfl, trivial⟩, hc⟩
    rintro a w ⟨p_3, c_3, hf, hc⟩
    refine h7 _ _ ?_
    refine cCond (b := (r_2 != r_4)) hf rfl (fun hb => ?_) (fun hb => ?_)
    · replace hF := condT hb hF
      clear hb
      refine wp_seq_k fun K8 h8 => ?_
      refine cReg ?_
      refine stP hf rfl rfl rfl (pA rfl) fun a hf => ?_
      refine cNil ?_
      refine h8 _ _ ?_
      refine wp_ret ?_
      refine xThenR ?_
      obtain rfl := Option.some.inj hF
      replace hc := hc.drop k4
      replace hc := hc.drop k3
      replace hc := hc.drop k2
      replace hc := hc.drop k1
      replace hc := hc.drop k0
      exact fnOut1 (by simp) rfl Try.results3 hf hc (show look _ 6 = _ from rfl) ⟨rfl, hc⟩
    · replace hF := condF hb hF
      clear hb
      refine wp_skip ?_
      refine h6 _ _ ?_
      refine wp_seq_k fun K9 h9 => ?_
      refine cReg ?_
      refine stE hf hc rfl rfl rfl (eLdN (vs := [.int .i64 r_1.States, .slice p_1 r_1.Rights.length c_1]) ag_24 rfl rfl (cells_box (n := 2) m1 rfl)) fun a w hf hc => ?_
      refine stP hf rfl rfl rfl (pM rfl) fun a hf => ?_
      obtain ⟨r_5, hr_5, hF⟩ := bnd_some hF
      obtain ⟨G1, hle1, hrd1, hc, hth1⟩ := lend hc k2
      refine stC (vs := [.agg #[.int .i64 r_1.States, .slice p_1 r_1.Rights.length c_1], .int .i64 flow]) (caps := []) hf rfl rfl rfl en_18 rfl rfl rfl rfl (share_Real_ok r_1 flow hrd1 hc hr_5) ?_
      rintro _ w ⟨p_4, c_4, rfl, hc⟩
      refine ⟨_, rfl, fun a hf => ?_⟩
      replace hc := hth1 _ _ hc
      refine stP hf rfl rfl rfl (pM rfl) fun a hf => ?_
      refine stP hf rfl rfl rfl (pX rfl rfl) fun a hf => ?_
      refine stP hf rfl rfl rfl (pX rfl rfl) fun a hf => ?_
      refine stP hf rfl rfl rfl (pA rfl) fun a hf => ?_
      refine stP hf rfl rfl rfl (pA rfl) fun a hf => ?_
      refine cNil ?_
      refine h9 _ _ ?_
      refine wp_seq_k fun K10 h10 => ?_
      refine cReg ?_
      refine stE hf hc rfl rfl rfl (eLdN (vs := [.int .i64 c_.States, .slice c__Rights_p c_.Rights.length c__Rights_c]) ag_24 rfl rfl (cells_box (n := 2) m5 rfl)) fun a w hf hc => ?_
      obtain ⟨r_6, hr_6, hF⟩ := bnd_some hF
      refine stC (vs := [.agg #[.int .i64 c_.States, .slice c__Rights_p c_.Rights.length c__Rights_c]]) (caps := []) hf rfl rfl rfl en_17 rfl rfl rfl rfl (law09_Compact_ok c_ h_c__Rights hc hr_6) ?_
      rintro _ w ⟨p_5, c_5, rfl, hc⟩
      refine ⟨_, rfl, fun a hf => ?_⟩
      refine stP hf rfl rfl rfl (pM rfl) fun a hf => ?_
      obtain ⟨r_7, hr_7, hF⟩ := bnd_some hF
      obtain ⟨G1, hle1, hrd1, hc, hth1⟩ := lend hc k0
      refine stC (vs := [.agg #[.int .i64 r_6.States, .slice p_5 r_6.Rights.length c_5], .int .i64 flow]) (caps := []) hf rfl rfl rfl en_19 rfl rfl rfl rfl (ref09_Real_ok r_6 flow hrd1 hc hr_7) ?_
      rintro _ w ⟨p_6, c_6, rfl, hc⟩
      refine ⟨_, rfl, fun a hf => ?_⟩
      replace hc := hth1 _ _ hc
      refine stP hf rfl rfl rfl (pM rfl) fun a hf => ?_
      refine stP hf rfl rfl rfl (pX rfl rfl) fun a hf => ?_
      refine stP hf rfl rfl rfl (pX rfl rfl) fun a hf => ?_
      refine stP hf rfl rfl rfl (pA rfl) fun a hf => ?_
      refine stP hf rfl rfl rfl (pA rfl) fun a hf => ?_
      refine cNil ?_
      refine h10 _ _ ?_
      refine wp_seq_k fun K11 h11 => ?_
      refine wp_seq_k fun K12 h12 => ?_
      refine cReg ?_
      refine stP hf rfl rfl rfl (pM rfl) fun a hf => ?_
      refine stP hf rfl rfl rfl (pM rfl) fun a hf => ?_
      obtain ⟨r_8, hr_8, hF⟩ := bnd_some hF
      refine stE hf hc rfl rfl rfl (eC (v := .bool r_8) (vs := [.slice p_4 r_5.1.length c_4, .slice p_6 r_7.1.length c_6]) (caps := []) en_20 rfl rfl rfl rfl (fun w hc => by obtain ⟨G1, hle1, hrd1, hc, hth1⟩ := lend hc k3; obtain ⟨G2, hle2, hrd2, hc, hth2⟩ := lend hc k1; exact (kit_Same_int_ok r_5.1 r_7.1 (hrd1.mono hle2) hrd2 hc hr_8).mono fun e w h => ⟨h.1, ((hth1 _ _ ((hth2 _ _ h.2).unpick k1)).unpick k3)⟩)) fun a w hf hc => ?_
      refine stP hf rfl rfl rfl (pNot rfl) fun a hf => ?_
      refine stP hf rfl rfl rfl (pM rfl) fun a hf => ?_
      refine stCut 4 (fun a w => Has 111 a [(1, .int .i64 flow), (3, .pointer (some ⟨b_1, 0, none⟩)), (5, .pointer (some ⟨b_2, 0, none⟩)), (7, .pointer (some ⟨b_3, 0, none⟩)), (8, .slice p_4 r_5.1.length c_4), (9, .int .i64 r_5.2), (10, .slice p_6 r_7.1.length c_6), (11, .int .i64 r_7.2), (42, .slice p_4 r_5.1.length c_4), (43, .slice p_6 r_7.1.length c_6), (44, .bool r_8), (45, .bool (!r_8)), (46, .bool (!r_8)), (50, .bool ((!r_8) || (r_5.2 != r_7.2)))] ∧ Ctx G (.row p_5 c_5 (r_6.Rights.map enc_ref09_Right) 148 3 :: .row p_6 c_6 (r_7.1.map encI_i64) 3 1 :: .row p_1 c_1 (r_1.Rights.map enc_share_Right) 51 3 :: .row p_4 c_4 (r_5.1.map encI_i64) 3 1 :: .row p_3 c_3 (r_3.Rights.map enc_ref09_Right) 148 3 :: .box b_3 [.int .i64 r_1.States, .slice p_1 r_1.Rights.length c_1] 24 :: .box b_2 [.int .i64 all.Lo, .int .i64 all.Hi] 26 :: .box b_1 [.int .i64 c_.States, .slice c__Rights_p c_.Rights.length c__Rights_c] 24 :: Lf) w) ?_ ?_
      · cases hb : (!r_8)
        · rw [hb] at hf
          refine stP hf rfl rfl rfl (pM rfl) fun a hf => ?_
          refine stP hf rfl rfl rfl (pM rfl) fun a hf => ?_
          refine stP hf rfl rfl rfl (pNe rfl rfl) fun a hf => ?_
          refine stP hf rfl rfl rfl (pPf rfl rfl) fun a hf => ?_
          exact cNil ⟨hf.keep ⟨rfl, rfl, rfl, rfl, rfl, rfl, rfl, rfl, rfl, rfl, rfl, rfl, rfl, rfl, trivial⟩, hc⟩
        · rw [hb] at hf
          refine stS hf rfl rfl rfl fun a hf => ?_
          refine stS hf rfl rfl rfl fun a hf => ?_
          refine stS hf rfl rfl rfl fun a hf => ?_
          refine stP hf rfl rfl rfl (pPt rfl rfl) fun a hf => ?_
          exact cNil ⟨hf.keep ⟨rfl, rfl, rfl, rfl, rfl, rfl, rfl, rfl, rfl, rfl, rfl, rfl, rfl, rfl, trivial⟩, hc⟩
      intro a w ⟨hf, hc⟩
      refine cNil ?_
      refine h12 _ _ ?_
      refine cCond (b := ((!r_8) || (r_5.2 != r_7.2))) hf rfl (fun hb => ?_) (fun hb => ?_)
      · replace hF := condT hb hF
        clear hb
        refine wp_seq_k fun K13 h13 => ?_
        refine cReg ?_
        refine stP hf rfl rfl rfl (pA rfl) fun a hf => ?_
        refine cNil ?_
        refine h13 _ _ ?_
        refine wp_ret ?_
        refine xThenR ?_
        obtain rfl := Option.some.inj hF
        replace hc := hc.drop k7
        replace hc := hc.drop k6
        replace hc := hc.drop k5
        replace hc := hc.drop k4
        replace hc := hc.drop k3
        replace hc := hc.drop k2
        replace hc := hc.drop k1
        replace hc := hc.drop k0
        exact fnOut1 (by simp) rfl Try.results3 hf hc (show look _ 6 = _ from rfl) ⟨rfl, hc⟩
      · replace hF := condF hb hF
        clear hb
        refine wp_skip ?_
        refine h11 _ _ ?_
        refine wp_seq_k fun K14 h14 => ?_
        refine cReg ?_
        refine stE hf hc rfl rfl rfl (eLdN (vs := [.int .i64 r_1.States, .slice p_1 r_1.Rights.length c_1]) ag_24 rfl rfl (cells_box (n := 2) m5 rfl)) fun a w hf hc => ?_
        refine stE hf hc rfl rfl rfl (eLdN (vs := [.int .i64 all.Lo, .int .i64 all.Hi]) ag_26 rfl rfl (cells_box (n := 2) m6 rfl)) fun a w hf hc => ?_
        obtain ⟨r_9, hr_9, hF⟩ := bnd_some hF
        obtain ⟨G1, hle1, hrd1, hc, hth1⟩ := lend hc k2
        refine stC (vs := [.agg #[.int .i64 r_1.States, .slice p_1 r_1.Rights.length c_1], .agg #[.int .i64 all.Lo, .int .i64 all.Hi]]) (caps := []) hf rfl rfl rfl en_21 rfl rfl rfl rfl (share_Shares_ok r_1 all hrd1 hc hr_9) ?_
        rintro _ w ⟨p_7, c_7, rfl, hc⟩
        refine ⟨_, rfl, fun a hf => ?_⟩
        replace hc := hth1 _ _ hc
        refine stP hf rfl rfl rfl (pM rfl) fun a hf => ?_
        refine stP hf rfl rfl rfl (pX rfl rfl) fun a hf => ?_
        refine stP hf rfl rfl rfl (pX rfl rfl) fun a hf => ?_
        refine stP hf rfl rfl rfl (pA rfl) fun a hf => ?_
        refine stP hf rfl rfl rfl (pA rfl) fun a hf => ?_
        refine cNil ?_
        refine h14 _ _ ?_
        refine wp_seq_k fun K15 h15 => ?_
        obtain ⟨r_10, hr_10, hF⟩ := bnd_some hF
        obtain ⟨r_11, hr_11, hF⟩ := bnd_some hF
        replace hc := hc.nilRow 0 0
        replace hc := hc.nilRow 0 0
        refine regionE (fun θ => [⟨none, none, 1, .int .i64 flow⟩, ⟨none, none, 3, .pointer (some ⟨b_1, 0, none⟩)⟩, ⟨none, none, 5, .pointer (some ⟨b_2, 0, none⟩)⟩, ⟨none, none, 7, .pointer (some ⟨b_3, 0, none⟩)⟩, ⟨none, none, 9, .int .i64 r_9.2⟩, ⟨none, some 8, 11, .int .i64 r_7.2⟩, ⟨none, none, 12, .slice p_7 r_9.1.length c_7⟩, ⟨some 0, none, 58, .agg #[.int .i64 c_.States, .slice c__Rights_p c_.Rights.length c__Rights_c]⟩, ⟨some 1, none, 59, .agg #[.int .i64 r_10.States, .slice ((θ 8).p) r_10.Rights.length ((θ 8).c)]⟩, ⟨some 2, none, 60, .agg #[.int .i64 all.Lo, .int .i64 all.Hi]⟩, ⟨some 3, none, 61, .tuple #[.slice ((θ 24).p) r_11.1.length ((θ 24).c), .int .i64 r_11.2]⟩, ⟨some 4, none, 57, .tuple #[.slice ((θ 24).p) r_11.1.length ((θ 24).c), .int .i64 r_11.2]⟩, ⟨some 5, none, 62, .slice ((θ 24).p) r_11.1.length ((θ 24).c)⟩, ⟨some 6, none, 63, .int .i64 r_11.2⟩, ⟨some 7, none, 13, .slice ((θ 24).p) r_11.1.length ((θ 24).c)⟩, ⟨some 8, none, 11, .int .i64 r_11.2⟩]) (fun E θ => (bif E 3 then .row ((θ 24).p) ((θ 24).c) (r_11.1.map enc_api_Span) 26 2 else .row none 0 [] 0 0) :: (bif E 1 then .row ((θ 8).p) ((θ 8).c) (r_10.Rights.map enc_ref09_Right) 148 3 else .row none 0 [] 0 0) :: .row p_1 c_1 (r_1.Rights.map enc_share_Right) 51 3 :: .row p_7 c_7 (r_9.1.map enc_api_Span) 26 2 :: .row p_5 c_5 (r_6.Rights.map enc_ref09_Right) 148 3 :: .row p_6 c_6 (r_7.1.map encI_i64) 3 1 :: .row p_4 c_4 (r_5.1.map encI_i64) 3 1 :: .row p_3 c_3 (r_3.Rights.map enc_ref09_Right) 148 3 :: .box b_3 [.int .i64 r_1.States, .slice p_1 r_1.Rights.length c_1] 24 :: .box b_2 [.int .i64 all.Lo, .int .i64 all.Hi] 26 :: .box b_1 [.int .i64 c_.States, .slice c__Rights_p c_.Rights.length c__Rights_c] 24 :: Lf) [(4, 3), (5, 4), (7, 3)] (fun a w => ∃ (p_10 : Option Addr) (c_10 : Nat) (p_11 : Option Addr) (c_11 : Nat), Has 111 a [(1, .int .i64 flow), (3, .pointer (some ⟨b_1, 0, none⟩)), (7, .pointer (some ⟨b_3, 0, none⟩)), (9, .int .i64 r_9.2), (12, .slice p_7 r_9.1.length c_7), (13, .slice p_10 r_11.1.length c_10), (11, .int .i64 r_11.2)] ∧ Ctx G (.row p_10 c_10 (r_11.1.map enc_api_Span) 26 2 :: .row p_11 c_11 (r_10.Rights.map enc_ref09_Right) 148 3 :: .row p_1 c_1 (r_1.Rights.map enc_share_Right) 51 3 :: .row p_7 c_7 (r_9.1.map enc_api_Span) 26 2 :: .row p_5 c_5 (r_6.Rights.map enc_ref09_Right) 148 3 :: .row p_6 c_6 (r_7.1.map encI_i64) 3 1 :: .row p_4 c_4 (r_5.1.map encI_i64) 3 1 :: .row p_3 c_3 (r_3.Rights.map enc_ref09_Right) 148 3 :: .box b_3 [.int .i64 r_1.States, .slice p_1 r_1.Rights.length c_1] 24 :: .box b_2 [.int .i64 all.Lo, .int .i64 all.Hi] 26 :: .box b_1 [.int .i64 c_.States, .slice c__Rights_p c_.Rights.length c__Rights_c] 24 :: Lf) w) follows_mx (by kernel_rfl) (by kernel_rfl) (HasE.of hf ⟨rfl, rfl, rfl, rfl, rfl, rfl, rfl, trivial, trivial, trivial, trivial, trivial, trivial, trivial, trivial, trivial, trivial⟩) hc ⟨?_, ?_, ?_, ?_, ?_, ?_, ?_, ?_, ?_, trivial⟩ ?_ ?_
        · intro E θ a w hD hi hp he hc
          have hf := he.h0
          replace hf := hf.more he 1 rfl onT
          refine stE hf hc rfl rfl rfl (eLdN (vs := [.int .i64 c_.States, .slice c__Rights_p c_.Rights.length c__Rights_c]) ag_24 rfl rfl (cells_box (n := 2) m10 rfl)) fun a w hf hc => ?_
          refine cNil ?_
          refine xThenN ?_
          intro ds u hau
          refine ⟨θ, he.put0 hi hau hf rfl 7 rfl rfl, ?_⟩
          exact hc
        · intro E θ a w hD hi hp he hc
          have e0 := hp.of (k := 0) rfl
          try dsimp only at hc
          rw [hi] at hc
          have hf := he.h0
          replace hf := hf.more he 7 rfl (onP e0)
          refine stC (vs := [.agg #[.int .i64 c_.States, .slice c__Rights_p c_.Rights.length c__Rights_c]]) (caps := []) hf rfl rfl rfl en_17 rfl rfl rfl rfl (law09_Compact_ok c_ h_c__Rights hc hr_10) ?_
          rintro _ w ⟨p_8, c_8, rfl, hc⟩
          refine ⟨_, rfl, fun a hf => ?_⟩
          refine cNil ?_
          refine xThenN ?_
          intro ds u hau
          replace hc := hc.drop k2
          replace hc := hc.pick k0
          replace hc := hc.pick k1
          refine ⟨(setT θ 8 ⟨0, p_8, c_8⟩), he.put hi hau hf rfl [] trivial ⟨qq, qq, qq, qq, qq, qq, qq, qq, qq, qq, qq, qq, qq, qq, qq, qq, trivial⟩, ?_⟩
          try dsimp only
          rw [updE_self E 1]
          exact hc
        · intro E θ a w hD hi hp he hc
          have hf := he.h0
          replace hf := hf.more he 2 rfl onT
          refine stE hf hc rfl rfl rfl (eLdN (vs := [.int .i64 all.Lo, .int .i64 all.Hi]) ag_26 rfl rfl (cells_box (n := 2) m9 rfl)) fun a w hf hc => ?_
          refine cNil ?_
          refine xThenN ?_
          intro ds u hau
          refine ⟨θ, he.put0 hi hau hf rfl 9 rfl rfl, ?_⟩
          exact hc
        · intro E θ a w hD hi hp he hc
          have e1 := hp.of (k := 1) rfl
          have e2 := hp.of (k := 2) rfl
          have e4 := hD.f 0 rfl hi
          have e5 := hD.f 1 rfl e4
          have e7 := hD.f 2 rfl hi
          try dsimp only at hc
          rw [hi, e1] at hc
          have hf := he.h0
          replace hf := hf.more he 8 rfl (onP e1)
          replace hf := hf.more he 9 rfl (onP e2)
          obtain ⟨G1, hle1, hrd1, hc, hth1⟩ := lend hc k1
          refine stC (vs := [.agg #[.int .i64 r_10.States, .slice ((θ 8).p) r_10.Rights.length ((θ 8).c)], .agg #[.int .i64 all.Lo, .int .i64 all.Hi]]) (caps := []) hf rfl rfl rfl en_22 rfl rfl rfl rfl (ref09_Shares_ok r_10 all hrd1 hc hr_11) ?_
          rintro _ w ⟨p_9, c_9, rfl, hc⟩
          refine ⟨_, rfl, fun a hf => ?_⟩
          replace hc := hth1 _ _ hc
          refine cNil ?_
          refine xThenN ?_
          intro ds u hau
          replace hc := hc.drop k2
          replace hc := hc.pick k0
          replace hc := hc.pick k1
          refine ⟨(setT θ 24 ⟨0, p_9, c_9⟩), he.put hi hau hf rfl [4, 5, 7] ⟨⟨e4, rfl⟩, ⟨e5, rfl⟩, ⟨e7, rfl⟩, trivial⟩ ⟨qq, qq, qq, qq, qq, qq, qq, qq, qq, qq, qq, trivial, trivial, qq, trivial, qq, trivial⟩, ?_⟩
          try dsimp only
          rw [updE_self E 3, updE_tru 3 e1]
          exact hc
        · intro E θ a w hD hi hp he hc
          have e3 := hp.of (k := 3) rfl
          have hf := he.h0
          replace hf := hf.more he 10 rfl (onP e3)
          refine stP hf rfl rfl rfl (pM rfl) fun a hf => ?_
          refine cNil ?_
          refine xThenN ?_
          intro ds u hau
          refine ⟨θ, he.put0 hi hau hf rfl 11 rfl rfl, ?_⟩
          exact hc
        · intro E θ a w hD hi hp he hc
          have e4 := hp.of (k := 4) rfl
          have hf := he.h0
          replace hf := hf.more he 11 rfl (onP e4)
          refine stP hf rfl rfl rfl (pX rfl rfl) fun a hf => ?_
          refine cNil ?_
          refine xThenN ?_
          intro ds u hau
          refine ⟨θ, he.put0 hi hau hf rfl 12 rfl rfl, ?_⟩
          exact hc
        · intro E θ a w hD hi hp he hc
          have e4 := hp.of (k := 4) rfl
          have hf := he.h0
          replace hf := hf.more he 11 rfl (onP e4)
          refine stP hf rfl rfl rfl (pX rfl rfl) fun a hf => ?_
          refine cNil ?_
          refine xThenN ?_
          intro ds u hau
          refine ⟨θ, he.put0 hi hau hf rfl 13 rfl rfl, ?_⟩
          exact hc
        · intro E θ a w hD hi hp he hc
          have e5 := hp.of (k := 5) rfl
          have hf := he.h0
          replace hf := hf.more he 12 rfl (onP e5)
          refine stP hf rfl rfl rfl (pA rfl) fun a hf => ?_
          refine cNil ?_
          refine xThenN ?_
          intro ds u hau
          refine ⟨θ, he.put0 hi hau hf rfl 14 rfl rfl, ?_⟩
          exact hc
        · intro E θ a w hD hi hp he hc
          have e6 := hp.of (k := 6) rfl
          have hf := he.h0
          replace hf := hf.more he 13 rfl (onP e6)
          refine stP hf rfl rfl rfl (pA rfl) fun a hf => ?_
          refine cNil ?_
          refine xThenN ?_
          intro ds u hau
          refine ⟨θ, he.put0 hi hau hf rfl 15 rfl rfl, ?_⟩
          exact hc
        · intro E θ a w hall he hc
          have hf := he.h0
          have e1 := hall 1 rfl
          have e3 := hall 3 rfl
          have e7 := hall 7 rfl
          have e8 := hall 8 rfl
          replace hf := hf.more he 15 rfl (onP e8)
          replace hf := hf.more he 14 rfl (onP e7)
          replace hf := hf.more he 6 rfl (onT)
          replace hf := hf.more he 4 rfl (onT)
          replace hf := hf.more he 3 rfl (onT)
          replace hf := hf.more he 1 rfl (onT)
          replace hf := hf.more he 0 rfl (onT)
          try dsimp only at hc
          rw [e1, e3] at hc
          exact ⟨(θ 24).p, (θ 24).c, (θ 8).p, (θ 8).c, hf.keep ⟨rfl, rfl, rfl, rfl, rfl, rfl, rfl, trivial⟩, hc⟩
        rintro a w ⟨p_10, c_10, p_11, c_11, hf, hc⟩
        refine h15 _ _ ?_
        refine wp_seq_k fun K16 h16 => ?_
        refine wp_seq_k fun K17 h17 => ?_
        refine cReg ?_
        refine stP hf rfl rfl rfl (pM rfl) fun a hf => ?_
        refine stP hf rfl rfl rfl (pM rfl) fun a hf => ?_
        obtain ⟨r_12, hr_12, hF⟩ := bnd_some hF
        refine stE hf hc rfl rfl rfl (eC (v := .bool r_12) (vs := [.slice p_7 r_9.1.length c_7, .slice p_10 r_11.1.length c_10]) (caps := []) en_23 rfl rfl rfl rfl (fun w hc => by obtain ⟨G1, hle1, hrd1, hc, hth1⟩ := lend hc k3; obtain ⟨G2, hle2, hrd2, hc, hth2⟩ := lend hc k0; exact (kit_Same_api_Span_ok r_9.1 r_11.1 (hrd1.mono hle2) hrd2 hc hr_12).mono fun e w h => ⟨h.1, ((hth1 _ _ ((hth2 _ _ h.2).unpick k0)).unpick k3)⟩)) fun a w hf hc => ?_
        refine stP hf rfl rfl rfl (pNot rfl) fun a hf => ?_
        refine stP hf rfl rfl rfl (pM rfl) fun a hf => ?_
        refine stCut 4 (fun a w => Has 111 a [(1, .int .i64 flow), (3, .pointer (some ⟨b_1, 0, none⟩)), (7, .pointer (some ⟨b_3, 0, none⟩)), (9, .int .i64 r_9.2), (12, .slice p_7 r_9.1.length c_7), (13, .slice p_10 r_11.1.length c_10), (11, .int .i64 r_11.2), (64, .slice p_7 r_9.1.length c_7), (65, .slice p_10 r_11.1.length c_10), (66, .bool r_12), (67, .bool (!r_12)), (68, .bool (!r_12)), (72, .bool ((!r_12) || (r_9.2 != r_11.2)))] ∧ Ctx G (.row p_10 c_10 (r_11.1.map enc_api_Span) 26 2 :: .row p_11 c_11 (r_10.Rights.map enc_ref09_Right) 148 3 :: .row p_1 c_1 (r_1.Rights.map enc_share_Right) 51 3 :: .row p_7 c_7 (r_9.1.map enc_api_Span) 26 2 :: .row p_5 c_5 (r_6.Rights.map enc_ref09_Right) 148 3 :: .row p_6 c_6 (r_7.1.map encI_i64) 3 1 :: .row p_4 c_4 (r_5.1.map encI_i64) 3 1 :: .row p_3 c_3 (r_3.Rights.map enc_ref09_Right) 148 3 :: .box b_3 [.int .i64 r_1.States, .slice p_1 r_1.Rights.length c_1] 24 :: .box b_2 [.int .i64 all.Lo, .int .i64 all.Hi] 26 :: .box b_1 [.int .i64 c_.States, .slice c__Rights_p c_.Rights.length c__Rights_c] 24 :: Lf) w) ?_ ?_
        · cases hb : (!r_12)
          · rw [hb] at hf
            refine stP hf rfl rfl rfl (pM rfl) fun a hf => ?_
            refine stP hf rfl rfl rfl (pM rfl) fun a hf => ?_
            refine stP hf rfl rfl rfl (pNe rfl rfl) fun a hf => ?_
            refine stP hf rfl rfl rfl (pPf rfl rfl) fun a hf => ?_
            exact cNil ⟨hf.keep ⟨rfl, rfl, rfl, rfl, rfl, rfl, rfl, rfl, rfl, rfl, rfl, rfl, rfl, trivial⟩, hc⟩
          · rw [hb] at hf
            refine stS hf rfl rfl rfl fun a hf => ?_
            refine stS hf rfl rfl rfl fun a hf => ?_
            refine stS hf rfl rfl rfl fun a hf => ?_
            refine stP hf rfl rfl rfl (pPt rfl rfl) fun a hf => ?_
            exact cNil ⟨hf.keep ⟨rfl, rfl, rfl, rfl, rfl, rfl, rfl, rfl, rfl, rfl, rfl, rfl, rfl, trivial⟩, hc⟩
        intro a w ⟨hf, hc⟩
        refine cNil ?_
        refine h17 _ _ ?_
        refine cCond (b := ((!r_12) || (r_9.2 != r_11.2))) hf rfl (fun hb => ?_) (fun hb => ?_)
        · replace hF := condT hb hF
          clear hb
          refine wp_seq_k fun K18 h18 => ?_
          refine cReg ?_
          refine stP hf rfl rfl rfl (pA rfl) fun a hf => ?_
          refine cNil ?_
          refine h18 _ _ ?_
          refine wp_ret ?_
          refine xThenR ?_
          obtain rfl := Option.some.inj hF
          replace hc := hc.drop k10
          replace hc := hc.drop k9
          replace hc := hc.drop k8
          replace hc := hc.drop k7
          replace hc := hc.drop k6
          replace hc := hc.drop k5
          replace hc := hc.drop k4
          replace hc := hc.drop k3
          replace hc := hc.drop k2
          replace hc := hc.drop k1
          replace hc := hc.drop k0
          exact fnOut1 (by simp) rfl Try.results3 hf hc (show look _ 6 = _ from rfl) ⟨rfl, hc⟩
        · replace hF := condF hb hF
          clear hb
          refine wp_skip ?_
          refine h16 _ _ ?_
          refine wp_seq_k fun K19 h19 => ?_
          refine cReg ?_
          refine stE hf hc rfl rfl rfl (eLdN (vs := [.int .i64 r_1.States, .slice p_1 r_1.Rights.length c_1]) ag_24 rfl rfl (cells_box (n := 2) m8 rfl)) fun a w hf hc => ?_
          refine stP hf rfl rfl rfl (pM rfl) fun a hf => ?_
          obtain ⟨r_13, hr_13, hF⟩ := bnd_some hF
          refine stE hf hc rfl rfl rfl (eC (v := .tuple #[.int .i64 r_13.1, .int .i64 r_13.2]) (vs := [.agg #[.int .i64 r_1.States, .slice p_1 r_1.Rights.length c_1], .int .i64 flow]) (caps := []) en_24 rfl rfl rfl rfl (fun w hc => by obtain ⟨G1, hle1, hrd1, hc, hth1⟩ := lend hc k2; exact (share_Short_ok r_1 flow hrd1 hc hr_13).mono fun e w h => ⟨h.1, ((hth1 _ _ h.2).unpick k2)⟩)) fun a w hf hc => ?_
          refine stP hf rfl rfl rfl (pM rfl) fun a hf => ?_
          refine stP hf rfl rfl rfl (pX rfl rfl) fun a hf => ?_
          refine stP hf rfl rfl rfl (pX rfl rfl) fun a hf => ?_
          refine stP hf rfl rfl rfl (pA rfl) fun a hf => ?_
          refine stP hf rfl rfl rfl (pA rfl) fun a hf => ?_
          refine cNil ?_
          refine h19 _ _ ?_
          refine wp_seq_k fun K20 h20 => ?_
          refine cReg ?_
          refine stE hf hc rfl rfl rfl (eLdN (vs := [.int .i64 c_.States, .slice c__Rights_p c_.Rights.length c__Rights_c]) ag_24 rfl rfl (cells_box (n := 2) m10 rfl)) fun a w hf hc => ?_
          obtain ⟨r_14, hr_14, hF⟩ := bnd_some hF
          refine stC (vs := [.agg #[.int .i64 c_.States, .slice c__Rights_p c_.Rights.length c__Rights_c]]) (caps := []) hf rfl rfl rfl en_17 rfl rfl rfl rfl (law09_Compact_ok c_ h_c__Rights hc hr_14) ?_
          rintro _ w ⟨p_12, c_12, rfl, hc⟩
          refine ⟨_, rfl, fun a hf => ?_⟩
          refine stP hf rfl rfl rfl (pM rfl) fun a hf => ?_
          obtain ⟨r_15, hr_15, hF⟩ := bnd_some hF
          refine stE hf hc rfl rfl rfl (eC (v := .tuple #[.int .i64 r_15.1, .int .i64 r_15.2]) (vs := [.agg #[.int .i64 r_14.States, .slice p_12 r_14.Rights.length c_12], .int .i64 flow]) (caps := []) en_25 rfl rfl rfl rfl (fun w hc => by obtain ⟨G1, hle1, hrd1, hc, hth1⟩ := lend hc k0; exact (ref09_Short_ok r_14 flow hrd1 hc hr_15).mono fun e w h => ⟨h.1, ((hth1 _ _ h.2).unpick k0)⟩)) fun a w hf hc => ?_
          refine stP hf rfl rfl rfl (pM rfl) fun a hf => ?_
          refine stP hf rfl rfl rfl (pX rfl rfl) fun a hf => ?_
          refine stP hf rfl rfl rfl (pX rfl rfl) fun a hf => ?_
          refine stP hf rfl rfl rfl (pA rfl) fun a hf => ?_
          refine stP hf rfl rfl rfl (pA rfl) fun a hf => ?_
          refine cNil ?_
          refine h20 _ _ ?_
          refine wp_seq_k fun K21 h21 => ?_
          refine cReg ?_
          refine stP hf rfl rfl rfl (pM rfl) fun a hf => ?_
          refine stP hf rfl rfl rfl (pM rfl) fun a hf => ?_
          refine stP hf rfl rfl rfl (pEq rfl rfl) fun a hf => ?_
          refine stP hf rfl rfl rfl (pM rfl) fun a hf => ?_
          refine stCut 4 (fun a w => Has 111 a [(3, .pointer (some ⟨b_1, 0, none⟩)), (7, .pointer (some ⟨b_3, 0, none⟩)), (9, .int .i64 r_13.2), (11, .int .i64 r_15.2), (14, .int .i64 r_13.1), (15, .int .i64 r_15.1), (86, .int .i64 r_13.1), (87, .int .i64 r_15.1), (88, .bool (r_13.1 == r_15.1)), (89, .bool (r_13.1 == r_15.1)), (93, .bool ((r_13.1 == r_15.1) && (r_13.2 == r_15.2)))] ∧ Ctx G (.row p_12 c_12 (r_14.Rights.map enc_ref09_Right) 148 3 :: .row p_10 c_10 (r_11.1.map enc_api_Span) 26 2 :: .row p_11 c_11 (r_10.Rights.map enc_ref09_Right) 148 3 :: .row p_1 c_1 (r_1.Rights.map enc_share_Right) 51 3 :: .row p_7 c_7 (r_9.1.map enc_api_Span) 26 2 :: .row p_5 c_5 (r_6.Rights.map enc_ref09_Right) 148 3 :: .row p_6 c_6 (r_7.1.map encI_i64) 3 1 :: .row p_4 c_4 (r_5.1.map encI_i64) 3 1 :: .row p_3 c_3 (r_3.Rights.map enc_ref09_Right) 148 3 :: .box b_3 [.int .i64 r_1.States, .slice p_1 r_1.Rights.length c_1] 24 :: .box b_2 [.int .i64 all.Lo, .int .i64 all.Hi] 26 :: .box b_1 [.int .i64 c_.States, .slice c__Rights_p c_.Rights.length c__Rights_c] 24 :: Lf) w) ?_ ?_
          · cases hb : (r_13.1 == r_15.1)
            · rw [hb] at hf
              refine stS hf rfl rfl rfl fun a hf => ?_
              refine stS hf rfl rfl rfl fun a hf => ?_
              refine stS hf rfl rfl rfl fun a hf => ?_
              refine stP hf rfl rfl rfl (pPf rfl rfl) fun a hf => ?_
              exact cNil ⟨hf.keep ⟨rfl, rfl, rfl, rfl, rfl, rfl, rfl, rfl, rfl, rfl, rfl, trivial⟩, hc⟩
            · rw [hb] at hf
              refine stP hf rfl rfl rfl (pM rfl) fun a hf => ?_
              refine stP hf rfl rfl rfl (pM rfl) fun a hf => ?_
              refine stP hf rfl rfl rfl (pEq rfl rfl) fun a hf => ?_
              refine stP hf rfl rfl rfl (pPt rfl rfl) fun a hf => ?_
              exact cNil ⟨hf.keep ⟨rfl, rfl, rfl, rfl, rfl, rfl, rfl, rfl, rfl, rfl, rfl, trivial⟩, hc⟩
          intro a w ⟨hf, hc⟩
          refine stP hf rfl rfl rfl (pM rfl) fun a hf => ?_
          refine stCut 6 (fun a w => Has 111 a [(3, .pointer (some ⟨b_1, 0, none⟩)), (7, .pointer (some ⟨b_3, 0, none⟩)), (9, .int .i64 r_13.2), (11, .int .i64 r_15.2), (14, .int .i64 r_13.1), (15, .int .i64 r_15.1), (86, .int .i64 r_13.1), (87, .int .i64 r_15.1), (88, .bool (r_13.1 == r_15.1)), (89, .bool (r_13.1 == r_15.1)), (93, .bool ((r_13.1 == r_15.1) && (r_13.2 == r_15.2))), (94, .bool ((r_13.1 == r_15.1) && (r_13.2 == r_15.2))), (100, .bool (((r_13.1 == r_15.1) && (r_13.2 == r_15.2)) && (r_1.States == c_.States)))] ∧ Ctx G (.row p_12 c_12 (r_14.Rights.map enc_ref09_Right) 148 3 :: .row p_10 c_10 (r_11.1.map enc_api_Span) 26 2 :: .row p_11 c_11 (r_10.Rights.map enc_ref09_Right) 148 3 :: .row p_1 c_1 (r_1.Rights.map enc_share_Right) 51 3 :: .row p_7 c_7 (r_9.1.map enc_api_Span) 26 2 :: .row p_5 c_5 (r_6.Rights.map enc_ref09_Right) 148 3 :: .row p_6 c_6 (r_7.1.map encI_i64) 3 1 :: .row p_4 c_4 (r_5.1.map encI_i64) 3 1 :: .row p_3 c_3 (r_3.Rights.map enc_ref09_Right) 148 3 :: .box b_3 [.int .i64 r_1.States, .slice p_1 r_1.Rights.length c_1] 24 :: .box b_2 [.int .i64 all.Lo, .int .i64 all.Hi] 26 :: .box b_1 [.int .i64 c_.States, .slice c__Rights_p c_.Rights.length c__Rights_c] 24 :: Lf) w) ?_ ?_
          · cases hb : ((r_13.1 == r_15.1) && (r_13.2 == r_15.2))
            · rw [hb] at hf
              refine stS hf rfl rfl rfl fun a hf => ?_
              refine stS hf rfl rfl rfl fun a hf => ?_
              refine stS hf rfl rfl rfl fun a hf => ?_
              refine stS hf rfl rfl rfl fun a hf => ?_
              refine stS hf rfl rfl rfl fun a hf => ?_
              refine stP hf rfl rfl rfl (pPf rfl rfl) fun a hf => ?_
              exact cNil ⟨hf.keep ⟨rfl, rfl, rfl, rfl, rfl, rfl, rfl, rfl, rfl, rfl, rfl, rfl, rfl, trivial⟩, hc⟩
            · rw [hb] at hf
              refine stP hf rfl rfl rfl (pFA fa_24_0 rfl) fun a hf => ?_
              refine stE hf hc rfl rfl rfl (eLd1 sc_3 rfl (cell_box m9 rfl)) fun a w hf hc => ?_
              refine stP hf rfl rfl rfl (pFA fa_24_0 rfl) fun a hf => ?_
              refine stE hf hc rfl rfl rfl (eLd1 sc_3 rfl (cell_box m11 rfl)) fun a w hf hc => ?_
              refine stP hf rfl rfl rfl (pEq rfl rfl) fun a hf => ?_
              refine stP hf rfl rfl rfl (pPt rfl rfl) fun a hf => ?_
              exact cNil ⟨hf.keep ⟨rfl, rfl, rfl, rfl, rfl, rfl, rfl, rfl, rfl, rfl, rfl, rfl, rfl, trivial⟩, hc⟩
          intro a w ⟨hf, hc⟩
          refine stP hf rfl rfl rfl (pM rfl) fun a hf => ?_
          obtain ⟨t_1, ht_1, hF⟩ := bnd_some hF
          refine stCut 6 (fun a w => Has 111 a [(3, .pointer (some ⟨b_1, 0, none⟩)), (7, .pointer (some ⟨b_3, 0, none⟩)), (9, .int .i64 r_13.2), (11, .int .i64 r_15.2), (14, .int .i64 r_13.1), (15, .int .i64 r_15.1), (86, .int .i64 r_13.1), (87, .int .i64 r_15.1), (88, .bool (r_13.1 == r_15.1)), (89, .bool (r_13.1 == r_15.1)), (93, .bool ((r_13.1 == r_15.1) && (r_13.2 == r_15.2))), (94, .bool ((r_13.1 == r_15.1) && (r_13.2 == r_15.2))), (100, .bool (((r_13.1 == r_15.1) && (r_13.2 == r_15.2)) && (r_1.States == c_.States))), (101, .bool (((r_13.1 == r_15.1) && (r_13.2 == r_15.2)) && (r_1.States == c_.States))), (107, .bool t_1)] ∧ Ctx G (.row p_12 c_12 (r_14.Rights.map enc_ref09_Right) 148 3 :: .row p_10 c_10 (r_11.1.map enc_api_Span) 26 2 :: .row p_11 c_11 (r_10.Rights.map enc_ref09_Right) 148 3 :: .row p_1 c_1 (r_1.Rights.map enc_share_Right) 51 3 :: .row p_7 c_7 (r_9.1.map enc_api_Span) 26 2 :: .row p_5 c_5 (r_6.Rights.map enc_ref09_Right) 148 3 :: .row p_6 c_6 (r_7.1.map encI_i64) 3 1 :: .row p_4 c_4 (r_5.1.map encI_i64) 3 1 :: .row p_3 c_3 (r_3.Rights.map enc_ref09_Right) 148 3 :: .box b_3 [.int .i64 r_1.States, .slice p_1 r_1.Rights.length c_1] 24 :: .box b_2 [.int .i64 all.Lo, .int .i64 all.Hi] 26 :: .box b_1 [.int .i64 c_.States, .slice c__Rights_p c_.Rights.length c__Rights_c] 24 :: Lf) w) ?_ ?_
          · cases hb : (((r_13.1 == r_15.1) && (r_13.2 == r_15.2)) && (r_1.States == c_.States))
            · rw [hb] at hf
              have hF := condF hb ht_1
              obtain rfl := Option.some.inj hF
              refine stS hf rfl rfl rfl fun a hf => ?_
              refine stS hf rfl rfl rfl fun a hf => ?_
              refine stS hf rfl rfl rfl fun a hf => ?_
              refine stS hf rfl rfl rfl fun a hf => ?_
              refine stS hf rfl rfl rfl fun a hf => ?_
              refine stP hf rfl rfl rfl (pPf rfl rfl) fun a hf => ?_
              exact cNil ⟨hf.keep ⟨rfl, rfl, rfl, rfl, rfl, rfl, rfl, rfl, rfl, rfl, rfl, rfl, rfl, rfl, rfl, trivial⟩, hc⟩
            · rw [hb] at hf
              have hF := condT hb ht_1
              refine stP hf rfl rfl rfl (pFA fa_24_1 rfl) fun a hf => ?_
              refine stE hf hc rfl rfl rfl (eLd1 sc_22 rfl (cell_box m9 rfl)) fun a w hf hc => ?_
              refine stP hf rfl rfl rfl (pFA fa_24_1 rfl) fun a hf => ?_
              refine stE hf hc rfl rfl rfl (eLd1 sc_22 rfl (cell_box m11 rfl)) fun a w hf hc => ?_
              obtain ⟨r_16, hr_16, hF⟩ := bnd_some hF
              refine stE hf hc rfl rfl rfl (eC (v := .bool r_16) (vs := [.slice p_1 r_1.Rights.length c_1, .slice c__Rights_p c_.Rights.length c__Rights_c]) (caps := []) en_26 rfl rfl rfl rfl (fun w hc => by obtain ⟨G1, hle1, hrd1, hc, hth1⟩ := lend hc k3; exact (kit_Same_share_Right_ok r_1.Rights c_.Rights hrd1 (h_c__Rights.mono hle1) hc hr_16).mono fun e w h => ⟨h.1, ((hth1 _ _ h.2).unpick k3)⟩)) fun a w hf hc => ?_
              refine stP hf rfl rfl rfl (pPt rfl rfl) fun a hf => ?_
              obtain rfl := Option.some.inj hF
              exact cNil ⟨hf.keep ⟨rfl, rfl, rfl, rfl, rfl, rfl, rfl, rfl, rfl, rfl, rfl, rfl, rfl, rfl, rfl, trivial⟩, hc⟩
          intro a w ⟨hf, hc⟩
          refine stP hf rfl rfl rfl (pM rfl) fun a hf => ?_
          obtain ⟨t_2, ht_2, hF⟩ := bnd_some hF
          refine stCut 2 (fun a w => Has 111 a [(3, .pointer (some ⟨b_1, 0, none⟩)), (7, .pointer (some ⟨b_3, 0, none⟩)), (9, .int .i64 r_13.2), (11, .int .i64 r_15.2), (14, .int .i64 r_13.1), (15, .int .i64 r_15.1), (86, .int .i64 r_13.1), (87, .int .i64 r_15.1), (88, .bool (r_13.1 == r_15.1)), (89, .bool (r_13.1 == r_15.1)), (93, .bool ((r_13.1 == r_15.1) && (r_13.2 == r_15.2))), (94, .bool ((r_13.1 == r_15.1) && (r_13.2 == r_15.2))), (100, .bool (((r_13.1 == r_15.1) && (r_13.2 == r_15.2)) && (r_1.States == c_.States))), (101, .bool (((r_13.1 == r_15.1) && (r_13.2 == r_15.2)) && (r_1.States == c_.States))), (107, .bool t_1), (108, .bool t_1), (110, .bool t_2)] ∧ Ctx G (.row p_12 c_12 (r_14.Rights.map enc_ref09_Right) 148 3 :: .row p_10 c_10 (r_11.1.map enc_api_Span) 26 2 :: .row p_11 c_11 (r_10.Rights.map enc_ref09_Right) 148 3 :: .row p_1 c_1 (r_1.Rights.map enc_share_Right) 51 3 :: .row p_7 c_7 (r_9.1.map enc_api_Span) 26 2 :: .row p_5 c_5 (r_6.Rights.map enc_ref09_Right) 148 3 :: .row p_6 c_6 (r_7.1.map encI_i64) 3 1 :: .row p_4 c_4 (r_5.1.map encI_i64) 3 1 :: .row p_3 c_3 (r_3.Rights.map enc_ref09_Right) 148 3 :: .box b_3 [.int .i64 r_1.States, .slice p_1 r_1.Rights.length c_1] 24 :: .box b_2 [.int .i64 all.Lo, .int .i64 all.Hi] 26 :: .box b_1 [.int .i64 c_.States, .slice c__Rights_p c_.Rights.length c__Rights_c] 24 :: Lf) w) ?_ ?_
          · cases hb : t_1
            · rw [hb] at hf
              have hF := condF hb ht_2
              obtain rfl := Option.some.inj hF
              refine stS hf rfl rfl rfl fun a hf => ?_
              refine stP hf rfl rfl rfl (pPf rfl rfl) fun a hf => ?_
              exact cNil ⟨hf.keep ⟨rfl, rfl, rfl, rfl, rfl, rfl, rfl, rfl, rfl, rfl, rfl, rfl, rfl, rfl, rfl, rfl, rfl, trivial⟩, hc⟩
            · rw [hb] at hf
              have hF := condT hb ht_2
              obtain ⟨r_17, hr_17, hF⟩ := bnd_some hF
              refine stE hf hc rfl rfl rfl (eC (v := .bool r_17) (vs := []) (caps := []) en_13 rfl rfl rfl rfl (fun w hc => law09_awake_ok hc hr_17)) fun a w hf hc => ?_
              refine stP hf rfl rfl rfl (pPt rfl rfl) fun a hf => ?_
              obtain rfl := Option.some.inj hF
              exact cNil ⟨hf.keep ⟨rfl, rfl, rfl, rfl, rfl, rfl, rfl, rfl, rfl, rfl, rfl, rfl, rfl, rfl, rfl, rfl, rfl, trivial⟩, hc⟩
          intro a w ⟨hf, hc⟩
          refine stP hf rfl rfl rfl (pA rfl) fun a hf => ?_
          refine cNil ?_
          refine h21 _ _ ?_
          refine wp_ret ?_
          obtain rfl := Option.some.inj hF
          replace hc := hc.drop k11
          replace hc := hc.drop k10
          replace hc := hc.drop k9
          replace hc := hc.drop k8
          replace hc := hc.drop k7
          replace hc := hc.drop k6
          replace hc := hc.drop k5
          replace hc := hc.drop k4
          replace hc := hc.drop k3
          replace hc := hc.drop k2
          replace hc := hc.drop k1
          replace hc := hc.drop k0
          exact fnOut1 (by simp) rfl Try.results3 hf hc (show look _ 6 = _ from rfl) ⟨rfl, hc⟩

end Go.Nilo
