/-
  What functions of the Go text compute, as plain functions, and that they do, part 3 of 4. Conditions: what each theorem names.
-/
import Derived.Test.YtbcaeppbfioogaaVo2
import Derived.Test.YtbcaeppbfioogaaProg
set_option linter.unusedVariables false
set_option linter.unusedSimpArgs false
set_option maxRecDepth 100000
set_option maxHeartbeats 4000000
namespace Go.Nilo
open Go.Proofs


def law07_awake (N : Nat)  : Option (Bool) :=
  Option.bind (law07_Four N 58) fun r =>
  Option.bind (daily_Fill N r) fun r_1 =>
  Option.bind (law07_Four N 58) fun r_2 =>
  Option.bind (daily_Volume N r_2 1 2) fun r_3 =>
  Option.bind (law07_Four N 58) fun r_4 =>
  Option.bind (daily_Peak N r_4) fun r_5 =>
  Option.bind (law07_Four N 61) fun r_6 =>
  Option.bind (daily_Clash N r_6) fun r_7 =>
  Option.bind (cond (!((((r_1.2 != 0) || (r_3.2 != 0)) || (r_5.2.2 != 0)) || (r_7.2.2 != 0))) (kit_Same_api_Span N r_1.1 ([(⟨28, 30⟩ : api_Span), (⟨38, 40⟩ : api_Span), (⟨48, 50⟩ : api_Span), (⟨58, 60⟩ : api_Span)] : List api_Span)) (some false)) fun r_8 =>
  Option.bind (cond (!(((((r_1.2 != 0) || (r_3.2 != 0)) || (r_5.2.2 != 0)) || (r_7.2.2 != 0)) || (!r_8))) (law07_span N 86 90) (some (⟨0, 0⟩ : api_Span))) fun r_9 =>
  Option.bind (cond (!((((((r_1.2 != 0) || (r_3.2 != 0)) || (r_5.2.2 != 0)) || (r_7.2.2 != 0)) || (!r_8)) || (!(r_3.1.Lo == r_9.Lo && r_3.1.Hi == r_9.Hi)))) (law07_span N 58 60) (some (⟨0, 0⟩ : api_Span))) fun r_10 =>
  Option.bind (cond (!(((((((r_1.2 != 0) || (r_3.2 != 0)) || (r_5.2.2 != 0)) || (r_7.2.2 != 0)) || (!r_8)) || (!(r_3.1.Lo == r_9.Lo && r_3.1.Hi == r_9.Hi))) || (!(r_5.1.Lo == r_10.Lo && r_5.1.Hi == r_10.Hi)))) (kit_Same_int N r_5.2.1 ([3] : List Int)) (some false)) fun r_11 =>
  cond ((((((((((r_1.2 != 0) || (r_3.2 != 0)) || (r_5.2.2 != 0)) || (r_7.2.2 != 0)) || (!r_8)) || (!(r_3.1.Lo == r_9.Lo && r_3.1.Hi == r_9.Hi))) || (!(r_5.1.Lo == r_10.Lo && r_5.1.Hi == r_10.Hi))) || (!r_11)) || (r_7.1 != 0)) || (r_7.2.1 != 3))
  (some false)
  (Option.bind (law07_Four N 58) fun r_12 =>
  Option.bind (daily_Again N r_12 ([(⟨20, 35⟩ : api_Span), (⟨30, 40⟩ : api_Span), (⟨49, 60⟩ : api_Span), (⟨50, 60⟩ : api_Span)] : List api_Span)) fun r_13 =>
  Option.bind (law07_Counter N ([10, 14, 12, 20] : List Int)) fun r_14 =>
  Option.bind (daily_Correct N r_14) fun r_15 =>
  Option.bind (law07_Counter N ([9, 5, 7, 3] : List Int)) fun r_16 =>
  Option.bind (daily_Proves N r_16 ([(⟨0, 1, 1⟩ : daily_Fall), (⟨2, 3, 1⟩ : daily_Fall)] : List daily_Fall)) fun r_17 =>
  Option.bind (cond (((r_13.2 == 0) && (r_15.2.2 == 0)) && (r_17.2 == 0)) (Option.bind (kit_Same_int N r_13.1 ([2] : List Int)) fun r_18 =>
  some r_18) (some false)) fun t_1 =>
  Option.bind (cond t_1 (Option.bind (kit_Same_int N r_15.1 ([10, 12, 12, 20] : List Int)) fun r_19 =>
  some r_19) (some false)) fun t_2 =>
  some ((t_2 && (r_15.2.1 == 2)) && (r_17.1 == 8)))
theorem law07_awake_ok {N : Nat} {G : Pers} {Lf : List Ent} {w : World}    (hc : Ctx G (Lf) w) {res : Bool} (hF : law07_awake N = some res) : Calls Try.prog 12 #[] w (fun e w => e = .returned (.bool res) ∧ Ctx G (Lf) w) := by
  unfold law07_awake at hF
  refine fnIn (args := []) Try.func12 rfl Try.ntmps12 rfl fun a hf => ?_
  refine wp_seq_k fun K1 h1 => ?_
  refine cReg ?_
  refine stP hf rfl rfl rfl (pA rfl) fun a hf => ?_
  refine cNil ?_
  refine h1 _ _ ?_
  refine wp_seq_k fun K2 h2 => ?_
  refine cReg ?_
  obtain ⟨r, hr, hF⟩ := bnd_some hF
  refine stC (vs := [.int .i64 58]) (caps := []) hf rfl rfl rfl en_58 rfl rfl rfl rfl (law07_Four_ok 58 hc hr) ?_
  rintro _ w ⟨p_1, c_1, rfl, hc⟩
  refine ⟨_, rfl, fun a hf => ?_⟩
  obtain ⟨r_1, hr_1, hF⟩ := bnd_some hF
  obtain ⟨G1, hle1, hrd1, hc, hth1⟩ := lend hc k0
  refine stC (vs := [.agg #[.int .i64 r.Rise, .int .i64 r.Fall, .slice p_1 r.Days.length c_1]]) (caps := []) hf rfl rfl rfl en_29 rfl rfl rfl rfl (daily_Fill_ok r hrd1 hc hr_1) ?_
  rintro _ w ⟨p_2, c_2, rfl, hc⟩
  refine ⟨_, rfl, fun a hf => ?_⟩
  replace hc := hth1 _ _ hc
  refine stP hf rfl rfl rfl (pM rfl) fun a hf => ?_
  refine stP hf rfl rfl rfl (pX rfl rfl) fun a hf => ?_
  refine stP hf rfl rfl rfl (pX rfl rfl) fun a hf => ?_
  refine stP hf rfl rfl rfl (pA rfl) fun a hf => ?_
  refine stP hf rfl rfl rfl (pA rfl) fun a hf => ?_
  refine cNil ?_
  refine h2 _ _ ?_
  refine wp_seq_k fun K3 h3 => ?_
  refine cReg ?_
  obtain ⟨r_2, hr_2, hF⟩ := bnd_some hF
  refine stC (vs := [.int .i64 58]) (caps := []) hf rfl rfl rfl en_58 rfl rfl rfl rfl (law07_Four_ok 58 hc hr_2) ?_
  rintro _ w ⟨p_3, c_3, rfl, hc⟩
  refine ⟨_, rfl, fun a hf => ?_⟩
  obtain ⟨r_3, hr_3, hF⟩ := bnd_some hF
  refine stE hf hc rfl rfl rfl (eC (v := .tuple #[.agg #[.int .i64 r_3.1.Lo, .int .i64 r_3.1.Hi], .int .i64 r_3.2]) (vs := [.agg #[.int .i64 r_2.Rise, .int .i64 r_2.Fall, .slice p_3 r_2.Days.length c_3], .int .i64 1, .int .i64 2]) (caps := []) en_15 rfl rfl rfl rfl (fun w hc => by obtain ⟨G1, hle1, hrd1, hc, hth1⟩ := lend hc k0; exact (daily_Volume_ok r_2 1 2 hrd1 hc hr_3).mono fun e w h => ⟨h.1, ((hth1 _ _ h.2).unpick k0)⟩)) fun a w hf hc => ?_
  refine stP hf rfl rfl rfl (pM rfl) fun a hf => ?_
  refine stP hf rfl rfl rfl (pX rfl rfl) fun a hf => ?_
  refine stP hf rfl rfl rfl (pX rfl rfl) fun a hf => ?_
  refine stAl (cs := [.int .i64 0, .int .i64 0]) hf hc rfl rfl zr_30 rfl fun b_1 a w hf hc => ?_
  refine stSt (vs := [.int .i64 r_3.1.Lo, .int .i64 r_3.1.Hi]) hf hc rfl rfl rfl rfl sz_30 rfl rfl u0 fun w hc => ?_
  refine stP hf rfl rfl rfl (pA rfl) fun a hf => ?_
  refine cNil ?_
  refine h3 _ _ ?_
  refine wp_seq_k fun K4 h4 => ?_
  refine cReg ?_
  obtain ⟨r_4, hr_4, hF⟩ := bnd_some hF
  refine stC (vs := [.int .i64 58]) (caps := []) hf rfl rfl rfl en_58 rfl rfl rfl rfl (law07_Four_ok 58 hc hr_4) ?_
  rintro _ w ⟨p_4, c_4, rfl, hc⟩
  refine ⟨_, rfl, fun a hf => ?_⟩
  obtain ⟨r_5, hr_5, hF⟩ := bnd_some hF
  obtain ⟨G1, hle1, hrd1, hc, hth1⟩ := lend hc k0
  refine stC (vs := [.agg #[.int .i64 r_4.Rise, .int .i64 r_4.Fall, .slice p_4 r_4.Days.length c_4]]) (caps := []) hf rfl rfl rfl en_18 rfl rfl rfl rfl (daily_Peak_ok r_4 hrd1 hc hr_5) ?_
  rintro _ w ⟨p_5, c_5, rfl, hc⟩
  refine ⟨_, rfl, fun a hf => ?_⟩
  replace hc := hth1 _ _ hc
  refine stP hf rfl rfl rfl (pM rfl) fun a hf => ?_
  refine stP hf rfl rfl rfl (pX rfl rfl) fun a hf => ?_
  refine stP hf rfl rfl rfl (pX rfl rfl) fun a hf => ?_
  refine stP hf rfl rfl rfl (pX rfl rfl) fun a hf => ?_
  refine stAl (cs := [.int .i64 0, .int .i64 0]) hf hc rfl rfl zr_30 rfl fun b_2 a w hf hc => ?_
  refine stSt (vs := [.int .i64 r_5.1.Lo, .int .i64 r_5.1.Hi]) hf hc rfl rfl rfl rfl sz_30 rfl rfl u0 fun w hc => ?_
  refine stP hf rfl rfl rfl (pA rfl) fun a hf => ?_
  refine stP hf rfl rfl rfl (pA rfl) fun a hf => ?_
  refine cNil ?_
  refine h4 _ _ ?_
  refine wp_seq_k fun K5 h5 => ?_
  refine cReg ?_
  obtain ⟨r_6, hr_6, hF⟩ := bnd_some hF
  refine stC (vs := [.int .i64 61]) (caps := []) hf rfl rfl rfl en_58 rfl rfl rfl rfl (law07_Four_ok 61 hc hr_6) ?_
  rintro _ w ⟨p_6, c_6, rfl, hc⟩
  refine ⟨_, rfl, fun a hf => ?_⟩
  obtain ⟨r_7, hr_7, hF⟩ := bnd_some hF
  refine stE hf hc rfl rfl rfl (eC (v := .tuple #[.int .i64 r_7.1, .int .i64 r_7.2.1, .int .i64 r_7.2.2]) (vs := [.agg #[.int .i64 r_6.Rise, .int .i64 r_6.Fall, .slice p_6 r_6.Days.length c_6]]) (caps := []) en_28 rfl rfl rfl rfl (fun w hc => by obtain ⟨G1, hle1, hrd1, hc, hth1⟩ := lend hc k0; exact (daily_Clash_ok r_6 hrd1 hc hr_7).mono fun e w h => ⟨h.1, ((hth1 _ _ h.2).unpick k0)⟩)) fun a w hf hc => ?_
  refine stP hf rfl rfl rfl (pM rfl) fun a hf => ?_
  refine stP hf rfl rfl rfl (pX rfl rfl) fun a hf => ?_
  refine stP hf rfl rfl rfl (pX rfl rfl) fun a hf => ?_
  refine stP hf rfl rfl rfl (pX rfl rfl) fun a hf => ?_
  refine stP hf rfl rfl rfl (pA rfl) fun a hf => ?_
  refine stP hf rfl rfl rfl (pA rfl) fun a hf => ?_
  refine stP hf rfl rfl rfl (pA rfl) fun a hf => ?_
  refine cNil ?_
  refine h5 _ _ ?_
  refine wp_seq_k fun K6 h6 => ?_
  refine wp_seq_k fun K7 h7 => ?_
  obtain ⟨r_8, hr_8, hF⟩ := bnd_some hF
  obtain ⟨r_9, hr_9, hF⟩ := bnd_some hF
  obtain ⟨r_10, hr_10, hF⟩ := bnd_some hF
  obtain ⟨r_11, hr_11, hF⟩ := bnd_some hF
  replace hc := hc.nilRow 0 0
  replace hc := hc.nilRow 0 0
  refine regionE (fun θ => (⟨none, none, 1, .slice p_2 r_1.1.length c_2⟩ :: ⟨none, none, 2, .int .i64 r_1.2⟩ :: ⟨none, none, 3, .pointer (some ⟨b_1, 0, none⟩)⟩ :: ⟨none, none, 4, .int .i64 r_3.2⟩ :: ⟨none, none, 5, .pointer (some ⟨b_2, 0, none⟩)⟩ :: ⟨none, none, 6, .slice p_5 r_5.2.1.length c_5⟩ :: ⟨none, none, 7, .int .i64 r_5.2.2⟩ :: ⟨none, none, 8, .int .i64 r_7.1⟩ :: ⟨none, none, 9, .int .i64 r_7.2.1⟩ :: ⟨none, none, 10, .int .i64 r_7.2.2⟩ :: ⟨some 0, none, 37, .int .i64 r_1.2⟩ :: ⟨some 1, none, 38, .bool (r_1.2 != 0)⟩ :: ⟨some 2, none, 39, .bool (r_1.2 != 0)⟩ :: ⟨some 3, none, 40, (bif (r_1.2 != 0) then undef else .int .i64 r_3.2)⟩ :: ⟨some 4, none, 41, (bif (r_1.2 != 0) then undef else .bool (r_3.2 != 0))⟩ :: ⟨some 5, none, 42, .bool ((r_1.2 != 0) || (r_3.2 != 0))⟩ :: ⟨some 6, none, 43, .bool ((r_1.2 != 0) || (r_3.2 != 0))⟩ :: ⟨some 7, none, 44, (bif ((r_1.2 != 0) || (r_3.2 != 0)) then undef else .int .i64 r_5.2.2)⟩ :: ⟨some 8, none, 45, (bif ((r_1.2 != 0) || (r_3.2 != 0)) then undef else .bool (r_5.2.2 != 0))⟩ :: ⟨some 9, none, 46, .bool (((r_1.2 != 0) || (r_3.2 != 0)) || (r_5.2.2 != 0))⟩ :: ⟨some 10, none, 47, .bool (((r_1.2 != 0) || (r_3.2 != 0)) || (r_5.2.2 != 0))⟩ :: ⟨some 11, none, 48, (bif (((r_1.2 != 0) || (r_3.2 != 0)) || (r_5.2.2 != 0)) then undef else .int .i64 r_7.2.2)⟩ :: ⟨some 12, none, 49, (bif (((r_1.2 != 0) || (r_3.2 != 0)) || (r_5.2.2 != 0)) then undef else .bool (r_7.2.2 != 0))⟩ :: ⟨some 13, none, 50, .bool ((((r_1.2 != 0) || (r_3.2 != 0)) || (r_5.2.2 != 0)) || (r_7.2.2 != 0))⟩ :: ⟨some 14, none, 51, .bool ((((r_1.2 != 0) || (r_3.2 != 0)) || (r_5.2.2 != 0)) || (r_7.2.2 != 0))⟩ :: ⟨some 15, none, 52, (bif ((((r_1.2 != 0) || (r_3.2 != 0)) || (r_5.2.2 != 0)) || (r_7.2.2 != 0)) then undef else .slice p_2 r_1.1.length c_2)⟩ :: ⟨some 16, none, 53, (bif ((((r_1.2 != 0) || (r_3.2 != 0)) || (r_5.2.2 != 0)) || (r_7.2.2 != 0)) then undef else .agg #[.int .i64 28, .int .i64 30])⟩ :: ⟨some 17, none, 54, (bif ((((r_1.2 != 0) || (r_3.2 != 0)) || (r_5.2.2 != 0)) || (r_7.2.2 != 0)) then undef else .agg #[.int .i64 38, .int .i64 40])⟩ :: ⟨some 18, none, 55, (bif ((((r_1.2 != 0) || (r_3.2 != 0)) || (r_5.2.2 != 0)) || (r_7.2.2 != 0)) then undef else .agg #[.int .i64 48, .int .i64 50])⟩ :: ⟨some 19, none, 56, (bif ((((r_1.2 != 0) || (r_3.2 != 0)) || (r_5.2.2 != 0)) || (r_7.2.2 != 0)) then undef else .agg #[.int .i64 58, .int .i64 60])⟩ :: ⟨some 20, none, 57, (bif ((((r_1.2 != 0) || (r_3.2 != 0)) || (r_5.2.2 != 0)) || (r_7.2.2 != 0)) then undef else .slice (some ⟨(θ 160).b, 0, none⟩) 4 4)⟩ :: ⟨some 21, none, 58, (bif ((((r_1.2 != 0) || (r_3.2 != 0)) || (r_5.2.2 != 0)) || (r_7.2.2 != 0)) then undef else .bool r_8)⟩ :: ⟨some 22, none, 59, (bif ((((r_1.2 != 0) || (r_3.2 != 0)) || (r_5.2.2 != 0)) || (r_7.2.2 != 0)) then undef else .bool (!r_8))⟩ :: ⟨some 23, none, 60, .bool (((((r_1.2 != 0) || (r_3.2 != 0)) || (r_5.2.2 != 0)) || (r_7.2.2 != 0)) || (!r_8))⟩ :: ⟨some 24, none, 61, .bool (((((r_1.2 != 0) || (r_3.2 != 0)) || (r_5.2.2 != 0)) || (r_7.2.2 != 0)) || (!r_8))⟩ :: ⟨some 25, none, 62, (bif (((((r_1.2 != 0) || (r_3.2 != 0)) || (r_5.2.2 != 0)) || (r_7.2.2 != 0)) || (!r_8)) then undef else .agg #[.int .i64 r_3.1.Lo, .int .i64 r_3.1.Hi])⟩ :: ⟨some 26, none, 63, (bif (((((r_1.2 != 0) || (r_3.2 != 0)) || (r_5.2.2 != 0)) || (r_7.2.2 != 0)) || (!r_8)) then undef else .agg #[.int .i64 r_9.Lo, .int .i64 r_9.Hi])⟩ :: ⟨some 27, none, 64, (bif (((((r_1.2 != 0) || (r_3.2 != 0)) || (r_5.2.2 != 0)) || (r_7.2.2 != 0)) || (!r_8)) then undef else .bool (!(r_3.1.Lo == r_9.Lo && r_3.1.Hi == r_9.Hi)))⟩ :: ⟨some 28, none, 65, .bool ((((((r_1.2 != 0) || (r_3.2 != 0)) || (r_5.2.2 != 0)) || (r_7.2.2 != 0)) || (!r_8)) || (!(r_3.1.Lo == r_9.Lo && r_3.1.Hi == r_9.Hi)))⟩ :: ⟨some 29, none, 66, .bool ((((((r_1.2 != 0) || (r_3.2 != 0)) || (r_5.2.2 != 0)) || (r_7.2.2 != 0)) || (!r_8)) || (!(r_3.1.Lo == r_9.Lo && r_3.1.Hi == r_9.Hi)))⟩ :: ⟨some 30, none, 67, (bif ((((((r_1.2 != 0) || (r_3.2 != 0)) || (r_5.2.2 != 0)) || (r_7.2.2 != 0)) || (!r_8)) || (!(r_3.1.Lo == r_9.Lo && r_3.1.Hi == r_9.Hi))) then undef else .agg #[.int .i64 r_5.1.Lo, .int .i64 r_5.1.Hi])⟩ :: ⟨some 31, none, 68, (bif ((((((r_1.2 != 0) || (r_3.2 != 0)) || (r_5.2.2 != 0)) || (r_7.2.2 != 0)) || (!r_8)) || (!(r_3.1.Lo == r_9.Lo && r_3.1.Hi == r_9.Hi))) then undef else .agg #[.int .i64 r_10.Lo, .int .i64 r_10.Hi])⟩ :: ⟨some 32, none, 69, (bif ((((((r_1.2 != 0) || (r_3.2 != 0)) || (r_5.2.2 != 0)) || (r_7.2.2 != 0)) || (!r_8)) || (!(r_3.1.Lo == r_9.Lo && r_3.1.Hi == r_9.Hi))) then undef else .bool (!(r_5.1.Lo == r_10.Lo && r_5.1.Hi == r_10.Hi)))⟩ :: ⟨some 33, none, 70, .bool (((((((r_1.2 != 0) || (r_3.2 != 0)) || (r_5.2.2 != 0)) || (r_7.2.2 != 0)) || (!r_8)) || (!(r_3.1.Lo == r_9.Lo && r_3.1.Hi == r_9.Hi))) || (!(r_5.1.Lo == r_10.Lo && r_5.1.Hi == r_10.Hi)))⟩ :: ⟨some 34, none, 71, .bool (((((((r_1.2 != 0) || (r_3.2 != 0)) || (r_5.2.2 != 0)) || (r_7.2.2 != 0)) || (!r_8)) || (!(r_3.1.Lo == r_9.Lo && r_3.1.Hi == r_9.Hi))) || (!(r_5.1.Lo == r_10.Lo && r_5.1.Hi == r_10.Hi)))⟩ :: ⟨some 35, none, 72, (bif (((((((r_1.2 != 0) || (r_3.2 != 0)) || (r_5.2.2 != 0)) || (r_7.2.2 != 0)) || (!r_8)) || (!(r_3.1.Lo == r_9.Lo && r_3.1.Hi == r_9.Hi))) || (!(r_5.1.Lo == r_10.Lo && r_5.1.Hi == r_10.Hi))) then undef else .slice p_5 r_5.2.1.length c_5)⟩ :: ⟨some 36, none, 73, (bif (((((((r_1.2 != 0) || (r_3.2 != 0)) || (r_5.2.2 != 0)) || (r_7.2.2 != 0)) || (!r_8)) || (!(r_3.1.Lo == r_9.Lo && r_3.1.Hi == r_9.Hi))) || (!(r_5.1.Lo == r_10.Lo && r_5.1.Hi == r_10.Hi))) then undef else .slice (some ⟨(θ 288).b, 0, none⟩) 1 1)⟩ :: ⟨some 37, none, 74, (bif (((((((r_1.2 != 0) || (r_3.2 != 0)) || (r_5.2.2 != 0)) || (r_7.2.2 != 0)) || (!r_8)) || (!(r_3.1.Lo == r_9.Lo && r_3.1.Hi == r_9.Hi))) || (!(r_5.1.Lo == r_10.Lo && r_5.1.Hi == r_10.Hi))) then undef else .bool r_11)⟩ :: ⟨some 38, none, 75, (bif (((((((r_1.2 != 0) || (r_3.2 != 0)) || (r_5.2.2 != 0)) || (r_7.2.2 != 0)) || (!r_8)) || (!(r_3.1.Lo == r_9.Lo && r_3.1.Hi == r_9.Hi))) || (!(r_5.1.Lo == r_10.Lo && r_5.1.Hi == r_10.Hi))) then undef else .bool (!r_11))⟩ :: ⟨some 39, none, 76, .bool ((((((((r_1.2 != 0) || (r_3.2 != 0)) || (r_5.2.2 != 0)) || (r_7.2.2 != 0)) || (!r_8)) || (!(r_3.1.Lo == r_9.Lo && r_3.1.Hi == r_9.Hi))) || (!(r_5.1.Lo == r_10.Lo && r_5.1.Hi == r_10.Hi))) || (!r_11))⟩ :: ⟨some 40, none, 77, .bool ((((((((r_1.2 != 0) || (r_3.2 != 0)) || (r_5.2.2 != 0)) || (r_7.2.2 != 0)) || (!r_8)) || (!(r_3.1.Lo == r_9.Lo && r_3.1.Hi == r_9.Hi))) || (!(r_5.1.Lo == r_10.Lo && r_5.1.Hi == r_10.Hi))) || (!r_11))⟩ :: ⟨some 41, none, 78, (bif ((((((((r_1.2 != 0) || (r_3.2 != 0)) || (r_5.2.2 != 0)) || (r_7.2.2 != 0)) || (!r_8)) || (!(r_3.1.Lo == r_9.Lo && r_3.1.Hi == r_9.Hi))) || (!(r_5.1.Lo == r_10.Lo && r_5.1.Hi == r_10.Hi))) || (!r_11)) then undef else .int .i64 r_7.1)⟩ :: ⟨some 42, none, 79, (bif ((((((((r_1.2 != 0) || (r_3.2 != 0)) || (r_5.2.2 != 0)) || (r_7.2.2 != 0)) || (!r_8)) || (!(r_3.1.Lo == r_9.Lo && r_3.1.Hi == r_9.Hi))) || (!(r_5.1.Lo == r_10.Lo && r_5.1.Hi == r_10.Hi))) || (!r_11)) then undef else .bool (r_7.1 != 0))⟩ :: ⟨some 43, none, 80, .bool (((((((((r_1.2 != 0) || (r_3.2 != 0)) || (r_5.2.2 != 0)) || (r_7.2.2 != 0)) || (!r_8)) || (!(r_3.1.Lo == r_9.Lo && r_3.1.Hi == r_9.Hi))) || (!(r_5.1.Lo == r_10.Lo && r_5.1.Hi == r_10.Hi))) || (!r_11)) || (r_7.1 != 0))⟩ :: ⟨some 44, none, 81, .bool (((((((((r_1.2 != 0) || (r_3.2 != 0)) || (r_5.2.2 != 0)) || (r_7.2.2 != 0)) || (!r_8)) || (!(r_3.1.Lo == r_9.Lo && r_3.1.Hi == r_9.Hi))) || (!(r_5.1.Lo == r_10.Lo && r_5.1.Hi == r_10.Hi))) || (!r_11)) || (r_7.1 != 0))⟩ :: ⟨some 45, none, 82, (bif (((((((((r_1.2 != 0) || (r_3.2 != 0)) || (r_5.2.2 != 0)) || (r_7.2.2 != 0)) || (!r_8)) || (!(r_3.1.Lo == r_9.Lo && r_3.1.Hi == r_9.Hi))) || (!(r_5.1.Lo == r_10.Lo && r_5.1.Hi == r_10.Hi))) || (!r_11)) || (r_7.1 != 0)) then undef else .int .i64 r_7.2.1)⟩ :: ⟨some 46, none, 83, (bif (((((((((r_1.2 != 0) || (r_3.2 != 0)) || (r_5.2.2 != 0)) || (r_7.2.2 != 0)) || (!r_8)) || (!(r_3.1.Lo == r_9.Lo && r_3.1.Hi == r_9.Hi))) || (!(r_5.1.Lo == r_10.Lo && r_5.1.Hi == r_10.Hi))) || (!r_11)) || (r_7.1 != 0)) then undef else .bool (r_7.2.1 != 3))⟩ :: ⟨some 47, none, 84, .bool ((((((((((r_1.2 != 0) || (r_3.2 != 0)) || (r_5.2.2 != 0)) || (r_7.2.2 != 0)) || (!r_8)) || (!(r_3.1.Lo == r_9.Lo && r_3.1.Hi == r_9.Hi))) || (!(r_5.1.Lo == r_10.Lo && r_5.1.Hi == r_10.Hi))) || (!r_11)) || (r_7.1 != 0)) || (r_7.2.1 != 3))⟩ :: [])) (fun E θ => (bif E 36 then (gE (!(((((((r_1.2 != 0) || (r_3.2 != 0)) || (r_5.2.2 != 0)) || (r_7.2.2 != 0)) || (!r_8)) || (!(r_3.1.Lo == r_9.Lo && r_3.1.Hi == r_9.Hi))) || (!(r_5.1.Lo == r_10.Lo && r_5.1.Hi == r_10.Hi)))) (.row (some ⟨(θ 288).b, 0, none⟩) 1 (([3] : List Int).map encI_i64) 3 1)) else .row none 0 [] 0 0) :: (bif E 20 then (gE (!((((r_1.2 != 0) || (r_3.2 != 0)) || (r_5.2.2 != 0)) || (r_7.2.2 != 0))) (.row (some ⟨(θ 160).b, 0, none⟩) 4 (([(⟨28, 30⟩ : api_Span), (⟨38, 40⟩ : api_Span), (⟨48, 50⟩ : api_Span), (⟨58, 60⟩ : api_Span)] : List api_Span).map enc_api_Span) 30 2)) else .row none 0 [] 0 0) :: .row p_6 c_6 (r_6.Days.map enc_daily_Value) 56 3 :: .box b_2 [.int .i64 r_5.1.Lo, .int .i64 r_5.1.Hi] 30 :: .row p_4 c_4 (r_4.Days.map enc_daily_Value) 56 3 :: .row p_5 c_5 (r_5.2.1.map encI_i64) 3 1 :: .box b_1 [.int .i64 r_3.1.Lo, .int .i64 r_3.1.Hi] 30 :: .row p_3 c_3 (r_2.Days.map enc_daily_Value) 56 3 :: .row p_1 c_1 (r.Days.map enc_daily_Value) 56 3 :: .row p_2 c_2 (r_1.1.map enc_api_Span) 30 2 :: Lf) [] (fun a w => Has 139 a [(84, .bool ((((((((((r_1.2 != 0) || (r_3.2 != 0)) || (r_5.2.2 != 0)) || (r_7.2.2 != 0)) || (!r_8)) || (!(r_3.1.Lo == r_9.Lo && r_3.1.Hi == r_9.Hi))) || (!(r_5.1.Lo == r_10.Lo && r_5.1.Hi == r_10.Hi))) || (!r_11)) || (r_7.1 != 0)) || (r_7.2.1 != 3)))] ∧ Ctx G (.row p_6 c_6 (r_6.Days.map enc_daily_Value) 56 3 :: .box b_2 [.int .i64 r_5.1.Lo, .int .i64 r_5.1.Hi] 30 :: .row p_4 c_4 (r_4.Days.map enc_daily_Value) 56 3 :: .row p_5 c_5 (r_5.2.1.map encI_i64) 3 1 :: .box b_1 [.int .i64 r_3.1.Lo, .int .i64 r_3.1.Hi] 30 :: .row p_3 c_3 (r_2.Days.map enc_daily_Value) 56 3 :: .row p_1 c_1 (r.Days.map enc_daily_Value) 56 3 :: .row p_2 c_2 (r_1.1.map enc_api_Span) 30 2 :: Lf) w) follows_mx (by kernel_rfl) (by kernel_rfl) (HasE.of hf ⟨rfl, rfl, rfl, rfl, rfl, rfl, rfl, rfl, rfl, rfl, trivial, trivial, trivial, trivial, trivial, trivial, trivial, trivial, trivial, trivial, trivial, trivial, trivial, trivial, trivial, trivial, trivial, trivial, trivial, trivial, trivial, trivial, trivial, trivial, trivial, trivial, trivial, trivial, trivial, trivial, trivial, trivial, trivial, trivial, trivial, trivial, trivial, trivial, trivial, trivial, trivial, trivial, trivial, trivial, trivial, trivial, trivial, trivial, trivial⟩) hc ⟨?_, ?_, ?_, ?_, ?_, ?_, ?_, ?_, ?_, ?_, ?_, ?_, ?_, ?_, ?_, ?_, ?_, ?_, ?_, ?_, ?_, ?_, ?_, ?_, ?_, ?_, ?_, ?_, ?_, ?_, ?_, ?_, ?_, ?_, ?_, ?_, ?_, ?_, ?_, ?_, ?_, ?_, ?_, ?_, ?_, ?_, ?_, ?_, trivial⟩ ?_ ?_
  · intro E θ a w hD hi hp he hc
    have hf := he.h0
    replace hf := hf.more he 1 rfl onT
    refine stP hf rfl rfl rfl (pM rfl) fun a hf => ?_
    refine cNil ?_
    refine xThenN ?_
    intro ds u hau
    refine ⟨θ, he.put0 hi hau hf rfl 10 rfl rfl, ?_⟩
    exact hc
  · intro E θ a w hD hi hp he hc
    have e0 := hp.of (k := 0) rfl
    have hf := he.h0
    replace hf := hf.more he 10 rfl (onP e0)
    refine stP hf rfl rfl rfl (pNe rfl rfl) fun a hf => ?_
    refine cNil ?_
    refine xThenN ?_
    intro ds u hau
    refine ⟨θ, he.put0 hi hau hf rfl 11 rfl rfl, ?_⟩
    exact hc
  · intro E θ a w hD hi hp he hc
    have e1 := hp.of (k := 1) rfl
    have hf := he.h0
    replace hf := hf.more he 11 rfl (onP e1)
    refine stP hf rfl rfl rfl (pM rfl) fun a hf => ?_
    refine cNil ?_
    refine xThenN ?_
    intro ds u hau
    refine ⟨θ, he.put0 hi hau hf rfl 12 rfl rfl, ?_⟩
    exact hc
  · intro E θ a w hD hi hp he hc
    have e2 := hp.of (k := 2) rfl
    rcases boolEq (r_1.2 != 0) with hb | hb
    · have hf := he.h0
      replace hf := hf.more he 3 rfl onT
      replace hf := hf.more he 12 rfl (onP e2)
      replace hf := castB hb hf
      refine stS hf rfl rfl rfl fun a hf => ?_
      replace hf := castI (u := .int .i64 r_3.2) hb hf
      refine cNil ?_
      refine xThenN ?_
      intro ds u hau
      refine ⟨θ, he.put0 hi hau hf rfl 13 rfl rfl, ?_⟩
      exact hc
    · have hf := he.h0
      replace hf := hf.more he 3 rfl onT
      replace hf := hf.more he 12 rfl (onP e2)
      replace hf := castB hb hf
      refine stP hf rfl rfl rfl (pM rfl) fun a hf => ?_
      replace hf := castJ (u := undef) hb hf
      refine cNil ?_
      refine xThenN ?_
      intro ds u hau
      refine ⟨θ, he.put0 hi hau hf rfl 13 rfl rfl, ?_⟩
      exact hc
  · intro E θ a w hD hi hp he hc
    have e2 := hp.of (k := 2) rfl
    have e3 := hp.of (k := 3) rfl
    rcases boolEq (r_1.2 != 0) with hb | hb
    · have hf := he.h0
      replace hf := hf.more he 12 rfl (onP e2)
      replace hf := castB hb hf
      replace hf := hf.more he 13 rfl (onP e3)
      replace hf := castCT hb hf
      refine stS hf rfl rfl rfl fun a hf => ?_
      replace hf := castI (u := .bool (r_3.2 != 0)) hb hf
      refine cNil ?_
      refine xThenN ?_
      intro ds u hau
      refine ⟨θ, he.put0 hi hau hf rfl 14 rfl rfl, ?_⟩
      exact hc
    · have hf := he.h0
      replace hf := hf.more he 12 rfl (onP e2)
      replace hf := castB hb hf
      replace hf := hf.more he 13 rfl (onP e3)
      replace hf := castCF hb hf
      refine stP hf rfl rfl rfl (pNe rfl rfl) fun a hf => ?_
      replace hf := castJ (u := undef) hb hf
      refine cNil ?_
      refine xThenN ?_
      intro ds u hau
      refine ⟨θ, he.put0 hi hau hf rfl 14 rfl rfl, ?_⟩
      exact hc
  · intro E θ a w hD hi hp he hc
    have e2 := hp.of (k := 2) rfl
    have e4 := hp.of (k := 4) rfl
    rcases boolEq (r_1.2 != 0) with hb | hb
    · have hf := he.h0
      replace hf := hf.more he 12 rfl (onP e2)
      replace hf := castB hb hf
      replace hf := hf.more he 14 rfl (onP e4)
      replace hf := castCT hb hf
      refine stP hf rfl rfl rfl (pPt rfl rfl) fun a hf => ?_
      replace hf := castV (v' := .bool ((r_1.2 != 0) || (r_3.2 != 0))) (congrArg Value.bool (orT hb)) hf
      refine cNil ?_
      refine xThenN ?_
      intro ds u hau
      refine ⟨θ, he.put0 hi hau hf rfl 15 rfl rfl, ?_⟩
      exact hc
    · have hf := he.h0
      replace hf := hf.more he 12 rfl (onP e2)
      replace hf := castB hb hf
      replace hf := hf.more he 14 rfl (onP e4)
      replace hf := castCF hb hf
      refine stP hf rfl rfl rfl (pPf rfl rfl) fun a hf => ?_
      replace hf := castV (v' := .bool ((r_1.2 != 0) || (r_3.2 != 0))) (congrArg Value.bool (orF hb)) hf
      refine cNil ?_
      refine xThenN ?_
      intro ds u hau
      refine ⟨θ, he.put0 hi hau hf rfl 15 rfl rfl, ?_⟩
      exact hc
  · intro E θ a w hD hi hp he hc
    have e5 := hp.of (k := 5) rfl
    have hf := he.h0
    replace hf := hf.more he 15 rfl (onP e5)
    refine stP hf rfl rfl rfl (pM rfl) fun a hf => ?_
    refine cNil ?_
    refine xThenN ?_
    intro ds u hau
    refine ⟨θ, he.put0 hi hau hf rfl 16 rfl rfl, ?_⟩
    exact hc
  · intro E θ a w hD hi hp he hc
    have e6 := hp.of (k := 6) rfl
    rcases boolEq ((r_1.2 != 0) || (r_3.2 != 0)) with hb | hb
    · have hf := he.h0
      replace hf := hf.more he 6 rfl onT
      replace hf := hf.more he 16 rfl (onP e6)
      replace hf := castB hb hf
      refine stS hf rfl rfl rfl fun a hf => ?_
      replace hf := castI (u := .int .i64 r_5.2.2) hb hf
      refine cNil ?_
      refine xThenN ?_
      intro ds u hau
      refine ⟨θ, he.put0 hi hau hf rfl 17 rfl rfl, ?_⟩
      exact hc
    · have hf := he.h0
      replace hf := hf.more he 6 rfl onT
      replace hf := hf.more he 16 rfl (onP e6)
      replace hf := castB hb hf
      refine stP hf rfl rfl rfl (pM rfl) fun a hf => ?_
      replace hf := castJ (u := undef) hb hf
      refine cNil ?_
      refine xThenN ?_
      intro ds u hau
      refine ⟨θ, he.put0 hi hau hf rfl 17 rfl rfl, ?_⟩
      exact hc
  · intro E θ a w hD hi hp he hc
    have e6 := hp.of (k := 6) rfl
    have e7 := hp.of (k := 7) rfl
    rcases boolEq ((r_1.2 != 0) || (r_3.2 != 0)) with hb | hb
    · have hf := he.h0
      replace hf := hf.more he 16 rfl (onP e6)
      replace hf := castB hb hf
      replace hf := hf.more he 17 rfl (onP e7)
      replace hf := castCT hb hf
      refine stS hf rfl rfl rfl fun a hf => ?_
      replace hf := castI (u := .bool (r_5.2.2 != 0)) hb hf
      refine cNil ?_
      refine xThenN ?_
      intro ds u hau
      refine ⟨θ, he.put0 hi hau hf rfl 18 rfl rfl, ?_⟩
      exact hc
    · have hf := he.h0
      replace hf := hf.more he 16 rfl (onP e6)
      replace hf := castB hb hf
      replace hf := hf.more he 17 rfl (onP e7)
      replace hf := castCF hb hf
      refine stP hf rfl rfl rfl (pNe rfl rfl) fun a hf => ?_
      replace hf := castJ (u := undef) hb hf
      refine cNil ?_
      refine xThenN ?_
      intro ds u hau
      refine ⟨θ, he.put0 hi hau hf rfl 18 rfl rfl, ?_⟩
      exact hc
  · intro E θ a w hD hi hp he hc
    have e6 := hp.of (k := 6) rfl
    have e8 := hp.of (k := 8) rfl
    rcases boolEq ((r_1.2 != 0) || (r_3.2 != 0)) with hb | hb
    · have hf := he.h0
      replace hf := hf.more he 16 rfl (onP e6)
      replace hf := castB hb hf
      replace hf := hf.more he 18 rfl (onP e8)
      replace hf := castCT hb hf
      refine stP hf rfl rfl rfl (pPt rfl rfl) fun a hf => ?_
      replace hf := castV (v' := .bool (((r_1.2 != 0) || (r_3.2 != 0)) || (r_5.2.2 != 0))) (congrArg Value.bool (orT hb)) hf
      refine cNil ?_
      refine xThenN ?_
      intro ds u hau
      refine ⟨θ, he.put0 hi hau hf rfl 19 rfl rfl, ?_⟩
      exact hc
    · have hf := he.h0
      replace hf := hf.more he 16 rfl (onP e6)
      replace hf := castB hb hf
      replace hf := hf.more he 18 rfl (onP e8)
      replace hf := castCF hb hf
      refine stP hf rfl rfl rfl (pPf rfl rfl) fun a hf => ?_
      replace hf := castV (v' := .bool (((r_1.2 != 0) || (r_3.2 != 0)) || (r_5.2.2 != 0))) (congrArg Value.bool (orF hb)) hf
      refine cNil ?_
      refine xThenN ?_
      intro ds u hau
      refine ⟨θ, he.put0 hi hau hf rfl 19 rfl rfl, ?_⟩
      exact hc
  · intro E θ a w hD hi hp he hc
    have e9 := hp.of (k := 9) rfl
    have hf := he.h0
    replace hf := hf.more he 19 rfl (onP e9)
    refine stP hf rfl rfl rfl (pM rfl) fun a hf => ?_
    refine cNil ?_
    refine xThenN ?_
    intro ds u hau
    refine ⟨θ, he.put0 hi hau hf rfl 20 rfl rfl, ?_⟩
    exact hc
  · intro E θ a w hD hi hp he hc
    have e10 := hp.of (k := 10) rfl
    rcases boolEq (((r_1.2 != 0) || (r_3.2 != 0)) || (r_5.2.2 != 0)) with hb | hb
    · have hf := he.h0
      replace hf := hf.more he 9 rfl onT
      replace hf := hf.more he 20 rfl (onP e10)
      replace hf := castB hb hf
      refine stS hf rfl rfl rfl fun a hf => ?_
      replace hf := castI (u := .int .i64 r_7.2.2) hb hf
      refine cNil ?_
      refine xThenN ?_
      intro ds u hau
      refine ⟨θ, he.put0 hi hau hf rfl 21 rfl rfl, ?_⟩
      exact hc
    · have hf := he.h0
      replace hf := hf.more he 9 rfl onT
      replace hf := hf.more he 20 rfl (onP e10)
      replace hf := castB hb hf
      refine stP hf rfl rfl rfl (pM rfl) fun a hf => ?_
      replace hf := castJ (u := undef) hb hf
      refine cNil ?_
      refine xThenN ?_
      intro ds u hau
      refine ⟨θ, he.put0 hi hau hf rfl 21 rfl rfl, ?_⟩
      exact hc
  · intro E θ a w hD hi hp he hc
    have e10 := hp.of (k := 10) rfl
    have e11 := hp.of (k := 11) rfl
    rcases boolEq (((r_1.2 != 0) || (r_3.2 != 0)) || (r_5.2.2 != 0)) with hb | hb
    · have hf := he.h0
      replace hf := hf.more he 20 rfl (onP e10)
      replace hf := castB hb hf
      replace hf := hf.more he 21 rfl (onP e11)
      replace hf := castCT hb hf
      refine stS hf rfl rfl rfl fun a hf => ?_
      replace hf := castI (u := .bool (r_7.2.2 != 0)) hb hf
      refine cNil ?_
      refine xThenN ?_
      intro ds u hau
      refine ⟨θ, he.put0 hi hau hf rfl 22 rfl rfl, ?_⟩
      exact hc
    · have hf := he.h0
      replace hf := hf.more he 20 rfl (onP e10)
      replace hf := castB hb hf
      replace hf := hf.more he 21 rfl (onP e11)
      replace hf := castCF hb hf
      refine stP hf rfl rfl rfl (pNe rfl rfl) fun a hf => ?_
      replace hf := castJ (u := undef) hb hf
      refine cNil ?_
      refine xThenN ?_
      intro ds u hau
      refine ⟨θ, he.put0 hi hau hf rfl 22 rfl rfl, ?_⟩
      exact hc
  · intro E θ a w hD hi hp he hc
    have e10 := hp.of (k := 10) rfl
    have e12 := hp.of (k := 12) rfl
    rcases boolEq (((r_1.2 != 0) || (r_3.2 != 0)) || (r_5.2.2 != 0)) with hb | hb
    · have hf := he.h0
      replace hf := hf.more he 20 rfl (onP e10)
      replace hf := castB hb hf
      replace hf := hf.more he 22 rfl (onP e12)
      replace hf := castCT hb hf
      refine stP hf rfl rfl rfl (pPt rfl rfl) fun a hf => ?_
      replace hf := castV (v' := .bool ((((r_1.2 != 0) || (r_3.2 != 0)) || (r_5.2.2 != 0)) || (r_7.2.2 != 0))) (congrArg Value.bool (orT hb)) hf
      refine cNil ?_
      refine xThenN ?_
      intro ds u hau
      refine ⟨θ, he.put0 hi hau hf rfl 23 rfl rfl, ?_⟩
      exact hc
    · have hf := he.h0
      replace hf := hf.more he 20 rfl (onP e10)
      replace hf := castB hb hf
      replace hf := hf.more he 22 rfl (onP e12)
      replace hf := castCF hb hf
      refine stP hf rfl rfl rfl (pPf rfl rfl) fun a hf => ?_
      replace hf := castV (v' := .bool ((((r_1.2 != 0) || (r_3.2 != 0)) || (r_5.2.2 != 0)) || (r_7.2.2 != 0))) (congrArg Value.bool (orF hb)) hf
      refine cNil ?_
      refine xThenN ?_
      intro ds u hau
      refine ⟨θ, he.put0 hi hau hf rfl 23 rfl rfl, ?_⟩
      exact hc
  · intro E θ a w hD hi hp he hc
    have e13 := hp.of (k := 13) rfl
    have hf := he.h0
    replace hf := hf.more he 23 rfl (onP e13)
    refine stP hf rfl rfl rfl (pM rfl) fun a hf => ?_
    refine cNil ?_
    refine xThenN ?_
    intro ds u hau
    refine ⟨θ, he.put0 hi hau hf rfl 24 rfl rfl, ?_⟩
    exact hc
  · intro E θ a w hD hi hp he hc
    have e14 := hp.of (k := 14) rfl
    rcases boolEq ((((r_1.2 != 0) || (r_3.2 != 0)) || (r_5.2.2 != 0)) || (r_7.2.2 != 0)) with hb | hb
    · have hf := he.h0
      replace hf := hf.more he 0 rfl onT
      replace hf := hf.more he 24 rfl (onP e14)
      replace hf := castB hb hf
      refine stS hf rfl rfl rfl fun a hf => ?_
      replace hf := castI (u := .slice p_2 r_1.1.length c_2) hb hf
      refine cNil ?_
      refine xThenN ?_
      intro ds u hau
      refine ⟨θ, he.put0 hi hau hf rfl 25 rfl rfl, ?_⟩
      exact hc
    · have hf := he.h0
      replace hf := hf.more he 0 rfl onT
      replace hf := hf.more he 24 rfl (onP e14)
      replace hf := castB hb hf
      refine stP hf rfl rfl rfl (pM rfl) fun a hf => ?_
      replace hf := castJ (u := undef) hb hf
      refine cNil ?_
      refine xThenN ?_
      intro ds u hau
      refine ⟨θ, he.put0 hi hau hf rfl 25 rfl rfl, ?_⟩
      exact hc
  · intro E θ a w hD hi hp he hc
    have e14 := hp.of (k := 14) rfl
    rcases boolEq ((((r_1.2 != 0) || (r_3.2 != 0)) || (r_5.2.2 != 0)) || (r_7.2.2 != 0)) with hb | hb
    · have hf := he.h0
      replace hf := hf.more he 24 rfl (onP e14)
      replace hf := castB hb hf
      refine stS hf rfl rfl rfl fun a hf => ?_
      replace hf := castI (u := .agg #[.int .i64 28, .int .i64 30]) hb hf
      refine cNil ?_
      refine xThenN ?_
      intro ds u hau
      refine ⟨θ, he.put0 hi hau hf rfl 26 rfl rfl, ?_⟩
      exact hc
    · have hf := he.h0
      replace hf := hf.more he 24 rfl (onP e14)
      replace hf := castB hb hf
      refine stP hf rfl rfl rfl (pBuildS (cells := [.int .i64 28, .int .i64 30]) bt_30 rfl rfl) fun a hf => ?_
      replace hf := castJ (u := undef) hb hf
      refine cNil ?_
      refine xThenN ?_
      intro ds u hau
      refine ⟨θ, he.put0 hi hau hf rfl 26 rfl rfl, ?_⟩
      exact hc
  · intro E θ a w hD hi hp he hc
    have e14 := hp.of (k := 14) rfl
    rcases boolEq ((((r_1.2 != 0) || (r_3.2 != 0)) || (r_5.2.2 != 0)) || (r_7.2.2 != 0)) with hb | hb
    · have hf := he.h0
      replace hf := hf.more he 24 rfl (onP e14)
      replace hf := castB hb hf
      refine stS hf rfl rfl rfl fun a hf => ?_
      replace hf := castI (u := .agg #[.int .i64 38, .int .i64 40]) hb hf
      refine cNil ?_
      refine xThenN ?_
      intro ds u hau
      refine ⟨θ, he.put0 hi hau hf rfl 27 rfl rfl, ?_⟩
      exact hc
    · have hf := he.h0
      replace hf := hf.more he 24 rfl (onP e14)
      replace hf := castB hb hf
      refine stP hf rfl rfl rfl (pBuildS (cells := [.int .i64 38, .int .i64 40]) bt_30 rfl rfl) fun a hf => ?_
      replace hf := castJ (u := undef) hb hf
      refine cNil ?_
      refine xThenN ?_
      intro ds u hau
      refine ⟨θ, he.put0 hi hau hf rfl 27 rfl rfl, ?_⟩
      exact hc
  · intro E θ a w hD hi hp he hc
    have e14 := hp.of (k := 14) rfl
    rcases boolEq ((((r_1.2 != 0) || (r_3.2 != 0)) || (r_5.2.2 != 0)) || (r_7.2.2 != 0)) with hb | hb
    · have hf := he.h0
      replace hf := hf.more he 24 rfl (onP e14)
      replace hf := castB hb hf
      refine stS hf rfl rfl rfl fun a hf => ?_
      replace hf := castI (u := .agg #[.int .i64 48, .int .i64 50]) hb hf
      refine cNil ?_
      refine xThenN ?_
      intro ds u hau
      refine ⟨θ, he.put0 hi hau hf rfl 28 rfl rfl, ?_⟩
      exact hc
    · have hf := he.h0
      replace hf := hf.more he 24 rfl (onP e14)
      replace hf := castB hb hf
      refine stP hf rfl rfl rfl (pBuildS (cells := [.int .i64 48, .int .i64 50]) bt_30 rfl rfl) fun a hf => ?_
      replace hf := castJ (u := undef) hb hf
      refine cNil ?_
      refine xThenN ?_
      intro ds u hau
      refine ⟨θ, he.put0 hi hau hf rfl 28 rfl rfl, ?_⟩
      exact hc
  · intro E θ a w hD hi hp he hc
    have e14 := hp.of (k := 14) rfl
    rcases boolEq ((((r_1.2 != 0) || (r_3.2 != 0)) || (r_5.2.2 != 0)) || (r_7.2.2 != 0)) with hb | hb
    · have hf := he.h0
      replace hf := hf.more he 24 rfl (onP e14)
      replace hf := castB hb hf
      refine stS hf rfl rfl rfl fun a hf => ?_
      replace hf := castI (u := .agg #[.int .i64 58, .int .i64 60]) hb hf
      refine cNil ?_
      refine xThenN ?_
      intro ds u hau
      refine ⟨θ, he.put0 hi hau hf rfl 29 rfl rfl, ?_⟩
      exact hc
    · have hf := he.h0
      replace hf := hf.more he 24 rfl (onP e14)
      replace hf := castB hb hf
      refine stP hf rfl rfl rfl (pBuildS (cells := [.int .i64 58, .int .i64 60]) bt_30 rfl rfl) fun a hf => ?_
      replace hf := castJ (u := undef) hb hf
      refine cNil ?_
      refine xThenN ?_
      intro ds u hau
      refine ⟨θ, he.put0 hi hau hf rfl 29 rfl rfl, ?_⟩
      exact hc
  · intro E θ a w hD hi hp he hc
    have e14 := hp.of (k := 14) rfl
    have e16 := hp.of (k := 16) rfl
    have e17 := hp.of (k := 17) rfl
    have e18 := hp.of (k := 18) rfl
    have e19 := hp.of (k := 19) rfl
    try dsimp only at hc
    rw [hi] at hc
    rcases boolEq ((((r_1.2 != 0) || (r_3.2 != 0)) || (r_5.2.2 != 0)) || (r_7.2.2 != 0)) with hb | hb
    · have hf := he.h0
      replace hf := hf.more he 24 rfl (onP e14)
      replace hf := castB hb hf
      replace hf := hf.more he 26 rfl (onP e16)
      replace hf := castCT hb hf
      replace hf := hf.more he 27 rfl (onP e17)
      replace hf := castCT hb hf
      replace hf := hf.more he 28 rfl (onP e18)
      replace hf := castCT hb hf
      replace hf := hf.more he 29 rfl (onP e19)
      replace hf := castCT hb hf
      refine stS hf rfl rfl rfl fun a hf => ?_
      replace hf := castI (u := .slice (some ⟨(θ 160).b, 0, none⟩) 4 4) hb hf
      refine cNil ?_
      refine xThenN ?_
      intro ds u hau
      refine ⟨θ, he.put0 hi hau hf rfl 30 rfl rfl, ?_⟩
      try dsimp only
      rw [updE_self E 20]
      rw [gE_F (notF hb)]
      exact hc
    · have hf := he.h0
      replace hf := hf.more he 24 rfl (onP e14)
      replace hf := castB hb hf
      replace hf := hf.more he 26 rfl (onP e16)
      replace hf := castCF hb hf
      replace hf := hf.more he 27 rfl (onP e17)
      replace hf := castCF hb hf
      replace hf := hf.more he 28 rfl (onP e18)
      replace hf := castCF hb hf
      replace hf := hf.more he 29 rfl (onP e19)
      replace hf := castCF hb hf
      refine stBS (rows := ([(⟨28, 30⟩ : api_Span), (⟨38, 40⟩ : api_Span), (⟨48, 50⟩ : api_Span), (⟨58, 60⟩ : api_Span)] : List api_Span).map enc_api_Span) (vs := [(0, .agg #[.int .i64 28, .int .i64 30]), (1, .agg #[.int .i64 38, .int .i64 40]), (2, .agg #[.int .i64 48, .int .i64 50]), (3, .agg #[.int .i64 58, .int .i64 60])]) hf hc rfl rfl sl_25 rfl ⟨rfl, rfl, rfl, rfl, rfl, rfl, rfl, rfl, rfl, rfl, rfl, rfl, trivial⟩ rfl rfl fun b_3 a w hf hc => ?_
      replace hf := castJ (u := undef) hb hf
      refine cNil ?_
      refine xThenN ?_
      intro ds u hau
      replace hc := hc.drop k2
      replace hc := hc.pick k0
      replace hc := hc.pick k1
      refine ⟨(setT θ 160 ⟨b_3, none, 0⟩), he.put hi hau hf rfl [] trivial ⟨qq, qq, qq, qq, qq, qq, qq, qq, qq, qq, qq, qq, qq, qq, qq, qq, qq, qq, qq, qq, qq, qq, qq, qq, qq, qq, qq, qq, qq, qq, qq, qq, qq, qq, qq, qq, qq, qq, qq, qq, qq, qq, qq, qq, qq, qq, qq, qq, qq, qq, qq, qq, qq, qq, qq, qq, qq, qq, trivial⟩, ?_⟩
      try dsimp only
      rw [updE_self E 20]
      rw [gE_T (notT hb)]
      exact hc
  · intro E θ a w hD hi hp he hc
    have e14 := hp.of (k := 14) rfl
    have e15 := hp.of (k := 15) rfl
    have e20 := hp.of (k := 20) rfl
    try dsimp only at hc
    rw [e20] at hc
    rcases boolEq ((((r_1.2 != 0) || (r_3.2 != 0)) || (r_5.2.2 != 0)) || (r_7.2.2 != 0)) with hb | hb
    · have hf := he.h0
      replace hf := hf.more he 24 rfl (onP e14)
      replace hf := castB hb hf
      replace hf := hf.more he 25 rfl (onP e15)
      replace hf := castCT hb hf
      replace hf := hf.more he 30 rfl (onP e20)
      replace hf := castCT hb hf
      rw [gE_F (notF hb)] at hc
      refine stS hf rfl rfl rfl fun a hf => ?_
      replace hf := castI (u := .bool r_8) hb hf
      refine cNil ?_
      refine xThenN ?_
      intro ds u hau
      refine ⟨θ, he.put0 hi hau hf rfl 31 rfl rfl, ?_⟩
      try dsimp only
      rw [updE_tru 21 e20]
      rw [gE_F (notF hb)]
      exact hc
    · have hf := he.h0
      replace hf := hf.more he 24 rfl (onP e14)
      replace hf := castB hb hf
      replace hf := hf.more he 25 rfl (onP e15)
      replace hf := castCF hb hf
      replace hf := hf.more he 30 rfl (onP e20)
      replace hf := castCF hb hf
      rw [gE_T (notT hb)] at hc
      refine stE hf hc rfl rfl rfl (eC (v := .bool r_8) (vs := [.slice p_2 r_1.1.length c_2, .slice (some ⟨(θ 160).b, 0, none⟩) 4 4]) (caps := []) en_24 rfl rfl rfl rfl (fun w hc => by obtain ⟨G1, hle1, hrd1, hc, hth1⟩ := lend hc k9; obtain ⟨G2, hle2, hrd2, hc, hth2⟩ := lend hc k1; exact (kit_Same_api_Span_ok r_1.1 ([(⟨28, 30⟩ : api_Span), (⟨38, 40⟩ : api_Span), (⟨48, 50⟩ : api_Span), (⟨58, 60⟩ : api_Span)] : List api_Span) (hrd1.mono hle2) hrd2 hc (condT (notT hb) hr_8)).mono fun e w h => ⟨h.1, ((hth1 _ _ ((hth2 _ _ h.2).unpick k1)).unpick k9)⟩)) fun a w hf hc => ?_
      replace hf := castJ (u := undef) hb hf
      refine cNil ?_
      refine xThenN ?_
      intro ds u hau
      refine ⟨θ, he.put0 hi hau hf rfl 31 rfl rfl, ?_⟩
      try dsimp only
      rw [updE_tru 21 e20]
      rw [gE_T (notT hb)]
      exact hc
  · intro E θ a w hD hi hp he hc
    have e14 := hp.of (k := 14) rfl
    have e21 := hp.of (k := 21) rfl
    rcases boolEq ((((r_1.2 != 0) || (r_3.2 != 0)) || (r_5.2.2 != 0)) || (r_7.2.2 != 0)) with hb | hb
    · have hf := he.h0
      replace hf := hf.more he 24 rfl (onP e14)
      replace hf := castB hb hf
      replace hf := hf.more he 31 rfl (onP e21)
      replace hf := castCT hb hf
      refine stS hf rfl rfl rfl fun a hf => ?_
      replace hf := castI (u := .bool (!r_8)) hb hf
      refine cNil ?_
      refine xThenN ?_
      intro ds u hau
      refine ⟨θ, he.put0 hi hau hf rfl 32 rfl rfl, ?_⟩
      exact hc
    · have hf := he.h0
      replace hf := hf.more he 24 rfl (onP e14)
      replace hf := castB hb hf
      replace hf := hf.more he 31 rfl (onP e21)
      replace hf := castCF hb hf
      refine stP hf rfl rfl rfl (pNot rfl) fun a hf => ?_
      replace hf := castJ (u := undef) hb hf
      refine cNil ?_
      refine xThenN ?_
      intro ds u hau
      refine ⟨θ, he.put0 hi hau hf rfl 32 rfl rfl, ?_⟩
      exact hc
  · intro E θ a w hD hi hp he hc
    have e14 := hp.of (k := 14) rfl
    have e22 := hp.of (k := 22) rfl
    rcases boolEq ((((r_1.2 != 0) || (r_3.2 != 0)) || (r_5.2.2 != 0)) || (r_7.2.2 != 0)) with hb | hb
    · have hf := he.h0
      replace hf := hf.more he 24 rfl (onP e14)
      replace hf := castB hb hf
      replace hf := hf.more he 32 rfl (onP e22)
      replace hf := castCT hb hf
      refine stP hf rfl rfl rfl (pPt rfl rfl) fun a hf => ?_
      replace hf := castV (v' := .bool (((((r_1.2 != 0) || (r_3.2 != 0)) || (r_5.2.2 != 0)) || (r_7.2.2 != 0)) || (!r_8))) (congrArg Value.bool (orT hb)) hf
      refine cNil ?_
      refine xThenN ?_
      intro ds u hau
      refine ⟨θ, he.put0 hi hau hf rfl 33 rfl rfl, ?_⟩
      exact hc
    · have hf := he.h0
      replace hf := hf.more he 24 rfl (onP e14)
      replace hf := castB hb hf
      replace hf := hf.more he 32 rfl (onP e22)
      replace hf := castCF hb hf
      refine stP hf rfl rfl rfl (pPf rfl rfl) fun a hf => ?_
      replace hf := castV (v' := .bool (((((r_1.2 != 0) || (r_3.2 != 0)) || (r_5.2.2 != 0)) || (r_7.2.2 != 0)) || (!r_8))) (congrArg Value.bool (orF hb)) hf
      refine cNil ?_
      refine xThenN ?_
      intro ds u hau
      refine ⟨θ, he.put0 hi hau hf rfl 33 rfl rfl, ?_⟩
      exact hc
  · intro E θ a w hD hi hp he hc
    have e23 := hp.of (k := 23) rfl
    have hf := he.h0
    replace hf := hf.more he 33 rfl (onP e23)
    refine stP hf rfl rfl rfl (pM rfl) fun a hf => ?_
    refine cNil ?_
    refine xThenN ?_
    intro ds u hau
    refine ⟨θ, he.put0 hi hau hf rfl 34 rfl rfl, ?_⟩
    exact hc
  · intro E θ a w hD hi hp he hc
    have e24 := hp.of (k := 24) rfl
    rcases boolEq (((((r_1.2 != 0) || (r_3.2 != 0)) || (r_5.2.2 != 0)) || (r_7.2.2 != 0)) || (!r_8)) with hb | hb
    · have hf := he.h0
      replace hf := hf.more he 2 rfl onT
      replace hf := hf.more he 34 rfl (onP e24)
      replace hf := castB hb hf
      refine stS hf rfl rfl rfl fun a hf => ?_
      replace hf := castI (u := .agg #[.int .i64 r_3.1.Lo, .int .i64 r_3.1.Hi]) hb hf
      refine cNil ?_
      refine xThenN ?_
      intro ds u hau
      refine ⟨θ, he.put0 hi hau hf rfl 35 rfl rfl, ?_⟩
      exact hc
    · have hf := he.h0
      replace hf := hf.more he 2 rfl onT
      replace hf := hf.more he 34 rfl (onP e24)
      replace hf := castB hb hf
      refine stE hf hc rfl rfl rfl (eLdN (vs := [.int .i64 r_3.1.Lo, .int .i64 r_3.1.Hi]) ag_30 rfl rfl (cells_box (n := 2) m6 rfl)) fun a w hf hc => ?_
      replace hf := castJ (u := undef) hb hf
      refine cNil ?_
      refine xThenN ?_
      intro ds u hau
      refine ⟨θ, he.put0 hi hau hf rfl 35 rfl rfl, ?_⟩
      exact hc
  · intro E θ a w hD hi hp he hc
    have e24 := hp.of (k := 24) rfl
    rcases boolEq (((((r_1.2 != 0) || (r_3.2 != 0)) || (r_5.2.2 != 0)) || (r_7.2.2 != 0)) || (!r_8)) with hb | hb
    · have hf := he.h0
      replace hf := hf.more he 34 rfl (onP e24)
      replace hf := castB hb hf
      refine stS hf rfl rfl rfl fun a hf => ?_
      replace hf := castI (u := .agg #[.int .i64 r_9.Lo, .int .i64 r_9.Hi]) hb hf
      refine cNil ?_
      refine xThenN ?_
      intro ds u hau
      refine ⟨θ, he.put0 hi hau hf rfl 36 rfl rfl, ?_⟩
      exact hc
    · have hf := he.h0
      replace hf := hf.more he 34 rfl (onP e24)
      replace hf := castB hb hf
      refine stE hf hc rfl rfl rfl (eC (v := .agg #[.int .i64 r_9.Lo, .int .i64 r_9.Hi]) (vs := [.int .i64 86, .int .i64 90]) (caps := []) en_47 rfl rfl rfl rfl (fun w hc => law07_span_ok 86 90 hc (condT (notT hb) hr_9))) fun a w hf hc => ?_
      replace hf := castJ (u := undef) hb hf
      refine cNil ?_
      refine xThenN ?_
      intro ds u hau
      refine ⟨θ, he.put0 hi hau hf rfl 36 rfl rfl, ?_⟩
      exact hc
  · intro E θ a w hD hi hp he hc
    have e24 := hp.of (k := 24) rfl
    have e25 := hp.of (k := 25) rfl
    have e26 := hp.of (k := 26) rfl
    rcases boolEq (((((r_1.2 != 0) || (r_3.2 != 0)) || (r_5.2.2 != 0)) || (r_7.2.2 != 0)) || (!r_8)) with hb | hb
    · have hf := he.h0
      replace hf := hf.more he 34 rfl (onP e24)
      replace hf := castB hb hf
      replace hf := hf.more he 35 rfl (onP e25)
      replace hf := castCT hb hf
      replace hf := hf.more he 36 rfl (onP e26)
      replace hf := castCT hb hf
      refine stS hf rfl rfl rfl fun a hf => ?_
      replace hf := castI (u := .bool (!(r_3.1.Lo == r_9.Lo && r_3.1.Hi == r_9.Hi))) hb hf
      refine cNil ?_
      refine xThenN ?_
      intro ds u hau
      refine ⟨θ, he.put0 hi hau hf rfl 37 rfl rfl, ?_⟩
      exact hc
    · have hf := he.h0
      replace hf := hf.more he 34 rfl (onP e24)
      replace hf := castB hb hf
      replace hf := hf.more he 35 rfl (onP e25)
      replace hf := castCF hb hf
      replace hf := hf.more he 36 rfl (onP e26)
      replace hf := castCF hb hf
      refine stP hf rfl rfl rfl (pNeA ge_30 rfl rfl (eqs_30 _ _ _ _)) fun a hf => ?_
      replace hf := castJ (u := undef) hb hf
      refine cNil ?_
      refine xThenN ?_
      intro ds u hau
      refine ⟨θ, he.put0 hi hau hf rfl 37 rfl rfl, ?_⟩
      exact hc
  · intro E θ a w hD hi hp he hc
    have e24 := hp.of (k := 24) rfl
    have e27 := hp.of (k := 27) rfl
    rcases boolEq (((((r_1.2 != 0) || (r_3.2 != 0)) || (r_5.2.2 != 0)) || (r_7.2.2 != 0)) || (!r_8)) with hb | hb
    · have hf := he.h0
      replace hf := hf.more he 34 rfl (onP e24)
      replace hf := castB hb hf
      replace hf := hf.more he 37 rfl (onP e27)
      replace hf := castCT hb hf
      refine stP hf rfl rfl rfl (pPt rfl rfl) fun a hf => ?_
      replace hf := castV (v' := .bool ((((((r_1.2 != 0) || (r_3.2 != 0)) || (r_5.2.2 != 0)) || (r_7.2.2 != 0)) || (!r_8)) || (!(r_3.1.Lo == r_9.Lo && r_3.1.Hi == r_9.Hi)))) (congrArg Value.bool (orT hb)) hf
      refine cNil ?_
      refine xThenN ?_
      intro ds u hau
      refine ⟨θ, he.put0 hi hau hf rfl 38 rfl rfl, ?_⟩
      exact hc
    · have hf := he.h0
      replace hf := hf.more he 34 rfl (onP e24)
      replace hf := castB hb hf
      replace hf := hf.more he 37 rfl (onP e27)
      replace hf := castCF hb hf
      refine stP hf rfl rfl rfl (pPf rfl rfl) fun a hf => ?_
      replace hf := castV (v' := .bool ((((((r_1.2 != 0) || (r_3.2 != 0)) || (r_5.2.2 != 0)) || (r_7.2.2 != 0)) || (!r_8)) || (!(r_3.1.Lo == r_9.Lo && r_3.1.Hi == r_9.Hi)))) (congrArg Value.bool (orF hb)) hf
      refine cNil ?_
      refine xThenN ?_
      intro ds u hau
      refine ⟨θ, he.put0 hi hau hf rfl 38 rfl rfl, ?_⟩
      exact hc
  · intro E θ a w hD hi hp he hc
    have e28 := hp.of (k := 28) rfl
    have hf := he.h0
    replace hf := hf.more he 38 rfl (onP e28)
    refine stP hf rfl rfl rfl (pM rfl) fun a hf => ?_
    refine cNil ?_
    refine xThenN ?_
    intro ds u hau
    refine ⟨θ, he.put0 hi hau hf rfl 39 rfl rfl, ?_⟩
    exact hc
  · intro E θ a w hD hi hp he hc
    have e29 := hp.of (k := 29) rfl
    rcases boolEq ((((((r_1.2 != 0) || (r_3.2 != 0)) || (r_5.2.2 != 0)) || (r_7.2.2 != 0)) || (!r_8)) || (!(r_3.1.Lo == r_9.Lo && r_3.1.Hi == r_9.Hi))) with hb | hb
    · have hf := he.h0
      replace hf := hf.more he 4 rfl onT
      replace hf := hf.more he 39 rfl (onP e29)
      replace hf := castB hb hf
      refine stS hf rfl rfl rfl fun a hf => ?_
      replace hf := castI (u := .agg #[.int .i64 r_5.1.Lo, .int .i64 r_5.1.Hi]) hb hf
      refine cNil ?_
      refine xThenN ?_
      intro ds u hau
      refine ⟨θ, he.put0 hi hau hf rfl 40 rfl rfl, ?_⟩
      exact hc
    · have hf := he.h0
      replace hf := hf.more he 4 rfl onT
      replace hf := hf.more he 39 rfl (onP e29)
      replace hf := castB hb hf
      refine stE hf hc rfl rfl rfl (eLdN (vs := [.int .i64 r_5.1.Lo, .int .i64 r_5.1.Hi]) ag_30 rfl rfl (cells_box (n := 2) m3 rfl)) fun a w hf hc => ?_
      replace hf := castJ (u := undef) hb hf
      refine cNil ?_
      refine xThenN ?_
      intro ds u hau
      refine ⟨θ, he.put0 hi hau hf rfl 40 rfl rfl, ?_⟩
      exact hc
  · intro E θ a w hD hi hp he hc
    have e29 := hp.of (k := 29) rfl
    rcases boolEq ((((((r_1.2 != 0) || (r_3.2 != 0)) || (r_5.2.2 != 0)) || (r_7.2.2 != 0)) || (!r_8)) || (!(r_3.1.Lo == r_9.Lo && r_3.1.Hi == r_9.Hi))) with hb | hb
    · have hf := he.h0
      replace hf := hf.more he 39 rfl (onP e29)
      replace hf := castB hb hf
      refine stS hf rfl rfl rfl fun a hf => ?_
      replace hf := castI (u := .agg #[.int .i64 r_10.Lo, .int .i64 r_10.Hi]) hb hf
      refine cNil ?_
      refine xThenN ?_
      intro ds u hau
      refine ⟨θ, he.put0 hi hau hf rfl 41 rfl rfl, ?_⟩
      exact hc
    · have hf := he.h0
      replace hf := hf.more he 39 rfl (onP e29)
      replace hf := castB hb hf
      refine stE hf hc rfl rfl rfl (eC (v := .agg #[.int .i64 r_10.Lo, .int .i64 r_10.Hi]) (vs := [.int .i64 58, .int .i64 60]) (caps := []) en_47 rfl rfl rfl rfl (fun w hc => law07_span_ok 58 60 hc (condT (notT hb) hr_10))) fun a w hf hc => ?_
      replace hf := castJ (u := undef) hb hf
      refine cNil ?_
      refine xThenN ?_
      intro ds u hau
      refine ⟨θ, he.put0 hi hau hf rfl 41 rfl rfl, ?_⟩
      exact hc
  · intro E θ a w hD hi hp he hc
    have e29 := hp.of (k := 29) rfl
    have e30 := hp.of (k := 30) rfl
    have e31 := hp.of (k := 31) rfl
    rcases boolEq ((((((r_1.2 != 0) || (r_3.2 != 0)) || (r_5.2.2 != 0)) || (r_7.2.2 != 0)) || (!r_8)) || (!(r_3.1.Lo == r_9.Lo && r_3.1.Hi == r_9.Hi))) with hb | hb
    · have hf := he.h0
      replace hf := hf.more he 39 rfl (onP e29)
      replace hf := castB hb hf
      replace hf := hf.more he 40 rfl (onP e30)
      replace hf := castCT hb hf
      replace hf := hf.more he 41 rfl (onP e31)
      replace hf := castCT hb hf
      refine stS hf rfl rfl rfl fun a hf => ?_
      replace hf := castI (u := .bool (!(r_5.1.Lo == r_10.Lo && r_5.1.Hi == r_10.Hi))) hb hf
      refine cNil ?_
      refine xThenN ?_
      intro ds u hau
      refine ⟨θ, he.put0 hi hau hf rfl 42 rfl rfl, ?_⟩
      exact hc
    · have hf := he.h0
      replace hf := hf.more he 39 rfl (onP e29)
      replace hf := castB hb hf
      replace hf := hf.more he 40 rfl (onP e30)
      replace hf := castCF hb hf
      replace hf := hf.more he 41 rfl (onP e31)
      replace hf := castCF hb hf
      refine stP hf rfl rfl rfl (pNeA ge_30 rfl rfl (eqs_30 _ _ _ _)) fun a hf => ?_
      replace hf := castJ (u := undef) hb hf
      refine cNil ?_
      refine xThenN ?_
      intro ds u hau
      refine ⟨θ, he.put0 hi hau hf rfl 42 rfl rfl, ?_⟩
      exact hc
  · intro E θ a w hD hi hp he hc
    have e29 := hp.of (k := 29) rfl
    have e32 := hp.of (k := 32) rfl
    rcases boolEq ((((((r_1.2 != 0) || (r_3.2 != 0)) || (r_5.2.2 != 0)) || (r_7.2.2 != 0)) || (!r_8)) || (!(r_3.1.Lo == r_9.Lo && r_3.1.Hi == r_9.Hi))) with hb | hb
    · have hf := he.h0
      replace hf := hf.more he 39 rfl (onP e29)
      replace hf := castB hb hf
      replace hf := hf.more he 42 rfl (onP e32)
      replace hf := castCT hb hf
      refine stP hf rfl rfl rfl (pPt rfl rfl) fun a hf => ?_
      replace hf := castV (v' := .bool (((((((r_1.2 != 0) || (r_3.2 != 0)) || (r_5.2.2 != 0)) || (r_7.2.2 != 0)) || (!r_8)) || (!(r_3.1.Lo == r_9.Lo && r_3.1.Hi == r_9.Hi))) || (!(r_5.1.Lo == r_10.Lo && r_5.1.Hi == r_10.Hi)))) (congrArg Value.bool (orT hb)) hf
      refine cNil ?_
      refine xThenN ?_
      intro ds u hau
      refine ⟨θ, he.put0 hi hau hf rfl 43 rfl rfl, ?_⟩
      exact hc
    · have hf := he.h0
      replace hf := hf.more he 39 rfl (onP e29)
      replace hf := castB hb hf
      replace hf := hf.more he 42 rfl (onP e32)
      replace hf := castCF hb hf
      refine stP hf rfl rfl rfl (pPf rfl rfl) fun a hf => ?_
      replace hf := castV (v' := .bool (((((((r_1.2 != 0) || (r_3.2 != 0)) || (r_5.2.2 != 0)) || (r_7.2.2 != 0)) || (!r_8)) || (!(r_3.1.Lo == r_9.Lo && r_3.1.Hi == r_9.Hi))) || (!(r_5.1.Lo == r_10.Lo && r_5.1.Hi == r_10.Hi)))) (congrArg Value.bool (orF hb)) hf
      refine cNil ?_
      refine xThenN ?_
      intro ds u hau
      refine ⟨θ, he.put0 hi hau hf rfl 43 rfl rfl, ?_⟩
      exact hc
  · intro E θ a w hD hi hp he hc
    have e33 := hp.of (k := 33) rfl
    have hf := he.h0
    replace hf := hf.more he 43 rfl (onP e33)
    refine stP hf rfl rfl rfl (pM rfl) fun a hf => ?_
    refine cNil ?_
    refine xThenN ?_
    intro ds u hau
    refine ⟨θ, he.put0 hi hau hf rfl 44 rfl rfl, ?_⟩
    exact hc
  · intro E θ a w hD hi hp he hc
    have e34 := hp.of (k := 34) rfl
    rcases boolEq (((((((r_1.2 != 0) || (r_3.2 != 0)) || (r_5.2.2 != 0)) || (r_7.2.2 != 0)) || (!r_8)) || (!(r_3.1.Lo == r_9.Lo && r_3.1.Hi == r_9.Hi))) || (!(r_5.1.Lo == r_10.Lo && r_5.1.Hi == r_10.Hi))) with hb | hb
    · have hf := he.h0
      replace hf := hf.more he 5 rfl onT
      replace hf := hf.more he 44 rfl (onP e34)
      replace hf := castB hb hf
      refine stS hf rfl rfl rfl fun a hf => ?_
      replace hf := castI (u := .slice p_5 r_5.2.1.length c_5) hb hf
      refine cNil ?_
      refine xThenN ?_
      intro ds u hau
      refine ⟨θ, he.put0 hi hau hf rfl 45 rfl rfl, ?_⟩
      exact hc
    · have hf := he.h0
      replace hf := hf.more he 5 rfl onT
      replace hf := hf.more he 44 rfl (onP e34)
      replace hf := castB hb hf
      refine stP hf rfl rfl rfl (pM rfl) fun a hf => ?_
      replace hf := castJ (u := undef) hb hf
      refine cNil ?_
      refine xThenN ?_
      intro ds u hau
      refine ⟨θ, he.put0 hi hau hf rfl 45 rfl rfl, ?_⟩
      exact hc
  · intro E θ a w hD hi hp he hc
    have e34 := hp.of (k := 34) rfl
    try dsimp only at hc
    rw [hi] at hc
    rcases boolEq (((((((r_1.2 != 0) || (r_3.2 != 0)) || (r_5.2.2 != 0)) || (r_7.2.2 != 0)) || (!r_8)) || (!(r_3.1.Lo == r_9.Lo && r_3.1.Hi == r_9.Hi))) || (!(r_5.1.Lo == r_10.Lo && r_5.1.Hi == r_10.Hi))) with hb | hb
    · have hf := he.h0
      replace hf := hf.more he 44 rfl (onP e34)
      replace hf := castB hb hf
      refine stS hf rfl rfl rfl fun a hf => ?_
      replace hf := castI (u := .slice (some ⟨(θ 288).b, 0, none⟩) 1 1) hb hf
      refine cNil ?_
      refine xThenN ?_
      intro ds u hau
      refine ⟨θ, he.put0 hi hau hf rfl 46 rfl rfl, ?_⟩
      try dsimp only
      rw [updE_self E 36]
      rw [gE_F (notF hb)]
      exact hc
    · have hf := he.h0
      replace hf := hf.more he 44 rfl (onP e34)
      replace hf := castB hb hf
      refine stBS (rows := ([3] : List Int).map encI_i64) (vs := [(0, .int .i64 3)]) hf hc rfl rfl sl_39 rfl ⟨rfl, rfl, rfl, trivial⟩ rfl rfl fun b_4 a w hf hc => ?_
      replace hf := castJ (u := undef) hb hf
      refine cNil ?_
      refine xThenN ?_
      intro ds u hau
      replace hc := hc.drop k1
      refine ⟨(setT θ 288 ⟨b_4, none, 0⟩), he.put hi hau hf rfl [] trivial ⟨qq, qq, qq, qq, qq, qq, qq, qq, qq, qq, qq, qq, qq, qq, qq, qq, qq, qq, qq, qq, qq, qq, qq, qq, qq, qq, qq, qq, qq, qq, qq, qq, qq, qq, qq, qq, qq, qq, qq, qq, qq, qq, qq, qq, qq, qq, qq, qq, qq, qq, qq, qq, qq, qq, qq, qq, qq, qq, trivial⟩, ?_⟩
      try dsimp only
      rw [updE_self E 36]
      rw [gE_T (notT hb)]
      exact hc
  · intro E θ a w hD hi hp he hc
    have e34 := hp.of (k := 34) rfl
    have e35 := hp.of (k := 35) rfl
    have e36 := hp.of (k := 36) rfl
    try dsimp only at hc
    rw [e36] at hc
    rcases boolEq (((((((r_1.2 != 0) || (r_3.2 != 0)) || (r_5.2.2 != 0)) || (r_7.2.2 != 0)) || (!r_8)) || (!(r_3.1.Lo == r_9.Lo && r_3.1.Hi == r_9.Hi))) || (!(r_5.1.Lo == r_10.Lo && r_5.1.Hi == r_10.Hi))) with hb | hb
    · have hf := he.h0
      replace hf := hf.more he 44 rfl (onP e34)
      replace hf := castB hb hf
      replace hf := hf.more he 45 rfl (onP e35)
      replace hf := castCT hb hf
      replace hf := hf.more he 46 rfl (onP e36)
      replace hf := castCT hb hf
      rw [gE_F (notF hb)] at hc
      refine stS hf rfl rfl rfl fun a hf => ?_
      replace hf := castI (u := .bool r_11) hb hf
      refine cNil ?_
      refine xThenN ?_
      intro ds u hau
      refine ⟨θ, he.put0 hi hau hf rfl 47 rfl rfl, ?_⟩
      try dsimp only
      rw [updE_tru 37 e36]
      rw [gE_F (notF hb)]
      exact hc
    · have hf := he.h0
      replace hf := hf.more he 44 rfl (onP e34)
      replace hf := castB hb hf
      replace hf := hf.more he 45 rfl (onP e35)
      replace hf := castCF hb hf
      replace hf := hf.more he 46 rfl (onP e36)
      replace hf := castCF hb hf
      rw [gE_T (notT hb)] at hc
      refine stE hf hc rfl rfl rfl (eC (v := .bool r_11) (vs := [.slice p_5 r_5.2.1.length c_5, .slice (some ⟨(θ 288).b, 0, none⟩) 1 1]) (caps := []) en_20 rfl rfl rfl rfl (fun w hc => by obtain ⟨G1, hle1, hrd1, hc, hth1⟩ := lend hc k5; obtain ⟨G2, hle2, hrd2, hc, hth2⟩ := lend hc k0; exact (kit_Same_int_ok r_5.2.1 ([3] : List Int) (hrd1.mono hle2) hrd2 hc (condT (notT hb) hr_11)).mono fun e w h => ⟨h.1, ((hth1 _ _ ((hth2 _ _ h.2).unpick k0)).unpick k5)⟩)) fun a w hf hc => ?_
      replace hf := castJ (u := undef) hb hf
      refine cNil ?_
      refine xThenN ?_
      intro ds u hau
      refine ⟨θ, he.put0 hi hau hf rfl 47 rfl rfl, ?_⟩
      try dsimp only
      rw [updE_tru 37 e36]
      rw [gE_T (notT hb)]
      exact hc
  · intro E θ a w hD hi hp he hc
    have e34 := hp.of (k := 34) rfl
    have e37 := hp.of (k := 37) rfl
    rcases boolEq (((((((r_1.2 != 0) || (r_3.2 != 0)) || (r_5.2.2 != 0)) || (r_7.2.2 != 0)) || (!r_8)) || (!(r_3.1.Lo == r_9.Lo && r_3.1.Hi == r_9.Hi))) || (!(r_5.1.Lo == r_10.Lo && r_5.1.Hi == r_10.Hi))) with hb | hb
    · have hf := he.h0
      replace hf := hf.more he 44 rfl (onP e34)
      replace hf := castB hb hf
      replace hf := hf.more he 47 rfl (onP e37)
      replace hf := castCT hb hf
      refine stS hf rfl rfl rfl fun a hf => ?_
      replace hf := castI (u := .bool (!r_11)) hb hf
      refine cNil ?_
      refine xThenN ?_
      intro ds u hau
      refine ⟨θ, he.put0 hi hau hf rfl 48 rfl rfl, ?_⟩
      exact hc
    · have hf := he.h0
      replace hf := hf.more he 44 rfl (onP e34)
      replace hf := castB hb hf
      replace hf := hf.more he 47 rfl (onP e37)
      replace hf := castCF hb hf
      refine stP hf rfl rfl rfl (pNot rfl) fun a hf => ?_
      replace hf := castJ (u := undef) hb hf
      refine cNil ?_
      refine xThenN ?_
      intro ds u hau
      refine ⟨θ, he.put0 hi hau hf rfl 48 rfl rfl, ?_⟩
      exact hc
  · intro E θ a w hD hi hp he hc
    have e34 := hp.of (k := 34) rfl
    have e38 := hp.of (k := 38) rfl
    rcases boolEq (((((((r_1.2 != 0) || (r_3.2 != 0)) || (r_5.2.2 != 0)) || (r_7.2.2 != 0)) || (!r_8)) || (!(r_3.1.Lo == r_9.Lo && r_3.1.Hi == r_9.Hi))) || (!(r_5.1.Lo == r_10.Lo && r_5.1.Hi == r_10.Hi))) with hb | hb
    · have hf := he.h0
      replace hf := hf.more he 44 rfl (onP e34)
      replace hf := castB hb hf
      replace hf := hf.more he 48 rfl (onP e38)
      replace hf := castCT hb hf
      refine stP hf rfl rfl rfl (pPt rfl rfl) fun a hf => ?_
      replace hf := castV (v' := .bool ((((((((r_1.2 != 0) || (r_3.2 != 0)) || (r_5.2.2 != 0)) || (r_7.2.2 != 0)) || (!r_8)) || (!(r_3.1.Lo == r_9.Lo && r_3.1.Hi == r_9.Hi))) || (!(r_5.1.Lo == r_10.Lo && r_5.1.Hi == r_10.Hi))) || (!r_11))) (congrArg Value.bool (orT hb)) hf
      refine cNil ?_
      refine xThenN ?_
      intro ds u hau
      refine ⟨θ, he.put0 hi hau hf rfl 49 rfl rfl, ?_⟩
      exact hc
    · have hf := he.h0
      replace hf := hf.more he 44 rfl (onP e34)
      replace hf := castB hb hf
      replace hf := hf.more he 48 rfl (onP e38)
      replace hf := castCF hb hf
      refine stP hf rfl rfl rfl (pPf rfl rfl) fun a hf => ?_
      replace hf := castV (v' := .bool ((((((((r_1.2 != 0) || (r_3.2 != 0)) || (r_5.2.2 != 0)) || (r_7.2.2 != 0)) || (!r_8)) || (!(r_3.1.Lo == r_9.Lo && r_3.1.Hi == r_9.Hi))) || (!(r_5.1.Lo == r_10.Lo && r_5.1.Hi == r_10.Hi))) || (!r_11))) (congrArg Value.bool (orF hb)) hf
      refine cNil ?_
      refine xThenN ?_
      intro ds u hau
      refine ⟨θ, he.put0 hi hau hf rfl 49 rfl rfl, ?_⟩
      exact hc
  · intro E θ a w hD hi hp he hc
    have e39 := hp.of (k := 39) rfl
    have hf := he.h0
    replace hf := hf.more he 49 rfl (onP e39)
    refine stP hf rfl rfl rfl (pM rfl) fun a hf => ?_
    refine cNil ?_
    refine xThenN ?_
    intro ds u hau
    refine ⟨θ, he.put0 hi hau hf rfl 50 rfl rfl, ?_⟩
    exact hc
  · intro E θ a w hD hi hp he hc
    have e40 := hp.of (k := 40) rfl
    rcases boolEq ((((((((r_1.2 != 0) || (r_3.2 != 0)) || (r_5.2.2 != 0)) || (r_7.2.2 != 0)) || (!r_8)) || (!(r_3.1.Lo == r_9.Lo && r_3.1.Hi == r_9.Hi))) || (!(r_5.1.Lo == r_10.Lo && r_5.1.Hi == r_10.Hi))) || (!r_11)) with hb | hb
    · have hf := he.h0
      replace hf := hf.more he 7 rfl onT
      replace hf := hf.more he 50 rfl (onP e40)
      replace hf := castB hb hf
      refine stS hf rfl rfl rfl fun a hf => ?_
      replace hf := castI (u := .int .i64 r_7.1) hb hf
      refine cNil ?_
      refine xThenN ?_
      intro ds u hau
      refine ⟨θ, he.put0 hi hau hf rfl 51 rfl rfl, ?_⟩
      exact hc
    · have hf := he.h0
      replace hf := hf.more he 7 rfl onT
      replace hf := hf.more he 50 rfl (onP e40)
      replace hf := castB hb hf
      refine stP hf rfl rfl rfl (pM rfl) fun a hf => ?_
      replace hf := castJ (u := undef) hb hf
      refine cNil ?_
      refine xThenN ?_
      intro ds u hau
      refine ⟨θ, he.put0 hi hau hf rfl 51 rfl rfl, ?_⟩
      exact hc
  · intro E θ a w hD hi hp he hc
    have e40 := hp.of (k := 40) rfl
    have e41 := hp.of (k := 41) rfl
    rcases boolEq ((((((((r_1.2 != 0) || (r_3.2 != 0)) || (r_5.2.2 != 0)) || (r_7.2.2 != 0)) || (!r_8)) || (!(r_3.1.Lo == r_9.Lo && r_3.1.Hi == r_9.Hi))) || (!(r_5.1.Lo == r_10.Lo && r_5.1.Hi == r_10.Hi))) || (!r_11)) with hb | hb
    · have hf := he.h0
      replace hf := hf.more he 50 rfl (onP e40)
      replace hf := castB hb hf
      replace hf := hf.more he 51 rfl (onP e41)
      replace hf := castCT hb hf
      refine stS hf rfl rfl rfl fun a hf => ?_
      replace hf := castI (u := .bool (r_7.1 != 0)) hb hf
      refine cNil ?_
      refine xThenN ?_
      intro ds u hau
      refine ⟨θ, he.put0 hi hau hf rfl 52 rfl rfl, ?_⟩
      exact hc
    · have hf := he.h0
      replace hf := hf.more he 50 rfl (onP e40)
      replace hf := castB hb hf
      replace hf := hf.more he 51 rfl (onP e41)
      replace hf := castCF hb hf
      refine stP hf rfl rfl rfl (pNe rfl rfl) fun a hf => ?_
      replace hf := castJ (u := undef) hb hf
      refine cNil ?_
      refine xThenN ?_
      intro ds u hau
      refine ⟨θ, he.put0 hi hau hf rfl 52 rfl rfl, ?_⟩
      exact hc
  · intro E θ a w hD hi hp he hc
    have e40 := hp.of (k := 40) rfl
    have e42 := hp.of (k := 42) rfl
    rcases boolEq ((((((((r_1.2 != 0) || (r_3.2 != 0)) || (r_5.2.2 != 0)) || (r_7.2.2 != 0)) || (!r_8)) || (!(r_3.1.Lo == r_9.Lo && r_3.1.Hi == r_9.Hi))) || (!(r_5.1.Lo == r_10.Lo && r_5.1.Hi == r_10.Hi))) || (!r_11)) with hb | hb
    · have hf := he.h0
      replace hf := hf.more he 50 rfl (onP e40)
      replace hf := castB hb hf
      replace hf := hf.more he 52 rfl (onP e42)
      replace hf := castCT hb hf
      refine stP hf rfl rfl rfl (pPt rfl rfl) fun a hf => ?_
      replace hf := castV (v' := .bool (((((((((r_1.2 != 0) || (r_3.2 != 0)) || (r_5.2.2 != 0)) || (r_7.2.2 != 0)) || (!r_8)) || (!(r_3.1.Lo == r_9.Lo && r_3.1.Hi == r_9.Hi))) || (!(r_5.1.Lo == r_10.Lo && r_5.1.Hi == r_10.Hi))) || (!r_11)) || (r_7.1 != 0))) (congrArg Value.bool (orT hb)) hf
      refine cNil ?_
      refine xThenN ?_
      intro ds u hau
      refine ⟨θ, he.put0 hi hau hf rfl 53 rfl rfl, ?_⟩
      exact hc
    · have hf := he.h0
      replace hf := hf.more he 50 rfl (onP e40)
      replace hf := castB hb hf
      replace hf := hf.more he 52 rfl (onP e42)
      replace hf := castCF hb hf
      refine stP hf rfl rfl rfl (pPf rfl rfl) fun a hf => ?_
      replace hf := castV (v' := .bool (((((((((r_1.2 != 0) || (r_3.2 != 0)) || (r_5.2.2 != 0)) || (r_7.2.2 != 0)) || (!r_8)) || (!(r_3.1.Lo == r_9.Lo && r_3.1.Hi == r_9.Hi))) || (!(r_5.1.Lo == r_10.Lo && r_5.1.Hi == r_10.Hi))) || (!r_11)) || (r_7.1 != 0))) (congrArg Value.bool (orF hb)) hf
      refine cNil ?_
      refine xThenN ?_
      intro ds u hau
      refine ⟨θ, he.put0 hi hau hf rfl 53 rfl rfl, ?_⟩
      exact hc
  · intro E θ a w hD hi hp he hc
    have e43 := hp.of (k := 43) rfl
    have hf := he.h0
    replace hf := hf.more he 53 rfl (onP e43)
    refine stP hf rfl rfl rfl (pM rfl) fun a hf => ?_
    refine cNil ?_
    refine xThenN ?_
    intro ds u hau
    refine ⟨θ, he.put0 hi hau hf rfl 54 rfl rfl, ?_⟩
    exact hc
  · intro E θ a w hD hi hp he hc
    have e44 := hp.of (k := 44) rfl
    rcases boolEq (((((((((r_1.2 != 0) || (r_3.2 != 0)) || (r_5.2.2 != 0)) || (r_7.2.2 != 0)) || (!r_8)) || (!(r_3.1.Lo == r_9.Lo && r_3.1.Hi == r_9.Hi))) || (!(r_5.1.Lo == r_10.Lo && r_5.1.Hi == r_10.Hi))) || (!r_11)) || (r_7.1 != 0)) with hb | hb
    · have hf := he.h0
      replace hf := hf.more he 8 rfl onT
      replace hf := hf.more he 54 rfl (onP e44)
      replace hf := castB hb hf
      refine stS hf rfl rfl rfl fun a hf => ?_
      replace hf := castI (u := .int .i64 r_7.2.1) hb hf
      refine cNil ?_
      refine xThenN ?_
      intro ds u hau
      refine ⟨θ, he.put0 hi hau hf rfl 55 rfl rfl, ?_⟩
      exact hc
    · have hf := he.h0
      replace hf := hf.more he 8 rfl onT
      replace hf := hf.more he 54 rfl (onP e44)
      replace hf := castB hb hf
      refine stP hf rfl rfl rfl (pM rfl) fun a hf => ?_
      replace hf := castJ (u := undef) hb hf
      refine cNil ?_
      refine xThenN ?_
      intro ds u hau
      refine ⟨θ, he.put0 hi hau hf rfl 55 rfl rfl, ?_⟩
      exact hc
  · intro E θ a w hD hi hp he hc
    have e44 := hp.of (k := 44) rfl
    have e45 := hp.of (k := 45) rfl
    rcases boolEq (((((((((r_1.2 != 0) || (r_3.2 != 0)) || (r_5.2.2 != 0)) || (r_7.2.2 != 0)) || (!r_8)) || (!(r_3.1.Lo == r_9.Lo && r_3.1.Hi == r_9.Hi))) || (!(r_5.1.Lo == r_10.Lo && r_5.1.Hi == r_10.Hi))) || (!r_11)) || (r_7.1 != 0)) with hb | hb
    · have hf := he.h0
      replace hf := hf.more he 54 rfl (onP e44)
      replace hf := castB hb hf
      replace hf := hf.more he 55 rfl (onP e45)
      replace hf := castCT hb hf
      refine stS hf rfl rfl rfl fun a hf => ?_
      replace hf := castI (u := .bool (r_7.2.1 != 3)) hb hf
      refine cNil ?_
      refine xThenN ?_
      intro ds u hau
      refine ⟨θ, he.put0 hi hau hf rfl 56 rfl rfl, ?_⟩
      exact hc
    · have hf := he.h0
      replace hf := hf.more he 54 rfl (onP e44)
      replace hf := castB hb hf
      replace hf := hf.more he 55 rfl (onP e45)
      replace hf := castCF hb hf
      refine stP hf rfl rfl rfl (pNe rfl rfl) fun a hf => ?_
      replace hf := castJ (u := undef) hb hf
      refine cNil ?_
      refine xThenN ?_
      intro ds u hau
      refine ⟨θ, he.put0 hi hau hf rfl 56 rfl rfl, ?_⟩
      exact hc
  · intro E θ a w hD hi hp he hc
    have e44 := hp.of (k := 44) rfl
    have e46 := hp.of (k := 46) rfl
    rcases boolEq (((((((((r_1.2 != 0) || (r_3.2 != 0)) || (r_5.2.2 != 0)) || (r_7.2.2 != 0)) || (!r_8)) || (!(r_3.1.Lo == r_9.Lo && r_3.1.Hi == r_9.Hi))) || (!(r_5.1.Lo == r_10.Lo && r_5.1.Hi == r_10.Hi))) || (!r_11)) || (r_7.1 != 0)) with hb | hb
    · have hf := he.h0
      replace hf := hf.more he 54 rfl (onP e44)
      replace hf := castB hb hf
      replace hf := hf.more he 56 rfl (onP e46)
      replace hf := castCT hb hf
      refine stP hf rfl rfl rfl (pPt rfl rfl) fun a hf => ?_
      replace hf := castV (v' := .bool ((((((((((r_1.2 != 0) || (r_3.2 != 0)) || (r_5.2.2 != 0)) || (r_7.2.2 != 0)) || (!r_8)) || (!(r_3.1.Lo == r_9.Lo && r_3.1.Hi == r_9.Hi))) || (!(r_5.1.Lo == r_10.Lo && r_5.1.Hi == r_10.Hi))) || (!r_11)) || (r_7.1 != 0)) || (r_7.2.1 != 3))) (congrArg Value.bool (orT hb)) hf
      refine cNil ?_
      refine xThenN ?_
      intro ds u hau
      refine ⟨θ, he.put0 hi hau hf rfl 57 rfl rfl, ?_⟩
      exact hc
    · have hf := he.h0
      replace hf := hf.more he 54 rfl (onP e44)
      replace hf := castB hb hf
      replace hf := hf.more he 56 rfl (onP e46)
      replace hf := castCF hb hf
      refine stP hf rfl rfl rfl (pPf rfl rfl) fun a hf => ?_
      replace hf := castV (v' := .bool ((((((((((r_1.2 != 0) || (r_3.2 != 0)) || (r_5.2.2 != 0)) || (r_7.2.2 != 0)) || (!r_8)) || (!(r_3.1.Lo == r_9.Lo && r_3.1.Hi == r_9.Hi))) || (!(r_5.1.Lo == r_10.Lo && r_5.1.Hi == r_10.Hi))) || (!r_11)) || (r_7.1 != 0)) || (r_7.2.1 != 3))) (congrArg Value.bool (orF hb)) hf
      refine cNil ?_
      refine xThenN ?_
      intro ds u hau
      refine ⟨θ, he.put0 hi hau hf rfl 57 rfl rfl, ?_⟩
      exact hc
  · intro E θ a w hall he hc
    have hf := he.h0
    have e20 := hall 20 rfl
    have e36 := hall 36 rfl
    have e47 := hall 47 rfl
    replace hf := hf.more he 57 rfl (onP e47)
    try dsimp only at hc
    rw [e20, e36] at hc
    replace hc := hc.drop k1
    replace hc := hc.drop k0
    exact ⟨hf.keep ⟨rfl, trivial⟩, hc⟩
  rintro a w ⟨hf, hc⟩
  refine h7 _ _ ?_
  refine cCond (b := ((((((((((r_1.2 != 0) || (r_3.2 != 0)) || (r_5.2.2 != 0)) || (r_7.2.2 != 0)) || (!r_8)) || (!(r_3.1.Lo == r_9.Lo && r_3.1.Hi == r_9.Hi))) || (!(r_5.1.Lo == r_10.Lo && r_5.1.Hi == r_10.Hi))) || (!r_11)) || (r_7.1 != 0)) || (r_7.2.1 != 3))) hf rfl (fun hb => ?_) (fun hb => ?_)
  · replace hF := condT hb hF
    clear hb
    refine wp_seq_k fun K8 h8 => ?_
    refine cReg ?_
    refine stP hf rfl rfl rfl (pA rfl) fun a hf => ?_
    refine cNil ?_
    refine h8 _ _ ?_
    refine wp_ret ?_
    refine xThenR ?_
    obtain rfl := Option.some.inj hF
    replace hc := hc.drop k7
    replace hc := hc.drop k6
    replace hc := hc.drop k5
    replace hc := hc.drop k4
    replace hc := hc.drop k3
    replace hc := hc.drop k2
    replace hc := hc.drop k1
    replace hc := hc.drop k0
    exact fnOut1 (by simp) rfl Try.results12 hf hc (show look _ 0 = _ from rfl) ⟨rfl, hc⟩
  · replace hF := condF hb hF
    clear hb
    refine wp_skip ?_
    refine h6 _ _ ?_
    refine wp_seq_k fun K9 h9 => ?_
    refine cReg ?_
    obtain ⟨r_12, hr_12, hF⟩ := bnd_some hF
    refine stC (vs := [.int .i64 58]) (caps := []) hf rfl rfl rfl en_58 rfl rfl rfl rfl (law07_Four_ok 58 hc hr_12) ?_
    rintro _ w ⟨p_7, c_7, rfl, hc⟩
    refine ⟨_, rfl, fun a hf => ?_⟩
    refine stP hf rfl rfl rfl (pBuildS (cells := [.int .i64 20, .int .i64 35]) bt_30 rfl rfl) fun a hf => ?_
    refine stP hf rfl rfl rfl (pBuildS (cells := [.int .i64 30, .int .i64 40]) bt_30 rfl rfl) fun a hf => ?_
    refine stP hf rfl rfl rfl (pBuildS (cells := [.int .i64 49, .int .i64 60]) bt_30 rfl rfl) fun a hf => ?_
    refine stP hf rfl rfl rfl (pBuildS (cells := [.int .i64 50, .int .i64 60]) bt_30 rfl rfl) fun a hf => ?_
    refine stBS (rows := ([(⟨20, 35⟩ : api_Span), (⟨30, 40⟩ : api_Span), (⟨49, 60⟩ : api_Span), (⟨50, 60⟩ : api_Span)] : List api_Span).map enc_api_Span) (vs := [(0, .agg #[.int .i64 20, .int .i64 35]), (1, .agg #[.int .i64 30, .int .i64 40]), (2, .agg #[.int .i64 49, .int .i64 60]), (3, .agg #[.int .i64 50, .int .i64 60])]) hf hc rfl rfl sl_25 rfl ⟨rfl, rfl, rfl, rfl, rfl, rfl, rfl, rfl, rfl, rfl, rfl, rfl, trivial⟩ rfl rfl fun b_5 a w hf hc => ?_
    obtain ⟨r_13, hr_13, hF⟩ := bnd_some hF
    obtain ⟨G1, hle1, hrd1, hc, hth1⟩ := lend hc k1
    obtain ⟨G2, hle2, hrd2, hc, hth2⟩ := lend hc k0
    refine stC (vs := [.agg #[.int .i64 r_12.Rise, .int .i64 r_12.Fall, .slice p_7 r_12.Days.length c_7], .slice (some ⟨b_5, 0, none⟩) 4 4]) (caps := []) hf rfl rfl rfl en_21 rfl rfl rfl rfl (daily_Again_ok r_12 ([(⟨20, 35⟩ : api_Span), (⟨30, 40⟩ : api_Span), (⟨49, 60⟩ : api_Span), (⟨50, 60⟩ : api_Span)] : List api_Span) (hrd1.mono hle2) hrd2 hc hr_13) ?_
    rintro _ w ⟨p_8, c_8, rfl, hc⟩
    refine ⟨_, rfl, fun a hf => ?_⟩
    replace hc := hth2 _ _ hc
    replace hc := hth1 _ _ hc
    refine stP hf rfl rfl rfl (pM rfl) fun a hf => ?_
    refine stP hf rfl rfl rfl (pX rfl rfl) fun a hf => ?_
    refine stP hf rfl rfl rfl (pX rfl rfl) fun a hf => ?_
    refine stP hf rfl rfl rfl (pA rfl) fun a hf => ?_
    refine stP hf rfl rfl rfl (pA rfl) fun a hf => ?_
    refine cNil ?_
    refine h9 _ _ ?_
    refine wp_seq_k fun K10 h10 => ?_
    refine cReg ?_
    refine stBS (rows := ([10, 14, 12, 20] : List Int).map encI_i64) (vs := [(0, .int .i64 10), (1, .int .i64 14), (2, .int .i64 12), (3, .int .i64 20)]) hf hc rfl rfl sl_39 rfl ⟨rfl, rfl, rfl, rfl, rfl, rfl, rfl, rfl, rfl, rfl, rfl, rfl, trivial⟩ rfl rfl fun b_6 a w hf hc => ?_
    obtain ⟨r_14, hr_14, hF⟩ := bnd_some hF
    obtain ⟨G1, hle1, hrd1, hc, hth1⟩ := lend hc k0
    refine stC (vs := [.slice (some ⟨b_6, 0, none⟩) 4 4]) (caps := []) hf rfl rfl rfl en_59 rfl rfl rfl rfl (law07_Counter_ok ([10, 14, 12, 20] : List Int) hrd1 hc hr_14) ?_
    rintro _ w ⟨p_9, c_9, rfl, hc⟩
    refine ⟨_, rfl, fun a hf => ?_⟩
    replace hc := hth1 _ _ hc
    obtain ⟨r_15, hr_15, hF⟩ := bnd_some hF
    obtain ⟨G1, hle1, hrd1, hc, hth1⟩ := lend hc k1
    refine stC (vs := [.slice p_9 r_14.length c_9]) (caps := []) hf rfl rfl rfl en_51 rfl rfl rfl rfl (daily_Correct_ok r_14 hrd1 hc hr_15) ?_
    rintro _ w ⟨p_10, c_10, rfl, hc⟩
    refine ⟨_, rfl, fun a hf => ?_⟩
    replace hc := hth1 _ _ hc
    refine stP hf rfl rfl rfl (pM rfl) fun a hf => ?_
    refine stP hf rfl rfl rfl (pX rfl rfl) fun a hf => ?_
    refine stP hf rfl rfl rfl (pX rfl rfl) fun a hf => ?_
    refine stP hf rfl rfl rfl (pX rfl rfl) fun a hf => ?_
    refine stP hf rfl rfl rfl (pA rfl) fun a hf => ?_
    refine stP hf rfl rfl rfl (pA rfl) fun a hf => ?_
    refine stP hf rfl rfl rfl (pA rfl) fun a hf => ?_
    refine cNil ?_
    refine h10 _ _ ?_
    refine wp_seq_k fun K11 h11 => ?_
    refine cReg ?_
    refine stBS (rows := ([9, 5, 7, 3] : List Int).map encI_i64) (vs := [(0, .int .i64 9), (1, .int .i64 5), (2, .int .i64 7), (3, .int .i64 3)]) hf hc rfl rfl sl_39 rfl ⟨rfl, rfl, rfl, rfl, rfl, rfl, rfl, rfl, rfl, rfl, rfl, rfl, trivial⟩ rfl rfl fun b_7 a w hf hc => ?_
    obtain ⟨r_16, hr_16, hF⟩ := bnd_some hF
    obtain ⟨G1, hle1, hrd1, hc, hth1⟩ := lend hc k0
    refine stC (vs := [.slice (some ⟨b_7, 0, none⟩) 4 4]) (caps := []) hf rfl rfl rfl en_59 rfl rfl rfl rfl (law07_Counter_ok ([9, 5, 7, 3] : List Int) hrd1 hc hr_16) ?_
    rintro _ w ⟨p_11, c_11, rfl, hc⟩
    refine ⟨_, rfl, fun a hf => ?_⟩
    replace hc := hth1 _ _ hc
    refine stP hf rfl rfl rfl (pBuildS (cells := [.int .i64 0, .int .i64 1, .int .i64 1]) bt_111 rfl rfl) fun a hf => ?_
    refine stP hf rfl rfl rfl (pBuildS (cells := [.int .i64 2, .int .i64 3, .int .i64 1]) bt_111 rfl rfl) fun a hf => ?_
    refine stBS (rows := ([(⟨0, 1, 1⟩ : daily_Fall), (⟨2, 3, 1⟩ : daily_Fall)] : List daily_Fall).map enc_daily_Fall) (vs := [(0, .agg #[.int .i64 0, .int .i64 1, .int .i64 1]), (1, .agg #[.int .i64 2, .int .i64 3, .int .i64 1])]) hf hc rfl rfl sl_103 rfl ⟨rfl, rfl, rfl, rfl, rfl, rfl, trivial⟩ rfl rfl fun b_8 a w hf hc => ?_
    obtain ⟨r_17, hr_17, hF⟩ := bnd_some hF
    refine stE hf hc rfl rfl rfl (eC (v := .tuple #[.int .i64 r_17.1, .int .i64 r_17.2]) (vs := [.slice p_11 r_16.length c_11, .slice (some ⟨b_8, 0, none⟩) 2 2]) (caps := []) en_54 rfl rfl rfl rfl (fun w hc => by obtain ⟨G1, hle1, hrd1, hc, hth1⟩ := lend hc k2; obtain ⟨G2, hle2, hrd2, hc, hth2⟩ := lend hc k0; exact (daily_Proves_ok r_16 ([(⟨0, 1, 1⟩ : daily_Fall), (⟨2, 3, 1⟩ : daily_Fall)] : List daily_Fall) (hrd1.mono hle2) hrd2 hc hr_17).mono fun e w h => ⟨h.1, ((hth1 _ _ ((hth2 _ _ h.2).unpick k0)).unpick k2)⟩)) fun a w hf hc => ?_
    refine stP hf rfl rfl rfl (pM rfl) fun a hf => ?_
    refine stP hf rfl rfl rfl (pX rfl rfl) fun a hf => ?_
    refine stP hf rfl rfl rfl (pX rfl rfl) fun a hf => ?_
    refine stP hf rfl rfl rfl (pA rfl) fun a hf => ?_
    refine stP hf rfl rfl rfl (pA rfl) fun a hf => ?_
    refine cNil ?_
    refine h11 _ _ ?_
    refine wp_seq_k fun K12 h12 => ?_
    refine cReg ?_
    refine stP hf rfl rfl rfl (pM rfl) fun a hf => ?_
    refine stP hf rfl rfl rfl (pEq rfl rfl) fun a hf => ?_
    refine stP hf rfl rfl rfl (pM rfl) fun a hf => ?_
    refine stCut 3 (fun a w => Has 139 a [(11, .slice p_8 r_13.1.length c_8), (2, .int .i64 r_13.2), (12, .slice p_10 r_15.1.length c_10), (13, .int .i64 r_15.2.1), (4, .int .i64 r_15.2.2), (14, .int .i64 r_17.1), (7, .int .i64 r_17.2), (111, .int .i64 r_13.2), (112, .bool (r_13.2 == 0)), (113, .bool (r_13.2 == 0)), (116, .bool ((r_13.2 == 0) && (r_15.2.2 == 0)))] ∧ Ctx G (.row (some ⟨b_8, 0, none⟩) 2 (([(⟨0, 1, 1⟩ : daily_Fall), (⟨2, 3, 1⟩ : daily_Fall)] : List daily_Fall).map enc_daily_Fall) 111 3 :: .row (some ⟨b_7, 0, none⟩) 4 (([9, 5, 7, 3] : List Int).map encI_i64) 3 1 :: .row p_11 c_11 (r_16.map enc_daily_Reading) 102 2 :: .row p_9 c_9 (r_14.map enc_daily_Reading) 102 2 :: .row p_10 c_10 (r_15.1.map encI_i64) 3 1 :: .row (some ⟨b_6, 0, none⟩) 4 (([10, 14, 12, 20] : List Int).map encI_i64) 3 1 :: .row p_7 c_7 (r_12.Days.map enc_daily_Value) 56 3 :: .row (some ⟨b_5, 0, none⟩) 4 (([(⟨20, 35⟩ : api_Span), (⟨30, 40⟩ : api_Span), (⟨49, 60⟩ : api_Span), (⟨50, 60⟩ : api_Span)] : List api_Span).map enc_api_Span) 30 2 :: .row p_8 c_8 (r_13.1.map encI_i64) 3 1 :: .row p_6 c_6 (r_6.Days.map enc_daily_Value) 56 3 :: .box b_2 [.int .i64 r_5.1.Lo, .int .i64 r_5.1.Hi] 30 :: .row p_4 c_4 (r_4.Days.map enc_daily_Value) 56 3 :: .row p_5 c_5 (r_5.2.1.map encI_i64) 3 1 :: .box b_1 [.int .i64 r_3.1.Lo, .int .i64 r_3.1.Hi] 30 :: .row p_3 c_3 (r_2.Days.map enc_daily_Value) 56 3 :: .row p_1 c_1 (r.Days.map enc_daily_Value) 56 3 :: .row p_2 c_2 (r_1.1.map enc_api_Span) 30 2 :: Lf) w) ?_ ?_
    · cases hb : (r_13.2 == 0)
      · rw [hb] at hf
        refine stS hf rfl rfl rfl fun a hf => ?_
        refine stS hf rfl rfl rfl fun a hf => ?_
        refine stP hf rfl rfl rfl (pPf rfl rfl) fun a hf => ?_
        exact cNil ⟨hf.keep ⟨rfl, rfl, rfl, rfl, rfl, rfl, rfl, rfl, rfl, rfl, rfl, trivial⟩, hc⟩
      · rw [hb] at hf
        refine stP hf rfl rfl rfl (pM rfl) fun a hf => ?_
        refine stP hf rfl rfl rfl (pEq rfl rfl) fun a hf => ?_
        refine stP hf rfl rfl rfl (pPt rfl rfl) fun a hf => ?_
        exact cNil ⟨hf.keep ⟨rfl, rfl, rfl, rfl, rfl, rfl, rfl, rfl, rfl, rfl, rfl, trivial⟩, hc⟩
    intro a w ⟨hf, hc⟩
    refine stP hf rfl rfl rfl (pM rfl) fun a hf => ?_
    refine stCut 3 (fun a w => Has 139 a [(11, .slice p_8 r_13.1.length c_8), (2, .int .i64 r_13.2), (12, .slice p_10 r_15.1.length c_10), (13, .int .i64 r_15.2.1), (4, .int .i64 r_15.2.2), (14, .int .i64 r_17.1), (7, .int .i64 r_17.2), (111, .int .i64 r_13.2), (112, .bool (r_13.2 == 0)), (113, .bool (r_13.2 == 0)), (116, .bool ((r_13.2 == 0) && (r_15.2.2 == 0))), (117, .bool ((r_13.2 == 0) && (r_15.2.2 == 0))), (120, .bool (((r_13.2 == 0) && (r_15.2.2 == 0)) && (r_17.2 == 0)))] ∧ Ctx G (.row (some ⟨b_8, 0, none⟩) 2 (([(⟨0, 1, 1⟩ : daily_Fall), (⟨2, 3, 1⟩ : daily_Fall)] : List daily_Fall).map enc_daily_Fall) 111 3 :: .row (some ⟨b_7, 0, none⟩) 4 (([9, 5, 7, 3] : List Int).map encI_i64) 3 1 :: .row p_11 c_11 (r_16.map enc_daily_Reading) 102 2 :: .row p_9 c_9 (r_14.map enc_daily_Reading) 102 2 :: .row p_10 c_10 (r_15.1.map encI_i64) 3 1 :: .row (some ⟨b_6, 0, none⟩) 4 (([10, 14, 12, 20] : List Int).map encI_i64) 3 1 :: .row p_7 c_7 (r_12.Days.map enc_daily_Value) 56 3 :: .row (some ⟨b_5, 0, none⟩) 4 (([(⟨20, 35⟩ : api_Span), (⟨30, 40⟩ : api_Span), (⟨49, 60⟩ : api_Span), (⟨50, 60⟩ : api_Span)] : List api_Span).map enc_api_Span) 30 2 :: .row p_8 c_8 (r_13.1.map encI_i64) 3 1 :: .row p_6 c_6 (r_6.Days.map enc_daily_Value) 56 3 :: .box b_2 [.int .i64 r_5.1.Lo, .int .i64 r_5.1.Hi] 30 :: .row p_4 c_4 (r_4.Days.map enc_daily_Value) 56 3 :: .row p_5 c_5 (r_5.2.1.map encI_i64) 3 1 :: .box b_1 [.int .i64 r_3.1.Lo, .int .i64 r_3.1.Hi] 30 :: .row p_3 c_3 (r_2.Days.map enc_daily_Value) 56 3 :: .row p_1 c_1 (r.Days.map enc_daily_Value) 56 3 :: .row p_2 c_2 (r_1.1.map enc_api_Span) 30 2 :: Lf) w) ?_ ?_
    · cases hb : ((r_13.2 == 0) && (r_15.2.2 == 0))
      · rw [hb] at hf
        refine stS hf rfl rfl rfl fun a hf => ?_
        refine stS hf rfl rfl rfl fun a hf => ?_
        refine stP hf rfl rfl rfl (pPf rfl rfl) fun a hf => ?_
        exact cNil ⟨hf.keep ⟨rfl, rfl, rfl, rfl, rfl, rfl, rfl, rfl, rfl, rfl, rfl, rfl, rfl, trivial⟩, hc⟩
      · rw [hb] at hf
        refine stP hf rfl rfl rfl (pM rfl) fun a hf => ?_
        refine stP hf rfl rfl rfl (pEq rfl rfl) fun a hf => ?_
        refine stP hf rfl rfl rfl (pPt rfl rfl) fun a hf => ?_
        exact cNil ⟨hf.keep ⟨rfl, rfl, rfl, rfl, rfl, rfl, rfl, rfl, rfl, rfl, rfl, rfl, rfl, trivial⟩, hc⟩
    intro a w ⟨hf, hc⟩
    refine stP hf rfl rfl rfl (pM rfl) fun a hf => ?_
    obtain ⟨t_1, ht_1, hF⟩ := bnd_some hF
    refine stCut 4 (fun a w => Has 139 a [(11, .slice p_8 r_13.1.length c_8), (2, .int .i64 r_13.2), (12, .slice p_10 r_15.1.length c_10), (13, .int .i64 r_15.2.1), (4, .int .i64 r_15.2.2), (14, .int .i64 r_17.1), (7, .int .i64 r_17.2), (111, .int .i64 r_13.2), (112, .bool (r_13.2 == 0)), (113, .bool (r_13.2 == 0)), (116, .bool ((r_13.2 == 0) && (r_15.2.2 == 0))), (117, .bool ((r_13.2 == 0) && (r_15.2.2 == 0))), (120, .bool (((r_13.2 == 0) && (r_15.2.2 == 0)) && (r_17.2 == 0))), (121, .bool (((r_13.2 == 0) && (r_15.2.2 == 0)) && (r_17.2 == 0))), (125, .bool t_1)] ∧ Ctx G (.row (some ⟨b_8, 0, none⟩) 2 (([(⟨0, 1, 1⟩ : daily_Fall), (⟨2, 3, 1⟩ : daily_Fall)] : List daily_Fall).map enc_daily_Fall) 111 3 :: .row (some ⟨b_7, 0, none⟩) 4 (([9, 5, 7, 3] : List Int).map encI_i64) 3 1 :: .row p_11 c_11 (r_16.map enc_daily_Reading) 102 2 :: .row p_9 c_9 (r_14.map enc_daily_Reading) 102 2 :: .row p_10 c_10 (r_15.1.map encI_i64) 3 1 :: .row (some ⟨b_6, 0, none⟩) 4 (([10, 14, 12, 20] : List Int).map encI_i64) 3 1 :: .row p_7 c_7 (r_12.Days.map enc_daily_Value) 56 3 :: .row (some ⟨b_5, 0, none⟩) 4 (([(⟨20, 35⟩ : api_Span), (⟨30, 40⟩ : api_Span), (⟨49, 60⟩ : api_Span), (⟨50, 60⟩ : api_Span)] : List api_Span).map enc_api_Span) 30 2 :: .row p_8 c_8 (r_13.1.map encI_i64) 3 1 :: .row p_6 c_6 (r_6.Days.map enc_daily_Value) 56 3 :: .box b_2 [.int .i64 r_5.1.Lo, .int .i64 r_5.1.Hi] 30 :: .row p_4 c_4 (r_4.Days.map enc_daily_Value) 56 3 :: .row p_5 c_5 (r_5.2.1.map encI_i64) 3 1 :: .box b_1 [.int .i64 r_3.1.Lo, .int .i64 r_3.1.Hi] 30 :: .row p_3 c_3 (r_2.Days.map enc_daily_Value) 56 3 :: .row p_1 c_1 (r.Days.map enc_daily_Value) 56 3 :: .row p_2 c_2 (r_1.1.map enc_api_Span) 30 2 :: Lf) w) ?_ ?_
    · cases hb : (((r_13.2 == 0) && (r_15.2.2 == 0)) && (r_17.2 == 0))
      · rw [hb] at hf
        have hF := condF hb ht_1
        obtain rfl := Option.some.inj hF
        refine stS hf rfl rfl rfl fun a hf => ?_
        refine stS hf rfl rfl rfl fun a hf => ?_
        refine stS hf rfl rfl rfl fun a hf => ?_
        refine stP hf rfl rfl rfl (pPf rfl rfl) fun a hf => ?_
        exact cNil ⟨hf.keep ⟨rfl, rfl, rfl, rfl, rfl, rfl, rfl, rfl, rfl, rfl, rfl, rfl, rfl, rfl, rfl, trivial⟩, hc⟩
      · rw [hb] at hf
        have hF := condT hb ht_1
        refine stP hf rfl rfl rfl (pM rfl) fun a hf => ?_
        refine stBS (rows := ([2] : List Int).map encI_i64) (vs := [(0, .int .i64 2)]) hf hc rfl rfl sl_39 rfl ⟨rfl, rfl, rfl, trivial⟩ rfl rfl fun b_9 a w hf hc => ?_
        obtain ⟨r_18, hr_18, hF⟩ := bnd_some hF
        refine stE hf hc rfl rfl rfl (eC (v := .bool r_18) (vs := [.slice p_8 r_13.1.length c_8, .slice (some ⟨b_9, 0, none⟩) 1 1]) (caps := []) en_20 rfl rfl rfl rfl (fun w hc => by obtain ⟨G1, hle1, hrd1, hc, hth1⟩ := lend hc k9; obtain ⟨G2, hle2, hrd2, hc, hth2⟩ := lend hc k0; exact (kit_Same_int_ok r_13.1 ([2] : List Int) (hrd1.mono hle2) hrd2 hc hr_18).mono fun e w h => ⟨h.1, ((hth1 _ _ ((hth2 _ _ h.2).unpick k0)).unpick k9)⟩)) fun a w hf hc => ?_
        refine stP hf rfl rfl rfl (pPt rfl rfl) fun a hf => ?_
        replace hc := hc.drop k0
        obtain rfl := Option.some.inj hF
        exact cNil ⟨hf.keep ⟨rfl, rfl, rfl, rfl, rfl, rfl, rfl, rfl, rfl, rfl, rfl, rfl, rfl, rfl, rfl, trivial⟩, hc⟩
    intro a w ⟨hf, hc⟩
    refine stP hf rfl rfl rfl (pM rfl) fun a hf => ?_
    obtain ⟨t_2, ht_2, hF⟩ := bnd_some hF
    refine stCut 4 (fun a w => Has 139 a [(11, .slice p_8 r_13.1.length c_8), (2, .int .i64 r_13.2), (12, .slice p_10 r_15.1.length c_10), (13, .int .i64 r_15.2.1), (4, .int .i64 r_15.2.2), (14, .int .i64 r_17.1), (7, .int .i64 r_17.2), (111, .int .i64 r_13.2), (112, .bool (r_13.2 == 0)), (113, .bool (r_13.2 == 0)), (116, .bool ((r_13.2 == 0) && (r_15.2.2 == 0))), (117, .bool ((r_13.2 == 0) && (r_15.2.2 == 0))), (120, .bool (((r_13.2 == 0) && (r_15.2.2 == 0)) && (r_17.2 == 0))), (121, .bool (((r_13.2 == 0) && (r_15.2.2 == 0)) && (r_17.2 == 0))), (125, .bool t_1), (126, .bool t_1), (130, .bool t_2)] ∧ Ctx G (.row (some ⟨b_8, 0, none⟩) 2 (([(⟨0, 1, 1⟩ : daily_Fall), (⟨2, 3, 1⟩ : daily_Fall)] : List daily_Fall).map enc_daily_Fall) 111 3 :: .row (some ⟨b_7, 0, none⟩) 4 (([9, 5, 7, 3] : List Int).map encI_i64) 3 1 :: .row p_11 c_11 (r_16.map enc_daily_Reading) 102 2 :: .row p_9 c_9 (r_14.map enc_daily_Reading) 102 2 :: .row p_10 c_10 (r_15.1.map encI_i64) 3 1 :: .row (some ⟨b_6, 0, none⟩) 4 (([10, 14, 12, 20] : List Int).map encI_i64) 3 1 :: .row p_7 c_7 (r_12.Days.map enc_daily_Value) 56 3 :: .row (some ⟨b_5, 0, none⟩) 4 (([(⟨20, 35⟩ : api_Span), (⟨30, 40⟩ : api_Span), (⟨49, 60⟩ : api_Span), (⟨50, 60⟩ : api_Span)] : List api_Span).map enc_api_Span) 30 2 :: .row p_8 c_8 (r_13.1.map encI_i64) 3 1 :: .row p_6 c_6 (r_6.Days.map enc_daily_Value) 56 3 :: .box b_2 [.int .i64 r_5.1.Lo, .int .i64 r_5.1.Hi] 30 :: .row p_4 c_4 (r_4.Days.map enc_daily_Value) 56 3 :: .row p_5 c_5 (r_5.2.1.map encI_i64) 3 1 :: .box b_1 [.int .i64 r_3.1.Lo, .int .i64 r_3.1.Hi] 30 :: .row p_3 c_3 (r_2.Days.map enc_daily_Value) 56 3 :: .row p_1 c_1 (r.Days.map enc_daily_Value) 56 3 :: .row p_2 c_2 (r_1.1.map enc_api_Span) 30 2 :: Lf) w) ?_ ?_
    · cases hb : t_1
      · rw [hb] at hf
        have hF := condF hb ht_2
        obtain rfl := Option.some.inj hF
        refine stS hf rfl rfl rfl fun a hf => ?_
        refine stS hf rfl rfl rfl fun a hf => ?_
        refine stS hf rfl rfl rfl fun a hf => ?_
        refine stP hf rfl rfl rfl (pPf rfl rfl) fun a hf => ?_
        exact cNil ⟨hf.keep ⟨rfl, rfl, rfl, rfl, rfl, rfl, rfl, rfl, rfl, rfl, rfl, rfl, rfl, rfl, rfl, rfl, rfl, trivial⟩, hc⟩
      · rw [hb] at hf
        have hF := condT hb ht_2
        refine stP hf rfl rfl rfl (pM rfl) fun a hf => ?_
        refine stBS (rows := ([10, 12, 12, 20] : List Int).map encI_i64) (vs := [(0, .int .i64 10), (1, .int .i64 12), (2, .int .i64 12), (3, .int .i64 20)]) hf hc rfl rfl sl_39 rfl ⟨rfl, rfl, rfl, rfl, rfl, rfl, rfl, rfl, rfl, rfl, rfl, rfl, trivial⟩ rfl rfl fun b_10 a w hf hc => ?_
        obtain ⟨r_19, hr_19, hF⟩ := bnd_some hF
        refine stE hf hc rfl rfl rfl (eC (v := .bool r_19) (vs := [.slice p_10 r_15.1.length c_10, .slice (some ⟨b_10, 0, none⟩) 4 4]) (caps := []) en_20 rfl rfl rfl rfl (fun w hc => by obtain ⟨G1, hle1, hrd1, hc, hth1⟩ := lend hc k5; obtain ⟨G2, hle2, hrd2, hc, hth2⟩ := lend hc k0; exact (kit_Same_int_ok r_15.1 ([10, 12, 12, 20] : List Int) (hrd1.mono hle2) hrd2 hc hr_19).mono fun e w h => ⟨h.1, ((hth1 _ _ ((hth2 _ _ h.2).unpick k0)).unpick k5)⟩)) fun a w hf hc => ?_
        refine stP hf rfl rfl rfl (pPt rfl rfl) fun a hf => ?_
        replace hc := hc.drop k0
        obtain rfl := Option.some.inj hF
        exact cNil ⟨hf.keep ⟨rfl, rfl, rfl, rfl, rfl, rfl, rfl, rfl, rfl, rfl, rfl, rfl, rfl, rfl, rfl, rfl, rfl, trivial⟩, hc⟩
    intro a w ⟨hf, hc⟩
    refine stP hf rfl rfl rfl (pM rfl) fun a hf => ?_
    refine stCut 3 (fun a w => Has 139 a [(11, .slice p_8 r_13.1.length c_8), (2, .int .i64 r_13.2), (12, .slice p_10 r_15.1.length c_10), (13, .int .i64 r_15.2.1), (4, .int .i64 r_15.2.2), (14, .int .i64 r_17.1), (7, .int .i64 r_17.2), (111, .int .i64 r_13.2), (112, .bool (r_13.2 == 0)), (113, .bool (r_13.2 == 0)), (116, .bool ((r_13.2 == 0) && (r_15.2.2 == 0))), (117, .bool ((r_13.2 == 0) && (r_15.2.2 == 0))), (120, .bool (((r_13.2 == 0) && (r_15.2.2 == 0)) && (r_17.2 == 0))), (121, .bool (((r_13.2 == 0) && (r_15.2.2 == 0)) && (r_17.2 == 0))), (125, .bool t_1), (126, .bool t_1), (130, .bool t_2), (131, .bool t_2), (134, .bool (t_2 && (r_15.2.1 == 2)))] ∧ Ctx G (.row (some ⟨b_8, 0, none⟩) 2 (([(⟨0, 1, 1⟩ : daily_Fall), (⟨2, 3, 1⟩ : daily_Fall)] : List daily_Fall).map enc_daily_Fall) 111 3 :: .row (some ⟨b_7, 0, none⟩) 4 (([9, 5, 7, 3] : List Int).map encI_i64) 3 1 :: .row p_11 c_11 (r_16.map enc_daily_Reading) 102 2 :: .row p_9 c_9 (r_14.map enc_daily_Reading) 102 2 :: .row p_10 c_10 (r_15.1.map encI_i64) 3 1 :: .row (some ⟨b_6, 0, none⟩) 4 (([10, 14, 12, 20] : List Int).map encI_i64) 3 1 :: .row p_7 c_7 (r_12.Days.map enc_daily_Value) 56 3 :: .row (some ⟨b_5, 0, none⟩) 4 (([(⟨20, 35⟩ : api_Span), (⟨30, 40⟩ : api_Span), (⟨49, 60⟩ : api_Span), (⟨50, 60⟩ : api_Span)] : List api_Span).map enc_api_Span) 30 2 :: .row p_8 c_8 (r_13.1.map encI_i64) 3 1 :: .row p_6 c_6 (r_6.Days.map enc_daily_Value) 56 3 :: .box b_2 [.int .i64 r_5.1.Lo, .int .i64 r_5.1.Hi] 30 :: .row p_4 c_4 (r_4.Days.map enc_daily_Value) 56 3 :: .row p_5 c_5 (r_5.2.1.map encI_i64) 3 1 :: .box b_1 [.int .i64 r_3.1.Lo, .int .i64 r_3.1.Hi] 30 :: .row p_3 c_3 (r_2.Days.map enc_daily_Value) 56 3 :: .row p_1 c_1 (r.Days.map enc_daily_Value) 56 3 :: .row p_2 c_2 (r_1.1.map enc_api_Span) 30 2 :: Lf) w) ?_ ?_
    · cases hb : t_2
      · rw [hb] at hf
        refine stS hf rfl rfl rfl fun a hf => ?_
        refine stS hf rfl rfl rfl fun a hf => ?_
        refine stP hf rfl rfl rfl (pPf rfl rfl) fun a hf => ?_
        exact cNil ⟨hf.keep ⟨rfl, rfl, rfl, rfl, rfl, rfl, rfl, rfl, rfl, rfl, rfl, rfl, rfl, rfl, rfl, rfl, rfl, rfl, rfl, trivial⟩, hc⟩
      · rw [hb] at hf
        refine stP hf rfl rfl rfl (pM rfl) fun a hf => ?_
        refine stP hf rfl rfl rfl (pEq rfl rfl) fun a hf => ?_
        refine stP hf rfl rfl rfl (pPt rfl rfl) fun a hf => ?_
        exact cNil ⟨hf.keep ⟨rfl, rfl, rfl, rfl, rfl, rfl, rfl, rfl, rfl, rfl, rfl, rfl, rfl, rfl, rfl, rfl, rfl, rfl, rfl, trivial⟩, hc⟩
    intro a w ⟨hf, hc⟩
    refine stP hf rfl rfl rfl (pM rfl) fun a hf => ?_
    refine stCut 3 (fun a w => Has 139 a [(11, .slice p_8 r_13.1.length c_8), (2, .int .i64 r_13.2), (12, .slice p_10 r_15.1.length c_10), (13, .int .i64 r_15.2.1), (4, .int .i64 r_15.2.2), (14, .int .i64 r_17.1), (7, .int .i64 r_17.2), (111, .int .i64 r_13.2), (112, .bool (r_13.2 == 0)), (113, .bool (r_13.2 == 0)), (116, .bool ((r_13.2 == 0) && (r_15.2.2 == 0))), (117, .bool ((r_13.2 == 0) && (r_15.2.2 == 0))), (120, .bool (((r_13.2 == 0) && (r_15.2.2 == 0)) && (r_17.2 == 0))), (121, .bool (((r_13.2 == 0) && (r_15.2.2 == 0)) && (r_17.2 == 0))), (125, .bool t_1), (126, .bool t_1), (130, .bool t_2), (131, .bool t_2), (134, .bool (t_2 && (r_15.2.1 == 2))), (135, .bool (t_2 && (r_15.2.1 == 2))), (138, .bool ((t_2 && (r_15.2.1 == 2)) && (r_17.1 == 8)))] ∧ Ctx G (.row (some ⟨b_8, 0, none⟩) 2 (([(⟨0, 1, 1⟩ : daily_Fall), (⟨2, 3, 1⟩ : daily_Fall)] : List daily_Fall).map enc_daily_Fall) 111 3 :: .row (some ⟨b_7, 0, none⟩) 4 (([9, 5, 7, 3] : List Int).map encI_i64) 3 1 :: .row p_11 c_11 (r_16.map enc_daily_Reading) 102 2 :: .row p_9 c_9 (r_14.map enc_daily_Reading) 102 2 :: .row p_10 c_10 (r_15.1.map encI_i64) 3 1 :: .row (some ⟨b_6, 0, none⟩) 4 (([10, 14, 12, 20] : List Int).map encI_i64) 3 1 :: .row p_7 c_7 (r_12.Days.map enc_daily_Value) 56 3 :: .row (some ⟨b_5, 0, none⟩) 4 (([(⟨20, 35⟩ : api_Span), (⟨30, 40⟩ : api_Span), (⟨49, 60⟩ : api_Span), (⟨50, 60⟩ : api_Span)] : List api_Span).map enc_api_Span) 30 2 :: .row p_8 c_8 (r_13.1.map encI_i64) 3 1 :: .row p_6 c_6 (r_6.Days.map enc_daily_Value) 56 3 :: .box b_2 [.int .i64 r_5.1.Lo, .int .i64 r_5.1.Hi] 30 :: .row p_4 c_4 (r_4.Days.map enc_daily_Value) 56 3 :: .row p_5 c_5 (r_5.2.1.map encI_i64) 3 1 :: .box b_1 [.int .i64 r_3.1.Lo, .int .i64 r_3.1.Hi] 30 :: .row p_3 c_3 (r_2.Days.map enc_daily_Value) 56 3 :: .row p_1 c_1 (r.Days.map enc_daily_Value) 56 3 :: .row p_2 c_2 (r_1.1.map enc_api_Span) 30 2 :: Lf) w) ?_ ?_
    · cases hb : (t_2 && (r_15.2.1 == 2))
      · rw [hb] at hf
        refine stS hf rfl rfl rfl fun a hf => ?_
        refine stS hf rfl rfl rfl fun a hf => ?_
        refine stP hf rfl rfl rfl (pPf rfl rfl) fun a hf => ?_
        exact cNil ⟨hf.keep ⟨rfl, rfl, rfl, rfl, rfl, rfl, rfl, rfl, rfl, rfl, rfl, rfl, rfl, rfl, rfl, rfl, rfl, rfl, rfl, rfl, rfl, trivial⟩, hc⟩
      · rw [hb] at hf
        refine stP hf rfl rfl rfl (pM rfl) fun a hf => ?_
        refine stP hf rfl rfl rfl (pEq rfl rfl) fun a hf => ?_
        refine stP hf rfl rfl rfl (pPt rfl rfl) fun a hf => ?_
        exact cNil ⟨hf.keep ⟨rfl, rfl, rfl, rfl, rfl, rfl, rfl, rfl, rfl, rfl, rfl, rfl, rfl, rfl, rfl, rfl, rfl, rfl, rfl, rfl, rfl, trivial⟩, hc⟩
    intro a w ⟨hf, hc⟩
    refine stP hf rfl rfl rfl (pA rfl) fun a hf => ?_
    refine cNil ?_
    refine h12 _ _ ?_
    refine wp_ret ?_
    obtain rfl := Option.some.inj hF
    replace hc := hc.drop k16
    replace hc := hc.drop k15
    replace hc := hc.drop k14
    replace hc := hc.drop k13
    replace hc := hc.drop k12
    replace hc := hc.drop k11
    replace hc := hc.drop k10
    replace hc := hc.drop k9
    replace hc := hc.drop k8
    replace hc := hc.drop k7
    replace hc := hc.drop k6
    replace hc := hc.drop k5
    replace hc := hc.drop k4
    replace hc := hc.drop k3
    replace hc := hc.drop k2
    replace hc := hc.drop k1
    replace hc := hc.drop k0
    exact fnOut1 (by simp) rfl Try.results12 hf hc (show look _ 0 = _ from rfl) ⟨rfl, hc⟩

def kit_Copy_daily_Value (N : Nat) (l : List daily_Value) : Option ((List daily_Value)) :=
  Option.bind (room (l).length) fun un =>
  some l
theorem kit_Copy_daily_Value_ok {N : Nat} {G : Pers} {Lf : List Ent} {w : World} (l : List daily_Value) {l_p : Option Addr} {l_c : Nat} (h_l : Rd G 3 l_p l_c (l.map enc_daily_Value)) (hc : Ctx G (Lf) w) {res : (List daily_Value)} (hF : kit_Copy_daily_Value N l = some res) : Calls Try.prog 42 #[.slice l_p l.length l_c] w (fun e w => ∃ (p'1 : Option Addr) (c'1 : Nat), e = .returned (.slice p'1 res.length c'1) ∧ Ctx G (.row p'1 c'1 (res.map enc_daily_Value) 56 3 :: Lf) w) := by
  unfold kit_Copy_daily_Value at hF
  refine fnIn (args := [.slice l_p l.length l_c]) Try.func42 rfl Try.ntmps42 rfl fun a hf => ?_
  refine wp_seq_k fun K1 h1 => ?_
  refine cReg ?_
  refine stP hf rfl rfl rfl (pA rfl) fun a hf => ?_
  refine cNil ?_
  refine h1 _ _ ?_
  refine wp_seq_k fun K2 h2 => ?_
  refine cReg ?_
  refine stP hf rfl rfl rfl (pA rfl) fun a hf => ?_
  refine cNil ?_
  refine h2 _ _ ?_
  refine wp_seq_k fun K3 h3 => ?_
  refine cReg ?_
  refine stP hf rfl rfl rfl (pM rfl) fun a hf => ?_
  refine stP hf rfl rfl rfl (pM rfl) fun a hf => ?_
  replace hc := hc.nilRow 56 3
  obtain ⟨un, hun, hF⟩ := bnd_some hF
  refine stApm (xs := ([] : List daily_Value)) (ys := l) hf hc rfl rfl sl_22 rfl rfl rfl rfl rfl one_enc_daily_Value (src_rd hc h_l) (fun _ _ => u0) (by simpa using room_spec hun) fun p_1 c_1 a w hf hc => ?_
  refine stP hf rfl rfl rfl (pA rfl) fun a hf => ?_
  refine cNil ?_
  refine h3 _ _ ?_
  refine wp_ret ?_
  obtain rfl := Option.some.inj hF
  exact fnOut1 (by simp) rfl Try.results42 hf hc (show look _ 2 = _ from rfl) ⟨p_1, c_1, rfl, hc⟩

def law07_CopyRecord (N : Nat) (r : daily_Record) : Option (daily_Record) :=
  Option.bind (kit_Copy_daily_Value N r.Days) fun r_0 =>
  some (⟨r.Rise, r.Fall, r_0⟩ : daily_Record)
theorem law07_CopyRecord_ok {N : Nat} {G : Pers} {Lf : List Ent} {w : World} (r : daily_Record) {r_Days_p : Option Addr} {r_Days_c : Nat} (h_r_Days : Rd G 3 r_Days_p r_Days_c (r.Days.map enc_daily_Value)) (hc : Ctx G (Lf) w) {res : daily_Record} (hF : law07_CopyRecord N r = some res) : Calls Try.prog 13 #[.agg #[.int .i64 r.Rise, .int .i64 r.Fall, .slice r_Days_p r.Days.length r_Days_c]] w (fun e w => ∃ (p'1 : Option Addr) (c'1 : Nat), e = .returned (.agg #[.int .i64 res.Rise, .int .i64 res.Fall, .slice p'1 res.Days.length c'1]) ∧ Ctx G (.row p'1 c'1 (res.Days.map enc_daily_Value) 56 3 :: Lf) w) := by
  unfold law07_CopyRecord at hF
  refine fnIn (args := [.agg #[.int .i64 r.Rise, .int .i64 r.Fall, .slice r_Days_p r.Days.length r_Days_c]]) Try.func13 rfl Try.ntmps13 rfl fun a hf => ?_
  refine wp_seq_k fun K1 h1 => ?_
  refine cReg ?_
  refine stBx (cs := [.int .i64 r.Rise, .int .i64 r.Fall, .slice r_Days_p r.Days.length r_Days_c]) hf hc rfl rfl rfl rfl fun b_1 a w hf hc => ?_
  refine stAl (cs := [.int .i64 0, .int .i64 0, .slice none 0 0]) hf hc rfl rfl zr_24 rfl fun b_2 a w hf hc => ?_
  refine cNil ?_
  refine h1 _ _ ?_
  refine wp_seq_k fun K2 h2 => ?_
  refine cReg ?_
  refine stP hf rfl rfl rfl (pFA fa_24_2 rfl) fun a hf => ?_
  refine stE hf hc rfl rfl rfl (eLd1 sc_22 rfl (cell_box m1 rfl)) fun a w hf hc => ?_
  obtain ⟨r_0, hr_0, hF⟩ := bnd_some hF
  refine stC (vs := [.slice r_Days_p r.Days.length r_Days_c]) (caps := []) hf rfl rfl rfl en_42 rfl rfl rfl rfl (kit_Copy_daily_Value_ok r.Days h_r_Days hc hr_0) ?_
  rintro _ w ⟨p_1, c_1, rfl, hc⟩
  refine ⟨_, rfl, fun a hf => ?_⟩
  refine stP hf rfl rfl rfl (pFA fa_24_2 rfl) fun a hf => ?_
  refine stSt (vs := [.slice p_1 r_0.length c_1]) hf hc rfl rfl rfl rfl sz_22 rfl rfl u2 fun w hc => ?_
  refine cNil ?_
  refine h2 _ _ ?_
  refine wp_seq_k fun K3 h3 => ?_
  refine cReg ?_
  refine stE hf hc rfl rfl rfl (eLdN (vs := [.int .i64 r.Rise, .int .i64 r.Fall, .slice p_1 r_0.length c_1]) ag_24 rfl rfl (cells_box (n := 3) m2 rfl)) fun a w hf hc => ?_
  refine stSt (vs := [.int .i64 r.Rise, .int .i64 r.Fall, .slice p_1 r_0.length c_1]) hf hc rfl rfl rfl rfl sz_24 rfl rfl u1 fun w hc => ?_
  refine cNil ?_
  refine h3 _ _ ?_
  refine wp_ret ?_
  obtain rfl := Option.some.inj hF
  replace hc := hc.drop k2
  exact fnOut1 (by simp) rfl Try.results13 hf hc (rv_cellN (vs := [.int .i64 r.Rise, .int .i64 r.Fall, .slice p_1 r_0.length c_1]) ag_24 rfl rfl (cells_box (n := 3) m1 rfl)) ⟨p_1, c_1, rfl, (hc.drop k1)⟩

def kit_Copy_api_Span (N : Nat) (l : List api_Span) : Option ((List api_Span)) :=
  Option.bind (room (l).length) fun un =>
  some l
theorem kit_Copy_api_Span_ok {N : Nat} {G : Pers} {Lf : List Ent} {w : World} (l : List api_Span) {l_p : Option Addr} {l_c : Nat} (h_l : Rd G 2 l_p l_c (l.map enc_api_Span)) (hc : Ctx G (Lf) w) {res : (List api_Span)} (hF : kit_Copy_api_Span N l = some res) : Calls Try.prog 14 #[.slice l_p l.length l_c] w (fun e w => ∃ (p'1 : Option Addr) (c'1 : Nat), e = .returned (.slice p'1 res.length c'1) ∧ Ctx G (.row p'1 c'1 (res.map enc_api_Span) 30 2 :: Lf) w) := by
  unfold kit_Copy_api_Span at hF
  refine fnIn (args := [.slice l_p l.length l_c]) Try.func14 rfl Try.ntmps14 rfl fun a hf => ?_
  refine wp_seq_k fun K1 h1 => ?_
  refine cReg ?_
  refine stP hf rfl rfl rfl (pA rfl) fun a hf => ?_
  refine cNil ?_
  refine h1 _ _ ?_
  refine wp_seq_k fun K2 h2 => ?_
  refine cReg ?_
  refine stP hf rfl rfl rfl (pA rfl) fun a hf => ?_
  refine cNil ?_
  refine h2 _ _ ?_
  refine wp_seq_k fun K3 h3 => ?_
  refine cReg ?_
  refine stP hf rfl rfl rfl (pM rfl) fun a hf => ?_
  refine stP hf rfl rfl rfl (pM rfl) fun a hf => ?_
  replace hc := hc.nilRow 30 2
  obtain ⟨un, hun, hF⟩ := bnd_some hF
  refine stApm (xs := ([] : List api_Span)) (ys := l) hf hc rfl rfl sl_25 rfl rfl rfl rfl rfl one_enc_api_Span (src_rd hc h_l) (fun _ _ => u0) (by simpa using room_spec hun) fun p_1 c_1 a w hf hc => ?_
  refine stP hf rfl rfl rfl (pA rfl) fun a hf => ?_
  refine cNil ?_
  refine h3 _ _ ?_
  refine wp_ret ?_
  obtain rfl := Option.some.inj hF
  exact fnOut1 (by simp) rfl Try.results14 hf hc (show look _ 2 = _ from rfl) ⟨p_1, c_1, rfl, hc⟩

def law07_Record_b5 (N : Nat) (r : daily_Record) (x : Int) (x_1 : List ref07_Value) : Option (Step (Int × (List ref07_Value)) (ref07_Record)) :=
  cond (decide (x < ((r.Days.length : Nat) : Int)))
  (Option.bind (getI r.Days x) fun e_1 =>
  Option.bind (room ((x_1 ++ [(⟨e_1.Known, e_1.Flow⟩ : ref07_Value)])).length) fun un =>
  some (.cont (W (x + 1), (x_1 ++ [(⟨e_1.Known, e_1.Flow⟩ : ref07_Value)]))))
  (some (.brk (x, x_1)))
def law07_Record (N : Nat) (r : daily_Record) : Option (ref07_Record) :=
  Option.bind (loopO (fun s5 => law07_Record_b5 N r s5.1 s5.2) N (0, ([] : List ref07_Value))) fun x5 =>
  exK x5 (fun s5 => some (⟨r.Rise, r.Fall, s5.2⟩ : ref07_Record)) some
theorem law07_Record_ok {N : Nat} {G : Pers} {Lf : List Ent} {w : World} (r : daily_Record) {r_Days_p : Option Addr} {r_Days_c : Nat} (h_r_Days : Rd G 3 r_Days_p r_Days_c (r.Days.map enc_daily_Value)) (hc : Ctx G (Lf) w) {res : ref07_Record} (hF : law07_Record N r = some res) : Calls Try.prog 17 #[.agg #[.int .i64 r.Rise, .int .i64 r.Fall, .slice r_Days_p r.Days.length r_Days_c]] w (fun e w => ∃ (p'1 : Option Addr) (c'1 : Nat), e = .returned (.agg #[.int .i64 res.Rise, .int .i64 res.Fall, .slice p'1 res.Days.length c'1]) ∧ Ctx G (.row p'1 c'1 (res.Days.map enc_ref07_Value) 128 3 :: Lf) w) := by
  unfold law07_Record at hF
  refine fnIn (args := [.agg #[.int .i64 r.Rise, .int .i64 r.Fall, .slice r_Days_p r.Days.length r_Days_c]]) Try.func17 rfl Try.ntmps17 rfl fun a hf => ?_
  refine wp_seq_k fun K1 h1 => ?_
  refine cReg ?_
  refine stBx (cs := [.int .i64 r.Rise, .int .i64 r.Fall, .slice r_Days_p r.Days.length r_Days_c]) hf hc rfl rfl rfl rfl fun b_1 a w hf hc => ?_
  refine stAl (cs := [.int .i64 0, .int .i64 0, .slice none 0 0]) hf hc rfl rfl zr_37 rfl fun b_2 a w hf hc => ?_
  refine cNil ?_
  refine h1 _ _ ?_
  refine wp_seq_k fun K2 h2 => ?_
  refine cReg ?_
  refine stP hf rfl rfl rfl (pFA fa_24_0 rfl) fun a hf => ?_
  refine stE hf hc rfl rfl rfl (eLd1 sc_3 rfl (cell_box m1 rfl)) fun a w hf hc => ?_
  refine stP hf rfl rfl rfl (pFA fa_24_1 rfl) fun a hf => ?_
  refine stE hf hc rfl rfl rfl (eLd1 sc_3 rfl (cell_box m1 rfl)) fun a w hf hc => ?_
  refine stP hf rfl rfl rfl (pBuildS (cells := [.int .i64 r.Rise, .int .i64 r.Fall, .slice none 0 0]) bt_37 rfl rfl) fun a hf => ?_
  refine stAl (cs := [.int .i64 0, .int .i64 0, .slice none 0 0]) hf hc rfl rfl zr_37 rfl fun b_3 a w hf hc => ?_
  refine stSt (vs := [.int .i64 r.Rise, .int .i64 r.Fall, .slice none 0 0]) hf hc rfl rfl rfl rfl sz_37 rfl rfl u0 fun w hc => ?_
  refine cNil ?_
  refine h2 _ _ ?_
  refine wp_seq_k fun K3 h3 => ?_
  refine wp_seq_k fun K4 h4 => ?_
  refine cReg ?_
  refine stP hf rfl rfl rfl (pFA fa_24_2 rfl) fun a hf => ?_
  refine stE hf hc rfl rfl rfl (eLd1 sc_22 rfl (cell_box m2 rfl)) fun a w hf hc => ?_
  refine stP hf rfl rfl rfl (pLenS Try.underlying22 rfl) fun a hf => ?_
  refine stP hf rfl rfl rfl (pM rfl) fun a hf => ?_
  refine cNil ?_
  refine h4 _ _ ?_
  refine wp_block ?_
  obtain ⟨x5, hx5, hF⟩ := bnd_some hF
  let S5 : (Int × (List ref07_Value)) → Act → World → Prop := (fun (zz : Int × (List ref07_Value)) a w => ∃ (p_1 : Option Addr) (c_1 : Nat), Has 26 a [(2, .pointer (some ⟨b_2, 0, none⟩)), (3, .pointer (some ⟨b_3, 0, none⟩)), (12, .slice r_Days_p r.Days.length r_Days_c), (13, .int .i64 ((r.Days.length : Nat) : Int)), (14, .int .i64 zz.1)] ∧ Ctx G (.row p_1 c_1 (zz.2.map enc_ref07_Value) 128 3 :: .box b_3 [.int .i64 r.Rise, .int .i64 r.Fall, .slice p_1 zz.2.length c_1] 37 :: .box b_2 [.int .i64 0, .int .i64 0, .slice none 0 0] 37 :: Lf) w)
  have hr5 : ∀ (zz : Int × (List ref07_Value)) a w, x5 = .go zz → S5 zz a w → K3 a w := by
    rintro ⟨x, x_1⟩ a w rfl ⟨p_1, c_1, hf, hc⟩
    replace hF := exK_go hF
    refine h3 _ _ ?_
    refine wp_seq_k fun K6 h6 => ?_
    refine cReg ?_
    refine stE hf hc rfl rfl rfl (eLdN (vs := [.int .i64 r.Rise, .int .i64 r.Fall, .slice p_1 x_1.length c_1]) ag_37 rfl rfl (cells_box (n := 3) m1 rfl)) fun a w hf hc => ?_
    refine stSt (vs := [.int .i64 r.Rise, .int .i64 r.Fall, .slice p_1 x_1.length c_1]) hf hc rfl rfl rfl rfl sz_37 rfl rfl u2 fun w hc => ?_
    refine cNil ?_
    refine h6 _ _ ?_
    refine wp_ret ?_
    obtain rfl := Option.some.inj hF
    replace hc := hc.drop k1
    exact fnOut1 (by simp) rfl Try.results17 hf hc (rv_cellN (vs := [.int .i64 r.Rise, .int .i64 r.Fall, .slice p_1 x_1.length c_1]) ag_37 rfl rfl (cells_box (n := 3) m1 rfl)) ⟨p_1, c_1, rfl, (hc.drop k1)⟩
  have ho5 : ∀ r, x5 = .out r → r = res := by
    rintro r rfl
    exact Option.some.inj hF
  replace hc := hc.nilRow 128 3
  replace hc := hc.drop k3
  refine cLoop N (loopW (S := S5) (x := x5) ?_ N (0, ([] : List ref07_Value)) _ _ ⟨none, 0, hf.keep ⟨rfl, rfl, rfl, rfl, rfl, trivial⟩, hc⟩ hx5)
  clear hF hf hc
  rintro ⟨x, x_1⟩ st5 a w KB5 ⟨p_1, c_1, hf, hc⟩ hF hfin5 hK5
  unfold law07_Record_b5 at hF
  refine wp_seq_k fun K7 h7 => ?_
  refine cReg ?_
  refine stP hf rfl rfl rfl (pLt rfl rfl) fun a hf => ?_
  refine cNil ?_
  refine h7 _ _ ?_
  refine wp_seq_k fun K8 h8 => ?_
  refine cCond (b := (decide (x < ((r.Days.length : Nat) : Int)))) hf rfl (fun hb => ?_) (fun hb => ?_)
  · replace hF := condT hb hF
    clear hb
    refine wp_skip ?_
    refine h8 _ _ ?_
    refine wp_seq_k fun K9 h9 => ?_
    refine wp_block ?_
    refine wp_seq_k fun K10 h10 => ?_
    refine cReg ?_
    obtain ⟨e_1, he_1, hF⟩ := bnd_some hF
    obtain ⟨b_4, o, qa, qp⟩ := h_r_Days.atm he_1
    refine stP hf rfl rfl rfl (pIA Try.underlying22 sz_56 rfl rfl qa) fun a hf => ?_
    refine stE hf hc rfl rfl rfl (eLdN (vs := [.bool e_1.Known, .int .i64 e_1.Flow.Lo, .int .i64 e_1.Flow.Hi]) ag_56 rfl rfl (cells_pc qp (n := 3) (o' := 0) rfl)) fun a w hf hc => ?_
    refine stAl (cs := [.bool false, .int .i64 0, .int .i64 0]) hf hc rfl rfl zr_56 rfl fun b_5 a w hf hc => ?_
    refine stSt (vs := [.bool e_1.Known, .int .i64 e_1.Flow.Lo, .int .i64 e_1.Flow.Hi]) hf hc rfl rfl rfl rfl sz_56 rfl rfl u0 fun w hc => ?_
    refine cNil ?_
    refine h10 _ _ ?_
    refine cReg ?_
    refine stP hf rfl rfl rfl (pFA fa_37_2 rfl) fun a hf => ?_
    refine stE hf hc rfl rfl rfl (eLd1 sc_35 rfl (cell_box m2 rfl)) fun a w hf hc => ?_
    refine stE hf hc rfl rfl rfl (eLdN (vs := [.bool e_1.Known, .int .i64 e_1.Flow.Lo, .int .i64 e_1.Flow.Hi]) ag_56 rfl rfl (cells_box (n := 3) m0 rfl)) fun a w hf hc => ?_
    refine stBS (rows := ([(⟨e_1.Known, e_1.Flow⟩ : ref07_Value)] : List ref07_Value).map enc_ref07_Value) (vs := [(0, .agg #[.bool e_1.Known, .int .i64 e_1.Flow.Lo, .int .i64 e_1.Flow.Hi])]) hf hc rfl rfl sl_35 rfl ⟨rfl, rfl, rfl, trivial⟩ rfl rfl fun b_6 a w hf hc => ?_
    obtain ⟨un, hun, hF⟩ := bnd_some hF
    refine stApm (xs := x_1) (ys := ([(⟨e_1.Known, e_1.Flow⟩ : ref07_Value)] : List ref07_Value)) hf hc rfl rfl sl_35 rfl rfl rfl rfl rfl one_enc_ref07_Value (src_row hc m0) (fun _ _ => u2) (by simpa using room_spec hun) fun p_2 c_2 a w hf hc => ?_
    refine stP hf rfl rfl rfl (pFA fa_37_2 rfl) fun a hf => ?_
    refine stSt (vs := [.slice p_2 ((x_1 ++ [(⟨e_1.Known, e_1.Flow⟩ : ref07_Value)]).length) c_2]) hf hc rfl rfl rfl rfl sz_35 rfl rfl u3 fun w hc => ?_
    refine cNil ?_
    refine h9 _ _ ?_
    refine cReg ?_
    refine stP hf rfl rfl rfl (pAdd rfl rfl) fun a hf => ?_
    refine stP hf rfl rfl rfl (pM rfl) fun a hf => ?_
    refine cNil ?_
    replace hc := hc.drop k1
    replace hc := hc.drop k0
    exact hK5 (W (x + 1), (x_1 ++ [(⟨e_1.Known, e_1.Flow⟩ : ref07_Value)])) _ _ (Option.some.inj hF).symm ⟨p_2, c_2, hf.keep ⟨rfl, rfl, rfl, rfl, rfl, trivial⟩, hc⟩
  · replace hF := condF hb hF
    clear hb
    refine wp_exit ?_
    refine xThen ?_
    refine xThen ?_
    have he := Option.some.inj hF
    rw [← he] at hfin5
    refine cHit ?_
    exact hr5 _ _ _ hfin5 ⟨p_1, c_1, hf.keep ⟨rfl, rfl, rfl, rfl, rfl, trivial⟩, hc⟩

def ref07_outside (n : Int) (a_ : Int) (b_ : Int) : Bool :=
  ((decide (n < a_)) || (decide (b_ < n)))
theorem ref07_outside_ok {G : Pers} {Lf : List Ent} {w : World} (n : Int) (a_ : Int) (b_ : Int)   (hc : Ctx G (Lf) w) {res : Bool} (hF : ref07_outside n a_ b_ = res) : Calls Try.prog 65 #[.int .i64 n, .int .i64 a_, .int .i64 b_] w (fun e w => e = .returned (.bool res) ∧ Ctx G (Lf) w) := by
  unfold ref07_outside at hF
  refine fnIn (args := [.int .i64 n, .int .i64 a_, .int .i64 b_]) Try.func65 rfl Try.ntmps65 rfl fun a hf => ?_
  refine wp_seq_k fun K1 h1 => ?_
  refine cReg ?_
  refine stP hf rfl rfl rfl (pA rfl) fun a hf => ?_
  refine cNil ?_
  refine h1 _ _ ?_
  refine wp_seq_k fun K2 h2 => ?_
  refine cReg ?_
  refine stP hf rfl rfl rfl (pM rfl) fun a hf => ?_
  refine stP hf rfl rfl rfl (pM rfl) fun a hf => ?_
  refine stP hf rfl rfl rfl (pLt rfl rfl) fun a hf => ?_
  refine stP hf rfl rfl rfl (pM rfl) fun a hf => ?_
  refine stCut 4 (fun a w => Has 15 a [(0, .int .i64 n), (1, .int .i64 a_), (2, .int .i64 b_), (6, .bool false), (7, .int .i64 n), (8, .int .i64 a_), (9, .bool (decide (n < a_))), (10, .bool (decide (n < a_))), (14, .bool ((decide (n < a_)) || (decide (b_ < n))))] ∧ Ctx G (Lf) w) ?_ ?_
  · cases hb : (decide (n < a_))
    · rw [hb] at hf
      refine stP hf rfl rfl rfl (pM rfl) fun a hf => ?_
      refine stP hf rfl rfl rfl (pM rfl) fun a hf => ?_
      refine stP hf rfl rfl rfl (pGt rfl rfl) fun a hf => ?_
      refine stP hf rfl rfl rfl (pPf rfl rfl) fun a hf => ?_
      exact cNil ⟨hf.keep ⟨rfl, rfl, rfl, rfl, rfl, rfl, rfl, rfl, rfl, trivial⟩, hc⟩
    · rw [hb] at hf
      refine stS hf rfl rfl rfl fun a hf => ?_
      refine stS hf rfl rfl rfl fun a hf => ?_
      refine stS hf rfl rfl rfl fun a hf => ?_
      refine stP hf rfl rfl rfl (pPt rfl rfl) fun a hf => ?_
      exact cNil ⟨hf.keep ⟨rfl, rfl, rfl, rfl, rfl, rfl, rfl, rfl, rfl, trivial⟩, hc⟩
  intro a w ⟨hf, hc⟩
  refine stP hf rfl rfl rfl (pA rfl) fun a hf => ?_
  refine cNil ?_
  refine h2 _ _ ?_
  refine wp_ret ?_
  obtain rfl := hF
  exact fnOut1 (by simp) rfl Try.results65 hf hc (show look _ 6 = _ from rfl) ⟨rfl, hc⟩

def ref07_wrong (s_ : api_Span) : Bool :=
  (((decide (s_.Lo < 0)) || (decide (1000000000 < s_.Hi))) || (decide (s_.Hi < s_.Lo)))
theorem ref07_wrong_ok {G : Pers} {Lf : List Ent} {w : World} (s_ : api_Span)   (hc : Ctx G (Lf) w) {res : Bool} (hF : ref07_wrong s_ = res) : Calls Try.prog 69 #[.agg #[.int .i64 s_.Lo, .int .i64 s_.Hi]] w (fun e w => e = .returned (.bool res) ∧ Ctx G (Lf) w) := by
  unfold ref07_wrong at hF
  refine fnIn (args := [.agg #[.int .i64 s_.Lo, .int .i64 s_.Hi]]) Try.func69 rfl Try.ntmps69 rfl fun a hf => ?_
  refine wp_seq_k fun K1 h1 => ?_
  refine cReg ?_
  refine stBx (cs := [.int .i64 s_.Lo, .int .i64 s_.Hi]) hf hc rfl rfl rfl rfl fun b_1 a w hf hc => ?_
  refine stP hf rfl rfl rfl (pA rfl) fun a hf => ?_
  refine cNil ?_
  refine h1 _ _ ?_
  refine wp_seq_k fun K2 h2 => ?_
  refine cReg ?_
  refine stP hf rfl rfl rfl (pFA fa_30_0 rfl) fun a hf => ?_
  refine stE hf hc rfl rfl rfl (eLd1 sc_3 rfl (cell_box m0 rfl)) fun a w hf hc => ?_
  refine stP hf rfl rfl rfl (pLt rfl rfl) fun a hf => ?_
  refine stP hf rfl rfl rfl (pM rfl) fun a hf => ?_
  refine stCut 4 (fun a w => Has 18 a [(1, .pointer (some ⟨b_1, 0, none⟩)), (2, .bool false), (3, .pointer (some ⟨b_1, 0, none⟩)), (4, .int .i64 s_.Lo), (5, .bool (decide (s_.Lo < 0))), (6, .bool (decide (s_.Lo < 0))), (10, .bool ((decide (s_.Lo < 0)) || (decide (1000000000 < s_.Hi))))] ∧ Ctx G (.box b_1 [.int .i64 s_.Lo, .int .i64 s_.Hi] 30 :: Lf) w) ?_ ?_
  · cases hb : (decide (s_.Lo < 0))
    · rw [hb] at hf
      refine stP hf rfl rfl rfl (pFA fa_30_1 rfl) fun a hf => ?_
      refine stE hf hc rfl rfl rfl (eLd1 sc_3 rfl (cell_box m0 rfl)) fun a w hf hc => ?_
      refine stP hf rfl rfl rfl (pGt rfl rfl) fun a hf => ?_
      refine stP hf rfl rfl rfl (pPf rfl rfl) fun a hf => ?_
      exact cNil ⟨hf.keep ⟨rfl, rfl, rfl, rfl, rfl, rfl, rfl, trivial⟩, hc⟩
    · rw [hb] at hf
      refine stS hf rfl rfl rfl fun a hf => ?_
      refine stS hf rfl rfl rfl fun a hf => ?_
      refine stS hf rfl rfl rfl fun a hf => ?_
      refine stP hf rfl rfl rfl (pPt rfl rfl) fun a hf => ?_
      exact cNil ⟨hf.keep ⟨rfl, rfl, rfl, rfl, rfl, rfl, rfl, trivial⟩, hc⟩
  intro a w ⟨hf, hc⟩
  refine stP hf rfl rfl rfl (pM rfl) fun a hf => ?_
  refine stCut 6 (fun a w => Has 18 a [(1, .pointer (some ⟨b_1, 0, none⟩)), (2, .bool false), (3, .pointer (some ⟨b_1, 0, none⟩)), (4, .int .i64 s_.Lo), (5, .bool (decide (s_.Lo < 0))), (6, .bool (decide (s_.Lo < 0))), (10, .bool ((decide (s_.Lo < 0)) || (decide (1000000000 < s_.Hi)))), (11, .bool ((decide (s_.Lo < 0)) || (decide (1000000000 < s_.Hi)))), (17, .bool (((decide (s_.Lo < 0)) || (decide (1000000000 < s_.Hi))) || (decide (s_.Hi < s_.Lo))))] ∧ Ctx G (.box b_1 [.int .i64 s_.Lo, .int .i64 s_.Hi] 30 :: Lf) w) ?_ ?_
  · cases hb : ((decide (s_.Lo < 0)) || (decide (1000000000 < s_.Hi)))
    · rw [hb] at hf
      refine stP hf rfl rfl rfl (pFA fa_30_0 rfl) fun a hf => ?_
      refine stE hf hc rfl rfl rfl (eLd1 sc_3 rfl (cell_box m0 rfl)) fun a w hf hc => ?_
      refine stP hf rfl rfl rfl (pFA fa_30_1 rfl) fun a hf => ?_
      refine stE hf hc rfl rfl rfl (eLd1 sc_3 rfl (cell_box m0 rfl)) fun a w hf hc => ?_
      refine stP hf rfl rfl rfl (pGt rfl rfl) fun a hf => ?_
      refine stP hf rfl rfl rfl (pPf rfl rfl) fun a hf => ?_
      exact cNil ⟨hf.keep ⟨rfl, rfl, rfl, rfl, rfl, rfl, rfl, rfl, rfl, trivial⟩, hc⟩
    · rw [hb] at hf
      refine stS hf rfl rfl rfl fun a hf => ?_
      refine stS hf rfl rfl rfl fun a hf => ?_
      refine stS hf rfl rfl rfl fun a hf => ?_
      refine stS hf rfl rfl rfl fun a hf => ?_
      refine stS hf rfl rfl rfl fun a hf => ?_
      refine stP hf rfl rfl rfl (pPt rfl rfl) fun a hf => ?_
      exact cNil ⟨hf.keep ⟨rfl, rfl, rfl, rfl, rfl, rfl, rfl, rfl, rfl, trivial⟩, hc⟩
  intro a w ⟨hf, hc⟩
  refine stP hf rfl rfl rfl (pA rfl) fun a hf => ?_
  refine cNil ?_
  refine h2 _ _ ?_
  refine wp_ret ?_
  obtain rfl := hF
  replace hc := hc.drop k0
  exact fnOut1 (by simp) rfl Try.results69 hf hc (show look _ 2 = _ from rfl) ⟨rfl, hc⟩

def ref07_Check_b10 (N : Nat) (r : ref07_Record) (d : Int) : Option (Step (Int) (Int)) :=
  cond (decide (d < ((r.Days.length : Nat) : Int)))
  (Option.bind (getI r.Days d) fun e_1 =>
  Option.bind (cond e_1.Known (Option.bind (getI r.Days d) fun e_2 =>
  some (ref07_wrong e_2.Flow)) (some false)) fun t_1 =>
  cond t_1
  (some (.ret 80))
  (some (.cont (W (d + 1)))))
  (some (.brk d))
def ref07_Check (N : Nat) (r : ref07_Record) : Option (Int) :=
  cond ((decide (((r.Days.length : Nat) : Int) < 1)) || (decide (60 < ((r.Days.length : Nat) : Int))))
  (some 3)
  (cond ((ref07_outside r.Rise 0 1000000000) || (ref07_outside r.Fall 0 1000000000))
  (some 80)
  (Option.bind (loopO (fun s10 => ref07_Check_b10 N r s10) N 0) fun x10 =>
  exK x10 (fun s10 => some 0) some))
theorem ref07_Check_ok {N : Nat} {G : Pers} {Lf : List Ent} {w : World} (r : ref07_Record) {r_Days_p : Option Addr} {r_Days_c : Nat} (h_r_Days : Rd G 3 r_Days_p r_Days_c (r.Days.map enc_ref07_Value)) (hc : Ctx G (Lf) w) {res : Int} (hF : ref07_Check N r = some res) : Calls Try.prog 35 #[.agg #[.int .i64 r.Rise, .int .i64 r.Fall, .slice r_Days_p r.Days.length r_Days_c]] w (fun e w => e = .returned (.int .i64 res) ∧ Ctx G (Lf) w) := by
  unfold ref07_Check at hF
  refine fnIn (args := [.agg #[.int .i64 r.Rise, .int .i64 r.Fall, .slice r_Days_p r.Days.length r_Days_c]]) Try.func35 rfl Try.ntmps35 rfl fun a hf => ?_
  refine wp_seq_k fun K1 h1 => ?_
  refine cReg ?_
  refine stBx (cs := [.int .i64 r.Rise, .int .i64 r.Fall, .slice r_Days_p r.Days.length r_Days_c]) hf hc rfl rfl rfl rfl fun b_1 a w hf hc => ?_
  refine stP hf rfl rfl rfl (pA rfl) fun a hf => ?_
  refine cNil ?_
  refine h1 _ _ ?_
  refine wp_seq_k fun K2 h2 => ?_
  refine wp_seq_k fun K3 h3 => ?_
  refine cReg ?_
  refine stP hf rfl rfl rfl (pFA fa_37_2 rfl) fun a hf => ?_
  refine stE hf hc rfl rfl rfl (eLd1 sc_35 rfl (cell_box m0 rfl)) fun a w hf hc => ?_
  refine stP hf rfl rfl rfl (pLenS Try.underlying35 rfl) fun a hf => ?_
  refine stP hf rfl rfl rfl (pLt rfl rfl) fun a hf => ?_
  refine stP hf rfl rfl rfl (pM rfl) fun a hf => ?_
  refine stCut 5 (fun a w => Has 44 a [(1, .pointer (some ⟨b_1, 0, none⟩)), (4, .pointer (some ⟨b_1, 2, none⟩)), (5, .slice r_Days_p r.Days.length r_Days_c), (6, .int .i64 ((r.Days.length : Nat) : Int)), (7, .bool (decide (((r.Days.length : Nat) : Int) < 1))), (8, .bool (decide (((r.Days.length : Nat) : Int) < 1))), (13, .bool ((decide (((r.Days.length : Nat) : Int) < 1)) || (decide (60 < ((r.Days.length : Nat) : Int)))))] ∧ Ctx G (.box b_1 [.int .i64 r.Rise, .int .i64 r.Fall, .slice r_Days_p r.Days.length r_Days_c] 37 :: Lf) w) ?_ ?_
  · cases hb : (decide (((r.Days.length : Nat) : Int) < 1))
    · rw [hb] at hf
      refine stP hf rfl rfl rfl (pFA fa_37_2 rfl) fun a hf => ?_
      refine stE hf hc rfl rfl rfl (eLd1 sc_35 rfl (cell_box m0 rfl)) fun a w hf hc => ?_
      refine stP hf rfl rfl rfl (pLenS Try.underlying35 rfl) fun a hf => ?_
      refine stP hf rfl rfl rfl (pGt rfl rfl) fun a hf => ?_
      refine stP hf rfl rfl rfl (pPf rfl rfl) fun a hf => ?_
      exact cNil ⟨hf.keep ⟨rfl, rfl, rfl, rfl, rfl, rfl, rfl, trivial⟩, hc⟩
    · rw [hb] at hf
      refine stS hf rfl rfl rfl fun a hf => ?_
      refine stS hf rfl rfl rfl fun a hf => ?_
      refine stS hf rfl rfl rfl fun a hf => ?_
      refine stS hf rfl rfl rfl fun a hf => ?_
      refine stP hf rfl rfl rfl (pPt rfl rfl) fun a hf => ?_
      exact cNil ⟨hf.keep ⟨rfl, rfl, rfl, rfl, rfl, rfl, rfl, trivial⟩, hc⟩
  intro a w ⟨hf, hc⟩
  refine cNil ?_
  refine h3 _ _ ?_
  refine cCond (b := ((decide (((r.Days.length : Nat) : Int) < 1)) || (decide (60 < ((r.Days.length : Nat) : Int))))) hf rfl (fun hb => ?_) (fun hb => ?_)
  · replace hF := condT hb hF
    clear hb
    refine wp_seq_k fun K4 h4 => ?_
    refine cReg ?_
    refine stP hf rfl rfl rfl (pA rfl) fun a hf => ?_
    refine cNil ?_
    refine h4 _ _ ?_
    refine wp_ret ?_
    refine xThenR ?_
    obtain rfl := Option.some.inj hF
    replace hc := hc.drop k0
    exact fnOut1 (by simp) rfl Try.results35 hf hc (show look _ 2 = _ from rfl) ⟨rfl, hc⟩
  · replace hF := condF hb hF
    clear hb
    refine wp_skip ?_
    refine h2 _ _ ?_
    refine wp_seq_k fun K5 h5 => ?_
    refine wp_seq_k fun K6 h6 => ?_
    refine cReg ?_
    refine stP hf rfl rfl rfl (pFA fa_37_0 rfl) fun a hf => ?_
    refine stE hf hc rfl rfl rfl (eLd1 sc_3 rfl (cell_box m0 rfl)) fun a w hf hc => ?_
    refine stE hf hc rfl rfl rfl (eC (v := .bool (ref07_outside r.Rise 0 1000000000)) (vs := [.int .i64 r.Rise, .int .i64 0, .int .i64 1000000000]) (caps := []) en_65 rfl rfl rfl rfl (fun w hc => ref07_outside_ok r.Rise 0 1000000000 hc rfl)) fun a w hf hc => ?_
    refine stP hf rfl rfl rfl (pM rfl) fun a hf => ?_
    refine stCut 4 (fun a w => Has 44 a [(1, .pointer (some ⟨b_1, 0, none⟩)), (14, .pointer (some ⟨b_1, 0, none⟩)), (15, .int .i64 r.Rise), (16, .bool (ref07_outside r.Rise 0 1000000000)), (17, .bool (ref07_outside r.Rise 0 1000000000)), (21, .bool ((ref07_outside r.Rise 0 1000000000) || (ref07_outside r.Fall 0 1000000000)))] ∧ Ctx G (.box b_1 [.int .i64 r.Rise, .int .i64 r.Fall, .slice r_Days_p r.Days.length r_Days_c] 37 :: Lf) w) ?_ ?_
    · cases hb : (ref07_outside r.Rise 0 1000000000)
      · rw [hb] at hf
        refine stP hf rfl rfl rfl (pFA fa_37_1 rfl) fun a hf => ?_
        refine stE hf hc rfl rfl rfl (eLd1 sc_3 rfl (cell_box m0 rfl)) fun a w hf hc => ?_
        refine stE hf hc rfl rfl rfl (eC (v := .bool (ref07_outside r.Fall 0 1000000000)) (vs := [.int .i64 r.Fall, .int .i64 0, .int .i64 1000000000]) (caps := []) en_65 rfl rfl rfl rfl (fun w hc => ref07_outside_ok r.Fall 0 1000000000 hc rfl)) fun a w hf hc => ?_
        refine stP hf rfl rfl rfl (pPf rfl rfl) fun a hf => ?_
        exact cNil ⟨hf.keep ⟨rfl, rfl, rfl, rfl, rfl, rfl, trivial⟩, hc⟩
      · rw [hb] at hf
        refine stS hf rfl rfl rfl fun a hf => ?_
        refine stS hf rfl rfl rfl fun a hf => ?_
        refine stS hf rfl rfl rfl fun a hf => ?_
        refine stP hf rfl rfl rfl (pPt rfl rfl) fun a hf => ?_
        exact cNil ⟨hf.keep ⟨rfl, rfl, rfl, rfl, rfl, rfl, trivial⟩, hc⟩
    intro a w ⟨hf, hc⟩
    refine cNil ?_
    refine h6 _ _ ?_
    refine cCond (b := ((ref07_outside r.Rise 0 1000000000) || (ref07_outside r.Fall 0 1000000000))) hf rfl (fun hb => ?_) (fun hb => ?_)
    · replace hF := condT hb hF
      clear hb
      refine wp_seq_k fun K7 h7 => ?_
      refine cReg ?_
      refine stP hf rfl rfl rfl (pA rfl) fun a hf => ?_
      refine cNil ?_
      refine h7 _ _ ?_
      refine wp_ret ?_
      refine xThenR ?_
      obtain rfl := Option.some.inj hF
      replace hc := hc.drop k0
      exact fnOut1 (by simp) rfl Try.results35 hf hc (show look _ 2 = _ from rfl) ⟨rfl, hc⟩
    · replace hF := condF hb hF
      clear hb
      refine wp_skip ?_
      refine h5 _ _ ?_
      refine wp_seq_k fun K8 h8 => ?_
      refine wp_seq_k fun K9 h9 => ?_
      refine cReg ?_
      refine stP hf rfl rfl rfl (pA rfl) fun a hf => ?_
      refine cNil ?_
      refine h9 _ _ ?_
      refine wp_block ?_
      obtain ⟨x10, hx10, hF⟩ := bnd_some hF
      let S10 : Int → Act → World → Prop := (fun (zz : Int) a w => Has 44 a [(1, .pointer (some ⟨b_1, 0, none⟩)), (3, .int .i64 zz)] ∧ Ctx G (.box b_1 [.int .i64 r.Rise, .int .i64 r.Fall, .slice r_Days_p r.Days.length r_Days_c] 37 :: Lf) w)
      have hr10 : ∀ (zz : Int) a w, x10 = .go zz → S10 zz a w → K8 a w := by
        rintro d a w rfl ⟨hf, hc⟩
        replace hF := exK_go hF
        refine h8 _ _ ?_
        refine wp_seq_k fun K11 h11 => ?_
        refine cReg ?_
        refine stP hf rfl rfl rfl (pA rfl) fun a hf => ?_
        refine cNil ?_
        refine h11 _ _ ?_
        refine wp_ret ?_
        obtain rfl := Option.some.inj hF
        replace hc := hc.drop k0
        exact fnOut1 (by simp) rfl Try.results35 hf hc (show look _ 2 = _ from rfl) ⟨rfl, hc⟩
      have ho10 : ∀ r, x10 = .out r → r = res := by
        rintro r rfl
        exact Option.some.inj hF
      refine cLoop N (loopW (S := S10) (x := x10) ?_ N 0 _ _ ⟨hf.keep ⟨rfl, rfl, trivial⟩, hc⟩ hx10)
      clear hF hf hc
      rintro d st10 a w KB10 ⟨hf, hc⟩ hF hfin10 hK10
      unfold ref07_Check_b10 at hF
      refine wp_seq_k fun K12 h12 => ?_
      refine wp_seq_k fun K13 h13 => ?_
      refine cReg ?_
      refine stP hf rfl rfl rfl (pM rfl) fun a hf => ?_
      refine stP hf rfl rfl rfl (pFA fa_37_2 rfl) fun a hf => ?_
      refine stE hf hc rfl rfl rfl (eLd1 sc_35 rfl (cell_box m0 rfl)) fun a w hf hc => ?_
      refine stP hf rfl rfl rfl (pLenS Try.underlying35 rfl) fun a hf => ?_
      refine stP hf rfl rfl rfl (pLt rfl rfl) fun a hf => ?_
      refine cNil ?_
      refine h13 _ _ ?_
      refine cCond (b := (decide (d < ((r.Days.length : Nat) : Int)))) hf rfl (fun hb => ?_) (fun hb => ?_)
      · replace hF := condT hb hF
        clear hb
        refine wp_skip ?_
        refine h12 _ _ ?_
        refine wp_seq_k fun K14 h14 => ?_
        refine wp_block ?_
        refine wp_seq_k fun K15 h15 => ?_
        refine cReg ?_
        refine stP hf rfl rfl rfl (pFA fa_37_2 rfl) fun a hf => ?_
        refine stE hf hc rfl rfl rfl (eLd1 sc_35 rfl (cell_box m0 rfl)) fun a w hf hc => ?_
        refine stP hf rfl rfl rfl (pM rfl) fun a hf => ?_
        obtain ⟨e_1, he_1, hF⟩ := bnd_some hF
        obtain ⟨b_2, o, qa, qp⟩ := h_r_Days.atm he_1
        refine stP hf rfl rfl rfl (pIA Try.underlying35 sz_128 rfl rfl qa) fun a hf => ?_
        refine stP hf rfl rfl rfl (pFA fa_128_0 rfl) fun a hf => ?_
        refine stE hf hc rfl rfl rfl (eLd1 sc_4 rfl (cell_pc (j := 0) qp rfl)) fun a w hf hc => ?_
        refine stP hf rfl rfl rfl (pM rfl) fun a hf => ?_
        obtain ⟨t_1, ht_1, hF⟩ := bnd_some hF
        refine stCut 8 (fun a w => Has 44 a [(1, .pointer (some ⟨b_1, 0, none⟩)), (3, .int .i64 d), (29, .pointer (some ⟨b_1, 2, none⟩)), (30, .slice r_Days_p r.Days.length r_Days_c), (31, .int .i64 d), (32, .pointer (some ⟨b_2, o, none⟩)), (33, .pointer (some ⟨b_2, o + 0, none⟩)), (34, .bool e_1.Known), (35, .bool e_1.Known), (43, .bool t_1)] ∧ Ctx G (.box b_1 [.int .i64 r.Rise, .int .i64 r.Fall, .slice r_Days_p r.Days.length r_Days_c] 37 :: Lf) w) ?_ ?_
        · cases hb : e_1.Known
          · rw [hb] at hf
            have hF := condF hb ht_1
            obtain rfl := Option.some.inj hF
            refine stS hf rfl rfl rfl fun a hf => ?_
            refine stS hf rfl rfl rfl fun a hf => ?_
            refine stS hf rfl rfl rfl fun a hf => ?_
            refine stS hf rfl rfl rfl fun a hf => ?_
            refine stS hf rfl rfl rfl fun a hf => ?_
            refine stS hf rfl rfl rfl fun a hf => ?_
            refine stS hf rfl rfl rfl fun a hf => ?_
            refine stP hf rfl rfl rfl (pPf rfl rfl) fun a hf => ?_
            exact cNil ⟨hf.keep ⟨rfl, rfl, rfl, rfl, rfl, rfl, rfl, rfl, rfl, rfl, trivial⟩, hc⟩
          · rw [hb] at hf
            have hF := condT hb ht_1
            refine stP hf rfl rfl rfl (pFA fa_37_2 rfl) fun a hf => ?_
            refine stE hf hc rfl rfl rfl (eLd1 sc_35 rfl (cell_box m0 rfl)) fun a w hf hc => ?_
            refine stP hf rfl rfl rfl (pM rfl) fun a hf => ?_
            obtain ⟨e_2, he_2, hF⟩ := bnd_some hF
            obtain ⟨b_3, o_1, qa_1, qp_1⟩ := h_r_Days.atm he_2
            refine stP hf rfl rfl rfl (pIA Try.underlying35 sz_128 rfl rfl qa_1) fun a hf => ?_
            refine stP hf rfl rfl rfl (pFA fa_128_1 rfl) fun a hf => ?_
            refine stE hf hc rfl rfl rfl (eLdN (vs := [.int .i64 e_2.Flow.Lo, .int .i64 e_2.Flow.Hi]) ag_30 rfl rfl (cells_pc qp_1 (n := 2) (o' := 1) rfl)) fun a w hf hc => ?_
            refine stE hf hc rfl rfl rfl (eC (v := .bool (ref07_wrong e_2.Flow)) (vs := [.agg #[.int .i64 e_2.Flow.Lo, .int .i64 e_2.Flow.Hi]]) (caps := []) en_69 rfl rfl rfl rfl (fun w hc => ref07_wrong_ok e_2.Flow hc rfl)) fun a w hf hc => ?_
            refine stP hf rfl rfl rfl (pPt rfl rfl) fun a hf => ?_
            obtain rfl := Option.some.inj hF
            exact cNil ⟨hf.keep ⟨rfl, rfl, rfl, rfl, rfl, rfl, rfl, rfl, rfl, rfl, trivial⟩, hc⟩
        intro a w ⟨hf, hc⟩
        refine cNil ?_
        refine h15 _ _ ?_
        refine cCond (b := t_1) hf rfl (fun hb => ?_) (fun hb => ?_)
        · replace hF := condT hb hF
          clear hb
          refine wp_seq_k fun K16 h16 => ?_
          refine cReg ?_
          refine stP hf rfl rfl rfl (pA rfl) fun a hf => ?_
          refine cNil ?_
          refine h16 _ _ ?_
          refine wp_ret ?_
          refine xBlkR ?_
          refine xThenR ?_
          refine xThenR ?_
          have he := Option.some.inj hF
          rw [← he] at hfin10
          replace hF := ho10 _ hfin10
          refine xBlkR ?_
          refine xThenR ?_
          obtain rfl := hF
          replace hc := hc.drop k0
          exact fnOut1 (by simp) rfl Try.results35 hf hc (show look _ 2 = _ from rfl) ⟨rfl, hc⟩
        · replace hF := condF hb hF
          clear hb
          refine wp_skip ?_
          refine h14 _ _ ?_
          refine cReg ?_
          refine stP hf rfl rfl rfl (pM rfl) fun a hf => ?_
          refine stP hf rfl rfl rfl (pAdd rfl rfl) fun a hf => ?_
          refine stP hf rfl rfl rfl (pA rfl) fun a hf => ?_
          refine cNil ?_
          exact hK10 (W (d + 1)) _ _ (Option.some.inj hF).symm ⟨hf.keep ⟨rfl, rfl, trivial⟩, hc⟩
      · replace hF := condF hb hF
        clear hb
        refine wp_exit ?_
        refine xThen ?_
        refine xThen ?_
        have he := Option.some.inj hF
        rw [← he] at hfin10
        refine cHit ?_
        exact hr10 _ _ _ hfin10 ⟨hf.keep ⟨rfl, rfl, trivial⟩, hc⟩

def ref07_own (N : Nat) (r : ref07_Record) (d : Int) : Option (api_Span) :=
  Option.bind (getI r.Days d) fun e_1 =>
  cond e_1.Known
  (Option.bind (getI r.Days d) fun e_2 =>
  some e_2.Flow)
  (some (⟨0, 1000000000⟩ : api_Span))
theorem ref07_own_ok {N : Nat} {G : Pers} {Lf : List Ent} {w : World} (r : ref07_Record) (d : Int) {r_Days_p : Option Addr} {r_Days_c : Nat} (h_r_Days : Rd G 3 r_Days_p r_Days_c (r.Days.map enc_ref07_Value)) (hc : Ctx G (Lf) w) {res : api_Span} (hF : ref07_own N r d = some res) : Calls Try.prog 78 #[.agg #[.int .i64 r.Rise, .int .i64 r.Fall, .slice r_Days_p r.Days.length r_Days_c], .int .i64 d] w (fun e w => e = .returned (.agg #[.int .i64 res.Lo, .int .i64 res.Hi]) ∧ Ctx G (Lf) w) := by
  unfold ref07_own at hF
  refine fnIn (args := [.agg #[.int .i64 r.Rise, .int .i64 r.Fall, .slice r_Days_p r.Days.length r_Days_c], .int .i64 d]) Try.func78 rfl Try.ntmps78 rfl fun a hf => ?_
  refine wp_seq_k fun K1 h1 => ?_
  refine cReg ?_
  refine stBx (cs := [.int .i64 r.Rise, .int .i64 r.Fall, .slice r_Days_p r.Days.length r_Days_c]) hf hc rfl rfl rfl rfl fun b_1 a w hf hc => ?_
  refine stAl (cs := [.int .i64 0, .int .i64 0]) hf hc rfl rfl zr_30 rfl fun b_2 a w hf hc => ?_
  refine cNil ?_
  refine h1 _ _ ?_
  refine wp_seq_k fun K2 h2 => ?_
  refine wp_seq_k fun K3 h3 => ?_
  refine cReg ?_
  refine stP hf rfl rfl rfl (pFA fa_37_2 rfl) fun a hf => ?_
  refine stE hf hc rfl rfl rfl (eLd1 sc_35 rfl (cell_box m1 rfl)) fun a w hf hc => ?_
  refine stP hf rfl rfl rfl (pM rfl) fun a hf => ?_
  obtain ⟨e_1, he_1, hF⟩ := bnd_some hF
  obtain ⟨b_3, o, qa, qp⟩ := h_r_Days.atm he_1
  refine stP hf rfl rfl rfl (pIA Try.underlying35 sz_128 rfl rfl qa) fun a hf => ?_
  refine stP hf rfl rfl rfl (pFA fa_128_0 rfl) fun a hf => ?_
  refine stE hf hc rfl rfl rfl (eLd1 sc_4 rfl (cell_pc (j := 0) qp rfl)) fun a w hf hc => ?_
  refine cNil ?_
  refine h3 _ _ ?_
  refine cCond (b := e_1.Known) hf rfl (fun hb => ?_) (fun hb => ?_)
  · replace hF := condT hb hF
    clear hb
    refine wp_seq_k fun K4 h4 => ?_
    refine cReg ?_
    refine stP hf rfl rfl rfl (pFA fa_37_2 rfl) fun a hf => ?_
    refine stE hf hc rfl rfl rfl (eLd1 sc_35 rfl (cell_box m1 rfl)) fun a w hf hc => ?_
    refine stP hf rfl rfl rfl (pM rfl) fun a hf => ?_
    obtain ⟨e_2, he_2, hF⟩ := bnd_some hF
    obtain ⟨b_4, o_1, qa_1, qp_1⟩ := h_r_Days.atm he_2
    refine stP hf rfl rfl rfl (pIA Try.underlying35 sz_128 rfl rfl qa_1) fun a hf => ?_
    refine stP hf rfl rfl rfl (pFA fa_128_1 rfl) fun a hf => ?_
    refine stE hf hc rfl rfl rfl (eLdN (vs := [.int .i64 e_2.Flow.Lo, .int .i64 e_2.Flow.Hi]) ag_30 rfl rfl (cells_pc qp_1 (n := 2) (o' := 1) rfl)) fun a w hf hc => ?_
    refine stSt (vs := [.int .i64 e_2.Flow.Lo, .int .i64 e_2.Flow.Hi]) hf hc rfl rfl rfl rfl sz_30 rfl rfl u0 fun w hc => ?_
    refine cNil ?_
    refine h4 _ _ ?_
    refine wp_ret ?_
    refine xThenR ?_
    obtain rfl := Option.some.inj hF
    replace hc := hc.drop k1
    exact fnOut1 (by simp) rfl Try.results78 hf hc (rv_cellN (vs := [.int .i64 e_2.Flow.Lo, .int .i64 e_2.Flow.Hi]) ag_30 rfl rfl (cells_box (n := 2) m0 rfl)) ⟨rfl, (hc.drop k0)⟩
  · replace hF := condF hb hF
    clear hb
    refine wp_skip ?_
    refine h2 _ _ ?_
    refine wp_seq_k fun K5 h5 => ?_
    refine cReg ?_
    refine stP hf rfl rfl rfl (pBuildS (cells := [.int .i64 0, .int .i64 1000000000]) bt_30 rfl rfl) fun a hf => ?_
    refine stSt (vs := [.int .i64 0, .int .i64 1000000000]) hf hc rfl rfl rfl rfl sz_30 rfl rfl u0 fun w hc => ?_
    refine cNil ?_
    refine h5 _ _ ?_
    refine wp_ret ?_
    obtain rfl := Option.some.inj hF
    replace hc := hc.drop k1
    exact fnOut1 (by simp) rfl Try.results78 hf hc (rv_cellN (vs := [.int .i64 0, .int .i64 1000000000]) ag_30 rfl rfl (cells_box (n := 2) m0 rfl)) ⟨rfl, (hc.drop k0)⟩

def ref07_told_j9 (N : Nat) (k : Int) (x_2 : Int) (x_3 : Int) : Option (Step (Int × Int × Int) (api_Span)) :=
  some (.cont (W (k + 1), x_2, x_3))
def ref07_told_b5 (N : Nat) (r : ref07_Record) (d : Int) (k : Int) (x : Int) (x_1 : Int) : Option (Step (Int × Int × Int) (api_Span)) :=
  cond (decide (k < ((r.Days.length : Nat) : Int)))
  (Option.bind (ref07_own N r k) fun r_1 =>
  cond (decide (k < d))
  (ref07_told_j9 N k (max x (W (r_1.Lo - (W ((W (d - k)) * r.Fall))))) (min x_1 (W (r_1.Hi + (W ((W (d - k)) * r.Rise))))))
  (ref07_told_j9 N k (max x (W (r_1.Lo - (W ((W (k - d)) * r.Rise))))) (min x_1 (W (r_1.Hi + (W ((W (k - d)) * r.Fall)))))))
  (some (.brk (k, x, x_1)))
def ref07_told (N : Nat) (r : ref07_Record) (d : Int) : Option (api_Span) :=
  Option.bind (ref07_own N r d) fun r_0 =>
  Option.bind (loopO (fun s5 => ref07_told_b5 N r d s5.1 s5.2.1 s5.2.2) N (0, r_0.Lo, r_0.Hi)) fun x5 =>
  exK x5 (fun s5 => some (⟨s5.2.1, s5.2.2⟩ : api_Span)) some
theorem ref07_told_ok {N : Nat} {G : Pers} {Lf : List Ent} {w : World} (r : ref07_Record) (d : Int) {r_Days_p : Option Addr} {r_Days_c : Nat} (h_r_Days : Rd G 3 r_Days_p r_Days_c (r.Days.map enc_ref07_Value)) (hc : Ctx G (Lf) w) {res : api_Span} (hF : ref07_told N r d = some res) : Calls Try.prog 79 #[.agg #[.int .i64 r.Rise, .int .i64 r.Fall, .slice r_Days_p r.Days.length r_Days_c], .int .i64 d] w (fun e w => e = .returned (.agg #[.int .i64 res.Lo, .int .i64 res.Hi]) ∧ Ctx G (Lf) w) := by
  unfold ref07_told at hF
  refine fnIn (args := [.agg #[.int .i64 r.Rise, .int .i64 r.Fall, .slice r_Days_p r.Days.length r_Days_c], .int .i64 d]) Try.func79 rfl Try.ntmps79 rfl fun a hf => ?_
  refine wp_seq_k fun K1 h1 => ?_
  refine cReg ?_
  refine stBx (cs := [.int .i64 r.Rise, .int .i64 r.Fall, .slice r_Days_p r.Days.length r_Days_c]) hf hc rfl rfl rfl rfl fun b_1 a w hf hc => ?_
  refine stAl (cs := [.int .i64 0, .int .i64 0]) hf hc rfl rfl zr_30 rfl fun b_2 a w hf hc => ?_
  refine cNil ?_
  refine h1 _ _ ?_
  refine wp_seq_k fun K2 h2 => ?_
  refine cReg ?_
  refine stE hf hc rfl rfl rfl (eLdN (vs := [.int .i64 r.Rise, .int .i64 r.Fall, .slice r_Days_p r.Days.length r_Days_c]) ag_37 rfl rfl (cells_box (n := 3) m1 rfl)) fun a w hf hc => ?_
  refine stP hf rfl rfl rfl (pM rfl) fun a hf => ?_
  obtain ⟨r_0, hr_0, hF⟩ := bnd_some hF
  refine stE hf hc rfl rfl rfl (eC (v := .agg #[.int .i64 r_0.Lo, .int .i64 r_0.Hi]) (vs := [.agg #[.int .i64 r.Rise, .int .i64 r.Fall, .slice r_Days_p r.Days.length r_Days_c], .int .i64 d]) (caps := []) en_78 rfl rfl rfl rfl (fun w hc => ref07_own_ok r d h_r_Days hc hr_0)) fun a w hf hc => ?_
  refine stAl (cs := [.int .i64 0, .int .i64 0]) hf hc rfl rfl zr_30 rfl fun b_3 a w hf hc => ?_
  refine stSt (vs := [.int .i64 r_0.Lo, .int .i64 r_0.Hi]) hf hc rfl rfl rfl rfl sz_30 rfl rfl u0 fun w hc => ?_
  refine cNil ?_
  refine h2 _ _ ?_
  refine wp_seq_k fun K3 h3 => ?_
  refine wp_seq_k fun K4 h4 => ?_
  refine cReg ?_
  refine stP hf rfl rfl rfl (pA rfl) fun a hf => ?_
  refine cNil ?_
  refine h4 _ _ ?_
  refine wp_block ?_
  obtain ⟨x5, hx5, hF⟩ := bnd_some hF
  let S5 : (Int × Int × Int) → Act → World → Prop := (fun (zz : Int × Int × Int) a w => Has 75 a [(1, .int .i64 d), (2, .pointer (some ⟨b_1, 0, none⟩)), (4, .pointer (some ⟨b_2, 0, none⟩)), (5, .pointer (some ⟨b_3, 0, none⟩)), (6, .int .i64 zz.1)] ∧ Ctx G (.box b_3 [.int .i64 zz.2.1, .int .i64 zz.2.2] 30 :: .box b_2 [.int .i64 0, .int .i64 0] 30 :: .box b_1 [.int .i64 r.Rise, .int .i64 r.Fall, .slice r_Days_p r.Days.length r_Days_c] 37 :: Lf) w)
  have hr5 : ∀ (zz : Int × Int × Int) a w, x5 = .go zz → S5 zz a w → K3 a w := by
    rintro ⟨k, x, x_1⟩ a w rfl ⟨hf, hc⟩
    replace hF := exK_go hF
    refine h3 _ _ ?_
    refine wp_seq_k fun K6 h6 => ?_
    refine cReg ?_
    refine stE hf hc rfl rfl rfl (eLdN (vs := [.int .i64 x, .int .i64 x_1]) ag_30 rfl rfl (cells_box (n := 2) m0 rfl)) fun a w hf hc => ?_
    refine stSt (vs := [.int .i64 x, .int .i64 x_1]) hf hc rfl rfl rfl rfl sz_30 rfl rfl u1 fun w hc => ?_
    refine cNil ?_
    refine h6 _ _ ?_
    refine wp_ret ?_
    obtain rfl := Option.some.inj hF
    replace hc := hc.drop k2
    replace hc := hc.drop k0
    exact fnOut1 (by simp) rfl Try.results79 hf hc (rv_cellN (vs := [.int .i64 x, .int .i64 x_1]) ag_30 rfl rfl (cells_box (n := 2) m0 rfl)) ⟨rfl, (hc.drop k0)⟩
  have ho5 : ∀ r, x5 = .out r → r = res := by
    rintro r rfl
    exact Option.some.inj hF
  refine cLoop N (loopW (S := S5) (x := x5) ?_ N (0, r_0.Lo, r_0.Hi) _ _ ⟨hf.keep ⟨rfl, rfl, rfl, rfl, rfl, trivial⟩, hc⟩ hx5)
  clear hF hf hc
  rintro ⟨k, x, x_1⟩ st5 a w KB5 ⟨hf, hc⟩ hF hfin5 hK5
  unfold ref07_told_b5 at hF
  refine wp_seq_k fun K7 h7 => ?_
  refine wp_seq_k fun K8 h8 => ?_
  refine cReg ?_
  refine stP hf rfl rfl rfl (pM rfl) fun a hf => ?_
  refine stP hf rfl rfl rfl (pFA fa_37_2 rfl) fun a hf => ?_
  refine stE hf hc rfl rfl rfl (eLd1 sc_35 rfl (cell_box m2 rfl)) fun a w hf hc => ?_
  refine stP hf rfl rfl rfl (pLenS Try.underlying35 rfl) fun a hf => ?_
  refine stP hf rfl rfl rfl (pLt rfl rfl) fun a hf => ?_
  refine cNil ?_
  refine h8 _ _ ?_
  refine cCond (b := (decide (k < ((r.Days.length : Nat) : Int)))) hf rfl (fun hb => ?_) (fun hb => ?_)
  · replace hF := condT hb hF
    clear hb
    refine wp_skip ?_
    refine h7 _ _ ?_
    refine wp_seq_k fun K9 h9 => ?_
    have hj9 : ∀ (x_2 : Int) (x_3 : Int) a w, Has 75 a [(1, .int .i64 d), (2, .pointer (some ⟨b_1, 0, none⟩)), (4, .pointer (some ⟨b_2, 0, none⟩)), (5, .pointer (some ⟨b_3, 0, none⟩)), (6, .int .i64 k)] → Ctx G (.box b_3 [.int .i64 x_2, .int .i64 x_3] 30 :: .box b_2 [.int .i64 0, .int .i64 0] 30 :: .box b_1 [.int .i64 r.Rise, .int .i64 r.Fall, .slice r_Days_p r.Days.length r_Days_c] 37 :: Lf) w → ref07_told_j9 N k x_2 x_3 = some st5 → K9 a w := by
      intro x_2 x_3 a w hf hc hF
      unfold ref07_told_j9 at hF
      refine h9 _ _ ?_
      refine cReg ?_
      refine stP hf rfl rfl rfl (pM rfl) fun a hf => ?_
      refine stP hf rfl rfl rfl (pAdd rfl rfl) fun a hf => ?_
      refine stP hf rfl rfl rfl (pA rfl) fun a hf => ?_
      refine cNil ?_
      exact hK5 (W (k + 1), x_2, x_3) _ _ (Option.some.inj hF).symm ⟨hf.keep ⟨rfl, rfl, rfl, rfl, rfl, trivial⟩, hc⟩
    refine wp_block ?_
    refine wp_seq_k fun K10 h10 => ?_
    refine cReg ?_
    refine stE hf hc rfl rfl rfl (eLdN (vs := [.int .i64 r.Rise, .int .i64 r.Fall, .slice r_Days_p r.Days.length r_Days_c]) ag_37 rfl rfl (cells_box (n := 3) m2 rfl)) fun a w hf hc => ?_
    refine stP hf rfl rfl rfl (pM rfl) fun a hf => ?_
    obtain ⟨r_1, hr_1, hF⟩ := bnd_some hF
    refine stE hf hc rfl rfl rfl (eC (v := .agg #[.int .i64 r_1.Lo, .int .i64 r_1.Hi]) (vs := [.agg #[.int .i64 r.Rise, .int .i64 r.Fall, .slice r_Days_p r.Days.length r_Days_c], .int .i64 k]) (caps := []) en_78 rfl rfl rfl rfl (fun w hc => ref07_own_ok r k h_r_Days hc hr_1)) fun a w hf hc => ?_
    refine stAl (cs := [.int .i64 0, .int .i64 0]) hf hc rfl rfl zr_30 rfl fun b_4 a w hf hc => ?_
    refine stSt (vs := [.int .i64 r_1.Lo, .int .i64 r_1.Hi]) hf hc rfl rfl rfl rfl sz_30 rfl rfl u0 fun w hc => ?_
    refine cNil ?_
    refine h10 _ _ ?_
    refine wp_seq_k fun K11 h11 => ?_
    refine cReg ?_
    refine stP hf rfl rfl rfl (pM rfl) fun a hf => ?_
    refine stP hf rfl rfl rfl (pM rfl) fun a hf => ?_
    refine stP hf rfl rfl rfl (pLt rfl rfl) fun a hf => ?_
    refine cNil ?_
    refine h11 _ _ ?_
    refine cCond (b := (decide (k < d))) hf rfl (fun hb => ?_) (fun hb => ?_)
    · replace hF := condT hb hF
      clear hb
      refine cReg ?_
      refine stP hf rfl rfl rfl (pFA fa_30_0 rfl) fun a hf => ?_
      refine stE hf hc rfl rfl rfl (eLd1 sc_3 rfl (cell_box m1 rfl)) fun a w hf hc => ?_
      refine stP hf rfl rfl rfl (pFA fa_30_0 rfl) fun a hf => ?_
      refine stE hf hc rfl rfl rfl (eLd1 sc_3 rfl (cell_box m0 rfl)) fun a w hf hc => ?_
      refine stP hf rfl rfl rfl (pM rfl) fun a hf => ?_
      refine stP hf rfl rfl rfl (pM rfl) fun a hf => ?_
      refine stP hf rfl rfl rfl (pSub rfl rfl) fun a hf => ?_
      refine stP hf rfl rfl rfl (pFA fa_37_1 rfl) fun a hf => ?_
      refine stE hf hc rfl rfl rfl (eLd1 sc_3 rfl (cell_box m3 rfl)) fun a w hf hc => ?_
      refine stP hf rfl rfl rfl (pMul rfl rfl) fun a hf => ?_
      refine stP hf rfl rfl rfl (pSub rfl rfl) fun a hf => ?_
      refine stP hf rfl rfl rfl (pMax2 rfl rfl) fun a hf => ?_
      refine stP hf rfl rfl rfl (pFA fa_30_1 rfl) fun a hf => ?_
      refine stE hf hc rfl rfl rfl (eLd1 sc_3 rfl (cell_box m1 rfl)) fun a w hf hc => ?_
      refine stP hf rfl rfl rfl (pFA fa_30_1 rfl) fun a hf => ?_
      refine stE hf hc rfl rfl rfl (eLd1 sc_3 rfl (cell_box m0 rfl)) fun a w hf hc => ?_
      refine stP hf rfl rfl rfl (pM rfl) fun a hf => ?_
      refine stP hf rfl rfl rfl (pM rfl) fun a hf => ?_
      refine stP hf rfl rfl rfl (pSub rfl rfl) fun a hf => ?_
      refine stP hf rfl rfl rfl (pFA fa_37_0 rfl) fun a hf => ?_
      refine stE hf hc rfl rfl rfl (eLd1 sc_3 rfl (cell_box m3 rfl)) fun a w hf hc => ?_
      refine stP hf rfl rfl rfl (pMul rfl rfl) fun a hf => ?_
      refine stP hf rfl rfl rfl (pAdd rfl rfl) fun a hf => ?_
      refine stP hf rfl rfl rfl (pMin2 rfl rfl) fun a hf => ?_
      refine stP hf rfl rfl rfl (pBuildS (cells := [.int .i64 (max x (W (r_1.Lo - (W ((W (d - k)) * r.Fall))))), .int .i64 (min x_1 (W (r_1.Hi + (W ((W (d - k)) * r.Rise)))))]) bt_30 rfl rfl) fun a hf => ?_
      refine stSt (vs := [.int .i64 (max x (W (r_1.Lo - (W ((W (d - k)) * r.Fall))))), .int .i64 (min x_1 (W (r_1.Hi + (W ((W (d - k)) * r.Rise)))))]) hf hc rfl rfl rfl rfl sz_30 rfl rfl u1 fun w hc => ?_
      refine cNil ?_
      replace hc := hc.drop k0
      exact hj9 (max x (W (r_1.Lo - (W ((W (d - k)) * r.Fall))))) (min x_1 (W (r_1.Hi + (W ((W (d - k)) * r.Rise))))) _ _  (hf.keep ⟨rfl, rfl, rfl, rfl, rfl, trivial⟩) hc hF
    · replace hF := condF hb hF
      clear hb
      refine cReg ?_
      refine stP hf rfl rfl rfl (pFA fa_30_0 rfl) fun a hf => ?_
      refine stE hf hc rfl rfl rfl (eLd1 sc_3 rfl (cell_box m1 rfl)) fun a w hf hc => ?_
      refine stP hf rfl rfl rfl (pFA fa_30_0 rfl) fun a hf => ?_
      refine stE hf hc rfl rfl rfl (eLd1 sc_3 rfl (cell_box m0 rfl)) fun a w hf hc => ?_
      refine stP hf rfl rfl rfl (pM rfl) fun a hf => ?_
      refine stP hf rfl rfl rfl (pM rfl) fun a hf => ?_
      refine stP hf rfl rfl rfl (pSub rfl rfl) fun a hf => ?_
      refine stP hf rfl rfl rfl (pFA fa_37_0 rfl) fun a hf => ?_
      refine stE hf hc rfl rfl rfl (eLd1 sc_3 rfl (cell_box m3 rfl)) fun a w hf hc => ?_
      refine stP hf rfl rfl rfl (pMul rfl rfl) fun a hf => ?_
      refine stP hf rfl rfl rfl (pSub rfl rfl) fun a hf => ?_
      refine stP hf rfl rfl rfl (pMax2 rfl rfl) fun a hf => ?_
      refine stP hf rfl rfl rfl (pFA fa_30_1 rfl) fun a hf => ?_
      refine stE hf hc rfl rfl rfl (eLd1 sc_3 rfl (cell_box m1 rfl)) fun a w hf hc => ?_
      refine stP hf rfl rfl rfl (pFA fa_30_1 rfl) fun a hf => ?_
      refine stE hf hc rfl rfl rfl (eLd1 sc_3 rfl (cell_box m0 rfl)) fun a w hf hc => ?_
      refine stP hf rfl rfl rfl (pM rfl) fun a hf => ?_
      refine stP hf rfl rfl rfl (pM rfl) fun a hf => ?_
      refine stP hf rfl rfl rfl (pSub rfl rfl) fun a hf => ?_
      refine stP hf rfl rfl rfl (pFA fa_37_1 rfl) fun a hf => ?_
      refine stE hf hc rfl rfl rfl (eLd1 sc_3 rfl (cell_box m3 rfl)) fun a w hf hc => ?_
      refine stP hf rfl rfl rfl (pMul rfl rfl) fun a hf => ?_
      refine stP hf rfl rfl rfl (pAdd rfl rfl) fun a hf => ?_
      refine stP hf rfl rfl rfl (pMin2 rfl rfl) fun a hf => ?_
      refine stP hf rfl rfl rfl (pBuildS (cells := [.int .i64 (max x (W (r_1.Lo - (W ((W (k - d)) * r.Rise))))), .int .i64 (min x_1 (W (r_1.Hi + (W ((W (k - d)) * r.Fall)))))]) bt_30 rfl rfl) fun a hf => ?_
      refine stSt (vs := [.int .i64 (max x (W (r_1.Lo - (W ((W (k - d)) * r.Rise))))), .int .i64 (min x_1 (W (r_1.Hi + (W ((W (k - d)) * r.Fall)))))]) hf hc rfl rfl rfl rfl sz_30 rfl rfl u1 fun w hc => ?_
      refine cNil ?_
      replace hc := hc.drop k0
      exact hj9 (max x (W (r_1.Lo - (W ((W (k - d)) * r.Rise))))) (min x_1 (W (r_1.Hi + (W ((W (k - d)) * r.Fall))))) _ _  (hf.keep ⟨rfl, rfl, rfl, rfl, rfl, trivial⟩) hc hF
  · replace hF := condF hb hF
    clear hb
    refine wp_exit ?_
    refine xThen ?_
    refine xThen ?_
    have he := Option.some.inj hF
    rw [← he] at hfin5
    refine cHit ?_
    exact hr5 _ _ _ hfin5 ⟨hf.keep ⟨rfl, rfl, rfl, rfl, rfl, trivial⟩, hc⟩

def ref07_Fill_b9 (N : Nat) (r : ref07_Record) (out : List api_Span) (d : Int) : Option (Step ((List api_Span) × Int) ((List api_Span) × Int)) :=
  cond (decide (d < ((r.Days.length : Nat) : Int)))
  (Option.bind (ref07_told N r d) fun r_1 =>
  cond (decide (r_1.Hi < r_1.Lo))
  (some (.ret (([] : List api_Span), 7)))
  (Option.bind (room ((out ++ [r_1])).length) fun un =>
  some (.cont ((out ++ [r_1]), W (d + 1)))))
  (some (.brk (out, d)))
def ref07_Fill (N : Nat) (r : ref07_Record) : Option ((List api_Span) × Int) :=
  Option.bind (ref07_Check N r) fun r_0 =>
  cond (r_0 != 0)
  (some (([] : List api_Span), r_0))
  (Option.bind (loopO (fun s9 => ref07_Fill_b9 N r s9.1 s9.2) N (([] : List api_Span), 0)) fun x9 =>
  exK x9 (fun s9 => some (s9.1, 0)) some)
theorem ref07_Fill_ok {N : Nat} {G : Pers} {Lf : List Ent} {w : World} (r : ref07_Record) {r_Days_p : Option Addr} {r_Days_c : Nat} (h_r_Days : Rd G 3 r_Days_p r_Days_c (r.Days.map enc_ref07_Value)) (hc : Ctx G (Lf) w) {res : (List api_Span) × Int} (hF : ref07_Fill N r = some res) : Calls Try.prog 38 #[.agg #[.int .i64 r.Rise, .int .i64 r.Fall, .slice r_Days_p r.Days.length r_Days_c]] w (fun e w => ∃ (p'1 : Option Addr) (c'1 : Nat), e = .returned (.tuple #[.slice p'1 res.1.length c'1, .int .i64 res.2]) ∧ Ctx G (.row p'1 c'1 (res.1.map enc_api_Span) 30 2 :: Lf) w) := by
  unfold ref07_Fill at hF
  refine fnIn (args := [.agg #[.int .i64 r.Rise, .int .i64 r.Fall, .slice r_Days_p r.Days.length r_Days_c]]) Try.func38 rfl Try.ntmps38 rfl fun a hf => ?_
  refine wp_seq_k fun K1 h1 => ?_
  refine cReg ?_
  refine stBx (cs := [.int .i64 r.Rise, .int .i64 r.Fall, .slice r_Days_p r.Days.length r_Days_c]) hf hc rfl rfl rfl rfl fun b_1 a w hf hc => ?_
  refine stP hf rfl rfl rfl (pA rfl) fun a hf => ?_
  refine stP hf rfl rfl rfl (pA rfl) fun a hf => ?_
  refine cNil ?_
  refine h1 _ _ ?_
  refine wp_seq_k fun K2 h2 => ?_
  refine wp_seq_k fun K3 h3 => ?_
  refine cReg ?_
  refine stE hf hc rfl rfl rfl (eLdN (vs := [.int .i64 r.Rise, .int .i64 r.Fall, .slice r_Days_p r.Days.length r_Days_c]) ag_37 rfl rfl (cells_box (n := 3) m0 rfl)) fun a w hf hc => ?_
  obtain ⟨r_0, hr_0, hF⟩ := bnd_some hF
  refine stE hf hc rfl rfl rfl (eC (v := .int .i64 r_0) (vs := [.agg #[.int .i64 r.Rise, .int .i64 r.Fall, .slice r_Days_p r.Days.length r_Days_c]]) (caps := []) en_35 rfl rfl rfl rfl (fun w hc => ref07_Check_ok r h_r_Days hc hr_0)) fun a w hf hc => ?_
  refine stP hf rfl rfl rfl (pA rfl) fun a hf => ?_
  refine cNil ?_
  refine h3 _ _ ?_
  refine wp_seq_k fun K4 h4 => ?_
  refine cReg ?_
  refine stP hf rfl rfl rfl (pM rfl) fun a hf => ?_
  refine stP hf rfl rfl rfl (pNe rfl rfl) fun a hf => ?_
  refine cNil ?_
  refine h4 _ _ ?_
  refine cCond (b := (r_0 != 0)) hf rfl (fun hb => ?_) (fun hb => ?_)
  · replace hF := condT hb hF
    clear hb
    refine wp_seq_k fun K5 h5 => ?_
    refine cReg ?_
    refine stP hf rfl rfl rfl (pM rfl) fun a hf => ?_
    refine stP hf rfl rfl rfl (pA rfl) fun a hf => ?_
    refine stP hf rfl rfl rfl (pA rfl) fun a hf => ?_
    refine cNil ?_
    refine h5 _ _ ?_
    refine wp_ret ?_
    refine xThenR ?_
    obtain rfl := Option.some.inj hF
    replace hc := hc.nilRow 30 2
    replace hc := hc.drop k1
    exact fnOut2 (by simp) rfl Try.results38 hf hc (show look _ 2 = _ from rfl) (show look _ 3 = _ from rfl) ⟨none, 0, rfl, hc⟩
  · replace hF := condF hb hF
    clear hb
    refine wp_skip ?_
    refine h2 _ _ ?_
    refine wp_seq_k fun K6 h6 => ?_
    refine cReg ?_
    refine stP hf rfl rfl rfl (pA rfl) fun a hf => ?_
    refine cNil ?_
    refine h6 _ _ ?_
    refine wp_seq_k fun K7 h7 => ?_
    refine wp_seq_k fun K8 h8 => ?_
    refine cReg ?_
    refine stP hf rfl rfl rfl (pA rfl) fun a hf => ?_
    refine cNil ?_
    refine h8 _ _ ?_
    refine wp_block ?_
    obtain ⟨x9, hx9, hF⟩ := bnd_some hF
    let S9 : ((List api_Span) × Int) → Act → World → Prop := (fun (zz : (List api_Span) × Int) a w => ∃ (p_1 : Option Addr) (c_1 : Nat), Has 33 a [(1, .pointer (some ⟨b_1, 0, none⟩)), (5, .slice p_1 zz.1.length c_1), (6, .int .i64 zz.2)] ∧ Ctx G (.row p_1 c_1 (zz.1.map enc_api_Span) 30 2 :: .box b_1 [.int .i64 r.Rise, .int .i64 r.Fall, .slice r_Days_p r.Days.length r_Days_c] 37 :: Lf) w)
    have hr9 : ∀ (zz : (List api_Span) × Int) a w, x9 = .go zz → S9 zz a w → K7 a w := by
      rintro ⟨out, d⟩ a w rfl ⟨p_1, c_1, hf, hc⟩
      replace hF := exK_go hF
      refine h7 _ _ ?_
      refine wp_seq_k fun K10 h10 => ?_
      refine cReg ?_
      refine stP hf rfl rfl rfl (pM rfl) fun a hf => ?_
      refine stP hf rfl rfl rfl (pA rfl) fun a hf => ?_
      refine stP hf rfl rfl rfl (pA rfl) fun a hf => ?_
      refine cNil ?_
      refine h10 _ _ ?_
      refine wp_ret ?_
      obtain rfl := Option.some.inj hF
      replace hc := hc.drop k1
      exact fnOut2 (by simp) rfl Try.results38 hf hc (show look _ 2 = _ from rfl) (show look _ 3 = _ from rfl) ⟨p_1, c_1, rfl, hc⟩
    have ho9 : ∀ r, x9 = .out r → r = res := by
      rintro r rfl
      exact Option.some.inj hF
    replace hc := hc.nilRow 30 2
    refine cLoop N (loopW (S := S9) (x := x9) ?_ N (([] : List api_Span), 0) _ _ ⟨none, 0, hf.keep ⟨rfl, rfl, rfl, trivial⟩, hc⟩ hx9)
    clear hF hf hc
    rintro ⟨out, d⟩ st9 a w KB9 ⟨p_1, c_1, hf, hc⟩ hF hfin9 hK9
    unfold ref07_Fill_b9 at hF
    refine wp_seq_k fun K11 h11 => ?_
    refine wp_seq_k fun K12 h12 => ?_
    refine cReg ?_
    refine stP hf rfl rfl rfl (pM rfl) fun a hf => ?_
    refine stP hf rfl rfl rfl (pFA fa_37_2 rfl) fun a hf => ?_
    refine stE hf hc rfl rfl rfl (eLd1 sc_35 rfl (cell_box m1 rfl)) fun a w hf hc => ?_
    refine stP hf rfl rfl rfl (pLenS Try.underlying35 rfl) fun a hf => ?_
    refine stP hf rfl rfl rfl (pLt rfl rfl) fun a hf => ?_
    refine cNil ?_
    refine h12 _ _ ?_
    refine cCond (b := (decide (d < ((r.Days.length : Nat) : Int)))) hf rfl (fun hb => ?_) (fun hb => ?_)
    · replace hF := condT hb hF
      clear hb
      refine wp_skip ?_
      refine h11 _ _ ?_
      refine wp_seq_k fun K13 h13 => ?_
      refine wp_block ?_
      refine wp_seq_k fun K14 h14 => ?_
      refine cReg ?_
      refine stE hf hc rfl rfl rfl (eLdN (vs := [.int .i64 r.Rise, .int .i64 r.Fall, .slice r_Days_p r.Days.length r_Days_c]) ag_37 rfl rfl (cells_box (n := 3) m1 rfl)) fun a w hf hc => ?_
      refine stP hf rfl rfl rfl (pM rfl) fun a hf => ?_
      obtain ⟨r_1, hr_1, hF⟩ := bnd_some hF
      refine stE hf hc rfl rfl rfl (eC (v := .agg #[.int .i64 r_1.Lo, .int .i64 r_1.Hi]) (vs := [.agg #[.int .i64 r.Rise, .int .i64 r.Fall, .slice r_Days_p r.Days.length r_Days_c], .int .i64 d]) (caps := []) en_79 rfl rfl rfl rfl (fun w hc => ref07_told_ok r d h_r_Days hc hr_1)) fun a w hf hc => ?_
      refine stAl (cs := [.int .i64 0, .int .i64 0]) hf hc rfl rfl zr_30 rfl fun b_2 a w hf hc => ?_
      refine stSt (vs := [.int .i64 r_1.Lo, .int .i64 r_1.Hi]) hf hc rfl rfl rfl rfl sz_30 rfl rfl u0 fun w hc => ?_
      refine cNil ?_
      refine h14 _ _ ?_
      refine wp_seq_k fun K15 h15 => ?_
      refine wp_seq_k fun K16 h16 => ?_
      refine cReg ?_
      refine stP hf rfl rfl rfl (pFA fa_30_0 rfl) fun a hf => ?_
      refine stE hf hc rfl rfl rfl (eLd1 sc_3 rfl (cell_box m0 rfl)) fun a w hf hc => ?_
      refine stP hf rfl rfl rfl (pFA fa_30_1 rfl) fun a hf => ?_
      refine stE hf hc rfl rfl rfl (eLd1 sc_3 rfl (cell_box m0 rfl)) fun a w hf hc => ?_
      refine stP hf rfl rfl rfl (pGt rfl rfl) fun a hf => ?_
      refine cNil ?_
      refine h16 _ _ ?_
      refine cCond (b := (decide (r_1.Hi < r_1.Lo))) hf rfl (fun hb => ?_) (fun hb => ?_)
      · replace hF := condT hb hF
        clear hb
        refine wp_seq_k fun K17 h17 => ?_
        refine cReg ?_
        refine stP hf rfl rfl rfl (pA rfl) fun a hf => ?_
        refine stP hf rfl rfl rfl (pA rfl) fun a hf => ?_
        refine cNil ?_
        refine h17 _ _ ?_
        refine wp_ret ?_
        refine xThenR ?_
        refine xBlkR ?_
        refine xThenR ?_
        refine xThenR ?_
        have he := Option.some.inj hF
        rw [← he] at hfin9
        replace hF := ho9 _ hfin9
        refine xBlkR ?_
        refine xThenR ?_
        obtain rfl := hF
        replace hc := hc.nilRow 30 2
        replace hc := hc.drop k3
        replace hc := hc.drop k2
        replace hc := hc.drop k1
        exact fnOut2 (by simp) rfl Try.results38 hf hc (show look _ 2 = _ from rfl) (show look _ 3 = _ from rfl) ⟨none, 0, rfl, hc⟩
      · replace hF := condF hb hF
        clear hb
        refine wp_skip ?_
        refine h15 _ _ ?_
        refine cReg ?_
        refine stP hf rfl rfl rfl (pM rfl) fun a hf => ?_
        refine stE hf hc rfl rfl rfl (eLdN (vs := [.int .i64 r_1.Lo, .int .i64 r_1.Hi]) ag_30 rfl rfl (cells_box (n := 2) m0 rfl)) fun a w hf hc => ?_
        refine stBS (rows := ([r_1] : List api_Span).map enc_api_Span) (vs := [(0, .agg #[.int .i64 r_1.Lo, .int .i64 r_1.Hi])]) hf hc rfl rfl sl_25 rfl ⟨rfl, rfl, rfl, trivial⟩ rfl rfl fun b_3 a w hf hc => ?_
        obtain ⟨un, hun, hF⟩ := bnd_some hF
        refine stApm (xs := out) (ys := ([r_1] : List api_Span)) hf hc rfl rfl sl_25 rfl rfl rfl rfl rfl one_enc_api_Span (src_row hc m0) (fun _ _ => u2) (by simpa using room_spec hun) fun p_2 c_2 a w hf hc => ?_
        refine stP hf rfl rfl rfl (pA rfl) fun a hf => ?_
        refine cNil ?_
        refine h13 _ _ ?_
        refine cReg ?_
        refine stP hf rfl rfl rfl (pM rfl) fun a hf => ?_
        refine stP hf rfl rfl rfl (pAdd rfl rfl) fun a hf => ?_
        refine stP hf rfl rfl rfl (pA rfl) fun a hf => ?_
        refine cNil ?_
        replace hc := hc.drop k1
        replace hc := hc.drop k0
        exact hK9 ((out ++ [r_1]), W (d + 1)) _ _ (Option.some.inj hF).symm ⟨p_2, c_2, hf.keep ⟨rfl, rfl, rfl, trivial⟩, hc⟩
    · replace hF := condF hb hF
      clear hb
      refine wp_exit ?_
      refine xThen ?_
      refine xThen ?_
      have he := Option.some.inj hF
      rw [← he] at hfin9
      refine cHit ?_
      exact hr9 _ _ _ hfin9 ⟨p_1, c_1, hf.keep ⟨rfl, rfl, rfl, trivial⟩, hc⟩

def ref07_Volume_b16 (N : Nat) (to_ : Int) (r_1 : (List api_Span) × Int) (d : Int) (x : Int) (x_1 : Int) : Option (Step (Int × Int × Int) (api_Span × Int)) :=
  cond (decide (d ≤ to_))
  (Option.bind (getI r_1.1 d) fun e_1 =>
  Option.bind (getI r_1.1 d) fun e_2 =>
  some (.cont (W (d + 1), W (x + e_1.Lo), W (x_1 + e_2.Hi))))
  (some (.brk (d, x, x_1)))
def ref07_Volume (N : Nat) (r : ref07_Record) (from_ : Int) (to_ : Int) : Option (api_Span × Int) :=
  Option.bind (ref07_Check N r) fun r_0 =>
  cond (r_0 != 0)
  (some ((⟨0, 0⟩ : api_Span), r_0))
  (cond ((ref07_outside from_ 0 (W (((r.Days.length : Nat) : Int) - 1))) || (ref07_outside to_ from_ (W (((r.Days.length : Nat) : Int) - 1))))
  (some ((⟨0, 0⟩ : api_Span), 2))
  (Option.bind (ref07_Fill N r) fun r_1 =>
  cond (r_1.2 != 0)
  (some ((⟨0, 0⟩ : api_Span), r_1.2))
  (Option.bind (loopO (fun s16 => ref07_Volume_b16 N to_ r_1 s16.1 s16.2.1 s16.2.2) N (from_, 0, 0)) fun x16 =>
  exK x16 (fun s16 => some ((⟨s16.2.1, s16.2.2⟩ : api_Span), 0)) some)))
theorem ref07_Volume_ok {N : Nat} {G : Pers} {Lf : List Ent} {w : World} (r : ref07_Record) (from_ : Int) (to_ : Int) {r_Days_p : Option Addr} {r_Days_c : Nat} (h_r_Days : Rd G 3 r_Days_p r_Days_c (r.Days.map enc_ref07_Value)) (hc : Ctx G (Lf) w) {res : api_Span × Int} (hF : ref07_Volume N r from_ to_ = some res) : Calls Try.prog 16 #[.agg #[.int .i64 r.Rise, .int .i64 r.Fall, .slice r_Days_p r.Days.length r_Days_c], .int .i64 from_, .int .i64 to_] w (fun e w => e = .returned (.tuple #[.agg #[.int .i64 res.1.Lo, .int .i64 res.1.Hi], .int .i64 res.2]) ∧ Ctx G (Lf) w) := by
  unfold ref07_Volume at hF
  refine fnIn (args := [.agg #[.int .i64 r.Rise, .int .i64 r.Fall, .slice r_Days_p r.Days.length r_Days_c], .int .i64 from_, .int .i64 to_]) Try.func16 rfl Try.ntmps16 rfl fun a hf => ?_
  refine wp_seq_k fun K1 h1 => ?_
  refine cReg ?_
  refine stBx (cs := [.int .i64 r.Rise, .int .i64 r.Fall, .slice r_Days_p r.Days.length r_Days_c]) hf hc rfl rfl rfl rfl fun b_1 a w hf hc => ?_
  refine stAl (cs := [.int .i64 0, .int .i64 0]) hf hc rfl rfl zr_30 rfl fun b_2 a w hf hc => ?_
  refine stP hf rfl rfl rfl (pA rfl) fun a hf => ?_
  refine cNil ?_
  refine h1 _ _ ?_
  refine wp_seq_k fun K2 h2 => ?_
  refine wp_seq_k fun K3 h3 => ?_
  refine cReg ?_
  refine stE hf hc rfl rfl rfl (eLdN (vs := [.int .i64 r.Rise, .int .i64 r.Fall, .slice r_Days_p r.Days.length r_Days_c]) ag_37 rfl rfl (cells_box (n := 3) m1 rfl)) fun a w hf hc => ?_
  obtain ⟨r_0, hr_0, hF⟩ := bnd_some hF
  refine stE hf hc rfl rfl rfl (eC (v := .int .i64 r_0) (vs := [.agg #[.int .i64 r.Rise, .int .i64 r.Fall, .slice r_Days_p r.Days.length r_Days_c]]) (caps := []) en_35 rfl rfl rfl rfl (fun w hc => ref07_Check_ok r h_r_Days hc hr_0)) fun a w hf hc => ?_
  refine stP hf rfl rfl rfl (pA rfl) fun a hf => ?_
  refine cNil ?_
  refine h3 _ _ ?_
  refine wp_seq_k fun K4 h4 => ?_
  refine cReg ?_
  refine stP hf rfl rfl rfl (pM rfl) fun a hf => ?_
  refine stP hf rfl rfl rfl (pNe rfl rfl) fun a hf => ?_
  refine cNil ?_
  refine h4 _ _ ?_
  refine cCond (b := (r_0 != 0)) hf rfl (fun hb => ?_) (fun hb => ?_)
  · replace hF := condT hb hF
    clear hb
    refine wp_seq_k fun K5 h5 => ?_
    refine cReg ?_
    refine stP hf rfl rfl rfl (pBuildS (cells := [.int .i64 0, .int .i64 0]) bt_30 rfl rfl) fun a hf => ?_
    refine stP hf rfl rfl rfl (pM rfl) fun a hf => ?_
    refine stSt (vs := [.int .i64 0, .int .i64 0]) hf hc rfl rfl rfl rfl sz_30 rfl rfl u0 fun w hc => ?_
    refine stP hf rfl rfl rfl (pA rfl) fun a hf => ?_
    refine cNil ?_
    refine h5 _ _ ?_
    refine wp_ret ?_
    refine xThenR ?_
    obtain rfl := Option.some.inj hF
    replace hc := hc.drop k1
    exact fnOut2 (by simp) rfl Try.results16 hf hc (rv_cellN (vs := [.int .i64 0, .int .i64 0]) ag_30 rfl rfl (cells_box (n := 2) m0 rfl)) (show look _ 7 = _ from rfl) ⟨rfl, (hc.drop k0)⟩
  · replace hF := condF hb hF
    clear hb
    refine wp_skip ?_
    refine h2 _ _ ?_
    refine wp_seq_k fun K6 h6 => ?_
    refine wp_seq_k fun K7 h7 => ?_
    refine cReg ?_
    refine stP hf rfl rfl rfl (pM rfl) fun a hf => ?_
    refine stP hf rfl rfl rfl (pFA fa_37_2 rfl) fun a hf => ?_
    refine stE hf hc rfl rfl rfl (eLd1 sc_35 rfl (cell_box m1 rfl)) fun a w hf hc => ?_
    refine stP hf rfl rfl rfl (pLenS Try.underlying35 rfl) fun a hf => ?_
    refine stP hf rfl rfl rfl (pSub rfl rfl) fun a hf => ?_
    refine stE hf hc rfl rfl rfl (eC (v := .bool (ref07_outside from_ 0 (W (((r.Days.length : Nat) : Int) - 1)))) (vs := [.int .i64 from_, .int .i64 0, .int .i64 (W (((r.Days.length : Nat) : Int) - 1))]) (caps := []) en_65 rfl rfl rfl rfl (fun w hc => ref07_outside_ok from_ 0 (W (((r.Days.length : Nat) : Int) - 1)) hc rfl)) fun a w hf hc => ?_
    refine stP hf rfl rfl rfl (pM rfl) fun a hf => ?_
    refine stCut 8 (fun a w => Has 68 a [(1, .int .i64 from_), (2, .int .i64 to_), (3, .pointer (some ⟨b_1, 0, none⟩)), (6, .pointer (some ⟨b_2, 0, none⟩)), (19, .int .i64 from_), (20, .pointer (some ⟨b_1, 2, none⟩)), (21, .slice r_Days_p r.Days.length r_Days_c), (22, .int .i64 ((r.Days.length : Nat) : Int)), (23, .int .i64 (W (((r.Days.length : Nat) : Int) - 1))), (24, .bool (ref07_outside from_ 0 (W (((r.Days.length : Nat) : Int) - 1)))), (25, .bool (ref07_outside from_ 0 (W (((r.Days.length : Nat) : Int) - 1)))), (33, .bool ((ref07_outside from_ 0 (W (((r.Days.length : Nat) : Int) - 1))) || (ref07_outside to_ from_ (W (((r.Days.length : Nat) : Int) - 1)))))] ∧ Ctx G (.box b_2 [.int .i64 0, .int .i64 0] 30 :: .box b_1 [.int .i64 r.Rise, .int .i64 r.Fall, .slice r_Days_p r.Days.length r_Days_c] 37 :: Lf) w) ?_ ?_
    · cases hb : (ref07_outside from_ 0 (W (((r.Days.length : Nat) : Int) - 1)))
      · rw [hb] at hf
        refine stP hf rfl rfl rfl (pM rfl) fun a hf => ?_
        refine stP hf rfl rfl rfl (pM rfl) fun a hf => ?_
        refine stP hf rfl rfl rfl (pFA fa_37_2 rfl) fun a hf => ?_
        refine stE hf hc rfl rfl rfl (eLd1 sc_35 rfl (cell_box m1 rfl)) fun a w hf hc => ?_
        refine stP hf rfl rfl rfl (pLenS Try.underlying35 rfl) fun a hf => ?_
        refine stP hf rfl rfl rfl (pSub rfl rfl) fun a hf => ?_
        refine stE hf hc rfl rfl rfl (eC (v := .bool (ref07_outside to_ from_ (W (((r.Days.length : Nat) : Int) - 1)))) (vs := [.int .i64 to_, .int .i64 from_, .int .i64 (W (((r.Days.length : Nat) : Int) - 1))]) (caps := []) en_65 rfl rfl rfl rfl (fun w hc => ref07_outside_ok to_ from_ (W (((r.Days.length : Nat) : Int) - 1)) hc rfl)) fun a w hf hc => ?_
        refine stP hf rfl rfl rfl (pPf rfl rfl) fun a hf => ?_
        exact cNil ⟨hf.keep ⟨rfl, rfl, rfl, rfl, rfl, rfl, rfl, rfl, rfl, rfl, rfl, rfl, trivial⟩, hc⟩
      · rw [hb] at hf
        refine stS hf rfl rfl rfl fun a hf => ?_
        refine stS hf rfl rfl rfl fun a hf => ?_
        refine stS hf rfl rfl rfl fun a hf => ?_
        refine stS hf rfl rfl rfl fun a hf => ?_
        refine stS hf rfl rfl rfl fun a hf => ?_
        refine stS hf rfl rfl rfl fun a hf => ?_
        refine stS hf rfl rfl rfl fun a hf => ?_
        refine stP hf rfl rfl rfl (pPt rfl rfl) fun a hf => ?_
        exact cNil ⟨hf.keep ⟨rfl, rfl, rfl, rfl, rfl, rfl, rfl, rfl, rfl, rfl, rfl, rfl, trivial⟩, hc⟩
    intro a w ⟨hf, hc⟩
    refine cNil ?_
    refine h7 _ _ ?_
    refine cCond (b := ((ref07_outside from_ 0 (W (((r.Days.length : Nat) : Int) - 1))) || (ref07_outside to_ from_ (W (((r.Days.length : Nat) : Int) - 1))))) hf rfl (fun hb => ?_) (fun hb => ?_)
    · replace hF := condT hb hF
      clear hb
      refine wp_seq_k fun K8 h8 => ?_
      refine cReg ?_
      refine stP hf rfl rfl rfl (pBuildS (cells := [.int .i64 0, .int .i64 0]) bt_30 rfl rfl) fun a hf => ?_
      refine stSt (vs := [.int .i64 0, .int .i64 0]) hf hc rfl rfl rfl rfl sz_30 rfl rfl u0 fun w hc => ?_
      refine stP hf rfl rfl rfl (pA rfl) fun a hf => ?_
      refine cNil ?_
      refine h8 _ _ ?_
      refine wp_ret ?_
      refine xThenR ?_
      obtain rfl := Option.some.inj hF
      replace hc := hc.drop k1
      exact fnOut2 (by simp) rfl Try.results16 hf hc (rv_cellN (vs := [.int .i64 0, .int .i64 0]) ag_30 rfl rfl (cells_box (n := 2) m0 rfl)) (show look _ 7 = _ from rfl) ⟨rfl, (hc.drop k0)⟩
    · replace hF := condF hb hF
      clear hb
      refine wp_skip ?_
      refine h6 _ _ ?_
      refine wp_seq_k fun K9 h9 => ?_
      refine cReg ?_
      refine stE hf hc rfl rfl rfl (eLdN (vs := [.int .i64 r.Rise, .int .i64 r.Fall, .slice r_Days_p r.Days.length r_Days_c]) ag_37 rfl rfl (cells_box (n := 3) m1 rfl)) fun a w hf hc => ?_
      obtain ⟨r_1, hr_1, hF⟩ := bnd_some hF
      refine stC (vs := [.agg #[.int .i64 r.Rise, .int .i64 r.Fall, .slice r_Days_p r.Days.length r_Days_c]]) (caps := []) hf rfl rfl rfl en_38 rfl rfl rfl rfl (ref07_Fill_ok r h_r_Days hc hr_1) ?_
      rintro _ w ⟨p_1, c_1, rfl, hc⟩
      refine ⟨_, rfl, fun a hf => ?_⟩
      refine stP hf rfl rfl rfl (pM rfl) fun a hf => ?_
      refine stP hf rfl rfl rfl (pX rfl rfl) fun a hf => ?_
      refine stP hf rfl rfl rfl (pX rfl rfl) fun a hf => ?_
      refine stP hf rfl rfl rfl (pA rfl) fun a hf => ?_
      refine stP hf rfl rfl rfl (pA rfl) fun a hf => ?_
      refine cNil ?_
      refine h9 _ _ ?_
      refine wp_seq_k fun K10 h10 => ?_
      refine wp_seq_k fun K11 h11 => ?_
      refine cReg ?_
      refine stP hf rfl rfl rfl (pM rfl) fun a hf => ?_
      refine stP hf rfl rfl rfl (pNe rfl rfl) fun a hf => ?_
      refine cNil ?_
      refine h11 _ _ ?_
      refine cCond (b := (r_1.2 != 0)) hf rfl (fun hb => ?_) (fun hb => ?_)
      · replace hF := condT hb hF
        clear hb
        refine wp_seq_k fun K12 h12 => ?_
        refine cReg ?_
        refine stP hf rfl rfl rfl (pBuildS (cells := [.int .i64 0, .int .i64 0]) bt_30 rfl rfl) fun a hf => ?_
        refine stP hf rfl rfl rfl (pM rfl) fun a hf => ?_
        refine stSt (vs := [.int .i64 0, .int .i64 0]) hf hc rfl rfl rfl rfl sz_30 rfl rfl u1 fun w hc => ?_
        refine stP hf rfl rfl rfl (pA rfl) fun a hf => ?_
        refine cNil ?_
        refine h12 _ _ ?_
        refine wp_ret ?_
        refine xThenR ?_
        obtain rfl := Option.some.inj hF
        replace hc := hc.drop k2
        replace hc := hc.drop k0
        exact fnOut2 (by simp) rfl Try.results16 hf hc (rv_cellN (vs := [.int .i64 0, .int .i64 0]) ag_30 rfl rfl (cells_box (n := 2) m0 rfl)) (show look _ 7 = _ from rfl) ⟨rfl, (hc.drop k0)⟩
      · replace hF := condF hb hF
        clear hb
        refine wp_skip ?_
        refine h10 _ _ ?_
        refine wp_seq_k fun K13 h13 => ?_
        refine cReg ?_
        refine stAl (cs := [.int .i64 0, .int .i64 0]) hf hc rfl rfl zr_30 rfl fun b_3 a w hf hc => ?_
        refine cNil ?_
        refine h13 _ _ ?_
        refine wp_seq_k fun K14 h14 => ?_
        refine wp_seq_k fun K15 h15 => ?_
        refine cReg ?_
        refine stP hf rfl rfl rfl (pM rfl) fun a hf => ?_
        refine stP hf rfl rfl rfl (pA rfl) fun a hf => ?_
        refine cNil ?_
        refine h15 _ _ ?_
        refine wp_block ?_
        obtain ⟨x16, hx16, hF⟩ := bnd_some hF
        let S16 : (Int × Int × Int) → Act → World → Prop := (fun (zz : Int × Int × Int) a w => ∃ (p_2 : Option Addr) (c_2 : Nat), Has 68 a [(2, .int .i64 to_), (6, .pointer (some ⟨b_2, 0, none⟩)), (9, .slice p_2 r_1.1.length c_2), (11, .pointer (some ⟨b_3, 0, none⟩)), (12, .int .i64 zz.1)] ∧ Ctx G (.box b_3 [.int .i64 zz.2.1, .int .i64 zz.2.2] 30 :: .row p_2 c_2 (r_1.1.map enc_api_Span) 30 2 :: .box b_2 [.int .i64 0, .int .i64 0] 30 :: Lf) w)
        have hr16 : ∀ (zz : Int × Int × Int) a w, x16 = .go zz → S16 zz a w → K14 a w := by
          rintro ⟨d, x, x_1⟩ a w rfl ⟨p_2, c_2, hf, hc⟩
          replace hF := exK_go hF
          refine h14 _ _ ?_
          refine wp_seq_k fun K17 h17 => ?_
          refine cReg ?_
          refine stE hf hc rfl rfl rfl (eLdN (vs := [.int .i64 x, .int .i64 x_1]) ag_30 rfl rfl (cells_box (n := 2) m0 rfl)) fun a w hf hc => ?_
          refine stSt (vs := [.int .i64 x, .int .i64 x_1]) hf hc rfl rfl rfl rfl sz_30 rfl rfl u2 fun w hc => ?_
          refine stP hf rfl rfl rfl (pA rfl) fun a hf => ?_
          refine cNil ?_
          refine h17 _ _ ?_
          refine wp_ret ?_
          obtain rfl := Option.some.inj hF
          replace hc := hc.drop k1
          replace hc := hc.drop k0
          exact fnOut2 (by simp) rfl Try.results16 hf hc (rv_cellN (vs := [.int .i64 x, .int .i64 x_1]) ag_30 rfl rfl (cells_box (n := 2) m0 rfl)) (show look _ 7 = _ from rfl) ⟨rfl, (hc.drop k0)⟩
        have ho16 : ∀ r, x16 = .out r → r = res := by
          rintro r rfl
          exact Option.some.inj hF
        replace hc := hc.drop k3
        refine cLoop N (loopW (S := S16) (x := x16) ?_ N (from_, 0, 0) _ _ ⟨p_1, c_1, hf.keep ⟨rfl, rfl, rfl, rfl, rfl, trivial⟩, hc⟩ hx16)
        clear hF hf hc
        rintro ⟨d, x, x_1⟩ st16 a w KB16 ⟨p_2, c_2, hf, hc⟩ hF hfin16 hK16
        unfold ref07_Volume_b16 at hF
        refine wp_seq_k fun K18 h18 => ?_
        refine wp_seq_k fun K19 h19 => ?_
        refine cReg ?_
        refine stP hf rfl rfl rfl (pM rfl) fun a hf => ?_
        refine stP hf rfl rfl rfl (pM rfl) fun a hf => ?_
        refine stP hf rfl rfl rfl (pLe rfl rfl) fun a hf => ?_
        refine cNil ?_
        refine h19 _ _ ?_
        refine cCond (b := (decide (d ≤ to_))) hf rfl (fun hb => ?_) (fun hb => ?_)
        · replace hF := condT hb hF
          clear hb
          refine wp_skip ?_
          refine h18 _ _ ?_
          refine wp_seq_k fun K20 h20 => ?_
          refine wp_block ?_
          obtain ⟨e_1, he_1, hF⟩ := bnd_some hF
          obtain ⟨g, rfl, qa, qr⟩ := row_atm hc m1 he_1
          obtain ⟨e_2, he_2, hF⟩ := bnd_some hF
          obtain ⟨qa_1, qr_1⟩ := row_atk hc m1 he_2
          refine regionE (fun θ => [⟨none, none, 2, .int .i64 to_⟩, ⟨none, none, 6, .pointer (some ⟨b_2, 0, none⟩)⟩, ⟨none, none, 9, .slice (some ⟨g, 0, none⟩) r_1.1.length c_2⟩, ⟨none, none, 11, .pointer (some ⟨b_3, 0, none⟩)⟩, ⟨none, none, 12, .int .i64 d⟩, ⟨some 0, none, 50, .pointer (some ⟨b_3, 0, none⟩)⟩, ⟨some 1, none, 51, .int .i64 x⟩, ⟨some 2, none, 52, .slice (some ⟨g, 0, none⟩) r_1.1.length c_2⟩, ⟨some 3, none, 53, .int .i64 d⟩, ⟨some 4, none, 54, .pointer (some ⟨g, d.toNat * 2, none⟩)⟩, ⟨some 5, none, 55, .pointer (some ⟨g, d.toNat * 2 + 0, none⟩)⟩, ⟨some 6, none, 56, .int .i64 e_1.Lo⟩, ⟨some 7, none, 57, .int .i64 (W (x + e_1.Lo))⟩, ⟨some 8, none, 58, .pointer (some ⟨b_3, 1, none⟩)⟩, ⟨some 9, none, 59, .int .i64 x_1⟩, ⟨some 10, none, 60, .slice (some ⟨g, 0, none⟩) r_1.1.length c_2⟩, ⟨some 11, none, 61, .int .i64 d⟩, ⟨some 12, none, 62, .pointer (some ⟨g, d.toNat * 2, none⟩)⟩, ⟨some 13, none, 63, .pointer (some ⟨g, d.toNat * 2 + 1, none⟩)⟩, ⟨some 14, none, 64, .int .i64 e_2.Hi⟩, ⟨some 15, none, 65, .int .i64 (W (x_1 + e_2.Hi))⟩, ⟨some 16, none, 66, .agg #[.int .i64 (W (x + e_1.Lo)), .int .i64 (W (x_1 + e_2.Hi))]⟩]) (fun E θ => (bif E 17 then .box b_3 [.int .i64 (W (x + e_1.Lo)), .int .i64 (W (x_1 + e_2.Hi))] 30 else .box b_3 [.int .i64 x, .int .i64 x_1] 30) :: .row (some ⟨g, 0, none⟩) c_2 (r_1.1.map enc_api_Span) 30 2 :: .box b_2 [.int .i64 0, .int .i64 0] 30 :: Lf) [(17, 1), (17, 9)] (fun a w => Has 68 a [(2, .int .i64 to_), (6, .pointer (some ⟨b_2, 0, none⟩)), (9, .slice (some ⟨g, 0, none⟩) r_1.1.length c_2), (11, .pointer (some ⟨b_3, 0, none⟩)), (12, .int .i64 d)] ∧ Ctx G (.box b_3 [.int .i64 (W (x + e_1.Lo)), .int .i64 (W (x_1 + e_2.Hi))] 30 :: .row (some ⟨g, 0, none⟩) c_2 (r_1.1.map enc_api_Span) 30 2 :: .box b_2 [.int .i64 0, .int .i64 0] 30 :: Lf) w) follows_mx (by kernel_rfl) (by kernel_rfl) (HasE.of hf ⟨rfl, rfl, rfl, rfl, rfl, trivial, trivial, trivial, trivial, trivial, trivial, trivial, trivial, trivial, trivial, trivial, trivial, trivial, trivial, trivial, trivial, trivial, trivial⟩) hc ⟨?_, ?_, ?_, ?_, ?_, ?_, ?_, ?_, ?_, ?_, ?_, ?_, ?_, ?_, ?_, ?_, ?_, ?_, trivial⟩ ?_ ?_
          · intro E θ a w hD hi hp he hc
            have hf := he.h0
            replace hf := hf.more he 3 rfl onT
            refine stP hf rfl rfl rfl (pFA fa_30_0 rfl) fun a hf => ?_
            refine cNil ?_
            refine xThenN ?_
            intro ds u hau
            refine ⟨θ, he.put0 hi hau hf rfl 5 rfl rfl, ?_⟩
            exact hc
          · intro E θ a w hD hi hp he hc
            have e0 := hp.of (k := 0) rfl
            have e17 := hD.f 0 rfl hi
            try dsimp only at hc
            rw [e17] at hc
            have hf := he.h0
            replace hf := hf.more he 5 rfl (onP e0)
            refine stE hf hc rfl rfl rfl (eLd1 sc_3 rfl (cell_box m0 rfl)) fun a w hf hc => ?_
            refine cNil ?_
            refine xThenN ?_
            intro ds u hau
            refine ⟨θ, he.put0 hi hau hf rfl 6 rfl rfl, ?_⟩
            try dsimp only
            rw [updE_fls 1 e17 rfl]
            exact hc
          · intro E θ a w hD hi hp he hc
            have hf := he.h0
            replace hf := hf.more he 2 rfl onT
            refine stP hf rfl rfl rfl (pM rfl) fun a hf => ?_
            refine cNil ?_
            refine xThenN ?_
            intro ds u hau
            refine ⟨θ, he.put0 hi hau hf rfl 7 rfl rfl, ?_⟩
            exact hc
          · intro E θ a w hD hi hp he hc
            have hf := he.h0
            replace hf := hf.more he 4 rfl onT
            refine stP hf rfl rfl rfl (pM rfl) fun a hf => ?_
            refine cNil ?_
            refine xThenN ?_
            intro ds u hau
            refine ⟨θ, he.put0 hi hau hf rfl 8 rfl rfl, ?_⟩
            exact hc
          · intro E θ a w hD hi hp he hc
            have e2 := hp.of (k := 2) rfl
            have e3 := hp.of (k := 3) rfl
            have hf := he.h0
            replace hf := hf.more he 7 rfl (onP e2)
            replace hf := hf.more he 8 rfl (onP e3)
            refine stP hf rfl rfl rfl (pIA Try.underlying25 sz_30 rfl rfl qa) fun a hf => ?_
            refine cNil ?_
            refine xThenN ?_
            intro ds u hau
            refine ⟨θ, he.put0 hi hau hf rfl 9 rfl rfl, ?_⟩
            exact hc
          · intro E θ a w hD hi hp he hc
            have e4 := hp.of (k := 4) rfl
            have hf := he.h0
            replace hf := hf.more he 9 rfl (onP e4)
            refine stP hf rfl rfl rfl (pFA fa_30_0 rfl) fun a hf => ?_
            refine cNil ?_
            refine xThenN ?_
            intro ds u hau
            refine ⟨θ, he.put0 hi hau hf rfl 10 rfl rfl, ?_⟩
            exact hc
          · intro E θ a w hD hi hp he hc
            have e5 := hp.of (k := 5) rfl
            have hf := he.h0
            replace hf := hf.more he 10 rfl (onP e5)
            refine stE hf hc rfl rfl rfl (eLd1 sc_3 rfl (cell_row (sz := 2) (i := d.toNat) (j := 0) m1 qr rfl)) fun a w hf hc => ?_
            refine cNil ?_
            refine xThenN ?_
            intro ds u hau
            refine ⟨θ, he.put0 hi hau hf rfl 11 rfl rfl, ?_⟩
            exact hc
          · intro E θ a w hD hi hp he hc
            have e1 := hp.of (k := 1) rfl
            have e6 := hp.of (k := 6) rfl
            have hf := he.h0
            replace hf := hf.more he 6 rfl (onP e1)
            replace hf := hf.more he 11 rfl (onP e6)
            refine stP hf rfl rfl rfl (pAdd rfl rfl) fun a hf => ?_
            refine cNil ?_
            refine xThenN ?_
            intro ds u hau
            refine ⟨θ, he.put0 hi hau hf rfl 12 rfl rfl, ?_⟩
            exact hc
          · intro E θ a w hD hi hp he hc
            have hf := he.h0
            replace hf := hf.more he 3 rfl onT
            refine stP hf rfl rfl rfl (pFA fa_30_1 rfl) fun a hf => ?_
            refine cNil ?_
            refine xThenN ?_
            intro ds u hau
            refine ⟨θ, he.put0 hi hau hf rfl 13 rfl rfl, ?_⟩
            exact hc
          · intro E θ a w hD hi hp he hc
            have e8 := hp.of (k := 8) rfl
            have e17 := hD.f 1 rfl hi
            try dsimp only at hc
            rw [e17] at hc
            have hf := he.h0
            replace hf := hf.more he 13 rfl (onP e8)
            refine stE hf hc rfl rfl rfl (eLd1 sc_3 rfl (cell_box m0 rfl)) fun a w hf hc => ?_
            refine cNil ?_
            refine xThenN ?_
            intro ds u hau
            refine ⟨θ, he.put0 hi hau hf rfl 14 rfl rfl, ?_⟩
            try dsimp only
            rw [updE_fls 9 e17 rfl]
            exact hc
          · intro E θ a w hD hi hp he hc
            have hf := he.h0
            replace hf := hf.more he 2 rfl onT
            refine stP hf rfl rfl rfl (pM rfl) fun a hf => ?_
            refine cNil ?_
            refine xThenN ?_
            intro ds u hau
            refine ⟨θ, he.put0 hi hau hf rfl 15 rfl rfl, ?_⟩
            exact hc
          · intro E θ a w hD hi hp he hc
            have hf := he.h0
            replace hf := hf.more he 4 rfl onT
            refine stP hf rfl rfl rfl (pM rfl) fun a hf => ?_
            refine cNil ?_
            refine xThenN ?_
            intro ds u hau
            refine ⟨θ, he.put0 hi hau hf rfl 16 rfl rfl, ?_⟩
            exact hc
          · intro E θ a w hD hi hp he hc
            have e10 := hp.of (k := 10) rfl
            have e11 := hp.of (k := 11) rfl
            have hf := he.h0
            replace hf := hf.more he 15 rfl (onP e10)
            replace hf := hf.more he 16 rfl (onP e11)
            refine stP hf rfl rfl rfl (pIA Try.underlying25 sz_30 rfl rfl qa_1) fun a hf => ?_
            refine cNil ?_
            refine xThenN ?_
            intro ds u hau
            refine ⟨θ, he.put0 hi hau hf rfl 17 rfl rfl, ?_⟩
            exact hc
          · intro E θ a w hD hi hp he hc
            have e12 := hp.of (k := 12) rfl
            have hf := he.h0
            replace hf := hf.more he 17 rfl (onP e12)
            refine stP hf rfl rfl rfl (pFA fa_30_1 rfl) fun a hf => ?_
            refine cNil ?_
            refine xThenN ?_
            intro ds u hau
            refine ⟨θ, he.put0 hi hau hf rfl 18 rfl rfl, ?_⟩
            exact hc
          · intro E θ a w hD hi hp he hc
            have e13 := hp.of (k := 13) rfl
            have hf := he.h0
            replace hf := hf.more he 18 rfl (onP e13)
            refine stE hf hc rfl rfl rfl (eLd1 sc_3 rfl (cell_row (sz := 2) (i := d.toNat) (j := 1) m1 qr_1 rfl)) fun a w hf hc => ?_
            refine cNil ?_
            refine xThenN ?_
            intro ds u hau
            refine ⟨θ, he.put0 hi hau hf rfl 19 rfl rfl, ?_⟩
            exact hc
          · intro E θ a w hD hi hp he hc
            have e9 := hp.of (k := 9) rfl
            have e14 := hp.of (k := 14) rfl
            have hf := he.h0
            replace hf := hf.more he 14 rfl (onP e9)
            replace hf := hf.more he 19 rfl (onP e14)
            refine stP hf rfl rfl rfl (pAdd rfl rfl) fun a hf => ?_
            refine cNil ?_
            refine xThenN ?_
            intro ds u hau
            refine ⟨θ, he.put0 hi hau hf rfl 20 rfl rfl, ?_⟩
            exact hc
          · intro E θ a w hD hi hp he hc
            have e7 := hp.of (k := 7) rfl
            have e15 := hp.of (k := 15) rfl
            have hf := he.h0
            replace hf := hf.more he 12 rfl (onP e7)
            replace hf := hf.more he 20 rfl (onP e15)
            refine stP hf rfl rfl rfl (pBuildS (cells := [.int .i64 (W (x + e_1.Lo)), .int .i64 (W (x_1 + e_2.Hi))]) bt_30 rfl rfl) fun a hf => ?_
            refine cNil ?_
            refine xThenN ?_
            intro ds u hau
            refine ⟨θ, he.put0 hi hau hf rfl 21 rfl rfl, ?_⟩
            exact hc
          · intro E θ a w hD hi hp he hc
            have e16 := hp.of (k := 16) rfl
            try dsimp only at hc
            rw [hi] at hc
            have hf := he.h0
            replace hf := hf.more he 3 rfl onT
            replace hf := hf.more he 21 rfl (onP e16)
            refine stSt (vs := [.int .i64 (W (x + e_1.Lo)), .int .i64 (W (x_1 + e_2.Hi))]) hf hc rfl rfl rfl rfl sz_30 rfl rfl u0 fun w hc => ?_
            refine cNil ?_
            refine xThenN ?_
            intro ds u hau
            refine ⟨θ, he.stay0 hi hau hf rfl, ?_⟩
            try dsimp only
            rw [updE_self E 17]
            exact hc
          · intro E θ a w hall he hc
            have hf := he.h0
            have e17 := hall 17 rfl
            replace hf := hf.more he 4 rfl (onT)
            replace hf := hf.more he 3 rfl (onT)
            replace hf := hf.more he 2 rfl (onT)
            replace hf := hf.more he 1 rfl (onT)
            replace hf := hf.more he 0 rfl (onT)
            try dsimp only at hc
            rw [e17] at hc
            exact ⟨hf.keep ⟨rfl, rfl, rfl, rfl, rfl, trivial⟩, hc⟩
          rintro a w ⟨hf, hc⟩
          refine h20 _ _ ?_
          refine cReg ?_
          refine stP hf rfl rfl rfl (pM rfl) fun a hf => ?_
          refine stP hf rfl rfl rfl (pAdd rfl rfl) fun a hf => ?_
          refine stP hf rfl rfl rfl (pA rfl) fun a hf => ?_
          refine cNil ?_
          exact hK16 (W (d + 1), W (x + e_1.Lo), W (x_1 + e_2.Hi)) _ _ (Option.some.inj hF).symm ⟨(some ⟨g, 0, none⟩), c_2, hf.keep ⟨rfl, rfl, rfl, rfl, rfl, trivial⟩, hc⟩
        · replace hF := condF hb hF
          clear hb
          refine wp_exit ?_
          refine xThen ?_
          refine xThen ?_
          have he := Option.some.inj hF
          rw [← he] at hfin16
          refine cHit ?_
          exact hr16 _ _ _ hfin16 ⟨p_2, c_2, hf.keep ⟨rfl, rfl, rfl, rfl, rfl, trivial⟩, hc⟩

def ref07_Peak_j17 (N : Nat) (d_1 : Int) (days_1 : List Int) : Option (Step ((List Int) × Int) (api_Span × (List Int) × Int)) :=
  some (.cont (days_1, W (d_1 + 1)))
def ref07_Peak_b21 (N : Nat) (r_0 : (List api_Span) × Int) (d_1 : Int) (can : Bool) (k : Int) : Option (Step (Bool × Int) (Step ((List Int) × Int) (api_Span × (List Int) × Int))) :=
  cond (decide (k < ((r_0.1.length : Nat) : Int)))
  (Option.bind (cond can (Option.bind (getI r_0.1 k) fun e_2 =>
  Option.bind (getI r_0.1 d_1) fun e_3 =>
  some (decide (e_2.Lo ≤ e_3.Hi))) (some false)) fun t_1 =>
  some (.cont (t_1, W (k + 1))))
  (some (.brk (can, k)))
def ref07_Peak_b13 (N : Nat) (r_0 : (List api_Span) × Int) (days : List Int) (d_1 : Int) : Option (Step ((List Int) × Int) (api_Span × (List Int) × Int)) :=
  cond (decide (d_1 < ((r_0.1.length : Nat) : Int)))
  (Option.bind (loopO (fun s21 => ref07_Peak_b21 N r_0 d_1 s21.1 s21.2) N (true, 0)) fun x21 =>
  exK x21 (fun s21 => cond s21.1
  (Option.bind (room ((days ++ [d_1])).length) fun un =>
  ref07_Peak_j17 N d_1 (days ++ [d_1]))
  (ref07_Peak_j17 N d_1 days)) some)
  (some (.brk (days, d_1)))
def ref07_Peak_b9 (N : Nat) (r_0 : (List api_Span) × Int) (d : Int) (x : Int) (x_1 : Int) : Option (Step (Int × Int × Int) (api_Span × (List Int) × Int)) :=
  cond (decide (d < ((r_0.1.length : Nat) : Int)))
  (Option.bind (getI r_0.1 d) fun e_4 =>
  Option.bind (getI r_0.1 d) fun e_5 =>
  some (.cont (W (d + 1), max x e_4.Lo, max x_1 e_5.Hi)))
  (some (.brk (d, x, x_1)))
def ref07_Peak (N : Nat) (r : ref07_Record) : Option (api_Span × (List Int) × Int) :=
  Option.bind (ref07_Fill N r) fun r_0 =>
  cond (r_0.2 != 0)
  (some ((⟨0, 0⟩ : api_Span), ([] : List Int), r_0.2))
  (Option.bind (getI r_0.1 0) fun e_1 =>
  Option.bind (loopO (fun s9 => ref07_Peak_b9 N r_0 s9.1 s9.2.1 s9.2.2) N (1, e_1.Lo, e_1.Hi)) fun x9 =>
  exK x9 (fun s9 => Option.bind (loopO (fun s13 => ref07_Peak_b13 N r_0 s13.1 s13.2) N (([] : List Int), 0)) fun x13 =>
  exK x13 (fun s13 => some ((⟨s9.2.1, s9.2.2⟩ : api_Span), s13.1, 0)) some) some)
theorem ref07_Peak_ok {N : Nat} {G : Pers} {Lf : List Ent} {w : World} (r : ref07_Record) {r_Days_p : Option Addr} {r_Days_c : Nat} (h_r_Days : Rd G 3 r_Days_p r_Days_c (r.Days.map enc_ref07_Value)) (hc : Ctx G (Lf) w) {res : api_Span × (List Int) × Int} (hF : ref07_Peak N r = some res) : Calls Try.prog 19 #[.agg #[.int .i64 r.Rise, .int .i64 r.Fall, .slice r_Days_p r.Days.length r_Days_c]] w (fun e w => ∃ (p'1 : Option Addr) (c'1 : Nat), e = .returned (.tuple #[.agg #[.int .i64 res.1.Lo, .int .i64 res.1.Hi], .slice p'1 res.2.1.length c'1, .int .i64 res.2.2]) ∧ Ctx G (.row p'1 c'1 (res.2.1.map encI_i64) 3 1 :: Lf) w) := by
  unfold ref07_Peak at hF
  refine fnIn (args := [.agg #[.int .i64 r.Rise, .int .i64 r.Fall, .slice r_Days_p r.Days.length r_Days_c]]) Try.func19 rfl Try.ntmps19 rfl fun a hf => ?_
  refine wp_seq_k fun K1 h1 => ?_
  refine cReg ?_
  refine stBx (cs := [.int .i64 r.Rise, .int .i64 r.Fall, .slice r_Days_p r.Days.length r_Days_c]) hf hc rfl rfl rfl rfl fun b_1 a w hf hc => ?_
  refine stAl (cs := [.int .i64 0, .int .i64 0]) hf hc rfl rfl zr_30 rfl fun b_2 a w hf hc => ?_
  refine stP hf rfl rfl rfl (pA rfl) fun a hf => ?_
  refine stP hf rfl rfl rfl (pA rfl) fun a hf => ?_
  refine cNil ?_
  refine h1 _ _ ?_
  refine wp_seq_k fun K2 h2 => ?_
  refine cReg ?_
  refine stE hf hc rfl rfl rfl (eLdN (vs := [.int .i64 r.Rise, .int .i64 r.Fall, .slice r_Days_p r.Days.length r_Days_c]) ag_37 rfl rfl (cells_box (n := 3) m1 rfl)) fun a w hf hc => ?_
  obtain ⟨r_0, hr_0, hF⟩ := bnd_some hF
  refine stC (vs := [.agg #[.int .i64 r.Rise, .int .i64 r.Fall, .slice r_Days_p r.Days.length r_Days_c]]) (caps := []) hf rfl rfl rfl en_38 rfl rfl rfl rfl (ref07_Fill_ok r h_r_Days hc hr_0) ?_
  rintro _ w ⟨p_1, c_1, rfl, hc⟩
  refine ⟨_, rfl, fun a hf => ?_⟩
  refine stP hf rfl rfl rfl (pM rfl) fun a hf => ?_
  refine stP hf rfl rfl rfl (pX rfl rfl) fun a hf => ?_
  refine stP hf rfl rfl rfl (pX rfl rfl) fun a hf => ?_
  refine stP hf rfl rfl rfl (pA rfl) fun a hf => ?_
  refine stP hf rfl rfl rfl (pA rfl) fun a hf => ?_
  refine cNil ?_
  refine h2 _ _ ?_
  refine wp_seq_k fun K3 h3 => ?_
  refine wp_seq_k fun K4 h4 => ?_
  refine cReg ?_
  refine stP hf rfl rfl rfl (pM rfl) fun a hf => ?_
  refine stP hf rfl rfl rfl (pNe rfl rfl) fun a hf => ?_
  refine cNil ?_
  refine h4 _ _ ?_
  refine cCond (b := (r_0.2 != 0)) hf rfl (fun hb => ?_) (fun hb => ?_)
  · replace hF := condT hb hF
    clear hb
    refine wp_seq_k fun K5 h5 => ?_
    refine cReg ?_
    refine stP hf rfl rfl rfl (pBuildS (cells := [.int .i64 0, .int .i64 0]) bt_30 rfl rfl) fun a hf => ?_
    refine stP hf rfl rfl rfl (pM rfl) fun a hf => ?_
    refine stSt (vs := [.int .i64 0, .int .i64 0]) hf hc rfl rfl rfl rfl sz_30 rfl rfl u1 fun w hc => ?_
    refine stP hf rfl rfl rfl (pA rfl) fun a hf => ?_
    refine stP hf rfl rfl rfl (pA rfl) fun a hf => ?_
    refine cNil ?_
    refine h5 _ _ ?_
    refine wp_ret ?_
    refine xThenR ?_
    obtain rfl := Option.some.inj hF
    replace hc := hc.nilRow 3 1
    replace hc := hc.drop k3
    replace hc := hc.drop k1
    exact fnOut3 (by simp) rfl Try.results19 hf hc (rv_cellN (vs := [.int .i64 0, .int .i64 0]) ag_30 rfl rfl (cells_box (n := 2) m1 rfl)) (show look _ 3 = _ from rfl) (show look _ 4 = _ from rfl) ⟨none, 0, rfl, (hc.drop k1)⟩
  · replace hF := condF hb hF
    clear hb
    refine wp_skip ?_
    refine h3 _ _ ?_
    refine wp_seq_k fun K6 h6 => ?_
    refine cReg ?_
    refine stP hf rfl rfl rfl (pM rfl) fun a hf => ?_
    obtain ⟨e_1, he_1, hF⟩ := bnd_some hF
    obtain ⟨g, rfl, qa, qr⟩ := row_atm hc m0 he_1
    refine stP hf rfl rfl rfl (pIA Try.underlying25 sz_30 rfl rfl qa) fun a hf => ?_
    refine stE hf hc rfl rfl rfl (eLdN (vs := [.int .i64 e_1.Lo, .int .i64 e_1.Hi]) ag_30 rfl rfl (cells_rw (sz := 2) (i := (0 : Int).toNat) m0 qr (n := 2) (o' := 0) rfl)) fun a w hf hc => ?_
    refine stAl (cs := [.int .i64 0, .int .i64 0]) hf hc rfl rfl zr_30 rfl fun b_3 a w hf hc => ?_
    refine stSt (vs := [.int .i64 e_1.Lo, .int .i64 e_1.Hi]) hf hc rfl rfl rfl rfl sz_30 rfl rfl u0 fun w hc => ?_
    refine cNil ?_
    refine h6 _ _ ?_
    refine wp_seq_k fun K7 h7 => ?_
    refine wp_seq_k fun K8 h8 => ?_
    refine cReg ?_
    refine stP hf rfl rfl rfl (pA rfl) fun a hf => ?_
    refine cNil ?_
    refine h8 _ _ ?_
    refine wp_block ?_
    obtain ⟨x9, hx9, hF⟩ := bnd_some hF
    let S9 : (Int × Int × Int) → Act → World → Prop := (fun (zz : Int × Int × Int) a w => Has 81 a [(2, .pointer (some ⟨b_2, 0, none⟩)), (5, .slice (some ⟨g, 0, none⟩) r_0.1.length c_1), (7, .pointer (some ⟨b_3, 0, none⟩)), (8, .int .i64 zz.1)] ∧ Ctx G (.box b_3 [.int .i64 zz.2.1, .int .i64 zz.2.2] 30 :: .row (some ⟨g, 0, none⟩) c_1 (r_0.1.map enc_api_Span) 30 2 :: .box b_2 [.int .i64 0, .int .i64 0] 30 :: Lf) w)
    have hr9 : ∀ (zz : Int × Int × Int) a w, x9 = .go zz → S9 zz a w → K7 a w := by
      rintro ⟨d, x, x_1⟩ a w rfl ⟨hf, hc⟩
      replace hF := exK_go hF
      refine h7 _ _ ?_
      refine wp_seq_k fun K10 h10 => ?_
      refine cReg ?_
      refine stP hf rfl rfl rfl (pA rfl) fun a hf => ?_
      refine cNil ?_
      refine h10 _ _ ?_
      refine wp_seq_k fun K11 h11 => ?_
      refine wp_seq_k fun K12 h12 => ?_
      refine cReg ?_
      refine stP hf rfl rfl rfl (pA rfl) fun a hf => ?_
      refine cNil ?_
      refine h12 _ _ ?_
      refine wp_block ?_
      obtain ⟨x13, hx13, hF⟩ := bnd_some hF
      let S13 : ((List Int) × Int) → Act → World → Prop := (fun (zz : (List Int) × Int) a w => ∃ (p_2 : Option Addr) (c_2 : Nat), Has 81 a [(2, .pointer (some ⟨b_2, 0, none⟩)), (5, .slice (some ⟨g, 0, none⟩) r_0.1.length c_1), (7, .pointer (some ⟨b_3, 0, none⟩)), (9, .slice p_2 zz.1.length c_2), (10, .int .i64 zz.2)] ∧ Ctx G (.row p_2 c_2 (zz.1.map encI_i64) 3 1 :: .box b_3 [.int .i64 x, .int .i64 x_1] 30 :: .row (some ⟨g, 0, none⟩) c_1 (r_0.1.map enc_api_Span) 30 2 :: .box b_2 [.int .i64 0, .int .i64 0] 30 :: Lf) w)
      have hr13 : ∀ (zz : (List Int) × Int) a w, x13 = .go zz → S13 zz a w → K11 a w := by
        rintro ⟨days, d_1⟩ a w rfl ⟨p_2, c_2, hf, hc⟩
        replace hF := exK_go hF
        refine h11 _ _ ?_
        refine wp_seq_k fun K14 h14 => ?_
        refine cReg ?_
        refine stE hf hc rfl rfl rfl (eLdN (vs := [.int .i64 x, .int .i64 x_1]) ag_30 rfl rfl (cells_box (n := 2) m1 rfl)) fun a w hf hc => ?_
        refine stP hf rfl rfl rfl (pM rfl) fun a hf => ?_
        refine stSt (vs := [.int .i64 x, .int .i64 x_1]) hf hc rfl rfl rfl rfl sz_30 rfl rfl u3 fun w hc => ?_
        refine stP hf rfl rfl rfl (pA rfl) fun a hf => ?_
        refine stP hf rfl rfl rfl (pA rfl) fun a hf => ?_
        refine cNil ?_
        refine h14 _ _ ?_
        refine wp_ret ?_
        obtain rfl := Option.some.inj hF
        replace hc := hc.drop k2
        replace hc := hc.drop k1
        exact fnOut3 (by simp) rfl Try.results19 hf hc (rv_cellN (vs := [.int .i64 x, .int .i64 x_1]) ag_30 rfl rfl (cells_box (n := 2) m1 rfl)) (show look _ 3 = _ from rfl) (show look _ 4 = _ from rfl) ⟨p_2, c_2, rfl, (hc.drop k1)⟩
      have ho13 : ∀ r, x13 = .out r → r = res := by
        rintro r rfl
        exact Option.some.inj hF
      replace hc := hc.nilRow 3 1
      refine cLoop N (loopW (S := S13) (x := x13) ?_ N (([] : List Int), 0) _ _ ⟨none, 0, hf.keep ⟨rfl, rfl, rfl, rfl, rfl, trivial⟩, hc⟩ hx13)
      clear hF hf hc
      rintro ⟨days, d_1⟩ st13 a w KB13 ⟨p_2, c_2, hf, hc⟩ hF hfin13 hK13
      unfold ref07_Peak_b13 at hF
      refine wp_seq_k fun K15 h15 => ?_
      refine wp_seq_k fun K16 h16 => ?_
      refine cReg ?_
      refine stP hf rfl rfl rfl (pM rfl) fun a hf => ?_
      refine stP hf rfl rfl rfl (pM rfl) fun a hf => ?_
      refine stP hf rfl rfl rfl (pLenS Try.underlying25 rfl) fun a hf => ?_
      refine stP hf rfl rfl rfl (pLt rfl rfl) fun a hf => ?_
      refine cNil ?_
      refine h16 _ _ ?_
      refine cCond (b := (decide (d_1 < ((r_0.1.length : Nat) : Int)))) hf rfl (fun hb => ?_) (fun hb => ?_)
      · replace hF := condT hb hF
        clear hb
        refine wp_skip ?_
        refine h15 _ _ ?_
        refine wp_seq_k fun K17 h17 => ?_
        have hj17 : ∀ (days_1 : List Int) (p_3 : Option Addr) (c_3 : Nat) a w, Has 81 a [(2, .pointer (some ⟨b_2, 0, none⟩)), (5, .slice (some ⟨g, 0, none⟩) r_0.1.length c_1), (7, .pointer (some ⟨b_3, 0, none⟩)), (9, .slice p_3 days_1.length c_3), (10, .int .i64 d_1)] → Ctx G (.row p_3 c_3 (days_1.map encI_i64) 3 1 :: .box b_3 [.int .i64 x, .int .i64 x_1] 30 :: .row (some ⟨g, 0, none⟩) c_1 (r_0.1.map enc_api_Span) 30 2 :: .box b_2 [.int .i64 0, .int .i64 0] 30 :: Lf) w → ref07_Peak_j17 N d_1 days_1 = some st13 → K17 a w := by
          intro days_1 p_3 c_3 a w hf hc hF
          unfold ref07_Peak_j17 at hF
          refine h17 _ _ ?_
          refine cReg ?_
          refine stP hf rfl rfl rfl (pM rfl) fun a hf => ?_
          refine stP hf rfl rfl rfl (pAdd rfl rfl) fun a hf => ?_
          refine stP hf rfl rfl rfl (pA rfl) fun a hf => ?_
          refine cNil ?_
          exact hK13 (days_1, W (d_1 + 1)) _ _ (Option.some.inj hF).symm ⟨p_3, c_3, hf.keep ⟨rfl, rfl, rfl, rfl, rfl, trivial⟩, hc⟩
        refine wp_block ?_
        refine wp_seq_k fun K18 h18 => ?_
        refine cReg ?_
        refine stP hf rfl rfl rfl (pA rfl) fun a hf => ?_
        refine cNil ?_
        refine h18 _ _ ?_
        refine wp_seq_k fun K19 h19 => ?_
        refine wp_seq_k fun K20 h20 => ?_
        refine cReg ?_
        refine stP hf rfl rfl rfl (pA rfl) fun a hf => ?_
        refine cNil ?_
        refine h20 _ _ ?_
        refine wp_block ?_
        obtain ⟨x21, hx21, hF⟩ := bnd_some hF
        let S21 : (Bool × Int) → Act → World → Prop := (fun (zz : Bool × Int) a w => Has 81 a [(2, .pointer (some ⟨b_2, 0, none⟩)), (5, .slice (some ⟨g, 0, none⟩) r_0.1.length c_1), (7, .pointer (some ⟨b_3, 0, none⟩)), (9, .slice p_2 days.length c_2), (10, .int .i64 d_1), (11, .bool zz.1), (12, .int .i64 zz.2)] ∧ Ctx G (.row p_2 c_2 (days.map encI_i64) 3 1 :: .box b_3 [.int .i64 x, .int .i64 x_1] 30 :: .row (some ⟨g, 0, none⟩) c_1 (r_0.1.map enc_api_Span) 30 2 :: .box b_2 [.int .i64 0, .int .i64 0] 30 :: Lf) w)
        have hr21 : ∀ (zz : Bool × Int) a w, x21 = .go zz → S21 zz a w → K19 a w := by
          rintro ⟨can, k⟩ a w rfl ⟨hf, hc⟩
          replace hF := exK_go hF
          refine h19 _ _ ?_
          refine wp_seq_k fun K22 h22 => ?_
          refine cReg ?_
          refine stP hf rfl rfl rfl (pM rfl) fun a hf => ?_
          refine cNil ?_
          refine h22 _ _ ?_
          refine cCond (b := can) hf rfl (fun hb => ?_) (fun hb => ?_)
          · replace hF := condT hb hF
            clear hb
            refine cReg ?_
            refine stP hf rfl rfl rfl (pM rfl) fun a hf => ?_
            refine stP hf rfl rfl rfl (pM rfl) fun a hf => ?_
            refine stBS (rows := ([d_1] : List Int).map encI_i64) (vs := [(0, .int .i64 d_1)]) hf hc rfl rfl sl_39 rfl ⟨rfl, rfl, rfl, trivial⟩ rfl rfl fun b_4 a w hf hc => ?_
            obtain ⟨un, hun, hF⟩ := bnd_some hF
            refine stApm (xs := days) (ys := ([d_1] : List Int)) hf hc rfl rfl sl_39 rfl rfl rfl rfl rfl one_encI_i64 (src_row hc m0) (fun _ _ => u1) (by simpa using room_spec hun) fun p_4 c_4 a w hf hc => ?_
            refine stP hf rfl rfl rfl (pA rfl) fun a hf => ?_
            refine cNil ?_
            replace hc := hc.drop k0
            exact hj17 (days ++ [d_1]) p_4 c_4 _ _  (hf.keep ⟨rfl, rfl, rfl, rfl, rfl, trivial⟩) hc hF
          · replace hF := condF hb hF
            clear hb
            refine wp_skip ?_
            exact hj17 days p_2 c_2 _ _  (hf.keep ⟨rfl, rfl, rfl, rfl, rfl, trivial⟩) hc hF
        have ho21 : ∀ r, x21 = .out r → r = st13 := by
          rintro r rfl
          exact Option.some.inj hF
        refine cLoop N (loopW (S := S21) (x := x21) ?_ N (true, 0) _ _ ⟨hf.keep ⟨rfl, rfl, rfl, rfl, rfl, rfl, rfl, trivial⟩, hc⟩ hx21)
        clear hF hf hc
        rintro ⟨can, k⟩ st21 a w KB21 ⟨hf, hc⟩ hF hfin21 hK21
        unfold ref07_Peak_b21 at hF
        refine wp_seq_k fun K23 h23 => ?_
        refine wp_seq_k fun K24 h24 => ?_
        refine cReg ?_
        refine stP hf rfl rfl rfl (pM rfl) fun a hf => ?_
        refine stP hf rfl rfl rfl (pM rfl) fun a hf => ?_
        refine stP hf rfl rfl rfl (pLenS Try.underlying25 rfl) fun a hf => ?_
        refine stP hf rfl rfl rfl (pLt rfl rfl) fun a hf => ?_
        refine cNil ?_
        refine h24 _ _ ?_
        refine cCond (b := (decide (k < ((r_0.1.length : Nat) : Int)))) hf rfl (fun hb => ?_) (fun hb => ?_)
        · replace hF := condT hb hF
          clear hb
          refine wp_skip ?_
          refine h23 _ _ ?_
          refine wp_seq_k fun K25 h25 => ?_
          refine wp_block ?_
          obtain ⟨t_1, ht_1, hF⟩ := bnd_some hF
          refine cQ hc follows_mx (by kernel_rfl) ?_
          refine qE hf rfl rfl rfl (Pu.ev (pM rfl)) fun a hf => ?_
          refine qE hf rfl rfl rfl (Pu.ev (pM rfl)) fun a hf => ?_
          refine qCut 12 (fun a => Has 81 a [(2, .pointer (some ⟨b_2, 0, none⟩)), (5, .slice (some ⟨g, 0, none⟩) r_0.1.length c_1), (7, .pointer (some ⟨b_3, 0, none⟩)), (9, .slice p_2 days.length c_2), (10, .int .i64 d_1), (11, .bool can), (12, .int .i64 k), (60, .bool can), (61, .bool can), (73, .bool t_1)]) ?_ ?_
          · cases hb : can
            · rw [hb] at hf
              have hF := condF hb ht_1
              obtain rfl := Option.some.inj hF
              refine qS hf rfl rfl rfl fun a hf => ?_
              refine qS hf rfl rfl rfl fun a hf => ?_
              refine qS hf rfl rfl rfl fun a hf => ?_
              refine qS hf rfl rfl rfl fun a hf => ?_
              refine qS hf rfl rfl rfl fun a hf => ?_
              refine qS hf rfl rfl rfl fun a hf => ?_
              refine qS hf rfl rfl rfl fun a hf => ?_
              refine qS hf rfl rfl rfl fun a hf => ?_
              refine qS hf rfl rfl rfl fun a hf => ?_
              refine qS hf rfl rfl rfl fun a hf => ?_
              refine qS hf rfl rfl rfl fun a hf => ?_
              refine qE hf rfl rfl rfl (Pu.ev (pPf rfl rfl)) fun a hf => ?_
              exact qNil (hf.keep ⟨rfl, rfl, rfl, rfl, rfl, rfl, rfl, rfl, rfl, rfl, trivial⟩)
            · rw [hb] at hf
              have hF := condT hb ht_1
              obtain ⟨e_2, he_2, hF⟩ := bnd_some hF
              obtain ⟨qa_1, qr_1⟩ := row_atk hc m2 he_2
              obtain ⟨e_3, he_3, hF⟩ := bnd_some hF
              obtain ⟨qa_2, qr_2⟩ := row_atk hc m2 he_3
              refine qE hf rfl rfl rfl (Pu.ev (pM rfl)) fun a hf => ?_
              refine qE hf rfl rfl rfl (Pu.ev (pM rfl)) fun a hf => ?_
              refine qE hf rfl rfl rfl (Pu.ev (pIA Try.underlying25 sz_30 rfl rfl qa_1)) fun a hf => ?_
              refine qE hf rfl rfl rfl (Pu.ev (pFA fa_30_0 rfl)) fun a hf => ?_
              refine qE hf rfl rfl rfl (eLd1 sc_3 rfl (cell_row (sz := 2) (i := k.toNat) (j := 0) m2 qr_1 rfl)) fun a hf => ?_
              refine qE hf rfl rfl rfl (Pu.ev (pM rfl)) fun a hf => ?_
              refine qE hf rfl rfl rfl (Pu.ev (pM rfl)) fun a hf => ?_
              refine qE hf rfl rfl rfl (Pu.ev (pIA Try.underlying25 sz_30 rfl rfl qa_2)) fun a hf => ?_
              refine qE hf rfl rfl rfl (Pu.ev (pFA fa_30_1 rfl)) fun a hf => ?_
              refine qE hf rfl rfl rfl (eLd1 sc_3 rfl (cell_row (sz := 2) (i := d_1.toNat) (j := 1) m2 qr_2 rfl)) fun a hf => ?_
              refine qE hf rfl rfl rfl (Pu.ev (pLe rfl rfl)) fun a hf => ?_
              refine qE hf rfl rfl rfl (Pu.ev (pPt rfl rfl)) fun a hf => ?_
              obtain rfl := Option.some.inj hF
              exact qNil (hf.keep ⟨rfl, rfl, rfl, rfl, rfl, rfl, rfl, rfl, rfl, rfl, trivial⟩)
          intro a hf
          refine qE hf rfl rfl rfl (Pu.ev (pA rfl)) fun a hf => ?_
          intro w hc
          refine h25 _ _ ?_
          refine cReg ?_
          refine stP hf rfl rfl rfl (pM rfl) fun a hf => ?_
          refine stP hf rfl rfl rfl (pAdd rfl rfl) fun a hf => ?_
          refine stP hf rfl rfl rfl (pA rfl) fun a hf => ?_
          refine cNil ?_
          exact hK21 (t_1, W (k + 1)) _ _ (Option.some.inj hF).symm ⟨hf.keep ⟨rfl, rfl, rfl, rfl, rfl, rfl, rfl, trivial⟩, hc⟩
        · replace hF := condF hb hF
          clear hb
          refine wp_exit ?_
          refine xThen ?_
          refine xThen ?_
          have he := Option.some.inj hF
          rw [← he] at hfin21
          refine cHit ?_
          exact hr21 _ _ _ hfin21 ⟨hf.keep ⟨rfl, rfl, rfl, rfl, rfl, rfl, rfl, trivial⟩, hc⟩
      · replace hF := condF hb hF
        clear hb
        refine wp_exit ?_
        refine xThen ?_
        refine xThen ?_
        have he := Option.some.inj hF
        rw [← he] at hfin13
        refine cHit ?_
        exact hr13 _ _ _ hfin13 ⟨p_2, c_2, hf.keep ⟨rfl, rfl, rfl, rfl, rfl, trivial⟩, hc⟩
    have ho9 : ∀ r, x9 = .out r → r = res := by
      rintro r rfl
      exact Option.some.inj hF
    replace hc := hc.drop k3
    refine cLoop N (loopW (S := S9) (x := x9) ?_ N (1, e_1.Lo, e_1.Hi) _ _ ⟨hf.keep ⟨rfl, rfl, rfl, rfl, trivial⟩, hc⟩ hx9)
    clear hF hf hc
    rintro ⟨d, x, x_1⟩ st9 a w KB9 ⟨hf, hc⟩ hF hfin9 hK9
    unfold ref07_Peak_b9 at hF
    refine wp_seq_k fun K26 h26 => ?_
    refine wp_seq_k fun K27 h27 => ?_
    refine cReg ?_
    refine stP hf rfl rfl rfl (pM rfl) fun a hf => ?_
    refine stP hf rfl rfl rfl (pM rfl) fun a hf => ?_
    refine stP hf rfl rfl rfl (pLenS Try.underlying25 rfl) fun a hf => ?_
    refine stP hf rfl rfl rfl (pLt rfl rfl) fun a hf => ?_
    refine cNil ?_
    refine h27 _ _ ?_
    refine cCond (b := (decide (d < ((r_0.1.length : Nat) : Int)))) hf rfl (fun hb => ?_) (fun hb => ?_)
    · replace hF := condT hb hF
      clear hb
      refine wp_skip ?_
      refine h26 _ _ ?_
      refine wp_seq_k fun K28 h28 => ?_
      refine wp_block ?_
      obtain ⟨e_4, he_4, hF⟩ := bnd_some hF
      obtain ⟨qa_3, qr_3⟩ := row_atk hc m1 he_4
      obtain ⟨e_5, he_5, hF⟩ := bnd_some hF
      obtain ⟨qa_4, qr_4⟩ := row_atk hc m1 he_5
      refine regionE (fun θ => [⟨none, none, 2, .pointer (some ⟨b_2, 0, none⟩)⟩, ⟨none, none, 5, .slice (some ⟨g, 0, none⟩) r_0.1.length c_1⟩, ⟨none, none, 7, .pointer (some ⟨b_3, 0, none⟩)⟩, ⟨none, none, 8, .int .i64 d⟩, ⟨some 0, none, 31, .pointer (some ⟨b_3, 0, none⟩)⟩, ⟨some 1, none, 32, .int .i64 x⟩, ⟨some 2, none, 33, .slice (some ⟨g, 0, none⟩) r_0.1.length c_1⟩, ⟨some 3, none, 34, .int .i64 d⟩, ⟨some 4, none, 35, .pointer (some ⟨g, d.toNat * 2, none⟩)⟩, ⟨some 5, none, 36, .pointer (some ⟨g, d.toNat * 2 + 0, none⟩)⟩, ⟨some 6, none, 37, .int .i64 e_4.Lo⟩, ⟨some 7, none, 38, .int .i64 (max x e_4.Lo)⟩, ⟨some 8, none, 39, .pointer (some ⟨b_3, 1, none⟩)⟩, ⟨some 9, none, 40, .int .i64 x_1⟩, ⟨some 10, none, 41, .slice (some ⟨g, 0, none⟩) r_0.1.length c_1⟩, ⟨some 11, none, 42, .int .i64 d⟩, ⟨some 12, none, 43, .pointer (some ⟨g, d.toNat * 2, none⟩)⟩, ⟨some 13, none, 44, .pointer (some ⟨g, d.toNat * 2 + 1, none⟩)⟩, ⟨some 14, none, 45, .int .i64 e_5.Hi⟩, ⟨some 15, none, 46, .int .i64 (max x_1 e_5.Hi)⟩, ⟨some 16, none, 47, .agg #[.int .i64 (max x e_4.Lo), .int .i64 (max x_1 e_5.Hi)]⟩]) (fun E θ => (bif E 17 then .box b_3 [.int .i64 (max x e_4.Lo), .int .i64 (max x_1 e_5.Hi)] 30 else .box b_3 [.int .i64 x, .int .i64 x_1] 30) :: .row (some ⟨g, 0, none⟩) c_1 (r_0.1.map enc_api_Span) 30 2 :: .box b_2 [.int .i64 0, .int .i64 0] 30 :: Lf) [(17, 1), (17, 9)] (fun a w => Has 81 a [(2, .pointer (some ⟨b_2, 0, none⟩)), (5, .slice (some ⟨g, 0, none⟩) r_0.1.length c_1), (7, .pointer (some ⟨b_3, 0, none⟩)), (8, .int .i64 d)] ∧ Ctx G (.box b_3 [.int .i64 (max x e_4.Lo), .int .i64 (max x_1 e_5.Hi)] 30 :: .row (some ⟨g, 0, none⟩) c_1 (r_0.1.map enc_api_Span) 30 2 :: .box b_2 [.int .i64 0, .int .i64 0] 30 :: Lf) w) follows_mx (by kernel_rfl) (by kernel_rfl) (HasE.of hf ⟨rfl, rfl, rfl, rfl, trivial, trivial, trivial, trivial, trivial, trivial, trivial, trivial, trivial, trivial, trivial, trivial, trivial, trivial, trivial, trivial, trivial, trivial⟩) hc ⟨?_, ?_, ?_, ?_, ?_, ?_, ?_, ?_, ?_, ?_, ?_, ?_, ?_, ?_, ?_, ?_, ?_, ?_, trivial⟩ ?_ ?_
      · intro E θ a w hD hi hp he hc
        have hf := he.h0
        replace hf := hf.more he 2 rfl onT
        refine stP hf rfl rfl rfl (pFA fa_30_0 rfl) fun a hf => ?_
        refine cNil ?_
        refine xThenN ?_
        intro ds u hau
        refine ⟨θ, he.put0 hi hau hf rfl 4 rfl rfl, ?_⟩
        exact hc
      · intro E θ a w hD hi hp he hc
        have e0 := hp.of (k := 0) rfl
        have e17 := hD.f 0 rfl hi
        try dsimp only at hc
        rw [e17] at hc
        have hf := he.h0
        replace hf := hf.more he 4 rfl (onP e0)
        refine stE hf hc rfl rfl rfl (eLd1 sc_3 rfl (cell_box m0 rfl)) fun a w hf hc => ?_
        refine cNil ?_
        refine xThenN ?_
        intro ds u hau
        refine ⟨θ, he.put0 hi hau hf rfl 5 rfl rfl, ?_⟩
        try dsimp only
        rw [updE_fls 1 e17 rfl]
        exact hc
      · intro E θ a w hD hi hp he hc
        have hf := he.h0
        replace hf := hf.more he 1 rfl onT
        refine stP hf rfl rfl rfl (pM rfl) fun a hf => ?_
        refine cNil ?_
        refine xThenN ?_
        intro ds u hau
        refine ⟨θ, he.put0 hi hau hf rfl 6 rfl rfl, ?_⟩
        exact hc
      · intro E θ a w hD hi hp he hc
        have hf := he.h0
        replace hf := hf.more he 3 rfl onT
        refine stP hf rfl rfl rfl (pM rfl) fun a hf => ?_
        refine cNil ?_
        refine xThenN ?_
        intro ds u hau
        refine ⟨θ, he.put0 hi hau hf rfl 7 rfl rfl, ?_⟩
        exact hc
      · intro E θ a w hD hi hp he hc
        have e2 := hp.of (k := 2) rfl
        have e3 := hp.of (k := 3) rfl
        have hf := he.h0
        replace hf := hf.more he 6 rfl (onP e2)
        replace hf := hf.more he 7 rfl (onP e3)
        refine stP hf rfl rfl rfl (pIA Try.underlying25 sz_30 rfl rfl qa_3) fun a hf => ?_
        refine cNil ?_
        refine xThenN ?_
        intro ds u hau
        refine ⟨θ, he.put0 hi hau hf rfl 8 rfl rfl, ?_⟩
        exact hc
      · intro E θ a w hD hi hp he hc
        have e4 := hp.of (k := 4) rfl
        have hf := he.h0
        replace hf := hf.more he 8 rfl (onP e4)
        refine stP hf rfl rfl rfl (pFA fa_30_0 rfl) fun a hf => ?_
        refine cNil ?_
        refine xThenN ?_
        intro ds u hau
        refine ⟨θ, he.put0 hi hau hf rfl 9 rfl rfl, ?_⟩
        exact hc
      · intro E θ a w hD hi hp he hc
        have e5 := hp.of (k := 5) rfl
        have hf := he.h0
        replace hf := hf.more he 9 rfl (onP e5)
        refine stE hf hc rfl rfl rfl (eLd1 sc_3 rfl (cell_row (sz := 2) (i := d.toNat) (j := 0) m1 qr_3 rfl)) fun a w hf hc => ?_
        refine cNil ?_
        refine xThenN ?_
        intro ds u hau
        refine ⟨θ, he.put0 hi hau hf rfl 10 rfl rfl, ?_⟩
        exact hc
      · intro E θ a w hD hi hp he hc
        have e1 := hp.of (k := 1) rfl
        have e6 := hp.of (k := 6) rfl
        have hf := he.h0
        replace hf := hf.more he 5 rfl (onP e1)
        replace hf := hf.more he 10 rfl (onP e6)
        refine stP hf rfl rfl rfl (pMax2 rfl rfl) fun a hf => ?_
        refine cNil ?_
        refine xThenN ?_
        intro ds u hau
        refine ⟨θ, he.put0 hi hau hf rfl 11 rfl rfl, ?_⟩
        exact hc
      · intro E θ a w hD hi hp he hc
        have hf := he.h0
        replace hf := hf.more he 2 rfl onT
        refine stP hf rfl rfl rfl (pFA fa_30_1 rfl) fun a hf => ?_
        refine cNil ?_
        refine xThenN ?_
        intro ds u hau
        refine ⟨θ, he.put0 hi hau hf rfl 12 rfl rfl, ?_⟩
        exact hc
      · intro E θ a w hD hi hp he hc
        have e8 := hp.of (k := 8) rfl
        have e17 := hD.f 1 rfl hi
        try dsimp only at hc
        rw [e17] at hc
        have hf := he.h0
        replace hf := hf.more he 12 rfl (onP e8)
        refine stE hf hc rfl rfl rfl (eLd1 sc_3 rfl (cell_box m0 rfl)) fun a w hf hc => ?_
        refine cNil ?_
        refine xThenN ?_
        intro ds u hau
        refine ⟨θ, he.put0 hi hau hf rfl 13 rfl rfl, ?_⟩
        try dsimp only
        rw [updE_fls 9 e17 rfl]
        exact hc
      · intro E θ a w hD hi hp he hc
        have hf := he.h0
        replace hf := hf.more he 1 rfl onT
        refine stP hf rfl rfl rfl (pM rfl) fun a hf => ?_
        refine cNil ?_
        refine xThenN ?_
        intro ds u hau
        refine ⟨θ, he.put0 hi hau hf rfl 14 rfl rfl, ?_⟩
        exact hc
      · intro E θ a w hD hi hp he hc
        have hf := he.h0
        replace hf := hf.more he 3 rfl onT
        refine stP hf rfl rfl rfl (pM rfl) fun a hf => ?_
        refine cNil ?_
        refine xThenN ?_
        intro ds u hau
        refine ⟨θ, he.put0 hi hau hf rfl 15 rfl rfl, ?_⟩
        exact hc
      · intro E θ a w hD hi hp he hc
        have e10 := hp.of (k := 10) rfl
        have e11 := hp.of (k := 11) rfl
        have hf := he.h0
        replace hf := hf.more he 14 rfl (onP e10)
        replace hf := hf.more he 15 rfl (onP e11)
        refine stP hf rfl rfl rfl (pIA Try.underlying25 sz_30 rfl rfl qa_4) fun a hf => ?_
        refine cNil ?_
        refine xThenN ?_
        intro ds u hau
        refine ⟨θ, he.put0 hi hau hf rfl 16 rfl rfl, ?_⟩
        exact hc
      · intro E θ a w hD hi hp he hc
        have e12 := hp.of (k := 12) rfl
        have hf := he.h0
        replace hf := hf.more he 16 rfl (onP e12)
        refine stP hf rfl rfl rfl (pFA fa_30_1 rfl) fun a hf => ?_
        refine cNil ?_
        refine xThenN ?_
        intro ds u hau
        refine ⟨θ, he.put0 hi hau hf rfl 17 rfl rfl, ?_⟩
        exact hc
      · intro E θ a w hD hi hp he hc
        have e13 := hp.of (k := 13) rfl
        have hf := he.h0
        replace hf := hf.more he 17 rfl (onP e13)
        refine stE hf hc rfl rfl rfl (eLd1 sc_3 rfl (cell_row (sz := 2) (i := d.toNat) (j := 1) m1 qr_4 rfl)) fun a w hf hc => ?_
        refine cNil ?_
        refine xThenN ?_
        intro ds u hau
        refine ⟨θ, he.put0 hi hau hf rfl 18 rfl rfl, ?_⟩
        exact hc
      · intro E θ a w hD hi hp he hc
        have e9 := hp.of (k := 9) rfl
        have e14 := hp.of (k := 14) rfl
        have hf := he.h0
        replace hf := hf.more he 13 rfl (onP e9)
        replace hf := hf.more he 18 rfl (onP e14)
        refine stP hf rfl rfl rfl (pMax2 rfl rfl) fun a hf => ?_
        refine cNil ?_
        refine xThenN ?_
        intro ds u hau
        refine ⟨θ, he.put0 hi hau hf rfl 19 rfl rfl, ?_⟩
        exact hc
      · intro E θ a w hD hi hp he hc
        have e7 := hp.of (k := 7) rfl
        have e15 := hp.of (k := 15) rfl
        have hf := he.h0
        replace hf := hf.more he 11 rfl (onP e7)
        replace hf := hf.more he 19 rfl (onP e15)
        refine stP hf rfl rfl rfl (pBuildS (cells := [.int .i64 (max x e_4.Lo), .int .i64 (max x_1 e_5.Hi)]) bt_30 rfl rfl) fun a hf => ?_
        refine cNil ?_
        refine xThenN ?_
        intro ds u hau
        refine ⟨θ, he.put0 hi hau hf rfl 20 rfl rfl, ?_⟩
        exact hc
      · intro E θ a w hD hi hp he hc
        have e16 := hp.of (k := 16) rfl
        try dsimp only at hc
        rw [hi] at hc
        have hf := he.h0
        replace hf := hf.more he 2 rfl onT
        replace hf := hf.more he 20 rfl (onP e16)
        refine stSt (vs := [.int .i64 (max x e_4.Lo), .int .i64 (max x_1 e_5.Hi)]) hf hc rfl rfl rfl rfl sz_30 rfl rfl u0 fun w hc => ?_
        refine cNil ?_
        refine xThenN ?_
        intro ds u hau
        refine ⟨θ, he.stay0 hi hau hf rfl, ?_⟩
        try dsimp only
        rw [updE_self E 17]
        exact hc
      · intro E θ a w hall he hc
        have hf := he.h0
        have e17 := hall 17 rfl
        replace hf := hf.more he 3 rfl (onT)
        replace hf := hf.more he 2 rfl (onT)
        replace hf := hf.more he 1 rfl (onT)
        replace hf := hf.more he 0 rfl (onT)
        try dsimp only at hc
        rw [e17] at hc
        exact ⟨hf.keep ⟨rfl, rfl, rfl, rfl, trivial⟩, hc⟩
      rintro a w ⟨hf, hc⟩
      refine h28 _ _ ?_
      refine cReg ?_
      refine stP hf rfl rfl rfl (pM rfl) fun a hf => ?_
      refine stP hf rfl rfl rfl (pAdd rfl rfl) fun a hf => ?_
      refine stP hf rfl rfl rfl (pA rfl) fun a hf => ?_
      refine cNil ?_
      exact hK9 (W (d + 1), max x e_4.Lo, max x_1 e_5.Hi) _ _ (Option.some.inj hF).symm ⟨hf.keep ⟨rfl, rfl, rfl, rfl, trivial⟩, hc⟩
    · replace hF := condF hb hF
      clear hb
      refine wp_exit ?_
      refine xThen ?_
      refine xThen ?_
      have he := Option.some.inj hF
      rw [← he] at hfin9
      refine cHit ?_
      exact hr9 _ _ _ hfin9 ⟨hf.keep ⟨rfl, rfl, rfl, rfl, trivial⟩, hc⟩

def ref07_Again_j23 (N : Nat) (d_1 : Int) (out_1 : List Int) : Option (Step ((List Int) × Int) ((List Int) × Int)) :=
  some (.cont (out_1, W (d_1 + 1)))
def ref07_Again_b19 (N : Nat) (published : List api_Span) (r_1 : (List api_Span) × Int) (out : List Int) (d_1 : Int) : Option (Step ((List Int) × Int) ((List Int) × Int)) :=
  cond (decide (d_1 < ((r_1.1.length : Nat) : Int)))
  (Option.bind (getI r_1.1 d_1) fun e_1 =>
  Option.bind (getI published d_1) fun e_2 =>
  Option.bind (getI published d_1) fun e_3 =>
  Option.bind (cond (ref07_outside e_1.Lo e_2.Lo e_3.Hi) (some true) (Option.bind (getI r_1.1 d_1) fun e_4 =>
  Option.bind (getI published d_1) fun e_5 =>
  Option.bind (getI published d_1) fun e_6 =>
  some (ref07_outside e_4.Hi e_5.Lo e_6.Hi))) fun t_1 =>
  cond t_1
  (Option.bind (room ((out ++ [d_1])).length) fun un =>
  ref07_Again_j23 N d_1 (out ++ [d_1]))
  (ref07_Again_j23 N d_1 out))
  (some (.brk (out, d_1)))
def ref07_Again_b11 (N : Nat) (published : List api_Span) (d : Int) : Option (Step (Int) ((List Int) × Int)) :=
  cond (decide (d < ((published.length : Nat) : Int)))
  (Option.bind (getI published d) fun e_7 =>
  cond (ref07_wrong e_7)
  (some (.ret (([] : List Int), 4)))
  (some (.cont (W (d + 1)))))
  (some (.brk d))
def ref07_Again (N : Nat) (r : ref07_Record) (published : List api_Span) : Option ((List Int) × Int) :=
  Option.bind (ref07_Check N r) fun r_0 =>
  cond (r_0 != 0)
  (some (([] : List Int), r_0))
  (cond (((published.length : Nat) : Int) != ((r.Days.length : Nat) : Int))
  (some (([] : List Int), 2))
  (Option.bind (loopO (fun s11 => ref07_Again_b11 N published s11) N 0) fun x11 =>
  exK x11 (fun s11 => Option.bind (ref07_Fill N r) fun r_1 =>
  cond (r_1.2 != 0)
  (some (([] : List Int), r_1.2))
  (Option.bind (loopO (fun s19 => ref07_Again_b19 N published r_1 s19.1 s19.2) N (([] : List Int), 0)) fun x19 =>
  exK x19 (fun s19 => some (s19.1, 0)) some)) some))
theorem ref07_Again_ok {N : Nat} {G : Pers} {Lf : List Ent} {w : World} (r : ref07_Record) (published : List api_Span) {r_Days_p : Option Addr} {r_Days_c : Nat} {published_p : Option Addr} {published_c : Nat} (h_r_Days : Rd G 3 r_Days_p r_Days_c (r.Days.map enc_ref07_Value)) (h_published : Rd G 2 published_p published_c (published.map enc_api_Span)) (hc : Ctx G (Lf) w) {res : (List Int) × Int} (hF : ref07_Again N r published = some res) : Calls Try.prog 22 #[.agg #[.int .i64 r.Rise, .int .i64 r.Fall, .slice r_Days_p r.Days.length r_Days_c], .slice published_p published.length published_c] w (fun e w => ∃ (p'1 : Option Addr) (c'1 : Nat), e = .returned (.tuple #[.slice p'1 res.1.length c'1, .int .i64 res.2]) ∧ Ctx G (.row p'1 c'1 (res.1.map encI_i64) 3 1 :: Lf) w) := by
  unfold ref07_Again at hF
  refine fnIn (args := [.agg #[.int .i64 r.Rise, .int .i64 r.Fall, .slice r_Days_p r.Days.length r_Days_c], .slice published_p published.length published_c]) Try.func22 rfl Try.ntmps22 rfl fun a hf => ?_
  refine wp_seq_k fun K1 h1 => ?_
  refine cReg ?_
  refine stBx (cs := [.int .i64 r.Rise, .int .i64 r.Fall, .slice r_Days_p r.Days.length r_Days_c]) hf hc rfl rfl rfl rfl fun b_1 a w hf hc => ?_
  refine stP hf rfl rfl rfl (pA rfl) fun a hf => ?_
  refine stP hf rfl rfl rfl (pA rfl) fun a hf => ?_
  refine cNil ?_
  refine h1 _ _ ?_
  refine wp_seq_k fun K2 h2 => ?_
  refine wp_seq_k fun K3 h3 => ?_
  refine cReg ?_
  refine stE hf hc rfl rfl rfl (eLdN (vs := [.int .i64 r.Rise, .int .i64 r.Fall, .slice r_Days_p r.Days.length r_Days_c]) ag_37 rfl rfl (cells_box (n := 3) m0 rfl)) fun a w hf hc => ?_
  obtain ⟨r_0, hr_0, hF⟩ := bnd_some hF
  refine stE hf hc rfl rfl rfl (eC (v := .int .i64 r_0) (vs := [.agg #[.int .i64 r.Rise, .int .i64 r.Fall, .slice r_Days_p r.Days.length r_Days_c]]) (caps := []) en_35 rfl rfl rfl rfl (fun w hc => ref07_Check_ok r h_r_Days hc hr_0)) fun a w hf hc => ?_
  refine stP hf rfl rfl rfl (pA rfl) fun a hf => ?_
  refine cNil ?_
  refine h3 _ _ ?_
  refine wp_seq_k fun K4 h4 => ?_
  refine cReg ?_
  refine stP hf rfl rfl rfl (pM rfl) fun a hf => ?_
  refine stP hf rfl rfl rfl (pNe rfl rfl) fun a hf => ?_
  refine cNil ?_
  refine h4 _ _ ?_
  refine cCond (b := (r_0 != 0)) hf rfl (fun hb => ?_) (fun hb => ?_)
  · replace hF := condT hb hF
    clear hb
    refine wp_seq_k fun K5 h5 => ?_
    refine cReg ?_
    refine stP hf rfl rfl rfl (pM rfl) fun a hf => ?_
    refine stP hf rfl rfl rfl (pA rfl) fun a hf => ?_
    refine stP hf rfl rfl rfl (pA rfl) fun a hf => ?_
    refine cNil ?_
    refine h5 _ _ ?_
    refine wp_ret ?_
    refine xThenR ?_
    obtain rfl := Option.some.inj hF
    replace hc := hc.nilRow 3 1
    replace hc := hc.drop k1
    exact fnOut2 (by simp) rfl Try.results22 hf hc (show look _ 4 = _ from rfl) (show look _ 5 = _ from rfl) ⟨none, 0, rfl, hc⟩
  · replace hF := condF hb hF
    clear hb
    refine wp_skip ?_
    refine h2 _ _ ?_
    refine wp_seq_k fun K6 h6 => ?_
    refine wp_seq_k fun K7 h7 => ?_
    refine cReg ?_
    refine stP hf rfl rfl rfl (pM rfl) fun a hf => ?_
    refine stP hf rfl rfl rfl (pLenS Try.underlying25 rfl) fun a hf => ?_
    refine stP hf rfl rfl rfl (pFA fa_37_2 rfl) fun a hf => ?_
    refine stE hf hc rfl rfl rfl (eLd1 sc_35 rfl (cell_box m0 rfl)) fun a w hf hc => ?_
    refine stP hf rfl rfl rfl (pLenS Try.underlying35 rfl) fun a hf => ?_
    refine stP hf rfl rfl rfl (pNe rfl rfl) fun a hf => ?_
    refine cNil ?_
    refine h7 _ _ ?_
    refine cCond (b := (((published.length : Nat) : Int) != ((r.Days.length : Nat) : Int))) hf rfl (fun hb => ?_) (fun hb => ?_)
    · replace hF := condT hb hF
      clear hb
      refine wp_seq_k fun K8 h8 => ?_
      refine cReg ?_
      refine stP hf rfl rfl rfl (pA rfl) fun a hf => ?_
      refine stP hf rfl rfl rfl (pA rfl) fun a hf => ?_
      refine cNil ?_
      refine h8 _ _ ?_
      refine wp_ret ?_
      refine xThenR ?_
      obtain rfl := Option.some.inj hF
      replace hc := hc.nilRow 3 1
      replace hc := hc.drop k1
      exact fnOut2 (by simp) rfl Try.results22 hf hc (show look _ 4 = _ from rfl) (show look _ 5 = _ from rfl) ⟨none, 0, rfl, hc⟩
    · replace hF := condF hb hF
      clear hb
      refine wp_skip ?_
      refine h6 _ _ ?_
      refine wp_seq_k fun K9 h9 => ?_
      refine wp_seq_k fun K10 h10 => ?_
      refine cReg ?_
      refine stP hf rfl rfl rfl (pA rfl) fun a hf => ?_
      refine cNil ?_
      refine h10 _ _ ?_
      refine wp_block ?_
      obtain ⟨x11, hx11, hF⟩ := bnd_some hF
      let S11 : Int → Act → World → Prop := (fun (zz : Int) a w => Has 87 a [(1, .slice published_p published.length published_c), (2, .pointer (some ⟨b_1, 0, none⟩)), (7, .int .i64 zz)] ∧ Ctx G (.box b_1 [.int .i64 r.Rise, .int .i64 r.Fall, .slice r_Days_p r.Days.length r_Days_c] 37 :: Lf) w)
      have hr11 : ∀ (zz : Int) a w, x11 = .go zz → S11 zz a w → K9 a w := by
        rintro d a w rfl ⟨hf, hc⟩
        replace hF := exK_go hF
        refine h9 _ _ ?_
        refine wp_seq_k fun K12 h12 => ?_
        refine cReg ?_
        refine stE hf hc rfl rfl rfl (eLdN (vs := [.int .i64 r.Rise, .int .i64 r.Fall, .slice r_Days_p r.Days.length r_Days_c]) ag_37 rfl rfl (cells_box (n := 3) m0 rfl)) fun a w hf hc => ?_
        obtain ⟨r_1, hr_1, hF⟩ := bnd_some hF
        refine stC (vs := [.agg #[.int .i64 r.Rise, .int .i64 r.Fall, .slice r_Days_p r.Days.length r_Days_c]]) (caps := []) hf rfl rfl rfl en_38 rfl rfl rfl rfl (ref07_Fill_ok r h_r_Days hc hr_1) ?_
        rintro _ w ⟨p_1, c_1, rfl, hc⟩
        refine ⟨_, rfl, fun a hf => ?_⟩
        refine stP hf rfl rfl rfl (pM rfl) fun a hf => ?_
        refine stP hf rfl rfl rfl (pX rfl rfl) fun a hf => ?_
        refine stP hf rfl rfl rfl (pX rfl rfl) fun a hf => ?_
        refine stP hf rfl rfl rfl (pA rfl) fun a hf => ?_
        refine stP hf rfl rfl rfl (pA rfl) fun a hf => ?_
        refine cNil ?_
        refine h12 _ _ ?_
        refine wp_seq_k fun K13 h13 => ?_
        refine wp_seq_k fun K14 h14 => ?_
        refine cReg ?_
        refine stP hf rfl rfl rfl (pM rfl) fun a hf => ?_
        refine stP hf rfl rfl rfl (pNe rfl rfl) fun a hf => ?_
        refine cNil ?_
        refine h14 _ _ ?_
        refine cCond (b := (r_1.2 != 0)) hf rfl (fun hb => ?_) (fun hb => ?_)
        · replace hF := condT hb hF
          clear hb
          refine wp_seq_k fun K15 h15 => ?_
          refine cReg ?_
          refine stP hf rfl rfl rfl (pM rfl) fun a hf => ?_
          refine stP hf rfl rfl rfl (pA rfl) fun a hf => ?_
          refine stP hf rfl rfl rfl (pA rfl) fun a hf => ?_
          refine cNil ?_
          refine h15 _ _ ?_
          refine wp_ret ?_
          refine xThenR ?_
          obtain rfl := Option.some.inj hF
          replace hc := hc.nilRow 3 1
          replace hc := hc.drop k2
          replace hc := hc.drop k1
          exact fnOut2 (by simp) rfl Try.results22 hf hc (show look _ 4 = _ from rfl) (show look _ 5 = _ from rfl) ⟨none, 0, rfl, hc⟩
        · replace hF := condF hb hF
          clear hb
          refine wp_skip ?_
          refine h13 _ _ ?_
          refine wp_seq_k fun K16 h16 => ?_
          refine cReg ?_
          refine stP hf rfl rfl rfl (pA rfl) fun a hf => ?_
          refine cNil ?_
          refine h16 _ _ ?_
          refine wp_seq_k fun K17 h17 => ?_
          refine wp_seq_k fun K18 h18 => ?_
          refine cReg ?_
          refine stP hf rfl rfl rfl (pA rfl) fun a hf => ?_
          refine cNil ?_
          refine h18 _ _ ?_
          refine wp_block ?_
          obtain ⟨x19, hx19, hF⟩ := bnd_some hF
          let S19 : ((List Int) × Int) → Act → World → Prop := (fun (zz : (List Int) × Int) a w => ∃ (p_2 : Option Addr) (c_2 : Nat) (p_3 : Option Addr) (c_3 : Nat), Has 87 a [(1, .slice published_p published.length published_c), (8, .slice p_2 r_1.1.length c_2), (10, .slice p_3 zz.1.length c_3), (11, .int .i64 zz.2)] ∧ Ctx G (.row p_3 c_3 (zz.1.map encI_i64) 3 1 :: .row p_2 c_2 (r_1.1.map enc_api_Span) 30 2 :: Lf) w)
          have hr19 : ∀ (zz : (List Int) × Int) a w, x19 = .go zz → S19 zz a w → K17 a w := by
            rintro ⟨out, d_1⟩ a w rfl ⟨p_2, c_2, p_3, c_3, hf, hc⟩
            replace hF := exK_go hF
            refine h17 _ _ ?_
            refine wp_seq_k fun K20 h20 => ?_
            refine cReg ?_
            refine stP hf rfl rfl rfl (pM rfl) fun a hf => ?_
            refine stP hf rfl rfl rfl (pA rfl) fun a hf => ?_
            refine stP hf rfl rfl rfl (pA rfl) fun a hf => ?_
            refine cNil ?_
            refine h20 _ _ ?_
            refine wp_ret ?_
            obtain rfl := Option.some.inj hF
            replace hc := hc.drop k1
            exact fnOut2 (by simp) rfl Try.results22 hf hc (show look _ 4 = _ from rfl) (show look _ 5 = _ from rfl) ⟨p_3, c_3, rfl, hc⟩
          have ho19 : ∀ r, x19 = .out r → r = res := by
            rintro r rfl
            exact Option.some.inj hF
          replace hc := hc.nilRow 3 1
          replace hc := hc.drop k2
          refine cLoop N (loopW (S := S19) (x := x19) ?_ N (([] : List Int), 0) _ _ ⟨p_1, c_1, none, 0, hf.keep ⟨rfl, rfl, rfl, rfl, trivial⟩, hc⟩ hx19)
          clear hF hf hc
          rintro ⟨out, d_1⟩ st19 a w KB19 ⟨p_2, c_2, p_3, c_3, hf, hc⟩ hF hfin19 hK19
          unfold ref07_Again_b19 at hF
          refine wp_seq_k fun K21 h21 => ?_
          refine wp_seq_k fun K22 h22 => ?_
          refine cReg ?_
          refine stP hf rfl rfl rfl (pM rfl) fun a hf => ?_
          refine stP hf rfl rfl rfl (pM rfl) fun a hf => ?_
          refine stP hf rfl rfl rfl (pLenS Try.underlying25 rfl) fun a hf => ?_
          refine stP hf rfl rfl rfl (pLt rfl rfl) fun a hf => ?_
          refine cNil ?_
          refine h22 _ _ ?_
          refine cCond (b := (decide (d_1 < ((r_1.1.length : Nat) : Int)))) hf rfl (fun hb => ?_) (fun hb => ?_)
          · replace hF := condT hb hF
            clear hb
            refine wp_skip ?_
            refine h21 _ _ ?_
            refine wp_seq_k fun K23 h23 => ?_
            have hj23 : ∀ (out_1 : List Int) (p_4 : Option Addr) (c_4 : Nat) (p_5 : Option Addr) (c_5 : Nat) a w, Has 87 a [(1, .slice published_p published.length published_c), (8, .slice p_4 r_1.1.length c_4), (10, .slice p_5 out_1.length c_5), (11, .int .i64 d_1)] → Ctx G (.row p_5 c_5 (out_1.map encI_i64) 3 1 :: .row p_4 c_4 (r_1.1.map enc_api_Span) 30 2 :: Lf) w → ref07_Again_j23 N d_1 out_1 = some st19 → K23 a w := by
              intro out_1 p_4 c_4 p_5 c_5 a w hf hc hF
              unfold ref07_Again_j23 at hF
              refine h23 _ _ ?_
              refine cReg ?_
              refine stP hf rfl rfl rfl (pM rfl) fun a hf => ?_
              refine stP hf rfl rfl rfl (pAdd rfl rfl) fun a hf => ?_
              refine stP hf rfl rfl rfl (pA rfl) fun a hf => ?_
              refine cNil ?_
              exact hK19 (out_1, W (d_1 + 1)) _ _ (Option.some.inj hF).symm ⟨p_4, c_4, p_5, c_5, hf.keep ⟨rfl, rfl, rfl, rfl, trivial⟩, hc⟩
            refine wp_block ?_
            refine wp_seq_k fun K24 h24 => ?_
            obtain ⟨e_1, he_1, hF⟩ := bnd_some hF
            obtain ⟨g, rfl, qa, qr⟩ := row_atm hc m1 he_1
            obtain ⟨e_2, he_2, hF⟩ := bnd_some hF
            obtain ⟨b_2, o, qa_1, qp⟩ := h_published.atm he_2
            obtain ⟨e_3, he_3, hF⟩ := bnd_some hF
            obtain ⟨b_3, o_1, qa_2, qp_1⟩ := h_published.atm he_3
            obtain ⟨t_1, ht_1, hF⟩ := bnd_some hF
            refine cQ hc follows_mx (by kernel_rfl) ?_
            refine qE hf rfl rfl rfl (Pu.ev (pM rfl)) fun a hf => ?_
            refine qE hf rfl rfl rfl (Pu.ev (pM rfl)) fun a hf => ?_
            refine qE hf rfl rfl rfl (Pu.ev (pIA Try.underlying25 sz_30 rfl rfl qa)) fun a hf => ?_
            refine qE hf rfl rfl rfl (Pu.ev (pFA fa_30_0 rfl)) fun a hf => ?_
            refine qE hf rfl rfl rfl (eLd1 sc_3 rfl (cell_row (sz := 2) (i := d_1.toNat) (j := 0) m1 qr rfl)) fun a hf => ?_
            refine qE hf rfl rfl rfl (Pu.ev (pM rfl)) fun a hf => ?_
            refine qE hf rfl rfl rfl (Pu.ev (pM rfl)) fun a hf => ?_
            refine qE hf rfl rfl rfl (Pu.ev (pIA Try.underlying25 sz_30 rfl rfl qa_1)) fun a hf => ?_
            refine qE hf rfl rfl rfl (Pu.ev (pFA fa_30_0 rfl)) fun a hf => ?_
            refine qE hf rfl rfl rfl (eLd1 sc_3 rfl (cell_pc (j := 0) qp rfl)) fun a hf => ?_
            refine qE hf rfl rfl rfl (Pu.ev (pM rfl)) fun a hf => ?_
            refine qE hf rfl rfl rfl (Pu.ev (pM rfl)) fun a hf => ?_
            refine qE hf rfl rfl rfl (Pu.ev (pIA Try.underlying25 sz_30 rfl rfl qa_2)) fun a hf => ?_
            refine qE hf rfl rfl rfl (Pu.ev (pFA fa_30_1 rfl)) fun a hf => ?_
            refine qE hf rfl rfl rfl (eLd1 sc_3 rfl (cell_pc (j := 1) qp_1 rfl)) fun a hf => ?_
            refine qE hf rfl rfl rfl (eC (v := .bool (ref07_outside e_1.Lo e_2.Lo e_3.Hi)) (vs := [.int .i64 e_1.Lo, .int .i64 e_2.Lo, .int .i64 e_3.Hi]) (caps := []) en_65 rfl rfl rfl rfl (fun w hc => ref07_outside_ok e_1.Lo e_2.Lo e_3.Hi hc rfl)) fun a hf => ?_
            refine qE hf rfl rfl rfl (Pu.ev (pM rfl)) fun a hf => ?_
            refine qCut 17 (fun a => Has 87 a [(1, .slice published_p published.length published_c), (8, .slice (some ⟨g, 0, none⟩) r_1.1.length c_2), (10, .slice p_3 out.length c_3), (11, .int .i64 d_1), (48, .slice (some ⟨g, 0, none⟩) r_1.1.length c_2), (49, .int .i64 d_1), (50, .pointer (some ⟨g, d_1.toNat * 2, none⟩)), (51, .pointer (some ⟨g, d_1.toNat * 2 + 0, none⟩)), (52, .int .i64 e_1.Lo), (53, .slice published_p published.length published_c), (54, .int .i64 d_1), (55, .pointer (some ⟨b_2, o, none⟩)), (56, .pointer (some ⟨b_2, o + 0, none⟩)), (57, .int .i64 e_2.Lo), (58, .slice published_p published.length published_c), (59, .int .i64 d_1), (60, .pointer (some ⟨b_3, o_1, none⟩)), (61, .pointer (some ⟨b_3, o_1 + 1, none⟩)), (62, .int .i64 e_3.Hi), (63, .bool (ref07_outside e_1.Lo e_2.Lo e_3.Hi)), (64, .bool (ref07_outside e_1.Lo e_2.Lo e_3.Hi)), (81, .bool t_1)]) ?_ ?_
            · cases hb : (ref07_outside e_1.Lo e_2.Lo e_3.Hi)
              · rw [hb] at hf
                have hF := condF hb ht_1
                obtain ⟨e_4, he_4, hF⟩ := bnd_some hF
                obtain ⟨qa_3, qr_1⟩ := row_atk hc m1 he_4
                obtain ⟨e_5, he_5, hF⟩ := bnd_some hF
                obtain ⟨b_4, o_2, qa_4, qp_2⟩ := h_published.atm he_5
                obtain ⟨e_6, he_6, hF⟩ := bnd_some hF
                obtain ⟨b_5, o_3, qa_5, qp_3⟩ := h_published.atm he_6
                refine qE hf rfl rfl rfl (Pu.ev (pM rfl)) fun a hf => ?_
                refine qE hf rfl rfl rfl (Pu.ev (pM rfl)) fun a hf => ?_
                refine qE hf rfl rfl rfl (Pu.ev (pIA Try.underlying25 sz_30 rfl rfl qa_3)) fun a hf => ?_
                refine qE hf rfl rfl rfl (Pu.ev (pFA fa_30_1 rfl)) fun a hf => ?_
                refine qE hf rfl rfl rfl (eLd1 sc_3 rfl (cell_row (sz := 2) (i := d_1.toNat) (j := 1) m1 qr_1 rfl)) fun a hf => ?_
                refine qE hf rfl rfl rfl (Pu.ev (pM rfl)) fun a hf => ?_
                refine qE hf rfl rfl rfl (Pu.ev (pM rfl)) fun a hf => ?_
                refine qE hf rfl rfl rfl (Pu.ev (pIA Try.underlying25 sz_30 rfl rfl qa_4)) fun a hf => ?_
                refine qE hf rfl rfl rfl (Pu.ev (pFA fa_30_0 rfl)) fun a hf => ?_
                refine qE hf rfl rfl rfl (eLd1 sc_3 rfl (cell_pc (j := 0) qp_2 rfl)) fun a hf => ?_
                refine qE hf rfl rfl rfl (Pu.ev (pM rfl)) fun a hf => ?_
                refine qE hf rfl rfl rfl (Pu.ev (pM rfl)) fun a hf => ?_
                refine qE hf rfl rfl rfl (Pu.ev (pIA Try.underlying25 sz_30 rfl rfl qa_5)) fun a hf => ?_
                refine qE hf rfl rfl rfl (Pu.ev (pFA fa_30_1 rfl)) fun a hf => ?_
                refine qE hf rfl rfl rfl (eLd1 sc_3 rfl (cell_pc (j := 1) qp_3 rfl)) fun a hf => ?_
                refine qE hf rfl rfl rfl (eC (v := .bool (ref07_outside e_4.Hi e_5.Lo e_6.Hi)) (vs := [.int .i64 e_4.Hi, .int .i64 e_5.Lo, .int .i64 e_6.Hi]) (caps := []) en_65 rfl rfl rfl rfl (fun w hc => ref07_outside_ok e_4.Hi e_5.Lo e_6.Hi hc rfl)) fun a hf => ?_
                refine qE hf rfl rfl rfl (Pu.ev (pPf rfl rfl)) fun a hf => ?_
                obtain rfl := Option.some.inj hF
                exact qNil (hf.keep ⟨rfl, rfl, rfl, rfl, rfl, rfl, rfl, rfl, rfl, rfl, rfl, rfl, rfl, rfl, rfl, rfl, rfl, rfl, rfl, rfl, rfl, rfl, trivial⟩)
              · rw [hb] at hf
                have hF := condT hb ht_1
                obtain rfl := Option.some.inj hF
                refine qS hf rfl rfl rfl fun a hf => ?_
                refine qS hf rfl rfl rfl fun a hf => ?_
                refine qS hf rfl rfl rfl fun a hf => ?_
                refine qS hf rfl rfl rfl fun a hf => ?_
                refine qS hf rfl rfl rfl fun a hf => ?_
                refine qS hf rfl rfl rfl fun a hf => ?_
                refine qS hf rfl rfl rfl fun a hf => ?_
                refine qS hf rfl rfl rfl fun a hf => ?_
                refine qS hf rfl rfl rfl fun a hf => ?_
                refine qS hf rfl rfl rfl fun a hf => ?_
                refine qS hf rfl rfl rfl fun a hf => ?_
                refine qS hf rfl rfl rfl fun a hf => ?_
                refine qS hf rfl rfl rfl fun a hf => ?_
                refine qS hf rfl rfl rfl fun a hf => ?_
                refine qS hf rfl rfl rfl fun a hf => ?_
                refine qS hf rfl rfl rfl fun a hf => ?_
                refine qE hf rfl rfl rfl (Pu.ev (pPt rfl rfl)) fun a hf => ?_
                exact qNil (hf.keep ⟨rfl, rfl, rfl, rfl, rfl, rfl, rfl, rfl, rfl, rfl, rfl, rfl, rfl, rfl, rfl, rfl, rfl, rfl, rfl, rfl, rfl, rfl, trivial⟩)
            intro a hf
            intro w hc
            refine h24 _ _ ?_
            refine cCond (b := t_1) hf rfl (fun hb => ?_) (fun hb => ?_)
            · replace hF := condT hb hF
              clear hb
              refine cReg ?_
              refine stP hf rfl rfl rfl (pM rfl) fun a hf => ?_
              refine stP hf rfl rfl rfl (pM rfl) fun a hf => ?_
              refine stBS (rows := ([d_1] : List Int).map encI_i64) (vs := [(0, .int .i64 d_1)]) hf hc rfl rfl sl_39 rfl ⟨rfl, rfl, rfl, trivial⟩ rfl rfl fun b_6 a w hf hc => ?_
              obtain ⟨un, hun, hF⟩ := bnd_some hF
              refine stApm (xs := out) (ys := ([d_1] : List Int)) hf hc rfl rfl sl_39 rfl rfl rfl rfl rfl one_encI_i64 (src_row hc m0) (fun _ _ => u1) (by simpa using room_spec hun) fun p_6 c_6 a w hf hc => ?_
              refine stP hf rfl rfl rfl (pA rfl) fun a hf => ?_
              refine cNil ?_
              replace hc := hc.drop k0
              exact hj23 (out ++ [d_1]) (some ⟨g, 0, none⟩) c_2 p_6 c_6 _ _  (hf.keep ⟨rfl, rfl, rfl, rfl, trivial⟩) hc hF
            · replace hF := condF hb hF
              clear hb
              refine wp_skip ?_
              exact hj23 out (some ⟨g, 0, none⟩) c_2 p_3 c_3 _ _  (hf.keep ⟨rfl, rfl, rfl, rfl, trivial⟩) hc hF
          · replace hF := condF hb hF
            clear hb
            refine wp_exit ?_
            refine xThen ?_
            refine xThen ?_
            have he := Option.some.inj hF
            rw [← he] at hfin19
            refine cHit ?_
            exact hr19 _ _ _ hfin19 ⟨p_2, c_2, p_3, c_3, hf.keep ⟨rfl, rfl, rfl, rfl, trivial⟩, hc⟩
      have ho11 : ∀ r, x11 = .out r → r = res := by
        rintro r rfl
        exact Option.some.inj hF
      refine cLoop N (loopW (S := S11) (x := x11) ?_ N 0 _ _ ⟨hf.keep ⟨rfl, rfl, rfl, trivial⟩, hc⟩ hx11)
      clear hF hf hc
      rintro d st11 a w KB11 ⟨hf, hc⟩ hF hfin11 hK11
      unfold ref07_Again_b11 at hF
      refine wp_seq_k fun K25 h25 => ?_
      refine wp_seq_k fun K26 h26 => ?_
      refine cReg ?_
      refine stP hf rfl rfl rfl (pM rfl) fun a hf => ?_
      refine stP hf rfl rfl rfl (pM rfl) fun a hf => ?_
      refine stP hf rfl rfl rfl (pLenS Try.underlying25 rfl) fun a hf => ?_
      refine stP hf rfl rfl rfl (pLt rfl rfl) fun a hf => ?_
      refine cNil ?_
      refine h26 _ _ ?_
      refine cCond (b := (decide (d < ((published.length : Nat) : Int)))) hf rfl (fun hb => ?_) (fun hb => ?_)
      · replace hF := condT hb hF
        clear hb
        refine wp_skip ?_
        refine h25 _ _ ?_
        refine wp_seq_k fun K27 h27 => ?_
        refine wp_block ?_
        refine wp_seq_k fun K28 h28 => ?_
        refine cReg ?_
        refine stP hf rfl rfl rfl (pM rfl) fun a hf => ?_
        refine stP hf rfl rfl rfl (pM rfl) fun a hf => ?_
        obtain ⟨e_7, he_7, hF⟩ := bnd_some hF
        obtain ⟨b_7, o_4, qa_6, qp_4⟩ := h_published.atm he_7
        refine stP hf rfl rfl rfl (pIA Try.underlying25 sz_30 rfl rfl qa_6) fun a hf => ?_
        refine stE hf hc rfl rfl rfl (eLdN (vs := [.int .i64 e_7.Lo, .int .i64 e_7.Hi]) ag_30 rfl rfl (cells_pc qp_4 (n := 2) (o' := 0) rfl)) fun a w hf hc => ?_
        refine stE hf hc rfl rfl rfl (eC (v := .bool (ref07_wrong e_7)) (vs := [.agg #[.int .i64 e_7.Lo, .int .i64 e_7.Hi]]) (caps := []) en_69 rfl rfl rfl rfl (fun w hc => ref07_wrong_ok e_7 hc rfl)) fun a w hf hc => ?_
        refine cNil ?_
        refine h28 _ _ ?_
        refine cCond (b := (ref07_wrong e_7)) hf rfl (fun hb => ?_) (fun hb => ?_)
        · replace hF := condT hb hF
          clear hb
          refine wp_seq_k fun K29 h29 => ?_
          refine cReg ?_
          refine stP hf rfl rfl rfl (pA rfl) fun a hf => ?_
          refine stP hf rfl rfl rfl (pA rfl) fun a hf => ?_
          refine cNil ?_
          refine h29 _ _ ?_
          refine wp_ret ?_
          refine xBlkR ?_
          refine xThenR ?_
          refine xThenR ?_
          have he := Option.some.inj hF
          rw [← he] at hfin11
          replace hF := ho11 _ hfin11
          refine xBlkR ?_
          refine xThenR ?_
          obtain rfl := hF
          replace hc := hc.nilRow 3 1
          replace hc := hc.drop k1
          exact fnOut2 (by simp) rfl Try.results22 hf hc (show look _ 4 = _ from rfl) (show look _ 5 = _ from rfl) ⟨none, 0, rfl, hc⟩
        · replace hF := condF hb hF
          clear hb
          refine wp_skip ?_
          refine h27 _ _ ?_
          refine cReg ?_
          refine stP hf rfl rfl rfl (pM rfl) fun a hf => ?_
          refine stP hf rfl rfl rfl (pAdd rfl rfl) fun a hf => ?_
          refine stP hf rfl rfl rfl (pA rfl) fun a hf => ?_
          refine cNil ?_
          exact hK11 (W (d + 1)) _ _ (Option.some.inj hF).symm ⟨hf.keep ⟨rfl, rfl, rfl, trivial⟩, hc⟩
      · replace hF := condF hb hF
        clear hb
        refine wp_exit ?_
        refine xThen ?_
        refine xThen ?_
        have he := Option.some.inj hF
        rw [← he] at hfin11
        refine cHit ?_
        exact hr11 _ _ _ hfin11 ⟨hf.keep ⟨rfl, rfl, rfl, trivial⟩, hc⟩

def kit_Same_daily_Value_b7 (N : Nat) (a_ : List daily_Value) (b_ : List daily_Value) (i_1 : Int) : Option (Step (Int) (Bool)) :=
  cond (decide (i_1 < ((a_.length : Nat) : Int)))
  (Option.bind (getI a_ i_1) fun e_1 =>
  Option.bind (getI b_ i_1) fun e_2 =>
  cond (!(e_1.Known == e_2.Known && e_1.Flow.Lo == e_2.Flow.Lo && e_1.Flow.Hi == e_2.Flow.Hi))
  (some (.ret false))
  (some (.cont (W (i_1 + 1)))))
  (some (.brk i_1))
def kit_Same_daily_Value (N : Nat) (a_ : List daily_Value) (b_ : List daily_Value) : Option (Bool) :=
  cond (((a_.length : Nat) : Int) != ((b_.length : Nat) : Int))
  (some false)
  (Option.bind (loopO (fun s7 => kit_Same_daily_Value_b7 N a_ b_ s7) N 0) fun x7 =>
  exK x7 (fun s7 => some true) some)
theorem kit_Same_daily_Value_ok {N : Nat} {G : Pers} {Lf : List Ent} {w : World} (a_ : List daily_Value) (b_ : List daily_Value) {a__p : Option Addr} {a__c : Nat} {b__p : Option Addr} {b__c : Nat} (h_a_ : Rd G 3 a__p a__c (a_.map enc_daily_Value)) (h_b_ : Rd G 3 b__p b__c (b_.map enc_daily_Value)) (hc : Ctx G (Lf) w) {res : Bool} (hF : kit_Same_daily_Value N a_ b_ = some res) : Calls Try.prog 70 #[.slice a__p a_.length a__c, .slice b__p b_.length b__c] w (fun e w => e = .returned (.bool res) ∧ Ctx G (Lf) w) := by
  unfold kit_Same_daily_Value at hF
  refine fnIn (args := [.slice a__p a_.length a__c, .slice b__p b_.length b__c]) Try.func70 rfl Try.ntmps70 rfl fun a hf => ?_
  refine wp_seq_k fun K1 h1 => ?_
  refine cReg ?_
  refine stP hf rfl rfl rfl (pA rfl) fun a hf => ?_
  refine cNil ?_
  refine h1 _ _ ?_
  refine wp_seq_k fun K2 h2 => ?_
  refine wp_seq_k fun K3 h3 => ?_
  refine cReg ?_
  refine stP hf rfl rfl rfl (pM rfl) fun a hf => ?_
  refine stP hf rfl rfl rfl (pLenS Try.underlying22 rfl) fun a hf => ?_
  refine stP hf rfl rfl rfl (pM rfl) fun a hf => ?_
  refine stP hf rfl rfl rfl (pLenS Try.underlying22 rfl) fun a hf => ?_
  refine stP hf rfl rfl rfl (pNe rfl rfl) fun a hf => ?_
  refine cNil ?_
  refine h3 _ _ ?_
  refine cCond (b := (((a_.length : Nat) : Int) != ((b_.length : Nat) : Int))) hf rfl (fun hb => ?_) (fun hb => ?_)
  · replace hF := condT hb hF
    clear hb
    refine wp_seq_k fun K4 h4 => ?_
    refine cReg ?_
    refine stP hf rfl rfl rfl (pA rfl) fun a hf => ?_
    refine cNil ?_
    refine h4 _ _ ?_
    refine wp_ret ?_
    refine xThenR ?_
    obtain rfl := Option.some.inj hF
    exact fnOut1 (by simp) rfl Try.results70 hf hc (show look _ 4 = _ from rfl) ⟨rfl, hc⟩
  · replace hF := condF hb hF
    clear hb
    refine wp_skip ?_
    refine h2 _ _ ?_
    refine wp_seq_k fun K5 h5 => ?_
    refine wp_seq_k fun K6 h6 => ?_
    refine cReg ?_
    refine stP hf rfl rfl rfl (pA rfl) fun a hf => ?_
    refine cNil ?_
    refine h6 _ _ ?_
    refine wp_block ?_
    obtain ⟨x7, hx7, hF⟩ := bnd_some hF
    let S7 : Int → Act → World → Prop := (fun (zz : Int) a w => Has 26 a [(0, .slice a__p a_.length a__c), (1, .slice b__p b_.length b__c), (5, .int .i64 zz)] ∧ Ctx G (Lf) w)
    have hr7 : ∀ (zz : Int) a w, x7 = .go zz → S7 zz a w → K5 a w := by
      rintro i_1 a w rfl ⟨hf, hc⟩
      replace hF := exK_go hF
      refine h5 _ _ ?_
      refine wp_seq_k fun K8 h8 => ?_
      refine cReg ?_
      refine stP hf rfl rfl rfl (pA rfl) fun a hf => ?_
      refine cNil ?_
      refine h8 _ _ ?_
      refine wp_ret ?_
      obtain rfl := Option.some.inj hF
      exact fnOut1 (by simp) rfl Try.results70 hf hc (show look _ 4 = _ from rfl) ⟨rfl, hc⟩
    have ho7 : ∀ r, x7 = .out r → r = res := by
      rintro r rfl
      exact Option.some.inj hF
    refine cLoop N (loopW (S := S7) (x := x7) ?_ N 0 _ _ ⟨hf.keep ⟨rfl, rfl, rfl, trivial⟩, hc⟩ hx7)
    clear hF hf hc
    rintro i_1 st7 a w KB7 ⟨hf, hc⟩ hF hfin7 hK7
    unfold kit_Same_daily_Value_b7 at hF
    refine wp_seq_k fun K9 h9 => ?_
    refine wp_seq_k fun K10 h10 => ?_
    refine cReg ?_
    refine stP hf rfl rfl rfl (pM rfl) fun a hf => ?_
    refine stP hf rfl rfl rfl (pM rfl) fun a hf => ?_
    refine stP hf rfl rfl rfl (pLenS Try.underlying22 rfl) fun a hf => ?_
    refine stP hf rfl rfl rfl (pLt rfl rfl) fun a hf => ?_
    refine cNil ?_
    refine h10 _ _ ?_
    refine cCond (b := (decide (i_1 < ((a_.length : Nat) : Int)))) hf rfl (fun hb => ?_) (fun hb => ?_)
    · replace hF := condT hb hF
      clear hb
      refine wp_skip ?_
      refine h9 _ _ ?_
      refine wp_seq_k fun K11 h11 => ?_
      refine wp_block ?_
      refine wp_seq_k fun K12 h12 => ?_
      obtain ⟨e_1, he_1, hF⟩ := bnd_some hF
      obtain ⟨b_1, o, qa, qp⟩ := h_a_.atm he_1
      obtain ⟨e_2, he_2, hF⟩ := bnd_some hF
      obtain ⟨b_2, o_1, qa_1, qp_1⟩ := h_b_.atm he_2
      refine cQ hc follows_mx (by kernel_rfl) ?_
      refine qE hf rfl rfl rfl (Pu.ev (pM rfl)) fun a hf => ?_
      refine qE hf rfl rfl rfl (Pu.ev (pM rfl)) fun a hf => ?_
      refine qE hf rfl rfl rfl (Pu.ev (pIA Try.underlying22 sz_56 rfl rfl qa)) fun a hf => ?_
      refine qE hf rfl rfl rfl (eLdN (vs := [.bool e_1.Known, .int .i64 e_1.Flow.Lo, .int .i64 e_1.Flow.Hi]) ag_56 rfl rfl (cells_pc qp (n := 3) (o' := 0) rfl)) fun a hf => ?_
      refine qE hf rfl rfl rfl (Pu.ev (pM rfl)) fun a hf => ?_
      refine qE hf rfl rfl rfl (Pu.ev (pM rfl)) fun a hf => ?_
      refine qE hf rfl rfl rfl (Pu.ev (pIA Try.underlying22 sz_56 rfl rfl qa_1)) fun a hf => ?_
      refine qE hf rfl rfl rfl (eLdN (vs := [.bool e_2.Known, .int .i64 e_2.Flow.Lo, .int .i64 e_2.Flow.Hi]) ag_56 rfl rfl (cells_pc qp_1 (n := 3) (o' := 0) rfl)) fun a hf => ?_
      refine qE hf rfl rfl rfl (Pu.ev (pNeA ge_56 rfl rfl (eqs_56 _ _ _ _ _ _))) fun a hf => ?_
      intro w hc
      refine h12 _ _ ?_
      refine cCond (b := (!(e_1.Known == e_2.Known && e_1.Flow.Lo == e_2.Flow.Lo && e_1.Flow.Hi == e_2.Flow.Hi))) hf rfl (fun hb => ?_) (fun hb => ?_)
      · replace hF := condT hb hF
        clear hb
        refine wp_seq_k fun K13 h13 => ?_
        refine cReg ?_
        refine stP hf rfl rfl rfl (pA rfl) fun a hf => ?_
        refine cNil ?_
        refine h13 _ _ ?_
        refine wp_ret ?_
        refine xBlkR ?_
        refine xThenR ?_
        refine xThenR ?_
        have he := Option.some.inj hF
        rw [← he] at hfin7
        replace hF := ho7 _ hfin7
        refine xBlkR ?_
        refine xThenR ?_
        obtain rfl := hF
        exact fnOut1 (by simp) rfl Try.results70 hf hc (show look _ 4 = _ from rfl) ⟨rfl, hc⟩
      · replace hF := condF hb hF
        clear hb
        refine wp_skip ?_
        refine h11 _ _ ?_
        refine cReg ?_
        refine stP hf rfl rfl rfl (pM rfl) fun a hf => ?_
        refine stP hf rfl rfl rfl (pAdd rfl rfl) fun a hf => ?_
        refine stP hf rfl rfl rfl (pA rfl) fun a hf => ?_
        refine cNil ?_
        exact hK7 (W (i_1 + 1)) _ _ (Option.some.inj hF).symm ⟨hf.keep ⟨rfl, rfl, rfl, trivial⟩, hc⟩
    · replace hF := condF hb hF
      clear hb
      refine wp_exit ?_
      refine xThen ?_
      refine xThen ?_
      have he := Option.some.inj hF
      rw [← he] at hfin7
      refine cHit ?_
      exact hr7 _ _ _ hfin7 ⟨hf.keep ⟨rfl, rfl, rfl, trivial⟩, hc⟩

def law07_same (N : Nat) (a_ : daily_Record) (b_ : daily_Record) : Option (Bool) :=
  Option.bind (cond ((a_.Rise == b_.Rise) && (a_.Fall == b_.Fall)) (Option.bind (kit_Same_daily_Value N a_.Days b_.Days) fun r =>
  some r) (some false)) fun t_1 =>
  some t_1
theorem law07_same_ok {N : Nat} {G : Pers} {Lf : List Ent} {w : World} (a_ : daily_Record) (b_ : daily_Record) {a__Days_p : Option Addr} {a__Days_c : Nat} {b__Days_p : Option Addr} {b__Days_c : Nat} (h_a__Days : Rd G 3 a__Days_p a__Days_c (a_.Days.map enc_daily_Value)) (h_b__Days : Rd G 3 b__Days_p b__Days_c (b_.Days.map enc_daily_Value)) (hc : Ctx G (Lf) w) {res : Bool} (hF : law07_same N a_ b_ = some res) : Calls Try.prog 23 #[.agg #[.int .i64 a_.Rise, .int .i64 a_.Fall, .slice a__Days_p a_.Days.length a__Days_c], .agg #[.int .i64 b_.Rise, .int .i64 b_.Fall, .slice b__Days_p b_.Days.length b__Days_c]] w (fun e w => e = .returned (.bool res) ∧ Ctx G (Lf) w) := by
  unfold law07_same at hF
  refine fnIn (args := [.agg #[.int .i64 a_.Rise, .int .i64 a_.Fall, .slice a__Days_p a_.Days.length a__Days_c], .agg #[.int .i64 b_.Rise, .int .i64 b_.Fall, .slice b__Days_p b_.Days.length b__Days_c]]) Try.func23 rfl Try.ntmps23 rfl fun a hf => ?_
  refine wp_seq_k fun K1 h1 => ?_
  refine cReg ?_
  refine stBx (cs := [.int .i64 a_.Rise, .int .i64 a_.Fall, .slice a__Days_p a_.Days.length a__Days_c]) hf hc rfl rfl rfl rfl fun b_1 a w hf hc => ?_
  refine stBx (cs := [.int .i64 b_.Rise, .int .i64 b_.Fall, .slice b__Days_p b_.Days.length b__Days_c]) hf hc rfl rfl rfl rfl fun b_2 a w hf hc => ?_
  refine stP hf rfl rfl rfl (pA rfl) fun a hf => ?_
  refine cNil ?_
  refine h1 _ _ ?_
  refine wp_seq_k fun K2 h2 => ?_
  refine cReg ?_
  refine stP hf rfl rfl rfl (pFA fa_24_0 rfl) fun a hf => ?_
  refine stE hf hc rfl rfl rfl (eLd1 sc_3 rfl (cell_box m1 rfl)) fun a w hf hc => ?_
  refine stP hf rfl rfl rfl (pFA fa_24_0 rfl) fun a hf => ?_
  refine stE hf hc rfl rfl rfl (eLd1 sc_3 rfl (cell_box m0 rfl)) fun a w hf hc => ?_
  refine stP hf rfl rfl rfl (pEq rfl rfl) fun a hf => ?_
  refine stP hf rfl rfl rfl (pM rfl) fun a hf => ?_
  refine stCut 6 (fun a w => Has 24 a [(2, .pointer (some ⟨b_1, 0, none⟩)), (3, .pointer (some ⟨b_2, 0, none⟩)), (4, .bool false), (5, .pointer (some ⟨b_1, 0, none⟩)), (6, .int .i64 a_.Rise), (7, .pointer (some ⟨b_2, 0, none⟩)), (8, .int .i64 b_.Rise), (9, .bool (a_.Rise == b_.Rise)), (10, .bool (a_.Rise == b_.Rise)), (16, .bool ((a_.Rise == b_.Rise) && (a_.Fall == b_.Fall)))] ∧ Ctx G (.box b_2 [.int .i64 b_.Rise, .int .i64 b_.Fall, .slice b__Days_p b_.Days.length b__Days_c] 24 :: .box b_1 [.int .i64 a_.Rise, .int .i64 a_.Fall, .slice a__Days_p a_.Days.length a__Days_c] 24 :: Lf) w) ?_ ?_
  · cases hb : (a_.Rise == b_.Rise)
    · rw [hb] at hf
      refine stS hf rfl rfl rfl fun a hf => ?_
      refine stS hf rfl rfl rfl fun a hf => ?_
      refine stS hf rfl rfl rfl fun a hf => ?_
      refine stS hf rfl rfl rfl fun a hf => ?_
      refine stS hf rfl rfl rfl fun a hf => ?_
      refine stP hf rfl rfl rfl (pPf rfl rfl) fun a hf => ?_
      exact cNil ⟨hf.keep ⟨rfl, rfl, rfl, rfl, rfl, rfl, rfl, rfl, rfl, rfl, trivial⟩, hc⟩
    · rw [hb] at hf
      refine stP hf rfl rfl rfl (pFA fa_24_1 rfl) fun a hf => ?_
      refine stE hf hc rfl rfl rfl (eLd1 sc_3 rfl (cell_box m1 rfl)) fun a w hf hc => ?_
      refine stP hf rfl rfl rfl (pFA fa_24_1 rfl) fun a hf => ?_
      refine stE hf hc rfl rfl rfl (eLd1 sc_3 rfl (cell_box m0 rfl)) fun a w hf hc => ?_
      refine stP hf rfl rfl rfl (pEq rfl rfl) fun a hf => ?_
      refine stP hf rfl rfl rfl (pPt rfl rfl) fun a hf => ?_
      exact cNil ⟨hf.keep ⟨rfl, rfl, rfl, rfl, rfl, rfl, rfl, rfl, rfl, rfl, trivial⟩, hc⟩
  intro a w ⟨hf, hc⟩
  refine stP hf rfl rfl rfl (pM rfl) fun a hf => ?_
  obtain ⟨t_1, ht_1, hF⟩ := bnd_some hF
  refine stCut 6 (fun a w => Has 24 a [(2, .pointer (some ⟨b_1, 0, none⟩)), (3, .pointer (some ⟨b_2, 0, none⟩)), (4, .bool false), (5, .pointer (some ⟨b_1, 0, none⟩)), (6, .int .i64 a_.Rise), (7, .pointer (some ⟨b_2, 0, none⟩)), (8, .int .i64 b_.Rise), (9, .bool (a_.Rise == b_.Rise)), (10, .bool (a_.Rise == b_.Rise)), (16, .bool ((a_.Rise == b_.Rise) && (a_.Fall == b_.Fall))), (17, .bool ((a_.Rise == b_.Rise) && (a_.Fall == b_.Fall))), (23, .bool t_1)] ∧ Ctx G (.box b_2 [.int .i64 b_.Rise, .int .i64 b_.Fall, .slice b__Days_p b_.Days.length b__Days_c] 24 :: .box b_1 [.int .i64 a_.Rise, .int .i64 a_.Fall, .slice a__Days_p a_.Days.length a__Days_c] 24 :: Lf) w) ?_ ?_
  · cases hb : ((a_.Rise == b_.Rise) && (a_.Fall == b_.Fall))
    · rw [hb] at hf
      have hF := condF hb ht_1
      obtain rfl := Option.some.inj hF
      refine stS hf rfl rfl rfl fun a hf => ?_
      refine stS hf rfl rfl rfl fun a hf => ?_
      refine stS hf rfl rfl rfl fun a hf => ?_
      refine stS hf rfl rfl rfl fun a hf => ?_
      refine stS hf rfl rfl rfl fun a hf => ?_
      refine stP hf rfl rfl rfl (pPf rfl rfl) fun a hf => ?_
      exact cNil ⟨hf.keep ⟨rfl, rfl, rfl, rfl, rfl, rfl, rfl, rfl, rfl, rfl, rfl, rfl, trivial⟩, hc⟩
    · rw [hb] at hf
      have hF := condT hb ht_1
      refine stP hf rfl rfl rfl (pFA fa_24_2 rfl) fun a hf => ?_
      refine stE hf hc rfl rfl rfl (eLd1 sc_22 rfl (cell_box m1 rfl)) fun a w hf hc => ?_
      refine stP hf rfl rfl rfl (pFA fa_24_2 rfl) fun a hf => ?_
      refine stE hf hc rfl rfl rfl (eLd1 sc_22 rfl (cell_box m0 rfl)) fun a w hf hc => ?_
      obtain ⟨r, hr, hF⟩ := bnd_some hF
      refine stE hf hc rfl rfl rfl (eC (v := .bool r) (vs := [.slice a__Days_p a_.Days.length a__Days_c, .slice b__Days_p b_.Days.length b__Days_c]) (caps := []) en_70 rfl rfl rfl rfl (fun w hc => kit_Same_daily_Value_ok a_.Days b_.Days h_a__Days h_b__Days hc hr)) fun a w hf hc => ?_
      refine stP hf rfl rfl rfl (pPt rfl rfl) fun a hf => ?_
      obtain rfl := Option.some.inj hF
      exact cNil ⟨hf.keep ⟨rfl, rfl, rfl, rfl, rfl, rfl, rfl, rfl, rfl, rfl, rfl, rfl, trivial⟩, hc⟩
  intro a w ⟨hf, hc⟩
  refine stP hf rfl rfl rfl (pA rfl) fun a hf => ?_
  refine cNil ?_
  refine h2 _ _ ?_
  refine wp_ret ?_
  obtain rfl := Option.some.inj hF
  replace hc := hc.drop k1
  replace hc := hc.drop k0
  exact fnOut1 (by simp) rfl Try.results23 hf hc (show look _ 4 = _ from rfl) ⟨rfl, hc⟩

end Go.Nilo
