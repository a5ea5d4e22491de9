/-
  What functions of the Go text compute, as plain functions, and that they do, part 4 of 5. Conditions: what each theorem names.
-/
import Derived.Test.YtbcaeppbfioogaaGa3
import Derived.Test.YtbcaeppbfioogaaProg
set_option linter.unusedVariables false
set_option linter.unusedSimpArgs false
set_option maxRecDepth 100000
set_option maxHeartbeats 4000000
namespace Go.Nilo
open Go.Proofs


def law07_awake (N : Nat)  : Option (Bool) :=
  Option.bind (law07_Four N 58) fun r =>
  Option.bind (daily_Fill N r) fun r_1 =>
  Option.bind (law07_Four N 58) fun r_2 =>
  Option.bind (daily_Volume N r_2 1 2) fun r_3 =>
  Option.bind (law07_Four N 58) fun r_4 =>
  Option.bind (daily_Peak N r_4) fun r_5 =>
  Option.bind (law07_Four N 61) fun r_6 =>
  Option.bind (daily_Clash N r_6) fun r_7 =>
  Option.bind (cond (!((((r_1.2 != 0) || (r_3.2 != 0)) || (r_5.2.2 != 0)) || (r_7.2.2 != 0))) (kit_Same_api_Span N r_1.1 ([(⟨28, 30⟩ : api_Span), (⟨38, 40⟩ : api_Span), (⟨48, 50⟩ : api_Span), (⟨58, 60⟩ : api_Span)] : List api_Span)) (some false)) fun r_8 =>
  Option.bind (cond (!(((((r_1.2 != 0) || (r_3.2 != 0)) || (r_5.2.2 != 0)) || (r_7.2.2 != 0)) || (!r_8))) (law07_span N 86 90) (some (⟨0, 0⟩ : api_Span))) fun r_9 =>
  Option.bind (cond (!((((((r_1.2 != 0) || (r_3.2 != 0)) || (r_5.2.2 != 0)) || (r_7.2.2 != 0)) || (!r_8)) || (!(r_3.1.Lo == r_9.Lo && r_3.1.Hi == r_9.Hi)))) (law07_span N 58 60) (some (⟨0, 0⟩ : api_Span))) fun r_10 =>
  Option.bind (cond (!(((((((r_1.2 != 0) || (r_3.2 != 0)) || (r_5.2.2 != 0)) || (r_7.2.2 != 0)) || (!r_8)) || (!(r_3.1.Lo == r_9.Lo && r_3.1.Hi == r_9.Hi))) || (!(r_5.1.Lo == r_10.Lo && r_5.1.Hi == r_10.Hi)))) (kit_Same_int N r_5.2.1 ([3] : List Int)) (some false)) fun r_11 =>
  cond ((((((((((r_1.2 != 0) || (r_3.2 != 0)) || (r_5.2.2 != 0)) || (r_7.2.2 != 0)) || (!r_8)) || (!(r_3.1.Lo == r_9.Lo && r_3.1.Hi == r_9.Hi))) || (!(r_5.1.Lo == r_10.Lo && r_5.1.Hi == r_10.Hi))) || (!r_11)) || (r_7.1 != 0)) || (r_7.2.1 != 3))
  (some false)
  (Option.bind (law07_Four N 58) fun r_12 =>
  Option.bind (daily_Again N r_12 ([(⟨20, 35⟩ : api_Span), (⟨30, 40⟩ : api_Span), (⟨49, 60⟩ : api_Span), (⟨50, 60⟩ : api_Span)] : List api_Span)) fun r_13 =>
  Option.bind (law07_Counter N ([10, 14, 12, 20] : List Int)) fun r_14 =>
  Option.bind (daily_Correct N r_14) fun r_15 =>
  Option.bind (law07_Counter N ([9, 5, 7, 3] : List Int)) fun r_16 =>
  Option.bind (daily_Proves N r_16 ([(⟨0, 1, 1⟩ : daily_Fall), (⟨2, 3, 1⟩ : daily_Fall)] : List daily_Fall)) fun r_17 =>
  Option.bind (cond (((r_13.2 == 0) && (r_15.2.2 == 0)) && (r_17.2 == 0)) (Option.bind (kit_Same_int N r_13.1 ([2] : List Int)) fun r_18 =>
  some r_18) (some false)) fun t_1 =>
  Option.bind (cond t_1 (Option.bind (kit_Same_int N r_15.1 ([10, 12, 12, 20] : List Int)) fun r_19 =>
  some r_19) (some false)) fun t_2 =>
  some ((t_2 && (r_15.2.1 == 2)) && (r_17.1 == 8)))
theorem law07_awake_ok {N : Nat} {G : Pers} {Lf : List Ent} {w : World}    (hc : Ctx G (Lf) w) {res : Bool} (hF : law07_awake N = some res) : Calls Try.prog 12 #[] w (fun e w => e = .returned (.bool res) ∧ Ctx G (Lf) w) := by
  unfold law07_awake at hF
  refine fnIn (args := []) Try.func12 rfl Try.ntmps12 rfl fun a hf => ?_
  refine wp_seq_k fun K1 h1 => ?_
  refine cReg ?_
  refine stP hf rfl rfl rfl (pA rfl) fun a hf => ?_
  refine cNil ?_
  refine h1 _ _ ?_
  refine wp_seq_k fun K2 h2 => ?_
  refine cReg ?_
  obtain ⟨r, hr, hF⟩ := bnd_some hF
  refine stC (vs := [.int .i64 58]) (caps := []) hf rfl rfl rfl en_58 rfl rfl rfl rfl (law07_Four_ok 58 hc hr) ?_
  rintro _ w ⟨p_1, c_1, rfl, hc⟩
  refine ⟨_, rfl, fun a hf => ?_⟩
  obtain ⟨r_1, hr_1, hF⟩ := bnd_some hF
  obtain ⟨G1, hle1, hrd1, hc, hth1⟩ := lend hc k0
  refine stC (vs := [.agg #[.int .i64 r.Rise, .int .i64 r.Fall, .slice p_1 r.Days.length c_1]]) (caps := []) hf rfl rfl rfl en_29 rfl rfl rfl rfl (daily_Fill_ok r hrd1 hc hr_1) ?_
  rintro _ w ⟨p_2, c_2, rfl, hc⟩
  refine ⟨_, rfl, fun a hf => ?_⟩
  replace hc := hth1 _ _ hc
  refine stP hf rfl rfl rfl (pM rfl) fun a hf => ?_
  refine stP hf rfl rfl rfl (pX rfl rfl) fun a hf => ?_
  refine stP hf rfl rfl rfl (pX rfl rfl) fun a hf => ?_
  refine stP hf rfl rfl rfl (pA rfl) fun a hf => ?_
  refine stP hf rfl rfl rfl (pA rfl) fun a hf => ?_
  refine cNil ?_
  refine h2 _ _ ?_
  refine wp_seq_k fun K3 h3 => ?_
  refine cReg ?_
  obtain ⟨r_2, hr_2, hF⟩ := bnd_some hF
  refine stC (vs := [.int .i64 58]) (caps := []) hf rfl rfl rfl en_58 rfl rfl rfl rfl (law07_Four_ok 58 hc hr_2) ?_
  rintro _ w ⟨p_3, c_3, rfl, hc⟩
  refine ⟨_, rfl, fun a hf => ?_⟩
  obtain ⟨r_3, hr_3, hF⟩ := bnd_some hF
  refine stE hf hc rfl rfl rfl (eC (v := .tuple #[.agg #[.int .i64 r_3.1.Lo, .int .i64 r_3.1.Hi], .int .i64 r_3.2]) (vs := [.agg #[.int .i64 r_2.Rise, .int .i64 r_2.Fall, .slice p_3 r_2.Days.length c_3], .int .i64 1, .int .i64 2]) (caps := []) en_15 rfl rfl rfl rfl (fun w hc => by obtain ⟨G1, hle1, hrd1, hc, hth1⟩ := lend hc k0; exact (daily_Volume_ok r_2 1 2 hrd1 hc hr_3).mono fun e w h => ⟨h.1, ((hth1 _ _ h.2).unpick k0)⟩)) fun a w hf hc => ?_
  refine stP hf rfl rfl rfl (pM rfl) fun a hf => ?_
  refine stP hf rfl rfl rfl (pX rfl rfl) fun a hf => ?_
  refine stP hf rfl rfl rfl (pX rfl rfl) fun a hf => ?_
  refine stAl (cs := [.int .i64 0, .int .i64 0]) hf hc rfl rfl zr_30 rfl fun b_1 a w hf hc => ?_
  refine stSt (vs := [.int .i64 r_3.1.Lo, .int .i64 r_3.1.Hi]) hf hc rfl rfl rfl rfl sz_30 rfl rfl u0 fun w hc => ?_
  refine stP hf rfl rfl rfl (pA rfl) fun a hf => ?_
  refine cNil ?_
  refine h3 _ _ ?_
  refine wp_seq_k fun K4 h4 => ?_
  refine cReg ?_
  obtain ⟨r_4, hr_4, hF⟩ := bnd_some hF
  refine stC (vs := [.int .i64 58]) (caps := []) hf rfl rfl rfl en_58 rfl rfl rfl rfl (law07_Four_ok 58 hc hr_4) ?_
  rintro _ w ⟨p_4, c_4, rfl, hc⟩
  refine ⟨_, rfl, fun a hf => ?_⟩
  obtain ⟨r_5, hr_5, hF⟩ := bnd_some hF
  obtain ⟨G1, hle1, hrd1, hc, hth1⟩ := lend hc k0
  refine stC (vs := [.agg #[.int .i64 r_4.Rise, .int .i64 r_4.Fall, .slice p_4 r_4.Days.length c_4]]) (caps := []) hf rfl rfl rfl en_18 rfl rfl rfl rfl (daily_Peak_ok r_4 hrd1 hc hr_5) ?_
  rintro _ w ⟨p_5, c_5, rfl, hc⟩
  refine ⟨_, rfl, fun a hf => ?_⟩
  replace hc := hth1 _ _ hc
  refine stP hf rfl rfl rfl (pM rfl) fun a hf => ?_
  refine stP hf rfl rfl rfl (pX rfl rfl) fun a hf => ?_
  refine stP hf rfl rfl rfl (pX rfl rfl) fun a hf => ?_
  refine stP hf rfl rfl rfl (pX rfl rfl) fun a hf => ?_
  refine stAl (cs := [.int .i64 0, .int .i64 0]) hf hc rfl rfl zr_30 rfl fun b_2 a w hf hc => ?_
  refine stSt (vs := [.int .i64 r_5.1.Lo, .int .i64 r_5.1.Hi]) hf hc rfl rfl rfl rfl sz_30 rfl rfl u0 fun w hc => ?_
  refine stP hf rfl rfl rfl (pA rfl) fun a hf => ?_
  refine stP hf rfl rfl rfl (pA rfl) fun a hf => ?_
  refine cNil ?_
  refine h4 _ _ ?_
  refine wp_seq_k fun K5 h5 => ?_
  refine cReg ?_
  obtain ⟨r_6, hr_6, hF⟩ := bnd_some hF
  refine stC (vs := [.int .i64 61]) (caps := []) hf rfl rfl rfl en_58 rfl rfl rfl rfl (law07_Four_ok 61 hc hr_6) ?_
  rintro _ w ⟨p_6, c_6, rfl, hc⟩
  refine ⟨_, rfl, fun a hf => ?_⟩
  obtain ⟨r_7, hr_7, hF⟩ := bnd_some hF
  refine stE hf hc rfl rfl rfl (eC (v := .tuple #[.int .i64 r_7.1, .int .i64 r_7.2.1, .int .i64 r_7.2.2]) (vs := [.agg #[.int .i64 r_6.Rise, .int .i64 r_6.Fall, .slice p_6 r_6.Days.length c_6]]) (caps := []) en_28 rfl rfl rfl rfl (fun w hc => by obtain ⟨G1, hle1, hrd1, hc, hth1⟩ := lend hc k0; exact (daily_Clash_ok r_6 hrd1 hc hr_7).mono fun e w h => ⟨h.1, ((hth1 _ _ h.2).unpick k0)⟩)) fun a w hf hc => ?_
  refine stP hf rfl rfl rfl (pM rfl) fun a hf => ?_
  refine stP hf rfl rfl rfl (pX rfl rfl) fun a hf => ?_
  refine stP hf rfl rfl rfl (pX rfl rfl) fun a hf => ?_
  refine stP hf rfl rfl rfl (pX rfl rfl) fun a hf => ?_
  refine stP hf rfl rfl rfl (pA rfl) fun a hf => ?_
  refine stP hf rfl rfl rfl (pA rfl) fun a hf => ?_
  refine stP hf rfl rfl rfl (pA rfl) fun a hf => ?_
  refine cNil ?_
  refine h5 _ _ ?_
  refine wp_seq_k fun K6 h6 => ?_
  refine wp_seq_k fun K7 h7 => ?_
  obtain ⟨r_8, hr_8, hF⟩ := bnd_some hF
  obtain ⟨r_9, hr_9, hF⟩ := bnd_some hF
  obtain ⟨r_10, hr_10, hF⟩ := bnd_some hF
  obtain ⟨r_11, hr_11, hF⟩ := bnd_some hF
  replace hc := hc.nilRow 0 0
  replace hc := hc.nilRow 0 0
  refine regionE (fun θ => (⟨none, none, 1, .slice p_2 r_1.1.length c_2⟩ :: ⟨none, none, 2, .int .i64 r_1.2⟩ :: ⟨none, none, 3, .pointer (some ⟨b_1, 0, none⟩)⟩ :: ⟨none, none, 4, .int .i64 r_3.2⟩ :: ⟨none, none, 5, .pointer (some ⟨b_2, 0, none⟩)⟩ :: ⟨none, none, 6, .slice p_5 r_5.2.1.length c_5⟩ :: ⟨none, none, 7, .int .i64 r_5.2.2⟩ :: ⟨none, none, 8, .int .i64 r_7.1⟩ :: ⟨none, none, 9, .int .i64 r_7.2.1⟩ :: ⟨none, none, 10, .int .i64 r_7.2.2⟩ :: ⟨some 0, none, 37, .int .i64 r_1.2⟩ :: ⟨some 1, none, 38, .bool (r_1.2 != 0)⟩ :: ⟨some 2, none, 39, .bool (r_1.2 != 0)⟩ :: ⟨some 3, none, 40, (bif (r_1.2 != 0) then undef else .int .i64 r_3.2)⟩ :: ⟨some 4, none, 41, (bif (r_1.2 != 0) then undef else .bool (r_3.2 != 0))⟩ :: ⟨some 5, none, 42, .bool ((r_1.2 != 0) || (r_3.2 != 0))⟩ :: ⟨some 6, none, 43, .bool ((r_1.2 != 0) || (r_3.2 != 0))⟩ :: ⟨some 7, none, 44, (bif ((r_1.2 != 0) || (r_3.2 != 0)) then undef else .int .i64 r_5.2.2)⟩ :: ⟨some 8, none, 45, (bif ((r_1.2 != 0) || (r_3.2 != 0)) then undef else .bool (r_5.2.2 != 0))⟩ :: ⟨some 9, none, 46, .bool (((r_1.2 != 0) || (r_3.2 != 0)) || (r_5.2.2 != 0))⟩ :: ⟨some 10, none, 47, .bool (((r_1.2 != 0) || (r_3.2 != 0)) || (r_5.2.2 != 0))⟩ :: ⟨some 11, none, 48, (bif (((r_1.2 != 0) || (r_3.2 != 0)) || (r_5.2.2 != 0)) then undef else .int .i64 r_7.2.2)⟩ :: ⟨some 12, none, 49, (bif (((r_1.2 != 0) || (r_3.2 != 0)) || (r_5.2.2 != 0)) then undef else .bool (r_7.2.2 != 0))⟩ :: ⟨some 13, none, 50, .bool ((((r_1.2 != 0) || (r_3.2 != 0)) || (r_5.2.2 != 0)) || (r_7.2.2 != 0))⟩ :: ⟨some 14, none, 51, .bool ((((r_1.2 != 0) || (r_3.2 != 0)) || (r_5.2.2 != 0)) || (r_7.2.2 != 0))⟩ :: ⟨some 15, none, 52, (bif ((((r_1.2 != 0) || (r_3.2 != 0)) || (r_5.2.2 != 0)) || (r_7.2.2 != 0)) then undef else .slice p_2 r_1.1.length c_2)⟩ :: ⟨some 16, none, 53, (bif ((((r_1.2 != 0) || (r_3.2 != 0)) || (r_5.2.2 != 0)) || (r_7.2.2 != 0)) then undef else .agg #[.int .i64 28, .int .i64 30])⟩ :: ⟨some 17, none, 54, (bif ((((r_1.2 != 0) || (r_3.2 != 0)) || (r_5.2.2 != 0)) || (r_7.2.2 != 0)) then undef else .agg #[.int .i64 38, .int .i64 40])⟩ :: ⟨some 18, none, 55, (bif ((((r_1.2 != 0) || (r_3.2 != 0)) || (r_5.2.2 != 0)) || (r_7.2.2 != 0)) then undef else .agg #[.int .i64 48, .int .i64 50])⟩ :: ⟨some 19, none, 56, (bif ((((r_1.2 != 0) || (r_3.2 != 0)) || (r_5.2.2 != 0)) || (r_7.2.2 != 0)) then undef else .agg #[.int .i64 58, .int .i64 60])⟩ :: ⟨some 20, none, 57, (bif ((((r_1.2 != 0) || (r_3.2 != 0)) || (r_5.2.2 != 0)) || (r_7.2.2 != 0)) then undef else .slice (some ⟨(θ 160).b, 0, none⟩) 4 4)⟩ :: ⟨some 21, none, 58, (bif ((((r_1.2 != 0) || (r_3.2 != 0)) || (r_5.2.2 != 0)) || (r_7.2.2 != 0)) then undef else .bool r_8)⟩ :: ⟨some 22, none, 59, (bif ((((r_1.2 != 0) || (r_3.2 != 0)) || (r_5.2.2 != 0)) || (r_7.2.2 != 0)) then undef else .bool (!r_8))⟩ :: ⟨some 23, none, 60, .bool (((((r_1.2 != 0) || (r_3.2 != 0)) || (r_5.2.2 != 0)) || (r_7.2.2 != 0)) || (!r_8))⟩ :: ⟨some 24, none, 61, .bool (((((r_1.2 != 0) || (r_3.2 != 0)) || (r_5.2.2 != 0)) || (r_7.2.2 != 0)) || (!r_8))⟩ :: ⟨some 25, none, 62, (bif (((((r_1.2 != 0) || (r_3.2 != 0)) || (r_5.2.2 != 0)) || (r_7.2.2 != 0)) || (!r_8)) then undef else .agg #[.int .i64 r_3.1.Lo, .int .i64 r_3.1.Hi])⟩ :: ⟨some 26, none, 63, (bif (((((r_1.2 != 0) || (r_3.2 != 0)) || (r_5.2.2 != 0)) || (r_7.2.2 != 0)) || (!r_8)) then undef else .agg #[.int .i64 r_9.Lo, .int .i64 r_9.Hi])⟩ :: ⟨some 27, none, 64, (bif (((((r_1.2 != 0) || (r_3.2 != 0)) || (r_5.2.2 != 0)) || (r_7.2.2 != 0)) || (!r_8)) then undef else .bool (!(r_3.1.Lo == r_9.Lo && r_3.1.Hi == r_9.Hi)))⟩ :: ⟨some 28, none, 65, .bool ((((((r_1.2 != 0) || (r_3.2 != 0)) || (r_5.2.2 != 0)) || (r_7.2.2 != 0)) || (!r_8)) || (!(r_3.1.Lo == r_9.Lo && r_3.1.Hi == r_9.Hi)))⟩ :: ⟨some 29, none, 66, .bool ((((((r_1.2 != 0) || (r_3.2 != 0)) || (r_5.2.2 != 0)) || (r_7.2.2 != 0)) || (!r_8)) || (!(r_3.1.Lo == r_9.Lo && r_3.1.Hi == r_9.Hi)))⟩ :: ⟨some 30, none, 67, (bif ((((((r_1.2 != 0) || (r_3.2 != 0)) || (r_5.2.2 != 0)) || (r_7.2.2 != 0)) || (!r_8)) || (!(r_3.1.Lo == r_9.Lo && r_3.1.Hi == r_9.Hi))) then undef else .agg #[.int .i64 r_5.1.Lo, .int .i64 r_5.1.Hi])⟩ :: ⟨some 31, none, 68, (bif ((((((r_1.2 != 0) || (r_3.2 != 0)) || (r_5.2.2 != 0)) || (r_7.2.2 != 0)) || (!r_8)) || (!(r_3.1.Lo == r_9.Lo && r_3.1.Hi == r_9.Hi))) then undef else .agg #[.int .i64 r_10.Lo, .int .i64 r_10.Hi])⟩ :: ⟨some 32, none, 69, (bif ((((((r_1.2 != 0) || (r_3.2 != 0)) || (r_5.2.2 != 0)) || (r_7.2.2 != 0)) || (!r_8)) || (!(r_3.1.Lo == r_9.Lo && r_3.1.Hi == r_9.Hi))) then undef else .bool (!(r_5.1.Lo == r_10.Lo && r_5.1.Hi == r_10.Hi)))⟩ :: ⟨some 33, none, 70, .bool (((((((r_1.2 != 0) || (r_3.2 != 0)) || (r_5.2.2 != 0)) || (r_7.2.2 != 0)) || (!r_8)) || (!(r_3.1.Lo == r_9.Lo && r_3.1.Hi == r_9.Hi))) || (!(r_5.1.Lo == r_10.Lo && r_5.1.Hi == r_10.Hi)))⟩ :: ⟨some 34, none, 71, .bool (((((((r_1.2 != 0) || (r_3.2 != 0)) || (r_5.2.2 != 0)) || (r_7.2.2 != 0)) || (!r_8)) || (!(r_3.1.Lo == r_9.Lo && r_3.1.Hi == r_9.Hi))) || (!(r_5.1.Lo == r_10.Lo && r_5.1.Hi == r_10.Hi)))⟩ :: ⟨some 35, none, 72, (bif (((((((r_1.2 != 0) || (r_3.2 != 0)) || (r_5.2.2 != 0)) || (r_7.2.2 != 0)) || (!r_8)) || (!(r_3.1.Lo == r_9.Lo && r_3.1.Hi == r_9.Hi))) || (!(r_5.1.Lo == r_10.Lo && r_5.1.Hi == r_10.Hi))) then undef else .slice p_5 r_5.2.1.length c_5)⟩ :: ⟨some 36, none, 73, (bif (((((((r_1.2 != 0) || (r_3.2 != 0)) || (r_5.2.2 != 0)) || (r_7.2.2 != 0)) || (!r_8)) || (!(r_3.1.Lo == r_9.Lo && r_3.1.Hi == r_9.Hi))) || (!(r_5.1.Lo == r_10.Lo && r_5.1.Hi == r_10.Hi))) then undef else .slice (some ⟨(θ 288).b, 0, none⟩) 1 1)⟩ :: ⟨some 37, none, 74, (bif (((((((r_1.2 != 0) || (r_3.2 != 0)) || (r_5.2.2 != 0)) || (r_7.2.2 != 0)) || (!r_8)) || (!(r_3.1.Lo == r_9.Lo && r_3.1.Hi == r_9.Hi))) || (!(r_5.1.Lo == r_10.Lo && r_5.1.Hi == r_10.Hi))) then undef else .bool r_11)⟩ :: ⟨some 38, none, 75, (bif (((((((r_1.2 != 0) || (r_3.2 != 0)) || (r_5.2.2 != 0)) || (r_7.2.2 != 0)) || (!r_8)) || (!(r_3.1.Lo == r_9.Lo && r_3.1.Hi == r_9.Hi))) || (!(r_5.1.Lo == r_10.Lo && r_5.1.Hi == r_10.Hi))) then undef else .bool (!r_11))⟩ :: ⟨some 39, none, 76, .bool ((((((((r_1.2 != 0) || (r_3.2 != 0)) || (r_5.2.2 != 0)) || (r_7.2.2 != 0)) || (!r_8)) || (!(r_3.1.Lo == r_9.Lo && r_3.1.Hi == r_9.Hi))) || (!(r_5.1.Lo == r_10.Lo && r_5.1.Hi == r_10.Hi))) || (!r_11))⟩ :: ⟨some 40, none, 77, .bool ((((((((r_1.2 != 0) || (r_3.2 != 0)) || (r_5.2.2 != 0)) || (r_7.2.2 != 0)) || (!r_8)) || (!(r_3.1.Lo == r_9.Lo && r_3.1.Hi == r_9.Hi))) || (!(r_5.1.Lo == r_10.Lo && r_5.1.Hi == r_10.Hi))) || (!r_11))⟩ :: ⟨some 41, none, 78, (bif ((((((((r_1.2 != 0) || (r_3.2 != 0)) || (r_5.2.2 != 0)) || (r_7.2.2 != 0)) || (!r_8)) || (!(r_3.1.Lo == r_9.Lo && r_3.1.Hi == r_9.Hi))) || (!(r_5.1.Lo == r_10.Lo && r_5.1.Hi == r_10.Hi))) || (!r_11)) then undef else .int .i64 r_7.1)⟩ :: ⟨some 42, none, 79, (bif ((((((((r_1.2 != 0) || (r_3.2 != 0)) || (r_5.2.2 != 0)) || (r_7.2.2 != 0)) || (!r_8)) || (!(r_3.1.Lo == r_9.Lo && r_3.1.Hi == r_9.Hi))) || (!(r_5.1.Lo == r_10.Lo && r_5.1.Hi == r_10.Hi))) || (!r_11)) then undef else .bool (r_7.1 != 0))⟩ :: ⟨some 43, none, 80, .bool (((((((((r_1.2 != 0) || (r_3.2 != 0)) || (r_5.2.2 != 0)) || (r_7.2.2 != 0)) || (!r_8)) || (!(r_3.1.Lo == r_9.Lo && r_3.1.Hi == r_9.Hi))) || (!(r_5.1.Lo == r_10.Lo && r_5.1.Hi == r_10.Hi))) || (!r_11)) || (r_7.1 != 0))⟩ :: ⟨some 44, none, 81, .bool (((((((((r_1.2 != 0) || (r_3.2 != 0)) || (r_5.2.2 != 0)) || (r_7.2.2 != 0)) || (!r_8)) || (!(r_3.1.Lo == r_9.Lo && r_3.1.Hi == r_9.Hi))) || (!(r_5.1.Lo == r_10.Lo && r_5.1.Hi == r_10.Hi))) || (!r_11)) || (r_7.1 != 0))⟩ :: ⟨some 45, none, 82, (bif (((((((((r_1.2 != 0) || (r_3.2 != 0)) || (r_5.2.2 != 0)) || (r_7.2.2 != 0)) || (!r_8)) || (!(r_3.1.Lo == r_9.Lo && r_3.1.Hi == r_9.Hi))) || (!(r_5.1.Lo == r_10.Lo && r_5.1.Hi == r_10.Hi))) || (!r_11)) || (r_7.1 != 0)) then undef else .int .i64 r_7.2.1)⟩ :: ⟨some 46, none, 83, (bif (((((((((r_1.2 != 0) || (r_3.2 != 0)) || (r_5.2.2 != 0)) || (r_7.2.2 != 0)) || (!r_8)) || (!(r_3.1.Lo == r_9.Lo && r_3.1.Hi == r_9.Hi))) || (!(r_5.1.Lo == r_10.Lo && r_5.1.Hi == r_10.Hi))) || (!r_11)) || (r_7.1 != 0)) then undef else .bool (r_7.2.1 != 3))⟩ :: ⟨some 47, none, 84, .bool ((((((((((r_1.2 != 0) || (r_3.2 != 0)) || (r_5.2.2 != 0)) || (r_7.2.2 != 0)) || (!r_8)) || (!(r_3.1.Lo == r_9.Lo && r_3.1.Hi == r_9.Hi))) || (!(r_5.1.Lo == r_10.Lo && r_5.1.Hi == r_10.Hi))) || (!r_11)) || (r_7.1 != 0)) || (r_7.2.1 != 3))⟩ :: [])) (fun E θ => (bif E 36 then (gE (!(((((((r_1.2 != 0) || (r_3.2 != 0)) || (r_5.2.2 != 0)) || (r_7.2.2 != 0)) || (!r_8)) || (!(r_3.1.Lo == r_9.Lo && r_3.1.Hi == r_9.Hi))) || (!(r_5.1.Lo == r_10.Lo && r_5.1.Hi == r_10.Hi)))) (.row (some ⟨(θ 288).b, 0, none⟩) 1 (([3] : List Int).map encI_i64) 3 1)) else .row none 0 [] 0 0) :: (bif E 20 then (gE (!((((r_1.2 != 0) || (r_3.2 != 0)) || (r_5.2.2 != 0)) || (r_7.2.2 != 0))) (.row (some ⟨(θ 160).b, 0, none⟩) 4 (([(⟨28, 30⟩ : api_Span), (⟨38, 40⟩ : api_Span), (⟨48, 50⟩ : api_Span), (⟨58, 60⟩ : api_Span)] : List api_Span).map enc_api_Span) 30 2)) else .row none 0 [] 0 0) :: .row p_6 c_6 (r_6.Days.map enc_daily_Value) 56 3 :: .box b_2 [.int .i64 r_5.1.Lo, .int .i64 r_5.1.Hi] 30 :: .row p_4 c_4 (r_4.Days.map enc_daily_Value) 56 3 :: .row p_5 c_5 (r_5.2.1.map encI_i64) 3 1 :: .box b_1 [.int .i64 r_3.1.Lo, .int .i64 r_3.1.Hi] 30 :: .row p_3 c_3 (r_2.Days.map enc_daily_Value) 56 3 :: .row p_1 c_1 (r.Days.map enc_daily_Value) 56 3 :: .row p_2 c_2 (r_1.1.map enc_api_Span) 30 2 :: Lf) [] (fun a w => Has 139 a [(84, .bool ((((((((((r_1.2 != 0) || (r_3.2 != 0)) || (r_5.2.2 != 0)) || (r_7.2.2 != 0)) || (!r_8)) || (!(r_3.1.Lo == r_9.Lo && r_3.1.Hi == r_9.Hi))) || (!(r_5.1.Lo == r_10.Lo && r_5.1.Hi == r_10.Hi))) || (!r_11)) || (r_7.1 != 0)) || (r_7.2.1 != 3)))] ∧ Ctx G (.row p_6 c_6 (r_6.Days.map enc_daily_Value) 56 3 :: .box b_2 [.int .i64 r_5.1.Lo, .int .i64 r_5.1.Hi] 30 :: .row p_4 c_4 (r_4.Days.map enc_daily_Value) 56 3 :: .row p_5 c_5 (r_5.2.1.map encI_i64) 3 1 :: .box b_1 [.int .i64 r_3.1.Lo, .int .i64 r_3.1.Hi] 30 :: .row p_3 c_3 (r_2.Days.map enc_daily_Value) 56 3 :: .row p_1 c_1 (r.Days.map enc_daily_Value) 56 3 :: .row p_2 c_2 (r_1.1.map enc_api_Span) 30 2 :: Lf) w) follows_mx (by kernel_rfl) (by kernel_rfl) (HasE.of hf ⟨rfl, rfl, rfl, rfl, rfl, rfl, rfl, rfl, rfl, rfl, trivial, trivial, trivial, trivial, trivial, trivial, trivial, trivial, trivial, trivial, trivial, trivial, trivial, trivial, trivial, trivial, trivial, trivial, trivial, trivial, trivial, trivial, trivial, trivial, trivial, trivial, trivial, trivial, trivial, trivial, trivial, trivial, trivial, trivial, trivial, trivial, trivial, trivial, trivial, trivial, trivial, trivial, trivial, trivial, trivial, trivial, trivial, trivial, trivial⟩) hc ⟨?_, ?_, ?_, ?_, ?_, ?_, ?_, ?_, ?_, ?_, ?_, ?_, ?_, ?_, ?_, ?_, ?_, ?_, ?_, ?_, ?_, ?_, ?_, ?_, ?_, ?_, ?_, ?_, ?_, ?_, ?_, ?_, ?_, ?_, ?_, ?_, ?_, ?_, ?_, ?_, ?_, ?_, ?_, ?_, ?_, ?_, ?_, ?_, trivial⟩ ?_ ?_
  · intro E θ a w hD hi hp he hc
    have hf := he.h0
    replace hf := hf.more he 1 rfl onT
    refine stP hf rfl rfl rfl (pM rfl) fun a hf => ?_
    refine cNil ?_
    refine xThenN ?_
    intro ds u hau
    refine ⟨θ, he.put0 hi hau hf rfl 10 rfl rfl, ?_⟩
    exact hc
  · intro E θ a w hD hi hp he hc
    have e0 := hp.of (k := 0) rfl
    have hf := he.h0
    replace hf := hf.more he 10 rfl (onP e0)
    refine stP hf rfl rfl rfl (pNe rfl rfl) fun a hf => ?_
    refine cNil ?_
    refine xThenN ?_
    intro ds u hau
    refine ⟨θ, he.put0 hi hau hf rfl 11 rfl rfl, ?_⟩
    exact hc
  · intro E θ a w hD hi hp he hc
    have e1 := hp.of (k := 1) rfl
    have hf := he.h0
    replace hf := hf.more he 11 rfl (onP e1)
    refine stP hf rfl rfl rfl (pM rfl) fun a hf => ?_
    refine cNil ?_
    refine xThenN ?_
    intro ds u hau
    refine ⟨θ, he.put0 hi hau hf rfl 12 rfl rfl, ?_⟩
    exact hc
  · intro E θ a w hD hi hp he hc
    have e2 := hp.of (k := 2) rfl
    rcases boolEq (r_1.2 != 0) with hb | hb
    · have hf := he.h0
      replace hf := hf.more he 3 rfl onT
      replace hf := hf.more he 12 rfl (onP e2)
      replace hf := castB hb hf
      refine stS hf rfl rfl rfl fun a hf => ?_
      replace hf := castI (u := .int .i64 r_3.2) hb hf
      refine cNil ?_
      refine xThenN ?_
      intro ds u hau
      refine ⟨θ, he.put0 hi hau hf rfl 13 rfl rfl, ?_⟩
      exact hc
    · have hf := he.h0
      replace hf := hf.more he 3 rfl onT
      replace hf := hf.more he 12 rfl (onP e2)
      replace hf := castB hb hf
      refine stP hf rfl rfl rfl (pM rfl) fun a hf => ?_
      replace hf := castJ (u := undef) hb hf
      refine cNil ?_
      refine xThenN ?_
      intro ds u hau
      refine ⟨θ, he.put0 hi hau hf rfl 13 rfl rfl, ?_⟩
      exact hc
  · intro E θ a w hD hi hp he hc
    have e2 := hp.of (k := 2) rfl
    have e3 := hp.of (k := 3) rfl
    rcases boolEq (r_1.2 != 0) with hb | hb
    · have hf := he.h0
      replace hf := hf.more he 12 rfl (onP e2)
      replace hf := castB hb hf
      replace hf := hf.more he 13 rfl (onP e3)
      replace hf := castCT hb hf
      refine stS hf rfl rfl rfl fun a hf => ?_
      replace hf := castI (u := .bool (r_3.2 != 0)) hb hf
      refine cNil ?_
      refine xThenN ?_
      intro ds u hau
      refine ⟨θ, he.put0 hi hau hf rfl 14 rfl rfl, ?_⟩
      exact hc
    · have hf := he.h0
      replace hf := hf.more he 12 rfl (onP e2)
      replace hf := castB hb hf
      replace hf := hf.more he 13 rfl (onP e3)
      replace hf := castCF hb hf
      refine stP hf rfl rfl rfl (pNe rfl rfl) fun a hf => ?_
      replace hf := castJ (u := undef) hb hf
      refine cNil ?_
      refine xThenN ?_
      intro ds u hau
      refine ⟨θ, he.put0 hi hau hf rfl 14 rfl rfl, ?_⟩
      exact hc
  · intro E θ a w hD hi hp he hc
    have e2 := hp.of (k := 2) rfl
    have e4 := hp.of (k := 4) rfl
    rcases boolEq (r_1.2 != 0) with hb | hb
    · have hf := he.h0
      replace hf := hf.more he 12 rfl (onP e2)
      replace hf := castB hb hf
      replace hf := hf.more he 14 rfl (onP e4)
      replace hf := castCT hb hf
      refine stP hf rfl rfl rfl (pPt rfl rfl) fun a hf => ?_
      replace hf := castV (v' := .bool ((r_1.2 != 0) || (r_3.2 != 0))) (congrArg Value.bool (orT hb)) hf
      refine cNil ?_
      refine xThenN ?_
      intro ds u hau
      refine ⟨θ, he.put0 hi hau hf rfl 15 rfl rfl, ?_⟩
      exact hc
    · have hf := he.h0
      replace hf := hf.more he 12 rfl (onP e2)
      replace hf := castB hb hf
      replace hf := hf.more he 14 rfl (onP e4)
      replace hf := castCF hb hf
      refine stP hf rfl rfl rfl (pPf rfl rfl) fun a hf => ?_
      replace hf := castV (v' := .bool ((r_1.2 != 0) || (r_3.2 != 0))) (congrArg Value.bool (orF hb)) hf
      refine cNil ?_
      refine xThenN ?_
      intro ds u hau
      refine ⟨θ, he.put0 hi hau hf rfl 15 rfl rfl, ?_⟩
      exact hc
  · intro E θ a w hD hi hp he hc
    have e5 := hp.of (k := 5) rfl
    have hf := he.h0
    replace hf := hf.more he 15 rfl (onP e5)
    refine stP hf rfl rfl rfl (pM rfl) fun a hf => ?_
    refine cNil ?_
    refine xThenN ?_
    intro ds u hau
    refine ⟨θ, he.put0 hi hau hf rfl 16 rfl rfl, ?_⟩
    exact hc
  · intro E θ a w hD hi hp he hc
    have e6 := hp.of (k := 6) rfl
    rcases boolEq ((r_1.2 != 0) || (r_3.2 != 0)) with hb | hb
    · have hf := he.h0
      replace hf := hf.more he 6 rfl onT
      replace hf := hf.more he 16 rfl (onP e6)
      replace hf := castB hb hf
      refine stS hf rfl rfl rfl fun a hf => ?_
      replace hf := castI (u := .int .i64 r_5.2.2) hb hf
      refine cNil ?_
      refine xThenN ?_
      intro ds u hau
      refine ⟨θ, he.put0 hi hau hf rfl 17 rfl rfl, ?_⟩
      exact hc
    · have hf := he.h0
      replace hf := hf.more he 6 rfl onT
      replace hf := hf.more he 16 rfl (onP e6)
      replace hf := castB hb hf
      refine stP hf rfl rfl rfl (pM rfl) fun a hf => ?_
      replace hf := castJ (u := undef) hb hf
      refine cNil ?_
      refine xThenN ?_
      intro ds u hau
      refine ⟨θ, he.put0 hi hau hf rfl 17 rfl rfl, ?_⟩
      exact hc
  · intro E θ a w hD hi hp he hc
    have e6 := hp.of (k := 6) rfl
    have e7 := hp.of (k := 7) rfl
    rcases boolEq ((r_1.2 != 0) || (r_3.2 != 0)) with hb | hb
    · have hf := he.h0
      replace hf := hf.more he 16 rfl (onP e6)
      replace hf := castB hb hf
      replace hf := hf.more he 17 rfl (onP e7)
      replace hf := castCT hb hf
      refine stS hf rfl rfl rfl fun a hf => ?_
      replace hf := castI (u := .bool (r_5.2.2 != 0)) hb hf
      refine cNil ?_
      refine xThenN ?_
      intro ds u hau
      refine ⟨θ, he.put0 hi hau hf rfl 18 rfl rfl, ?_⟩
      exact hc
    · have hf := he.h0
      replace hf := hf.more he 16 rfl (onP e6)
      replace hf := castB hb hf
      replace hf := hf.more he 17 rfl (onP e7)
      replace hf := castCF hb hf
      refine stP hf rfl rfl rfl (pNe rfl rfl) fun a hf => ?_
      replace hf := castJ (u := undef) hb hf
      refine cNil ?_
      refine xThenN ?_
      intro ds u hau
      refine ⟨θ, he.put0 hi hau hf rfl 18 rfl rfl, ?_⟩
      exact hc
  · intro E θ a w hD hi hp he hc
    have e6 := hp.of (k := 6) rfl
    have e8 := hp.of (k := 8) rfl
    rcases boolEq ((r_1.2 != 0) || (r_3.2 != 0)) with hb | hb
    · have hf := he.h0
      replace hf := hf.more he 16 rfl (onP e6)
      replace hf := castB hb hf
      replace hf := hf.more he 18 rfl (onP e8)
      replace hf := castCT hb hf
      refine stP hf rfl rfl rfl (pPt rfl rfl) fun a hf => ?_
      replace hf := castV (v' := .bool (((r_1.2 != 0) || (r_3.2 != 0)) || (r_5.2.2 != 0))) (congrArg Value.bool (orT hb)) hf
      refine cNil ?_
      refine xThenN ?_
      intro ds u hau
      refine ⟨θ, he.put0 hi hau hf rfl 19 rfl rfl, ?_⟩
      exact hc
    · have hf := he.h0
      replace hf := hf.more he 16 rfl (onP e6)
      replace hf := castB hb hf
      replace hf := hf.more he 18 rfl (onP e8)
      replace hf := castCF hb hf
      refine stP hf rfl rfl rfl (pPf rfl rfl) fun a hf => ?_
      replace hf := castV (v' := .bool (((r_1.2 != 0) || (r_3.2 != 0)) || (r_5.2.2 != 0))) (congrArg Value.bool (orF hb)) hf
      refine cNil ?_
      refine xThenN ?_
      intro ds u hau
      refine ⟨θ, he.put0 hi hau hf rfl 19 rfl rfl, ?_⟩
      exact hc
  · intro E θ a w hD hi hp he hc
    have e9 := hp.of (k := 9) rfl
    have hf := he.h0
    replace hf := hf.more he 19 rfl (onP e9)
    refine stP hf rfl rfl rfl (pM rfl) fun a hf => ?_
    refine cNil ?_
    refine xThenN ?_
    intro ds u hau
    refine ⟨θ, he.put0 hi hau hf rfl 20 rfl rfl, ?_⟩
    exact hc
  · intro E θ a w hD hi hp he hc
    have e10 := hp.of (k := 10) rfl
    rcases boolEq (((r_1.2 != 0) || (r_3.2 != 0)) || (r_5.2.2 != 0)) with hb | hb
    · have hf := he.h0
      replace hf := hf.more he 9 rfl onT
      replace hf := hf.more he 20 rfl (onP e10)
      replace hf := castB hb hf
      refine stS hf rfl rfl rfl fun a hf => ?_
      replace hf := castI (u := .int .i64 r_7.2.2) hb hf
      refine cNil ?_
      refine xThenN ?_
      intro ds u hau
      refine ⟨θ, he.put0 hi hau hf rfl 21 rfl rfl, ?_⟩
      exact hc
    · have hf := he.h0
      replace hf := hf.more he 9 rfl onT
      replace hf := hf.more he 20 rfl (onP e10)
      replace hf := castB hb hf
      refine stP hf rfl rfl rfl (pM rfl) fun a hf => ?_
      replace hf := castJ (u := undef) hb hf
      refine cNil ?_
      refine xThenN ?_
      intro ds u hau
      refine ⟨θ, he.put0 hi hau hf rfl 21 rfl rfl, ?_⟩
      exact hc
  · intro E θ a w hD hi hp he hc
    have e10 := hp.of (k := 10) rfl
    have e11 := hp.of (k := 11) rfl
    rcases boolEq (((r_1.2 != 0) || (r_3.2 != 0)) || (r_5.2.2 != 0)) with hb | hb
    · have hf := he.h0
      replace hf := hf.more he 20 rfl (onP e10)
      replace hf := castB hb hf
      replace hf := hf.more he 21 rfl (onP e11)
      replace hf := castCT hb hf
      refine stS hf rfl rfl rfl fun a hf => ?_
      replace hf := castI (u := .bool (r_7.2.2 != 0)) hb hf
      refine cNil ?_
      refine xThenN ?_
      intro ds u hau
      refine ⟨θ, he.put0 hi hau hf rfl 22 rfl rfl, ?_⟩
      exact hc
    · have hf := he.h0
      replace hf := hf.more he 20 rfl (onP e10)
      replace hf := castB hb hf
      replace hf := hf.more he 21 rfl (onP e11)
      replace hf := castCF hb hf
      refine stP hf rfl rfl rfl (pNe rfl rfl) fun a hf => ?_
      replace hf := castJ (u := undef) hb hf
      refine cNil ?_
      refine xThenN ?_
      intro ds u hau
      refine ⟨θ, he.put0 hi hau hf rfl 22 rfl rfl, ?_⟩
      exact hc
  · intro E θ a w hD hi hp he hc
    have e10 := hp.of (k := 10) rfl
    have e12 := hp.of (k := 12) rfl
    rcases boolEq (((r_1.2 != 0) || (r_3.2 != 0)) || (r_5.2.2 != 0)) with hb | hb
    · have hf := he.h0
      replace hf := hf.more he 20 rfl (onP e10)
      replace hf := castB hb hf
      replace hf := hf.more he 22 rfl (onP e12)
      replace hf := castCT hb hf
      refine stP hf rfl rfl rfl (pPt rfl rfl) fun a hf => ?_
      replace hf := castV (v' := .bool ((((r_1.2 != 0) || (r_3.2 != 0)) || (r_5.2.2 != 0)) || (r_7.2.2 != 0))) (congrArg Value.bool (orT hb)) hf
      refine cNil ?_
      refine xThenN ?_
      intro ds u hau
      refine ⟨θ, he.put0 hi hau hf rfl 23 rfl rfl, ?_⟩
      exact hc
    · have hf := he.h0
      replace hf := hf.more he 20 rfl (onP e10)
      replace hf := castB hb hf
      replace hf := hf.more he 22 rfl (onP e12)
      replace hf := castCF hb hf
      refine stP hf rfl rfl rfl (pPf rfl rfl) fun a hf => ?_
      replace hf := castV (v' := .bool ((((r_1.2 != 0) || (r_3.2 != 0)) || (r_5.2.2 != 0)) || (r_7.2.2 != 0))) (congrArg Value.bool (orF hb)) hf
      refine cNil ?_
      refine xThenN ?_
      intro ds u hau
      refine ⟨θ, he.put0 hi hau hf rfl 23 rfl rfl, ?_⟩
      exact hc
  · intro E θ a w hD hi hp he hc
    have e13 := hp.of (k := 13) rfl
    have hf := he.h0
    replace hf := hf.more he 23 rfl (onP e13)
    refine stP hf rfl rfl rfl (pM rfl) fun a hf => ?_
    refine cNil ?_
    refine xThenN ?_
    intro ds u hau
    refine ⟨θ, he.put0 hi hau hf rfl 24 rfl rfl, ?_⟩
    exact hc
  · intro E θ a w hD hi hp he hc
    have e14 := hp.of (k := 14) rfl
    rcases boolEq ((((r_1.2 != 0) || (r_3.2 != 0)) || (r_5.2.2 != 0)) || (r_7.2.2 != 0)) with hb | hb
    · have hf := he.h0
      replace hf := hf.more he 0 rfl onT
      replace hf := hf.more he 24 rfl (onP e14)
      replace hf := castB hb hf
      refine stS hf rfl rfl rfl fun a hf => ?_
      replace hf := castI (u := .slice p_2 r_1.1.length c_2) hb hf
      refine cNil ?_
      refine xThenN ?_
      intro ds u hau
      refine ⟨θ, he.put0 hi hau hf rfl 25 rfl rfl, ?_⟩
      exact hc
    · have hf := he.h0
      replace hf := hf.more he 0 rfl onT
      replace hf := hf.more he 24 rfl (onP e14)
      replace hf := castB hb hf
      refine stP hf rfl rfl rfl (pM rfl) fun a hf => ?_
      replace hf := castJ (u := undef) hb hf
      refine cNil ?_
      refine xThenN ?_
      intro ds u hau
      refine ⟨θ, he.put0 hi hau hf rfl 25 rfl rfl, ?_⟩
      exact hc
  · intro E θ a w hD hi hp he hc
    have e14 := hp.of (k := 14) rfl
    rcases boolEq ((((r_1.2 != 0) || (r_3.2 != 0)) || (r_5.2.2 != 0)) || (r_7.2.2 != 0)) with hb | hb
    · have hf := he.h0
      replace hf := hf.more he 24 rfl (onP e14)
      replace hf := castB hb hf
      refine stS hf rfl rfl rfl fun a hf => ?_
      replace hf := castI (u := .agg #[.int .i64 28, .int .i64 30]) hb hf
      refine cNil ?_
      refine xThenN ?_
      intro ds u hau
      refine ⟨θ, he.put0 hi hau hf rfl 26 rfl rfl, ?_⟩
      exact hc
    · have hf := he.h0
      replace hf := hf.more he 24 rfl (onP e14)
      replace hf := castB hb hf
      refine stP hf rfl rfl rfl (pBuildS (cells := [.int .i64 28, .int .i64 30]) bt_30 rfl rfl) fun a hf => ?_
      replace hf := castJ (u := undef) hb hf
      refine cNil ?_
      refine xThenN ?_
      intro ds u hau
      refine ⟨θ, he.put0 hi hau hf rfl 26 rfl rfl, ?_⟩
      exact hc
  · intro E θ a w hD hi hp he hc
    have e14 := hp.of (k := 14) rfl
    rcases boolEq ((((r_1.2 != 0) || (r_3.2 != 0)) || (r_5.2.2 != 0)) || (r_7.2.2 != 0)) with hb | hb
    · have hf := he.h0
      replace hf := hf.more he 24 rfl (onP e14)
      replace hf := castB hb hf
      refine stS hf rfl rfl rfl fun a hf => ?_
      replace hf := castI (u := .agg #[.int .i64 38, .int .i64 40]) hb hf
      refine cNil ?_
      refine xThenN ?_
      intro ds u hau
      refine ⟨θ, he.put0 hi hau hf rfl 27 rfl rfl, ?_⟩
      exact hc
    · have hf := he.h0
      replace hf := hf.more he 24 rfl (onP e14)
      replace hf := castB hb hf
      refine stP hf rfl rfl rfl (pBuildS (cells := [.int .i64 38, .int .i64 40]) bt_30 rfl rfl) fun a hf => ?_
      replace hf := castJ (u := undef) hb hf
      refine cNil ?_
      refine xThenN ?_
      intro ds u hau
      refine ⟨θ, he.put0 hi hau hf rfl 27 rfl rfl, ?_⟩
      exact hc
  · intro E θ a w hD hi hp he hc
    have e14 := hp.of (k := 14) rfl
    rcases boolEq ((((r_1.2 != 0) || (r_3.2 != 0)) || (r_5.2.2 != 0)) || (r_7.2.2 != 0)) with hb | hb
    · have hf := he.h0
      replace hf := hf.more he 24 rfl (onP e14)
      replace hf := castB hb hf
      refine stS hf rfl rfl rfl fun a hf => ?_
      replace hf := castI (u := .agg #[.int .i64 48, .int .i64 50]) hb hf
      refine cNil ?_
      refine xThenN ?_
      intro ds u hau
      refine ⟨θ, he.put0 hi hau hf rfl 28 rfl rfl, ?_⟩
      exact hc
    · have hf := he.h0
      replace hf := hf.more he 24 rfl (onP e14)
      replace hf := castB hb hf
      refine stP hf rfl rfl rfl (pBuildS (cells := [.int .i64 48, .int .i64 50]) bt_30 rfl rfl) fun a hf => ?_
      replace hf := castJ (u := undef) hb hf
      refine cNil ?_
      refine xThenN ?_
      intro ds u hau
      refine ⟨θ, he.put0 hi hau hf rfl 28 rfl rfl, ?_⟩
      exact hc
  · intro E θ a w hD hi hp he hc
    have e14 := hp.of (k := 14) rfl
    rcases boolEq ((((r_1.2 != 0) || (r_3.2 != 0)) || (r_5.2.2 != 0)) || (r_7.2.2 != 0)) with hb | hb
    · have hf := he.h0
      replace hf := hf.more he 24 rfl (onP e14)
      replace hf := castB hb hf
      refine stS hf rfl rfl rfl fun a hf => ?_
      replace hf := castI (u := .agg #[.int .i64 58, .int .i64 60]) hb hf
      refine cNil ?_
      refine xThenN ?_
      intro ds u hau
      refine ⟨θ, he.put0 hi hau hf rfl 29 rfl rfl, ?_⟩
      exact hc
    · have hf := he.h0
      replace hf := hf.more he 24 rfl (onP e14)
      replace hf := castB hb hf
      refine stP hf rfl rfl rfl (pBuildS (cells := [.int .i64 58, .int .i64 60]) bt_30 rfl rfl) fun a hf => ?_
      replace hf := castJ (u := undef) hb hf
      refine cNil ?_
      refine xThenN ?_
      intro ds u hau
      refine ⟨θ, he.put0 hi hau hf rfl 29 rfl rfl, ?_⟩
      exact hc
  · intro E θ a w hD hi hp he hc
    have e14 := hp.of (k := 14) rfl
    have e16 := hp.of (k := 16) rfl
    have e17 := hp.of (k := 17) rfl
    have e18 := hp.of (k := 18) rfl
    have e19 := hp.of (k := 19) rfl
    try dsimp only at hc
    rw [hi] at hc
    rcases boolEq ((((r_1.2 != 0) || (r_3.2 != 0)) || (r_5.2.2 != 0)) || (r_7.2.2 != 0)) with hb | hb
    · have hf := he.h0
      replace hf := hf.more he 24 rfl (onP e14)
      replace hf := castB hb hf
      replace hf := hf.more he 26 rfl (onP e16)
      replace hf := castCT hb hf
      replace hf := hf.more he 27 rfl (onP e17)
      replace hf := castCT hb hf
      replace hf := hf.more he 28 rfl (onP e18)
      replace hf := castCT hb hf
      replace hf := hf.more he 29 rfl (onP e19)
      replace hf := castCT hb hf
      refine stS hf rfl rfl rfl fun a hf => ?_
      replace hf := castI (u := .slice (some ⟨(θ 160).b, 0, none⟩) 4 4) hb hf
      refine cNil ?_
      refine xThenN ?_
      intro ds u hau
      refine ⟨θ, he.put0 hi hau hf rfl 30 rfl rfl, ?_⟩
      try dsimp only
      rw [updE_self E 20]
      rw [gE_F (notF hb)]
      exact hc
    · have hf := he.h0
      replace hf := hf.more he 24 rfl (onP e14)
      replace hf := castB hb hf
      replace hf := hf.more he 26 rfl (onP e16)
      replace hf := castCF hb hf
      replace hf := hf.more he 27 rfl (onP e17)
      replace hf := castCF hb hf
      replace hf := hf.more he 28 rfl (onP e18)
      replace hf := castCF hb hf
      replace hf := hf.more he 29 rfl (onP e19)
      replace hf := castCF hb hf
      refine stBS (rows := ([(⟨28, 30⟩ : api_Span), (⟨38, 40⟩ : api_Span), (⟨48, 50⟩ : api_Span), (⟨58, 60⟩ : api_Span)] : List api_Span).map enc_api_Span) (vs := [(0, .agg #[.int .i64 28, .int .i64 30]), (1, .agg #[.int .i64 38, .int .i64 40]), (2, .agg #[.int .i64 48, .int .i64 50]), (3, .agg #[.int .i64 58, .int .i64 60])]) hf hc rfl rfl sl_25 rfl ⟨rfl, rfl, rfl, rfl, rfl, rfl, rfl, rfl, rfl, rfl, rfl, rfl, trivial⟩ rfl rfl fun b_3 a w hf hc => ?_
      replace hf := castJ (u := undef) hb hf
      refine cNil ?_
      refine xThenN ?_
      intro ds u hau
      replace hc := hc.drop k2
      replace hc := hc.pick k0
      replace hc := hc.pick k1
      refine ⟨(setT θ 160 ⟨b_3, none, 0⟩), he.put hi hau hf rfl [] trivial ⟨qq, qq, qq, qq, qq, qq, qq, qq, qq, qq, qq, qq, qq, qq, qq, qq, qq, qq, qq, qq, qq, qq, qq, qq, qq, qq, qq, qq, qq, qq, qq, qq, qq, qq, qq, qq, qq, qq, qq, qq, qq, qq, qq, qq, qq, qq, qq, qq, qq, qq, qq, qq, qq, qq, qq, qq, qq, qq, trivial⟩, ?_⟩
      try dsimp only
      rw [updE_self E 20]
      rw [gE_T (notT hb)]
      exact hc
  · intro E θ a w hD hi hp he hc
    have e14 := hp.of (k := 14) rfl
    have e15 := hp.of (k := 15) rfl
    have e20 := hp.of (k := 20) rfl
    try dsimp only at hc
    rw [e20] at hc
    rcases boolEq ((((r_1.2 != 0) || (r_3.2 != 0)) || (r_5.2.2 != 0)) || (r_7.2.2 != 0)) with hb | hb
    · have hf := he.h0
      replace hf := hf.more he 24 rfl (onP e14)
      replace hf := castB hb hf
      replace hf := hf.more he 25 rfl (onP e15)
      replace hf := castCT hb hf
      replace hf := hf.more he 30 rfl (onP e20)
      replace hf := castCT hb hf
      rw [gE_F (notF hb)] at hc
      refine stS hf rfl rfl rfl fun a hf => ?_
      replace hf := castI (u := .bool r_8) hb hf
      refine cNil ?_
      refine xThenN ?_
      intro ds u hau
      refine ⟨θ, he.put0 hi hau hf rfl 31 rfl rfl, ?_⟩
      try dsimp only
      rw [updE_tru 21 e20]
      rw [gE_F (notF hb)]
      exact hc
    · have hf := he.h0
      replace hf := hf.more he 24 rfl (onP e14)
      replace hf := castB hb hf
      replace hf := hf.more he 25 rfl (onP e15)
      replace hf := castCF hb hf
      replace hf := hf.more he 30 rfl (onP e20)
      replace hf := castCF hb hf
      rw [gE_T (notT hb)] at hc
      refine stE hf hc rfl rfl rfl (eC (v := .bool r_8) (vs := [.slice p_2 r_1.1.length c_2, .slice (some ⟨(θ 160).b, 0, none⟩) 4 4]) (caps := []) en_24 rfl rfl rfl rfl (fun w hc => by obtain ⟨G1, hle1, hrd1, hc, hth1⟩ := lend hc k9; obtain ⟨G2, hle2, hrd2, hc, hth2⟩ := lend hc k1; exact (kit_Same_api_Span_ok r_1.1 ([(⟨28, 30⟩ : api_Span), (⟨38, 40⟩ : api_Span), (⟨48, 50⟩ : api_Span), (⟨58, 60⟩ : api_Span)] : List api_Span) (hrd1.mono hle2) hrd2 hc (condT (notT hb) hr_8)).mono fun e w h => ⟨h.1, ((hth1 _ _ ((hth2 _ _ h.2).unpick k1)).unpick k9)⟩)) fun a w hf hc => ?_
      replace hf := castJ (u := undef) hb hf
      refine cNil ?_
      refine xThenN ?_
      intro ds u hau
      refine ⟨θ, he.put0 hi hau hf rfl 31 rfl rfl, ?_⟩
      try dsimp only
      rw [updE_tru 21 e20]
      rw [gE_T (notT hb)]
      exact hc
  · intro E θ a w hD hi hp he hc
    have e14 := hp.of (k := 14) rfl
    have e21 := hp.of (k := 21) rfl
    rcases boolEq ((((r_1.2 != 0) || (r_3.2 != 0)) || (r_5.2.2 != 0)) || (r_7.2.2 != 0)) with hb | hb
    · have hf := he.h0
      replace hf := hf.more he 24 rfl (onP e14)
      replace hf := castB hb hf
      replace hf := hf.more he 31 rfl (onP e21)
      replace hf := castCT hb hf
      refine stS hf rfl rfl rfl fun a hf => ?_
      replace hf := castI (u := .bool (!r_8)) hb hf
      refine cNil ?_
      refine xThenN ?_
      intro ds u hau
      refine ⟨θ, he.put0 hi hau hf rfl 32 rfl rfl, ?_⟩
      exact hc
    · have hf := he.h0
      replace hf := hf.more he 24 rfl (onP e14)
      replace hf := castB hb hf
      replace hf := hf.more he 31 rfl (onP e21)
      replace hf := castCF hb hf
      refine stP hf rfl rfl rfl (pNot rfl) fun a hf => ?_
      replace hf := castJ (u := undef) hb hf
      refine cNil ?_
      refine xThenN ?_
      intro ds u hau
      refine ⟨θ, he.put0 hi hau hf rfl 32 rfl rfl, ?_⟩
      exact hc
  · intro E θ a w hD hi hp he hc
    have e14 := hp.of (k := 14) rfl
    have e22 := hp.of (k := 22) rfl
    rcases boolEq ((((r_1.2 != 0) || (r_3.2 != 0)) || (r_5.2.2 != 0)) || (r_7.2.2 != 0)) with hb | hb
    · have hf := he.h0
      replace hf := hf.more he 24 rfl (onP e14)
      replace hf := castB hb hf
      replace hf := hf.more he 32 rfl (onP e22)
      replace hf := castCT hb hf
      refine stP hf rfl rfl rfl (pPt rfl rfl) fun a hf => ?_
      replace hf := castV (v' := .bool (((((r_1.2 != 0) || (r_3.2 != 0)) || (r_5.2.2 != 0)) || (r_7.2.2 != 0)) || (!r_8))) (congrArg Value.bool (orT hb)) hf
      refine cNil ?_
      refine xThenN ?_
      intro ds u hau
      refine ⟨θ, he.put0 hi hau hf rfl 33 rfl rfl, ?_⟩
      exact hc
    · have hf := he.h0
      replace hf := hf.more he 24 rfl (onP e14)
      replace hf := castB hb hf
      replace hf := hf.more he 32 rfl (onP e22)
      replace hf := castCF hb hf
      refine stP hf rfl rfl rfl (pPf rfl rfl) fun a hf => ?_
      replace hf := castV (v' := .bool (((((r_1.2 != 0) || (r_3.2 != 0)) || (r_5.2.2 != 0)) || (r_7.2.2 != 0)) || (!r_8))) (congrArg Value.bool (orF hb)) hf
      refine cNil ?_
      refine xThenN ?_
      intro ds u hau
      refine ⟨θ, he.put0 hi hau hf rfl 33 rfl rfl, ?_⟩
      exact hc
  · intro E θ a w hD hi hp he hc
    have e23 := hp.of (k := 23) rfl
    have hf := he.h0
    replace hf := hf.more he 33 rfl (onP e23)
    refine stP hf rfl rfl rfl (pM rfl) fun a hf => ?_
    refine cNil ?_
    refine xThenN ?_
    intro ds u hau
    refine ⟨θ, he.put0 hi hau hf rfl 34 rfl rfl, ?_⟩
    exact hc
  · intro E θ a w hD hi hp he hc
    have e24 := hp.of (k := 24) rfl
    rcases boolEq (((((r_1.2 != 0) || (r_3.2 != 0)) || (r_5.2.2 != 0)) || (r_7.2.2 != 0)) || (!r_8)) with hb | hb
    · have hf := he.h0
      replace hf := hf.more he 2 rfl onT
      replace hf := hf.more he 34 rfl (onP e24)
      replace hf := castB hb hf
      refine stS hf rfl rfl rfl fun a hf => ?_
      replace hf := castI (u := .agg #[.int .i64 r_3.1.Lo, .int .i64 r_3.1.Hi]) hb hf
      refine cNil ?_
      refine xThenN ?_
      intro ds u hau
      refine ⟨θ, he.put0 hi hau hf rfl 35 rfl rfl, ?_⟩
      exact hc
    · have hf := he.h0
      replace hf := hf.more he 2 rfl onT
      replace hf := hf.more he 34 rfl (onP e24)
      replace hf := castB hb hf
      refine stE hf hc rfl rfl rfl (eLdN (vs := [.int .i64 r_3.1.Lo, .int .i64 r_3.1.Hi]) ag_30 rfl rfl (cells_box (n := 2) m6 rfl)) fun a w hf hc => ?_
      replace hf := castJ (u := undef) hb hf
      refine cNil ?_
      refine xThenN ?_
      intro ds u hau
      refine ⟨θ, he.put0 hi hau hf rfl 35 rfl rfl, ?_⟩
      exact hc
  · intro E θ a w hD hi hp he hc
    have e24 := hp.of (k := 24) rfl
    rcases boolEq (((((r_1.2 != 0) || (r_3.2 != 0)) || (r_5.2.2 != 0)) || (r_7.2.2 != 0)) || (!r_8)) with hb | hb
    · have hf := he.h0
      replace hf := hf.more he 34 rfl (onP e24)
      replace hf := castB hb hf
      refine stS hf rfl rfl rfl fun a hf => ?_
      replace hf := castI (u := .agg #[.int .i64 r_9.Lo, .int .i64 r_9.Hi]) hb hf
      refine cNil ?_
      refine xThenN ?_
      intro ds u hau
      refine ⟨θ, he.put0 hi hau hf rfl 36 rfl rfl, ?_⟩
      exact hc
    · have hf := he.h0
      replace hf := hf.more he 34 rfl (onP e24)
      replace hf := castB hb hf
      refine stE hf hc rfl rfl rfl (eC (v := .agg #[.int .i64 r_9.Lo, .int .i64 r_9.Hi]) (vs := [.int .i64 86, .int .i64 90]) (caps := []) en_47 rfl rfl rfl rfl (fun w hc => law07_span_ok 86 90 hc (condT (notT hb) hr_9))) fun a w hf hc => ?_
      replace hf := castJ (u := undef) hb hf
      refine cNil ?_
      refine xThenN ?_
      intro ds u hau
      refine ⟨θ, he.put0 hi hau hf rfl 36 rfl rfl, ?_⟩
      exact hc
  · intro E θ a w hD hi hp he hc
    have e24 := hp.of (k := 24) rfl
    have e25 := hp.of (k := 25) rfl
    have e26 := hp.of (k := 26) rfl
    rcases boolEq (((((r_1.2 != 0) || (r_3.2 != 0)) || (r_5.2.2 != 0)) || (r_7.2.2 != 0)) || (!r_8)) with hb | hb
    · have hf := he.h0
      replace hf := hf.more he 34 rfl (onP e24)
      replace hf := castB hb hf
      replace hf := hf.more he 35 rfl (onP e25)
      replace hf := castCT hb hf
      replace hf := hf.more he 36 rfl (onP e26)
      replace hf := castCT hb hf
      refine stS hf rfl rfl rfl fun a hf => ?_
      replace hf := castI (u := .bool (!(r_3.1.Lo == r_9.Lo && r_3.1.Hi == r_9.Hi))) hb hf
      refine cNil ?_
      refine xThenN ?_
      intro ds u hau
      refine ⟨θ, he.put0 hi hau hf rfl 37 rfl rfl, ?_⟩
      exact hc
    · have hf := he.h0
      replace hf := hf.more he 34 rfl (onP e24)
      replace hf := castB hb hf
      replace hf := hf.more he 35 rfl (onP e25)
      replace hf := castCF hb hf
      replace hf := hf.more he 36 rfl (onP e26)
      replace hf := castCF hb hf
      refine stP hf rfl rfl rfl (pNeA ge_30 rfl rfl (eqs_30 _ _ _ _)) fun a hf => ?_
      replace hf := castJ (u := undef) hb hf
      refine cNil ?_
      refine xThenN ?_
      intro ds u hau
      refine ⟨θ, he.put0 hi hau hf rfl 37 rfl rfl, ?_⟩
      exact hc
  · intro E θ a w hD hi hp he hc
    have e24 := hp.of (k := 24) rfl
    have e27 := hp.of (k := 27) rfl
    rcases boolEq (((((r_1.2 != 0) || (r_3.2 != 0)) || (r_5.2.2 != 0)) || (r_7.2.2 != 0)) || (!r_8)) with hb | hb
    · have hf := he.h0
      replace hf := hf.more he 34 rfl (onP e24)
      replace hf := castB hb hf
      replace hf := hf.more he 37 rfl (onP e27)
      replace hf := castCT hb hf
      refine stP hf rfl rfl rfl (pPt rfl rfl) fun a hf => ?_
      replace hf := castV (v' := .bool ((((((r_1.2 != 0) || (r_3.2 != 0)) || (r_5.2.2 != 0)) || (r_7.2.2 != 0)) || (!r_8)) || (!(r_3.1.Lo == r_9.Lo && r_3.1.Hi == r_9.Hi)))) (congrArg Value.bool (orT hb)) hf
      refine cNil ?_
      refine xThenN ?_
      intro ds u hau
      refine ⟨θ, he.put0 hi hau hf rfl 38 rfl rfl, ?_⟩
      exact hc
    · have hf := he.h0
      replace hf := hf.more he 34 rfl (onP e24)
      replace hf := castB hb hf
      replace hf := hf.more he 37 rfl (onP e27)
      replace hf := castCF hb hf
      refine stP hf rfl rfl rfl (pPf rfl rfl) fun a hf => ?_
      replace hf := castV (v' := .bool ((((((r_1.2 != 0) || (r_3.2 != 0)) || (r_5.2.2 != 0)) || (r_7.2.2 != 0)) || (!r_8)) || (!(r_3.1.Lo == r_9.Lo && r_3.1.Hi == r_9.Hi)))) (congrArg Value.bool (orF hb)) hf
      refine cNil ?_
      refine xThenN ?_
      intro ds u hau
      refine ⟨θ, he.put0 hi hau hf rfl 38 rfl rfl, ?_⟩
      exact hc
  · intro E θ a w hD hi hp he hc
    have e28 := hp.of (k := 28) rfl
    have hf := he.h0
    replace hf := hf.more he 38 rfl (onP e28)
    refine stP hf rfl rfl rfl (pM rfl) fun a hf => ?_
    refine cNil ?_
    refine xThenN ?_
    intro ds u hau
    refine ⟨θ, he.put0 hi hau hf rfl 39 rfl rfl, ?_⟩
    exact hc
  · intro E θ a w hD hi hp he hc
    have e29 := hp.of (k := 29) rfl
    rcases boolEq ((((((r_1.2 != 0) || (r_3.2 != 0)) || (r_5.2.2 != 0)) || (r_7.2.2 != 0)) || (!r_8)) || (!(r_3.1.Lo == r_9.Lo && r_3.1.Hi == r_9.Hi))) with hb | hb
    · have hf := he.h0
      replace hf := hf.more he 4 rfl onT
      replace hf := hf.more he 39 rfl (onP e29)
      replace hf := castB hb hf
      refine stS hf rfl rfl rfl fun a hf => ?_
      replace hf := castI (u := .agg #[.int .i64 r_5.1.Lo, .int .i64 r_5.1.Hi]) hb hf
      refine cNil ?_
      refine xThenN ?_
      intro ds u hau
      refine ⟨θ, he.put0 hi hau hf rfl 40 rfl rfl, ?_⟩
      exact hc
    · have hf := he.h0
      replace hf := hf.more he 4 rfl onT
      replace hf := hf.more he 39 rfl (onP e29)
      replace hf := castB hb hf
      refine stE hf hc rfl rfl rfl (eLdN (vs := [.int .i64 r_5.1.Lo, .int .i64 r_5.1.Hi]) ag_30 rfl rfl (cells_box (n := 2) m3 rfl)) fun a w hf hc => ?_
      replace hf := castJ (u := undef) hb hf
      refine cNil ?_
      refine xThenN ?_
      intro ds u hau
      refine ⟨θ, he.put0 hi hau hf rfl 40 rfl rfl, ?_⟩
      exact hc
  · intro E θ a w hD hi hp he hc
    have e29 := hp.of (k := 29) rfl
    rcases boolEq ((((((r_1.2 != 0) || (r_3.2 != 0)) || (r_5.2.2 != 0)) || (r_7.2.2 != 0)) || (!r_8)) || (!(r_3.1.Lo == r_9.Lo && r_3.1.Hi == r_9.Hi))) with hb | hb
    · have hf := he.h0
      replace hf := hf.more he 39 rfl (onP e29)
      replace hf := castB hb hf
      refine stS hf rfl rfl rfl fun a hf => ?_
      replace hf := castI (u := .agg #[.int .i64 r_10.Lo, .int .i64 r_10.Hi]) hb hf
      refine cNil ?_
      refine xThenN ?_
      intro ds u hau
      refine ⟨θ, he.put0 hi hau hf rfl 41 rfl rfl, ?_⟩
      exact hc
    · have hf := he.h0
      replace hf := hf.more he 39 rfl (onP e29)
      replace hf := castB hb hf
      refine stE hf hc rfl rfl rfl (eC (v := .agg #[.int .i64 r_10.Lo, .int .i64 r_10.Hi]) (vs := [.int .i64 58, .int .i64 60]) (caps := []) en_47 rfl rfl rfl rfl (fun w hc => law07_span_ok 58 60 hc (condT (notT hb) hr_10))) fun a w hf hc => ?_
      replace hf := castJ (u := undef) hb hf
      refine cNil ?_
      refine xThenN ?_
      intro ds u hau
      refine ⟨θ, he.put0 hi hau hf rfl 41 rfl rfl, ?_⟩
      exact hc
  · intro E θ a w hD hi hp he hc
    have e29 := hp.of (k := 29) rfl
    have e30 := hp.of (k := 30) rfl
    have e31 := hp.of (k := 31) rfl
    rcases boolEq ((((((r_1.2 != 0) || (r_3.2 != 0)) || (r_5.2.2 != 0)) || (r_7.2.2 != 0)) || (!r_8)) || (!(r_3.1.Lo == r_9.Lo && r_3.1.Hi == r_9.Hi))) with hb | hb
    · have hf := he.h0
      replace hf := hf.more he 39 rfl (onP e29)
      replace hf := castB hb hf
      replace hf := hf.more he 40 rfl (onP e30)
      replace hf := castCT hb hf
      replace hf := hf.more he 41 rfl (onP e31)
      replace hf := castCT hb hf
      refine stS hf rfl rfl rfl fun a hf => ?_
      replace hf := castI (u := .bool (!(r_5.1.Lo == r_10.Lo && r_5.1.Hi == r_10.Hi))) hb hf
      refine cNil ?_
      refine xThenN ?_
      intro ds u hau
      refine ⟨θ, he.put0 hi hau hf rfl 42 rfl rfl, ?_⟩
      exact hc
    · have hf := he.h0
      replace hf := hf.more he 39 rfl (onP e29)
      replace hf := castB hb hf
      replace hf := hf.more he 40 rfl (onP e30)
      replace hf := castCF hb hf
      replace hf := hf.more he 41 rfl (onP e31)
      replace hf := castCF hb hf
      refine stP hf rfl rfl rfl (pNeA ge_30 rfl rfl (eqs_30 _ _ _ _)) fun a hf => ?_
      replace hf := castJ (u := undef) hb hf
      refine cNil ?_
      refine xThenN ?_
      intro ds u hau
      refine ⟨θ, he.put0 hi hau hf rfl 42 rfl rfl, ?_⟩
      exact hc
  · intro E θ a w hD hi hp he hc
    have e29 := hp.of (k := 29) rfl
    have e32 := hp.of (k := 32) rfl
    rcases boolEq ((((((r_1.2 != 0) || (r_3.2 != 0)) || (r_5.2.2 != 0)) || (r_7.2.2 != 0)) || (!r_8)) || (!(r_3.1.Lo == r_9.Lo && r_3.1.Hi == r_9.Hi))) with hb | hb
    · have hf := he.h0
      replace hf := hf.more he 39 rfl (onP e29)
      replace hf := castB hb hf
      replace hf := hf.more he 42 rfl (onP e32)
      replace hf := castCT hb hf
      refine stP hf rfl rfl rfl (pPt rfl rfl) fun a hf => ?_
      replace hf := castV (v' := .bool (((((((r_1.2 != 0) || (r_3.2 != 0)) || (r_5.2.2 != 0)) || (r_7.2.2 != 0)) || (!r_8)) || (!(r_3.1.Lo == r_9.Lo && r_3.1.Hi == r_9.Hi))) || (!(r_5.1.Lo == r_10.Lo && r_5.1.Hi == r_10.Hi)))) (congrArg Value.bool (orT hb)) hf
      refine cNil ?_
      refine xThenN ?_
      intro ds u hau
      refine ⟨θ, he.put0 hi hau hf rfl 43 rfl rfl, ?_⟩
      exact hc
    · have hf := he.h0
      replace hf := hf.more he 39 rfl (onP e29)
      replace hf := castB hb hf
      replace hf := hf.more he 42 rfl (onP e32)
      replace hf := castCF hb hf
      refine stP hf rfl rfl rfl (pPf rfl rfl) fun a hf => ?_
      replace hf := castV (v' := .bool (((((((r_1.2 != 0) || (r_3.2 != 0)) || (r_5.2.2 != 0)) || (r_7.2.2 != 0)) || (!r_8)) || (!(r_3.1.Lo == r_9.Lo && r_3.1.Hi == r_9.Hi))) || (!(r_5.1.Lo == r_10.Lo && r_5.1.Hi == r_10.Hi)))) (congrArg Value.bool (orF hb)) hf
      refine cNil ?_
      refine xThenN ?_
      intro ds u hau
      refine ⟨θ, he.put0 hi hau hf rfl 43 rfl rfl, ?_⟩
      exact hc
  · intro E θ a w hD hi hp he hc
    have e33 := hp.of (k := 33) rfl
    have hf := he.h0
    replace hf := hf.more he 43 rfl (onP e33)
    refine stP hf rfl rfl rfl (pM rfl) fun a hf => ?_
    refine cNil ?_
    refine xThenN ?_
    intro ds u hau
    refine ⟨θ, he.put0 hi hau hf rfl 44 rfl rfl, ?_⟩
    exact hc
  · intro E θ a w hD hi hp he hc
    have e34 := hp.of (k := 34) rfl
    rcases boolEq (((((((r_1.2 != 0) || (r_3.2 != 0)) || (r_5.2.2 != 0)) || (r_7.2.2 != 0)) || (!r_8)) || (!(r_3.1.Lo == r_9.Lo && r_3.1.Hi == r_9.Hi))) || (!(r_5.1.Lo == r_10.Lo && r_5.1.Hi == r_10.Hi))) with hb | hb
    · have hf := he.h0
      replace hf := hf.more he 5 rfl onT
      replace hf := hf.more he 44 rfl (onP e34)
      replace hf := castB hb hf
      refine stS hf rfl rfl rfl fun a hf => ?_
      replace hf := castI (u := .slice p_5 r_5.2.1.length c_5) hb hf
      refine cNil ?_
      refine xThenN ?_
      intro ds u hau
      refine ⟨θ, he.put0 hi hau hf rfl 45 rfl rfl, ?_⟩
      exact hc
    · have hf := he.h0
      replace hf := hf.more he 5 rfl onT
      replace hf := hf.more he 44 rfl (onP e34)
      replace hf := castB hb hf
      refine stP hf rfl rfl rfl (pM rfl) fun a hf => ?_
      replace hf := castJ (u := undef) hb hf
      refine cNil ?_
      refine xThenN ?_
      intro ds u hau
      refine ⟨θ, he.put0 hi hau hf rfl 45 rfl rfl, ?_⟩
      exact hc
  · intro E θ a w hD hi hp he hc
    have e34 := hp.of (k := 34) rfl
    try dsimp only at hc
    rw [hi] at hc
    rcases boolEq (((((((r_1.2 != 0) || (r_3.2 != 0)) || (r_5.2.2 != 0)) || (r_7.2.2 != 0)) || (!r_8)) || (!(r_3.1.Lo == r_9.Lo && r_3.1.Hi == r_9.Hi))) || (!(r_5.1.Lo == r_10.Lo && r_5.1.Hi == r_10.Hi))) with hb | hb
    · have hf := he.h0
      replace hf := hf.more he 44 rfl (onP e34)
      replace hf := castB hb hf
      refine stS hf rfl rfl rfl fun a hf => ?_
      replace hf := castI (u := .slice (some ⟨(θ 288).b, 0, none⟩) 1 1) hb hf
      refine cNil ?_
      refine xThenN ?_
      intro ds u hau
      refine ⟨θ, he.put0 hi hau hf rfl 46 rfl rfl, ?_⟩
      try dsimp only
      rw [updE_self E 36]
      rw [gE_F (notF hb)]
      exact hc
    · have hf := he.h0
      replace hf := hf.more he 44 rfl (onP e34)
      replace hf := castB hb hf
      refine stBS (rows := ([3] : List Int).map encI_i64) (vs := [(0, .int .i64 3)]) hf hc rfl rfl sl_39 rfl ⟨rfl, rfl, rfl, trivial⟩ rfl rfl fun b_4 a w hf hc => ?_
      replace hf := castJ (u := undef) hb hf
      refine cNil ?_
      refine xThenN ?_
      intro ds u hau
      replace hc := hc.drop k1
      refine ⟨(setT θ 288 ⟨b_4, none, 0⟩), he.put hi hau hf rfl [] trivial ⟨qq, qq, qq, qq, qq, qq, qq, qq, qq, qq, qq, qq, qq, qq, qq, qq, qq, qq, qq, qq, qq, qq, qq, qq, qq, qq, qq, qq, qq, qq, qq, qq, qq, qq, qq, qq, qq, qq, qq, qq, qq, qq, qq, qq, qq, qq, qq, qq, qq, qq, qq, qq, qq, qq, qq, qq, qq, qq, trivial⟩, ?_⟩
      try dsimp only
      rw [updE_self E 36]
      rw [gE_T (notT hb)]
      exact hc
  · intro E θ a w hD hi hp he hc
    have e34 := hp.of (k := 34) rfl
    have e35 := hp.of (k := 35) rfl
    have e36 := hp.of (k := 36) rfl
    try dsimp only at hc
    rw [e36] at hc
    rcases boolEq (((((((r_1.2 != 0) || (r_3.2 != 0)) || (r_5.2.2 != 0)) || (r_7.2.2 != 0)) || (!r_8)) || (!(r_3.1.Lo == r_9.Lo && r_3.1.Hi == r_9.Hi))) || (!(r_5.1.Lo == r_10.Lo && r_5.1.Hi == r_10.Hi))) with hb | hb
    · have hf := he.h0
      replace hf := hf.more he 44 rfl (onP e34)
      replace hf := castB hb hf
      replace hf := hf.more he 45 rfl (onP e35)
      replace hf := castCT hb hf
      replace hf := hf.more he 46 rfl (onP e36)
      replace hf := castCT hb hf
      rw [gE_F (notF hb)] at hc
      refine stS hf rfl rfl rfl fun a hf => ?_
      replace hf := castI (u := .bool r_11) hb hf
      refine cNil ?_
      refine xThenN ?_
      intro ds u hau
      refine ⟨θ, he.put0 hi hau hf rfl 47 rfl rfl, ?_⟩
      try dsimp only
      rw [updE_tru 37 e36]
      rw [gE_F (notF hb)]
      exact hc
    · have hf := he.h0
      replace hf := hf.more he 44 rfl (onP e34)
      replace hf := castB hb hf
      replace hf := hf.more he 45 rfl (onP e35)
      replace hf := castCF hb hf
      replace hf := hf.more he 46 rfl (onP e36)
      replace hf := castCF hb hf
      rw [gE_T (notT hb)] at hc
      refine stE hf hc rfl rfl rfl (eC (v := .bool r_11) (vs := [.slice p_5 r_5.2.1.length c_5, .slice (some ⟨(θ 288).b, 0, none⟩) 1 1]) (caps := []) en_20 rfl rfl rfl rfl (fun w hc => by obtain ⟨G1, hle1, hrd1, hc, hth1⟩ := lend hc k5; obtain ⟨G2, hle2, hrd2, hc, hth2⟩ := lend hc k0; exact (kit_Same_int_ok r_5.2.1 ([3] : List Int) (hrd1.mono hle2) hrd2 hc (condT (notT hb) hr_11)).mono fun e w h => ⟨h.1, ((hth1 _ _ ((hth2 _ _ h.2).unpick k0)).unpick k5)⟩)) fun a w hf hc => ?_
      replace hf := castJ (u := undef) hb hf
      refine cNil ?_
      refine xThenN ?_
      intro ds u hau
      refine ⟨θ, he.put0 hi hau hf rfl 47 rfl rfl, ?_⟩
      try dsimp only
      rw [updE_tru 37 e36]
      rw [gE_T (notT hb)]
      exact hc
  · intro E θ a w hD hi hp he hc
    have e34 := hp.of (k := 34) rfl
    have e37 := hp.of (k := 37) rfl
    rcases boolEq (((((((r_1.2 != 0) || (r_3.2 != 0)) || (r_5.2.2 != 0)) || (r_7.2.2 != 0)) || (!r_8)) || (!(r_3.1.Lo == r_9.Lo && r_3.1.Hi == r_9.Hi))) || (!(r_5.1.Lo == r_10.Lo && r_5.1.Hi == r_10.Hi))) with hb | hb
    · have hf := he.h0
      replace hf := hf.more he 44 rfl (onP e34)
      replace hf := castB hb hf
      replace hf := hf.more he 47 rfl (onP e37)
      replace hf := castCT hb hf
      refine stS hf rfl rfl rfl fun a hf => ?_
      replace hf := castI (u := .bool (!r_11)) hb hf
      refine cNil ?_
      refine xThenN ?_
      intro ds u hau
      refine ⟨θ, he.put0 hi hau hf rfl 48 rfl rfl, ?_⟩
      exact hc
    · have hf := he.h0
      replace hf := hf.more he 44 rfl (onP e34)
      replace hf := castB hb hf
      replace hf := hf.more he 47 rfl (onP e37)
      replace hf := castCF hb hf
      refine stP hf rfl rfl rfl (pNot rfl) fun a hf => ?_
      replace hf := castJ (u := undef) hb hf
      refine cNil ?_
      refine xThenN ?_
      intro ds u hau
      refine ⟨θ, he.put0 hi hau hf rfl 48 rfl rfl, ?_⟩
      exact hc
  · intro E θ a w hD hi hp he hc
    have e34 := hp.of (k := 34) rfl
    have e38 := hp.of (k := 38) rfl
    rcases boolEq (((((((r_1.2 != 0) || (r_3.2 != 0)) || (r_5.2.2 != 0)) || (r_7.2.2 != 0)) || (!r_8)) || (!(r_3.1.Lo == r_9.Lo && r_3.1.Hi == r_9.Hi))) || (!(r_5.1.Lo == r_10.Lo && r_5.1.Hi == r_10.Hi))) with hb | hb
    · have hf := he.h0
      replace hf := hf.more he 44 rfl (onP e34)
      replace hf := castB hb hf
      replace hf := hf.more he 48 rfl (onP e38)
      replace hf := castCT hb hf
      refine stP hf rfl rfl rfl (pPt rfl rfl) fun a hf => ?_
      replace hf := castV (v' := .bool ((((((((r_1.2 != 0) || (r_3.2 != 0)) || (r_5.2.2 != 0)) || (r_7.2.2 != 0)) || (!r_8)) || (!(r_3.1.Lo == r_9.Lo && r_3.1.Hi == r_9.Hi))) || (!(r_5.1.Lo == r_10.Lo && r_5.1.Hi == r_10.Hi))) || (!r_11))) (congrArg Value.bool (orT hb)) hf
      refine cNil ?_
      refine xThenN ?_
      intro ds u hau
      refine ⟨θ, he.put0 hi hau hf rfl 49 rfl rfl, ?_⟩
      exact hc
    · have hf := he.h0
      replace hf := hf.more he 44 rfl (onP e34)
      replace hf := castB hb hf
      replace hf := hf.more he 48 rfl (onP e38)
      replace hf := castCF hb hf
      refine stP hf rfl rfl rfl (pPf rfl rfl) fun a hf => ?_
      replace hf := castV (v' := .bool ((((((((r_1.2 != 0) || (r_3.2 != 0)) || (r_5.2.2 != 0)) || (r_7.2.2 != 0)) || (!r_8)) || (!(r_3.1.Lo == r_9.Lo && r_3.1.Hi == r_9.Hi))) || (!(r_5.1.Lo == r_10.Lo && r_5.1.Hi == r_10.Hi))) || (!r_11))) (congrArg Value.bool (orF hb)) hf
      refine cNil ?_
      refine xThenN ?_
      intro ds u hau
      refine ⟨θ, he.put0 hi hau hf rfl 49 rfl rfl, ?_⟩
      exact hc
  · intro E θ a w hD hi hp he hc
    have e39 := hp.of (k := 39) rfl
    have hf := he.h0
    replace hf := hf.more he 49 rfl (onP e39)
    refine stP hf rfl rfl rfl (pM rfl) fun a hf => ?_
    refine cNil ?_
    refine xThenN ?_
    intro ds u hau
    refine ⟨θ, he.put0 hi hau hf rfl 50 rfl rfl, ?_⟩
    exact hc
  · intro E θ a w hD hi hp he hc
    have e40 := hp.of (k := 40) rfl
    rcases boolEq ((((((((r_1.2 != 0) || (r_3.2 != 0)) || (r_5.2.2 != 0)) || (r_7.2.2 != 0)) || (!r_8)) || (!(r_3.1.Lo == r_9.Lo && r_3.1.Hi == r_9.Hi))) || (!(r_5.1.Lo == r_10.Lo && r_5.1.Hi == r_10.Hi))) || (!r_11)) with hb | hb
    · have hf := he.h0
      replace hf := hf.more he 7 rfl onT
      replace hf := hf.more he 50 rfl (onP e40)
      replace hf := castB hb hf
      refine stS hf rfl rfl rfl fun a hf => ?_
      replace hf := castI (u := .int .i64 r_7.1) hb hf
      refine cNil ?_
      refine xThenN ?_
      intro ds u hau
      refine ⟨θ, he.put0 hi hau hf rfl 51 rfl rfl, ?_⟩
      exact hc
    · have hf := he.h0
      replace hf := hf.more he 7 rfl onT
      replace hf := hf.more he 50 rfl (onP e40)
      replace hf := castB hb hf
      refine stP hf rfl rfl rfl (pM rfl) fun a hf => ?_
      replace hf := castJ (u := undef) hb hf
      refine cNil ?_
      refine xThenN ?_
      intro ds u hau
      refine ⟨θ, he.put0 hi hau hf rfl 51 rfl rfl, ?_⟩
      exact hc
  · intro E θ a w hD hi hp he hc
    have e40 := hp.of (k := 40) rfl
    have e41 := hp.of (k := 41) rfl
    rcases boolEq ((((((((r_1.2 != 0) || (r_3.2 != 0)) || (r_5.2.2 != 0)) || (r_7.2.2 != 0)) || (!r_8)) || (!(r_3.1.Lo == r_9.Lo && r_3.1.Hi == r_9.Hi))) || (!(r_5.1.Lo == r_10.Lo && r_5.1.Hi == r_10.Hi))) || (!r_11)) with hb | hb
    · have hf := he.h0
      replace hf := hf.more he 50 rfl (onP e40)
      replace hf := castB hb hf
      replace hf := hf.more he 51 rfl (onP e41)
      replace hf := castCT hb hf
      refine stS hf rfl rfl rfl fun a hf => ?_
      replace hf := castI (u := .bool (r_7.1 != 0)) hb hf
      refine cNil ?_
      refine xThenN ?_
      intro ds u hau
      refine ⟨θ, he.put0 hi hau hf rfl 52 rfl rfl, ?_⟩
      exact hc
    · have hf := he.h0
      replace hf := hf.more he 50 rfl (onP e40)
      replace hf := castB hb hf
      replace hf := hf.more he 51 rfl (onP e41)
      replace hf := castCF hb hf
      refine stP hf rfl rfl rfl (pNe rfl rfl) fun a hf => ?_
      replace hf := castJ (u := undef) hb hf
      refine cNil ?_
      refine xThenN ?_
      intro ds u hau
      refine ⟨θ, he.put0 hi hau hf rfl 52 rfl rfl, ?_⟩
      exact hc
  · intro E θ a w hD hi hp he hc
    have e40 := hp.of (k := 40) rfl
    have e42 := hp.of (k := 42) rfl
    rcases boolEq ((((((((r_1.2 != 0) || (r_3.2 != 0)) || (r_5.2.2 != 0)) || (r_7.2.2 != 0)) || (!r_8)) || (!(r_3.1.Lo == r_9.Lo && r_3.1.Hi == r_9.Hi))) || (!(r_5.1.Lo == r_10.Lo && r_5.1.Hi == r_10.Hi))) || (!r_11)) with hb | hb
    · have hf := he.h0
      replace hf := hf.more he 50 rfl (onP e40)
      replace hf := castB hb hf
      replace hf := hf.more he 52 rfl (onP e42)
      replace hf := castCT hb hf
      refine stP hf rfl rfl rfl (pPt rfl rfl) fun a hf => ?_
      replace hf := castV (v' := .bool (((((((((r_1.2 != 0) || (r_3.2 != 0)) || (r_5.2.2 != 0)) || (r_7.2.2 != 0)) || (!r_8)) || (!(r_3.1.Lo == r_9.Lo && r_3.1.Hi == r_9.Hi))) || (!(r_5.1.Lo == r_10.Lo && r_5.1.Hi == r_10.Hi))) || (!r_11)) || (r_7.1 != 0))) (congrArg Value.bool (orT hb)) hf
      refine cNil ?_
      refine xThenN ?_
      intro ds u hau
      refine ⟨θ, he.put0 hi hau hf rfl 53 rfl rfl, ?_⟩
      exact hc
    · have hf := he.h0
      replace hf := hf.more he 50 rfl (onP e40)
      replace hf := castB hb hf
      replace hf := hf.more he 52 rfl (onP e42)
      replace hf := castCF hb hf
      refine stP hf rfl rfl rfl (pPf rfl rfl) fun a hf => ?_
      replace hf := castV (v' := .bool (((((((((r_1.2 != 0) || (r_3.2 != 0)) || (r_5.2.2 != 0)) || (r_7.2.2 != 0)) || (!r_8)) || (!(r_3.1.Lo == r_9.Lo && r_3.1.Hi == r_9.Hi))) || (!(r_5.1.Lo == r_10.Lo && r_5.1.Hi == r_10.Hi))) || (!r_11)) || (r_7.1 != 0))) (congrArg Value.bool (orF hb)) hf
      refine cNil ?_
      refine xThenN ?_
      intro ds u hau
      refine ⟨θ, he.put0 hi hau hf rfl 53 rfl rfl, ?_⟩
      exact hc
  · intro E θ a w hD hi hp he hc
    have e43 := hp.of (k := 43) rfl
    have hf := he.h0
    replace hf := hf.more he 53 rfl (onP e43)
    refine stP hf rfl rfl rfl (pM rfl) fun a hf => ?_
    refine cNil ?_
    refine xThenN ?_
    intro ds u hau
    refine ⟨θ, he.put0 hi hau hf rfl 54 rfl rfl, ?_⟩
    exact hc
  · intro E θ a w hD hi hp he hc
    have e44 := hp.of (k := 44) rfl
    rcases boolEq (((((((((r_1.2 != 0) || (r_3.2 != 0)) || (r_5.2.2 != 0)) || (r_7.2.2 != 0)) || (!r_8)) || (!(r_3.1.Lo == r_9.Lo && r_3.1.Hi == r_9.Hi))) || (!(r_5.1.Lo == r_10.Lo && r_5.1.Hi == r_10.Hi))) || (!r_11)) || (r_7.1 != 0)) with hb | hb
    · have hf := he.h0
      replace hf := hf.more he 8 rfl onT
      replace hf := hf.more he 54 rfl (onP e44)
      replace hf := castB hb hf
      refine stS hf rfl rfl rfl fun a hf => ?_
      replace hf := castI (u := .int .i64 r_7.2.1) hb hf
      refine cNil ?_
      refine xThenN ?_
      intro ds u hau
      refine ⟨θ, he.put0 hi hau hf rfl 55 rfl rfl, ?_⟩
      exact hc
    · have hf := he.h0
      replace hf := hf.more he 8 rfl onT
      replace hf := hf.more he 54 rfl (onP e44)
      replace hf := castB hb hf
      refine stP hf rfl rfl rfl (pM rfl) fun a hf => ?_
      replace hf := castJ (u := undef) hb hf
      refine cNil ?_
      refine xThenN ?_
      intro ds u hau
      refine ⟨θ, he.put0 hi hau hf rfl 55 rfl rfl, ?_⟩
      exact hc
  · intro E θ a w hD hi hp he hc
    have e44 := hp.of (k := 44) rfl
    have e45 := hp.of (k := 45) rfl
    rcases boolEq (((((((((r_1.2 != 0) || (r_3.2 != 0)) || (r_5.2.2 != 0)) || (r_7.2.2 != 0)) || (!r_8)) || (!(r_3.1.Lo == r_9.Lo && r_3.1.Hi == r_9.Hi))) || (!(r_5.1.Lo == r_10.Lo && r_5.1.Hi == r_10.Hi))) || (!r_11)) || (r_7.1 != 0)) with hb | hb
    · have hf := he.h0
      replace hf := hf.more he 54 rfl (onP e44)
      replace hf := castB hb hf
      replace hf := hf.more he 55 rfl (onP e45)
      replace hf := castCT hb hf
      refine stS hf rfl rfl rfl fun a hf => ?_
      replace hf := castI (u := .bool (r_7.2.1 != 3)) hb hf
      refine cNil ?_
      refine xThenN ?_
      intro ds u hau
      refine ⟨θ, he.put0 hi hau hf rfl 56 rfl rfl, ?_⟩
      exact hc
    · have hf := he.h0
      replace hf := hf.more he 54 rfl (onP e44)
      replace hf := castB hb hf
      replace hf := hf.more he 55 rfl (onP e45)
      replace hf := castCF hb hf
      refine stP hf rfl rfl rfl (pNe rfl rfl) fun a hf => ?_
      replace hf := castJ (u := undef) hb hf
      refine cNil ?_
      refine xThenN ?_
      intro ds u hau
      refine ⟨θ, he.put0 hi hau hf rfl 56 rfl rfl, ?_⟩
      exact hc
  · intro E θ a w hD hi hp he hc
    have e44 := hp.of (k := 44) rfl
    have e46 := hp.of (k := 46) rfl
    rcases boolEq (((((((((r_1.2 != 0) || (r_3.2 != 0)) || (r_5.2.2 != 0)) || (r_7.2.2 != 0)) || (!r_8)) || (!(r_3.1.Lo == r_9.Lo && r_3.1.Hi == r_9.Hi))) || (!(r_5.1.Lo == r_10.Lo && r_5.1.Hi == r_10.Hi))) || (!r_11)) || (r_7.1 != 0)) with hb | hb
    · have hf := he.h0
      replace hf := hf.more he 54 rfl (onP e44)
      replace hf := castB hb hf
      replace hf := hf.more he 56 rfl (onP e46)
      replace hf := castCT hb hf
      refine stP hf rfl rfl rfl (pPt rfl rfl) fun a hf => ?_
      replace hf := castV (v' := .bool ((((((((((r_1.2 != 0) || (r_3.2 != 0)) || (r_5.2.2 != 0)) || (r_7.2.2 != 0)) || (!r_8)) || (!(r_3.1.Lo == r_9.Lo && r_3.1.Hi == r_9.Hi))) || (!(r_5.1.Lo == r_10.Lo && r_5.1.Hi == r_10.Hi))) || (!r_11)) || (r_7.1 != 0)) || (r_7.2.1 != 3))) (congrArg Value.bool (orT hb)) hf
      refine cNil ?_
      refine xThenN ?_
      intro ds u hau
      refine ⟨θ, he.put0 hi hau hf rfl 57 rfl rfl, ?_⟩
      exact hc
    · have hf := he.h0
      replace hf := hf.more he 54 rfl (onP e44)
      replace hf := castB hb hf
      replace hf := hf.more he 56 rfl (onP e46)
      replace hf := castCF hb hf
      refine stP hf rfl rfl rfl (pPf rfl rfl) fun a hf => ?_
      replace hf := castV (v' := .bool ((((((((((r_1.2 != 0) || (r_3.2 != 0)) || (r_5.2.2 != 0)) || (r_7.2.2 != 0)) || (!r_8)) || (!(r_3.1.Lo == r_9.Lo && r_3.1.Hi == r_9.Hi))) || (!(r_5.1.Lo == r_10.Lo && r_5.1.Hi == r_10.Hi))) || (!r_11)) || (r_7.1 != 0)) || (r_7.2.1 != 3))) (congrArg Value.bool (orF hb)) hf
      refine cNil ?_
      refine xThenN ?_
      intro ds u hau
      refine ⟨θ, he.put0 hi hau hf rfl 57 rfl rfl, ?_⟩
      exact hc
  · intro E θ a w hall he hc
    have hf := he.h0
    have e20 := hall 20 rfl
    have e36 := hall 36 rfl
    have e47 := hall 47 rfl
    replace hf := hf.more he 57 rfl (onP e47)
    try dsimp only at hc
    rw [e20, e36] at hc
    replace hc := hc.drop k1
    replace hc := hc.drop k0
    exact ⟨hf.keep ⟨rfl, trivial⟩, hc⟩
  rintro a w ⟨hf, hc⟩
  refine h7 _ _ ?_
  refine cCond (b := ((((((((((r_1.2 != 0) || (r_3.2 != 0)) || (r_5.2.2 != 0)) || (r_7.2.2 != 0)) || (!r_8)) || (!(r_3.1.Lo == r_9.Lo && r_3.1.Hi == r_9.Hi))) || (!(r_5.1.Lo == r_10.Lo && r_5.1.Hi == r_10.Hi))) || (!r_11)) || (r_7.1 != 0)) || (r_7.2.1 != 3))) hf rfl (fun hb => ?_) (fun hb => ?_)
  · replace hF := condT hb hF
    clear hb
    refine wp_seq_k fun K8 h8 => ?_
    refine cReg ?_
    refine stP hf rfl rfl rfl (pA rfl) fun a hf => ?_
    refine cNil ?_
    refine h8 _ _ ?_
    refine wp_ret ?_
    refine xThenR ?_
    obtain rfl := Option.some.inj hF
    replace hc := hc.drop k7
    replace hc := hc.drop k6
    replace hc := hc.drop k5
    replace hc := hc.drop k4
    replace hc := hc.drop k3
    replace hc := hc.drop k2
    replace hc := hc.drop k1
    replace hc := hc.drop k0
    exact fnOut1 (by simp) rfl Try.results12 hf hc (show look _ 0 = _ from rfl) ⟨rfl, hc⟩
  · replace hF := condF hb hF
    clear hb
    refine wp_skip ?_
    refine h6 _ _ ?_
    refine wp_seq_k fun K9 h9 => ?_
    refine cReg ?_
    obtain ⟨r_12, hr_12, hF⟩ := bnd_some hF
    refine stC (vs := [.int .i64 58]) (caps := []) hf rfl rfl rfl en_58 rfl rfl rfl rfl (law07_Four_ok 58 hc hr_12) ?_
    rintro _ w ⟨p_7, c_7, rfl, hc⟩
    refine ⟨_, rfl, fun a hf => ?_⟩
    refine stP hf rfl rfl rfl (pBuildS (cells := [.int .i64 20, .int .i64 35]) bt_30 rfl rfl) fun a hf => ?_
    refine stP hf rfl rfl rfl (pBuildS (cells := [.int .i64 30, .int .i64 40]) bt_30 rfl rfl) fun a hf => ?_
    refine stP hf rfl rfl rfl (pBuildS (cells := [.int .i64 49, .int .i64 60]) bt_30 rfl rfl) fun a hf => ?_
    refine stP hf rfl rfl rfl (pBuildS (cells := [.int .i64 50, .int .i64 60]) bt_30 rfl rfl) fun a hf => ?_
    refine stBS (rows := ([(⟨20, 35⟩ : api_Span), (⟨30, 40⟩ : api_Span), (⟨49, 60⟩ : api_Span), (⟨50, 60⟩ : api_Span)] : List api_Span).map enc_api_Span) (vs := [(0, .agg #[.int .i64 20, .int .i64 35]), (1, .agg #[.int .i64 30, .int .i64 40]), (2, .agg #[.int .i64 49, .int .i64 60]), (3, .agg #[.int .i64 50, .int .i64 60])]) hf hc rfl rfl sl_25 rfl ⟨rfl, rfl, rfl, rfl, rfl, rfl, rfl, rfl, rfl, rfl, rfl, rfl, trivial⟩ rfl rfl fun b_5 a w hf hc => ?_
    obtain ⟨r_13, hr_13, hF⟩ := bnd_some hF
    obtain ⟨G1, hle1, hrd1, hc, hth1⟩ := lend hc k1
    obtain ⟨G2, hle2, hrd2, hc, hth2⟩ := lend hc k0
    refine stC (vs := [.agg #[.int .i64 r_12.Rise, .int .i64 r_12.Fall, .slice p_7 r_12.Days.length c_7], .slice (some ⟨b_5, 0, none⟩) 4 4]) (caps := []) hf rfl rfl rfl en_21 rfl rfl rfl rfl (daily_Again_ok r_12 ([(⟨20, 35⟩ : api_Span), (⟨30, 40⟩ : api_Span), (⟨49, 60⟩ : api_Span), (⟨50, 60⟩ : api_Span)] : List api_Span) (hrd1.mono hle2) hrd2 hc hr_13) ?_
    rintro _ w ⟨p_8, c_8, rfl, hc⟩
    refine ⟨_, rfl, fun a hf => ?_⟩
    replace hc := hth2 _ _ hc
    replace hc := hth1 _ _ hc
    refine stP hf rfl rfl rfl (pM rfl) fun a hf => ?_
    refine stP hf rfl rfl rfl (pX rfl rfl) fun a hf => ?_
    refine stP hf rfl rfl rfl (pX rfl rfl) fun a hf => ?_
    refine stP hf rfl rfl rfl (pA rfl) fun a hf => ?_
    refine stP hf rfl rfl rfl (pA rfl) fun a hf => ?_
    refine cNil ?_
    refine h9 _ _ ?_
    refine wp_seq_k fun K10 h10 => ?_
    refine cReg ?_
    refine stBS (rows := ([10, 14, 12, 20] : List Int).map encI_i64) (vs := [(0, .int .i64 10), (1, .int .i64 14), (2, .int .i64 12), (3, .int .i64 20)]) hf hc rfl rfl sl_39 rfl ⟨rfl, rfl, rfl, rfl, rfl, rfl, rfl, rfl, rfl, rfl, rfl, rfl, trivial⟩ rfl rfl fun b_6 a w hf hc => ?_
    obtain ⟨r_14, hr_14, hF⟩ := bnd_some hF
    obtain ⟨G1, hle1, hrd1, hc, hth1⟩ := lend hc k0
    refine stC (vs := [.slice (some ⟨b_6, 0, none⟩) 4 4]) (caps := []) hf rfl rfl rfl en_59 rfl rfl rfl rfl (law07_Counter_ok ([10, 14, 12, 20] : List Int) hrd1 hc hr_14) ?_
    rintro _ w ⟨p_9, c_9, rfl, hc⟩
    refine ⟨_, rfl, fun a hf => ?_⟩
    replace hc := hth1 _ _ hc
    obtain ⟨r_15, hr_15, hF⟩ := bnd_some hF
    obtain ⟨G1, hle1, hrd1, hc, hth1⟩ := lend hc k1
    refine stC (vs := [.slice p_9 r_14.length c_9]) (caps := []) hf rfl rfl rfl en_51 rfl rfl rfl rfl (daily_Correct_ok r_14 hrd1 hc hr_15) ?_
    rintro _ w ⟨p_10, c_10, rfl, hc⟩
    refine ⟨_, rfl, fun a hf => ?_⟩
    replace hc := hth1 _ _ hc
    refine stP hf rfl rfl rfl (pM rfl) fun a hf => ?_
    refine stP hf rfl rfl rfl (pX rfl rfl) fun a hf => ?_
    refine stP hf rfl rfl rfl (pX rfl rfl) fun a hf => ?_
    refine stP hf rfl rfl rfl (pX rfl rfl) fun a hf => ?_
    refine stP hf rfl rfl rfl (pA rfl) fun a hf => ?_
    refine stP hf rfl rfl rfl (pA rfl) fun a hf => ?_
    refine stP hf rfl rfl rfl (pA rfl) fun a hf => ?_
    refine cNil ?_
    refine h10 _ _ ?_
    refine wp_seq_k fun K11 h11 => ?_
    refine cReg ?_
    refine stBS (rows := ([9, 5, 7, 3] : List Int).map encI_i64) (vs := [(0, .int .i64 9), (1, .int .i64 5), (2, .int .i64 7), (3, .int .i64 3)]) hf hc rfl rfl sl_39 rfl ⟨rfl, rfl, rfl, rfl, rfl, rfl, rfl, rfl, rfl, rfl, rfl, rfl, trivial⟩ rfl rfl fun b_7 a w hf hc => ?_
    obtain ⟨r_16, hr_16, hF⟩ := bnd_some hF
    obtain ⟨G1, hle1, hrd1, hc, hth1⟩ := lend hc k0
    refine stC (vs := [.slice (some ⟨b_7, 0, none⟩) 4 4]) (caps := []) hf rfl rfl rfl en_59 rfl rfl rfl rfl (law07_Counter_ok ([9, 5, 7, 3] : List Int) hrd1 hc hr_16) ?_
    rintro _ w ⟨p_11, c_11, rfl, hc⟩
    refine ⟨_, rfl, fun a hf => ?_⟩
    replace hc := hth1 _ _ hc
    refine stP hf rfl rfl rfl (pBuildS (cells := [.int .i64 0, .int .i64 1, .int .i64 1]) bt_111 rfl rfl) fun a hf => ?_
    refine stP hf rfl rfl rfl (pBuildS (cells := [.int .i64 2, .int .i64 3, .int .i64 1]) bt_111 rfl rfl) fun a hf => ?_
    refine stBS (rows := ([(⟨0, 1, 1⟩ : daily_Fall), (⟨2, 3, 1⟩ : daily_Fall)] : List daily_Fall).map enc_daily_Fall) (vs := [(0, .agg #[.int .i64 0, .int .i64 1, .int .i64 1]), (1, .agg #[.int .i64 2, .int .i64 3, .int .i64 1])]) hf hc rfl rfl sl_103 rfl ⟨rfl, rfl, rfl, rfl, rfl, rfl, trivial⟩ rfl rfl fun b_8 a w hf hc => ?_
    obtain ⟨r_17, hr_17, hF⟩ := bnd_some hF
    refine stE hf hc rfl rfl rfl (eC (v := .tuple #[.int .i64 r_17.1, .int .i64 r_17.2]) (vs := [.slice p_11 r_16.length c_11, .slice (some ⟨b_8, 0, none⟩) 2 2]) (caps := []) en_54 rfl rfl rfl rfl (fun w hc => by obtain ⟨G1, hle1, hrd1, hc, hth1⟩ := lend hc k2; obtain ⟨G2, hle2, hrd2, hc, hth2⟩ := lend hc k0; exact (daily_Proves_ok r_16 ([(⟨0, 1, 1⟩ : daily_Fall), (⟨2, 3, 1⟩ : daily_Fall)] : List daily_Fall) (hrd1.mono hle2) hrd2 hc hr_17).mono fun e w h => ⟨h.1, ((hth1 _ _ ((hth2 _ _ h.2).unpick k0)).unpick k2)⟩)) fun a w hf hc => ?_
    refine stP hf rfl rfl rfl (pM rfl) fun a hf => ?_
    refine stP hf rfl rfl rfl (pX rfl rfl) fun a hf => ?_
    refine stP hf rfl rfl rfl (pX rfl rfl) fun a hf => ?_
    refine stP hf rfl rfl rfl (pA rfl) fun a hf => ?_
    refine stP hf rfl rfl rfl (pA rfl) fun a hf => ?_
    refine cNil ?_
    refine h11 _ _ ?_
    refine wp_seq_k fun K12 h12 => ?_
    refine cReg ?_
    refine stP hf rfl rfl rfl (pM rfl) fun a hf => ?_
    refine stP hf rfl rfl rfl (pEq rfl rfl) fun a hf => ?_
    refine stP hf rfl rfl rfl (pM rfl) fun a hf => ?_
    refine stCut 3 (fun a w => Has 139 a [(11, .slice p_8 r_13.1.length c_8), (2, .int .i64 r_13.2), (12, .slice p_10 r_15.1.length c_10), (13, .int .i64 r_15.2.1), (4, .int .i64 r_15.2.2), (14, .int .i64 r_17.1), (7, .int .i64 r_17.2), (111, .int .i64 r_13.2), (112, .bool (r_13.2 == 0)), (113, .bool (r_13.2 == 0)), (116, .bool ((r_13.2 == 0) && (r_15.2.2 == 0)))] ∧ Ctx G (.row (some ⟨b_8, 0, none⟩) 2 (([(⟨0, 1, 1⟩ : daily_Fall), (⟨2, 3, 1⟩ : daily_Fall)] : List daily_Fall).map enc_daily_Fall) 111 3 :: .row (some ⟨b_7, 0, none⟩) 4 (([9, 5, 7, 3] : List Int).map encI_i64) 3 1 :: .row p_11 c_11 (r_16.map enc_daily_Reading) 102 2 :: .row p_9 c_9 (r_14.map enc_daily_Reading) 102 2 :: .row p_10 c_10 (r_15.1.map encI_i64) 3 1 :: .row (some ⟨b_6, 0, none⟩) 4 (([10, 14, 12, 20] : List Int).map encI_i64) 3 1 :: .row p_7 c_7 (r_12.Days.map enc_daily_Value) 56 3 :: .row (some ⟨b_5, 0, none⟩) 4 (([(⟨20, 35⟩ : api_Span), (⟨30, 40⟩ : api_Span), (⟨49, 60⟩ : api_Span), (⟨50, 60⟩ : api_Span)] : List api_Span).map enc_api_Span) 30 2 :: .row p_8 c_8 (r_13.1.map encI_i64) 3 1 :: .row p_6 c_6 (r_6.Days.map enc_daily_Value) 56 3 :: .box b_2 [.int .i64 r_5.1.Lo, .int .i64 r_5.1.Hi] 30 :: .row p_4 c_4 (r_4.Days.map enc_daily_Value) 56 3 :: .row p_5 c_5 (r_5.2.1.map encI_i64) 3 1 :: .box b_1 [.int .i64 r_3.1.Lo, .int .i64 r_3.1.Hi] 30 :: .row p_3 c_3 (r_2.Days.map enc_daily_Value) 56 3 :: .row p_1 c_1 (r.Days.map enc_daily_Value) 56 3 :: .row p_2 c_2 (r_1.1.map enc_api_Span) 30 2 :: Lf) w) ?_ ?_
    · cases hb : (r_13.2 == 0)
      · rw [hb] at hf
        refine stS hf rfl rfl rfl fun a hf => ?_
        refine stS hf rfl rfl rfl fun a hf => ?_
        refine stP hf rfl rfl rfl (pPf rfl rfl) fun a hf => ?_
        exact cNil ⟨hf.keep ⟨rfl, rfl, rfl, rfl, rfl, rfl, rfl, rfl, rfl, rfl, rfl, trivial⟩, hc⟩
      · rw [hb] at hf
        refine stP hf rfl rfl rfl (pM rfl) fun a hf => ?_
        refine stP hf rfl rfl rfl (pEq rfl rfl) fun a hf => ?_
        refine stP hf rfl rfl rfl (pPt rfl rfl) fun a hf => ?_
        exact cNil ⟨hf.keep ⟨rfl, rfl, rfl, rfl, rfl, rfl, rfl, rfl, rfl, rfl, rfl, trivial⟩, hc⟩
    intro a w ⟨hf, hc⟩
    refine stP hf rfl rfl rfl (pM rfl) fun a hf => ?_
    refine stCut 3 (fun a w => Has 139 a [(11, .slice p_8 r_13.1.length c_8), (2, .int .i64 r_13.2), (12, .slice p_10 r_15.1.length c_10), (13, .int .i64 r_15.2.1), (4, .int .i64 r_15.2.2), (14, .int .i64 r_17.1), (7, .int .i64 r_17.2), (111, .int .i64 r_13.2), (112, .bool (r_13.2 == 0)), (113, .bool (r_13.2 == 0)), (116, .bool ((r_13.2 == 0) && (r_15.2.2 == 0))), (117, .bool ((r_13.2 == 0) && (r_15.2.2 == 0))), (120, .bool (((r_13.2 == 0) && (r_15.2.2 == 0)) && (r_17.2 == 0)))] ∧ Ctx G (.row (some ⟨b_8, 0, none⟩) 2 (([(⟨0, 1, 1⟩ : daily_Fall), (⟨2, 3, 1⟩ : daily_Fall)] : List daily_Fall).map enc_daily_Fall) 111 3 :: .row (some ⟨b_7, 0, none⟩) 4 (([9, 5, 7, 3] : List Int).map encI_i64) 3 1 :: .row p_11 c_11 (r_16.map enc_daily_Reading) 102 2 :: .row p_9 c_9 (r_14.map enc_daily_Reading) 102 2 :: .row p_10 c_10 (r_15.1.map encI_i64) 3 1 :: .row (some ⟨b_6, 0, none⟩) 4 (([10, 14, 12, 20] : List Int).map encI_i64) 3 1 :: .row p_7 c_7 (r_12.Days.map enc_daily_Value) 56 3 :: .row (some ⟨b_5, 0, none⟩) 4 (([(⟨20, 35⟩ : api_Span), (⟨30, 40⟩ : api_Span), (⟨49, 60⟩ : api_Span), (⟨50, 60⟩ : api_Span)] : List api_Span).map enc_api_Span) 30 2 :: .row p_8 c_8 (r_13.1.map encI_i64) 3 1 :: .row p_6 c_6 (r_6.Days.map enc_daily_Value) 56 3 :: .box b_2 [.int .i64 r_5.1.Lo, .int .i64 r_5.1.Hi] 30 :: .row p_4 c_4 (r_4.Days.map enc_daily_Value) 56 3 :: .row p_5 c_5 (r_5.2.1.map encI_i64) 3 1 :: .box b_1 [.int .i64 r_3.1.Lo, .int .i64 r_3.1.Hi] 30 :: .row p_3 c_3 (r_2.Days.map enc_daily_Value) 56 3 :: .row p_1 c_1 (r.Days.map enc_daily_Value) 56 3 :: .row p_2 c_2 (r_1.1.map enc_api_Span) 30 2 :: Lf) w) ?_ ?_
    · cases hb : ((r_13.2 == 0) && (r_15.2.2 == 0))
      · rw [hb] at hf
        refine stS hf rfl rfl rfl fun a hf => ?_
        refine stS hf rfl rfl rfl fun a hf => ?_
        refine stP hf rfl rfl rfl (pPf rfl rfl) fun a hf => ?_
        exact cNil ⟨hf.keep ⟨rfl, rfl, rfl, rfl, rfl, rfl, rfl, rfl, rfl, rfl, rfl, rfl, rfl, trivial⟩, hc⟩
      · rw [hb] at hf
        refine stP hf rfl rfl rfl (pM rfl) fun a hf => ?_
        refine stP hf rfl rfl rfl (pEq rfl rfl) fun a hf => ?_
        refine stP hf rfl rfl rfl (pPt rfl rfl) fun a hf => ?_
        exact cNil ⟨hf.keep ⟨rfl, rfl, rfl, rfl, rfl, rfl, rfl, rfl, rfl, rfl, rfl, rfl, rfl, trivial⟩, hc⟩
    intro a w ⟨hf, hc⟩
    refine stP hf rfl rfl rfl (pM rfl) fun a hf => ?_
    obtain ⟨t_1, ht_1, hF⟩ := bnd_some hF
    refine stCut 4 (fun a w => Has 139 a [(11, .slice p_8 r_13.1.length c_8), (2, .int .i64 r_13.2), (12, .slice p_10 r_15.1.length c_10), (13, .int .i64 r_15.2.1), (4, .int .i64 r_15.2.2), (14, .int .i64 r_17.1), (7, .int .i64 r_17.2), (111, .int .i64 r_13.2), (112, .bool (r_13.2 == 0)), (113, .bool (r_13.2 == 0)), (116, .bool ((r_13.2 == 0) && (r_15.2.2 == 0))), (117, .bool ((r_13.2 == 0) && (r_15.2.2 == 0))), (120, .bool (((r_13.2 == 0) && (r_15.2.2 == 0)) && (r_17.2 == 0))), (121, .bool (((r_13.2 == 0) && (r_15.2.2 == 0)) && (r_17.2 == 0))), (125, .bool t_1)] ∧ Ctx G (.row (some ⟨b_8, 0, none⟩) 2 (([(⟨0, 1, 1⟩ : daily_Fall), (⟨2, 3, 1⟩ : daily_Fall)] : List daily_Fall).map enc_daily_Fall) 111 3 :: .row (some ⟨b_7, 0, none⟩) 4 (([9, 5, 7, 3] : List Int).map encI_i64) 3 1 :: .row p_11 c_11 (r_16.map enc_daily_Reading) 102 2 :: .row p_9 c_9 (r_14.map enc_daily_Reading) 102 2 :: .row p_10 c_10 (r_15.1.map encI_i64) 3 1 :: .row (some ⟨b_6, 0, none⟩) 4 (([10, 14, 12, 20] : List Int).map encI_i64) 3 1 :: .row p_7 c_7 (r_12.Days.map enc_daily_Value) 56 3 :: .row (some ⟨b_5, 0, none⟩) 4 (([(⟨20, 35⟩ : api_Span), (⟨30, 40⟩ : api_Span), (⟨49, 60⟩ : api_Span), (⟨50, 60⟩ : api_Span)] : List api_Span).map enc_api_Span) 30 2 :: .row p_8 c_8 (r_13.1.map encI_i64) 3 1 :: .row p_6 c_6 (r_6.Days.map enc_daily_Value) 56 3 :: .box b_2 [.int .i64 r_5.1.Lo, .int .i64 r_5.1.Hi] 30 :: .row p_4 c_4 (r_4.Days.map enc_daily_Value) 56 3 :: .row p_5 c_5 (r_5.2.1.map encI_i64) 3 1 :: .box b_1 [.int .i64 r_3.1.Lo, .int .i64 r_3.1.Hi] 30 :: .row p_3 c_3 (r_2.Days.map enc_daily_Value) 56 3 :: .row p_1 c_1 (r.Days.map enc_daily_Value) 56 3 :: .row p_2 c_2 (r_1.1.map enc_api_Span) 30 2 :: Lf) w) ?_ ?_
    · cases hb : (((r_13.2 == 0) && (r_15.2.2 == 0)) && (r_17.2 == 0))
      · rw [hb] at hf
        have hF := condF hb ht_1
        obtain rfl := Option.some.inj hF
        refine stS hf rfl rfl rfl fun a hf => ?_
        refine stS hf rfl rfl rfl fun a hf => ?_
        refine stS hf rfl rfl rfl fun a hf => ?_
        refine stP hf rfl rfl rfl (pPf rfl rfl) fun a hf => ?_
        exact cNil ⟨hf.keep ⟨rfl, rfl, rfl, rfl, rfl, rfl, rfl, rfl, rfl, rfl, rfl, rfl, rfl, rfl, rfl, trivial⟩, hc⟩
      · rw [hb] at hf
        have hF := condT hb ht_1
        refine stP hf rfl rfl rfl (pM rfl) fun a hf => ?_
        refine stBS (rows := ([2] : List Int).map encI_i64) (vs := [(0, .int .i64 2)]) hf hc rfl rfl sl_39 rfl ⟨rfl, rfl, rfl, trivial⟩ rfl rfl fun b_9 a w hf hc => ?_
        obtain ⟨r_18, hr_18, hF⟩ := bnd_some hF
        refine stE hf hc rfl rfl rfl (eC (v := .bool r_18) (vs := [.slice p_8 r_13.1.length c_8, .slice (some ⟨b_9, 0, none⟩) 1 1]) (caps := []) en_20 rfl rfl rfl rfl (fun w hc => by obtain ⟨G1, hle1, hrd1, hc, hth1⟩ := lend hc k9; obtain ⟨G2, hle2, hrd2, hc, hth2⟩ := lend hc k0; exact (kit_Same_int_ok r_13.1 ([2] : List Int) (hrd1.mono hle2) hrd2 hc hr_18).mono fun e w h => ⟨h.1, ((hth1 _ _ ((hth2 _ _ h.2).unpick k0)).unpick k9)⟩)) fun a w hf hc => ?_
        refine stP hf rfl rfl rfl (pPt rfl rfl) fun a hf => ?_
        replace hc := hc.drop k0
        obtain rfl := Option.some.inj hF
        exact cNil ⟨hf.keep ⟨rfl, rfl, rfl, rfl, rfl, rfl, rfl, rfl, rfl, rfl, rfl, rfl, rfl, rfl, rfl, trivial⟩, hc⟩
    intro a w ⟨hf, hc⟩
    refine stP hf rfl rfl rfl (pM rfl) fun a hf => ?_
    obtain ⟨t_2, ht_2, hF⟩ := bnd_some hF
    refine stCut 4 (fun a w => Has 139 a [(11, .slice p_8 r_13.1.length c_8), (2, .int .i64 r_13.2), (12, .slice p_10 r_15.1.length c_10), (13, .int .i64 r_15.2.1), (4, .int .i64 r_15.2.2), (14, .int .i64 r_17.1), (7, .int .i64 r_17.2), (111, .int .i64 r_13.2), (112, .bool (r_13.2 == 0)), (113, .bool (r_13.2 == 0)), (116, .bool ((r_13.2 == 0) && (r_15.2.2 == 0))), (117, .bool ((r_13.2 == 0) && (r_15.2.2 == 0))), (120, .bool (((r_13.2 == 0) && (r_15.2.2 == 0)) && (r_17.2 == 0))), (121, .bool (((r_13.2 == 0) && (r_15.2.2 == 0)) && (r_17.2 == 0))), (125, .bool t_1), (126, .bool t_1), (130, .bool t_2)] ∧ Ctx G (.row (some ⟨b_8, 0, none⟩) 2 (([(⟨0, 1, 1⟩ : daily_Fall), (⟨2, 3, 1⟩ : daily_Fall)] : List daily_Fall).map enc_daily_Fall) 111 3 :: .row (some ⟨b_7, 0, none⟩) 4 (([9, 5, 7, 3] : List Int).map encI_i64) 3 1 :: .row p_11 c_11 (r_16.map enc_daily_Reading) 102 2 :: .row p_9 c_9 (r_14.map enc_daily_Reading) 102 2 :: .row p_10 c_10 (r_15.1.map encI_i64) 3 1 :: .row (some ⟨b_6, 0, none⟩) 4 (([10, 14, 12, 20] : List Int).map encI_i64) 3 1 :: .row p_7 c_7 (r_12.Days.map enc_daily_Value) 56 3 :: .row (some ⟨b_5, 0, none⟩) 4 (([(⟨20, 35⟩ : api_Span), (⟨30, 40⟩ : api_Span), (⟨49, 60⟩ : api_Span), (⟨50, 60⟩ : api_Span)] : List api_Span).map enc_api_Span) 30 2 :: .row p_8 c_8 (r_13.1.map encI_i64) 3 1 :: .row p_6 c_6 (r_6.Days.map enc_daily_Value) 56 3 :: .box b_2 [.int .i64 r_5.1.Lo, .int .i64 r_5.1.Hi] 30 :: .row p_4 c_4 (r_4.Days.map enc_daily_Value) 56 3 :: .row p_5 c_5 (r_5.2.1.map encI_i64) 3 1 :: .box b_1 [.int .i64 r_3.1.Lo, .int .i64 r_3.1.Hi] 30 :: .row p_3 c_3 (r_2.Days.map enc_daily_Value) 56 3 :: .row p_1 c_1 (r.Days.map enc_daily_Value) 56 3 :: .row p_2 c_2 (r_1.1.map enc_api_Span) 30 2 :: Lf) w) ?_ ?_
    · cases hb : t_1
      · rw [hb] at hf
        have hF := condF hb ht_2
        obtain rfl := Option.some.inj hF
        refine stS hf rfl rfl rfl fun a hf => ?_
        refine stS hf rfl rfl rfl fun a hf => ?_
        refine stS hf rfl rfl rfl fun a hf => ?_
        refine stP hf rfl rfl rfl (pPf rfl rfl) fun a hf => ?_
        exact cNil ⟨hf.keep ⟨rfl, rfl, rfl, rfl, rfl, rfl, rfl, rfl, rfl, rfl, rfl, rfl, rfl, rfl, rfl, rfl, rfl, trivial⟩, hc⟩
      · rw [hb] at hf
        have hF := condT hb ht_2
        refine stP hf rfl rfl rfl (pM rfl) fun a hf => ?_
        refine stBS (rows := ([10, 12, 12, 20] : List Int).map encI_i64) (vs := [(0, .int .i64 10), (1, .int .i64 12), (2, .int .i64 12), (3, .int .i64 20)]) hf hc rfl rfl sl_39 rfl ⟨rfl, rfl, rfl, rfl, rfl, rfl, rfl, rfl, rfl, rfl, rfl, rfl, trivial⟩ rfl rfl fun b_10 a w hf hc => ?_
        obtain ⟨r_19, hr_19, hF⟩ := bnd_some hF
        refine stE hf hc rfl rfl rfl (eC (v := .bool r_19) (vs := [.slice p_10 r_15.1.length c_10, .slice (some ⟨b_10, 0, none⟩) 4 4]) (caps := []) en_20 rfl rfl rfl rfl (fun w hc => by obtain ⟨G1, hle1, hrd1, hc, hth1⟩ := lend hc k5; obtain ⟨G2, hle2, hrd2, hc, hth2⟩ := lend hc k0; exact (kit_Same_int_ok r_15.1 ([10, 12, 12, 20] : List Int) (hrd1.mono hle2) hrd2 hc hr_19).mono fun e w h => ⟨h.1, ((hth1 _ _ ((hth2 _ _ h.2).unpick k0)).unpick k5)⟩)) fun a w hf hc => ?_
        refine stP hf rfl rfl rfl (pPt rfl rfl) fun a hf => ?_
        replace hc := hc.drop k0
        obtain rfl := Option.some.inj hF
        exact cNil ⟨hf.keep ⟨rfl, rfl, rfl, rfl, rfl, rfl, rfl, rfl, rfl, rfl, rfl, rfl, rfl, rfl, rfl, rfl, rfl, trivial⟩, hc⟩
    intro a w ⟨hf, hc⟩
    refine stP hf rfl rfl rfl (pM rfl) fun a hf => ?_
    refine stCut 3 (fun a w => Has 139 a [(11, .slice p_8 r_13.1.length c_8), (2, .int .i64 r_13.2), (12, .slice p_10 r_15.1.length c_10), (13, .int .i64 r_15.2.1), (4, .int .i64 r_15.2.2), (14, .int .i64 r_17.1), (7, .int .i64 r_17.2), (111, .int .i64 r_13.2), (112, .bool (r_13.2 == 0)), (113, .bool (r_13.2 == 0)), (116, .bool ((r_13.2 == 0) && (r_15.2.2 == 0))), (117, .bool ((r_13.2 == 0) && (r_15.2.2 == 0))), (120, .bool (((r_13.2 == 0) && (r_15.2.2 == 0)) && (r_17.2 == 0))), (121, .bool (((r_13.2 == 0) && (r_15.2.2 == 0)) && (r_17.2 == 0))), (125, .bool t_1), (126, .bool t_1), (130, .bool t_2), (131, .bool t_2), (134, .bool (t_2 && (r_15.2.1 == 2)))] ∧ Ctx G (.row (some ⟨b_8, 0, none⟩) 2 (([(⟨0, 1, 1⟩ : daily_Fall), (⟨2, 3, 1⟩ : daily_Fall)] : List daily_Fall).map enc_daily_Fall) 111 3 :: .row (some ⟨b_7, 0, none⟩) 4 (([9, 5, 7, 3] : List Int).map encI_i64) 3 1 :: .row p_11 c_11 (r_16.map enc_daily_Reading) 102 2 :: .row p_9 c_9 (r_14.map enc_daily_Reading) 102 2 :: .row p_10 c_10 (r_15.1.map encI_i64) 3 1 :: .row (some ⟨b_6, 0, none⟩) 4 (([10, 14, 12, 20] : List Int).map encI_i64) 3 1 :: .row p_7 c_7 (r_12.Days.map enc_daily_Value) 56 3 :: .row (some ⟨b_5, 0, none⟩) 4 (([(⟨20, 35⟩ : api_Span), (⟨30, 40⟩ : api_Span), (⟨49, 60⟩ : api_Span), (⟨50, 60⟩ : api_Span)] : List api_Span).map enc_api_Span) 30 2 :: .row p_8 c_8 (r_13.1.map encI_i64) 3 1 :: .row p_6 c_6 (r_6.Days.map enc_daily_Value) 56 3 :: .box b_2 [.int .i64 r_5.1.Lo, .int .i64 r_5.1.Hi] 30 :: .row p_4 c_4 (r_4.Days.map enc_daily_Value) 56 3 :: .row p_5 c_5 (r_5.2.1.map encI_i64) 3 1 :: .box b_1 [.int .i64 r_3.1.Lo, .int .i64 r_3.1.Hi] 30 :: .row p_3 c_3 (r_2.Days.map enc_daily_Value) 56 3 :: .row p_1 c_1 (r.Days.map enc_daily_Value) 56 3 :: .row p_2 c_2 (r_1.1.map enc_api_Span) 30 2 :: Lf) w) ?_ ?_
    · cases hb : t_2
      · rw [hb] at hf
        refine stS hf rfl rfl rfl fun a hf => ?_
        refine stS hf rfl rfl rfl fun a hf => ?_
        refine stP hf rfl rfl rfl (pPf rfl rfl) fun a hf => ?_
        exact cNil ⟨hf.keep ⟨rfl, rfl, rfl, rfl, rfl, rfl, rfl, rfl, rfl, rfl, rfl, rfl, rfl, rfl, rfl, rfl, rfl, rfl, rfl, trivial⟩, hc⟩
      · rw [hb] at hf
        refine stP hf rfl rfl rfl (pM rfl) fun a hf => ?_
        refine stP hf rfl rfl rfl (pEq rfl rfl) fun a hf => ?_
        refine stP hf rfl rfl rfl (pPt rfl rfl) fun a hf => ?_
        exact cNil ⟨hf.keep ⟨rfl, rfl, rfl, rfl, rfl, rfl, rfl, rfl, rfl, rfl, rfl, rfl, rfl, rfl, rfl, rfl, rfl, rfl, rfl, trivial⟩, hc⟩
    intro a w ⟨hf, hc⟩
    refine stP hf rfl rfl rfl (pM rfl) fun a hf => ?_
    refine stCut 3 (fun a w => Has 139 a [(11, .slice p_8 r_13.1.length c_8), (2, .int .i64 r_13.2), (12, .slice p_10 r_15.1.length c_10), (13, .int .i64 r_15.2.1), (4, .int .i64 r_15.2.2), (14, .int .i64 r_17.1), (7, .int .i64 r_17.2), (111, .int .i64 r_13.2), (112, .bool (r_13.2 == 0)), (113, .bool (r_13.2 == 0)), (116, .bool ((r_13.2 == 0) && (r_15.2.2 == 0))), (117, .bool ((r_13.2 == 0) && (r_15.2.2 == 0))), (120, .bool (((r_13.2 == 0) && (r_15.2.2 == 0)) && (r_17.2 == 0))), (121, .bool (((r_13.2 == 0) && (r_15.2.2 == 0)) && (r_17.2 == 0))), (125, .bool t_1), (126, .bool t_1), (130, .bool t_2), (131, .bool t_2), (134, .bool (t_2 && (r_15.2.1 == 2))), (135, .bool (t_2 && (r_15.2.1 == 2))), (138, .bool ((t_2 && (r_15.2.1 == 2)) && (r_17.1 == 8)))] ∧ Ctx G (.row (some ⟨b_8, 0, none⟩) 2 (([(⟨0, 1, 1⟩ : daily_Fall), (⟨2, 3, 1⟩ : daily_Fall)] : List daily_Fall).map enc_daily_Fall) 111 3 :: .row (some ⟨b_7, 0, none⟩) 4 (([9, 5, 7, 3] : List Int).map encI_i64) 3 1 :: .row p_11 c_11 (r_16.map enc_daily_Reading) 102 2 :: .row p_9 c_9 (r_14.map enc_daily_Reading) 102 2 :: .row p_10 c_10 (r_15.1.map encI_i64) 3 1 :: .row (some ⟨b_6, 0, none⟩) 4 (([10, 14, 12, 20] : List Int).map encI_i64) 3 1 :: .row p_7 c_7 (r_12.Days.map enc_daily_Value) 56 3 :: .row (some ⟨b_5, 0, none⟩) 4 (([(⟨20, 35⟩ : api_Span), (⟨30, 40⟩ : api_Span), (⟨49, 60⟩ : api_Span), (⟨50, 60⟩ : api_Span)] : List api_Span).map enc_api_Span) 30 2 :: .row p_8 c_8 (r_13.1.map encI_i64) 3 1 :: .row p_6 c_6 (r_6.Days.map enc_daily_Value) 56 3 :: .box b_2 [.int .i64 r_5.1.Lo, .int .i64 r_5.1.Hi] 30 :: .row p_4 c_4 (r_4.Days.map enc_daily_Value) 56 3 :: .row p_5 c_5 (r_5.2.1.map encI_i64) 3 1 :: .box b_1 [.int .i64 r_3.1.Lo, .int .i64 r_3.1.Hi] 30 :: .row p_3 c_3 (r_2.Days.map enc_daily_Value) 56 3 :: .row p_1 c_1 (r.Days.map enc_daily_Value) 56 3 :: .row p_2 c_2 (r_1.1.map enc_api_Span) 30 2 :: Lf) w) ?_ ?_
    · cases hb : (t_2 && (r_15.2.1 == 2))
      · rw [hb] at hf
        refine stS hf rfl rfl rfl fun a hf => ?_
        refine stS hf rfl rfl rfl fun a hf => ?_
        refine stP hf rfl rfl rfl (pPf rfl rfl) fun a hf => ?_
        exact cNil ⟨hf.keep ⟨rfl, rfl, rfl, rfl, rfl, rfl, rfl, rfl, rfl, rfl, rfl, rfl, rfl, rfl, rfl, rfl, rfl, rfl, rfl, rfl, rfl, trivial⟩, hc⟩
      · rw [hb] at hf
        refine stP hf rfl rfl rfl (pM rfl) fun a hf => ?_
        refine stP hf rfl rfl rfl (pEq rfl rfl) fun a hf => ?_
        refine stP hf rfl rfl rfl (pPt rfl rfl) fun a hf => ?_
        exact cNil ⟨hf.keep ⟨rfl, rfl, rfl, rfl, rfl, rfl, rfl, rfl, rfl, rfl, rfl, rfl, rfl, rfl, rfl, rfl, rfl, rfl, rfl, rfl, rfl, trivial⟩, hc⟩
    intro a w ⟨hf, hc⟩
    refine stP hf rfl rfl rfl (pA rfl) fun a hf => ?_
    refine cNil ?_
    refine h12 _ _ ?_
    refine wp_ret ?_
    obtain rfl := Option.some.inj hF
    replace hc := hc.drop k16
    replace hc := hc.drop k15
    replace hc := hc.drop k14
    replace hc := hc.drop k13
    replace hc := hc.drop k12
    replace hc := hc.drop k11
    replace hc := hc.drop k10
    replace hc := hc.drop k9
    replace hc := hc.drop k8
    replace hc := hc.drop k7
    replace hc := hc.drop k6
    replace hc := hc.drop k5
    replace hc := hc.drop k4
    replace hc := hc.drop k3
    replace hc := hc.drop k2
    replace hc := hc.drop k1
    replace hc := hc.drop k0
    exact fnOut1 (by simp) rfl Try.results12 hf hc (show look _ 0 = _ from rfl) ⟨rfl, hc⟩

end Go.Nilo
