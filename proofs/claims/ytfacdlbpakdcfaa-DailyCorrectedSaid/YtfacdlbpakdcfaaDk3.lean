/-
 What functions of the Go text compute, as plain functions, and that they do, part 3 of 3. Conditions: what each theorem names.
-/
import Derived.Test.YtfacdlbpakdcfaaDk2
import Derived.Test.YtfacdlbpakdcfaaProg
set_option linter.unusedVariables false
set_option linter.unusedSimpArgs false
set_option maxRecDepth 100000
set_option maxHeartbeats 4000000
namespace Go.Nilo
open Go.Proofs


def law07_awake (N : Nat)  : Option (Bool) :=
 Option.bind (law07_Four N 58) fun r =>
 Option.bind (daily_Fill N r) fun r_1 =>
 Option.bind (law07_Four N 58) fun r_2 =>
 Option.bind (daily_Volume N r_2 1 2) fun r_3 =>
 Option.bind (law07_Four N 58) fun r_4 =>
 Option.bind (daily_Peak N r_4) fun r_5 =>
 Option.bind (law07_Four N 61) fun r_6 =>
 Option.bind (daily_Clash N r_6) fun r_7 =>
 Option.bind (cond (!((((r_1.2 != 0) || (r_3.2 != 0)) || (r_5.2.2 != 0)) || (r_7.2.2 != 0))) (kit_Same_api_Span N r_1.1 ([(⟨28,30⟩ : api_Span),(⟨38,40⟩ : api_Span),(⟨48,50⟩ : api_Span),(⟨58,60⟩ : api_Span)] : List api_Span)) (some false)) fun r_8 =>
 Option.bind (cond (!(((((r_1.2 != 0) || (r_3.2 != 0)) || (r_5.2.2 != 0)) || (r_7.2.2 != 0)) || (!r_8))) (law07_span N 86 90) (some (⟨0,0⟩ : api_Span))) fun r_9 =>
 Option.bind (cond (!((((((r_1.2 != 0) || (r_3.2 != 0)) || (r_5.2.2 != 0)) || (r_7.2.2 != 0)) || (!r_8)) || (!(r_3.1.Lo == r_9.Lo && r_3.1.Hi == r_9.Hi)))) (law07_span N 58 60) (some (⟨0,0⟩ : api_Span))) fun r_10 =>
 Option.bind (cond (!(((((((r_1.2 != 0) || (r_3.2 != 0)) || (r_5.2.2 != 0)) || (r_7.2.2 != 0)) || (!r_8)) || (!(r_3.1.Lo == r_9.Lo && r_3.1.Hi == r_9.Hi))) || (!(r_5.1.Lo == r_10.Lo && r_5.1.Hi == r_10.Hi)))) (kit_Same_int N r_5.2.1 ([3] : List Int)) (some false)) fun r_11 =>
 cond ((((((((((r_1.2 != 0) || (r_3.2 != 0)) || (r_5.2.2 != 0)) || (r_7.2.2 != 0)) || (!r_8)) || (!(r_3.1.Lo == r_9.Lo && r_3.1.Hi == r_9.Hi))) || (!(r_5.1.Lo == r_10.Lo && r_5.1.Hi == r_10.Hi))) || (!r_11)) || (r_7.1 != 0)) || (r_7.2.1 != 3))
 (some false)
 (Option.bind (law07_Four N 58) fun r_12 =>
 Option.bind (daily_Again N r_12 ([(⟨20,35⟩ : api_Span),(⟨30,40⟩ : api_Span),(⟨49,60⟩ : api_Span),(⟨50,60⟩ : api_Span)] : List api_Span)) fun r_13 =>
 Option.bind (law07_Counter N ([10,14,12,20] : List Int)) fun r_14 =>
 Option.bind (daily_Correct N r_14) fun r_15 =>
 Option.bind (law07_Counter N ([9,5,7,3] : List Int)) fun r_16 =>
 Option.bind (daily_Proves N r_16 ([(⟨0,1,1⟩ : daily_Fall),(⟨2,3,1⟩ : daily_Fall)] : List daily_Fall)) fun r_17 =>
 Option.bind (cond (((r_13.2 == 0) && (r_15.2.2 == 0)) && (r_17.2 == 0)) (Option.bind (kit_Same_int N r_13.1 ([2] : List Int)) fun r_18 =>
 some r_18) (some false)) fun t_1 =>
 Option.bind (cond t_1 (Option.bind (kit_Same_int N r_15.1 ([10,12,12,20] : List Int)) fun r_19 =>
 some r_19) (some false)) fun t_2 =>
 some ((t_2 && (r_15.2.1 == 2)) && (r_17.1 == 8)))
theorem law07_awake_ok {N : Nat} {G : Pers} {Lf : List Ent} {w : World}    (hc : Ctx G (Lf) w) {res : Bool} (hF : law07_awake N = some res) : Calls Try.prog 13 #[] w (fun e w => e = .returned (.bool res) ∧ Ctx G (Lf) w) := by
 unfold law07_awake at hF
 refine fnIn Try.func13 rfl Try.ntmps13 rfl fun a hf => zS fun K h => sp 1 hf rfl fun a hf => zT h ?_
 refine zS fun K h => ?_
 obtain ⟨r,hr,hF⟩ := bnd_some hF
 refine zC hf en_25 rfl (law07_Four_ok 58 hc hr) ?_
 rintro _ w ⟨p_1,c_1,rfl,hc⟩
 refine ⟨_,rfl,fun a hf => ?_⟩
 obtain ⟨r_1,hr_1,hF⟩ := bnd_some hF
 obtain ⟨G1,hle1,hrd1,hc,hth1⟩ := lend hc k0
 refine zC hf en_24 rfl (daily_Fill_ok r hrd1 hc hr_1) ?_
 rintro _ w ⟨p_2,c_2,rfl,hc⟩
 refine ⟨_,rfl,fun a hf => ?_⟩
 replace hc := hth1 _ _ hc
 refine sp 5 hf rfl fun a hf => zT h ?_
 refine zS fun K h => ?_
 obtain ⟨r_2,hr_2,hF⟩ := bnd_some hF
 refine zC hf en_25 rfl (law07_Four_ok 58 hc hr_2) ?_
 rintro _ w ⟨p_3,c_3,rfl,hc⟩
 refine ⟨_,rfl,fun a hf => ?_⟩
 obtain ⟨r_3,hr_3,hF⟩ := bnd_some hF
 refine zQ (v := .tuple #[.agg #[i6 r_3.1.Lo,i6 r_3.1.Hi],i6 r_3.2]) hf hc en_26 rfl (fun w hc => by obtain ⟨G1,hle1,hrd1,hc,hth1⟩ := lend hc k0; exact (daily_Volume_ok r_2 1 2 hrd1 hc hr_3).mono fun e w h => ⟨h.1,((hth1 _ _ h.2).unpick k0)⟩) fun a w hf hc => sp 3 hf rfl fun a hf => zA hf hc zr_71 rfl fun b_1 a w hf hc => zW hf hc sz_71 u0 rfl fun w hc => sp 1 hf rfl fun a hf => zT h ?_
 refine zS fun K h => ?_
 obtain ⟨r_4,hr_4,hF⟩ := bnd_some hF
 refine zC hf en_25 rfl (law07_Four_ok 58 hc hr_4) ?_
 rintro _ w ⟨p_4,c_4,rfl,hc⟩
 refine ⟨_,rfl,fun a hf => ?_⟩
 obtain ⟨r_5,hr_5,hF⟩ := bnd_some hF
 obtain ⟨G1,hle1,hrd1,hc,hth1⟩ := lend hc k0
 refine zC hf en_27 rfl (daily_Peak_ok r_4 hrd1 hc hr_5) ?_
 rintro _ w ⟨p_5,c_5,rfl,hc⟩
 refine ⟨_,rfl,fun a hf => ?_⟩
 replace hc := hth1 _ _ hc
 refine sp 4 hf rfl fun a hf => zA hf hc zr_71 rfl fun b_2 a w hf hc => zW hf hc sz_71 u0 rfl fun w hc => sp 2 hf rfl fun a hf => zT h ?_
 refine zS fun K h => ?_
 obtain ⟨r_6,hr_6,hF⟩ := bnd_some hF
 refine zC hf en_25 rfl (law07_Four_ok 61 hc hr_6) ?_
 rintro _ w ⟨p_6,c_6,rfl,hc⟩
 refine ⟨_,rfl,fun a hf => ?_⟩
 obtain ⟨r_7,hr_7,hF⟩ := bnd_some hF
 refine zQ (v := .tuple #[i6 r_7.1,i6 r_7.2.1,i6 r_7.2.2]) hf hc en_28 rfl (fun w hc => by obtain ⟨G1,hle1,hrd1,hc,hth1⟩ := lend hc k0; exact (daily_Clash_ok r_6 hrd1 hc hr_7).mono fun e w h => ⟨h.1,((hth1 _ _ h.2).unpick k0)⟩) fun a w hf hc => sp 7 hf rfl fun a hf => zT h ?_
 refine wp_seq_k fun K6 h6 => wp_seq_k fun K7 h7 => ?_
 obtain ⟨r_8,hr_8,hF⟩ := bnd_some hF
 obtain ⟨r_9,hr_9,hF⟩ := bnd_some hF
 obtain ⟨r_10,hr_10,hF⟩ := bnd_some hF
 obtain ⟨r_11,hr_11,hF⟩ := bnd_some hF
 replace hc := hc.nilRow 0 0
 replace hc := hc.nilRow 0 0
 refine regionE (fun θ => (⟨none,none,1,.slice p_2 r_1.1.length c_2⟩::⟨none,none,2,i6 r_1.2⟩::⟨none,none,3,pq b_1⟩::⟨none,none,4,i6 r_3.2⟩::⟨none,none,5,pq b_2⟩::⟨none,none,6,.slice p_5 r_5.2.1.length c_5⟩::⟨none,none,7,i6 r_5.2.2⟩::⟨none,none,8,i6 r_7.1⟩::⟨none,none,9,i6 r_7.2.1⟩::⟨none,none,10,i6 r_7.2.2⟩::⟨some 0,none,37,i6 r_1.2⟩::⟨some 1,none,38,.bool (r_1.2 != 0)⟩::⟨some 2,none,39,.bool (r_1.2 != 0)⟩::⟨some 3,none,40,(bif (r_1.2 != 0) then undef else i6 r_3.2)⟩::⟨some 4,none,41,(bif (r_1.2 != 0) then undef else .bool (r_3.2 != 0))⟩::⟨some 5,none,42,.bool ((r_1.2 != 0) || (r_3.2 != 0))⟩::⟨some 6,none,43,.bool ((r_1.2 != 0) || (r_3.2 != 0))⟩::⟨some 7,none,44,(bif ((r_1.2 != 0) || (r_3.2 != 0)) then undef else i6 r_5.2.2)⟩::⟨some 8,none,45,(bif ((r_1.2 != 0) || (r_3.2 != 0)) then undef else .bool (r_5.2.2 != 0))⟩::⟨some 9,none,46,.bool (((r_1.2 != 0) || (r_3.2 != 0)) || (r_5.2.2 != 0))⟩::⟨some 10,none,47,.bool (((r_1.2 != 0) || (r_3.2 != 0)) || (r_5.2.2 != 0))⟩::⟨some 11,none,48,(bif (((r_1.2 != 0) || (r_3.2 != 0)) || (r_5.2.2 != 0)) then undef else i6 r_7.2.2)⟩::⟨some 12,none,49,(bif (((r_1.2 != 0) || (r_3.2 != 0)) || (r_5.2.2 != 0)) then undef else .bool (r_7.2.2 != 0))⟩::⟨some 13,none,50,.bool ((((r_1.2 != 0) || (r_3.2 != 0)) || (r_5.2.2 != 0)) || (r_7.2.2 != 0))⟩::⟨some 14,none,51,.bool ((((r_1.2 != 0) || (r_3.2 != 0)) || (r_5.2.2 != 0)) || (r_7.2.2 != 0))⟩::⟨some 15,none,52,(bif ((((r_1.2 != 0) || (r_3.2 != 0)) || (r_5.2.2 != 0)) || (r_7.2.2 != 0)) then undef else .slice p_2 r_1.1.length c_2)⟩::⟨some 16,none,53,(bif ((((r_1.2 != 0) || (r_3.2 != 0)) || (r_5.2.2 != 0)) || (r_7.2.2 != 0)) then undef else .agg #[i6 28,i6 30])⟩::⟨some 17,none,54,(bif ((((r_1.2 != 0) || (r_3.2 != 0)) || (r_5.2.2 != 0)) || (r_7.2.2 != 0)) then undef else .agg #[i6 38,i6 40])⟩::⟨some 18,none,55,(bif ((((r_1.2 != 0) || (r_3.2 != 0)) || (r_5.2.2 != 0)) || (r_7.2.2 != 0)) then undef else .agg #[i6 48,i6 50])⟩::⟨some 19,none,56,(bif ((((r_1.2 != 0) || (r_3.2 != 0)) || (r_5.2.2 != 0)) || (r_7.2.2 != 0)) then undef else .agg #[i6 58,i6 60])⟩::⟨some 20,none,57,(bif ((((r_1.2 != 0) || (r_3.2 != 0)) || (r_5.2.2 != 0)) || (r_7.2.2 != 0)) then undef else .slice (some ⟨(θ 160).b,0,none⟩) 4 4)⟩::⟨some 21,none,58,(bif ((((r_1.2 != 0) || (r_3.2 != 0)) || (r_5.2.2 != 0)) || (r_7.2.2 != 0)) then undef else .bool r_8)⟩::⟨some 22,none,59,(bif ((((r_1.2 != 0) || (r_3.2 != 0)) || (r_5.2.2 != 0)) || (r_7.2.2 != 0)) then undef else .bool (!r_8))⟩::⟨some 23,none,60,.bool (((((r_1.2 != 0) || (r_3.2 != 0)) || (r_5.2.2 != 0)) || (r_7.2.2 != 0)) || (!r_8))⟩::⟨some 24,none,61,.bool (((((r_1.2 != 0) || (r_3.2 != 0)) || (r_5.2.2 != 0)) || (r_7.2.2 != 0)) || (!r_8))⟩::⟨some 25,none,62,(bif (((((r_1.2 != 0) || (r_3.2 != 0)) || (r_5.2.2 != 0)) || (r_7.2.2 != 0)) || (!r_8)) then undef else .agg #[i6 r_3.1.Lo,i6 r_3.1.Hi])⟩::⟨some 26,none,63,(bif (((((r_1.2 != 0) || (r_3.2 != 0)) || (r_5.2.2 != 0)) || (r_7.2.2 != 0)) || (!r_8)) then undef else .agg #[i6 r_9.Lo,i6 r_9.Hi])⟩::⟨some 27,none,64,(bif (((((r_1.2 != 0) || (r_3.2 != 0)) || (r_5.2.2 != 0)) || (r_7.2.2 != 0)) || (!r_8)) then undef else .bool (!(r_3.1.Lo == r_9.Lo && r_3.1.Hi == r_9.Hi)))⟩::⟨some 28,none,65,.bool ((((((r_1.2 != 0) || (r_3.2 != 0)) || (r_5.2.2 != 0)) || (r_7.2.2 != 0)) || (!r_8)) || (!(r_3.1.Lo == r_9.Lo && r_3.1.Hi == r_9.Hi)))⟩::⟨some 29,none,66,.bool ((((((r_1.2 != 0) || (r_3.2 != 0)) || (r_5.2.2 != 0)) || (r_7.2.2 != 0)) || (!r_8)) || (!(r_3.1.Lo == r_9.Lo && r_3.1.Hi == r_9.Hi)))⟩::⟨some 30,none,67,(bif ((((((r_1.2 != 0) || (r_3.2 != 0)) || (r_5.2.2 != 0)) || (r_7.2.2 != 0)) || (!r_8)) || (!(r_3.1.Lo == r_9.Lo && r_3.1.Hi == r_9.Hi))) then undef else .agg #[i6 r_5.1.Lo,i6 r_5.1.Hi])⟩::⟨some 31,none,68,(bif ((((((r_1.2 != 0) || (r_3.2 != 0)) || (r_5.2.2 != 0)) || (r_7.2.2 != 0)) || (!r_8)) || (!(r_3.1.Lo == r_9.Lo && r_3.1.Hi == r_9.Hi))) then undef else .agg #[i6 r_10.Lo,i6 r_10.Hi])⟩::⟨some 32,none,69,(bif ((((((r_1.2 != 0) || (r_3.2 != 0)) || (r_5.2.2 != 0)) || (r_7.2.2 != 0)) || (!r_8)) || (!(r_3.1.Lo == r_9.Lo && r_3.1.Hi == r_9.Hi))) then undef else .bool (!(r_5.1.Lo == r_10.Lo && r_5.1.Hi == r_10.Hi)))⟩::⟨some 33,none,70,.bool (((((((r_1.2 != 0) || (r_3.2 != 0)) || (r_5.2.2 != 0)) || (r_7.2.2 != 0)) || (!r_8)) || (!(r_3.1.Lo == r_9.Lo && r_3.1.Hi == r_9.Hi))) || (!(r_5.1.Lo == r_10.Lo && r_5.1.Hi == r_10.Hi)))⟩::⟨some 34,none,71,.bool (((((((r_1.2 != 0) || (r_3.2 != 0)) || (r_5.2.2 != 0)) || (r_7.2.2 != 0)) || (!r_8)) || (!(r_3.1.Lo == r_9.Lo && r_3.1.Hi == r_9.Hi))) || (!(r_5.1.Lo == r_10.Lo && r_5.1.Hi == r_10.Hi)))⟩::⟨some 35,none,72,(bif (((((((r_1.2 != 0) || (r_3.2 != 0)) || (r_5.2.2 != 0)) || (r_7.2.2 != 0)) || (!r_8)) || (!(r_3.1.Lo == r_9.Lo && r_3.1.Hi == r_9.Hi))) || (!(r_5.1.Lo == r_10.Lo && r_5.1.Hi == r_10.Hi))) then undef else .slice p_5 r_5.2.1.length c_5)⟩::⟨some 36,none,73,(bif (((((((r_1.2 != 0) || (r_3.2 != 0)) || (r_5.2.2 != 0)) || (r_7.2.2 != 0)) || (!r_8)) || (!(r_3.1.Lo == r_9.Lo && r_3.1.Hi == r_9.Hi))) || (!(r_5.1.Lo == r_10.Lo && r_5.1.Hi == r_10.Hi))) then undef else .slice (some ⟨(θ 288).b,0,none⟩) 1 1)⟩::⟨some 37,none,74,(bif (((((((r_1.2 != 0) || (r_3.2 != 0)) || (r_5.2.2 != 0)) || (r_7.2.2 != 0)) || (!r_8)) || (!(r_3.1.Lo == r_9.Lo && r_3.1.Hi == r_9.Hi))) || (!(r_5.1.Lo == r_10.Lo && r_5.1.Hi == r_10.Hi))) then undef else .bool r_11)⟩::⟨some 38,none,75,(bif (((((((r_1.2 != 0) || (r_3.2 != 0)) || (r_5.2.2 != 0)) || (r_7.2.2 != 0)) || (!r_8)) || (!(r_3.1.Lo == r_9.Lo && r_3.1.Hi == r_9.Hi))) || (!(r_5.1.Lo == r_10.Lo && r_5.1.Hi == r_10.Hi))) then undef else .bool (!r_11))⟩::⟨some 39,none,76,.bool ((((((((r_1.2 != 0) || (r_3.2 != 0)) || (r_5.2.2 != 0)) || (r_7.2.2 != 0)) || (!r_8)) || (!(r_3.1.Lo == r_9.Lo && r_3.1.Hi == r_9.Hi))) || (!(r_5.1.Lo == r_10.Lo && r_5.1.Hi == r_10.Hi))) || (!r_11))⟩::⟨some 40,none,77,.bool ((((((((r_1.2 != 0) || (r_3.2 != 0)) || (r_5.2.2 != 0)) || (r_7.2.2 != 0)) || (!r_8)) || (!(r_3.1.Lo == r_9.Lo && r_3.1.Hi == r_9.Hi))) || (!(r_5.1.Lo == r_10.Lo && r_5.1.Hi == r_10.Hi))) || (!r_11))⟩::⟨some 41,none,78,(bif ((((((((r_1.2 != 0) || (r_3.2 != 0)) || (r_5.2.2 != 0)) || (r_7.2.2 != 0)) || (!r_8)) || (!(r_3.1.Lo == r_9.Lo && r_3.1.Hi == r_9.Hi))) || (!(r_5.1.Lo == r_10.Lo && r_5.1.Hi == r_10.Hi))) || (!r_11)) then undef else i6 r_7.1)⟩::⟨some 42,none,79,(bif ((((((((r_1.2 != 0) || (r_3.2 != 0)) || (r_5.2.2 != 0)) || (r_7.2.2 != 0)) || (!r_8)) || (!(r_3.1.Lo == r_9.Lo && r_3.1.Hi == r_9.Hi))) || (!(r_5.1.Lo == r_10.Lo && r_5.1.Hi == r_10.Hi))) || (!r_11)) then undef else .bool (r_7.1 != 0))⟩::⟨some 43,none,80,.bool (((((((((r_1.2 != 0) || (r_3.2 != 0)) || (r_5.2.2 != 0)) || (r_7.2.2 != 0)) || (!r_8)) || (!(r_3.1.Lo == r_9.Lo && r_3.1.Hi == r_9.Hi))) || (!(r_5.1.Lo == r_10.Lo && r_5.1.Hi == r_10.Hi))) || (!r_11)) || (r_7.1 != 0))⟩::⟨some 44,none,81,.bool (((((((((r_1.2 != 0) || (r_3.2 != 0)) || (r_5.2.2 != 0)) || (r_7.2.2 != 0)) || (!r_8)) || (!(r_3.1.Lo == r_9.Lo && r_3.1.Hi == r_9.Hi))) || (!(r_5.1.Lo == r_10.Lo && r_5.1.Hi == r_10.Hi))) || (!r_11)) || (r_7.1 != 0))⟩::⟨some 45,none,82,(bif (((((((((r_1.2 != 0) || (r_3.2 != 0)) || (r_5.2.2 != 0)) || (r_7.2.2 != 0)) || (!r_8)) || (!(r_3.1.Lo == r_9.Lo && r_3.1.Hi == r_9.Hi))) || (!(r_5.1.Lo == r_10.Lo && r_5.1.Hi == r_10.Hi))) || (!r_11)) || (r_7.1 != 0)) then undef else i6 r_7.2.1)⟩::⟨some 46,none,83,(bif (((((((((r_1.2 != 0) || (r_3.2 != 0)) || (r_5.2.2 != 0)) || (r_7.2.2 != 0)) || (!r_8)) || (!(r_3.1.Lo == r_9.Lo && r_3.1.Hi == r_9.Hi))) || (!(r_5.1.Lo == r_10.Lo && r_5.1.Hi == r_10.Hi))) || (!r_11)) || (r_7.1 != 0)) then undef else .bool (r_7.2.1 != 3))⟩::⟨some 47,none,84,.bool ((((((((((r_1.2 != 0) || (r_3.2 != 0)) || (r_5.2.2 != 0)) || (r_7.2.2 != 0)) || (!r_8)) || (!(r_3.1.Lo == r_9.Lo && r_3.1.Hi == r_9.Hi))) || (!(r_5.1.Lo == r_10.Lo && r_5.1.Hi == r_10.Hi))) || (!r_11)) || (r_7.1 != 0)) || (r_7.2.1 != 3))⟩::[])) (fun E θ => (bif E 36 then (gE (!(((((((r_1.2 != 0) || (r_3.2 != 0)) || (r_5.2.2 != 0)) || (r_7.2.2 != 0)) || (!r_8)) || (!(r_3.1.Lo == r_9.Lo && r_3.1.Hi == r_9.Hi))) || (!(r_5.1.Lo == r_10.Lo && r_5.1.Hi == r_10.Hi)))) (.row (some ⟨(θ 288).b,0,none⟩) 1 (([3] : List Int).map encI_i64) 3 1)) else .row none 0 [] 0 0)::(bif E 20 then (gE (!((((r_1.2 != 0) || (r_3.2 != 0)) || (r_5.2.2 != 0)) || (r_7.2.2 != 0))) (.row (some ⟨(θ 160).b,0,none⟩) 4 (([(⟨28,30⟩ : api_Span),(⟨38,40⟩ : api_Span),(⟨48,50⟩ : api_Span),(⟨58,60⟩ : api_Span)] : List api_Span).map enc_api_Span) 71 2)) else .row none 0 [] 0 0)::.row p_6 c_6 (r_6.Days.map enc_daily_Value) 100 3::.box b_2 [i6 r_5.1.Lo,i6 r_5.1.Hi] 71::.row p_4 c_4 (r_4.Days.map enc_daily_Value) 100 3::.row p_5 c_5 (r_5.2.1.map encI_i64) 3 1::.box b_1 [i6 r_3.1.Lo,i6 r_3.1.Hi] 71::.row p_3 c_3 (r_2.Days.map enc_daily_Value) 100 3::.row p_1 c_1 (r.Days.map enc_daily_Value) 100 3::.row p_2 c_2 (r_1.1.map enc_api_Span) 71 2::Lf) [] (fun a w => Has 139 a [(84,.bool ((((((((((r_1.2 != 0) || (r_3.2 != 0)) || (r_5.2.2 != 0)) || (r_7.2.2 != 0)) || (!r_8)) || (!(r_3.1.Lo == r_9.Lo && r_3.1.Hi == r_9.Hi))) || (!(r_5.1.Lo == r_10.Lo && r_5.1.Hi == r_10.Hi))) || (!r_11)) || (r_7.1 != 0)) || (r_7.2.1 != 3)))] ∧ Ctx G (.row p_6 c_6 (r_6.Days.map enc_daily_Value) 100 3::.box b_2 [i6 r_5.1.Lo,i6 r_5.1.Hi] 71::.row p_4 c_4 (r_4.Days.map enc_daily_Value) 100 3::.row p_5 c_5 (r_5.2.1.map encI_i64) 3 1::.box b_1 [i6 r_3.1.Lo,i6 r_3.1.Hi] 71::.row p_3 c_3 (r_2.Days.map enc_daily_Value) 100 3::.row p_1 c_1 (r.Days.map enc_daily_Value) 100 3::.row p_2 c_2 (r_1.1.map enc_api_Span) 71 2::Lf) w) follows_mx (by kernel_rfl) (by kernel_rfl) (HasE.of hf ⟨rfl,rfl,rfl,rfl,rfl,rfl,rfl,rfl,rfl,rfl,trivial,trivial,trivial,trivial,trivial,trivial,trivial,trivial,trivial,trivial,trivial,trivial,trivial,trivial,trivial,trivial,trivial,trivial,trivial,trivial,trivial,trivial,trivial,trivial,trivial,trivial,trivial,trivial,trivial,trivial,trivial,trivial,trivial,trivial,trivial,trivial,trivial,trivial,trivial,trivial,trivial,trivial,trivial,trivial,trivial,trivial,trivial,trivial,trivial⟩) hc ⟨?_,?_,?_,?_,?_,?_,?_,?_,?_,?_,?_,?_,?_,?_,?_,?_,?_,?_,?_,?_,?_,?_,?_,?_,?_,?_,?_,?_,?_,?_,?_,?_,?_,?_,?_,?_,?_,?_,?_,?_,?_,?_,?_,?_,?_,?_,?_,?_,trivial⟩ ?_ ?_
 ·intro E θ a w hD hi hp he hc
  have hf := he.h0.mT he 1 rfl
  refine sp 1 hf rfl fun a hf => zD θ he hi hf 10 rfl rfl rfl hc
 ·intro E θ a w hD hi hp he hc
  have e0 := hp.o 0 rfl
  have hf := he.h0.mP he 10 rfl e0
  refine sp 1 hf rfl fun a hf => zD θ he hi hf 11 rfl rfl rfl hc
 ·intro E θ a w hD hi hp he hc
  have e1 := hp.o 1 rfl
  have hf := he.h0.mP he 11 rfl e1
  refine sp 1 hf rfl fun a hf => zD θ he hi hf 12 rfl rfl rfl hc
 ·intro E θ a w hD hi hp he hc
  have e2 := hp.o 2 rfl
  rcases boolEq (r_1.2 != 0) with hb | hb
  ·have hf := (he.h0.mT he 3 rfl).mP he 12 rfl e2
   replace hf := castB hb hf
   refine stS hf rfl rfl rfl fun a hf => ?_
   replace hf := castI (u := i6 r_3.2) hb hf
   exact zD θ he hi hf 13 rfl rfl rfl hc
  ·have hf := (he.h0.mT he 3 rfl).mP he 12 rfl e2
   replace hf := castB hb hf
   refine sp 1 hf rfl fun a hf => ?_
   replace hf := castJ (u := undef) hb hf
   exact zD θ he hi hf 13 rfl rfl rfl hc
 ·intro E θ a w hD hi hp he hc
  have e2 := hp.o 2 rfl
  have e3 := hp.o 3 rfl
  rcases boolEq (r_1.2 != 0) with hb | hb
  ·have hf := he.h0.mP he 12 rfl e2
   replace hf := castB hb hf
   replace hf := hf.more he 13 rfl (onP e3)
   replace hf := castCT hb hf
   refine stS hf rfl rfl rfl fun a hf => ?_
   replace hf := castI (u := .bool (r_3.2 != 0)) hb hf
   exact zD θ he hi hf 14 rfl rfl rfl hc
  ·have hf := he.h0.mP he 12 rfl e2
   replace hf := castB hb hf
   replace hf := hf.more he 13 rfl (onP e3)
   replace hf := castCF hb hf
   refine sp 1 hf rfl fun a hf => ?_
   replace hf := castJ (u := undef) hb hf
   exact zD θ he hi hf 14 rfl rfl rfl hc
 ·intro E θ a w hD hi hp he hc
  have e2 := hp.o 2 rfl
  have e4 := hp.o 4 rfl
  rcases boolEq (r_1.2 != 0) with hb | hb
  ·have hf := he.h0.mP he 12 rfl e2
   replace hf := castB hb hf
   replace hf := hf.more he 14 rfl (onP e4)
   replace hf := castCT hb hf
   refine sp 1 hf rfl fun a hf => ?_
   replace hf := castV (v' := .bool ((r_1.2 != 0) || (r_3.2 != 0))) (congrArg Value.bool (orT hb)) hf
   exact zD θ he hi hf 15 rfl rfl rfl hc
  ·have hf := he.h0.mP he 12 rfl e2
   replace hf := castB hb hf
   replace hf := hf.more he 14 rfl (onP e4)
   replace hf := castCF hb hf
   refine sp 1 hf rfl fun a hf => ?_
   replace hf := castV (v' := .bool ((r_1.2 != 0) || (r_3.2 != 0))) (congrArg Value.bool (orF hb)) hf
   exact zD θ he hi hf 15 rfl rfl rfl hc
 ·intro E θ a w hD hi hp he hc
  have e5 := hp.o 5 rfl
  have hf := he.h0.mP he 15 rfl e5
  refine sp 1 hf rfl fun a hf => zD θ he hi hf 16 rfl rfl rfl hc
 ·intro E θ a w hD hi hp he hc
  have e6 := hp.o 6 rfl
  rcases boolEq ((r_1.2 != 0) || (r_3.2 != 0)) with hb | hb
  ·have hf := (he.h0.mT he 6 rfl).mP he 16 rfl e6
   replace hf := castB hb hf
   refine stS hf rfl rfl rfl fun a hf => ?_
   replace hf := castI (u := i6 r_5.2.2) hb hf
   exact zD θ he hi hf 17 rfl rfl rfl hc
  ·have hf := (he.h0.mT he 6 rfl).mP he 16 rfl e6
   replace hf := castB hb hf
   refine sp 1 hf rfl fun a hf => ?_
   replace hf := castJ (u := undef) hb hf
   exact zD θ he hi hf 17 rfl rfl rfl hc
 ·intro E θ a w hD hi hp he hc
  have e6 := hp.o 6 rfl
  have e7 := hp.o 7 rfl
  rcases boolEq ((r_1.2 != 0) || (r_3.2 != 0)) with hb | hb
  ·have hf := he.h0.mP he 16 rfl e6
   replace hf := castB hb hf
   replace hf := hf.more he 17 rfl (onP e7)
   replace hf := castCT hb hf
   refine stS hf rfl rfl rfl fun a hf => ?_
   replace hf := castI (u := .bool (r_5.2.2 != 0)) hb hf
   exact zD θ he hi hf 18 rfl rfl rfl hc
  ·have hf := he.h0.mP he 16 rfl e6
   replace hf := castB hb hf
   replace hf := hf.more he 17 rfl (onP e7)
   replace hf := castCF hb hf
   refine sp 1 hf rfl fun a hf => ?_
   replace hf := castJ (u := undef) hb hf
   exact zD θ he hi hf 18 rfl rfl rfl hc
 ·intro E θ a w hD hi hp he hc
  have e6 := hp.o 6 rfl
  have e8 := hp.o 8 rfl
  rcases boolEq ((r_1.2 != 0) || (r_3.2 != 0)) with hb | hb
  ·have hf := he.h0.mP he 16 rfl e6
   replace hf := castB hb hf
   replace hf := hf.more he 18 rfl (onP e8)
   replace hf := castCT hb hf
   refine sp 1 hf rfl fun a hf => ?_
   replace hf := castV (v' := .bool (((r_1.2 != 0) || (r_3.2 != 0)) || (r_5.2.2 != 0))) (congrArg Value.bool (orT hb)) hf
   exact zD θ he hi hf 19 rfl rfl rfl hc
  ·have hf := he.h0.mP he 16 rfl e6
   replace hf := castB hb hf
   replace hf := hf.more he 18 rfl (onP e8)
   replace hf := castCF hb hf
   refine sp 1 hf rfl fun a hf => ?_
   replace hf := castV (v' := .bool (((r_1.2 != 0) || (r_3.2 != 0)) || (r_5.2.2 != 0))) (congrArg Value.bool (orF hb)) hf
   exact zD θ he hi hf 19 rfl rfl rfl hc
 ·intro E θ a w hD hi hp he hc
  have e9 := hp.o 9 rfl
  have hf := he.h0.mP he 19 rfl e9
  refine sp 1 hf rfl fun a hf => zD θ he hi hf 20 rfl rfl rfl hc
 ·intro E θ a w hD hi hp he hc
  have e10 := hp.o 10 rfl
  rcases boolEq (((r_1.2 != 0) || (r_3.2 != 0)) || (r_5.2.2 != 0)) with hb | hb
  ·have hf := (he.h0.mT he 9 rfl).mP he 20 rfl e10
   replace hf := castB hb hf
   refine stS hf rfl rfl rfl fun a hf => ?_
   replace hf := castI (u := i6 r_7.2.2) hb hf
   exact zD θ he hi hf 21 rfl rfl rfl hc
  ·have hf := (he.h0.mT he 9 rfl).mP he 20 rfl e10
   replace hf := castB hb hf
   refine sp 1 hf rfl fun a hf => ?_
   replace hf := castJ (u := undef) hb hf
   exact zD θ he hi hf 21 rfl rfl rfl hc
 ·intro E θ a w hD hi hp he hc
  have e10 := hp.o 10 rfl
  have e11 := hp.o 11 rfl
  rcases boolEq (((r_1.2 != 0) || (r_3.2 != 0)) || (r_5.2.2 != 0)) with hb | hb
  ·have hf := he.h0.mP he 20 rfl e10
   replace hf := castB hb hf
   replace hf := hf.more he 21 rfl (onP e11)
   replace hf := castCT hb hf
   refine stS hf rfl rfl rfl fun a hf => ?_
   replace hf := castI (u := .bool (r_7.2.2 != 0)) hb hf
   exact zD θ he hi hf 22 rfl rfl rfl hc
  ·have hf := he.h0.mP he 20 rfl e10
   replace hf := castB hb hf
   replace hf := hf.more he 21 rfl (onP e11)
   replace hf := castCF hb hf
   refine sp 1 hf rfl fun a hf => ?_
   replace hf := castJ (u := undef) hb hf
   exact zD θ he hi hf 22 rfl rfl rfl hc
 ·intro E θ a w hD hi hp he hc
  have e10 := hp.o 10 rfl
  have e12 := hp.o 12 rfl
  rcases boolEq (((r_1.2 != 0) || (r_3.2 != 0)) || (r_5.2.2 != 0)) with hb | hb
  ·have hf := he.h0.mP he 20 rfl e10
   replace hf := castB hb hf
   replace hf := hf.more he 22 rfl (onP e12)
   replace hf := castCT hb hf
   refine sp 1 hf rfl fun a hf => ?_
   replace hf := castV (v' := .bool ((((r_1.2 != 0) || (r_3.2 != 0)) || (r_5.2.2 != 0)) || (r_7.2.2 != 0))) (congrArg Value.bool (orT hb)) hf
   exact zD θ he hi hf 23 rfl rfl rfl hc
  ·have hf := he.h0.mP he 20 rfl e10
   replace hf := castB hb hf
   replace hf := hf.more he 22 rfl (onP e12)
   replace hf := castCF hb hf
   refine sp 1 hf rfl fun a hf => ?_
   replace hf := castV (v' := .bool ((((r_1.2 != 0) || (r_3.2 != 0)) || (r_5.2.2 != 0)) || (r_7.2.2 != 0))) (congrArg Value.bool (orF hb)) hf
   exact zD θ he hi hf 23 rfl rfl rfl hc
 ·intro E θ a w hD hi hp he hc
  have e13 := hp.o 13 rfl
  have hf := he.h0.mP he 23 rfl e13
  refine sp 1 hf rfl fun a hf => zD θ he hi hf 24 rfl rfl rfl hc
 ·intro E θ a w hD hi hp he hc
  have e14 := hp.o 14 rfl
  rcases boolEq ((((r_1.2 != 0) || (r_3.2 != 0)) || (r_5.2.2 != 0)) || (r_7.2.2 != 0)) with hb | hb
  ·have hf := (he.h0.mT he 0 rfl).mP he 24 rfl e14
   replace hf := castB hb hf
   refine stS hf rfl rfl rfl fun a hf => ?_
   replace hf := castI (u := .slice p_2 r_1.1.length c_2) hb hf
   exact zD θ he hi hf 25 rfl rfl rfl hc
  ·have hf := (he.h0.mT he 0 rfl).mP he 24 rfl e14
   replace hf := castB hb hf
   refine sp 1 hf rfl fun a hf => ?_
   replace hf := castJ (u := undef) hb hf
   exact zD θ he hi hf 25 rfl rfl rfl hc
 ·intro E θ a w hD hi hp he hc
  have e14 := hp.o 14 rfl
  rcases boolEq ((((r_1.2 != 0) || (r_3.2 != 0)) || (r_5.2.2 != 0)) || (r_7.2.2 != 0)) with hb | hb
  ·have hf := he.h0.mP he 24 rfl e14
   replace hf := castB hb hf
   refine stS hf rfl rfl rfl fun a hf => ?_
   replace hf := castI (u := .agg #[i6 28,i6 30]) hb hf
   exact zD θ he hi hf 26 rfl rfl rfl hc
  ·have hf := he.h0.mP he 24 rfl e14
   replace hf := castB hb hf
   refine zP hf rfl (pBuildS (cells := [i6 28,i6 30]) bt_71 rfl rfl) fun a hf => ?_
   replace hf := castJ (u := undef) hb hf
   exact zD θ he hi hf 26 rfl rfl rfl hc
 ·intro E θ a w hD hi hp he hc
  have e14 := hp.o 14 rfl
  rcases boolEq ((((r_1.2 != 0) || (r_3.2 != 0)) || (r_5.2.2 != 0)) || (r_7.2.2 != 0)) with hb | hb
  ·have hf := he.h0.mP he 24 rfl e14
   replace hf := castB hb hf
   refine stS hf rfl rfl rfl fun a hf => ?_
   replace hf := castI (u := .agg #[i6 38,i6 40]) hb hf
   exact zD θ he hi hf 27 rfl rfl rfl hc
  ·have hf := he.h0.mP he 24 rfl e14
   replace hf := castB hb hf
   refine zP hf rfl (pBuildS (cells := [i6 38,i6 40]) bt_71 rfl rfl) fun a hf => ?_
   replace hf := castJ (u := undef) hb hf
   exact zD θ he hi hf 27 rfl rfl rfl hc
 ·intro E θ a w hD hi hp he hc
  have e14 := hp.o 14 rfl
  rcases boolEq ((((r_1.2 != 0) || (r_3.2 != 0)) || (r_5.2.2 != 0)) || (r_7.2.2 != 0)) with hb | hb
  ·have hf := he.h0.mP he 24 rfl e14
   replace hf := castB hb hf
   refine stS hf rfl rfl rfl fun a hf => ?_
   replace hf := castI (u := .agg #[i6 48,i6 50]) hb hf
   exact zD θ he hi hf 28 rfl rfl rfl hc
  ·have hf := he.h0.mP he 24 rfl e14
   replace hf := castB hb hf
   refine zP hf rfl (pBuildS (cells := [i6 48,i6 50]) bt_71 rfl rfl) fun a hf => ?_
   replace hf := castJ (u := undef) hb hf
   exact zD θ he hi hf 28 rfl rfl rfl hc
 ·intro E θ a w hD hi hp he hc
  have e14 := hp.o 14 rfl
  rcases boolEq ((((r_1.2 != 0) || (r_3.2 != 0)) || (r_5.2.2 != 0)) || (r_7.2.2 != 0)) with hb | hb
  ·have hf := he.h0.mP he 24 rfl e14
   replace hf := castB hb hf
   refine stS hf rfl rfl rfl fun a hf => ?_
   replace hf := castI (u := .agg #[i6 58,i6 60]) hb hf
   exact zD θ he hi hf 29 rfl rfl rfl hc
  ·have hf := he.h0.mP he 24 rfl e14
   replace hf := castB hb hf
   refine zP hf rfl (pBuildS (cells := [i6 58,i6 60]) bt_71 rfl rfl) fun a hf => ?_
   replace hf := castJ (u := undef) hb hf
   exact zD θ he hi hf 29 rfl rfl rfl hc
 ·intro E θ a w hD hi hp he hc
  have e14 := hp.o 14 rfl
  have e16 := hp.o 16 rfl
  have e17 := hp.o 17 rfl
  have e18 := hp.o 18 rfl
  have e19 := hp.o 19 rfl
  try dsimp only at hc
  rw [hi] at hc
  rcases boolEq ((((r_1.2 != 0) || (r_3.2 != 0)) || (r_5.2.2 != 0)) || (r_7.2.2 != 0)) with hb | hb
  ·have hf := he.h0.mP he 24 rfl e14
   replace hf := castB hb hf
   replace hf := hf.more he 26 rfl (onP e16)
   replace hf := castCT hb hf
   replace hf := hf.more he 27 rfl (onP e17)
   replace hf := castCT hb hf
   replace hf := hf.more he 28 rfl (onP e18)
   replace hf := castCT hb hf
   replace hf := hf.more he 29 rfl (onP e19)
   replace hf := castCT hb hf
   refine stS hf rfl rfl rfl fun a hf => ?_
   replace hf := castI (u := .slice (some ⟨(θ 160).b,0,none⟩) 4 4) hb hf
   refine zD θ he hi hf 30 rfl rfl rfl ?_
   try dsimp only
   rw [updE_self E 20]
   rw [gE_F (notF hb)]
   exact hc
  ·have hf := he.h0.mP he 24 rfl e14
   replace hf := castB hb hf
   replace hf := hf.more he 26 rfl (onP e16)
   replace hf := castCF hb hf
   replace hf := hf.more he 27 rfl (onP e17)
   replace hf := castCF hb hf
   replace hf := hf.more he 28 rfl (onP e18)
   replace hf := castCF hb hf
   replace hf := hf.more he 29 rfl (onP e19)
   replace hf := castCF hb hf
   refine stBS (rows := ([(⟨28,30⟩ : api_Span),(⟨38,40⟩ : api_Span),(⟨48,50⟩ : api_Span),(⟨58,60⟩ : api_Span)] : List api_Span).map enc_api_Span) (vs := [(0,.agg #[i6 28,i6 30]),(1,.agg #[i6 38,i6 40]),(2,.agg #[i6 48,i6 50]),(3,.agg #[i6 58,i6 60])]) hf hc rfl rfl sl_63 rfl ⟨rfl,rfl,rfl,rfl,rfl,rfl,rfl,rfl,rfl,rfl,rfl,rfl,trivial⟩ rfl rfl fun b_3 a w hf hc => ?_
   replace hf := castJ (u := undef) hb hf
   refine cNil ?_
   refine xThenN ?_
   intro ds u hau
   replace hc := ((hc.drop k2).pick k0).pick k1
   refine ⟨(setT θ 160 ⟨b_3,none,0,(fun _ => (none,0))⟩),he.put hi hau hf rfl [] trivial ⟨qq,qq,qq,qq,qq,qq,qq,qq,qq,qq,qq,qq,qq,qq,qq,qq,qq,qq,qq,qq,qq,qq,qq,qq,qq,qq,qq,qq,qq,qq,qq,qq,qq,qq,qq,qq,qq,qq,qq,qq,qq,qq,qq,qq,qq,qq,qq,qq,qq,qq,qq,qq,qq,qq,qq,qq,qq,qq,trivial⟩,?_⟩
   try dsimp only
   rw [updE_self E 20]
   rw [gE_T (notT hb)]
   exact hc
 ·intro E θ a w hD hi hp he hc
  have e14 := hp.o 14 rfl
  have e15 := hp.o 15 rfl
  have e20 := hp.o 20 rfl
  try dsimp only at hc
  rw [e20] at hc
  rcases boolEq ((((r_1.2 != 0) || (r_3.2 != 0)) || (r_5.2.2 != 0)) || (r_7.2.2 != 0)) with hb | hb
  ·have hf := he.h0.mP he 24 rfl e14
   replace hf := castB hb hf
   replace hf := hf.more he 25 rfl (onP e15)
   replace hf := castCT hb hf
   replace hf := hf.more he 30 rfl (onP e20)
   replace hf := castCT hb hf
   rw [gE_F (notF hb)] at hc
   refine stS hf rfl rfl rfl fun a hf => ?_
   replace hf := castI (u := .bool r_8) hb hf
   refine zD θ he hi hf 31 rfl rfl rfl ?_
   try dsimp only
   rw [updE_tru 21 e20]
   rw [gE_F (notF hb)]
   exact hc
  ·have hf := he.h0.mP he 24 rfl e14
   replace hf := castB hb hf
   replace hf := hf.more he 25 rfl (onP e15)
   replace hf := castCF hb hf
   replace hf := hf.more he 30 rfl (onP e20)
   replace hf := castCF hb hf
   rw [gE_T (notT hb)] at hc
   refine zQ (v := .bool r_8) hf hc en_29 rfl (fun w hc => by obtain ⟨G1,hle1,hrd1,hc,hth1⟩ := lend hc k9; obtain ⟨G2,hle2,hrd2,hc,hth2⟩ := lend hc k1; exact (kit_Same_api_Span_ok r_1.1 ([(⟨28,30⟩ : api_Span),(⟨38,40⟩ : api_Span),(⟨48,50⟩ : api_Span),(⟨58,60⟩ : api_Span)] : List api_Span) (hrd1.mono hle2) hrd2 hc (condT (notT hb) hr_8)).mono fun e w h => ⟨h.1,((hth1 _ _ ((hth2 _ _ h.2).unpick k1)).unpick k9)⟩) fun a w hf hc => ?_
   replace hf := castJ (u := undef) hb hf
   refine zD θ he hi hf 31 rfl rfl rfl ?_
   try dsimp only
   rw [updE_tru 21 e20]
   rw [gE_T (notT hb)]
   exact hc
 ·intro E θ a w hD hi hp he hc
  have e14 := hp.o 14 rfl
  have e21 := hp.o 21 rfl
  rcases boolEq ((((r_1.2 != 0) || (r_3.2 != 0)) || (r_5.2.2 != 0)) || (r_7.2.2 != 0)) with hb | hb
  ·have hf := he.h0.mP he 24 rfl e14
   replace hf := castB hb hf
   replace hf := hf.more he 31 rfl (onP e21)
   replace hf := castCT hb hf
   refine stS hf rfl rfl rfl fun a hf => ?_
   replace hf := castI (u := .bool (!r_8)) hb hf
   exact zD θ he hi hf 32 rfl rfl rfl hc
  ·have hf := he.h0.mP he 24 rfl e14
   replace hf := castB hb hf
   replace hf := hf.more he 31 rfl (onP e21)
   replace hf := castCF hb hf
   refine sp 1 hf rfl fun a hf => ?_
   replace hf := castJ (u := undef) hb hf
   exact zD θ he hi hf 32 rfl rfl rfl hc
 ·intro E θ a w hD hi hp he hc
  have e14 := hp.o 14 rfl
  have e22 := hp.o 22 rfl
  rcases boolEq ((((r_1.2 != 0) || (r_3.2 != 0)) || (r_5.2.2 != 0)) || (r_7.2.2 != 0)) with hb | hb
  ·have hf := he.h0.mP he 24 rfl e14
   replace hf := castB hb hf
   replace hf := hf.more he 32 rfl (onP e22)
   replace hf := castCT hb hf
   refine sp 1 hf rfl fun a hf => ?_
   replace hf := castV (v' := .bool (((((r_1.2 != 0) || (r_3.2 != 0)) || (r_5.2.2 != 0)) || (r_7.2.2 != 0)) || (!r_8))) (congrArg Value.bool (orT hb)) hf
   exact zD θ he hi hf 33 rfl rfl rfl hc
  ·have hf := he.h0.mP he 24 rfl e14
   replace hf := castB hb hf
   replace hf := hf.more he 32 rfl (onP e22)
   replace hf := castCF hb hf
   refine sp 1 hf rfl fun a hf => ?_
   replace hf := castV (v' := .bool (((((r_1.2 != 0) || (r_3.2 != 0)) || (r_5.2.2 != 0)) || (r_7.2.2 != 0)) || (!r_8))) (congrArg Value.bool (orF hb)) hf
   exact zD θ he hi hf 33 rfl rfl rfl hc
 ·intro E θ a w hD hi hp he hc
  have e23 := hp.o 23 rfl
  have hf := he.h0.mP he 33 rfl e23
  refine sp 1 hf rfl fun a hf => zD θ he hi hf 34 rfl rfl rfl hc
 ·intro E θ a w hD hi hp he hc
  have e24 := hp.o 24 rfl
  rcases boolEq (((((r_1.2 != 0) || (r_3.2 != 0)) || (r_5.2.2 != 0)) || (r_7.2.2 != 0)) || (!r_8)) with hb | hb
  ·have hf := (he.h0.mT he 2 rfl).mP he 34 rfl e24
   replace hf := castB hb hf
   refine stS hf rfl rfl rfl fun a hf => ?_
   replace hf := castI (u := .agg #[i6 r_3.1.Lo,i6 r_3.1.Hi]) hb hf
   exact zD θ he hi hf 35 rfl rfl rfl hc
  ·have hf := (he.h0.mT he 2 rfl).mP he 34 rfl e24
   replace hf := castB hb hf
   refine zN hf hc ag_71 m6 rfl fun a w hf hc => ?_
   replace hf := castJ (u := undef) hb hf
   exact zD θ he hi hf 35 rfl rfl rfl hc
 ·intro E θ a w hD hi hp he hc
  have e24 := hp.o 24 rfl
  rcases boolEq (((((r_1.2 != 0) || (r_3.2 != 0)) || (r_5.2.2 != 0)) || (r_7.2.2 != 0)) || (!r_8)) with hb | hb
  ·have hf := he.h0.mP he 34 rfl e24
   replace hf := castB hb hf
   refine stS hf rfl rfl rfl fun a hf => ?_
   replace hf := castI (u := .agg #[i6 r_9.Lo,i6 r_9.Hi]) hb hf
   exact zD θ he hi hf 36 rfl rfl rfl hc
  ·have hf := he.h0.mP he 34 rfl e24
   replace hf := castB hb hf
   refine zQ (v := .agg #[i6 r_9.Lo,i6 r_9.Hi]) hf hc en_30 rfl (fun w hc => law07_span_ok 86 90 hc (condT (notT hb) hr_9)) fun a w hf hc => ?_
   replace hf := castJ (u := undef) hb hf
   exact zD θ he hi hf 36 rfl rfl rfl hc
 ·intro E θ a w hD hi hp he hc
  have e24 := hp.o 24 rfl
  have e25 := hp.o 25 rfl
  have e26 := hp.o 26 rfl
  rcases boolEq (((((r_1.2 != 0) || (r_3.2 != 0)) || (r_5.2.2 != 0)) || (r_7.2.2 != 0)) || (!r_8)) with hb | hb
  ·have hf := he.h0.mP he 34 rfl e24
   replace hf := castB hb hf
   replace hf := hf.more he 35 rfl (onP e25)
   replace hf := castCT hb hf
   replace hf := hf.more he 36 rfl (onP e26)
   replace hf := castCT hb hf
   refine stS hf rfl rfl rfl fun a hf => ?_
   replace hf := castI (u := .bool (!(r_3.1.Lo == r_9.Lo && r_3.1.Hi == r_9.Hi))) hb hf
   exact zD θ he hi hf 37 rfl rfl rfl hc
  ·have hf := he.h0.mP he 34 rfl e24
   replace hf := castB hb hf
   replace hf := hf.more he 35 rfl (onP e25)
   replace hf := castCF hb hf
   replace hf := hf.more he 36 rfl (onP e26)
   replace hf := castCF hb hf
   refine zP hf rfl (pNeA ge_71 rfl rfl (eqs_71 _ _ _ _)) fun a hf => ?_
   replace hf := castJ (u := undef) hb hf
   exact zD θ he hi hf 37 rfl rfl rfl hc
 ·intro E θ a w hD hi hp he hc
  have e24 := hp.o 24 rfl
  have e27 := hp.o 27 rfl
  rcases boolEq (((((r_1.2 != 0) || (r_3.2 != 0)) || (r_5.2.2 != 0)) || (r_7.2.2 != 0)) || (!r_8)) with hb | hb
  ·have hf := he.h0.mP he 34 rfl e24
   replace hf := castB hb hf
   replace hf := hf.more he 37 rfl (onP e27)
   replace hf := castCT hb hf
   refine sp 1 hf rfl fun a hf => ?_
   replace hf := castV (v' := .bool ((((((r_1.2 != 0) || (r_3.2 != 0)) || (r_5.2.2 != 0)) || (r_7.2.2 != 0)) || (!r_8)) || (!(r_3.1.Lo == r_9.Lo && r_3.1.Hi == r_9.Hi)))) (congrArg Value.bool (orT hb)) hf
   exact zD θ he hi hf 38 rfl rfl rfl hc
  ·have hf := he.h0.mP he 34 rfl e24
   replace hf := castB hb hf
   replace hf := hf.more he 37 rfl (onP e27)
   replace hf := castCF hb hf
   refine sp 1 hf rfl fun a hf => ?_
   replace hf := castV (v' := .bool ((((((r_1.2 != 0) || (r_3.2 != 0)) || (r_5.2.2 != 0)) || (r_7.2.2 != 0)) || (!r_8)) || (!(r_3.1.Lo == r_9.Lo && r_3.1.Hi == r_9.Hi)))) (congrArg Value.bool (orF hb)) hf
   exact zD θ he hi hf 38 rfl rfl rfl hc
 ·intro E θ a w hD hi hp he hc
  have e28 := hp.o 28 rfl
  have hf := he.h0.mP he 38 rfl e28
  refine sp 1 hf rfl fun a hf => zD θ he hi hf 39 rfl rfl rfl hc
 ·intro E θ a w hD hi hp he hc
  have e29 := hp.o 29 rfl
  rcases boolEq ((((((r_1.2 != 0) || (r_3.2 != 0)) || (r_5.2.2 != 0)) || (r_7.2.2 != 0)) || (!r_8)) || (!(r_3.1.Lo == r_9.Lo && r_3.1.Hi == r_9.Hi))) with hb | hb
  ·have hf := (he.h0.mT he 4 rfl).mP he 39 rfl e29
   replace hf := castB hb hf
   refine stS hf rfl rfl rfl fun a hf => ?_
   replace hf := castI (u := .agg #[i6 r_5.1.Lo,i6 r_5.1.Hi]) hb hf
   exact zD θ he hi hf 40 rfl rfl rfl hc
  ·have hf := (he.h0.mT he 4 rfl).mP he 39 rfl e29
   replace hf := castB hb hf
   refine zN hf hc ag_71 m3 rfl fun a w hf hc => ?_
   replace hf := castJ (u := undef) hb hf
   exact zD θ he hi hf 40 rfl rfl rfl hc
 ·intro E θ a w hD hi hp he hc
  have e29 := hp.o 29 rfl
  rcases boolEq ((((((r_1.2 != 0) || (r_3.2 != 0)) || (r_5.2.2 != 0)) || (r_7.2.2 != 0)) || (!r_8)) || (!(r_3.1.Lo == r_9.Lo && r_3.1.Hi == r_9.Hi))) with hb | hb
  ·have hf := he.h0.mP he 39 rfl e29
   replace hf := castB hb hf
   refine stS hf rfl rfl rfl fun a hf => ?_
   replace hf := castI (u := .agg #[i6 r_10.Lo,i6 r_10.Hi]) hb hf
   exact zD θ he hi hf 41 rfl rfl rfl hc
  ·have hf := he.h0.mP he 39 rfl e29
   replace hf := castB hb hf
   refine zQ (v := .agg #[i6 r_10.Lo,i6 r_10.Hi]) hf hc en_30 rfl (fun w hc => law07_span_ok 58 60 hc (condT (notT hb) hr_10)) fun a w hf hc => ?_
   replace hf := castJ (u := undef) hb hf
   exact zD θ he hi hf 41 rfl rfl rfl hc
 ·intro E θ a w hD hi hp he hc
  have e29 := hp.o 29 rfl
  have e30 := hp.o 30 rfl
  have e31 := hp.o 31 rfl
  rcases boolEq ((((((r_1.2 != 0) || (r_3.2 != 0)) || (r_5.2.2 != 0)) || (r_7.2.2 != 0)) || (!r_8)) || (!(r_3.1.Lo == r_9.Lo && r_3.1.Hi == r_9.Hi))) with hb | hb
  ·have hf := he.h0.mP he 39 rfl e29
   replace hf := castB hb hf
   replace hf := hf.more he 40 rfl (onP e30)
   replace hf := castCT hb hf
   replace hf := hf.more he 41 rfl (onP e31)
   replace hf := castCT hb hf
   refine stS hf rfl rfl rfl fun a hf => ?_
   replace hf := castI (u := .bool (!(r_5.1.Lo == r_10.Lo && r_5.1.Hi == r_10.Hi))) hb hf
   exact zD θ he hi hf 42 rfl rfl rfl hc
  ·have hf := he.h0.mP he 39 rfl e29
   replace hf := castB hb hf
   replace hf := hf.more he 40 rfl (onP e30)
   replace hf := castCF hb hf
   replace hf := hf.more he 41 rfl (onP e31)
   replace hf := castCF hb hf
   refine zP hf rfl (pNeA ge_71 rfl rfl (eqs_71 _ _ _ _)) fun a hf => ?_
   replace hf := castJ (u := undef) hb hf
   exact zD θ he hi hf 42 rfl rfl rfl hc
 ·intro E θ a w hD hi hp he hc
  have e29 := hp.o 29 rfl
  have e32 := hp.o 32 rfl
  rcases boolEq ((((((r_1.2 != 0) || (r_3.2 != 0)) || (r_5.2.2 != 0)) || (r_7.2.2 != 0)) || (!r_8)) || (!(r_3.1.Lo == r_9.Lo && r_3.1.Hi == r_9.Hi))) with hb | hb
  ·have hf := he.h0.mP he 39 rfl e29
   replace hf := castB hb hf
   replace hf := hf.more he 42 rfl (onP e32)
   replace hf := castCT hb hf
   refine sp 1 hf rfl fun a hf => ?_
   replace hf := castV (v' := .bool (((((((r_1.2 != 0) || (r_3.2 != 0)) || (r_5.2.2 != 0)) || (r_7.2.2 != 0)) || (!r_8)) || (!(r_3.1.Lo == r_9.Lo && r_3.1.Hi == r_9.Hi))) || (!(r_5.1.Lo == r_10.Lo && r_5.1.Hi == r_10.Hi)))) (congrArg Value.bool (orT hb)) hf
   exact zD θ he hi hf 43 rfl rfl rfl hc
  ·have hf := he.h0.mP he 39 rfl e29
   replace hf := castB hb hf
   replace hf := hf.more he 42 rfl (onP e32)
   replace hf := castCF hb hf
   refine sp 1 hf rfl fun a hf => ?_
   replace hf := castV (v' := .bool (((((((r_1.2 != 0) || (r_3.2 != 0)) || (r_5.2.2 != 0)) || (r_7.2.2 != 0)) || (!r_8)) || (!(r_3.1.Lo == r_9.Lo && r_3.1.Hi == r_9.Hi))) || (!(r_5.1.Lo == r_10.Lo && r_5.1.Hi == r_10.Hi)))) (congrArg Value.bool (orF hb)) hf
   exact zD θ he hi hf 43 rfl rfl rfl hc
 ·intro E θ a w hD hi hp he hc
  have e33 := hp.o 33 rfl
  have hf := he.h0.mP he 43 rfl e33
  refine sp 1 hf rfl fun a hf => zD θ he hi hf 44 rfl rfl rfl hc
 ·intro E θ a w hD hi hp he hc
  have e34 := hp.o 34 rfl
  rcases boolEq (((((((r_1.2 != 0) || (r_3.2 != 0)) || (r_5.2.2 != 0)) || (r_7.2.2 != 0)) || (!r_8)) || (!(r_3.1.Lo == r_9.Lo && r_3.1.Hi == r_9.Hi))) || (!(r_5.1.Lo == r_10.Lo && r_5.1.Hi == r_10.Hi))) with hb | hb
  ·have hf := (he.h0.mT he 5 rfl).mP he 44 rfl e34
   replace hf := castB hb hf
   refine stS hf rfl rfl rfl fun a hf => ?_
   replace hf := castI (u := .slice p_5 r_5.2.1.length c_5) hb hf
   exact zD θ he hi hf 45 rfl rfl rfl hc
  ·have hf := (he.h0.mT he 5 rfl).mP he 44 rfl e34
   replace hf := castB hb hf
   refine sp 1 hf rfl fun a hf => ?_
   replace hf := castJ (u := undef) hb hf
   exact zD θ he hi hf 45 rfl rfl rfl hc
 ·intro E θ a w hD hi hp he hc
  have e34 := hp.o 34 rfl
  try dsimp only at hc
  rw [hi] at hc
  rcases boolEq (((((((r_1.2 != 0) || (r_3.2 != 0)) || (r_5.2.2 != 0)) || (r_7.2.2 != 0)) || (!r_8)) || (!(r_3.1.Lo == r_9.Lo && r_3.1.Hi == r_9.Hi))) || (!(r_5.1.Lo == r_10.Lo && r_5.1.Hi == r_10.Hi))) with hb | hb
  ·have hf := he.h0.mP he 44 rfl e34
   replace hf := castB hb hf
   refine stS hf rfl rfl rfl fun a hf => ?_
   replace hf := castI (u := .slice (some ⟨(θ 288).b,0,none⟩) 1 1) hb hf
   refine zD θ he hi hf 46 rfl rfl rfl ?_
   try dsimp only
   rw [updE_self E 36]
   rw [gE_F (notF hb)]
   exact hc
  ·have hf := he.h0.mP he 44 rfl e34
   replace hf := castB hb hf
   refine stBS (rows := ([3] : List Int).map encI_i64) (vs := [(0,i6 3)]) hf hc rfl rfl sl_27 rfl ⟨rfl,rfl,rfl,trivial⟩ rfl rfl fun b_4 a w hf hc => ?_
   replace hf := castJ (u := undef) hb hf
   refine cNil ?_
   refine xThenN ?_
   intro ds u hau
   replace hc := hc.drop k1
   refine ⟨(setT θ 288 ⟨b_4,none,0,(fun _ => (none,0))⟩),he.put hi hau hf rfl [] trivial ⟨qq,qq,qq,qq,qq,qq,qq,qq,qq,qq,qq,qq,qq,qq,qq,qq,qq,qq,qq,qq,qq,qq,qq,qq,qq,qq,qq,qq,qq,qq,qq,qq,qq,qq,qq,qq,qq,qq,qq,qq,qq,qq,qq,qq,qq,qq,qq,qq,qq,qq,qq,qq,qq,qq,qq,qq,qq,qq,trivial⟩,?_⟩
   try dsimp only
   rw [updE_self E 36]
   rw [gE_T (notT hb)]
   exact hc
 ·intro E θ a w hD hi hp he hc
  have e34 := hp.o 34 rfl
  have e35 := hp.o 35 rfl
  have e36 := hp.o 36 rfl
  try dsimp only at hc
  rw [e36] at hc
  rcases boolEq (((((((r_1.2 != 0) || (r_3.2 != 0)) || (r_5.2.2 != 0)) || (r_7.2.2 != 0)) || (!r_8)) || (!(r_3.1.Lo == r_9.Lo && r_3.1.Hi == r_9.Hi))) || (!(r_5.1.Lo == r_10.Lo && r_5.1.Hi == r_10.Hi))) with hb | hb
  ·have hf := he.h0.mP he 44 rfl e34
   replace hf := castB hb hf
   replace hf := hf.more he 45 rfl (onP e35)
   replace hf := castCT hb hf
   replace hf := hf.more he 46 rfl (onP e36)
   replace hf := castCT hb hf
   rw [gE_F (notF hb)] at hc
   refine stS hf rfl rfl rfl fun a hf => ?_
   replace hf := castI (u := .bool r_11) hb hf
   refine zD θ he hi hf 47 rfl rfl rfl ?_
   try dsimp only
   rw [updE_tru 37 e36]
   rw [gE_F (notF hb)]
   exact hc
  ·have hf := he.h0.mP he 44 rfl e34
   replace hf := castB hb hf
   replace hf := hf.more he 45 rfl (onP e35)
   replace hf := castCF hb hf
   replace hf := hf.more he 46 rfl (onP e36)
   replace hf := castCF hb hf
   rw [gE_T (notT hb)] at hc
   refine zQ (v := .bool r_11) hf hc en_31 rfl (fun w hc => by obtain ⟨G1,hle1,hrd1,hc,hth1⟩ := lend hc k5; obtain ⟨G2,hle2,hrd2,hc,hth2⟩ := lend hc k0; exact (kit_Same_int_ok r_5.2.1 ([3] : List Int) (hrd1.mono hle2) hrd2 hc (condT (notT hb) hr_11)).mono fun e w h => ⟨h.1,((hth1 _ _ ((hth2 _ _ h.2).unpick k0)).unpick k5)⟩) fun a w hf hc => ?_
   replace hf := castJ (u := undef) hb hf
   refine zD θ he hi hf 47 rfl rfl rfl ?_
   try dsimp only
   rw [updE_tru 37 e36]
   rw [gE_T (notT hb)]
   exact hc
 ·intro E θ a w hD hi hp he hc
  have e34 := hp.o 34 rfl
  have e37 := hp.o 37 rfl
  rcases boolEq (((((((r_1.2 != 0) || (r_3.2 != 0)) || (r_5.2.2 != 0)) || (r_7.2.2 != 0)) || (!r_8)) || (!(r_3.1.Lo == r_9.Lo && r_3.1.Hi == r_9.Hi))) || (!(r_5.1.Lo == r_10.Lo && r_5.1.Hi == r_10.Hi))) with hb | hb
  ·have hf := he.h0.mP he 44 rfl e34
   replace hf := castB hb hf
   replace hf := hf.more he 47 rfl (onP e37)
   replace hf := castCT hb hf
   refine stS hf rfl rfl rfl fun a hf => ?_
   replace hf := castI (u := .bool (!r_11)) hb hf
   exact zD θ he hi hf 48 rfl rfl rfl hc
  ·have hf := he.h0.mP he 44 rfl e34
   replace hf := castB hb hf
   replace hf := hf.more he 47 rfl (onP e37)
   replace hf := castCF hb hf
   refine sp 1 hf rfl fun a hf => ?_
   replace hf := castJ (u := undef) hb hf
   exact zD θ he hi hf 48 rfl rfl rfl hc
 ·intro E θ a w hD hi hp he hc
  have e34 := hp.o 34 rfl
  have e38 := hp.o 38 rfl
  rcases boolEq (((((((r_1.2 != 0) || (r_3.2 != 0)) || (r_5.2.2 != 0)) || (r_7.2.2 != 0)) || (!r_8)) || (!(r_3.1.Lo == r_9.Lo && r_3.1.Hi == r_9.Hi))) || (!(r_5.1.Lo == r_10.Lo && r_5.1.Hi == r_10.Hi))) with hb | hb
  ·have hf := he.h0.mP he 44 rfl e34
   replace hf := castB hb hf
   replace hf := hf.more he 48 rfl (onP e38)
   replace hf := castCT hb hf
   refine sp 1 hf rfl fun a hf => ?_
   replace hf := castV (v' := .bool ((((((((r_1.2 != 0) || (r_3.2 != 0)) || (r_5.2.2 != 0)) || (r_7.2.2 != 0)) || (!r_8)) || (!(r_3.1.Lo == r_9.Lo && r_3.1.Hi == r_9.Hi))) || (!(r_5.1.Lo == r_10.Lo && r_5.1.Hi == r_10.Hi))) || (!r_11))) (congrArg Value.bool (orT hb)) hf
   exact zD θ he hi hf 49 rfl rfl rfl hc
  ·have hf := he.h0.mP he 44 rfl e34
   replace hf := castB hb hf
   replace hf := hf.more he 48 rfl (onP e38)
   replace hf := castCF hb hf
   refine sp 1 hf rfl fun a hf => ?_
   replace hf := castV (v' := .bool ((((((((r_1.2 != 0) || (r_3.2 != 0)) || (r_5.2.2 != 0)) || (r_7.2.2 != 0)) || (!r_8)) || (!(r_3.1.Lo == r_9.Lo && r_3.1.Hi == r_9.Hi))) || (!(r_5.1.Lo == r_10.Lo && r_5.1.Hi == r_10.Hi))) || (!r_11))) (congrArg Value.bool (orF hb)) hf
   exact zD θ he hi hf 49 rfl rfl rfl hc
 ·intro E θ a w hD hi hp he hc
  have e39 := hp.o 39 rfl
  have hf := he.h0.mP he 49 rfl e39
  refine sp 1 hf rfl fun a hf => zD θ he hi hf 50 rfl rfl rfl hc
 ·intro E θ a w hD hi hp he hc
  have e40 := hp.o 40 rfl
  rcases boolEq ((((((((r_1.2 != 0) || (r_3.2 != 0)) || (r_5.2.2 != 0)) || (r_7.2.2 != 0)) || (!r_8)) || (!(r_3.1.Lo == r_9.Lo && r_3.1.Hi == r_9.Hi))) || (!(r_5.1.Lo == r_10.Lo && r_5.1.Hi == r_10.Hi))) || (!r_11)) with hb | hb
  ·have hf := (he.h0.mT he 7 rfl).mP he 50 rfl e40
   replace hf := castB hb hf
   refine stS hf rfl rfl rfl fun a hf => ?_
   replace hf := castI (u := i6 r_7.1) hb hf
   exact zD θ he hi hf 51 rfl rfl rfl hc
  ·have hf := (he.h0.mT he 7 rfl).mP he 50 rfl e40
   replace hf := castB hb hf
   refine sp 1 hf rfl fun a hf => ?_
   replace hf := castJ (u := undef) hb hf
   exact zD θ he hi hf 51 rfl rfl rfl hc
 ·intro E θ a w hD hi hp he hc
  have e40 := hp.o 40 rfl
  have e41 := hp.o 41 rfl
  rcases boolEq ((((((((r_1.2 != 0) || (r_3.2 != 0)) || (r_5.2.2 != 0)) || (r_7.2.2 != 0)) || (!r_8)) || (!(r_3.1.Lo == r_9.Lo && r_3.1.Hi == r_9.Hi))) || (!(r_5.1.Lo == r_10.Lo && r_5.1.Hi == r_10.Hi))) || (!r_11)) with hb | hb
  ·have hf := he.h0.mP he 50 rfl e40
   replace hf := castB hb hf
   replace hf := hf.more he 51 rfl (onP e41)
   replace hf := castCT hb hf
   refine stS hf rfl rfl rfl fun a hf => ?_
   replace hf := castI (u := .bool (r_7.1 != 0)) hb hf
   exact zD θ he hi hf 52 rfl rfl rfl hc
  ·have hf := he.h0.mP he 50 rfl e40
   replace hf := castB hb hf
   replace hf := hf.more he 51 rfl (onP e41)
   replace hf := castCF hb hf
   refine sp 1 hf rfl fun a hf => ?_
   replace hf := castJ (u := undef) hb hf
   exact zD θ he hi hf 52 rfl rfl rfl hc
 ·intro E θ a w hD hi hp he hc
  have e40 := hp.o 40 rfl
  have e42 := hp.o 42 rfl
  rcases boolEq ((((((((r_1.2 != 0) || (r_3.2 != 0)) || (r_5.2.2 != 0)) || (r_7.2.2 != 0)) || (!r_8)) || (!(r_3.1.Lo == r_9.Lo && r_3.1.Hi == r_9.Hi))) || (!(r_5.1.Lo == r_10.Lo && r_5.1.Hi == r_10.Hi))) || (!r_11)) with hb | hb
  ·have hf := he.h0.mP he 50 rfl e40
   replace hf := castB hb hf
   replace hf := hf.more he 52 rfl (onP e42)
   replace hf := castCT hb hf
   refine sp 1 hf rfl fun a hf => ?_
   replace hf := castV (v' := .bool (((((((((r_1.2 != 0) || (r_3.2 != 0)) || (r_5.2.2 != 0)) || (r_7.2.2 != 0)) || (!r_8)) || (!(r_3.1.Lo == r_9.Lo && r_3.1.Hi == r_9.Hi))) || (!(r_5.1.Lo == r_10.Lo && r_5.1.Hi == r_10.Hi))) || (!r_11)) || (r_7.1 != 0))) (congrArg Value.bool (orT hb)) hf
   exact zD θ he hi hf 53 rfl rfl rfl hc
  ·have hf := he.h0.mP he 50 rfl e40
   replace hf := castB hb hf
   replace hf := hf.more he 52 rfl (onP e42)
   replace hf := castCF hb hf
   refine sp 1 hf rfl fun a hf => ?_
   replace hf := castV (v' := .bool (((((((((r_1.2 != 0) || (r_3.2 != 0)) || (r_5.2.2 != 0)) || (r_7.2.2 != 0)) || (!r_8)) || (!(r_3.1.Lo == r_9.Lo && r_3.1.Hi == r_9.Hi))) || (!(r_5.1.Lo == r_10.Lo && r_5.1.Hi == r_10.Hi))) || (!r_11)) || (r_7.1 != 0))) (congrArg Value.bool (orF hb)) hf
   exact zD θ he hi hf 53 rfl rfl rfl hc
 ·intro E θ a w hD hi hp he hc
  have e43 := hp.o 43 rfl
  have hf := he.h0.mP he 53 rfl e43
  refine sp 1 hf rfl fun a hf => zD θ he hi hf 54 rfl rfl rfl hc
 ·intro E θ a w hD hi hp he hc
  have e44 := hp.o 44 rfl
  rcases boolEq (((((((((r_1.2 != 0) || (r_3.2 != 0)) || (r_5.2.2 != 0)) || (r_7.2.2 != 0)) || (!r_8)) || (!(r_3.1.Lo == r_9.Lo && r_3.1.Hi == r_9.Hi))) || (!(r_5.1.Lo == r_10.Lo && r_5.1.Hi == r_10.Hi))) || (!r_11)) || (r_7.1 != 0)) with hb | hb
  ·have hf := (he.h0.mT he 8 rfl).mP he 54 rfl e44
   replace hf := castB hb hf
   refine stS hf rfl rfl rfl fun a hf => ?_
   replace hf := castI (u := i6 r_7.2.1) hb hf
   exact zD θ he hi hf 55 rfl rfl rfl hc
  ·have hf := (he.h0.mT he 8 rfl).mP he 54 rfl e44
   replace hf := castB hb hf
   refine sp 1 hf rfl fun a hf => ?_
   replace hf := castJ (u := undef) hb hf
   exact zD θ he hi hf 55 rfl rfl rfl hc
 ·intro E θ a w hD hi hp he hc
  have e44 := hp.o 44 rfl
  have e45 := hp.o 45 rfl
  rcases boolEq (((((((((r_1.2 != 0) || (r_3.2 != 0)) || (r_5.2.2 != 0)) || (r_7.2.2 != 0)) || (!r_8)) || (!(r_3.1.Lo == r_9.Lo && r_3.1.Hi == r_9.Hi))) || (!(r_5.1.Lo == r_10.Lo && r_5.1.Hi == r_10.Hi))) || (!r_11)) || (r_7.1 != 0)) with hb | hb
  ·have hf := he.h0.mP he 54 rfl e44
   replace hf := castB hb hf
   replace hf := hf.more he 55 rfl (onP e45)
   replace hf := castCT hb hf
   refine stS hf rfl rfl rfl fun a hf => ?_
   replace hf := castI (u := .bool (r_7.2.1 != 3)) hb hf
   exact zD θ he hi hf 56 rfl rfl rfl hc
  ·have hf := he.h0.mP he 54 rfl e44
   replace hf := castB hb hf
   replace hf := hf.more he 55 rfl (onP e45)
   replace hf := castCF hb hf
   refine sp 1 hf rfl fun a hf => ?_
   replace hf := castJ (u := undef) hb hf
   exact zD θ he hi hf 56 rfl rfl rfl hc
 ·intro E θ a w hD hi hp he hc
  have e44 := hp.o 44 rfl
  have e46 := hp.o 46 rfl
  rcases boolEq (((((((((r_1.2 != 0) || (r_3.2 != 0)) || (r_5.2.2 != 0)) || (r_7.2.2 != 0)) || (!r_8)) || (!(r_3.1.Lo == r_9.Lo && r_3.1.Hi == r_9.Hi))) || (!(r_5.1.Lo == r_10.Lo && r_5.1.Hi == r_10.Hi))) || (!r_11)) || (r_7.1 != 0)) with hb | hb
  ·have hf := he.h0.mP he 54 rfl e44
   replace hf := castB hb hf
   replace hf := hf.more he 56 rfl (onP e46)
   replace hf := castCT hb hf
   refine sp 1 hf rfl fun a hf => ?_
   replace hf := castV (v' := .bool ((((((((((r_1.2 != 0) || (r_3.2 != 0)) || (r_5.2.2 != 0)) || (r_7.2.2 != 0)) || (!r_8)) || (!(r_3.1.Lo == r_9.Lo && r_3.1.Hi == r_9.Hi))) || (!(r_5.1.Lo == r_10.Lo && r_5.1.Hi == r_10.Hi))) || (!r_11)) || (r_7.1 != 0)) || (r_7.2.1 != 3))) (congrArg Value.bool (orT hb)) hf
   exact zD θ he hi hf 57 rfl rfl rfl hc
  ·have hf := he.h0.mP he 54 rfl e44
   replace hf := castB hb hf
   replace hf := hf.more he 56 rfl (onP e46)
   replace hf := castCF hb hf
   refine sp 1 hf rfl fun a hf => ?_
   replace hf := castV (v' := .bool ((((((((((r_1.2 != 0) || (r_3.2 != 0)) || (r_5.2.2 != 0)) || (r_7.2.2 != 0)) || (!r_8)) || (!(r_3.1.Lo == r_9.Lo && r_3.1.Hi == r_9.Hi))) || (!(r_5.1.Lo == r_10.Lo && r_5.1.Hi == r_10.Hi))) || (!r_11)) || (r_7.1 != 0)) || (r_7.2.1 != 3))) (congrArg Value.bool (orF hb)) hf
   exact zD θ he hi hf 57 rfl rfl rfl hc
 ·intro E θ a w hall he hc
  have hf := he.h0
  have e20 := hall 20 rfl
  have e36 := hall 36 rfl
  have e47 := hall 47 rfl
  replace hf := hf.more he 57 rfl (onP e47)
  try dsimp only at hc
  rw [e20,e36] at hc
  replace hc := (hc.drop k1).drop k0
  exact ⟨hf.kp rfl,hc⟩
 rintro a w ⟨hf,hc⟩
 refine h7 _ _ ?_
 refine zI hf rfl hF ?_ ?_ <;> clear hF <;> intro hF
 ·refine zS fun K h => sp 1 hf rfl fun a hf => zT h ?_
  refine wp_ret ?_
  refine xThenR ?_
  obtain rfl := sj hF
  replace hc := (((((((hc.drop k7).drop k6).drop k5).drop k4).drop k3).drop k2).drop k1).drop k0
  exact zO1 Try.results13 hf rfl ⟨rfl,hc⟩
 ·refine wp_skip ?_
  refine h6 _ _ ?_
  refine wp_seq_k fun K9 h9 => cReg ?_
  obtain ⟨r_12,hr_12,hF⟩ := bnd_some hF
  refine zC hf en_25 rfl (law07_Four_ok 58 hc hr_12) ?_
  rintro _ w ⟨p_7,c_7,rfl,hc⟩
  refine ⟨_,rfl,fun a hf => ?_⟩
  refine zP hf rfl (pBuildS (cells := [i6 20,i6 35]) bt_71 rfl rfl) fun a hf => zP hf rfl (pBuildS (cells := [i6 30,i6 40]) bt_71 rfl rfl) fun a hf => zP hf rfl (pBuildS (cells := [i6 49,i6 60]) bt_71 rfl rfl) fun a hf => zP hf rfl (pBuildS (cells := [i6 50,i6 60]) bt_71 rfl rfl) fun a hf => stBS (rows := ([(⟨20,35⟩ : api_Span),(⟨30,40⟩ : api_Span),(⟨49,60⟩ : api_Span),(⟨50,60⟩ : api_Span)] : List api_Span).map enc_api_Span) (vs := [(0,.agg #[i6 20,i6 35]),(1,.agg #[i6 30,i6 40]),(2,.agg #[i6 49,i6 60]),(3,.agg #[i6 50,i6 60])]) hf hc rfl rfl sl_63 rfl ⟨rfl,rfl,rfl,rfl,rfl,rfl,rfl,rfl,rfl,rfl,rfl,rfl,trivial⟩ rfl rfl fun b_5 a w hf hc => ?_
  obtain ⟨r_13,hr_13,hF⟩ := bnd_some hF
  obtain ⟨G1,hle1,hrd1,hc,hth1⟩ := lend hc k1
  obtain ⟨G2,hle2,hrd2,hc,hth2⟩ := lend hc k0
  refine zC hf en_32 rfl (daily_Again_ok r_12 ([(⟨20,35⟩ : api_Span),(⟨30,40⟩ : api_Span),(⟨49,60⟩ : api_Span),(⟨50,60⟩ : api_Span)] : List api_Span) (hrd1.mono hle2) hrd2 hc hr_13) ?_
  rintro _ w ⟨p_8,c_8,rfl,hc⟩
  refine ⟨_,rfl,fun a hf => ?_⟩
  replace hc := hth2 _ _ hc
  replace hc := hth1 _ _ hc
  refine sp 5 hf rfl fun a hf => cNil ?_
  replace hc := (((((((((hc.drop k10).drop k9).drop k8).drop k7).drop k6).drop k5).drop k4).drop k3).drop k1).drop k0
  refine h9 _ _ ?_
  refine zS fun K h => stBS (rows := ([10,14,12,20] : List Int).map encI_i64) (vs := [(0,i6 10),(1,i6 14),(2,i6 12),(3,i6 20)]) hf hc rfl rfl sl_27 rfl ⟨rfl,rfl,rfl,rfl,rfl,rfl,rfl,rfl,rfl,rfl,rfl,rfl,trivial⟩ rfl rfl fun b_6 a w hf hc => ?_
  obtain ⟨r_14,hr_14,hF⟩ := bnd_some hF
  obtain ⟨G1,hle1,hrd1,hc,hth1⟩ := lend hc k0
  refine zC hf en_33 rfl (law07_Counter_ok ([10,14,12,20] : List Int) hrd1 hc hr_14) ?_
  rintro _ w ⟨p_9,c_9,rfl,hc⟩
  refine ⟨_,rfl,fun a hf => ?_⟩
  replace hc := hth1 _ _ hc
  obtain ⟨r_15,hr_15,hF⟩ := bnd_some hF
  obtain ⟨G1,hle1,hrd1,hc,hth1⟩ := lend hc k1
  refine zC hf en_6 rfl (daily_Correct_ok r_14 hrd1 hc hr_15) ?_
  rintro _ w ⟨p_10,c_10,rfl,hc⟩
  refine ⟨_,rfl,fun a hf => ?_⟩
  replace hc := hth1 _ _ hc
  refine sp 7 hf rfl fun a hf => zT h ?_
  refine zS fun K h => stBS (rows := ([9,5,7,3] : List Int).map encI_i64) (vs := [(0,i6 9),(1,i6 5),(2,i6 7),(3,i6 3)]) hf hc rfl rfl sl_27 rfl ⟨rfl,rfl,rfl,rfl,rfl,rfl,rfl,rfl,rfl,rfl,rfl,rfl,trivial⟩ rfl rfl fun b_7 a w hf hc => ?_
  obtain ⟨r_16,hr_16,hF⟩ := bnd_some hF
  obtain ⟨G1,hle1,hrd1,hc,hth1⟩ := lend hc k0
  refine zC hf en_33 rfl (law07_Counter_ok ([9,5,7,3] : List Int) hrd1 hc hr_16) ?_
  rintro _ w ⟨p_11,c_11,rfl,hc⟩
  refine ⟨_,rfl,fun a hf => ?_⟩
  replace hc := hth1 _ _ hc
  refine zP hf rfl (pBuildS (cells := [i6 0,i6 1,i6 1]) bt_43 rfl rfl) fun a hf => zP hf rfl (pBuildS (cells := [i6 2,i6 3,i6 1]) bt_43 rfl rfl) fun a hf => stBS (rows := ([(⟨0,1,1⟩ : daily_Fall),(⟨2,3,1⟩ : daily_Fall)] : List daily_Fall).map enc_daily_Fall) (vs := [(0,.agg #[i6 0,i6 1,i6 1]),(1,.agg #[i6 2,i6 3,i6 1])]) hf hc rfl rfl sl_33 rfl ⟨rfl,rfl,rfl,rfl,rfl,rfl,trivial⟩ rfl rfl fun b_8 a w hf hc => ?_
  obtain ⟨r_17,hr_17,hF⟩ := bnd_some hF
  refine zQ (v := .tuple #[i6 r_17.1,i6 r_17.2]) hf hc en_9 rfl (fun w hc => by obtain ⟨G1,hle1,hrd1,hc,hth1⟩ := lend hc k2; obtain ⟨G2,hle2,hrd2,hc,hth2⟩ := lend hc k0; exact (daily_Proves_ok r_16 ([(⟨0,1,1⟩ : daily_Fall),(⟨2,3,1⟩ : daily_Fall)] : List daily_Fall) (hrd1.mono hle2) hrd2 hc hr_17).mono fun e w h => ⟨h.1,((hth1 _ _ ((hth2 _ _ h.2).unpick k0)).unpick k2)⟩) fun a w hf hc => sp 5 hf rfl fun a hf => zT h ?_
  refine zS fun K h => sp 3 hf rfl fun a hf => stCc 3 (fun a => Has 139 a [(11,.slice p_8 r_13.1.length c_8),(2,i6 r_13.2),(12,.slice p_10 r_15.1.length c_10),(13,i6 r_15.2.1),(4,i6 r_15.2.2),(14,i6 r_17.1),(7,i6 r_17.2),(111,i6 r_13.2),(112,.bool (r_13.2 == 0)),(113,.bool (r_13.2 == 0)),(116,.bool ((r_13.2 == 0) && (r_15.2.2 == 0)))]) hc ?_ ?_
  ·cases hb : (r_13.2 == 0)
   ·rw [hb] at hf
    refine stS hf rfl rfl rfl fun a hf => stS hf rfl rfl rfl fun a hf => sp 1 hf rfl fun a hf => cNil ⟨hf.kp rfl,hc⟩
   ·rw [hb] at hf
    refine sp 3 hf rfl fun a hf => cNil ⟨hf.kp rfl,hc⟩
  intro a w ⟨hf,hc⟩
  refine sp 1 hf rfl fun a hf => stCc 3 (fun a => Has 139 a [(11,.slice p_8 r_13.1.length c_8),(2,i6 r_13.2),(12,.slice p_10 r_15.1.length c_10),(13,i6 r_15.2.1),(4,i6 r_15.2.2),(14,i6 r_17.1),(7,i6 r_17.2),(111,i6 r_13.2),(112,.bool (r_13.2 == 0)),(113,.bool (r_13.2 == 0)),(116,.bool ((r_13.2 == 0) && (r_15.2.2 == 0))),(117,.bool ((r_13.2 == 0) && (r_15.2.2 == 0))),(120,.bool (((r_13.2 == 0) && (r_15.2.2 == 0)) && (r_17.2 == 0)))]) hc ?_ ?_
  ·cases hb : ((r_13.2 == 0) && (r_15.2.2 == 0))
   ·rw [hb] at hf
    refine stS hf rfl rfl rfl fun a hf => stS hf rfl rfl rfl fun a hf => sp 1 hf rfl fun a hf => cNil ⟨hf.kp rfl,hc⟩
   ·rw [hb] at hf
    refine sp 3 hf rfl fun a hf => cNil ⟨hf.kp rfl,hc⟩
  intro a w ⟨hf,hc⟩
  refine sp 1 hf rfl fun a hf => ?_
  obtain ⟨t_1,ht_1,hF⟩ := bnd_some hF
  refine stCc 4 (fun a => Has 139 a [(11,.slice p_8 r_13.1.length c_8),(2,i6 r_13.2),(12,.slice p_10 r_15.1.length c_10),(13,i6 r_15.2.1),(4,i6 r_15.2.2),(14,i6 r_17.1),(7,i6 r_17.2),(111,i6 r_13.2),(112,.bool (r_13.2 == 0)),(113,.bool (r_13.2 == 0)),(116,.bool ((r_13.2 == 0) && (r_15.2.2 == 0))),(117,.bool ((r_13.2 == 0) && (r_15.2.2 == 0))),(120,.bool (((r_13.2 == 0) && (r_15.2.2 == 0)) && (r_17.2 == 0))),(121,.bool (((r_13.2 == 0) && (r_15.2.2 == 0)) && (r_17.2 == 0))),(125,.bool t_1)]) hc ?_ ?_
  ·cases hb : (((r_13.2 == 0) && (r_15.2.2 == 0)) && (r_17.2 == 0))
   ·rw [hb] at hf
    have hF := condF hb ht_1
    obtain rfl := sj hF
    refine stS hf rfl rfl rfl fun a hf => stS hf rfl rfl rfl fun a hf => stS hf rfl rfl rfl fun a hf => sp 1 hf rfl fun a hf => cNil ⟨hf.kp rfl,hc⟩
   ·rw [hb] at hf
    have hF := condT hb ht_1
    refine sp 1 hf rfl fun a hf => stBS (rows := ([2] : List Int).map encI_i64) (vs := [(0,i6 2)]) hf hc rfl rfl sl_27 rfl ⟨rfl,rfl,rfl,trivial⟩ rfl rfl fun b_9 a w hf hc => ?_
    obtain ⟨r_18,hr_18,hF⟩ := bnd_some hF
    refine zQ (v := .bool r_18) hf hc en_31 rfl (fun w hc => by obtain ⟨G1,hle1,hrd1,hc,hth1⟩ := lend hc k7; obtain ⟨G2,hle2,hrd2,hc,hth2⟩ := lend hc k0; exact (kit_Same_int_ok r_13.1 ([2] : List Int) (hrd1.mono hle2) hrd2 hc hr_18).mono fun e w h => ⟨h.1,((hth1 _ _ ((hth2 _ _ h.2).unpick k0)).unpick k7)⟩) fun a w hf hc => sp 1 hf rfl fun a hf => ?_
    replace hc := hc.drop k0
    obtain rfl := sj hF
    exact cNil ⟨hf.kp rfl,hc⟩
  intro a w ⟨hf,hc⟩
  refine sp 1 hf rfl fun a hf => ?_
  obtain ⟨t_2,ht_2,hF⟩ := bnd_some hF
  refine stCc 4 (fun a => Has 139 a [(11,.slice p_8 r_13.1.length c_8),(2,i6 r_13.2),(12,.slice p_10 r_15.1.length c_10),(13,i6 r_15.2.1),(4,i6 r_15.2.2),(14,i6 r_17.1),(7,i6 r_17.2),(111,i6 r_13.2),(112,.bool (r_13.2 == 0)),(113,.bool (r_13.2 == 0)),(116,.bool ((r_13.2 == 0) && (r_15.2.2 == 0))),(117,.bool ((r_13.2 == 0) && (r_15.2.2 == 0))),(120,.bool (((r_13.2 == 0) && (r_15.2.2 == 0)) && (r_17.2 == 0))),(121,.bool (((r_13.2 == 0) && (r_15.2.2 == 0)) && (r_17.2 == 0))),(125,.bool t_1),(126,.bool t_1),(130,.bool t_2)]) hc ?_ ?_
  ·cases hb : t_1
   ·rw [hb] at hf
    try rw [hb] at hc
    have hF := condF hb ht_2
    obtain rfl := sj hF
    refine stS hf rfl rfl rfl fun a hf => stS hf rfl rfl rfl fun a hf => stS hf rfl rfl rfl fun a hf => sp 1 hf rfl fun a hf => cNil ⟨hf.kp rfl,hc⟩
   ·rw [hb] at hf
    try rw [hb] at hc
    have hF := condT hb ht_2
    refine sp 1 hf rfl fun a hf => stBS (rows := ([10,12,12,20] : List Int).map encI_i64) (vs := [(0,i6 10),(1,i6 12),(2,i6 12),(3,i6 20)]) hf hc rfl rfl sl_27 rfl ⟨rfl,rfl,rfl,rfl,rfl,rfl,rfl,rfl,rfl,rfl,rfl,rfl,trivial⟩ rfl rfl fun b_10 a w hf hc => ?_
    obtain ⟨r_19,hr_19,hF⟩ := bnd_some hF
    refine zQ (v := .bool r_19) hf hc en_31 rfl (fun w hc => by obtain ⟨G1,hle1,hrd1,hc,hth1⟩ := lend hc k5; obtain ⟨G2,hle2,hrd2,hc,hth2⟩ := lend hc k0; exact (kit_Same_int_ok r_15.1 ([10,12,12,20] : List Int) (hrd1.mono hle2) hrd2 hc hr_19).mono fun e w h => ⟨h.1,((hth1 _ _ ((hth2 _ _ h.2).unpick k0)).unpick k5)⟩) fun a w hf hc => sp 1 hf rfl fun a hf => ?_
    replace hc := hc.drop k0
    obtain rfl := sj hF
    exact cNil ⟨hf.kp rfl,hc⟩
  intro a w ⟨hf,hc⟩
  refine sp 1 hf rfl fun a hf => stCc 3 (fun a => Has 139 a [(11,.slice p_8 r_13.1.length c_8),(2,i6 r_13.2),(12,.slice p_10 r_15.1.length c_10),(13,i6 r_15.2.1),(4,i6 r_15.2.2),(14,i6 r_17.1),(7,i6 r_17.2),(111,i6 r_13.2),(112,.bool (r_13.2 == 0)),(113,.bool (r_13.2 == 0)),(116,.bool ((r_13.2 == 0) && (r_15.2.2 == 0))),(117,.bool ((r_13.2 == 0) && (r_15.2.2 == 0))),(120,.bool (((r_13.2 == 0) && (r_15.2.2 == 0)) && (r_17.2 == 0))),(121,.bool (((r_13.2 == 0) && (r_15.2.2 == 0)) && (r_17.2 == 0))),(125,.bool t_1),(126,.bool t_1),(130,.bool t_2),(131,.bool t_2),(134,.bool (t_2 && (r_15.2.1 == 2)))]) hc ?_ ?_
  ·cases hb : t_2
   ·rw [hb] at hf
    try rw [hb] at hc
    refine stS hf rfl rfl rfl fun a hf => stS hf rfl rfl rfl fun a hf => sp 1 hf rfl fun a hf => cNil ⟨hf.kp rfl,hc⟩
   ·rw [hb] at hf
    try rw [hb] at hc
    refine sp 3 hf rfl fun a hf => cNil ⟨hf.kp rfl,hc⟩
  intro a w ⟨hf,hc⟩
  refine sp 1 hf rfl fun a hf => stCc 3 (fun a => Has 139 a [(11,.slice p_8 r_13.1.length c_8),(2,i6 r_13.2),(12,.slice p_10 r_15.1.length c_10),(13,i6 r_15.2.1),(4,i6 r_15.2.2),(14,i6 r_17.1),(7,i6 r_17.2),(111,i6 r_13.2),(112,.bool (r_13.2 == 0)),(113,.bool (r_13.2 == 0)),(116,.bool ((r_13.2 == 0) && (r_15.2.2 == 0))),(117,.bool ((r_13.2 == 0) && (r_15.2.2 == 0))),(120,.bool (((r_13.2 == 0) && (r_15.2.2 == 0)) && (r_17.2 == 0))),(121,.bool (((r_13.2 == 0) && (r_15.2.2 == 0)) && (r_17.2 == 0))),(125,.bool t_1),(126,.bool t_1),(130,.bool t_2),(131,.bool t_2),(134,.bool (t_2 && (r_15.2.1 == 2))),(135,.bool (t_2 && (r_15.2.1 == 2))),(138,.bool ((t_2 && (r_15.2.1 == 2)) && (r_17.1 == 8)))]) hc ?_ ?_
  ·cases hb : (t_2 && (r_15.2.1 == 2))
   ·rw [hb] at hf
    refine stS hf rfl rfl rfl fun a hf => stS hf rfl rfl rfl fun a hf => sp 1 hf rfl fun a hf => cNil ⟨hf.kp rfl,hc⟩
   ·rw [hb] at hf
    refine sp 3 hf rfl fun a hf => cNil ⟨hf.kp rfl,hc⟩
  intro a w ⟨hf,hc⟩
  refine sp 1 hf rfl fun a hf => zT h ?_
  refine wp_ret ?_
  obtain rfl := sj hF
  replace hc := ((((((hc.drop k6).drop k5).drop k4).drop k3).drop k2).drop k1).drop k0
  exact zO1 Try.results13 hf rfl ⟨rfl,hc⟩

def law07_DailyCorrected_j40 (N : Nat) (x_7 : Int) (left_2 : List Int) (tried_1 : List daily_Fall) (x_10 : Int) (x_11 : Int) : Option (Step ((List Int) × (List daily_Fall) × Int × Int × Int) (Step (Int × Int × Int) (Bool))) :=
 some (.cont (left_2,tried_1,W (x_7 + 1),x_10,x_11))
def law07_DailyCorrected_b34 (N : Nat) (tries : List Int) (r_1 : (List daily_Reading) × Int × Int) (r_10 : Int × Int × Int) (left_1 : List Int) (tried : List daily_Fall) (x_7 : Int) (x_8 : Int) (x_9 : Int) : Option (Step ((List Int) × (List daily_Fall) × Int × Int × Int) (Step (Int × Int × Int) (Bool))) :=
 cond (decide (x_7 < r_10.1))
 (Option.bind (kit_Stream_Next N (⟨tries,x_8,x_9⟩ : kit_Stream) ((r_1.1.length : Nat) : Int)) fun r_12 =>
 Option.bind (kit_Stream_Next N (⟨tries,r_12.2.1,r_12.2.2⟩ : kit_Stream) ((r_1.1.length : Nat) : Int)) fun r_13 =>
 Option.bind (getI left_1 r_12.1) fun e_2 =>
 Option.bind (getI left_1 r_13.1) fun e_3 =>
 cond ((decide (r_12.1 < r_13.1)) && (decide (0 < (min e_2 e_3))))
 (Option.bind (kit_Stream_Within N (⟨tries,r_13.2.1,r_13.2.2⟩ : kit_Stream) 1 (min e_2 e_3)) fun r_14 =>
 Option.bind (room ((tried ++ [(⟨r_12.1,r_13.1,r_14.1⟩ : daily_Fall)])).length) fun un_1 =>
 Option.bind (getI left_1 r_12.1) fun e_4 =>
 Option.bind (getI left_1 r_13.1) fun e_5 =>
 Option.bind (getI left_1 r_12.1) fun e_6 =>
 Option.bind (getI left_1 r_13.1) fun e_7 =>
 law07_DailyCorrected_j40 N x_7 ((left_1.set r_12.1.toNat (W (e_4 - r_14.1))).set r_13.1.toNat (W (e_5 - r_14.1))) (tried ++ [(⟨r_12.1,r_13.1,r_14.1⟩ : daily_Fall)]) r_14.2.1 r_14.2.2)
 (law07_DailyCorrected_j40 N x_7 left_1 tried r_13.2.1 r_13.2.2))
 (some (.brk (left_1,tried,x_7,x_8,x_9)))
def law07_DailyCorrected_b30 (N : Nat) (r_1 : (List daily_Reading) × Int × Int) (left : List Int) (x_6 : Int) : Option (Step ((List Int) × Int) (Step (Int × Int × Int) (Bool))) :=
 cond (decide (x_6 < ((r_1.1.length : Nat) : Int)))
 (Option.bind (getI r_1.1 x_6) fun e_8 =>
 Option.bind (getI left x_6) fun e_9 =>
 some (.cont ((left.set x_6.toNat e_8.Weight),W (x_6 + 1))))
 (some (.brk (left,x_6)))
def law07_DailyCorrected_j54 (N : Nat) (tries : List Int) (mine : List Int) (x_3 : Int) (at__1 : Int) (x_12 : Int) (x_13 : Int) : Option (Step ((List Int) × Int × Int × Int × Int) (Step (Int × Int × Int) (Bool))) :=
 Option.bind (room ((mine ++ [at__1])).length) fun un_2 =>
 Option.bind (kit_Stream_Next N (⟨tries,x_12,x_13⟩ : kit_Stream) 3) fun r_15 =>
 Option.bind (kit_Stream_Next N (⟨tries,r_15.2.1,r_15.2.2⟩ : kit_Stream) 4) fun r_16 =>
 some (.cont ((mine ++ [at__1]),W (at__1 + (W (r_15.1 * r_16.1))),W (x_3 + 1),r_16.2.1,r_16.2.2))
def law07_DailyCorrected_b22 (N : Nat) (tries : List Int) (r_1 : (List daily_Reading) × Int × Int) (mine : List Int) (at_ : Int) (x_3 : Int) (x_4 : Int) (x_5 : Int) : Option (Step ((List Int) × Int × Int × Int × Int) (Step (Int × Int × Int) (Bool))) :=
 cond (decide (x_3 < ((r_1.1.length : Nat) : Int)))
 (Option.bind (kit_Stream_Next N (⟨tries,x_4,x_5⟩ : kit_Stream) 2) fun r_17 =>
 cond (r_17.1 == 0)
 (Option.bind (getI r_1.1 x_3) fun e_10 =>
 law07_DailyCorrected_j54 N tries mine x_3 (max at_ e_10.Value) r_17.2.1 r_17.2.2)
 (law07_DailyCorrected_j54 N tries mine x_3 at_ r_17.2.1 r_17.2.2))
 (some (.brk (mine,at_,x_3,x_4,x_5)))
def law07_DailyCorrected_b13 (N : Nat) (tries : List Int) (r_1 : (List daily_Reading) × Int × Int) (r_3 : (List Int) × Int × Int) (x : Int) (x_1 : Int) (x_2 : Int) : Option (Step (Int × Int × Int) (Bool)) :=
 cond (decide (x < 5))
 (Option.bind (getI r_1.1 0) fun e_1 =>
 Option.bind (loopO (fun s22 => law07_DailyCorrected_b22 N tries r_1 s22.1 s22.2.1 s22.2.2.1 s22.2.2.2.1 s22.2.2.2.2) N (([] : List Int),e_1.Value,0,x_1,x_2)) fun x22 =>
 exK x22 (fun s22 => Option.bind (daily_Cost N r_1.1 s22.1) fun r_9 =>
 cond ((r_9.2 != 0) || (decide (r_9.1 < r_3.2.1)))
 (some (.ret false))
 (Option.bind (inM ((r_1.1.length : Nat) : Int)) fun un =>
 Option.bind (loopO (fun s30 => law07_DailyCorrected_b30 N r_1 s30.1 s30.2) N ((List.replicate ((r_1.1.length : Nat) : Int).toNat (0 : Int)),0)) fun x30 =>
 exK x30 (fun s30 => Option.bind (kit_Stream_Next N (⟨tries,s22.2.2.2.1,s22.2.2.2.2⟩ : kit_Stream) 9) fun r_10 =>
 Option.bind (loopO (fun s34 => law07_DailyCorrected_b34 N tries r_1 r_10 s34.1 s34.2.1 s34.2.2.1 s34.2.2.2.1 s34.2.2.2.2) N (s30.1,([] : List daily_Fall),0,r_10.2.1,r_10.2.2)) fun x34 =>
 exK x34 (fun s34 => Option.bind (daily_Proves N r_1.1 s34.2.1) fun r_11 =>
 cond ((r_11.2 != 0) || (decide (r_3.2.1 < r_11.1)))
 (some (.ret false))
 (some (.cont (W (x + 1),s34.2.2.2.1,s34.2.2.2.2)))) some) some)) some)
 (some (.brk (x,x_1,x_2)))
def law07_DailyCorrected (N : Nat) (numbers : List Int) (tries : List Int) : Option (Bool) :=
 Option.bind (kit_New N numbers) fun r =>
 Option.bind (law07_Counted N (⟨numbers,r.1,r.2⟩ : kit_Stream) 20) fun r_1 =>
 Option.bind (kit_New N tries) fun r_2 =>
 Option.bind (daily_Correct N r_1.1) fun r_3 =>
 Option.bind (daily_Cost N r_1.1 r_3.1) fun r_4 =>
 Option.bind (daily_Falls N r_1.1) fun r_5 =>
 Option.bind (daily_Proves N r_1.1 r_5.1) fun r_6 =>
 Option.bind (cond ((((((r_3.2.2 != 0) || (r_4.2 != 0)) || (r_5.2 != 0)) || (r_6.2 != 0)) || (r_4.1 != r_3.2.1)) || (r_6.1 != r_3.2.1)) (some true) (Option.bind (slices_IsSorted_Lint_int N r_3.1) fun r_7 =>
 some (!r_7))) fun t_1 =>
 cond t_1
 (some false)
 (Option.bind (loopO (fun s13 => law07_DailyCorrected_b13 N tries r_1 r_3 s13.1 s13.2.1 s13.2.2) N (0,r_2.1,r_2.2)) fun x13 =>
 exK x13 (fun s13 => Option.bind (law07_awake N) fun r_8 =>
 some r_8) some)
theorem law07_DailyCorrected_ok {N : Nat} {G : Pers} {Lf : List Ent} {w : World} (numbers : List Int) (tries : List Int) {numbers_p : Option Addr} {numbers_c : Nat} {tries_p : Option Addr} {tries_c : Nat} (h_numbers : Rd G 1 numbers_p numbers_c (numbers.map encI_u8)) (h_tries : Rd G 1 tries_p tries_c (tries.map encI_u8)) (hc : Ctx G (Lf) w) {res : Bool} (hF : law07_DailyCorrected N numbers tries = some res) : Calls Try.prog 3 #[.slice numbers_p numbers.length numbers_c,.slice tries_p tries.length tries_c] w (fun e w => e = .returned (.bool res) ∧ Ctx G (Lf) w) := by
 unfold law07_DailyCorrected at hF
 refine fnIn Try.func3 rfl Try.ntmps3 rfl fun a hf => zS fun K h => sp 1 hf rfl fun a hf => zT h ?_
 refine zS fun K h => sp 1 hf rfl fun a hf => ?_
 obtain ⟨r,hr,hF⟩ := bnd_some hF
 refine zC hf en_5 rfl (kit_New_ok numbers h_numbers hc hr) ?_
 rintro _ w ⟨b_1,rfl,hc⟩
 refine ⟨_,rfl,fun a hf => ?_⟩
 obtain ⟨r_1,hr_1,hF⟩ := bnd_some hF
 refine zC hf en_4 rfl (law07_Counted_ok (⟨numbers,r.1,r.2⟩ : kit_Stream) 20 h_numbers (hc.pick k0) hr_1) ?_
 rintro _ w ⟨p_1,c_1,rfl,hc⟩
 refine ⟨_,rfl,fun a hf => ?_⟩
 refine sp 1 hf rfl fun a hf => zT h ?_
 refine zS fun K h => sp 1 hf rfl fun a hf => ?_
 obtain ⟨r_2,hr_2,hF⟩ := bnd_some hF
 refine zC hf en_5 rfl (kit_New_ok tries h_tries hc hr_2) ?_
 rintro _ w ⟨b_2,rfl,hc⟩
 refine ⟨_,rfl,fun a hf => ?_⟩
 refine sp 1 hf rfl fun a hf => zT h ?_
 refine zS fun K h => sp 1 hf rfl fun a hf => ?_
 obtain ⟨r_3,hr_3,hF⟩ := bnd_some hF
 obtain ⟨G1,hle1,hrd1,hc,hth1⟩ := lend hc k1
 refine zC hf en_6 rfl (daily_Correct_ok r_1.1 hrd1 hc hr_3) ?_
 rintro _ w ⟨p_2,c_2,rfl,hc⟩
 refine ⟨_,rfl,fun a hf => ?_⟩
 replace hc := hth1 _ _ hc
 refine sp 7 hf rfl fun a hf => zT h ?_
 refine zS fun K h => sp 2 hf rfl fun a hf => ?_
 obtain ⟨r_4,hr_4,hF⟩ := bnd_some hF
 refine zQ (v := .tuple #[i6 r_4.1,i6 r_4.2]) hf hc en_7 rfl (fun w hc => by obtain ⟨G1,hle1,hrd1,hc,hth1⟩ := lend hc k0; obtain ⟨G2,hle2,hrd2,hc,hth2⟩ := lend hc k0; exact (daily_Cost_ok r_1.1 r_3.1 (hrd1.mono hle2) hrd2 hc hr_4).mono fun e w h => ⟨h.1,((hth1 _ _ ((hth2 _ _ h.2).unpick k0)).unpick k0)⟩) fun a w hf hc => sp 5 hf rfl fun a hf => zT h ?_
 refine zS fun K h => sp 1 hf rfl fun a hf => ?_
 obtain ⟨r_5,hr_5,hF⟩ := bnd_some hF
 obtain ⟨G1,hle1,hrd1,hc,hth1⟩ := lend hc k0
 refine zC hf en_8 rfl (daily_Falls_ok r_1.1 hrd1 hc hr_5) ?_
 rintro _ w ⟨p_3,c_3,rfl,hc⟩
 refine ⟨_,rfl,fun a hf => ?_⟩
 replace hc := hth1 _ _ hc
 refine sp 5 hf rfl fun a hf => zT h ?_
 refine zS fun K h => sp 2 hf rfl fun a hf => ?_
 obtain ⟨r_6,hr_6,hF⟩ := bnd_some hF
 refine zQ (v := .tuple #[i6 r_6.1,i6 r_6.2]) hf hc en_9 rfl (fun w hc => by obtain ⟨G1,hle1,hrd1,hc,hth1⟩ := lend hc k0; obtain ⟨G2,hle2,hrd2,hc,hth2⟩ := lend hc k0; exact (daily_Proves_ok r_1.1 r_5.1 (hrd1.mono hle2) hrd2 hc hr_6).mono fun e w h => ⟨h.1,((hth1 _ _ ((hth2 _ _ h.2).unpick k0)).unpick k0)⟩) fun a w hf hc => sp 5 hf rfl fun a hf => zT h ?_
 refine wp_seq_k fun K8 h8 => zS fun K h => sp 3 hf rfl fun a hf => stCc 3 (fun a => Has 221 a [(5,.slice p_1 r_1.1.length c_1),(6,pq b_2),(7,.slice p_2 r_3.1.length c_2),(8,i6 r_3.2.1),(9,i6 r_3.2.2),(10,i6 r_4.1),(11,i6 r_4.2),(13,i6 r_5.2),(14,i6 r_6.1),(15,i6 r_6.2),(57,i6 r_3.2.2),(58,.bool (r_3.2.2 != 0)),(59,.bool (r_3.2.2 != 0)),(62,.bool ((r_3.2.2 != 0) || (r_4.2 != 0)))]) hc ?_ ?_
 ·cases hb : (r_3.2.2 != 0)
  ·rw [hb] at hf
   refine sp 3 hf rfl fun a hf => cNil ⟨hf.kp rfl,hc⟩
  ·rw [hb] at hf
   refine stS hf rfl rfl rfl fun a hf => stS hf rfl rfl rfl fun a hf => sp 1 hf rfl fun a hf => cNil ⟨hf.kp rfl,hc⟩
 intro a w ⟨hf,hc⟩
 refine sp 1 hf rfl fun a hf => stCc 3 (fun a => Has 221 a [(5,.slice p_1 r_1.1.length c_1),(6,pq b_2),(7,.slice p_2 r_3.1.length c_2),(8,i6 r_3.2.1),(9,i6 r_3.2.2),(10,i6 r_4.1),(11,i6 r_4.2),(13,i6 r_5.2),(14,i6 r_6.1),(15,i6 r_6.2),(57,i6 r_3.2.2),(58,.bool (r_3.2.2 != 0)),(59,.bool (r_3.2.2 != 0)),(62,.bool ((r_3.2.2 != 0) || (r_4.2 != 0))),(63,.bool ((r_3.2.2 != 0) || (r_4.2 != 0))),(66,.bool (((r_3.2.2 != 0) || (r_4.2 != 0)) || (r_5.2 != 0)))]) hc ?_ ?_
 ·cases hb : ((r_3.2.2 != 0) || (r_4.2 != 0))
  ·rw [hb] at hf
   refine sp 3 hf rfl fun a hf => cNil ⟨hf.kp rfl,hc⟩
  ·rw [hb] at hf
   refine stS hf rfl rfl rfl fun a hf => stS hf rfl rfl rfl fun a hf => sp 1 hf rfl fun a hf => cNil ⟨hf.kp rfl,hc⟩
 intro a w ⟨hf,hc⟩
 refine sp 1 hf rfl fun a hf => stCc 3 (fun a => Has 221 a [(5,.slice p_1 r_1.1.length c_1),(6,pq b_2),(7,.slice p_2 r_3.1.length c_2),(8,i6 r_3.2.1),(9,i6 r_3.2.2),(10,i6 r_4.1),(11,i6 r_4.2),(13,i6 r_5.2),(14,i6 r_6.1),(15,i6 r_6.2),(57,i6 r_3.2.2),(58,.bool (r_3.2.2 != 0)),(59,.bool (r_3.2.2 != 0)),(62,.bool ((r_3.2.2 != 0) || (r_4.2 != 0))),(63,.bool ((r_3.2.2 != 0) || (r_4.2 != 0))),(66,.bool (((r_3.2.2 != 0) || (r_4.2 != 0)) || (r_5.2 != 0))),(67,.bool (((r_3.2.2 != 0) || (r_4.2 != 0)) || (r_5.2 != 0))),(70,.bool ((((r_3.2.2 != 0) || (r_4.2 != 0)) || (r_5.2 != 0)) || (r_6.2 != 0)))]) hc ?_ ?_
 ·cases hb : (((r_3.2.2 != 0) || (r_4.2 != 0)) || (r_5.2 != 0))
  ·rw [hb] at hf
   refine sp 3 hf rfl fun a hf => cNil ⟨hf.kp rfl,hc⟩
  ·rw [hb] at hf
   refine stS hf rfl rfl rfl fun a hf => stS hf rfl rfl rfl fun a hf => sp 1 hf rfl fun a hf => cNil ⟨hf.kp rfl,hc⟩
 intro a w ⟨hf,hc⟩
 refine sp 1 hf rfl fun a hf => stCc 4 (fun a => Has 221 a [(5,.slice p_1 r_1.1.length c_1),(6,pq b_2),(7,.slice p_2 r_3.1.length c_2),(8,i6 r_3.2.1),(9,i6 r_3.2.2),(10,i6 r_4.1),(11,i6 r_4.2),(13,i6 r_5.2),(14,i6 r_6.1),(15,i6 r_6.2),(57,i6 r_3.2.2),(58,.bool (r_3.2.2 != 0)),(59,.bool (r_3.2.2 != 0)),(62,.bool ((r_3.2.2 != 0) || (r_4.2 != 0))),(63,.bool ((r_3.2.2 != 0) || (r_4.2 != 0))),(66,.bool (((r_3.2.2 != 0) || (r_4.2 != 0)) || (r_5.2 != 0))),(67,.bool (((r_3.2.2 != 0) || (r_4.2 != 0)) || (r_5.2 != 0))),(70,.bool ((((r_3.2.2 != 0) || (r_4.2 != 0)) || (r_5.2 != 0)) || (r_6.2 != 0))),(71,.bool ((((r_3.2.2 != 0) || (r_4.2 != 0)) || (r_5.2 != 0)) || (r_6.2 != 0))),(75,.bool (((((r_3.2.2 != 0) || (r_4.2 != 0)) || (r_5.2 != 0)) || (r_6.2 != 0)) || (r_4.1 != r_3.2.1)))]) hc ?_ ?_
 ·cases hb : ((((r_3.2.2 != 0) || (r_4.2 != 0)) || (r_5.2 != 0)) || (r_6.2 != 0))
  ·rw [hb] at hf
   refine sp 4 hf rfl fun a hf => cNil ⟨hf.kp rfl,hc⟩
  ·rw [hb] at hf
   refine stS hf rfl rfl rfl fun a hf => stS hf rfl rfl rfl fun a hf => stS hf rfl rfl rfl fun a hf => sp 1 hf rfl fun a hf => cNil ⟨hf.kp rfl,hc⟩
 intro a w ⟨hf,hc⟩
 refine sp 1 hf rfl fun a hf => stCc 4 (fun a => Has 221 a [(5,.slice p_1 r_1.1.length c_1),(6,pq b_2),(7,.slice p_2 r_3.1.length c_2),(8,i6 r_3.2.1),(9,i6 r_3.2.2),(10,i6 r_4.1),(11,i6 r_4.2),(13,i6 r_5.2),(14,i6 r_6.1),(15,i6 r_6.2),(57,i6 r_3.2.2),(58,.bool (r_3.2.2 != 0)),(59,.bool (r_3.2.2 != 0)),(62,.bool ((r_3.2.2 != 0) || (r_4.2 != 0))),(63,.bool ((r_3.2.2 != 0) || (r_4.2 != 0))),(66,.bool (((r_3.2.2 != 0) || (r_4.2 != 0)) || (r_5.2 != 0))),(67,.bool (((r_3.2.2 != 0) || (r_4.2 != 0)) || (r_5.2 != 0))),(70,.bool ((((r_3.2.2 != 0) || (r_4.2 != 0)) || (r_5.2 != 0)) || (r_6.2 != 0))),(71,.bool ((((r_3.2.2 != 0) || (r_4.2 != 0)) || (r_5.2 != 0)) || (r_6.2 != 0))),(75,.bool (((((r_3.2.2 != 0) || (r_4.2 != 0)) || (r_5.2 != 0)) || (r_6.2 != 0)) || (r_4.1 != r_3.2.1))),(76,.bool (((((r_3.2.2 != 0) || (r_4.2 != 0)) || (r_5.2 != 0)) || (r_6.2 != 0)) || (r_4.1 != r_3.2.1))),(80,.bool ((((((r_3.2.2 != 0) || (r_4.2 != 0)) || (r_5.2 != 0)) || (r_6.2 != 0)) || (r_4.1 != r_3.2.1)) || (r_6.1 != r_3.2.1)))]) hc ?_ ?_
 ·cases hb : (((((r_3.2.2 != 0) || (r_4.2 != 0)) || (r_5.2 != 0)) || (r_6.2 != 0)) || (r_4.1 != r_3.2.1))
  ·rw [hb] at hf
   refine sp 4 hf rfl fun a hf => cNil ⟨hf.kp rfl,hc⟩
  ·rw [hb] at hf
   refine stS hf rfl rfl rfl fun a hf => stS hf rfl rfl rfl fun a hf => stS hf rfl rfl rfl fun a hf => sp 1 hf rfl fun a hf => cNil ⟨hf.kp rfl,hc⟩
 intro a w ⟨hf,hc⟩
 refine sp 1 hf rfl fun a hf => ?_
 obtain ⟨t_1,ht_1,hF⟩ := bnd_some hF
 refine stCc 4 (fun a => Has 221 a [(5,.slice p_1 r_1.1.length c_1),(6,pq b_2),(7,.slice p_2 r_3.1.length c_2),(8,i6 r_3.2.1),(9,i6 r_3.2.2),(10,i6 r_4.1),(11,i6 r_4.2),(13,i6 r_5.2),(14,i6 r_6.1),(15,i6 r_6.2),(57,i6 r_3.2.2),(58,.bool (r_3.2.2 != 0)),(59,.bool (r_3.2.2 != 0)),(62,.bool ((r_3.2.2 != 0) || (r_4.2 != 0))),(63,.bool ((r_3.2.2 != 0) || (r_4.2 != 0))),(66,.bool (((r_3.2.2 != 0) || (r_4.2 != 0)) || (r_5.2 != 0))),(67,.bool (((r_3.2.2 != 0) || (r_4.2 != 0)) || (r_5.2 != 0))),(70,.bool ((((r_3.2.2 != 0) || (r_4.2 != 0)) || (r_5.2 != 0)) || (r_6.2 != 0))),(71,.bool ((((r_3.2.2 != 0) || (r_4.2 != 0)) || (r_5.2 != 0)) || (r_6.2 != 0))),(75,.bool (((((r_3.2.2 != 0) || (r_4.2 != 0)) || (r_5.2 != 0)) || (r_6.2 != 0)) || (r_4.1 != r_3.2.1))),(76,.bool (((((r_3.2.2 != 0) || (r_4.2 != 0)) || (r_5.2 != 0)) || (r_6.2 != 0)) || (r_4.1 != r_3.2.1))),(80,.bool ((((((r_3.2.2 != 0) || (r_4.2 != 0)) || (r_5.2 != 0)) || (r_6.2 != 0)) || (r_4.1 != r_3.2.1)) || (r_6.1 != r_3.2.1))),(81,.bool ((((((r_3.2.2 != 0) || (r_4.2 != 0)) || (r_5.2 != 0)) || (r_6.2 != 0)) || (r_4.1 != r_3.2.1)) || (r_6.1 != r_3.2.1))),(85,.bool t_1)]) hc ?_ ?_
 ·cases hb : ((((((r_3.2.2 != 0) || (r_4.2 != 0)) || (r_5.2 != 0)) || (r_6.2 != 0)) || (r_4.1 != r_3.2.1)) || (r_6.1 != r_3.2.1))
  ·rw [hb] at hf
   have hF := condF hb ht_1
   refine sp 1 hf rfl fun a hf => ?_
   obtain ⟨r_7,hr_7,hF⟩ := bnd_some hF
   refine zQ (v := .bool r_7) hf hc en_10 rfl (fun w hc => by obtain ⟨G1,hle1,hrd1,hc,hth1⟩ := lend hc k2; exact (slices_IsSorted_Lint_int_ok r_3.1 hrd1 hc hr_7).mono fun e w h => ⟨h.1,((hth1 _ _ h.2).unpick k2)⟩) fun a w hf hc => sp 2 hf rfl fun a hf => ?_
   obtain rfl := sj hF
   exact cNil ⟨hf.kp rfl,hc⟩
  ·rw [hb] at hf
   have hF := condT hb ht_1
   obtain rfl := sj hF
   refine stS hf rfl rfl rfl fun a hf => stS hf rfl rfl rfl fun a hf => stS hf rfl rfl rfl fun a hf => sp 1 hf rfl fun a hf => cNil ⟨hf.kp rfl,hc⟩
 intro a w ⟨hf,hc⟩
 refine zT h ?_
 refine zI hf rfl hF ?_ ?_ <;> clear hF <;> intro hF
 ·refine zS fun K h => sp 1 hf rfl fun a hf => zT h ?_
  refine wp_ret ?_
  refine xThenR ?_
  obtain rfl := sj hF
  replace hc := ((((hc.drop k4).drop k3).drop k2).drop k1).drop k0
  exact zO1 Try.results3 hf rfl ⟨rfl,hc⟩
 ·refine wp_skip ?_
  refine h8 _ _ ?_
  refine wp_seq_k fun K11 h11 => zS fun K h => sp 1 hf rfl fun a hf => zT h ?_
  refine wp_block ?_
  obtain ⟨x13,hx13,hF⟩ := bnd_some hF
  let S13 : (Int × Int × Int) → Act → World → Prop := (fun (zz : Int × Int × Int) a w => ∃ (p_4 : Option Addr) (c_4 : Nat),Has 221 a [(5,.slice p_4 r_1.1.length c_4),(6,pq b_2),(8,i6 r_3.2.1),(86,i6 zz.1)] ∧ Ctx G (.row p_4 c_4 (r_1.1.map enc_daily_Reading) 39 2::.box b_2 [.slice tries_p tries.length tries_c,i6 zz.2.1,i6 zz.2.2] 47::Lf) w)
  have hr13 : ∀ (zz : Int × Int × Int) a w,x13 = .go zz → S13 zz a w → K11 a w := by
   rintro ⟨x,x_1,x_2⟩ a w rfl ⟨p_4,c_4,hf,hc⟩
   replace hF := exK_go hF
   refine h11 _ _ ?_
   refine zS fun K h => ?_
   obtain ⟨r_8,hr_8,hF⟩ := bnd_some hF
   refine zQ (v := .bool r_8) hf hc en_13 rfl (fun w hc => law07_awake_ok hc hr_8) fun a w hf hc => sp 1 hf rfl fun a hf => zT h ?_
   refine wp_ret ?_
   obtain rfl := sj hF
   replace hc := (hc.drop k1).drop k0
   exact zO1 Try.results3 hf rfl ⟨rfl,hc⟩
  have ho13 : ∀ r,x13 = .out r → r = res := by
   rintro r rfl
   exact sj hF
  replace hc := ((hc.drop k4).drop k2).drop k1
  refine cLoop N (loopW (S := S13) (x := x13) ?_ N (0,r_2.1,r_2.2) _ _ ⟨p_1,c_1,hf.kp rfl,hc⟩ hx13)
  clear hF hf hc
  rintro ⟨x,x_1,x_2⟩ st13 a w KB13 ⟨p_4,c_4,hf,hc⟩ hF hfin13 hK13
  unfold law07_DailyCorrected_b13 at hF
  refine zS fun K h => sp 1 hf rfl fun a hf => zT h ?_
  refine wp_seq_k fun K16 h16 => zI hf rfl hF ?_ ?_ <;> clear hF <;> intro hF
  ·refine wp_skip ?_
   refine h16 _ _ ?_
   refine wp_seq_k fun K17 h17 => wp_block ?_
   refine zS fun K h => sp 1 hf rfl fun a hf => zT h ?_
   refine zS fun K h => sp 1 hf rfl fun a hf => ?_
   obtain ⟨e_1,he_1,hF⟩ := bnd_some hF
   obtain ⟨g,rfl,qa,qr⟩ := row_atm hc m0 he_1
   refine zP hf rfl (pIA Try.underlying23 sz_39 rfl rfl qa) fun a hf => zP hf rfl (pFA fa_39_0 rfl) fun a hf => zE hf hc rfl (eLd1 sc_3 rfl (cell_row (sz := 2) (i := (0 : Int).toNat) (j := 0) m0 qr rfl)) fun a w hf hc => sp 1 hf rfl fun a hf => zT h ?_
   refine wp_seq_k fun K20 h20 => zS fun K h => sp 1 hf rfl fun a hf => zP hf rfl (pLenS Try.underlying23 rfl) fun a hf => sp 1 hf rfl fun a hf => zT h ?_
   refine wp_block ?_
   obtain ⟨x22,hx22,hF⟩ := bnd_some hF
   let S22 : ((List Int) × Int × Int × Int × Int) → Act → World → Prop := (fun (zz : (List Int) × Int × Int × Int × Int) a w => ∃ (p_5 : Option Addr) (c_5 : Nat),Has 221 a [(5,.slice (some ⟨g,0,none⟩) r_1.1.length c_4),(6,pq b_2),(8,i6 r_3.2.1),(16,.slice p_5 zz.1.length c_5),(17,i6 zz.2.1),(86,i6 x),(93,i6 ((r_1.1.length : Nat) : Int)),(94,i6 zz.2.2.1)] ∧ Ctx G (.row p_5 c_5 (zz.1.map encI_i64) 3 1::.row (some ⟨g,0,none⟩) c_4 (r_1.1.map enc_daily_Reading) 39 2::.box b_2 [.slice tries_p tries.length tries_c,i6 zz.2.2.2.1,i6 zz.2.2.2.2] 47::Lf) w)
   have hr22 : ∀ (zz : (List Int) × Int × Int × Int × Int) a w,x22 = .go zz → S22 zz a w → K20 a w := by
    rintro ⟨mine,at_,x_3,x_4,x_5⟩ a w rfl ⟨p_5,c_5,hf,hc⟩
    replace hF := exK_go hF
    refine h20 _ _ ?_
    refine wp_seq_k fun K23 h23 => zS fun K h => sp 2 hf rfl fun a hf => ?_
    obtain ⟨r_9,hr_9,hF⟩ := bnd_some hF
    refine zQ (v := .tuple #[i6 r_9.1,i6 r_9.2]) hf hc en_7 rfl (fun w hc => by obtain ⟨G1,hle1,hrd1,hc,hth1⟩ := lend hc k1; obtain ⟨G2,hle2,hrd2,hc,hth2⟩ := lend hc k0; exact (daily_Cost_ok r_1.1 mine (hrd1.mono hle2) hrd2 hc hr_9).mono fun e w h => ⟨h.1,((hth1 _ _ ((hth2 _ _ h.2).unpick k0)).unpick k1)⟩) fun a w hf hc => sp 5 hf rfl fun a hf => zT h ?_
    refine zS fun K h => sp 3 hf rfl fun a hf => stCc 4 (fun a => Has 221 a [(5,.slice (some ⟨g,0,none⟩) r_1.1.length c_4),(6,pq b_2),(8,i6 r_3.2.1),(86,i6 x),(19,i6 r_9.1),(20,i6 r_9.2),(125,i6 r_9.2),(126,.bool (r_9.2 != 0)),(127,.bool (r_9.2 != 0)),(131,.bool ((r_9.2 != 0) || (decide (r_9.1 < r_3.2.1))))]) hc ?_ ?_
    ·cases hb : (r_9.2 != 0)
     ·rw [hb] at hf
      refine sp 4 hf rfl fun a hf => cNil ⟨hf.kp rfl,hc⟩
     ·rw [hb] at hf
      refine stS hf rfl rfl rfl fun a hf => stS hf rfl rfl rfl fun a hf => stS hf rfl rfl rfl fun a hf => sp 1 hf rfl fun a hf => cNil ⟨hf.kp rfl,hc⟩
    intro a w ⟨hf,hc⟩
    refine zT h ?_
    refine zI hf rfl hF ?_ ?_ <;> clear hF <;> intro hF
    ·refine zS fun K h => sp 1 hf rfl fun a hf => zT h ?_
     refine wp_ret ?_
     refine xThenR ?_
     refine xBlkR ?_
     refine xThenR ?_
     refine xThenR ?_
     have he := sj hF
     rw [← he] at hfin13
     replace hF := ho13 _ hfin13
     refine xBlkR ?_
     refine xThenR ?_
     obtain rfl := hF
     replace hc := ((hc.drop k2).drop k1).drop k0
     exact zO1 Try.results3 hf rfl ⟨rfl,hc⟩
    ·refine wp_skip ?_
     refine h23 _ _ ?_
     refine zS fun K h => sp 1 hf rfl fun a hf => zP hf rfl (pLenS Try.underlying23 rfl) fun a hf => ?_
     obtain ⟨un,hun,hF⟩ := bnd_some hF
     refine stMk (m := (List.replicate ((r_1.1.length : Nat) : Int).toNat (0 : Int)).length) (rows := (List.replicate ((r_1.1.length : Nat) : Int).toNat (0 : Int)).map encI_i64) hf hc rfl rfl sl_27 rfl rfl (inM_spec hun) rfl rfl (by simp [List.map_replicate,Value.cells]) (by simp) fun b_3 a w hf hc => sp 1 hf rfl fun a hf => zT h ?_
     refine wp_seq_k fun K28 h28 => zS fun K h => sp 1 hf rfl fun a hf => zP hf rfl (pLenS Try.underlying23 rfl) fun a hf => sp 1 hf rfl fun a hf => zT h ?_
     refine wp_block ?_
     obtain ⟨x30,hx30,hF⟩ := bnd_some hF
     let S30 : ((List Int) × Int) → Act → World → Prop := (fun (zz : (List Int) × Int) a w => ∃ (p_6 : Option Addr) (c_6 : Nat),Has 221 a [(5,.slice (some ⟨g,0,none⟩) r_1.1.length c_4),(6,pq b_2),(8,i6 r_3.2.1),(21,.slice p_6 zz.1.length c_6),(86,i6 x),(136,i6 ((r_1.1.length : Nat) : Int)),(137,i6 zz.2)] ∧ Ctx G (.row p_6 c_6 (zz.1.map encI_i64) 3 1::.row (some ⟨g,0,none⟩) c_4 (r_1.1.map enc_daily_Reading) 39 2::.box b_2 [.slice tries_p tries.length tries_c,i6 x_4,i6 x_5] 47::Lf) w)
     have hr30 : ∀ (zz : (List Int) × Int) a w,x30 = .go zz → S30 zz a w → K28 a w := by
      rintro ⟨left,x_6⟩ a w rfl ⟨p_6,c_6,hf,hc⟩
      replace hF := exK_go hF
      refine h28 _ _ ?_
      refine zS fun K h => sp 1 hf rfl fun a hf => zT h ?_
      refine wp_seq_k fun K32 h32 => zS fun K h => sp 1 hf rfl fun a hf => ?_
      obtain ⟨r_10,hr_10,hF⟩ := bnd_some hF
      refine zC hf en_11 rfl (kit_Stream_Next_ok (⟨tries,x_4,x_5⟩ : kit_Stream) 9 h_tries (hc.pick k2) hr_10) ?_
      rintro _ w ⟨rfl,hc⟩
      refine ⟨_,rfl,fun a hf => ?_⟩
      refine sp 1 hf rfl fun a hf => zT h ?_
      refine wp_block ?_
      obtain ⟨x34,hx34,hF⟩ := bnd_some hF
      let S34 : ((List Int) × (List daily_Fall) × Int × Int × Int) → Act → World → Prop := (fun (zz : (List Int) × (List daily_Fall) × Int × Int × Int) a w => ∃ (p_7 : Option Addr) (c_7 : Nat) (p_8 : Option Addr) (c_8 : Nat),Has 221 a [(5,.slice (some ⟨g,0,none⟩) r_1.1.length c_4),(6,pq b_2),(8,i6 r_3.2.1),(21,.slice p_7 zz.1.length c_7),(23,.slice p_8 zz.2.1.length c_8),(86,i6 x),(150,i6 r_10.1),(151,i6 zz.2.2.1)] ∧ Ctx G (.row p_8 c_8 (zz.2.1.map enc_daily_Fall) 43 3::.box b_2 [.slice tries_p tries.length tries_c,i6 zz.2.2.2.1,i6 zz.2.2.2.2] 47::.row p_7 c_7 (zz.1.map encI_i64) 3 1::.row (some ⟨g,0,none⟩) c_4 (r_1.1.map enc_daily_Reading) 39 2::Lf) w)
      have hr34 : ∀ (zz : (List Int) × (List daily_Fall) × Int × Int × Int) a w,x34 = .go zz → S34 zz a w → K32 a w := by
       rintro ⟨left_1,tried,x_7,x_8,x_9⟩ a w rfl ⟨p_7,c_7,p_8,c_8,hf,hc⟩
       replace hF := exK_go hF
       refine h32 _ _ ?_
       refine zS fun K h => sp 2 hf rfl fun a hf => ?_
       obtain ⟨r_11,hr_11,hF⟩ := bnd_some hF
       refine zQ (v := .tuple #[i6 r_11.1,i6 r_11.2]) hf hc en_9 rfl (fun w hc => by obtain ⟨G1,hle1,hrd1,hc,hth1⟩ := lend hc k3; obtain ⟨G2,hle2,hrd2,hc,hth2⟩ := lend hc k0; exact (daily_Proves_ok r_1.1 tried (hrd1.mono hle2) hrd2 hc hr_11).mono fun e w h => ⟨h.1,((hth1 _ _ ((hth2 _ _ h.2).unpick k0)).unpick k3)⟩) fun a w hf hc => sp 5 hf rfl fun a hf => zT h ?_
       refine zS fun K h => sp 3 hf rfl fun a hf => stCc 4 (fun a => Has 221 a [(5,.slice (some ⟨g,0,none⟩) r_1.1.length c_4),(6,pq b_2),(8,i6 r_3.2.1),(86,i6 x),(27,i6 r_11.1),(28,i6 r_11.2),(212,i6 r_11.2),(213,.bool (r_11.2 != 0)),(214,.bool (r_11.2 != 0)),(218,.bool ((r_11.2 != 0) || (decide (r_3.2.1 < r_11.1))))]) hc ?_ ?_
       ·cases hb : (r_11.2 != 0)
        ·rw [hb] at hf
         refine sp 4 hf rfl fun a hf => cNil ⟨hf.kp rfl,hc⟩
        ·rw [hb] at hf
         refine stS hf rfl rfl rfl fun a hf => stS hf rfl rfl rfl fun a hf => stS hf rfl rfl rfl fun a hf => sp 1 hf rfl fun a hf => cNil ⟨hf.kp rfl,hc⟩
       intro a w ⟨hf,hc⟩
       refine zT h ?_
       refine zI hf rfl hF ?_ ?_ <;> clear hF <;> intro hF
       ·refine zS fun K h => sp 1 hf rfl fun a hf => zT h ?_
        refine wp_ret ?_
        refine xBlkR ?_
        refine xThenR ?_
        refine xThenR ?_
        have he := sj hF
        rw [← he] at hfin13
        replace hF := ho13 _ hfin13
        refine xBlkR ?_
        refine xThenR ?_
        obtain rfl := hF
        replace hc := (((hc.drop k3).drop k2).drop k1).drop k0
        exact zO1 Try.results3 hf rfl ⟨rfl,hc⟩
       ·refine wp_skip ?_
        refine h17 _ _ ?_
        refine cReg ?_
        refine sp 2 hf rfl fun a hf => cNil ?_
        replace hc := (((hc.drop k2).drop k0).pick k0).pick k1
        exact hK13 (W (x + 1),x_8,x_9) _ _ (sj hF).symm ⟨(some ⟨g,0,none⟩),c_4,hf.kp rfl,hc⟩
      have ho34 : ∀ r,x34 = .out r → r = st13 := by
       rintro r rfl
       exact sj hF
      replace hc := hc.nilRow 43 3
      refine cLoop N (loopW (S := S34) (x := x34) ?_ N (left,([] : List daily_Fall),0,r_10.2.1,r_10.2.2) _ _ ⟨p_6,c_6,none,0,hf.kp rfl,hc⟩ hx34)
      clear hF hf hc
      rintro ⟨left_1,tried,x_7,x_8,x_9⟩ st34 a w KB34 ⟨p_7,c_7,p_8,c_8,hf,hc⟩ hF hfin34 hK34
      unfold law07_DailyCorrected_b34 at hF
      refine zS fun K h => sp 1 hf rfl fun a hf => zT h ?_
      refine wp_seq_k fun K39 h39 => zI hf rfl hF ?_ ?_ <;> clear hF <;> intro hF
      ·refine wp_skip ?_
       refine h39 _ _ ?_
       refine wp_seq_k fun K40 h40 => ?_
       have hj40 : ∀ (left_2 : List Int) (tried_1 : List daily_Fall) (x_10 : Int) (x_11 : Int) (p_9 : Option Addr) (c_9 : Nat) (p_10 : Option Addr) (c_10 : Nat) a w,Has 221 a [(5,.slice (some ⟨g,0,none⟩) r_1.1.length c_4),(6,pq b_2),(8,i6 r_3.2.1),(21,.slice p_9 left_2.length c_9),(23,.slice p_10 tried_1.length c_10),(86,i6 x),(150,i6 r_10.1),(151,i6 x_7)] → Ctx G (.box b_2 [.slice tries_p tries.length tries_c,i6 x_10,i6 x_11] 47::.row p_10 c_10 (tried_1.map enc_daily_Fall) 43 3::.row p_9 c_9 (left_2.map encI_i64) 3 1::.row (some ⟨g,0,none⟩) c_4 (r_1.1.map enc_daily_Reading) 39 2::Lf) w → law07_DailyCorrected_j40 N x_7 left_2 tried_1 x_10 x_11 = some st34 → K40 a w := by
        repeat (clear hF)
        repeat (clear hc)
        repeat (clear hf)
        intro left_2 tried_1 x_10 x_11 p_9 c_9 p_10 c_10 a w hf hc hF
        unfold law07_DailyCorrected_j40 at hF
        refine h40 _ _ ?_
        refine cReg ?_
        refine sp 2 hf rfl fun a hf => cNil ?_
        replace hc := (hc.pick k0).pick k1
        exact hK34 (left_2,tried_1,W (x_7 + 1),x_10,x_11) _ _ (sj hF).symm ⟨p_9,c_9,p_10,c_10,hf.kp rfl,hc⟩
       refine wp_block ?_
       refine zS fun K h => sp 2 hf rfl fun a hf => zP hf rfl (pLenS Try.underlying23 rfl) fun a hf => ?_
       obtain ⟨r_12,hr_12,hF⟩ := bnd_some hF
       refine zC hf en_11 rfl (kit_Stream_Next_ok (⟨tries,x_8,x_9⟩ : kit_Stream) ((r_1.1.length : Nat) : Int) h_tries (hc.pick k1) hr_12) ?_
       rintro _ w ⟨rfl,hc⟩
       refine ⟨_,rfl,fun a hf => ?_⟩
       refine sp 2 hf rfl fun a hf => zP hf rfl (pLenS Try.underlying23 rfl) fun a hf => ?_
       obtain ⟨r_13,hr_13,hF⟩ := bnd_some hF
       refine zC hf en_11 rfl (kit_Stream_Next_ok (⟨tries,r_12.2.1,r_12.2.2⟩ : kit_Stream) ((r_1.1.length : Nat) : Int) h_tries (hc.pick k0) hr_13) ?_
       rintro _ w ⟨rfl,hc⟩
       refine ⟨_,rfl,fun a hf => ?_⟩
       refine sp 2 hf rfl fun a hf => zT h ?_
       refine wp_seq_k fun K42 h42 => ?_
       obtain ⟨e_2,he_2,hF⟩ := bnd_some hF
       obtain ⟨g_1,rfl,qa_1,qr_1⟩ := row_atm hc m2 he_2
       obtain ⟨e_3,he_3,hF⟩ := bnd_some hF
       obtain ⟨qa_2,qr_2⟩ := row_atk hc m2 he_3
       refine cQ hc follows_mx (by kernel_rfl) ?_
       refine qE hf rfl rfl rfl (Pu.ev (pM rfl)) fun a hf => qE hf rfl rfl rfl (Pu.ev (pM rfl)) fun a hf => qE hf rfl rfl rfl (Pu.ev (pIA Try.underlying27 sz_3 rfl rfl qa_1)) fun a hf => qE hf rfl rfl rfl (eLd1 sc_3 rfl (cell_row (sz := 1) (i := r_12.1.toNat) (j := 0) m2 qr_1 rfl)) fun a hf => qE hf rfl rfl rfl (Pu.ev (pM rfl)) fun a hf => qE hf rfl rfl rfl (Pu.ev (pM rfl)) fun a hf => qE hf rfl rfl rfl (Pu.ev (pIA Try.underlying27 sz_3 rfl rfl qa_2)) fun a hf => qE hf rfl rfl rfl (eLd1 sc_3 rfl (cell_row (sz := 1) (i := r_13.1.toNat) (j := 0) m2 qr_2 rfl)) fun a hf => qE hf rfl rfl rfl (Pu.ev (pMin2 rfl rfl)) fun a hf => qE hf rfl rfl rfl (Pu.ev (pA rfl)) fun a hf => ?_
       intro w hc
       refine h42 _ _ ?_
       refine zS fun K h => sp 4 hf rfl fun a hf => stCc 3 (fun a => Has 221 a [(5,.slice (some ⟨g,0,none⟩) r_1.1.length c_4),(6,pq b_2),(8,i6 r_3.2.1),(21,.slice (some ⟨g_1,0,none⟩) left_1.length c_7),(23,.slice p_8 tried.length c_8),(86,i6 x),(150,i6 r_10.1),(151,i6 x_7),(24,i6 r_12.1),(25,i6 r_13.1),(26,i6 (min e_2 e_3)),(170,i6 r_12.1),(171,i6 r_13.1),(172,.bool (decide (r_12.1 < r_13.1))),(173,.bool (decide (r_12.1 < r_13.1))),(176,.bool ((decide (r_12.1 < r_13.1)) && (decide (0 < (min e_2 e_3)))))]) hc ?_ ?_
       ·cases hb : (decide (r_12.1 < r_13.1))
        ·rw [hb] at hf
         refine stS hf rfl rfl rfl fun a hf => stS hf rfl rfl rfl fun a hf => sp 1 hf rfl fun a hf => cNil ⟨hf.kp rfl,hc⟩
        ·rw [hb] at hf
         refine sp 3 hf rfl fun a hf => cNil ⟨hf.kp rfl,hc⟩
       intro a w ⟨hf,hc⟩
       refine zT h ?_
       refine zI hf rfl hF ?_ ?_ <;> clear hF <;> intro hF
       ·refine zS fun K h => sp 2 hf rfl fun a hf => ?_
        obtain ⟨r_14,hr_14,hF⟩ := bnd_some hF
        refine zC hf en_12 rfl (kit_Stream_Within_ok (⟨tries,r_13.2.1,r_13.2.2⟩ : kit_Stream) 1 (min e_2 e_3) h_tries (hc.pick k0) hr_14) ?_
        rintro _ w ⟨rfl,hc⟩
        refine ⟨_,rfl,fun a hf => ?_⟩
        refine sp 1 hf rfl fun a hf => zT h ?_
        refine zS fun K h => sp 4 hf rfl fun a hf => zP hf rfl (pBuildS (cells := [i6 r_12.1,i6 r_13.1,i6 r_14.1]) bt_43 rfl rfl) fun a hf => stBS (rows := ([(⟨r_12.1,r_13.1,r_14.1⟩ : daily_Fall)] : List daily_Fall).map enc_daily_Fall) (vs := [(0,.agg #[i6 r_12.1,i6 r_13.1,i6 r_14.1])]) hf hc rfl rfl sl_33 rfl ⟨rfl,rfl,rfl,trivial⟩ rfl rfl fun b_4 a w hf hc => ?_
        obtain ⟨un_1,hun_1,hF⟩ := bnd_some hF
        refine stApm (xs := tried) (ys := ([(⟨r_12.1,r_13.1,r_14.1⟩ : daily_Fall)] : List daily_Fall)) hf hc rfl rfl sl_33 rfl rfl rfl rfl rfl one_enc_daily_Fall (src_row hc m0) (fun _ _ => u2) (by simpa using room_spec hun_1) fun p_11 c_11 a w hf hc => sp 1 hf rfl fun a hf => zT h ?_
        obtain ⟨e_4,he_4,hF⟩ := bnd_some hF
        obtain ⟨qa_3,qr_3⟩ := row_atk hc m3 he_4
        obtain ⟨e_5,he_5,hF⟩ := bnd_some hF
        obtain ⟨qa_4,qr_4⟩ := row_atk hc m3 he_5
        obtain ⟨e_6,he_6,hF⟩ := bnd_some hF
        obtain ⟨qa_5,qr_5⟩ := row_atk hc m3 he_6
        obtain ⟨e_7,he_7,hF⟩ := bnd_some hF
        obtain ⟨qa_6,qr_6⟩ := row_atk hc m3 he_7
        refine regionE (fun θ => [⟨none,none,5,.slice (some ⟨g,0,none⟩) r_1.1.length c_4⟩,⟨none,none,6,pq b_2⟩,⟨none,none,8,i6 r_3.2.1⟩,⟨none,none,21,.slice (some ⟨g_1,0,none⟩) left_1.length c_7⟩,⟨none,none,23,.slice p_11 ((tried ++ [(⟨r_12.1,r_13.1,r_14.1⟩ : daily_Fall)]).length) c_11⟩,⟨none,none,24,i6 r_12.1⟩,⟨none,none,25,i6 r_13.1⟩,⟨none,none,26,i6 r_14.1⟩,⟨none,none,86,i6 x⟩,⟨none,none,150,i6 r_10.1⟩,⟨none,none,151,i6 x_7⟩,⟨some 0,none,187,.slice (some ⟨g_1,0,none⟩) left_1.length c_7⟩,⟨some 1,none,188,i6 r_12.1⟩,⟨some 2,none,189,.slice (some ⟨g_1,0,none⟩) left_1.length c_7⟩,⟨some 3,none,190,i6 r_13.1⟩,⟨some 4,none,191,.slice (some ⟨g_1,0,none⟩) left_1.length c_7⟩,⟨some 5,none,192,i6 r_12.1⟩,⟨some 6,none,193,.pointer (some ⟨g_1,r_12.1.toNat * 1,none⟩)⟩,⟨some 7,none,194,i6 e_4⟩,⟨some 8,none,195,i6 r_14.1⟩,⟨some 9,none,196,i6 (W (e_4 - r_14.1))⟩,⟨some 10,none,197,.slice (some ⟨g_1,0,none⟩) left_1.length c_7⟩,⟨some 11,none,198,i6 r_13.1⟩,⟨some 12,none,199,.pointer (some ⟨g_1,r_13.1.toNat * 1,none⟩)⟩,⟨some 13,none,200,i6 e_5⟩,⟨some 14,none,201,i6 r_14.1⟩,⟨some 15,none,202,i6 (W (e_5 - r_14.1))⟩,⟨some 16,none,203,.pointer (some ⟨g_1,r_12.1.toNat * 1,none⟩)⟩,⟨some 18,none,204,.pointer (some ⟨g_1,r_13.1.toNat * 1,none⟩)⟩]) (fun E θ => .row (some ⟨b_4,0,none⟩) 1 (([(⟨r_12.1,r_13.1,r_14.1⟩ : daily_Fall)] : List daily_Fall).map enc_daily_Fall) 43 3::.box b_2 [.slice tries_p tries.length tries_c,i6 r_14.2.1,i6 r_14.2.2] 47::.row p_11 c_11 ((tried ++ [(⟨r_12.1,r_13.1,r_14.1⟩ : daily_Fall)]).map enc_daily_Fall) 43 3::(bif E 19 then .row (some ⟨g_1,0,none⟩) c_7 (((left_1.set r_12.1.toNat (W (e_4 - r_14.1))).set r_13.1.toNat (W (e_5 - r_14.1))).map encI_i64) 3 1 else bif E 17 then .row (some ⟨g_1,0,none⟩) c_7 ((left_1.set r_12.1.toNat (W (e_4 - r_14.1))).map encI_i64) 3 1 else .row (some ⟨g_1,0,none⟩) c_7 (left_1.map encI_i64) 3 1)::.row (some ⟨g,0,none⟩) c_4 (r_1.1.map enc_daily_Reading) 39 2::Lf) [(17,6),(19,6),(17,7),(19,7),(13,12),(17,13),(19,12),(19,13),(17,16),(19,16),(19,17),(19,18)] (fun a w => Has 221 a [(5,.slice (some ⟨g,0,none⟩) r_1.1.length c_4),(6,pq b_2),(8,i6 r_3.2.1),(21,.slice (some ⟨g_1,0,none⟩) left_1.length c_7),(23,.slice p_11 ((tried ++ [(⟨r_12.1,r_13.1,r_14.1⟩ : daily_Fall)]).length) c_11),(86,i6 x),(150,i6 r_10.1),(151,i6 x_7)] ∧ Ctx G (.row (some ⟨b_4,0,none⟩) 1 (([(⟨r_12.1,r_13.1,r_14.1⟩ : daily_Fall)] : List daily_Fall).map enc_daily_Fall) 43 3::.box b_2 [.slice tries_p tries.length tries_c,i6 r_14.2.1,i6 r_14.2.2] 47::.row p_11 c_11 ((tried ++ [(⟨r_12.1,r_13.1,r_14.1⟩ : daily_Fall)]).map enc_daily_Fall) 43 3::.row (some ⟨g_1,0,none⟩) c_7 (((left_1.set r_12.1.toNat (W (e_4 - r_14.1))).set r_13.1.toNat (W (e_5 - r_14.1))).map encI_i64) 3 1::.row (some ⟨g,0,none⟩) c_4 (r_1.1.map enc_daily_Reading) 39 2::Lf) w) follows_mx (by kernel_rfl) (by kernel_rfl) (HasE.of hf ⟨rfl,rfl,rfl,rfl,rfl,rfl,rfl,rfl,rfl,rfl,rfl,trivial,trivial,trivial,trivial,trivial,trivial,trivial,trivial,trivial,trivial,trivial,trivial,trivial,trivial,trivial,trivial,trivial,trivial,trivial⟩) hc ⟨?_,?_,?_,?_,?_,?_,?_,?_,?_,?_,?_,?_,?_,?_,?_,?_,?_,?_,?_,?_,trivial⟩ ?_ ?_
        ·intro E θ a w hD hi hp he hc
         have hf := he.h0.mT he 3 rfl
         refine sp 1 hf rfl fun a hf => zD θ he hi hf 11 rfl rfl rfl hc
        ·intro E θ a w hD hi hp he hc
         have hf := he.h0.mT he 5 rfl
         refine sp 1 hf rfl fun a hf => zD θ he hi hf 12 rfl rfl rfl hc
        ·intro E θ a w hD hi hp he hc
         have hf := he.h0.mT he 3 rfl
         refine sp 1 hf rfl fun a hf => zD θ he hi hf 13 rfl rfl rfl hc
        ·intro E θ a w hD hi hp he hc
         have hf := he.h0.mT he 6 rfl
         refine sp 1 hf rfl fun a hf => zD θ he hi hf 14 rfl rfl rfl hc
        ·intro E θ a w hD hi hp he hc
         have hf := he.h0.mT he 3 rfl
         refine sp 1 hf rfl fun a hf => zD θ he hi hf 15 rfl rfl rfl hc
        ·intro E θ a w hD hi hp he hc
         have hf := he.h0.mT he 5 rfl
         refine sp 1 hf rfl fun a hf => zD θ he hi hf 16 rfl rfl rfl hc
        ·intro E θ a w hD hi hp he hc
         have e4 := hp.o 4 rfl
         have e5 := hp.o 5 rfl
         have e17 := hD.f 0 rfl hi
         have e19 := hD.f 1 rfl hi
         try dsimp only at hc
         rw [e17,e19] at hc
         have hf := (he.h0.mP he 15 rfl e4).mP he 16 rfl e5
         refine zP hf rfl (pIA Try.underlying27 sz_3 rfl rfl qa_3) fun a hf => zD θ he hi hf 17 rfl rfl rfl ?_
         try dsimp only
         rw [updE_fls 6 e17 rfl,updE_fls 6 e19 rfl]
         exact hc
        ·intro E θ a w hD hi hp he hc
         have e6 := hp.o 6 rfl
         have e17 := hD.f 2 rfl hi
         have e19 := hD.f 3 rfl hi
         try dsimp only at hc
         rw [e17,e19] at hc
         have hf := he.h0.mP he 17 rfl e6
         refine zE hf hc rfl (eLd1 sc_3 rfl (cell_row (sz := 1) (i := r_12.1.toNat) (j := 0) m3 qr_3 rfl)) fun a w hf hc => zD θ he hi hf 18 rfl rfl rfl ?_
         try dsimp only
         rw [updE_fls 7 e17 rfl,updE_fls 7 e19 rfl]
         exact hc
        ·intro E θ a w hD hi hp he hc
         have hf := he.h0.mT he 7 rfl
         refine sp 1 hf rfl fun a hf => zD θ he hi hf 19 rfl rfl rfl hc
        ·intro E θ a w hD hi hp he hc
         have e7 := hp.o 7 rfl
         have e8 := hp.o 8 rfl
         have hf := (he.h0.mP he 18 rfl e7).mP he 19 rfl e8
         refine sp 1 hf rfl fun a hf => zD θ he hi hf 20 rfl rfl rfl hc
        ·intro E θ a w hD hi hp he hc
         have hf := he.h0.mT he 3 rfl
         refine sp 1 hf rfl fun a hf => zD θ he hi hf 21 rfl rfl rfl hc
        ·intro E θ a w hD hi hp he hc
         have hf := he.h0.mT he 6 rfl
         refine sp 1 hf rfl fun a hf => zD θ he hi hf 22 rfl rfl rfl hc
        ·intro E θ a w hD hi hp he hc
         have e10 := hp.o 10 rfl
         have e11 := hp.o 11 rfl
         have e13 := hD.f 4 rfl hi
         have e17 := hD.f 5 rfl e13
         have e19 := hD.f 6 rfl hi
         try dsimp only at hc
         rw [e17,e19] at hc
         have hf := (he.h0.mP he 21 rfl e10).mP he 22 rfl e11
         refine zP hf rfl (pIA Try.underlying27 sz_3 rfl rfl qa_4) fun a hf => zD θ he hi hf 23 rfl rfl rfl ?_
         try dsimp only
         rw [updE_fls 12 e17 rfl,updE_fls 12 e19 rfl]
         exact hc
        ·intro E θ a w hD hi hp he hc
         have e12 := hp.o 12 rfl
         have e17 := hD.f 5 rfl hi
         have e19 := hD.f 7 rfl hi
         try dsimp only at hc
         rw [e17,e19] at hc
         have hf := he.h0.mP he 23 rfl e12
         refine zE hf hc rfl (eLd1 sc_3 rfl (cell_row (sz := 1) (i := r_13.1.toNat) (j := 0) m3 qr_4 rfl)) fun a w hf hc => zD θ he hi hf 24 rfl rfl rfl ?_
         try dsimp only
         rw [updE_fls 13 e17 rfl,updE_fls 13 e19 rfl]
         exact hc
        ·intro E θ a w hD hi hp he hc
         have hf := he.h0.mT he 7 rfl
         refine sp 1 hf rfl fun a hf => zD θ he hi hf 25 rfl rfl rfl hc
        ·intro E θ a w hD hi hp he hc
         have e13 := hp.o 13 rfl
         have e14 := hp.o 14 rfl
         have hf := (he.h0.mP he 24 rfl e13).mP he 25 rfl e14
         refine sp 1 hf rfl fun a hf => zD θ he hi hf 26 rfl rfl rfl hc
        ·intro E θ a w hD hi hp he hc
         have e0 := hp.o 0 rfl
         have e1 := hp.o 1 rfl
         have e17 := hD.f 8 rfl hi
         have e19 := hD.f 9 rfl hi
         try dsimp only at hc
         rw [e17,e19] at hc
         have hf := (he.h0.mP he 11 rfl e0).mP he 12 rfl e1
         refine zP hf rfl (pIA Try.underlying27 sz_3 rfl rfl qa_5) fun a hf => zD θ he hi hf 27 rfl rfl rfl ?_
         try dsimp only
         rw [updE_fls 16 e17 rfl,updE_fls 16 e19 rfl]
         exact hc
        ·intro E θ a w hD hi hp he hc
         have e9 := hp.o 9 rfl
         have e16 := hp.o 16 rfl
         have e19 := hD.f 10 rfl hi
         try dsimp only at hc
         rw [hi,e19] at hc
         have hf := (he.h0.mP he 20 rfl e9).mP he 27 rfl e16
         refine stRw (sz := 1) (vs := [i6 (W (e_4 - r_14.1))]) (o' := 0) (z := W (e_4 - r_14.1)) (xs := left_1) hf hc rfl rfl rfl rfl sz_3 rfl (fun x => (one_encI_i64 x).1) (getI_lt he_6) (fun _ _ => rfl) rfl u3 fun w hc => zG θ he hi hf rfl ?_
         try dsimp only
         rw [updE_self E 17,updE_fls 17 e19 rfl]
         exact hc
        ·intro E θ a w hD hi hp he hc
         have e2 := hp.o 2 rfl
         have e3 := hp.o 3 rfl
         have e17 := hp.o 17 rfl
         have e19 := hD.f 11 rfl hi
         try dsimp only at hc
         rw [e17,e19] at hc
         have hf := (he.h0.mP he 13 rfl e2).mP he 14 rfl e3
         refine zP hf rfl (pIA Try.underlying27 sz_3 rfl rfl qa_6) fun a hf => zD θ he hi hf 28 rfl rfl rfl ?_
         try dsimp only
         rw [updE_tru 18 e17,updE_fls 18 e19 rfl]
         exact hc
        ·intro E θ a w hD hi hp he hc
         have e15 := hp.o 15 rfl
         have e18 := hp.o 18 rfl
         have e17 := hp.o 17 rfl
         try dsimp only at hc
         rw [e17,hi] at hc
         have hf := (he.h0.mP he 26 rfl e15).mP he 28 rfl e18
         refine stRw (sz := 1) (vs := [i6 (W (e_5 - r_14.1))]) (o' := 0) (z := W (e_5 - r_14.1)) (xs := (left_1.set r_12.1.toNat (W (e_4 - r_14.1)))) hf hc rfl rfl rfl rfl sz_3 rfl (fun x => (one_encI_i64 x).1) (by simpa using getI_lt he_7) (fun _ _ => rfl) rfl u3 fun w hc => zG θ he hi hf rfl ?_
         try dsimp only
         rw [updE_tru 19 e17,updE_self E 19]
         exact hc
        ·intro E θ a w hall he hc
         have hf := he.h0
         have e17 := hall 17 rfl
         have e19 := hall 19 rfl
         replace hf := hf.more he 10 rfl (onT)
         replace hf := hf.more he 9 rfl (onT)
         replace hf := hf.more he 8 rfl (onT)
         replace hf := hf.more he 4 rfl (onT)
         replace hf := hf.more he 3 rfl (onT)
         replace hf := hf.more he 2 rfl (onT)
         replace hf := hf.more he 1 rfl (onT)
         replace hf := hf.more he 0 rfl (onT)
         try dsimp only at hc
         rw [e17,e19] at hc
         exact ⟨hf.kp rfl,hc⟩
        rintro a w ⟨hf,hc⟩
        replace hf := hf.castAt 21 (v' := .slice (some ⟨g_1,0,none⟩) (((left_1.set r_12.1.toNat (W (e_4 - r_14.1))).set r_13.1.toNat (W (e_5 - r_14.1))).length) c_7) rfl (congrArg (fun k => Value.slice (some ⟨g_1,0,none⟩) k c_7) (by simp))
        replace hc := hc.drop k0
        exact hj40 ((left_1.set r_12.1.toNat (W (e_4 - r_14.1))).set r_13.1.toNat (W (e_5 - r_14.1))) (tried ++ [(⟨r_12.1,r_13.1,r_14.1⟩ : daily_Fall)]) r_14.2.1 r_14.2.2 (some ⟨g_1,0,none⟩) c_7 p_11 c_11 _ _  (hf.kp rfl) hc hF
       ·refine wp_skip ?_
        exact hj40 left_1 tried r_13.2.1 r_13.2.2 (some ⟨g_1,0,none⟩) c_7 p_8 c_8 _ _  (hf.kp rfl) hc hF
      ·refine wp_exit ?_
       refine xThen ?_
       refine xThen ?_
       have he := sj hF
       rw [← he] at hfin34
       refine cHit ?_
       exact hr34 _ _ _ hfin34 ⟨p_7,c_7,p_8,c_8,hf.kp rfl,hc⟩
     have ho30 : ∀ r,x30 = .out r → r = st13 := by
      rintro r rfl
      exact sj hF
     replace hc := hc.drop k1
     refine cLoop N (loopW (S := S30) (x := x30) ?_ N ((List.replicate ((r_1.1.length : Nat) : Int).toNat (0 : Int)),0) _ _ ⟨(some ⟨b_3,0,none⟩),((r_1.1.length : Nat) : Int).toNat,hf.kp rfl,hc⟩ hx30)
     clear hF hf hc
     rintro ⟨left,x_6⟩ st30 a w KB30 ⟨p_6,c_6,hf,hc⟩ hF hfin30 hK30
     unfold law07_DailyCorrected_b30 at hF
     refine zS fun K h => sp 1 hf rfl fun a hf => zT h ?_
     refine wp_seq_k fun K47 h47 => zI hf rfl hF ?_ ?_ <;> clear hF <;> intro hF
     ·refine wp_skip ?_
      refine h47 _ _ ?_
      refine wp_seq_k fun K48 h48 => wp_block ?_
      refine zS fun K h => sp 2 hf rfl fun a hf => zT h ?_
      refine cReg ?_
      refine sp 4 hf rfl fun a hf => ?_
      obtain ⟨e_8,he_8,hF⟩ := bnd_some hF
      obtain ⟨qa_7,qr_7⟩ := row_atk hc m1 he_8
      refine zP hf rfl (pIA Try.underlying23 sz_39 rfl rfl qa_7) fun a hf => zP hf rfl (pFA fa_39_1 rfl) fun a hf => zE hf hc rfl (eLd1 sc_3 rfl (cell_row (sz := 2) (i := x_6.toNat) (j := 1) m1 qr_7 rfl)) fun a w hf hc => ?_
      obtain ⟨e_9,he_9,hF⟩ := bnd_some hF
      obtain ⟨g_2,rfl,qa_8,qr_8⟩ := row_atm hc m0 he_9
      refine zP hf rfl (pIA Try.underlying27 sz_3 rfl rfl qa_8) fun a hf => stRw (sz := 1) (vs := [i6 e_8.Weight]) (o' := 0) (z := e_8.Weight) (xs := left) hf hc rfl rfl rfl rfl sz_3 rfl (fun x => (one_encI_i64 x).1) (getI_lt he_9) (fun _ _ => rfl) rfl u0 fun w hc => cNil ?_
      refine h48 _ _ ?_
      refine cReg ?_
      refine sp 2 hf rfl fun a hf => cNil ?_
      replace hf := hf.castAt 21 (v' := .slice (some ⟨g_2,0,none⟩) ((left.set x_6.toNat e_8.Weight).length) c_6) rfl (congrArg (fun k => Value.slice (some ⟨g_2,0,none⟩) k c_6) (by simp))
      exact hK30 ((left.set x_6.toNat e_8.Weight),W (x_6 + 1)) _ _ (sj hF).symm ⟨(some ⟨g_2,0,none⟩),c_6,hf.kp rfl,hc⟩
     ·refine wp_exit ?_
      refine xThen ?_
      refine xThen ?_
      have he := sj hF
      rw [← he] at hfin30
      refine cHit ?_
      exact hr30 _ _ _ hfin30 ⟨p_6,c_6,hf.kp rfl,hc⟩
   have ho22 : ∀ r,x22 = .out r → r = st13 := by
    rintro r rfl
    exact sj hF
   replace hc := hc.nilRow 3 1
   refine cLoop N (loopW (S := S22) (x := x22) ?_ N (([] : List Int),e_1.Value,0,x_1,x_2) _ _ ⟨none,0,hf.kp rfl,hc⟩ hx22)
   clear hF hf hc
   rintro ⟨mine,at_,x_3,x_4,x_5⟩ st22 a w KB22 ⟨p_5,c_5,hf,hc⟩ hF hfin22 hK22
   unfold law07_DailyCorrected_b22 at hF
   refine zS fun K h => sp 1 hf rfl fun a hf => zT h ?_
   refine wp_seq_k fun K51 h51 => zI hf rfl hF ?_ ?_ <;> clear hF <;> intro hF
   ·refine wp_skip ?_
    refine h51 _ _ ?_
    refine wp_seq_k fun K52 h52 => wp_block ?_
    refine zS fun K h => sp 2 hf rfl fun a hf => zT h ?_
    refine wp_seq_k fun K54 h54 => ?_
    have hj54 : ∀ (at__1 : Int) (x_12 : Int) (x_13 : Int) a w,Has 221 a [(5,.slice (some ⟨g,0,none⟩) r_1.1.length c_4),(6,pq b_2),(8,i6 r_3.2.1),(16,.slice p_5 mine.length c_5),(17,i6 at__1),(86,i6 x),(93,i6 ((r_1.1.length : Nat) : Int)),(94,i6 x_3)] → Ctx G (.box b_2 [.slice tries_p tries.length tries_c,i6 x_12,i6 x_13] 47::.row p_5 c_5 (mine.map encI_i64) 3 1::.row (some ⟨g,0,none⟩) c_4 (r_1.1.map enc_daily_Reading) 39 2::Lf) w → law07_DailyCorrected_j54 N tries mine x_3 at__1 x_12 x_13 = some st22 → K54 a w := by
     repeat (clear hF)
     repeat (clear hc)
     repeat (clear hf)
     intro at__1 x_12 x_13 a w hf hc hF
     unfold law07_DailyCorrected_j54 at hF
     refine h54 _ _ ?_
     refine zS fun K h => sp 2 hf rfl fun a hf => stBS (rows := ([at__1] : List Int).map encI_i64) (vs := [(0,i6 at__1)]) hf hc rfl rfl sl_27 rfl ⟨rfl,rfl,rfl,trivial⟩ rfl rfl fun b_5 a w hf hc => ?_
     obtain ⟨un_2,hun_2,hF⟩ := bnd_some hF
     refine stApm (xs := mine) (ys := ([at__1] : List Int)) hf hc rfl rfl sl_27 rfl rfl rfl rfl rfl one_encI_i64 (src_row hc m0) (fun _ _ => u2) (by simpa using room_spec hun_2) fun p_12 c_12 a w hf hc => sp 1 hf rfl fun a hf => zT h ?_
     refine cReg ?_
     refine sp 2 hf rfl fun a hf => ?_
     obtain ⟨r_15,hr_15,hF⟩ := bnd_some hF
     refine zC hf en_11 rfl (kit_Stream_Next_ok (⟨tries,x_12,x_13⟩ : kit_Stream) 3 h_tries (hc.pick k1) hr_15) ?_
     rintro _ w ⟨rfl,hc⟩
     refine ⟨_,rfl,fun a hf => ?_⟩
     refine sp 1 hf rfl fun a hf => ?_
     obtain ⟨r_16,hr_16,hF⟩ := bnd_some hF
     refine zC hf en_11 rfl (kit_Stream_Next_ok (⟨tries,r_15.2.1,r_15.2.2⟩ : kit_Stream) 4 h_tries (hc.pick k0) hr_16) ?_
     rintro _ w ⟨rfl,hc⟩
     refine ⟨_,rfl,fun a hf => ?_⟩
     refine sp 3 hf rfl fun a hf => cNil ?_
     refine h52 _ _ ?_
     refine cReg ?_
     refine sp 2 hf rfl fun a hf => cNil ?_
     replace hc := (((hc.drop k1).pick k0).pick k2).pick k2
     exact hK22 ((mine ++ [at__1]),W (at__1 + (W (r_15.1 * r_16.1))),W (x_3 + 1),r_16.2.1,r_16.2.2) _ _ (sj hF).symm ⟨p_12,c_12,hf.kp rfl,hc⟩
    refine zS fun K h => sp 1 hf rfl fun a hf => ?_
    obtain ⟨r_17,hr_17,hF⟩ := bnd_some hF
    refine zC hf en_11 rfl (kit_Stream_Next_ok (⟨tries,x_4,x_5⟩ : kit_Stream) 2 h_tries (hc.pick k2) hr_17) ?_
    rintro _ w ⟨rfl,hc⟩
    refine ⟨_,rfl,fun a hf => ?_⟩
    refine sp 1 hf rfl fun a hf => zT h ?_
    refine zI hf rfl hF ?_ ?_ <;> clear hF <;> intro hF
    ·refine cReg ?_
     refine sp 3 hf rfl fun a hf => ?_
     obtain ⟨e_10,he_10,hF⟩ := bnd_some hF
     obtain ⟨qa_9,qr_9⟩ := row_atk hc m2 he_10
     refine zP hf rfl (pIA Try.underlying23 sz_39 rfl rfl qa_9) fun a hf => zP hf rfl (pFA fa_39_0 rfl) fun a hf => zE hf hc rfl (eLd1 sc_3 rfl (cell_row (sz := 2) (i := x_3.toNat) (j := 0) m2 qr_9 rfl)) fun a w hf hc => zP hf rfl (pMax2 rfl rfl) fun a hf => sp 1 hf rfl fun a hf => cNil ?_
     exact hj54 (max at_ e_10.Value) r_17.2.1 r_17.2.2 _ _  (hf.kp rfl) hc hF
    ·refine wp_skip ?_
     exact hj54 at_ r_17.2.1 r_17.2.2 _ _  (hf.kp rfl) hc hF
   ·refine wp_exit ?_
    refine xThen ?_
    refine xThen ?_
    have he := sj hF
    rw [← he] at hfin22
    refine cHit ?_
    exact hr22 _ _ _ hfin22 ⟨p_5,c_5,hf.kp rfl,hc⟩
  ·refine wp_exit ?_
   refine xThen ?_
   refine xThen ?_
   have he := sj hF
   rw [← he] at hfin13
   refine cHit ?_
   exact hr13 _ _ _ hfin13 ⟨p_4,c_4,hf.kp rfl,hc⟩

end Go.Nilo
