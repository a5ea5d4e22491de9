/-
  What functions of the Go text compute, as plain functions, and that they do, part 5 of 5. Conditions: what each theorem names.
-/
import Derived.Test.YtbcaeppbfioogaaGa4
import Derived.Test.YtbcaeppbfioogaaProg
set_option linter.unusedVariables false
set_option linter.unusedSimpArgs false
set_option maxRecDepth 100000
set_option maxHeartbeats 4000000
namespace Go.Nilo
open Go.Proofs


def law07_DailyGauged_b16 (N : Nat) (truth : List Int) (r_4 : (List api_Span) × Int) (r_5 : (List api_Span) × Int) (x_11 : Int) : Option (Step (Int) (Bool)) :=
  cond (decide (x_11 < ((truth.length : Nat) : Int)))
  (Option.bind (getI truth x_11) fun e_1 =>
  Option.bind (getI r_5.1 x_11) fun e_2 =>
  Option.bind (cond (decide (e_1 < e_2.Lo)) (some true) (Option.bind (getI r_5.1 x_11) fun e_3 =>
  some (decide (e_3.Hi < e_1)))) fun t_1 =>
  Option.bind (cond t_1 (some true) (Option.bind (getI r_5.1 x_11) fun e_4 =>
  Option.bind (getI r_4.1 x_11) fun e_5 =>
  some (decide (e_4.Lo < e_5.Lo)))) fun t_2 =>
  Option.bind (cond t_2 (some true) (Option.bind (getI r_5.1 x_11) fun e_6 =>
  Option.bind (getI r_4.1 x_11) fun e_7 =>
  some (decide (e_7.Hi < e_6.Hi)))) fun t_3 =>
  cond t_3
  (some (.ret false))
  (some (.cont (W (x_11 + 1)))))
  (some (.brk x_11))
def law07_DailyGauged_j45 (N : Nat) (x : Int) (r_8 : gauge_Gauging × Int × Int) (x_15 : Int) (x_16 : Int) (r_10 : Int × Int) (r_11 : api_Span × Int) (r_12 : api_Span × Int) (r_13 : Int × Int × Int) (truth_1 : List Int) (x_19 : List daily_Value) (x_20 : List daily_Value) (x_21 : Int) (x_22 : Int) : Option (Step ((List Int) × Int × Int × Int × Int × Int × Int × Int × Int × Int × (List daily_Value) × (List daily_Value)) (Bool)) :=
  Option.bind (room ((truth_1 ++ [r_10.1])).length) fun un =>
  Option.bind (law07_known N (max 0 r_11.1.Lo) r_11.1.Hi) fun r_14 =>
  Option.bind (room ((x_19 ++ [r_14])).length) fun un_1 =>
  Option.bind (law07_known N (max 0 r_12.1.Lo) r_12.1.Hi) fun r_15 =>
  Option.bind (room ((x_20 ++ [r_15])).length) fun un_2 =>
  some (.cont ((truth_1 ++ [r_10.1]), W (x + 1), r_13.2.1, r_13.2.2, r_8.2.1, r_8.2.2, x_15, x_16, x_21, x_22, (x_19 ++ [r_14]), (x_20 ++ [r_15])))
def law07_DailyGauged_j51 (N : Nat) (x_18 : Int) (truth_2 : List Int) (x_23 : List daily_Value) (x_24 : List daily_Value) : Option (Step ((List Int) × Int × (List daily_Value) × (List daily_Value)) (Step ((List Int) × Int × Int × Int × Int × Int × Int × Int × Int × Int × (List daily_Value) × (List daily_Value)) (Bool))) :=
  some (.cont (truth_2, W (x_18 + 1), x_23, x_24))
def law07_DailyGauged_b44 (N : Nat) (r_13 : Int × Int × Int) (truth_1 : List Int) (x_18 : Int) (x_19 : List daily_Value) (x_20 : List daily_Value) : Option (Step ((List Int) × Int × (List daily_Value) × (List daily_Value)) (Step ((List Int) × Int × Int × Int × Int × Int × Int × Int × Int × Int × (List daily_Value) × (List daily_Value)) (Bool))) :=
  cond (decide (x_18 < r_13.1))
  (cond (decide (0 < ((truth_1.length : Nat) : Int)))
  (Option.bind (getI truth_1 (W (((truth_1.length : Nat) : Int) - 1))) fun e_10 =>
  Option.bind (room ((truth_1 ++ [e_10])).length) fun un_3 =>
  Option.bind (room ((x_19 ++ [(⟨false, (⟨0, 0⟩ : api_Span)⟩ : daily_Value)])).length) fun un_4 =>
  Option.bind (room ((x_20 ++ [(⟨false, (⟨0, 0⟩ : api_Span)⟩ : daily_Value)])).length) fun un_5 =>
  law07_DailyGauged_j51 N x_18 (truth_1 ++ [e_10]) (x_19 ++ [(⟨false, (⟨0, 0⟩ : api_Span)⟩ : daily_Value)]) (x_20 ++ [(⟨false, (⟨0, 0⟩ : api_Span)⟩ : daily_Value)]))
  (law07_DailyGauged_j51 N x_18 truth_1 x_19 x_20))
  (some (.brk (truth_1, x_18, x_19, x_20)))
def law07_DailyGauged_j56 (N : Nat) (x_14 : Int) (x_25 : Int) (x_26 : Int) (x_27 : List gauge_Vertical) : Option (Step (Int × Int × Int × (List gauge_Vertical)) (Step ((List Int) × Int × Int × Int × Int × Int × Int × Int × Int × Int × (List daily_Value) × (List daily_Value)) (Bool))) :=
  some (.cont (W (x_14 + 1), x_25, x_26, x_27))
def law07_DailyGauged_b35 (N : Nat) (better : List Int) (x_13 : List Int) (r_9 : gauge_Gauging) (x_14 : Int) (x_15 : Int) (x_16 : Int) (x_17 : List gauge_Vertical) : Option (Step (Int × Int × Int × (List gauge_Vertical)) (Step ((List Int) × Int × Int × Int × Int × Int × Int × Int × Int × Int × (List daily_Value) × (List daily_Value)) (Bool))) :=
  cond (decide (x_14 < ((r_9.Verticals.length : Nat) : Int)))
  (Option.bind (kit_Stream_Next N (⟨better, x_15, x_16⟩ : kit_Stream) 2) fun r_16 =>
  cond (r_16.1 == 0)
  (Option.bind (getI x_13 x_14) fun e_11 =>
  Option.bind (getI x_13 x_14) fun e_12 =>
  Option.bind (law07_span N e_11 e_12) fun r_17 =>
  Option.bind (getI x_17 x_14) fun e_13 =>
  law07_DailyGauged_j56 N x_14 r_16.2.1 r_16.2.2 (x_17.set x_14.toNat (⟨e_13.At, e_13.Depth, r_17⟩ : gauge_Vertical)))
  (law07_DailyGauged_j56 N x_14 r_16.2.1 r_16.2.2 x_17))
  (some (.brk (x_14, x_15, x_16, x_17)))
def law07_DailyGauged_b30 (N : Nat) (r_7 : law03_River × Int × Int) (x_12 : Int) (x_13 : List Int) : Option (Step (Int × (List Int)) (Step ((List Int) × Int × Int × Int × Int × Int × Int × Int × Int × Int × (List daily_Value) × (List daily_Value)) (Bool))) :=
  cond (decide (x_12 < ((r_7.1.Speeds.length : Nat) : Int)))
  (Option.bind (getI x_13 x_12) fun e_14 =>
  Option.bind (getI x_13 x_12) fun e_15 =>
  some (.cont (W (x_12 + 1), (x_13.set x_12.toNat (max 0 e_14)))))
  (some (.brk (x_12, x_13)))
def law07_DailyGauged_b7 (N : Nat) (numbers : List Int) (errors : List Int) (better : List Int) (r_3 : Int × Int × Int) (truth : List Int) (x : Int) (x_1 : Int) (x_2 : Int) (x_3 : Int) (x_4 : Int) (x_5 : Int) (x_6 : Int) (x_7 : Int) (x_8 : Int) (x_9 : List daily_Value) (x_10 : List daily_Value) : Option (Step ((List Int) × Int × Int × Int × Int × Int × Int × Int × Int × Int × (List daily_Value) × (List daily_Value)) (Bool)) :=
  cond (decide (x < r_3.1))
  (Option.bind (law03_Section N (⟨numbers, x_1, x_2⟩ : kit_Stream) 4) fun r_7 =>
  Option.bind (loopO (fun s30 => law07_DailyGauged_b30 N r_7 s30.1 s30.2) N (0, r_7.1.Speeds)) fun x30 =>
  exK x30 (fun s30 => Option.bind (law03_Gauged N (⟨errors, x_3, x_4⟩ : kit_Stream) (⟨r_7.1.Left, r_7.1.Right, r_7.1.At, r_7.1.Depth, s30.2⟩ : law03_River)) fun r_8 =>
  Option.bind (law03_CopyGauging N r_8.1) fun r_9 =>
  Option.bind (loopO (fun s35 => law07_DailyGauged_b35 N better s30.2 r_9 s35.1 s35.2.1 s35.2.2.1 s35.2.2.2) N (0, x_5, x_6, r_9.Verticals)) fun x35 =>
  exK x35 (fun s35 => Option.bind (gauge_Real N r_8.1 r_7.1.Depth s30.2) fun r_10 =>
  Option.bind (gauge_Flow N r_8.1) fun r_11 =>
  Option.bind (gauge_Flow N (⟨r_9.Left, r_9.Right, s35.2.2.2⟩ : gauge_Gauging)) fun r_12 =>
  cond ((((((((r_10.2 != 0) || (r_11.2 != 0)) || (r_12.2 != 0)) || (decide (r_10.1 < 0))) || (decide (r_11.1.Hi < r_10.1))) || (decide (r_12.1.Hi < r_10.1))) || (decide (1000000000 < r_11.1.Hi))) || (decide (1000000000 < r_12.1.Hi)))
  (some (.ret false))
  (Option.bind (kit_Stream_Next N (⟨numbers, r_7.2.1, r_7.2.2⟩ : kit_Stream) 3) fun r_13 =>
  Option.bind (loopO (fun s44 => law07_DailyGauged_b44 N r_13 s44.1 s44.2.1 s44.2.2.1 s44.2.2.2) N (truth, 0, x_9, x_10)) fun x44 =>
  exK x44 (fun s44 => cond (decide (0 < ((s44.1.length : Nat) : Int)))
  (Option.bind (getI s44.1 (W (((s44.1.length : Nat) : Int) - 1))) fun e_8 =>
  Option.bind (getI s44.1 (W (((s44.1.length : Nat) : Int) - 1))) fun e_9 =>
  law07_DailyGauged_j45 N x r_8 s35.2.1 s35.2.2.1 r_10 r_11 r_12 r_13 s44.1 s44.2.2.1 s44.2.2.2 (max x_7 (W (r_10.1 - e_8))) (max x_8 (W (e_9 - r_10.1))))
  (law07_DailyGauged_j45 N x r_8 s35.2.1 s35.2.2.1 r_10 r_11 r_12 r_13 s44.1 s44.2.2.1 s44.2.2.2 x_7 x_8)) some)) some) some)
  (some (.brk (truth, x, x_1, x_2, x_3, x_4, x_5, x_6, x_7, x_8, x_9, x_10)))
def law07_DailyGauged (N : Nat) (numbers : List Int) (errors : List Int) (better : List Int) : Option (Bool) :=
  Option.bind (kit_New N numbers) fun r =>
  Option.bind (kit_New N errors) fun r_1 =>
  Option.bind (kit_New N better) fun r_2 =>
  Option.bind (kit_Stream_Within N (⟨numbers, r.1, r.2⟩ : kit_Stream) 2 5) fun r_3 =>
  Option.bind (loopO (fun s7 => law07_DailyGauged_b7 N numbers errors better r_3 s7.1 s7.2.1 s7.2.2.1 s7.2.2.2.1 s7.2.2.2.2.1 s7.2.2.2.2.2.1 s7.2.2.2.2.2.2.1 s7.2.2.2.2.2.2.2.1 s7.2.2.2.2.2.2.2.2.1 s7.2.2.2.2.2.2.2.2.2.1 s7.2.2.2.2.2.2.2.2.2.2.1 s7.2.2.2.2.2.2.2.2.2.2.2) N (([] : List Int), 0, r_3.2.1, r_3.2.2, r_1.1, r_1.2, r_2.1, r_2.2, 0, 0, ([] : List daily_Value), ([] : List daily_Value))) fun x7 =>
  exK x7 (fun s7 => Option.bind (daily_Fill N (⟨s7.2.2.2.2.2.2.2.2.1, s7.2.2.2.2.2.2.2.2.2.1, s7.2.2.2.2.2.2.2.2.2.2.1⟩ : daily_Record)) fun r_4 =>
  Option.bind (daily_Fill N (⟨s7.2.2.2.2.2.2.2.2.1, s7.2.2.2.2.2.2.2.2.2.1, s7.2.2.2.2.2.2.2.2.2.2.2⟩ : daily_Record)) fun r_5 =>
  cond ((((r_4.2 != 0) || (r_5.2 != 0)) || (((r_4.1.length : Nat) : Int) != ((s7.1.length : Nat) : Int))) || (((r_5.1.length : Nat) : Int) != ((s7.1.length : Nat) : Int)))
  (some false)
  (Option.bind (loopO (fun s16 => law07_DailyGauged_b16 N s7.1 r_4 r_5 s16) N 0) fun x16 =>
  exK x16 (fun s16 => Option.bind (law07_awake N) fun r_6 =>
  some r_6) some)) some
theorem law07_DailyGauged_ok {N : Nat} {G : Pers} {Lf : List Ent} {w : World} (numbers : List Int) (errors : List Int) (better : List Int) {numbers_p : Option Addr} {numbers_c : Nat} {errors_p : Option Addr} {errors_c : Nat} {better_p : Option Addr} {better_c : Nat} (h_numbers : Rd G 1 numbers_p numbers_c (numbers.map encI_u8)) (h_errors : Rd G 1 errors_p errors_c (errors.map encI_u8)) (h_better : Rd G 1 better_p better_c (better.map encI_u8)) (hc : Ctx G (Lf) w) {res : Bool} (hF : law07_DailyGauged N numbers errors better = some res) : Calls Try.prog 9 #[.slice numbers_p numbers.length numbers_c, .slice errors_p errors.length errors_c, .slice better_p better.length better_c] w (fun e w => e = .returned (.bool res) ∧ Ctx G (Lf) w) := by
  unfold law07_DailyGauged at hF
  refine fnIn (args := [.slice numbers_p numbers.length numbers_c, .slice errors_p errors.length errors_c, .slice better_p better.length better_c]) Try.func9 rfl Try.ntmps9 rfl fun a hf => ?_
  refine wp_seq_k fun K1 h1 => ?_
  refine cReg ?_
  refine stP hf rfl rfl rfl (pA rfl) fun a hf => ?_
  refine cNil ?_
  refine h1 _ _ ?_
  refine wp_seq_k fun K2 h2 => ?_
  refine cReg ?_
  refine stP hf rfl rfl rfl (pM rfl) fun a hf => ?_
  obtain ⟨r, hr, hF⟩ := bnd_some hF
  refine stC (vs := [.slice numbers_p numbers.length numbers_c]) (caps := []) hf rfl rfl rfl en_26 rfl rfl rfl rfl (kit_New_ok numbers h_numbers hc hr) ?_
  rintro _ w ⟨b_1, rfl, hc⟩
  refine ⟨_, rfl, fun a hf => ?_⟩
  refine stP hf rfl rfl rfl (pM rfl) fun a hf => ?_
  obtain ⟨r_1, hr_1, hF⟩ := bnd_some hF
  refine stC (vs := [.slice errors_p errors.length errors_c]) (caps := []) hf rfl rfl rfl en_26 rfl rfl rfl rfl (kit_New_ok errors h_errors hc hr_1) ?_
  rintro _ w ⟨b_2, rfl, hc⟩
  refine ⟨_, rfl, fun a hf => ?_⟩
  refine stP hf rfl rfl rfl (pM rfl) fun a hf => ?_
  obtain ⟨r_2, hr_2, hF⟩ := bnd_some hF
  refine stC (vs := [.slice better_p better.length better_c]) (caps := []) hf rfl rfl rfl en_26 rfl rfl rfl rfl (kit_New_ok better h_better hc hr_2) ?_
  rintro _ w ⟨b_3, rfl, hc⟩
  refine ⟨_, rfl, fun a hf => ?_⟩
  refine stP hf rfl rfl rfl (pA rfl) fun a hf => ?_
  refine stP hf rfl rfl rfl (pA rfl) fun a hf => ?_
  refine stP hf rfl rfl rfl (pA rfl) fun a hf => ?_
  refine cNil ?_
  refine h2 _ _ ?_
  refine wp_seq_k fun K3 h3 => ?_
  refine cReg ?_
  refine stAl (cs := [.int .i64 0, .int .i64 0, .slice none 0 0]) hf hc rfl rfl zr_24 rfl fun b_4 a w hf hc => ?_
  refine stAl (cs := [.int .i64 0, .int .i64 0, .slice none 0 0]) hf hc rfl rfl zr_24 rfl fun b_5 a w hf hc => ?_
  refine cNil ?_
  refine h3 _ _ ?_
  refine wp_seq_k fun K4 h4 => ?_
  refine cReg ?_
  refine stP hf rfl rfl rfl (pA rfl) fun a hf => ?_
  refine cNil ?_
  refine h4 _ _ ?_
  refine wp_seq_k fun K5 h5 => ?_
  refine wp_seq_k fun K6 h6 => ?_
  refine cReg ?_
  refine stP hf rfl rfl rfl (pM rfl) fun a hf => ?_
  obtain ⟨r_3, hr_3, hF⟩ := bnd_some hF
  refine stC (vs := [.pointer (some ⟨b_1, 0, none⟩), .int .i64 2, .int .i64 5]) (caps := []) hf rfl rfl rfl en_31 rfl rfl rfl rfl (kit_Stream_Within_ok (⟨numbers, r.1, r.2⟩ : kit_Stream) 2 5 h_numbers (hc.pick k4) hr_3) ?_
  rintro _ w ⟨rfl, hc⟩
  refine ⟨_, rfl, fun a hf => ?_⟩
  refine stP hf rfl rfl rfl (pM rfl) fun a hf => ?_
  refine cNil ?_
  refine h6 _ _ ?_
  refine wp_block ?_
  obtain ⟨x7, hx7, hF⟩ := bnd_some hF
  let S7 : ((List Int) × Int × Int × Int × Int × Int × Int × Int × Int × Int × (List daily_Value) × (List daily_Value)) → Act → World → Prop := (fun (zz : (List Int) × Int × Int × Int × Int × Int × Int × Int × Int × Int × (List daily_Value) × (List daily_Value)) a w => ∃ (p_1 : Option Addr) (c_1 : Nat) (p_2 : Option Addr) (c_2 : Nat) (p_3 : Option Addr) (c_3 : Nat), Has 315 a [(7, .pointer (some ⟨b_1, 0, none⟩)), (8, .pointer (some ⟨b_2, 0, none⟩)), (9, .pointer (some ⟨b_3, 0, none⟩)), (10, .pointer (some ⟨b_4, 0, none⟩)), (11, .pointer (some ⟨b_5, 0, none⟩)), (12, .slice p_1 zz.1.length c_1), (38, .int .i64 r_3.1), (39, .int .i64 zz.2.1)] ∧ Ctx G (.row p_3 c_3 (zz.2.2.2.2.2.2.2.2.2.2.2.map enc_daily_Value) 56 3 :: .row p_2 c_2 (zz.2.2.2.2.2.2.2.2.2.2.1.map enc_daily_Value) 56 3 :: .row p_1 c_1 (zz.1.map encI_i64) 3 1 :: .box b_1 [.slice numbers_p numbers.length numbers_c, .int .i64 zz.2.2.1, .int .i64 zz.2.2.2.1] 135 :: .box b_5 [.int .i64 0, .int .i64 0, .slice p_3 zz.2.2.2.2.2.2.2.2.2.2.2.length c_3] 24 :: .box b_4 [.int .i64 zz.2.2.2.2.2.2.2.2.1, .int .i64 zz.2.2.2.2.2.2.2.2.2.1, .slice p_2 zz.2.2.2.2.2.2.2.2.2.2.1.length c_2] 24 :: .box b_3 [.slice better_p better.length better_c, .int .i64 zz.2.2.2.2.2.2.1, .int .i64 zz.2.2.2.2.2.2.2.1] 135 :: .box b_2 [.slice errors_p errors.length errors_c, .int .i64 zz.2.2.2.2.1, .int .i64 zz.2.2.2.2.2.1] 135 :: Lf) w)
  have hr7 : ∀ (zz : (List Int) × Int × Int × Int × Int × Int × Int × Int × Int × Int × (List daily_Value) × (List daily_Value)) a w, x7 = .go zz → S7 zz a w → K5 a w := by
    rintro ⟨truth, x, x_1, x_2, x_3, x_4, x_5, x_6, x_7, x_8, x_9, x_10⟩ a w rfl ⟨p_1, c_1, p_2, c_2, p_3, c_3, hf, hc⟩
    replace hF := exK_go hF
    refine h5 _ _ ?_
    refine wp_seq_k fun K8 h8 => ?_
    refine regionE (fun θ => [⟨none, none, 10, .pointer (some ⟨b_4, 0, none⟩)⟩, ⟨none, none, 11, .pointer (some ⟨b_5, 0, none⟩)⟩, ⟨none, none, 12, .slice p_1 truth.length c_1⟩, ⟨some 0, none, 228, .pointer (some ⟨b_4, 0, none⟩)⟩, ⟨some 1, none, 229, .int .i64 x_7⟩, ⟨some 2, none, 230, .pointer (some ⟨b_4, 1, none⟩)⟩, ⟨some 3, none, 231, .int .i64 x_8⟩, ⟨some 4, none, 232, .pointer (some ⟨b_5, 0, none⟩)⟩, ⟨some 6, none, 233, .pointer (some ⟨b_5, 1, none⟩)⟩]) (fun E θ => .row p_3 c_3 (x_10.map enc_daily_Value) 56 3 :: .row p_2 c_2 (x_9.map enc_daily_Value) 56 3 :: .row p_1 c_1 (truth.map encI_i64) 3 1 :: .box b_1 [.slice numbers_p numbers.length numbers_c, .int .i64 x_1, .int .i64 x_2] 135 :: (bif E 7 then .box b_5 [.int .i64 x_7, .int .i64 x_8, .slice p_3 x_10.length c_3] 24 else bif E 5 then .box b_5 [.int .i64 x_7, .int .i64 0, .slice p_3 x_10.length c_3] 24 else .box b_5 [.int .i64 0, .int .i64 0, .slice p_3 x_10.length c_3] 24) :: .box b_4 [.int .i64 x_7, .int .i64 x_8, .slice p_2 x_9.length c_2] 24 :: .box b_3 [.slice better_p better.length better_c, .int .i64 x_5, .int .i64 x_6] 135 :: .box b_2 [.slice errors_p errors.length errors_c, .int .i64 x_3, .int .i64 x_4] 135 :: Lf) [(7, 5)] (fun a w => Has 315 a [(10, .pointer (some ⟨b_4, 0, none⟩)), (11, .pointer (some ⟨b_5, 0, none⟩)), (12, .slice p_1 truth.length c_1)] ∧ Ctx G (.row p_3 c_3 (x_10.map enc_daily_Value) 56 3 :: .row p_2 c_2 (x_9.map enc_daily_Value) 56 3 :: .row p_1 c_1 (truth.map encI_i64) 3 1 :: .box b_1 [.slice numbers_p numbers.length numbers_c, .int .i64 x_1, .int .i64 x_2] 135 :: .box b_5 [.int .i64 x_7, .int .i64 x_8, .slice p_3 x_10.length c_3] 24 :: .box b_4 [.int .i64 x_7, .int .i64 x_8, .slice p_2 x_9.length c_2] 24 :: .box b_3 [.slice better_p better.length better_c, .int .i64 x_5, .int .i64 x_6] 135 :: .box b_2 [.slice errors_p errors.length errors_c, .int .i64 x_3, .int .i64 x_4] 135 :: Lf) w) follows_mx (by kernel_rfl) (by kernel_rfl) (HasE.of hf ⟨rfl, rfl, rfl, trivial, trivial, trivial, trivial, trivial, trivial, trivial⟩) hc ⟨?_, ?_, ?_, ?_, ?_, ?_, ?_, ?_, trivial⟩ ?_ ?_
    · intro E θ a w hD hi hp he hc
      have hf := he.h0
      replace hf := hf.more he 0 rfl onT
      refine stP hf rfl rfl rfl (pFA fa_24_0 rfl) fun a hf => ?_
      refine cNil ?_
      refine xThenN ?_
      intro ds u hau
      refine ⟨θ, he.put0 hi hau hf rfl 3 rfl rfl, ?_⟩
      exact hc
    · intro E θ a w hD hi hp he hc
      have e0 := hp.of (k := 0) rfl
      have hf := he.h0
      replace hf := hf.more he 3 rfl (onP e0)
      refine stE hf hc rfl rfl rfl (eLd1 sc_3 rfl (cell_box m5 rfl)) fun a w hf hc => ?_
      refine cNil ?_
      refine xThenN ?_
      intro ds u hau
      refine ⟨θ, he.put0 hi hau hf rfl 4 rfl rfl, ?_⟩
      exact hc
    · intro E θ a w hD hi hp he hc
      have hf := he.h0
      replace hf := hf.more he 0 rfl onT
      refine stP hf rfl rfl rfl (pFA fa_24_1 rfl) fun a hf => ?_
      refine cNil ?_
      refine xThenN ?_
      intro ds u hau
      refine ⟨θ, he.put0 hi hau hf rfl 5 rfl rfl, ?_⟩
      exact hc
    · intro E θ a w hD hi hp he hc
      have e2 := hp.of (k := 2) rfl
      have hf := he.h0
      replace hf := hf.more he 5 rfl (onP e2)
      refine stE hf hc rfl rfl rfl (eLd1 sc_3 rfl (cell_box m5 rfl)) fun a w hf hc => ?_
      refine cNil ?_
      refine xThenN ?_
      intro ds u hau
      refine ⟨θ, he.put0 hi hau hf rfl 6 rfl rfl, ?_⟩
      exact hc
    · intro E θ a w hD hi hp he hc
      have hf := he.h0
      replace hf := hf.more he 1 rfl onT
      refine stP hf rfl rfl rfl (pFA fa_24_0 rfl) fun a hf => ?_
      refine cNil ?_
      refine xThenN ?_
      intro ds u hau
      refine ⟨θ, he.put0 hi hau hf rfl 7 rfl rfl, ?_⟩
      exact hc
    · intro E θ a w hD hi hp he hc
      have e1 := hp.of (k := 1) rfl
      have e4 := hp.of (k := 4) rfl
      have e7 := hD.f 0 rfl hi
      try dsimp only at hc
      rw [hi, e7] at hc
      have hf := he.h0
      replace hf := hf.more he 4 rfl (onP e1)
      replace hf := hf.more he 7 rfl (onP e4)
      refine stSt (vs := [.int .i64 x_7]) hf hc rfl rfl rfl rfl sz_3 rfl rfl u4 fun w hc => ?_
      refine cNil ?_
      refine xThenN ?_
      intro ds u hau
      refine ⟨θ, he.stay0 hi hau hf rfl, ?_⟩
      try dsimp only
      rw [updE_self E 5, updE_fls 5 e7 rfl]
      exact hc
    · intro E θ a w hD hi hp he hc
      have hf := he.h0
      replace hf := hf.more he 1 rfl onT
      refine stP hf rfl rfl rfl (pFA fa_24_1 rfl) fun a hf => ?_
      refine cNil ?_
      refine xThenN ?_
      intro ds u hau
      refine ⟨θ, he.put0 hi hau hf rfl 8 rfl rfl, ?_⟩
      exact hc
    · intro E θ a w hD hi hp he hc
      have e3 := hp.of (k := 3) rfl
      have e6 := hp.of (k := 6) rfl
      have e5 := hp.of (k := 5) rfl
      try dsimp only at hc
      rw [e5, hi] at hc
      have hf := he.h0
      replace hf := hf.more he 6 rfl (onP e3)
      replace hf := hf.more he 8 rfl (onP e6)
      refine stSt (vs := [.int .i64 x_8]) hf hc rfl rfl rfl rfl sz_3 rfl rfl u4 fun w hc => ?_
      refine cNil ?_
      refine xThenN ?_
      intro ds u hau
      refine ⟨θ, he.stay0 hi hau hf rfl, ?_⟩
      try dsimp only
      rw [updE_tru 7 e5, updE_self E 7]
      exact hc
    · intro E θ a w hall he hc
      have hf := he.h0
      have e5 := hall 5 rfl
      have e7 := hall 7 rfl
      replace hf := hf.more he 2 rfl (onT)
      replace hf := hf.more he 1 rfl (onT)
      replace hf := hf.more he 0 rfl (onT)
      try dsimp only at hc
      rw [e5, e7] at hc
      exact ⟨hf.keep ⟨rfl, rfl, rfl, trivial⟩, hc⟩
    rintro a w ⟨hf, hc⟩
    refine h8 _ _ ?_
    refine wp_seq_k fun K9 h9 => ?_
    refine cReg ?_
    refine stE hf hc rfl rfl rfl (eLdN (vs := [.int .i64 x_7, .int .i64 x_8, .slice p_2 x_9.length c_2]) ag_24 rfl rfl (cells_box (n := 3) m5 rfl)) fun a w hf hc => ?_
    obtain ⟨r_4, hr_4, hF⟩ := bnd_some hF
    obtain ⟨G1, hle1, hrd1, hc, hth1⟩ := lend hc k1
    refine stC (vs := [.agg #[.int .i64 x_7, .int .i64 x_8, .slice p_2 x_9.length c_2]]) (caps := []) hf rfl rfl rfl en_29 rfl rfl rfl rfl (daily_Fill_ok (⟨x_7, x_8, x_9⟩ : daily_Record) hrd1 hc hr_4) ?_
    rintro _ w ⟨p_4, c_4, rfl, hc⟩
    refine ⟨_, rfl, fun a hf => ?_⟩
    replace hc := hth1 _ _ hc
    refine stP hf rfl rfl rfl (pM rfl) fun a hf => ?_
    refine stP hf rfl rfl rfl (pX rfl rfl) fun a hf => ?_
    refine stP hf rfl rfl rfl (pX rfl rfl) fun a hf => ?_
    refine stP hf rfl rfl rfl (pA rfl) fun a hf => ?_
    refine stP hf rfl rfl rfl (pA rfl) fun a hf => ?_
    refine cNil ?_
    refine h9 _ _ ?_
    refine wp_seq_k fun K10 h10 => ?_
    refine cReg ?_
    refine stE hf hc rfl rfl rfl (eLdN (vs := [.int .i64 x_7, .int .i64 x_8, .slice p_3 x_10.length c_3]) ag_24 rfl rfl (cells_box (n := 3) m5 rfl)) fun a w hf hc => ?_
    obtain ⟨r_5, hr_5, hF⟩ := bnd_some hF
    obtain ⟨G1, hle1, hrd1, hc, hth1⟩ := lend hc k2
    refine stC (vs := [.agg #[.int .i64 x_7, .int .i64 x_8, .slice p_3 x_10.length c_3]]) (caps := []) hf rfl rfl rfl en_29 rfl rfl rfl rfl (daily_Fill_ok (⟨x_7, x_8, x_10⟩ : daily_Record) hrd1 hc hr_5) ?_
    rintro _ w ⟨p_5, c_5, rfl, hc⟩
    refine ⟨_, rfl, fun a hf => ?_⟩
    replace hc := hth1 _ _ hc
    refine stP hf rfl rfl rfl (pM rfl) fun a hf => ?_
    refine stP hf rfl rfl rfl (pX rfl rfl) fun a hf => ?_
    refine stP hf rfl rfl rfl (pX rfl rfl) fun a hf => ?_
    refine stP hf rfl rfl rfl (pA rfl) fun a hf => ?_
    refine stP hf rfl rfl rfl (pA rfl) fun a hf => ?_
    refine cNil ?_
    refine h10 _ _ ?_
    refine wp_seq_k fun K11 h11 => ?_
    refine wp_seq_k fun K12 h12 => ?_
    refine cReg ?_
    refine stP hf rfl rfl rfl (pM rfl) fun a hf => ?_
    refine stP hf rfl rfl rfl (pNe rfl rfl) fun a hf => ?_
    refine stP hf rfl rfl rfl (pM rfl) fun a hf => ?_
    refine stCut 3 (fun a w => Has 315 a [(12, .slice p_1 truth.length c_1), (25, .slice p_4 r_4.1.length c_4), (26, .int .i64 r_4.2), (27, .slice p_5 r_5.1.length c_5), (28, .int .i64 r_5.2), (244, .int .i64 r_4.2), (245, .bool (r_4.2 != 0)), (246, .bool (r_4.2 != 0)), (249, .bool ((r_4.2 != 0) || (r_5.2 != 0)))] ∧ Ctx G (.row p_3 c_3 (x_10.map enc_daily_Value) 56 3 :: .row p_5 c_5 (r_5.1.map enc_api_Span) 30 2 :: .row p_2 c_2 (x_9.map enc_daily_Value) 56 3 :: .row p_4 c_4 (r_4.1.map enc_api_Span) 30 2 :: .row p_1 c_1 (truth.map encI_i64) 3 1 :: .box b_1 [.slice numbers_p numbers.length numbers_c, .int .i64 x_1, .int .i64 x_2] 135 :: .box b_5 [.int .i64 x_7, .int .i64 x_8, .slice p_3 x_10.length c_3] 24 :: .box b_4 [.int .i64 x_7, .int .i64 x_8, .slice p_2 x_9.length c_2] 24 :: .box b_3 [.slice better_p better.length better_c, .int .i64 x_5, .int .i64 x_6] 135 :: .box b_2 [.slice errors_p errors.length errors_c, .int .i64 x_3, .int .i64 x_4] 135 :: Lf) w) ?_ ?_
    · cases hb : (r_4.2 != 0)
      · rw [hb] at hf
        refine stP hf rfl rfl rfl (pM rfl) fun a hf => ?_
        refine stP hf rfl rfl rfl (pNe rfl rfl) fun a hf => ?_
        refine stP hf rfl rfl rfl (pPf rfl rfl) fun a hf => ?_
        exact cNil ⟨hf.keep ⟨rfl, rfl, rfl, rfl, rfl, rfl, rfl, rfl, rfl, trivial⟩, hc⟩
      · rw [hb] at hf
        refine stS hf rfl rfl rfl fun a hf => ?_
        refine stS hf rfl rfl rfl fun a hf => ?_
        refine stP hf rfl rfl rfl (pPt rfl rfl) fun a hf => ?_
        exact cNil ⟨hf.keep ⟨rfl, rfl, rfl, rfl, rfl, rfl, rfl, rfl, rfl, trivial⟩, hc⟩
    intro a w ⟨hf, hc⟩
    refine stP hf rfl rfl rfl (pM rfl) fun a hf => ?_
    refine stCut 6 (fun a w => Has 315 a [(12, .slice p_1 truth.length c_1), (25, .slice p_4 r_4.1.length c_4), (26, .int .i64 r_4.2), (27, .slice p_5 r_5.1.length c_5), (28, .int .i64 r_5.2), (244, .int .i64 r_4.2), (245, .bool (r_4.2 != 0)), (246, .bool (r_4.2 != 0)), (249, .bool ((r_4.2 != 0) || (r_5.2 != 0))), (250, .bool ((r_4.2 != 0) || (r_5.2 != 0))), (256, .bool (((r_4.2 != 0) || (r_5.2 != 0)) || (((r_4.1.length : Nat) : Int) != ((truth.length : Nat) : Int))))] ∧ Ctx G (.row p_3 c_3 (x_10.map enc_daily_Value) 56 3 :: .row p_5 c_5 (r_5.1.map enc_api_Span) 30 2 :: .row p_2 c_2 (x_9.map enc_daily_Value) 56 3 :: .row p_4 c_4 (r_4.1.map enc_api_Span) 30 2 :: .row p_1 c_1 (truth.map encI_i64) 3 1 :: .box b_1 [.slice numbers_p numbers.length numbers_c, .int .i64 x_1, .int .i64 x_2] 135 :: .box b_5 [.int .i64 x_7, .int .i64 x_8, .slice p_3 x_10.length c_3] 24 :: .box b_4 [.int .i64 x_7, .int .i64 x_8, .slice p_2 x_9.length c_2] 24 :: .box b_3 [.slice better_p better.length better_c, .int .i64 x_5, .int .i64 x_6] 135 :: .box b_2 [.slice errors_p errors.length errors_c, .int .i64 x_3, .int .i64 x_4] 135 :: Lf) w) ?_ ?_
    · cases hb : ((r_4.2 != 0) || (r_5.2 != 0))
      · rw [hb] at hf
        refine stP hf rfl rfl rfl (pM rfl) fun a hf => ?_
        refine stP hf rfl rfl rfl (pLenS Try.underlying25 rfl) fun a hf => ?_
        refine stP hf rfl rfl rfl (pM rfl) fun a hf => ?_
        refine stP hf rfl rfl rfl (pLenS Try.underlying39 rfl) fun a hf => ?_
        refine stP hf rfl rfl rfl (pNe rfl rfl) fun a hf => ?_
        refine stP hf rfl rfl rfl (pPf rfl rfl) fun a hf => ?_
        exact cNil ⟨hf.keep ⟨rfl, rfl, rfl, rfl, rfl, rfl, rfl, rfl, rfl, rfl, rfl, trivial⟩, hc⟩
      · rw [hb] at hf
        refine stS hf rfl rfl rfl fun a hf => ?_
        refine stS hf rfl rfl rfl fun a hf => ?_
        refine stS hf rfl rfl rfl fun a hf => ?_
        refine stS hf rfl rfl rfl fun a hf => ?_
        refine stS hf rfl rfl rfl fun a hf => ?_
        refine stP hf rfl rfl rfl (pPt rfl rfl) fun a hf => ?_
        exact cNil ⟨hf.keep ⟨rfl, rfl, rfl, rfl, rfl, rfl, rfl, rfl, rfl, rfl, rfl, trivial⟩, hc⟩
    intro a w ⟨hf, hc⟩
    refine stP hf rfl rfl rfl (pM rfl) fun a hf => ?_
    refine stCut 6 (fun a w => Has 315 a [(12, .slice p_1 truth.length c_1), (25, .slice p_4 r_4.1.length c_4), (26, .int .i64 r_4.2), (27, .slice p_5 r_5.1.length c_5), (28, .int .i64 r_5.2), (244, .int .i64 r_4.2), (245, .bool (r_4.2 != 0)), (246, .bool (r_4.2 != 0)), (249, .bool ((r_4.2 != 0) || (r_5.2 != 0))), (250, .bool ((r_4.2 != 0) || (r_5.2 != 0))), (256, .bool (((r_4.2 != 0) || (r_5.2 != 0)) || (((r_4.1.length : Nat) : Int) != ((truth.length : Nat) : Int)))), (257, .bool (((r_4.2 != 0) || (r_5.2 != 0)) || (((r_4.1.length : Nat) : Int) != ((truth.length : Nat) : Int)))), (263, .bool ((((r_4.2 != 0) || (r_5.2 != 0)) || (((r_4.1.length : Nat) : Int) != ((truth.length : Nat) : Int))) || (((r_5.1.length : Nat) : Int) != ((truth.length : Nat) : Int))))] ∧ Ctx G (.row p_3 c_3 (x_10.map enc_daily_Value) 56 3 :: .row p_5 c_5 (r_5.1.map enc_api_Span) 30 2 :: .row p_2 c_2 (x_9.map enc_daily_Value) 56 3 :: .row p_4 c_4 (r_4.1.map enc_api_Span) 30 2 :: .row p_1 c_1 (truth.map encI_i64) 3 1 :: .box b_1 [.slice numbers_p numbers.length numbers_c, .int .i64 x_1, .int .i64 x_2] 135 :: .box b_5 [.int .i64 x_7, .int .i64 x_8, .slice p_3 x_10.length c_3] 24 :: .box b_4 [.int .i64 x_7, .int .i64 x_8, .slice p_2 x_9.length c_2] 24 :: .box b_3 [.slice better_p better.length better_c, .int .i64 x_5, .int .i64 x_6] 135 :: .box b_2 [.slice errors_p errors.length errors_c, .int .i64 x_3, .int .i64 x_4] 135 :: Lf) w) ?_ ?_
    · cases hb : (((r_4.2 != 0) || (r_5.2 != 0)) || (((r_4.1.length : Nat) : Int) != ((truth.length : Nat) : Int)))
      · rw [hb] at hf
        refine stP hf rfl rfl rfl (pM rfl) fun a hf => ?_
        refine stP hf rfl rfl rfl (pLenS Try.underlying25 rfl) fun a hf => ?_
        refine stP hf rfl rfl rfl (pM rfl) fun a hf => ?_
        refine stP hf rfl rfl rfl (pLenS Try.underlying39 rfl) fun a hf => ?_
        refine stP hf rfl rfl rfl (pNe rfl rfl) fun a hf => ?_
        refine stP hf rfl rfl rfl (pPf rfl rfl) fun a hf => ?_
        exact cNil ⟨hf.keep ⟨rfl, rfl, rfl, rfl, rfl, rfl, rfl, rfl, rfl, rfl, rfl, rfl, rfl, trivial⟩, hc⟩
      · rw [hb] at hf
        refine stS hf rfl rfl rfl fun a hf => ?_
        refine stS hf rfl rfl rfl fun a hf => ?_
        refine stS hf rfl rfl rfl fun a hf => ?_
        refine stS hf rfl rfl rfl fun a hf => ?_
        refine stS hf rfl rfl rfl fun a hf => ?_
        refine stP hf rfl rfl rfl (pPt rfl rfl) fun a hf => ?_
        exact cNil ⟨hf.keep ⟨rfl, rfl, rfl, rfl, rfl, rfl, rfl, rfl, rfl, rfl, rfl, rfl, rfl, trivial⟩, hc⟩
    intro a w ⟨hf, hc⟩
    refine cNil ?_
    refine h12 _ _ ?_
    refine cCond (b := ((((r_4.2 != 0) || (r_5.2 != 0)) || (((r_4.1.length : Nat) : Int) != ((truth.length : Nat) : Int))) || (((r_5.1.length : Nat) : Int) != ((truth.length : Nat) : Int)))) hf rfl (fun hb => ?_) (fun hb => ?_)
    · replace hF := condT hb hF
      clear hb
      refine wp_seq_k fun K13 h13 => ?_
      refine cReg ?_
      refine stP hf rfl rfl rfl (pA rfl) fun a hf => ?_
      refine cNil ?_
      refine h13 _ _ ?_
      refine wp_ret ?_
      refine xThenR ?_
      obtain rfl := Option.some.inj hF
      replace hc := hc.drop k9
      replace hc := hc.drop k8
      replace hc := hc.drop k7
      replace hc := hc.drop k6
      replace hc := hc.drop k5
      replace hc := hc.drop k4
      replace hc := hc.drop k3
      replace hc := hc.drop k2
      replace hc := hc.drop k1
      replace hc := hc.drop k0
      exact fnOut1 (by simp) rfl Try.results9 hf hc (show look _ 6 = _ from rfl) ⟨rfl, hc⟩
    · replace hF := condF hb hF
      clear hb
      refine wp_skip ?_
      refine h11 _ _ ?_
      refine wp_seq_k fun K14 h14 => ?_
      refine wp_seq_k fun K15 h15 => ?_
      refine cReg ?_
      refine stP hf rfl rfl rfl (pM rfl) fun a hf => ?_
      refine stP hf rfl rfl rfl (pLenS Try.underlying39 rfl) fun a hf => ?_
      refine stP hf rfl rfl rfl (pM rfl) fun a hf => ?_
      refine cNil ?_
      refine h15 _ _ ?_
      refine wp_block ?_
      obtain ⟨x16, hx16, hF⟩ := bnd_some hF
      let S16 : Int → Act → World → Prop := (fun (zz : Int) a w => ∃ (p_6 : Option Addr) (c_6 : Nat) (p_7 : Option Addr) (c_7 : Nat), Has 315 a [(25, .slice p_4 r_4.1.length c_4), (27, .slice p_6 r_5.1.length c_6), (264, .slice p_7 truth.length c_7), (265, .int .i64 ((truth.length : Nat) : Int)), (266, .int .i64 zz)] ∧ Ctx G (.row p_6 c_6 (r_5.1.map enc_api_Span) 30 2 :: .row p_4 c_4 (r_4.1.map enc_api_Span) 30 2 :: .row p_7 c_7 (truth.map encI_i64) 3 1 :: Lf) w)
      have hr16 : ∀ (zz : Int) a w, x16 = .go zz → S16 zz a w → K14 a w := by
        rintro x_11 a w rfl ⟨p_6, c_6, p_7, c_7, hf, hc⟩
        replace hF := exK_go hF
        refine h14 _ _ ?_
        refine wp_seq_k fun K17 h17 => ?_
        refine cReg ?_
        obtain ⟨r_6, hr_6, hF⟩ := bnd_some hF
        refine stE hf hc rfl rfl rfl (eC (v := .bool r_6) (vs := []) (caps := []) en_12 rfl rfl rfl rfl (fun w hc => law07_awake_ok hc hr_6)) fun a w hf hc => ?_
        refine stP hf rfl rfl rfl (pA rfl) fun a hf => ?_
        refine cNil ?_
        refine h17 _ _ ?_
        refine wp_ret ?_
        obtain rfl := Option.some.inj hF
        replace hc := hc.drop k2
        replace hc := hc.drop k1
        replace hc := hc.drop k0
        exact fnOut1 (by simp) rfl Try.results9 hf hc (show look _ 6 = _ from rfl) ⟨rfl, hc⟩
      have ho16 : ∀ r, x16 = .out r → r = res := by
        rintro r rfl
        exact Option.some.inj hF
      replace hc := hc.drop k9
      replace hc := hc.drop k8
      replace hc := hc.drop k7
      replace hc := hc.drop k6
      replace hc := hc.drop k5
      replace hc := hc.drop k2
      replace hc := hc.drop k0
      refine cLoop N (loopW (S := S16) (x := x16) ?_ N 0 _ _ ⟨p_5, c_5, p_1, c_1, hf.keep ⟨rfl, rfl, rfl, rfl, rfl, trivial⟩, hc⟩ hx16)
      clear hF hf hc
      rintro x_11 st16 a w KB16 ⟨p_6, c_6, p_7, c_7, hf, hc⟩ hF hfin16 hK16
      unfold law07_DailyGauged_b16 at hF
      refine wp_seq_k fun K18 h18 => ?_
      refine cReg ?_
      refine stP hf rfl rfl rfl (pLt rfl rfl) fun a hf => ?_
      refine cNil ?_
      refine h18 _ _ ?_
      refine wp_seq_k fun K19 h19 => ?_
      refine cCond (b := (decide (x_11 < ((truth.length : Nat) : Int)))) hf rfl (fun hb => ?_) (fun hb => ?_)
      · replace hF := condT hb hF
        clear hb
        refine wp_skip ?_
        refine h19 _ _ ?_
        refine wp_seq_k fun K20 h20 => ?_
        refine wp_block ?_
        refine wp_seq_k fun K21 h21 => ?_
        refine cReg ?_
        refine stP hf rfl rfl rfl (pM rfl) fun a hf => ?_
        obtain ⟨e_1, he_1, hF⟩ := bnd_some hF
        obtain ⟨g, rfl, qa, qr⟩ := row_atm hc m2 he_1
        refine stP hf rfl rfl rfl (pIA Try.underlying39 sz_3 rfl rfl qa) fun a hf => ?_
        refine stE hf hc rfl rfl rfl (eLd1 sc_3 rfl (cell_row (sz := 1) (i := x_11.toNat) (j := 0) m2 qr rfl)) fun a w hf hc => ?_
        refine stP hf rfl rfl rfl (pA rfl) fun a hf => ?_
        refine stP hf rfl rfl rfl (pA rfl) fun a hf => ?_
        refine cNil ?_
        refine h21 _ _ ?_
        refine wp_seq_k fun K22 h22 => ?_
        obtain ⟨e_2, he_2, hF⟩ := bnd_some hF
        obtain ⟨g_1, rfl, qa_1, qr_1⟩ := row_atm hc m0 he_2
        obtain ⟨t_1, ht_1, hF⟩ := bnd_some hF
        obtain ⟨t_2, ht_2, hF⟩ := bnd_some hF
        obtain ⟨t_3, ht_3, hF⟩ := bnd_some hF
        refine cQ hc follows_mx (by kernel_rfl) ?_
        refine qE hf rfl rfl rfl (Pu.ev (pM rfl)) fun a hf => ?_
        refine qE hf rfl rfl rfl (Pu.ev (pM rfl)) fun a hf => ?_
        refine qE hf rfl rfl rfl (Pu.ev (pM rfl)) fun a hf => ?_
        refine qE hf rfl rfl rfl (Pu.ev (pIA Try.underlying25 sz_30 rfl rfl qa_1)) fun a hf => ?_
        refine qE hf rfl rfl rfl (Pu.ev (pFA fa_30_0 rfl)) fun a hf => ?_
        refine qE hf rfl rfl rfl (eLd1 sc_3 rfl (cell_row (sz := 2) (i := x_11.toNat) (j := 0) m0 qr_1 rfl)) fun a hf => ?_
        refine qE hf rfl rfl rfl (Pu.ev (pLt rfl rfl)) fun a hf => ?_
        refine qE hf rfl rfl rfl (Pu.ev (pM rfl)) fun a hf => ?_
        refine qCut 8 (fun a => Has 315 a [(25, .slice p_4 r_4.1.length c_4), (27, .slice (some ⟨g_1, 0, none⟩) r_5.1.length c_6), (264, .slice (some ⟨g, 0, none⟩) truth.length c_7), (265, .int .i64 ((truth.length : Nat) : Int)), (266, .int .i64 x_11), (29, .int .i64 x_11), (30, .int .i64 e_1), (271, .int .i64 e_1), (272, .slice (some ⟨g_1, 0, none⟩) r_5.1.length c_6), (273, .int .i64 x_11), (274, .pointer (some ⟨g_1, x_11.toNat * 2, none⟩)), (275, .pointer (some ⟨g_1, x_11.toNat * 2 + 0, none⟩)), (276, .int .i64 e_2.Lo), (277, .bool (decide (e_1 < e_2.Lo))), (278, .bool (decide (e_1 < e_2.Lo))), (286, .bool t_1)]) ?_ ?_
        · cases hb : (decide (e_1 < e_2.Lo))
          · rw [hb] at hf
            have hF := condF hb ht_1
            obtain ⟨e_3, he_3, hF⟩ := bnd_some hF
            obtain ⟨qa_2, qr_2⟩ := row_atk hc m0 he_3
            refine qE hf rfl rfl rfl (Pu.ev (pM rfl)) fun a hf => ?_
            refine qE hf rfl rfl rfl (Pu.ev (pM rfl)) fun a hf => ?_
            refine qE hf rfl rfl rfl (Pu.ev (pM rfl)) fun a hf => ?_
            refine qE hf rfl rfl rfl (Pu.ev (pIA Try.underlying25 sz_30 rfl rfl qa_2)) fun a hf => ?_
            refine qE hf rfl rfl rfl (Pu.ev (pFA fa_30_1 rfl)) fun a hf => ?_
            refine qE hf rfl rfl rfl (eLd1 sc_3 rfl (cell_row (sz := 2) (i := x_11.toNat) (j := 1) m0 qr_2 rfl)) fun a hf => ?_
            refine qE hf rfl rfl rfl (Pu.ev (pGt rfl rfl)) fun a hf => ?_
            refine qE hf rfl rfl rfl (Pu.ev (pPf rfl rfl)) fun a hf => ?_
            obtain rfl := Option.some.inj hF
            exact qNil (hf.keep ⟨rfl, rfl, rfl, rfl, rfl, rfl, rfl, rfl, rfl, rfl, rfl, rfl, rfl, rfl, rfl, rfl, trivial⟩)
          · rw [hb] at hf
            have hF := condT hb ht_1
            obtain rfl := Option.some.inj hF
            refine qS hf rfl rfl rfl fun a hf => ?_
            refine qS hf rfl rfl rfl fun a hf => ?_
            refine qS hf rfl rfl rfl fun a hf => ?_
            refine qS hf rfl rfl rfl fun a hf => ?_
            refine qS hf rfl rfl rfl fun a hf => ?_
            refine qS hf rfl rfl rfl fun a hf => ?_
            refine qS hf rfl rfl rfl fun a hf => ?_
            refine qE hf rfl rfl rfl (Pu.ev (pPt rfl rfl)) fun a hf => ?_
            exact qNil (hf.keep ⟨rfl, rfl, rfl, rfl, rfl, rfl, rfl, rfl, rfl, rfl, rfl, rfl, rfl, rfl, rfl, rfl, trivial⟩)
        intro a hf
        refine qE hf rfl rfl rfl (Pu.ev (pM rfl)) fun a hf => ?_
        refine qCut 12 (fun a => Has 315 a [(25, .slice p_4 r_4.1.length c_4), (27, .slice (some ⟨g_1, 0, none⟩) r_5.1.length c_6), (264, .slice (some ⟨g, 0, none⟩) truth.length c_7), (265, .int .i64 ((truth.length : Nat) : Int)), (266, .int .i64 x_11), (29, .int .i64 x_11), (30, .int .i64 e_1), (271, .int .i64 e_1), (272, .slice (some ⟨g_1, 0, none⟩) r_5.1.length c_6), (273, .int .i64 x_11), (274, .pointer (some ⟨g_1, x_11.toNat * 2, none⟩)), (275, .pointer (some ⟨g_1, x_11.toNat * 2 + 0, none⟩)), (276, .int .i64 e_2.Lo), (277, .bool (decide (e_1 < e_2.Lo))), (278, .bool (decide (e_1 < e_2.Lo))), (286, .bool t_1), (287, .bool t_1), (299, .bool t_2)]) ?_ ?_
        · cases hb : t_1
          · rw [hb] at hf
            have hF := condF hb ht_2
            obtain ⟨e_4, he_4, hF⟩ := bnd_some hF
            obtain ⟨qa_3, qr_3⟩ := row_atk hc m0 he_4
            obtain ⟨e_5, he_5, hF⟩ := bnd_some hF
            obtain ⟨g_2, rfl, qa_4, qr_4⟩ := row_atm hc m1 he_5
            refine qE hf rfl rfl rfl (Pu.ev (pM rfl)) fun a hf => ?_
            refine qE hf rfl rfl rfl (Pu.ev (pM rfl)) fun a hf => ?_
            refine qE hf rfl rfl rfl (Pu.ev (pIA Try.underlying25 sz_30 rfl rfl qa_3)) fun a hf => ?_
            refine qE hf rfl rfl rfl (Pu.ev (pFA fa_30_0 rfl)) fun a hf => ?_
            refine qE hf rfl rfl rfl (eLd1 sc_3 rfl (cell_row (sz := 2) (i := x_11.toNat) (j := 0) m0 qr_3 rfl)) fun a hf => ?_
            refine qE hf rfl rfl rfl (Pu.ev (pM rfl)) fun a hf => ?_
            refine qE hf rfl rfl rfl (Pu.ev (pM rfl)) fun a hf => ?_
            refine qE hf rfl rfl rfl (Pu.ev (pIA Try.underlying25 sz_30 rfl rfl qa_4)) fun a hf => ?_
            refine qE hf rfl rfl rfl (Pu.ev (pFA fa_30_0 rfl)) fun a hf => ?_
            refine qE hf rfl rfl rfl (eLd1 sc_3 rfl (cell_row (sz := 2) (i := x_11.toNat) (j := 0) m1 qr_4 rfl)) fun a hf => ?_
            refine qE hf rfl rfl rfl (Pu.ev (pLt rfl rfl)) fun a hf => ?_
            refine qE hf rfl rfl rfl (Pu.ev (pPf rfl rfl)) fun a hf => ?_
            obtain rfl := Option.some.inj hF
            exact qNil (hf.keep ⟨rfl, rfl, rfl, rfl, rfl, rfl, rfl, rfl, rfl, rfl, rfl, rfl, rfl, rfl, rfl, rfl, rfl, rfl, trivial⟩)
          · rw [hb] at hf
            have hF := condT hb ht_2
            obtain rfl := Option.some.inj hF
            refine qS hf rfl rfl rfl fun a hf => ?_
            refine qS hf rfl rfl rfl fun a hf => ?_
            refine qS hf rfl rfl rfl fun a hf => ?_
            refine qS hf rfl rfl rfl fun a hf => ?_
            refine qS hf rfl rfl rfl fun a hf => ?_
            refine qS hf rfl rfl rfl fun a hf => ?_
            refine qS hf rfl rfl rfl fun a hf => ?_
            refine qS hf rfl rfl rfl fun a hf => ?_
            refine qS hf rfl rfl rfl fun a hf => ?_
            refine qS hf rfl rfl rfl fun a hf => ?_
            refine qS hf rfl rfl rfl fun a hf => ?_
            refine qE hf rfl rfl rfl (Pu.ev (pPt rfl rfl)) fun a hf => ?_
            exact qNil (hf.keep ⟨rfl, rfl, rfl, rfl, rfl, rfl, rfl, rfl, rfl, rfl, rfl, rfl, rfl, rfl, rfl, rfl, rfl, rfl, trivial⟩)
        intro a hf
        refine qE hf rfl rfl rfl (Pu.ev (pM rfl)) fun a hf => ?_
        refine qCut 12 (fun a => Has 315 a [(25, .slice p_4 r_4.1.length c_4), (27, .slice (some ⟨g_1, 0, none⟩) r_5.1.length c_6), (264, .slice (some ⟨g, 0, none⟩) truth.length c_7), (265, .int .i64 ((truth.length : Nat) : Int)), (266, .int .i64 x_11), (29, .int .i64 x_11), (30, .int .i64 e_1), (271, .int .i64 e_1), (272, .slice (some ⟨g_1, 0, none⟩) r_5.1.length c_6), (273, .int .i64 x_11), (274, .pointer (some ⟨g_1, x_11.toNat * 2, none⟩)), (275, .pointer (some ⟨g_1, x_11.toNat * 2 + 0, none⟩)), (276, .int .i64 e_2.Lo), (277, .bool (decide (e_1 < e_2.Lo))), (278, .bool (decide (e_1 < e_2.Lo))), (286, .bool t_1), (287, .bool t_1), (299, .bool t_2), (300, .bool t_2), (312, .bool t_3)]) ?_ ?_
        · cases hb : t_2
          · rw [hb] at hf
            have hF := condF hb ht_3
            obtain ⟨e_6, he_6, hF⟩ := bnd_some hF
            obtain ⟨qa_5, qr_5⟩ := row_atk hc m0 he_6
            obtain ⟨e_7, he_7, hF⟩ := bnd_some hF
            obtain ⟨g_3, rfl, qa_6, qr_6⟩ := row_atm hc m1 he_7
            refine qE hf rfl rfl rfl (Pu.ev (pM rfl)) fun a hf => ?_
            refine qE hf rfl rfl rfl (Pu.ev (pM rfl)) fun a hf => ?_
            refine qE hf rfl rfl rfl (Pu.ev (pIA Try.underlying25 sz_30 rfl rfl qa_5)) fun a hf => ?_
            refine qE hf rfl rfl rfl (Pu.ev (pFA fa_30_1 rfl)) fun a hf => ?_
            refine qE hf rfl rfl rfl (eLd1 sc_3 rfl (cell_row (sz := 2) (i := x_11.toNat) (j := 1) m0 qr_5 rfl)) fun a hf => ?_
            refine qE hf rfl rfl rfl (Pu.ev (pM rfl)) fun a hf => ?_
            refine qE hf rfl rfl rfl (Pu.ev (pM rfl)) fun a hf => ?_
            refine qE hf rfl rfl rfl (Pu.ev (pIA Try.underlying25 sz_30 rfl rfl qa_6)) fun a hf => ?_
            refine qE hf rfl rfl rfl (Pu.ev (pFA fa_30_1 rfl)) fun a hf => ?_
            refine qE hf rfl rfl rfl (eLd1 sc_3 rfl (cell_row (sz := 2) (i := x_11.toNat) (j := 1) m1 qr_6 rfl)) fun a hf => ?_
            refine qE hf rfl rfl rfl (Pu.ev (pGt rfl rfl)) fun a hf => ?_
            refine qE hf rfl rfl rfl (Pu.ev (pPf rfl rfl)) fun a hf => ?_
            obtain rfl := Option.some.inj hF
            exact qNil (hf.keep ⟨rfl, rfl, rfl, rfl, rfl, rfl, rfl, rfl, rfl, rfl, rfl, rfl, rfl, rfl, rfl, rfl, rfl, rfl, rfl, rfl, trivial⟩)
          · rw [hb] at hf
            have hF := condT hb ht_3
            obtain rfl := Option.some.inj hF
            refine qS hf rfl rfl rfl fun a hf => ?_
            refine qS hf rfl rfl rfl fun a hf => ?_
            refine qS hf rfl rfl rfl fun a hf => ?_
            refine qS hf rfl rfl rfl fun a hf => ?_
            refine qS hf rfl rfl rfl fun a hf => ?_
            refine qS hf rfl rfl rfl fun a hf => ?_
            refine qS hf rfl rfl rfl fun a hf => ?_
            refine qS hf rfl rfl rfl fun a hf => ?_
            refine qS hf rfl rfl rfl fun a hf => ?_
            refine qS hf rfl rfl rfl fun a hf => ?_
            refine qS hf rfl rfl rfl fun a hf => ?_
            refine qE hf rfl rfl rfl (Pu.ev (pPt rfl rfl)) fun a hf => ?_
            exact qNil (hf.keep ⟨rfl, rfl, rfl, rfl, rfl, rfl, rfl, rfl, rfl, rfl, rfl, rfl, rfl, rfl, rfl, rfl, rfl, rfl, rfl, rfl, trivial⟩)
        intro a hf
        intro w hc
        refine h22 _ _ ?_
        refine cCond (b := t_3) hf rfl (fun hb => ?_) (fun hb => ?_)
        · replace hF := condT hb hF
          clear hb
          refine wp_seq_k fun K23 h23 => ?_
          refine cReg ?_
          refine stP hf rfl rfl rfl (pA rfl) fun a hf => ?_
          refine cNil ?_
          refine h23 _ _ ?_
          refine wp_ret ?_
          refine xBlkR ?_
          refine xThenR ?_
          refine xThenR ?_
          have he := Option.some.inj hF
          rw [← he] at hfin16
          replace hF := ho16 _ hfin16
          refine xBlkR ?_
          refine xThenR ?_
          obtain rfl := hF
          replace hc := hc.drop k2
          replace hc := hc.drop k1
          replace hc := hc.drop k0
          exact fnOut1 (by simp) rfl Try.results9 hf hc (show look _ 6 = _ from rfl) ⟨rfl, hc⟩
        · replace hF := condF hb hF
          clear hb
          refine wp_skip ?_
          refine h20 _ _ ?_
          refine cReg ?_
          refine stP hf rfl rfl rfl (pAdd rfl rfl) fun a hf => ?_
          refine stP hf rfl rfl rfl (pM rfl) fun a hf => ?_
          refine cNil ?_
          exact hK16 (W (x_11 + 1)) _ _ (Option.some.inj hF).symm ⟨(some ⟨g_1, 0, none⟩), c_6, (some ⟨g, 0, none⟩), c_7, hf.keep ⟨rfl, rfl, rfl, rfl, rfl, trivial⟩, hc⟩
      · replace hF := condF hb hF
        clear hb
        refine wp_exit ?_
        refine xThen ?_
        refine xThen ?_
        have he := Option.some.inj hF
        rw [← he] at hfin16
        refine cHit ?_
        exact hr16 _ _ _ hfin16 ⟨p_6, c_6, p_7, c_7, hf.keep ⟨rfl, rfl, rfl, rfl, rfl, trivial⟩, hc⟩
  have ho7 : ∀ r, x7 = .out r → r = res := by
    rintro r rfl
    exact Option.some.inj hF
  replace hc := hc.nilRow 3 1
  replace hc := hc.nilRow 56 3
  replace hc := hc.nilRow 56 3
  replace hc := hc.pick k0
  replace hc := hc.pick k1
  refine cLoop N (loopW (S := S7) (x := x7) ?_ N (([] : List Int), 0, r_3.2.1, r_3.2.2, r_1.1, r_1.2, r_2.1, r_2.2, 0, 0, ([] : List daily_Value), ([] : List daily_Value)) _ _ ⟨none, 0, none, 0, none, 0, hf.keep ⟨rfl, rfl, rfl, rfl, rfl, rfl, rfl, rfl, trivial⟩, hc⟩ hx7)
  clear hF hf hc
  rintro ⟨truth, x, x_1, x_2, x_3, x_4, x_5, x_6, x_7, x_8, x_9, x_10⟩ st7 a w KB7 ⟨p_1, c_1, p_2, c_2, p_3, c_3, hf, hc⟩ hF hfin7 hK7
  unfold law07_DailyGauged_b7 at hF
  refine wp_seq_k fun K24 h24 => ?_
  refine cReg ?_
  refine stP hf rfl rfl rfl (pLt rfl rfl) fun a hf => ?_
  refine cNil ?_
  refine h24 _ _ ?_
  refine wp_seq_k fun K25 h25 => ?_
  refine cCond (b := (decide (x < r_3.1))) hf rfl (fun hb => ?_) (fun hb => ?_)
  · replace hF := condT hb hF
    clear hb
    refine wp_skip ?_
    refine h25 _ _ ?_
    refine wp_seq_k fun K26 h26 => ?_
    refine wp_block ?_
    refine wp_seq_k fun K27 h27 => ?_
    refine cReg ?_
    refine stP hf rfl rfl rfl (pM rfl) fun a hf => ?_
    obtain ⟨r_7, hr_7, hF⟩ := bnd_some hF
    refine stC (vs := [.pointer (some ⟨b_1, 0, none⟩), .int .i64 4]) (caps := []) hf rfl rfl rfl en_44 rfl rfl rfl rfl (law03_Section_ok (⟨numbers, x_1, x_2⟩ : kit_Stream) 4 h_numbers (hc.pick k3) hr_7) ?_
    rintro _ w ⟨p_8, c_8, p_9, c_9, p_10, c_10, rfl, hc⟩
    refine ⟨_, rfl, fun a hf => ?_⟩
    refine stAl (cs := [.int .i64 0, .int .i64 0, .slice none 0 0, .slice none 0 0, .slice none 0 0]) hf hc rfl rfl zr_83 rfl fun b_6 a w hf hc => ?_
    refine stSt (vs := [.int .i64 r_7.1.Left, .int .i64 r_7.1.Right, .slice p_8 r_7.1.At.length c_8, .slice p_9 r_7.1.Depth.length c_9, .slice p_10 r_7.1.Speeds.length c_10]) hf hc rfl rfl rfl rfl sz_83 rfl rfl u0 fun w hc => ?_
    refine cNil ?_
    refine h27 _ _ ?_
    refine wp_seq_k fun K28 h28 => ?_
    refine wp_seq_k fun K29 h29 => ?_
    refine cReg ?_
    refine stP hf rfl rfl rfl (pFA fa_83_4 rfl) fun a hf => ?_
    refine stE hf hc rfl rfl rfl (eLd1 sc_39 rfl (cell_box m0 rfl)) fun a w hf hc => ?_
    refine stP hf rfl rfl rfl (pLenS Try.underlying39 rfl) fun a hf => ?_
    refine stP hf rfl rfl rfl (pM rfl) fun a hf => ?_
    refine cNil ?_
    refine h29 _ _ ?_
    refine wp_block ?_
    obtain ⟨x30, hx30, hF⟩ := bnd_some hF
    let S30 : (Int × (List Int)) → Act → World → Prop := (fun (zz : Int × (List Int)) a w => ∃ (p_11 : Option Addr) (c_11 : Nat), Has 315 a [(7, .pointer (some ⟨b_1, 0, none⟩)), (8, .pointer (some ⟨b_2, 0, none⟩)), (9, .pointer (some ⟨b_3, 0, none⟩)), (10, .pointer (some ⟨b_4, 0, none⟩)), (11, .pointer (some ⟨b_5, 0, none⟩)), (12, .slice p_1 truth.length c_1), (13, .pointer (some ⟨b_6, 0, none⟩)), (38, .int .i64 r_3.1), (39, .int .i64 x), (45, .int .i64 ((r_7.1.Speeds.length : Nat) : Int)), (46, .int .i64 zz.1)] ∧ Ctx G (.box b_6 [.int .i64 r_7.1.Left, .int .i64 r_7.1.Right, .slice p_8 r_7.1.At.length c_8, .slice p_9 r_7.1.Depth.length c_9, .slice p_11 zz.2.length c_11] 83 :: .row p_8 c_8 (r_7.1.At.map encI_i64) 3 1 :: .row p_9 c_9 (r_7.1.Depth.map encI_i64) 3 1 :: .row p_11 c_11 (zz.2.map encI_i64) 3 1 :: .box b_1 [.slice numbers_p numbers.length numbers_c, .int .i64 r_7.2.1, .int .i64 r_7.2.2] 135 :: .row p_3 c_3 (x_10.map enc_daily_Value) 56 3 :: .row p_2 c_2 (x_9.map enc_daily_Value) 56 3 :: .row p_1 c_1 (truth.map encI_i64) 3 1 :: .box b_5 [.int .i64 0, .int .i64 0, .slice p_3 x_10.length c_3] 24 :: .box b_4 [.int .i64 x_7, .int .i64 x_8, .slice p_2 x_9.length c_2] 24 :: .box b_3 [.slice better_p better.length better_c, .int .i64 x_5, .int .i64 x_6] 135 :: .box b_2 [.slice errors_p errors.length errors_c, .int .i64 x_3, .int .i64 x_4] 135 :: Lf) w)
    have hr30 : ∀ (zz : Int × (List Int)) a w, x30 = .go zz → S30 zz a w → K28 a w := by
      rintro ⟨x_12, x_13⟩ a w rfl ⟨p_11, c_11, hf, hc⟩
      replace hF := exK_go hF
      refine h28 _ _ ?_
      refine wp_seq_k fun K31 h31 => ?_
      refine cReg ?_
      refine stP hf rfl rfl rfl (pM rfl) fun a hf => ?_
      refine stE hf hc rfl rfl rfl (eLdN (vs := [.int .i64 r_7.1.Left, .int .i64 r_7.1.Right, .slice p_8 r_7.1.At.length c_8, .slice p_9 r_7.1.Depth.length c_9, .slice p_11 x_13.length c_11]) ag_83 rfl rfl (cells_box (n := 5) m0 rfl)) fun a w hf hc => ?_
      obtain ⟨r_8, hr_8, hF⟩ := bnd_some hF
      obtain ⟨G1, hle1, hrd1, hc, hth1⟩ := lend hc k1
      obtain ⟨G2, hle2, hrd2, hc, hth2⟩ := lend hc k1
      obtain ⟨G3, hle3, hrd3, hc, hth3⟩ := lend hc k1
      refine stC (vs := [.pointer (some ⟨b_2, 0, none⟩), .agg #[.int .i64 r_7.1.Left, .int .i64 r_7.1.Right, .slice p_8 r_7.1.At.length c_8, .slice p_9 r_7.1.Depth.length c_9, .slice p_11 x_13.length c_11]]) (caps := []) hf rfl rfl rfl en_45 rfl rfl rfl rfl (law03_Gauged_ok (⟨errors, x_3, x_4⟩ : kit_Stream) (⟨r_7.1.Left, r_7.1.Right, r_7.1.At, r_7.1.Depth, x_13⟩ : law03_River) (((h_errors.mono hle1).mono hle2).mono hle3) ((hrd1.mono hle2).mono hle3) (hrd2.mono hle3) hrd3 (hc.pick k8) hr_8) ?_
      rintro _ w ⟨p_12, c_12, rfl, hc⟩
      refine ⟨_, rfl, fun a hf => ?_⟩
      replace hc := hth3 _ _ hc
      replace hc := hth2 _ _ hc
      replace hc := hth1 _ _ hc
      refine stAl (cs := [.int .i64 0, .int .i64 0, .slice none 0 0]) hf hc rfl rfl zr_87 rfl fun b_7 a w hf hc => ?_
      refine stSt (vs := [.int .i64 r_8.1.Left, .int .i64 r_8.1.Right, .slice p_12 r_8.1.Verticals.length c_12]) hf hc rfl rfl rfl rfl sz_87 rfl rfl u0 fun w hc => ?_
      refine cNil ?_
      refine h31 _ _ ?_
      refine wp_seq_k fun K32 h32 => ?_
      refine cReg ?_
      refine stE hf hc rfl rfl rfl (eLdN (vs := [.int .i64 r_8.1.Left, .int .i64 r_8.1.Right, .slice p_12 r_8.1.Verticals.length c_12]) ag_87 rfl rfl (cells_box (n := 3) m0 rfl)) fun a w hf hc => ?_
      obtain ⟨r_9, hr_9, hF⟩ := bnd_some hF
      obtain ⟨G1, hle1, hrd1, hc, hth1⟩ := lend hc k4
      refine stC (vs := [.agg #[.int .i64 r_8.1.Left, .int .i64 r_8.1.Right, .slice p_12 r_8.1.Verticals.length c_12]]) (caps := []) hf rfl rfl rfl en_46 rfl rfl rfl rfl (law03_CopyGauging_ok r_8.1 hrd1 hc hr_9) ?_
      rintro _ w ⟨p_13, c_13, rfl, hc⟩
      refine ⟨_, rfl, fun a hf => ?_⟩
      replace hc := hth1 _ _ hc
      refine stAl (cs := [.int .i64 0, .int .i64 0, .slice none 0 0]) hf hc rfl rfl zr_87 rfl fun b_8 a w hf hc => ?_
      refine stSt (vs := [.int .i64 r_9.Left, .int .i64 r_9.Right, .slice p_13 r_9.Verticals.length c_13]) hf hc rfl rfl rfl rfl sz_87 rfl rfl u0 fun w hc => ?_
      refine cNil ?_
      refine h32 _ _ ?_
      refine wp_seq_k fun K33 h33 => ?_
      refine wp_seq_k fun K34 h34 => ?_
      refine cReg ?_
      refine stP hf rfl rfl rfl (pFA fa_87_2 rfl) fun a hf => ?_
      refine stE hf hc rfl rfl rfl (eLd1 sc_85 rfl (cell_box m0 rfl)) fun a w hf hc => ?_
      refine stP hf rfl rfl rfl (pLenS Try.underlying85 rfl) fun a hf => ?_
      refine stP hf rfl rfl rfl (pM rfl) fun a hf => ?_
      refine cNil ?_
      refine h34 _ _ ?_
      refine wp_block ?_
      obtain ⟨x35, hx35, hF⟩ := bnd_some hF
      let S35 : (Int × Int × Int × (List gauge_Vertical)) → Act → World → Prop := (fun (zz : Int × Int × Int × (List gauge_Vertical)) a w => ∃ (p_14 : Option Addr) (c_14 : Nat) (p_15 : Option Addr) (c_15 : Nat), Has 315 a [(7, .pointer (some ⟨b_1, 0, none⟩)), (8, .pointer (some ⟨b_2, 0, none⟩)), (9, .pointer (some ⟨b_3, 0, none⟩)), (10, .pointer (some ⟨b_4, 0, none⟩)), (11, .pointer (some ⟨b_5, 0, none⟩)), (12, .slice p_1 truth.length c_1), (13, .pointer (some ⟨b_6, 0, none⟩)), (15, .pointer (some ⟨b_7, 0, none⟩)), (16, .pointer (some ⟨b_8, 0, none⟩)), (38, .int .i64 r_3.1), (39, .int .i64 x), (67, .int .i64 ((r_9.Verticals.length : Nat) : Int)), (68, .int .i64 zz.1)] ∧ Ctx G (.box b_8 [.int .i64 r_9.Left, .int .i64 r_9.Right, .slice p_15 zz.2.2.2.length c_15] 87 :: .row p_12 c_12 (r_8.1.Verticals.map enc_gauge_Vertical) 92 5 :: .row p_15 c_15 (zz.2.2.2.map enc_gauge_Vertical) 92 5 :: .box b_7 [.int .i64 r_8.1.Left, .int .i64 r_8.1.Right, .slice p_12 r_8.1.Verticals.length c_12] 87 :: .row p_8 c_8 (r_7.1.At.map encI_i64) 3 1 :: .row p_9 c_9 (r_7.1.Depth.map encI_i64) 3 1 :: .row p_14 c_14 (x_13.map encI_i64) 3 1 :: .box b_2 [.slice errors_p errors.length errors_c, .int .i64 r_8.2.1, .int .i64 r_8.2.2] 135 :: .box b_6 [.int .i64 r_7.1.Left, .int .i64 r_7.1.Right, .slice p_8 r_7.1.At.length c_8, .slice p_9 r_7.1.Depth.length c_9, .slice p_14 x_13.length c_14] 83 :: .box b_1 [.slice numbers_p numbers.length numbers_c, .int .i64 r_7.2.1, .int .i64 r_7.2.2] 135 :: .row p_3 c_3 (x_10.map enc_daily_Value) 56 3 :: .row p_2 c_2 (x_9.map enc_daily_Value) 56 3 :: .row p_1 c_1 (truth.map encI_i64) 3 1 :: .box b_5 [.int .i64 0, .int .i64 0, .slice p_3 x_10.length c_3] 24 :: .box b_4 [.int .i64 x_7, .int .i64 x_8, .slice p_2 x_9.length c_2] 24 :: .box b_3 [.slice better_p better.length better_c, .int .i64 zz.2.1, .int .i64 zz.2.2.1] 135 :: Lf) w)
      have hr35 : ∀ (zz : Int × Int × Int × (List gauge_Vertical)) a w, x35 = .go zz → S35 zz a w → K33 a w := by
        rintro ⟨x_14, x_15, x_16, x_17⟩ a w rfl ⟨p_14, c_14, p_15, c_15, hf, hc⟩
        replace hF := exK_go hF
        refine h33 _ _ ?_
        refine wp_seq_k fun K36 h36 => ?_
        refine cReg ?_
        refine stE hf hc rfl rfl rfl (eLdN (vs := [.int .i64 r_8.1.Left, .int .i64 r_8.1.Right, .slice p_12 r_8.1.Verticals.length c_12]) ag_87 rfl rfl (cells_box (n := 3) m3 rfl)) fun a w hf hc => ?_
        refine stP hf rfl rfl rfl (pFA fa_83_3 rfl) fun a hf => ?_
        refine stE hf hc rfl rfl rfl (eLd1 sc_39 rfl (cell_box m8 rfl)) fun a w hf hc => ?_
        refine stP hf rfl rfl rfl (pFA fa_83_4 rfl) fun a hf => ?_
        refine stE hf hc rfl rfl rfl (eLd1 sc_39 rfl (cell_box m8 rfl)) fun a w hf hc => ?_
        obtain ⟨r_10, hr_10, hF⟩ := bnd_some hF
        refine stE hf hc rfl rfl rfl (eC (v := .tuple #[.int .i64 r_10.1, .int .i64 r_10.2]) (vs := [.agg #[.int .i64 r_8.1.Left, .int .i64 r_8.1.Right, .slice p_12 r_8.1.Verticals.length c_12], .slice p_9 r_7.1.Depth.length c_9, .slice p_14 x_13.length c_14]) (caps := []) en_48 rfl rfl rfl rfl (fun w hc => by obtain ⟨G1, hle1, hrd1, hc, hth1⟩ := lend hc k1; obtain ⟨G2, hle2, hrd2, hc, hth2⟩ := lend hc k4; obtain ⟨G3, hle3, hrd3, hc, hth3⟩ := lend hc k4; exact (gauge_Real_ok r_8.1 r_7.1.Depth x_13 ((hrd1.mono hle2).mono hle3) (hrd2.mono hle3) hrd3 hc hr_10).mono fun e w h => ⟨h.1, ((hth1 _ _ ((hth2 _ _ ((hth3 _ _ h.2).unpick k4)).unpick k4)).unpick k1)⟩)) fun a w hf hc => ?_
        refine stP hf rfl rfl rfl (pM rfl) fun a hf => ?_
        refine stP hf rfl rfl rfl (pX rfl rfl) fun a hf => ?_
        refine stP hf rfl rfl rfl (pX rfl rfl) fun a hf => ?_
        refine stP hf rfl rfl rfl (pA rfl) fun a hf => ?_
        refine stP hf rfl rfl rfl (pA rfl) fun a hf => ?_
        refine cNil ?_
        refine h36 _ _ ?_
        refine wp_seq_k fun K37 h37 => ?_
        refine cReg ?_
        refine stE hf hc rfl rfl rfl (eLdN (vs := [.int .i64 r_8.1.Left, .int .i64 r_8.1.Right, .slice p_12 r_8.1.Verticals.length c_12]) ag_87 rfl rfl (cells_box (n := 3) m3 rfl)) fun a w hf hc => ?_
        obtain ⟨r_11, hr_11, hF⟩ := bnd_some hF
        refine stE hf hc rfl rfl rfl (eC (v := .tuple #[.agg #[.int .i64 r_11.1.Lo, .int .i64 r_11.1.Hi], .int .i64 r_11.2]) (vs := [.agg #[.int .i64 r_8.1.Left, .int .i64 r_8.1.Right, .slice p_12 r_8.1.Verticals.length c_12]]) (caps := []) en_49 rfl rfl rfl rfl (fun w hc => by obtain ⟨G1, hle1, hrd1, hc, hth1⟩ := lend hc k1; exact (gauge_Flow_ok r_8.1 hrd1 hc hr_11).mono fun e w h => ⟨h.1, ((hth1 _ _ h.2).unpick k1)⟩)) fun a w hf hc => ?_
        refine stP hf rfl rfl rfl (pM rfl) fun a hf => ?_
        refine stP hf rfl rfl rfl (pX rfl rfl) fun a hf => ?_
        refine stP hf rfl rfl rfl (pX rfl rfl) fun a hf => ?_
        refine stAl (cs := [.int .i64 0, .int .i64 0]) hf hc rfl rfl zr_30 rfl fun b_9 a w hf hc => ?_
        refine stSt (vs := [.int .i64 r_11.1.Lo, .int .i64 r_11.1.Hi]) hf hc rfl rfl rfl rfl sz_30 rfl rfl u0 fun w hc => ?_
        refine stP hf rfl rfl rfl (pA rfl) fun a hf => ?_
        refine cNil ?_
        refine h37 _ _ ?_
        refine wp_seq_k fun K38 h38 => ?_
        refine cReg ?_
        refine stE hf hc rfl rfl rfl (eLdN (vs := [.int .i64 r_9.Left, .int .i64 r_9.Right, .slice p_15 x_17.length c_15]) ag_87 rfl rfl (cells_box (n := 3) m1 rfl)) fun a w hf hc => ?_
        obtain ⟨r_12, hr_12, hF⟩ := bnd_some hF
        refine stE hf hc rfl rfl rfl (eC (v := .tuple #[.agg #[.int .i64 r_12.1.Lo, .int .i64 r_12.1.Hi], .int .i64 r_12.2]) (vs := [.agg #[.int .i64 r_9.Left, .int .i64 r_9.Right, .slice p_15 x_17.length c_15]]) (caps := []) en_49 rfl rfl rfl rfl (fun w hc => by obtain ⟨G1, hle1, hrd1, hc, hth1⟩ := lend hc k3; exact (gauge_Flow_ok (⟨r_9.Left, r_9.Right, x_17⟩ : gauge_Gauging) hrd1 hc hr_12).mono fun e w h => ⟨h.1, ((hth1 _ _ h.2).unpick k3)⟩)) fun a w hf hc => ?_
        refine stP hf rfl rfl rfl (pM rfl) fun a hf => ?_
        refine stP hf rfl rfl rfl (pX rfl rfl) fun a hf => ?_
        refine stP hf rfl rfl rfl (pX rfl rfl) fun a hf => ?_
        refine stAl (cs := [.int .i64 0, .int .i64 0]) hf hc rfl rfl zr_30 rfl fun b_10 a w hf hc => ?_
        refine stSt (vs := [.int .i64 r_12.1.Lo, .int .i64 r_12.1.Hi]) hf hc rfl rfl rfl rfl sz_30 rfl rfl u0 fun w hc => ?_
        refine stP hf rfl rfl rfl (pA rfl) fun a hf => ?_
        refine cNil ?_
        refine h38 _ _ ?_
        refine wp_seq_k fun K39 h39 => ?_
        refine wp_seq_k fun K40 h40 => ?_
        refine cReg ?_
        refine stP hf rfl rfl rfl (pM rfl) fun a hf => ?_
        refine stP hf rfl rfl rfl (pNe rfl rfl) fun a hf => ?_
        refine stP hf rfl rfl rfl (pM rfl) fun a hf => ?_
        refine stCut 3 (fun a w => Has 315 a [(7, .pointer (some ⟨b_1, 0, none⟩)), (8, .pointer (some ⟨b_2, 0, none⟩)), (9, .pointer (some ⟨b_3, 0, none⟩)), (10, .pointer (some ⟨b_4, 0, none⟩)), (11, .pointer (some ⟨b_5, 0, none⟩)), (12, .slice p_1 truth.length c_1), (38, .int .i64 r_3.1), (39, .int .i64 x), (18, .int .i64 r_10.1), (19, .int .i64 r_10.2), (20, .pointer (some ⟨b_9, 0, none⟩)), (21, .int .i64 r_11.2), (22, .pointer (some ⟨b_10, 0, none⟩)), (23, .int .i64 r_12.2), (110, .int .i64 r_10.2), (111, .bool (r_10.2 != 0)), (112, .bool (r_10.2 != 0)), (115, .bool ((r_10.2 != 0) || (r_11.2 != 0)))] ∧ Ctx G (.box b_10 [.int .i64 r_12.1.Lo, .int .i64 r_12.1.Hi] 30 :: .box b_9 [.int .i64 r_11.1.Lo, .int .i64 r_11.1.Hi] 30 :: .box b_8 [.int .i64 r_9.Left, .int .i64 r_9.Right, .slice p_15 x_17.length c_15] 87 :: .row p_12 c_12 (r_8.1.Verticals.map enc_gauge_Vertical) 92 5 :: .row p_15 c_15 (x_17.map enc_gauge_Vertical) 92 5 :: .box b_7 [.int .i64 r_8.1.Left, .int .i64 r_8.1.Right, .slice p_12 r_8.1.Verticals.length c_12] 87 :: .row p_8 c_8 (r_7.1.At.map encI_i64) 3 1 :: .row p_9 c_9 (r_7.1.Depth.map encI_i64) 3 1 :: .row p_14 c_14 (x_13.map encI_i64) 3 1 :: .box b_2 [.slice errors_p errors.length errors_c, .int .i64 r_8.2.1, .int .i64 r_8.2.2] 135 :: .box b_6 [.int .i64 r_7.1.Left, .int .i64 r_7.1.Right, .slice p_8 r_7.1.At.length c_8, .slice p_9 r_7.1.Depth.length c_9, .slice p_14 x_13.length c_14] 83 :: .box b_1 [.slice numbers_p numbers.length numbers_c, .int .i64 r_7.2.1, .int .i64 r_7.2.2] 135 :: .row p_3 c_3 (x_10.map enc_daily_Value) 56 3 :: .row p_2 c_2 (x_9.map enc_daily_Value) 56 3 :: .row p_1 c_1 (truth.map encI_i64) 3 1 :: .box b_5 [.int .i64 0, .int .i64 0, .slice p_3 x_10.length c_3] 24 :: .box b_4 [.int .i64 x_7, .int .i64 x_8, .slice p_2 x_9.length c_2] 24 :: .box b_3 [.slice better_p better.length better_c, .int .i64 x_15, .int .i64 x_16] 135 :: Lf) w) ?_ ?_
        · cases hb : (r_10.2 != 0)
          · rw [hb] at hf
            refine stP hf rfl rfl rfl (pM rfl) fun a hf => ?_
            refine stP hf rfl rfl rfl (pNe rfl rfl) fun a hf => ?_
            refine stP hf rfl rfl rfl (pPf rfl rfl) fun a hf => ?_
            exact cNil ⟨hf.keep ⟨rfl, rfl, rfl, rfl, rfl, rfl, rfl, rfl, rfl, rfl, rfl, rfl, rfl, rfl, rfl, rfl, rfl, rfl, trivial⟩, hc⟩
          · rw [hb] at hf
            refine stS hf rfl rfl rfl fun a hf => ?_
            refine stS hf rfl rfl rfl fun a hf => ?_
            refine stP hf rfl rfl rfl (pPt rfl rfl) fun a hf => ?_
            exact cNil ⟨hf.keep ⟨rfl, rfl, rfl, rfl, rfl, rfl, rfl, rfl, rfl, rfl, rfl, rfl, rfl, rfl, rfl, rfl, rfl, rfl, trivial⟩, hc⟩
        intro a w ⟨hf, hc⟩
        refine stP hf rfl rfl rfl (pM rfl) fun a hf => ?_
        refine stCut 3 (fun a w => Has 315 a [(7, .pointer (some ⟨b_1, 0, none⟩)), (8, .pointer (some ⟨b_2, 0, none⟩)), (9, .pointer (some ⟨b_3, 0, none⟩)), (10, .pointer (some ⟨b_4, 0, none⟩)), (11, .pointer (some ⟨b_5, 0, none⟩)), (12, .slice p_1 truth.length c_1), (38, .int .i64 r_3.1), (39, .int .i64 x), (18, .int .i64 r_10.1), (19, .int .i64 r_10.2), (20, .pointer (some ⟨b_9, 0, none⟩)), (21, .int .i64 r_11.2), (22, .pointer (some ⟨b_10, 0, none⟩)), (23, .int .i64 r_12.2), (110, .int .i64 r_10.2), (111, .bool (r_10.2 != 0)), (112, .bool (r_10.2 != 0)), (115, .bool ((r_10.2 != 0) || (r_11.2 != 0))), (116, .bool ((r_10.2 != 0) || (r_11.2 != 0))), (119, .bool (((r_10.2 != 0) || (r_11.2 != 0)) || (r_12.2 != 0)))] ∧ Ctx G (.box b_10 [.int .i64 r_12.1.Lo, .int .i64 r_12.1.Hi] 30 :: .box b_9 [.int .i64 r_11.1.Lo, .int .i64 r_11.1.Hi] 30 :: .box b_8 [.int .i64 r_9.Left, .int .i64 r_9.Right, .slice p_15 x_17.length c_15] 87 :: .row p_12 c_12 (r_8.1.Verticals.map enc_gauge_Vertical) 92 5 :: .row p_15 c_15 (x_17.map enc_gauge_Vertical) 92 5 :: .box b_7 [.int .i64 r_8.1.Left, .int .i64 r_8.1.Right, .slice p_12 r_8.1.Verticals.length c_12] 87 :: .row p_8 c_8 (r_7.1.At.map encI_i64) 3 1 :: .row p_9 c_9 (r_7.1.Depth.map encI_i64) 3 1 :: .row p_14 c_14 (x_13.map encI_i64) 3 1 :: .box b_2 [.slice errors_p errors.length errors_c, .int .i64 r_8.2.1, .int .i64 r_8.2.2] 135 :: .box b_6 [.int .i64 r_7.1.Left, .int .i64 r_7.1.Right, .slice p_8 r_7.1.At.length c_8, .slice p_9 r_7.1.Depth.length c_9, .slice p_14 x_13.length c_14] 83 :: .box b_1 [.slice numbers_p numbers.length numbers_c, .int .i64 r_7.2.1, .int .i64 r_7.2.2] 135 :: .row p_3 c_3 (x_10.map enc_daily_Value) 56 3 :: .row p_2 c_2 (x_9.map enc_daily_Value) 56 3 :: .row p_1 c_1 (truth.map encI_i64) 3 1 :: .box b_5 [.int .i64 0, .int .i64 0, .slice p_3 x_10.length c_3] 24 :: .box b_4 [.int .i64 x_7, .int .i64 x_8, .slice p_2 x_9.length c_2] 24 :: .box b_3 [.slice better_p better.length better_c, .int .i64 x_15, .int .i64 x_16] 135 :: Lf) w) ?_ ?_
        · cases hb : ((r_10.2 != 0) || (r_11.2 != 0))
          · rw [hb] at hf
            refine stP hf rfl rfl rfl (pM rfl) fun a hf => ?_
            refine stP hf rfl rfl rfl (pNe rfl rfl) fun a hf => ?_
            refine stP hf rfl rfl rfl (pPf rfl rfl) fun a hf => ?_
            exact cNil ⟨hf.keep ⟨rfl, rfl, rfl, rfl, rfl, rfl, rfl, rfl, rfl, rfl, rfl, rfl, rfl, rfl, rfl, rfl, rfl, rfl, rfl, rfl, trivial⟩, hc⟩
          · rw [hb] at hf
            refine stS hf rfl rfl rfl fun a hf => ?_
            refine stS hf rfl rfl rfl fun a hf => ?_
            refine stP hf rfl rfl rfl (pPt rfl rfl) fun a hf => ?_
            exact cNil ⟨hf.keep ⟨rfl, rfl, rfl, rfl, rfl, rfl, rfl, rfl, rfl, rfl, rfl, rfl, rfl, rfl, rfl, rfl, rfl, rfl, rfl, rfl, trivial⟩, hc⟩
        intro a w ⟨hf, hc⟩
        refine stP hf rfl rfl rfl (pM rfl) fun a hf => ?_
        refine stCut 3 (fun a w => Has 315 a [(7, .pointer (some ⟨b_1, 0, none⟩)), (8, .pointer (some ⟨b_2, 0, none⟩)), (9, .pointer (some ⟨b_3, 0, none⟩)), (10, .pointer (some ⟨b_4, 0, none⟩)), (11, .pointer (some ⟨b_5, 0, none⟩)), (12, .slice p_1 truth.length c_1), (38, .int .i64 r_3.1), (39, .int .i64 x), (18, .int .i64 r_10.1), (19, .int .i64 r_10.2), (20, .pointer (some ⟨b_9, 0, none⟩)), (21, .int .i64 r_11.2), (22, .pointer (some ⟨b_10, 0, none⟩)), (23, .int .i64 r_12.2), (110, .int .i64 r_10.2), (111, .bool (r_10.2 != 0)), (112, .bool (r_10.2 != 0)), (115, .bool ((r_10.2 != 0) || (r_11.2 != 0))), (116, .bool ((r_10.2 != 0) || (r_11.2 != 0))), (119, .bool (((r_10.2 != 0) || (r_11.2 != 0)) || (r_12.2 != 0))), (120, .bool (((r_10.2 != 0) || (r_11.2 != 0)) || (r_12.2 != 0))), (123, .bool ((((r_10.2 != 0) || (r_11.2 != 0)) || (r_12.2 != 0)) || (decide (r_10.1 < 0))))] ∧ Ctx G (.box b_10 [.int .i64 r_12.1.Lo, .int .i64 r_12.1.Hi] 30 :: .box b_9 [.int .i64 r_11.1.Lo, .int .i64 r_11.1.Hi] 30 :: .box b_8 [.int .i64 r_9.Left, .int .i64 r_9.Right, .slice p_15 x_17.length c_15] 87 :: .row p_12 c_12 (r_8.1.Verticals.map enc_gauge_Vertical) 92 5 :: .row p_15 c_15 (x_17.map enc_gauge_Vertical) 92 5 :: .box b_7 [.int .i64 r_8.1.Left, .int .i64 r_8.1.Right, .slice p_12 r_8.1.Verticals.length c_12] 87 :: .row p_8 c_8 (r_7.1.At.map encI_i64) 3 1 :: .row p_9 c_9 (r_7.1.Depth.map encI_i64) 3 1 :: .row p_14 c_14 (x_13.map encI_i64) 3 1 :: .box b_2 [.slice errors_p errors.length errors_c, .int .i64 r_8.2.1, .int .i64 r_8.2.2] 135 :: .box b_6 [.int .i64 r_7.1.Left, .int .i64 r_7.1.Right, .slice p_8 r_7.1.At.length c_8, .slice p_9 r_7.1.Depth.length c_9, .slice p_14 x_13.length c_14] 83 :: .box b_1 [.slice numbers_p numbers.length numbers_c, .int .i64 r_7.2.1, .int .i64 r_7.2.2] 135 :: .row p_3 c_3 (x_10.map enc_daily_Value) 56 3 :: .row p_2 c_2 (x_9.map enc_daily_Value) 56 3 :: .row p_1 c_1 (truth.map encI_i64) 3 1 :: .box b_5 [.int .i64 0, .int .i64 0, .slice p_3 x_10.length c_3] 24 :: .box b_4 [.int .i64 x_7, .int .i64 x_8, .slice p_2 x_9.length c_2] 24 :: .box b_3 [.slice better_p better.length better_c, .int .i64 x_15, .int .i64 x_16] 135 :: Lf) w) ?_ ?_
        · cases hb : (((r_10.2 != 0) || (r_11.2 != 0)) || (r_12.2 != 0))
          · rw [hb] at hf
            refine stP hf rfl rfl rfl (pM rfl) fun a hf => ?_
            refine stP hf rfl rfl rfl (pLt rfl rfl) fun a hf => ?_
            refine stP hf rfl rfl rfl (pPf rfl rfl) fun a hf => ?_
            exact cNil ⟨hf.keep ⟨rfl, rfl, rfl, rfl, rfl, rfl, rfl, rfl, rfl, rfl, rfl, rfl, rfl, rfl, rfl, rfl, rfl, rfl, rfl, rfl, rfl, rfl, trivial⟩, hc⟩
          · rw [hb] at hf
            refine stS hf rfl rfl rfl fun a hf => ?_
            refine stS hf rfl rfl rfl fun a hf => ?_
            refine stP hf rfl rfl rfl (pPt rfl rfl) fun a hf => ?_
            exact cNil ⟨hf.keep ⟨rfl, rfl, rfl, rfl, rfl, rfl, rfl, rfl, rfl, rfl, rfl, rfl, rfl, rfl, rfl, rfl, rfl, rfl, rfl, rfl, rfl, rfl, trivial⟩, hc⟩
        intro a w ⟨hf, hc⟩
        refine stP hf rfl rfl rfl (pM rfl) fun a hf => ?_
        refine stCut 5 (fun a w => Has 315 a [(7, .pointer (some ⟨b_1, 0, none⟩)), (8, .pointer (some ⟨b_2, 0, none⟩)), (9, .pointer (some ⟨b_3, 0, none⟩)), (10, .pointer (some ⟨b_4, 0, none⟩)), (11, .pointer (some ⟨b_5, 0, none⟩)), (12, .slice p_1 truth.length c_1), (38, .int .i64 r_3.1), (39, .int .i64 x), (18, .int .i64 r_10.1), (19, .int .i64 r_10.2), (20, .pointer (some ⟨b_9, 0, none⟩)), (21, .int .i64 r_11.2), (22, .pointer (some ⟨b_10, 0, none⟩)), (23, .int .i64 r_12.2), (110, .int .i64 r_10.2), (111, .bool (r_10.2 != 0)), (112, .bool (r_10.2 != 0)), (115, .bool ((r_10.2 != 0) || (r_11.2 != 0))), (116, .bool ((r_10.2 != 0) || (r_11.2 != 0))), (119, .bool (((r_10.2 != 0) || (r_11.2 != 0)) || (r_12.2 != 0))), (120, .bool (((r_10.2 != 0) || (r_11.2 != 0)) || (r_12.2 != 0))), (123, .bool ((((r_10.2 != 0) || (r_11.2 != 0)) || (r_12.2 != 0)) || (decide (r_10.1 < 0)))), (124, .bool ((((r_10.2 != 0) || (r_11.2 != 0)) || (r_12.2 != 0)) || (decide (r_10.1 < 0)))), (129, .bool (((((r_10.2 != 0) || (r_11.2 != 0)) || (r_12.2 != 0)) || (decide (r_10.1 < 0))) || (decide (r_11.1.Hi < r_10.1))))] ∧ Ctx G (.box b_10 [.int .i64 r_12.1.Lo, .int .i64 r_12.1.Hi] 30 :: .box b_9 [.int .i64 r_11.1.Lo, .int .i64 r_11.1.Hi] 30 :: .box b_8 [.int .i64 r_9.Left, .int .i64 r_9.Right, .slice p_15 x_17.length c_15] 87 :: .row p_12 c_12 (r_8.1.Verticals.map enc_gauge_Vertical) 92 5 :: .row p_15 c_15 (x_17.map enc_gauge_Vertical) 92 5 :: .box b_7 [.int .i64 r_8.1.Left, .int .i64 r_8.1.Right, .slice p_12 r_8.1.Verticals.length c_12] 87 :: .row p_8 c_8 (r_7.1.At.map encI_i64) 3 1 :: .row p_9 c_9 (r_7.1.Depth.map encI_i64) 3 1 :: .row p_14 c_14 (x_13.map encI_i64) 3 1 :: .box b_2 [.slice errors_p errors.length errors_c, .int .i64 r_8.2.1, .int .i64 r_8.2.2] 135 :: .box b_6 [.int .i64 r_7.1.Left, .int .i64 r_7.1.Right, .slice p_8 r_7.1.At.length c_8, .slice p_9 r_7.1.Depth.length c_9, .slice p_14 x_13.length c_14] 83 :: .box b_1 [.slice numbers_p numbers.length numbers_c, .int .i64 r_7.2.1, .int .i64 r_7.2.2] 135 :: .row p_3 c_3 (x_10.map enc_daily_Value) 56 3 :: .row p_2 c_2 (x_9.map enc_daily_Value) 56 3 :: .row p_1 c_1 (truth.map encI_i64) 3 1 :: .box b_5 [.int .i64 0, .int .i64 0, .slice p_3 x_10.length c_3] 24 :: .box b_4 [.int .i64 x_7, .int .i64 x_8, .slice p_2 x_9.length c_2] 24 :: .box b_3 [.slice better_p better.length better_c, .int .i64 x_15, .int .i64 x_16] 135 :: Lf) w) ?_ ?_
        · cases hb : ((((r_10.2 != 0) || (r_11.2 != 0)) || (r_12.2 != 0)) || (decide (r_10.1 < 0)))
          · rw [hb] at hf
            refine stP hf rfl rfl rfl (pFA fa_30_1 rfl) fun a hf => ?_
            refine stE hf hc rfl rfl rfl (eLd1 sc_3 rfl (cell_box m1 rfl)) fun a w hf hc => ?_
            refine stP hf rfl rfl rfl (pM rfl) fun a hf => ?_
            refine stP hf rfl rfl rfl (pLt rfl rfl) fun a hf => ?_
            refine stP hf rfl rfl rfl (pPf rfl rfl) fun a hf => ?_
            exact cNil ⟨hf.keep ⟨rfl, rfl, rfl, rfl, rfl, rfl, rfl, rfl, rfl, rfl, rfl, rfl, rfl, rfl, rfl, rfl, rfl, rfl, rfl, rfl, rfl, rfl, rfl, rfl, trivial⟩, hc⟩
          · rw [hb] at hf
            refine stS hf rfl rfl rfl fun a hf => ?_
            refine stS hf rfl rfl rfl fun a hf => ?_
            refine stS hf rfl rfl rfl fun a hf => ?_
            refine stS hf rfl rfl rfl fun a hf => ?_
            refine stP hf rfl rfl rfl (pPt rfl rfl) fun a hf => ?_
            exact cNil ⟨hf.keep ⟨rfl, rfl, rfl, rfl, rfl, rfl, rfl, rfl, rfl, rfl, rfl, rfl, rfl, rfl, rfl, rfl, rfl, rfl, rfl, rfl, rfl, rfl, rfl, rfl, trivial⟩, hc⟩
        intro a w ⟨hf, hc⟩
        refine stP hf rfl rfl rfl (pM rfl) fun a hf => ?_
        refine stCut 5 (fun a w => Has 315 a [(7, .pointer (some ⟨b_1, 0, none⟩)), (8, .pointer (some ⟨b_2, 0, none⟩)), (9, .pointer (some ⟨b_3, 0, none⟩)), (10, .pointer (some ⟨b_4, 0, none⟩)), (11, .pointer (some ⟨b_5, 0, none⟩)), (12, .slice p_1 truth.length c_1), (38, .int .i64 r_3.1), (39, .int .i64 x), (18, .int .i64 r_10.1), (19, .int .i64 r_10.2), (20, .pointer (some ⟨b_9, 0, none⟩)), (21, .int .i64 r_11.2), (22, .pointer (some ⟨b_10, 0, none⟩)), (23, .int .i64 r_12.2), (110, .int .i64 r_10.2), (111, .bool (r_10.2 != 0)), (112, .bool (r_10.2 != 0)), (115, .bool ((r_10.2 != 0) || (r_11.2 != 0))), (116, .bool ((r_10.2 != 0) || (r_11.2 != 0))), (119, .bool (((r_10.2 != 0) || (r_11.2 != 0)) || (r_12.2 != 0))), (120, .bool (((r_10.2 != 0) || (r_11.2 != 0)) || (r_12.2 != 0))), (123, .bool ((((r_10.2 != 0) || (r_11.2 != 0)) || (r_12.2 != 0)) || (decide (r_10.1 < 0)))), (124, .bool ((((r_10.2 != 0) || (r_11.2 != 0)) || (r_12.2 != 0)) || (decide (r_10.1 < 0)))), (129, .bool (((((r_10.2 != 0) || (r_11.2 != 0)) || (r_12.2 != 0)) || (decide (r_10.1 < 0))) || (decide (r_11.1.Hi < r_10.1)))), (130, .bool (((((r_10.2 != 0) || (r_11.2 != 0)) || (r_12.2 != 0)) || (decide (r_10.1 < 0))) || (decide (r_11.1.Hi < r_10.1)))), (135, .bool ((((((r_10.2 != 0) || (r_11.2 != 0)) || (r_12.2 != 0)) || (decide (r_10.1 < 0))) || (decide (r_11.1.Hi < r_10.1))) || (decide (r_12.1.Hi < r_10.1))))] ∧ Ctx G (.box b_10 [.int .i64 r_12.1.Lo, .int .i64 r_12.1.Hi] 30 :: .box b_9 [.int .i64 r_11.1.Lo, .int .i64 r_11.1.Hi] 30 :: .box b_8 [.int .i64 r_9.Left, .int .i64 r_9.Right, .slice p_15 x_17.length c_15] 87 :: .row p_12 c_12 (r_8.1.Verticals.map enc_gauge_Vertical) 92 5 :: .row p_15 c_15 (x_17.map enc_gauge_Vertical) 92 5 :: .box b_7 [.int .i64 r_8.1.Left, .int .i64 r_8.1.Right, .slice p_12 r_8.1.Verticals.length c_12] 87 :: .row p_8 c_8 (r_7.1.At.map encI_i64) 3 1 :: .row p_9 c_9 (r_7.1.Depth.map encI_i64) 3 1 :: .row p_14 c_14 (x_13.map encI_i64) 3 1 :: .box b_2 [.slice errors_p errors.length errors_c, .int .i64 r_8.2.1, .int .i64 r_8.2.2] 135 :: .box b_6 [.int .i64 r_7.1.Left, .int .i64 r_7.1.Right, .slice p_8 r_7.1.At.length c_8, .slice p_9 r_7.1.Depth.length c_9, .slice p_14 x_13.length c_14] 83 :: .box b_1 [.slice numbers_p numbers.length numbers_c, .int .i64 r_7.2.1, .int .i64 r_7.2.2] 135 :: .row p_3 c_3 (x_10.map enc_daily_Value) 56 3 :: .row p_2 c_2 (x_9.map enc_daily_Value) 56 3 :: .row p_1 c_1 (truth.map encI_i64) 3 1 :: .box b_5 [.int .i64 0, .int .i64 0, .slice p_3 x_10.length c_3] 24 :: .box b_4 [.int .i64 x_7, .int .i64 x_8, .slice p_2 x_9.length c_2] 24 :: .box b_3 [.slice better_p better.length better_c, .int .i64 x_15, .int .i64 x_16] 135 :: Lf) w) ?_ ?_
        · cases hb : (((((r_10.2 != 0) || (r_11.2 != 0)) || (r_12.2 != 0)) || (decide (r_10.1 < 0))) || (decide (r_11.1.Hi < r_10.1)))
          · rw [hb] at hf
            refine stP hf rfl rfl rfl (pFA fa_30_1 rfl) fun a hf => ?_
            refine stE hf hc rfl rfl rfl (eLd1 sc_3 rfl (cell_box m0 rfl)) fun a w hf hc => ?_
            refine stP hf rfl rfl rfl (pM rfl) fun a hf => ?_
            refine stP hf rfl rfl rfl (pLt rfl rfl) fun a hf => ?_
            refine stP hf rfl rfl rfl (pPf rfl rfl) fun a hf => ?_
            exact cNil ⟨hf.keep ⟨rfl, rfl, rfl, rfl, rfl, rfl, rfl, rfl, rfl, rfl, rfl, rfl, rfl, rfl, rfl, rfl, rfl, rfl, rfl, rfl, rfl, rfl, rfl, rfl, rfl, rfl, trivial⟩, hc⟩
          · rw [hb] at hf
            refine stS hf rfl rfl rfl fun a hf => ?_
            refine stS hf rfl rfl rfl fun a hf => ?_
            refine stS hf rfl rfl rfl fun a hf => ?_
            refine stS hf rfl rfl rfl fun a hf => ?_
            refine stP hf rfl rfl rfl (pPt rfl rfl) fun a hf => ?_
            exact cNil ⟨hf.keep ⟨rfl, rfl, rfl, rfl, rfl, rfl, rfl, rfl, rfl, rfl, rfl, rfl, rfl, rfl, rfl, rfl, rfl, rfl, rfl, rfl, rfl, rfl, rfl, rfl, rfl, rfl, trivial⟩, hc⟩
        intro a w ⟨hf, hc⟩
        refine stP hf rfl rfl rfl (pM rfl) fun a hf => ?_
        refine stCut 4 (fun a w => Has 315 a [(7, .pointer (some ⟨b_1, 0, none⟩)), (8, .pointer (some ⟨b_2, 0, none⟩)), (9, .pointer (some ⟨b_3, 0, none⟩)), (10, .pointer (some ⟨b_4, 0, none⟩)), (11, .pointer (some ⟨b_5, 0, none⟩)), (12, .slice p_1 truth.length c_1), (38, .int .i64 r_3.1), (39, .int .i64 x), (18, .int .i64 r_10.1), (19, .int .i64 r_10.2), (20, .pointer (some ⟨b_9, 0, none⟩)), (21, .int .i64 r_11.2), (22, .pointer (some ⟨b_10, 0, none⟩)), (23, .int .i64 r_12.2), (110, .int .i64 r_10.2), (111, .bool (r_10.2 != 0)), (112, .bool (r_10.2 != 0)), (115, .bool ((r_10.2 != 0) || (r_11.2 != 0))), (116, .bool ((r_10.2 != 0) || (r_11.2 != 0))), (119, .bool (((r_10.2 != 0) || (r_11.2 != 0)) || (r_12.2 != 0))), (120, .bool (((r_10.2 != 0) || (r_11.2 != 0)) || (r_12.2 != 0))), (123, .bool ((((r_10.2 != 0) || (r_11.2 != 0)) || (r_12.2 != 0)) || (decide (r_10.1 < 0)))), (124, .bool ((((r_10.2 != 0) || (r_11.2 != 0)) || (r_12.2 != 0)) || (decide (r_10.1 < 0)))), (129, .bool (((((r_10.2 != 0) || (r_11.2 != 0)) || (r_12.2 != 0)) || (decide (r_10.1 < 0))) || (decide (r_11.1.Hi < r_10.1)))), (130, .bool (((((r_10.2 != 0) || (r_11.2 != 0)) || (r_12.2 != 0)) || (decide (r_10.1 < 0))) || (decide (r_11.1.Hi < r_10.1)))), (135, .bool ((((((r_10.2 != 0) || (r_11.2 != 0)) || (r_12.2 != 0)) || (decide (r_10.1 < 0))) || (decide (r_11.1.Hi < r_10.1))) || (decide (r_12.1.Hi < r_10.1)))), (136, .bool ((((((r_10.2 != 0) || (r_11.2 != 0)) || (r_12.2 != 0)) || (decide (r_10.1 < 0))) || (decide (r_11.1.Hi < r_10.1))) || (decide (r_12.1.Hi < r_10.1)))), (140, .bool (((((((r_10.2 != 0) || (r_11.2 != 0)) || (r_12.2 != 0)) || (decide (r_10.1 < 0))) || (decide (r_11.1.Hi < r_10.1))) || (decide (r_12.1.Hi < r_10.1))) || (decide (1000000000 < r_11.1.Hi))))] ∧ Ctx G (.box b_10 [.int .i64 r_12.1.Lo, .int .i64 r_12.1.Hi] 30 :: .box b_9 [.int .i64 r_11.1.Lo, .int .i64 r_11.1.Hi] 30 :: .box b_8 [.int .i64 r_9.Left, .int .i64 r_9.Right, .slice p_15 x_17.length c_15] 87 :: .row p_12 c_12 (r_8.1.Verticals.map enc_gauge_Vertical) 92 5 :: .row p_15 c_15 (x_17.map enc_gauge_Vertical) 92 5 :: .box b_7 [.int .i64 r_8.1.Left, .int .i64 r_8.1.Right, .slice p_12 r_8.1.Verticals.length c_12] 87 :: .row p_8 c_8 (r_7.1.At.map encI_i64) 3 1 :: .row p_9 c_9 (r_7.1.Depth.map encI_i64) 3 1 :: .row p_14 c_14 (x_13.map encI_i64) 3 1 :: .box b_2 [.slice errors_p errors.length errors_c, .int .i64 r_8.2.1, .int .i64 r_8.2.2] 135 :: .box b_6 [.int .i64 r_7.1.Left, .int .i64 r_7.1.Right, .slice p_8 r_7.1.At.length c_8, .slice p_9 r_7.1.Depth.length c_9, .slice p_14 x_13.length c_14] 83 :: .box b_1 [.slice numbers_p numbers.length numbers_c, .int .i64 r_7.2.1, .int .i64 r_7.2.2] 135 :: .row p_3 c_3 (x_10.map enc_daily_Value) 56 3 :: .row p_2 c_2 (x_9.map enc_daily_Value) 56 3 :: .row p_1 c_1 (truth.map encI_i64) 3 1 :: .box b_5 [.int .i64 0, .int .i64 0, .slice p_3 x_10.length c_3] 24 :: .box b_4 [.int .i64 x_7, .int .i64 x_8, .slice p_2 x_9.length c_2] 24 :: .box b_3 [.slice better_p better.length better_c, .int .i64 x_15, .int .i64 x_16] 135 :: Lf) w) ?_ ?_
        · cases hb : ((((((r_10.2 != 0) || (r_11.2 != 0)) || (r_12.2 != 0)) || (decide (r_10.1 < 0))) || (decide (r_11.1.Hi < r_10.1))) || (decide (r_12.1.Hi < r_10.1)))
          · rw [hb] at hf
            refine stP hf rfl rfl rfl (pFA fa_30_1 rfl) fun a hf => ?_
            refine stE hf hc rfl rfl rfl (eLd1 sc_3 rfl (cell_box m1 rfl)) fun a w hf hc => ?_
            refine stP hf rfl rfl rfl (pGt rfl rfl) fun a hf => ?_
            refine stP hf rfl rfl rfl (pPf rfl rfl) fun a hf => ?_
            exact cNil ⟨hf.keep ⟨rfl, rfl, rfl, rfl, rfl, rfl, rfl, rfl, rfl, rfl, rfl, rfl, rfl, rfl, rfl, rfl, rfl, rfl, rfl, rfl, rfl, rfl, rfl, rfl, rfl, rfl, rfl, rfl, trivial⟩, hc⟩
          · rw [hb] at hf
            refine stS hf rfl rfl rfl fun a hf => ?_
            refine stS hf rfl rfl rfl fun a hf => ?_
            refine stS hf rfl rfl rfl fun a hf => ?_
            refine stP hf rfl rfl rfl (pPt rfl rfl) fun a hf => ?_
            exact cNil ⟨hf.keep ⟨rfl, rfl, rfl, rfl, rfl, rfl, rfl, rfl, rfl, rfl, rfl, rfl, rfl, rfl, rfl, rfl, rfl, rfl, rfl, rfl, rfl, rfl, rfl, rfl, rfl, rfl, rfl, rfl, trivial⟩, hc⟩
        intro a w ⟨hf, hc⟩
        refine stP hf rfl rfl rfl (pM rfl) fun a hf => ?_
        refine stCut 4 (fun a w => Has 315 a ((7, .pointer (some ⟨b_1, 0, none⟩)) :: (8, .pointer (some ⟨b_2, 0, none⟩)) :: (9, .pointer (some ⟨b_3, 0, none⟩)) :: (10, .pointer (some ⟨b_4, 0, none⟩)) :: (11, .pointer (some ⟨b_5, 0, none⟩)) :: (12, .slice p_1 truth.length c_1) :: (38, .int .i64 r_3.1) :: (39, .int .i64 x) :: (18, .int .i64 r_10.1) :: (19, .int .i64 r_10.2) :: (20, .pointer (some ⟨b_9, 0, none⟩)) :: (21, .int .i64 r_11.2) :: (22, .pointer (some ⟨b_10, 0, none⟩)) :: (23, .int .i64 r_12.2) :: (110, .int .i64 r_10.2) :: (111, .bool (r_10.2 != 0)) :: (112, .bool (r_10.2 != 0)) :: (115, .bool ((r_10.2 != 0) || (r_11.2 != 0))) :: (116, .bool ((r_10.2 != 0) || (r_11.2 != 0))) :: (119, .bool (((r_10.2 != 0) || (r_11.2 != 0)) || (r_12.2 != 0))) :: (120, .bool (((r_10.2 != 0) || (r_11.2 != 0)) || (r_12.2 != 0))) :: (123, .bool ((((r_10.2 != 0) || (r_11.2 != 0)) || (r_12.2 != 0)) || (decide (r_10.1 < 0)))) :: (124, .bool ((((r_10.2 != 0) || (r_11.2 != 0)) || (r_12.2 != 0)) || (decide (r_10.1 < 0)))) :: (129, .bool (((((r_10.2 != 0) || (r_11.2 != 0)) || (r_12.2 != 0)) || (decide (r_10.1 < 0))) || (decide (r_11.1.Hi < r_10.1)))) :: (130, .bool (((((r_10.2 != 0) || (r_11.2 != 0)) || (r_12.2 != 0)) || (decide (r_10.1 < 0))) || (decide (r_11.1.Hi < r_10.1)))) :: (135, .bool ((((((r_10.2 != 0) || (r_11.2 != 0)) || (r_12.2 != 0)) || (decide (r_10.1 < 0))) || (decide (r_11.1.Hi < r_10.1))) || (decide (r_12.1.Hi < r_10.1)))) :: (136, .bool ((((((r_10.2 != 0) || (r_11.2 != 0)) || (r_12.2 != 0)) || (decide (r_10.1 < 0))) || (decide (r_11.1.Hi < r_10.1))) || (decide (r_12.1.Hi < r_10.1)))) :: (140, .bool (((((((r_10.2 != 0) || (r_11.2 != 0)) || (r_12.2 != 0)) || (decide (r_10.1 < 0))) || (decide (r_11.1.Hi < r_10.1))) || (decide (r_12.1.Hi < r_10.1))) || (decide (1000000000 < r_11.1.Hi)))) :: (141, .bool (((((((r_10.2 != 0) || (r_11.2 != 0)) || (r_12.2 != 0)) || (decide (r_10.1 < 0))) || (decide (r_11.1.Hi < r_10.1))) || (decide (r_12.1.Hi < r_10.1))) || (decide (1000000000 < r_11.1.Hi)))) :: (145, .bool ((((((((r_10.2 != 0) || (r_11.2 != 0)) || (r_12.2 != 0)) || (decide (r_10.1 < 0))) || (decide (r_11.1.Hi < r_10.1))) || (decide (r_12.1.Hi < r_10.1))) || (decide (1000000000 < r_11.1.Hi))) || (decide (1000000000 < r_12.1.Hi)))) :: []) ∧ Ctx G (.box b_10 [.int .i64 r_12.1.Lo, .int .i64 r_12.1.Hi] 30 :: .box b_9 [.int .i64 r_11.1.Lo, .int .i64 r_11.1.Hi] 30 :: .box b_8 [.int .i64 r_9.Left, .int .i64 r_9.Right, .slice p_15 x_17.length c_15] 87 :: .row p_12 c_12 (r_8.1.Verticals.map enc_gauge_Vertical) 92 5 :: .row p_15 c_15 (x_17.map enc_gauge_Vertical) 92 5 :: .box b_7 [.int .i64 r_8.1.Left, .int .i64 r_8.1.Right, .slice p_12 r_8.1.Verticals.length c_12] 87 :: .row p_8 c_8 (r_7.1.At.map encI_i64) 3 1 :: .row p_9 c_9 (r_7.1.Depth.map encI_i64) 3 1 :: .row p_14 c_14 (x_13.map encI_i64) 3 1 :: .box b_2 [.slice errors_p errors.length errors_c, .int .i64 r_8.2.1, .int .i64 r_8.2.2] 135 :: .box b_6 [.int .i64 r_7.1.Left, .int .i64 r_7.1.Right, .slice p_8 r_7.1.At.length c_8, .slice p_9 r_7.1.Depth.length c_9, .slice p_14 x_13.length c_14] 83 :: .box b_1 [.slice numbers_p numbers.length numbers_c, .int .i64 r_7.2.1, .int .i64 r_7.2.2] 135 :: .row p_3 c_3 (x_10.map enc_daily_Value) 56 3 :: .row p_2 c_2 (x_9.map enc_daily_Value) 56 3 :: .row p_1 c_1 (truth.map encI_i64) 3 1 :: .box b_5 [.int .i64 0, .int .i64 0, .slice p_3 x_10.length c_3] 24 :: .box b_4 [.int .i64 x_7, .int .i64 x_8, .slice p_2 x_9.length c_2] 24 :: .box b_3 [.slice better_p better.length better_c, .int .i64 x_15, .int .i64 x_16] 135 :: Lf) w) ?_ ?_
        · cases hb : (((((((r_10.2 != 0) || (r_11.2 != 0)) || (r_12.2 != 0)) || (decide (r_10.1 < 0))) || (decide (r_11.1.Hi < r_10.1))) || (decide (r_12.1.Hi < r_10.1))) || (decide (1000000000 < r_11.1.Hi)))
          · rw [hb] at hf
            refine stP hf rfl rfl rfl (pFA fa_30_1 rfl) fun a hf => ?_
            refine stE hf hc rfl rfl rfl (eLd1 sc_3 rfl (cell_box m0 rfl)) fun a w hf hc => ?_
            refine stP hf rfl rfl rfl (pGt rfl rfl) fun a hf => ?_
            refine stP hf rfl rfl rfl (pPf rfl rfl) fun a hf => ?_
            exact cNil ⟨hf.keep ⟨rfl, rfl, rfl, rfl, rfl, rfl, rfl, rfl, rfl, rfl, rfl, rfl, rfl, rfl, rfl, rfl, rfl, rfl, rfl, rfl, rfl, rfl, rfl, rfl, rfl, rfl, rfl, rfl, rfl, rfl, trivial⟩, hc⟩
          · rw [hb] at hf
            refine stS hf rfl rfl rfl fun a hf => ?_
            refine stS hf rfl rfl rfl fun a hf => ?_
            refine stS hf rfl rfl rfl fun a hf => ?_
            refine stP hf rfl rfl rfl (pPt rfl rfl) fun a hf => ?_
            exact cNil ⟨hf.keep ⟨rfl, rfl, rfl, rfl, rfl, rfl, rfl, rfl, rfl, rfl, rfl, rfl, rfl, rfl, rfl, rfl, rfl, rfl, rfl, rfl, rfl, rfl, rfl, rfl, rfl, rfl, rfl, rfl, rfl, rfl, trivial⟩, hc⟩
        intro a w ⟨hf, hc⟩
        refine cNil ?_
        refine h40 _ _ ?_
        refine cCond (b := ((((((((r_10.2 != 0) || (r_11.2 != 0)) || (r_12.2 != 0)) || (decide (r_10.1 < 0))) || (decide (r_11.1.Hi < r_10.1))) || (decide (r_12.1.Hi < r_10.1))) || (decide (1000000000 < r_11.1.Hi))) || (decide (1000000000 < r_12.1.Hi)))) hf rfl (fun hb => ?_) (fun hb => ?_)
        · replace hF := condT hb hF
          clear hb
          refine wp_seq_k fun K41 h41 => ?_
          refine cReg ?_
          refine stP hf rfl rfl rfl (pA rfl) fun a hf => ?_
          refine cNil ?_
          refine h41 _ _ ?_
          refine wp_ret ?_
          refine xThenR ?_
          refine xBlkR ?_
          refine xThenR ?_
          refine xThenR ?_
          have he := Option.some.inj hF
          rw [← he] at hfin7
          replace hF := ho7 _ hfin7
          refine xBlkR ?_
          refine xThenR ?_
          obtain rfl := hF
          replace hc := hc.drop k17
          replace hc := hc.drop k16
          replace hc := hc.drop k15
          replace hc := hc.drop k14
          replace hc := hc.drop k13
          replace hc := hc.drop k12
          replace hc := hc.drop k11
          replace hc := hc.drop k10
          replace hc := hc.drop k9
          replace hc := hc.drop k8
          replace hc := hc.drop k7
          replace hc := hc.drop k6
          replace hc := hc.drop k5
          replace hc := hc.drop k4
          replace hc := hc.drop k3
          replace hc := hc.drop k2
          replace hc := hc.drop k1
          replace hc := hc.drop k0
          exact fnOut1 (by simp) rfl Try.results9 hf hc (show look _ 6 = _ from rfl) ⟨rfl, hc⟩
        · replace hF := condF hb hF
          clear hb
          refine wp_skip ?_
          refine h39 _ _ ?_
          refine wp_seq_k fun K42 h42 => ?_
          refine wp_seq_k fun K43 h43 => ?_
          refine cReg ?_
          refine stP hf rfl rfl rfl (pM rfl) fun a hf => ?_
          obtain ⟨r_13, hr_13, hF⟩ := bnd_some hF
          refine stC (vs := [.pointer (some ⟨b_1, 0, none⟩), .int .i64 3]) (caps := []) hf rfl rfl rfl en_30 rfl rfl rfl rfl (kit_Stream_Next_ok (⟨numbers, r_7.2.1, r_7.2.2⟩ : kit_Stream) 3 h_numbers (hc.pick k11) hr_13) ?_
          rintro _ w ⟨rfl, hc⟩
          refine ⟨_, rfl, fun a hf => ?_⟩
          refine stP hf rfl rfl rfl (pM rfl) fun a hf => ?_
          refine cNil ?_
          refine h43 _ _ ?_
          refine wp_block ?_
          obtain ⟨x44, hx44, hF⟩ := bnd_some hF
          let S44 : ((List Int) × Int × (List daily_Value) × (List daily_Value)) → Act → World → Prop := (fun (zz : (List Int) × Int × (List daily_Value) × (List daily_Value)) a w => ∃ (p_16 : Option Addr) (c_16 : Nat) (p_17 : Option Addr) (c_17 : Nat) (p_18 : Option Addr) (c_18 : Nat), Has 315 a [(7, .pointer (some ⟨b_1, 0, none⟩)), (8, .pointer (some ⟨b_2, 0, none⟩)), (9, .pointer (some ⟨b_3, 0, none⟩)), (10, .pointer (some ⟨b_4, 0, none⟩)), (11, .pointer (some ⟨b_5, 0, none⟩)), (12, .slice p_16 zz.1.length c_16), (18, .int .i64 r_10.1), (20, .pointer (some ⟨b_9, 0, none⟩)), (22, .pointer (some ⟨b_10, 0, none⟩)), (38, .int .i64 r_3.1), (39, .int .i64 x), (147, .int .i64 r_13.1), (148, .int .i64 zz.2.1)] ∧ Ctx G (.box b_1 [.slice numbers_p numbers.length numbers_c, .int .i64 r_13.2.1, .int .i64 r_13.2.2] 135 :: .box b_10 [.int .i64 r_12.1.Lo, .int .i64 r_12.1.Hi] 30 :: .box b_9 [.int .i64 r_11.1.Lo, .int .i64 r_11.1.Hi] 30 :: .box b_2 [.slice errors_p errors.length errors_c, .int .i64 r_8.2.1, .int .i64 r_8.2.2] 135 :: .row p_18 c_18 (zz.2.2.2.map enc_daily_Value) 56 3 :: .row p_17 c_17 (zz.2.2.1.map enc_daily_Value) 56 3 :: .row p_16 c_16 (zz.1.map encI_i64) 3 1 :: .box b_5 [.int .i64 0, .int .i64 0, .slice p_18 zz.2.2.2.length c_18] 24 :: .box b_4 [.int .i64 x_7, .int .i64 x_8, .slice p_17 zz.2.2.1.length c_17] 24 :: .box b_3 [.slice better_p better.length better_c, .int .i64 x_15, .int .i64 x_16] 135 :: Lf) w)
          have hr44 : ∀ (zz : (List Int) × Int × (List daily_Value) × (List daily_Value)) a w, x44 = .go zz → S44 zz a w → K42 a w := by
            rintro ⟨truth_1, x_18, x_19, x_20⟩ a w rfl ⟨p_16, c_16, p_17, c_17, p_18, c_18, hf, hc⟩
            replace hF := exK_go hF
            refine h42 _ _ ?_
            refine wp_seq_k fun K45 h45 => ?_
            have hj45 : ∀ (x_21 : Int) (x_22 : Int) (p_19 : Option Addr) (c_19 : Nat) a w, Has 315 a [(7, .pointer (some ⟨b_1, 0, none⟩)), (8, .pointer (some ⟨b_2, 0, none⟩)), (9, .pointer (some ⟨b_3, 0, none⟩)), (10, .pointer (some ⟨b_4, 0, none⟩)), (11, .pointer (some ⟨b_5, 0, none⟩)), (12, .slice p_19 truth_1.length c_19), (18, .int .i64 r_10.1), (20, .pointer (some ⟨b_9, 0, none⟩)), (22, .pointer (some ⟨b_10, 0, none⟩)), (38, .int .i64 r_3.1), (39, .int .i64 x)] → Ctx G (.box b_1 [.slice numbers_p numbers.length numbers_c, .int .i64 r_13.2.1, .int .i64 r_13.2.2] 135 :: .box b_10 [.int .i64 r_12.1.Lo, .int .i64 r_12.1.Hi] 30 :: .box b_9 [.int .i64 r_11.1.Lo, .int .i64 r_11.1.Hi] 30 :: .box b_2 [.slice errors_p errors.length errors_c, .int .i64 r_8.2.1, .int .i64 r_8.2.2] 135 :: .row p_18 c_18 (x_20.map enc_daily_Value) 56 3 :: .row p_17 c_17 (x_19.map enc_daily_Value) 56 3 :: .row p_19 c_19 (truth_1.map encI_i64) 3 1 :: .box b_5 [.int .i64 0, .int .i64 0, .slice p_18 x_20.length c_18] 24 :: .box b_4 [.int .i64 x_21, .int .i64 x_22, .slice p_17 x_19.length c_17] 24 :: .box b_3 [.slice better_p better.length better_c, .int .i64 x_15, .int .i64 x_16] 135 :: Lf) w → law07_DailyGauged_j45 N x r_8 x_15 x_16 r_10 r_11 r_12 r_13 truth_1 x_19 x_20 x_21 x_22 = some st7 → K45 a w := by
              repeat (clear hF)
              repeat (clear hc)
              repeat (clear hf)
              intro x_21 x_22 p_19 c_19 a w hf hc hF
              unfold law07_DailyGauged_j45 at hF
              refine h45 _ _ ?_
              refine wp_seq_k fun K46 h46 => ?_
              refine cReg ?_
              refine stP hf rfl rfl rfl (pM rfl) fun a hf => ?_
              refine stP hf rfl rfl rfl (pM rfl) fun a hf => ?_
              refine stBS (rows := ([r_10.1] : List Int).map encI_i64) (vs := [(0, .int .i64 r_10.1)]) hf hc rfl rfl sl_39 rfl ⟨rfl, rfl, rfl, trivial⟩ rfl rfl fun b_11 a w hf hc => ?_
              obtain ⟨un, hun, hF⟩ := bnd_some hF
              refine stApm (xs := truth_1) (ys := ([r_10.1] : List Int)) hf hc rfl rfl sl_39 rfl rfl rfl rfl rfl one_encI_i64 (src_row hc m0) (fun _ _ => u7) (by simpa using room_spec hun) fun p_20 c_20 a w hf hc => ?_
              refine stP hf rfl rfl rfl (pA rfl) fun a hf => ?_
              refine cNil ?_
              refine h46 _ _ ?_
              obtain ⟨r_14, hr_14, hF⟩ := bnd_some hF
              obtain ⟨un_1, hun_1, hF⟩ := bnd_some hF
              obtain ⟨r_15, hr_15, hF⟩ := bnd_some hF
              obtain ⟨un_2, hun_2, hF⟩ := bnd_some hF
              replace hc := hc.nilRow 0 0
              replace hc := hc.nilRow 0 0
              refine regionE (fun θ => (⟨none, none, 7, .pointer (some ⟨b_1, 0, none⟩)⟩ :: ⟨none, none, 8, .pointer (some ⟨b_2, 0, none⟩)⟩ :: ⟨none, none, 9, .pointer (some ⟨b_3, 0, none⟩)⟩ :: ⟨none, none, 10, .pointer (some ⟨b_4, 0, none⟩)⟩ :: ⟨none, none, 11, .pointer (some ⟨b_5, 0, none⟩)⟩ :: ⟨none, none, 12, .slice p_20 ((truth_1 ++ [r_10.1]).length) c_20⟩ :: ⟨none, none, 20, .pointer (some ⟨b_9, 0, none⟩)⟩ :: ⟨none, none, 22, .pointer (some ⟨b_10, 0, none⟩)⟩ :: ⟨none, none, 38, .int .i64 r_3.1⟩ :: ⟨none, none, 39, .int .i64 x⟩ :: ⟨some 0, none, 205, .pointer (some ⟨b_4, 2, none⟩)⟩ :: ⟨some 1, none, 206, .slice p_17 x_19.length c_17⟩ :: ⟨some 2, none, 207, .pointer (some ⟨b_9, 0, none⟩)⟩ :: ⟨some 3, none, 208, .int .i64 r_11.1.Lo⟩ :: ⟨some 4, none, 209, .int .i64 (max 0 r_11.1.Lo)⟩ :: ⟨some 5, none, 210, .pointer (some ⟨b_9, 1, none⟩)⟩ :: ⟨some 6, none, 211, .int .i64 r_11.1.Hi⟩ :: ⟨some 7, none, 212, .agg #[.bool r_14.Known, .int .i64 r_14.Flow.Lo, .int .i64 r_14.Flow.Hi]⟩ :: ⟨some 8, none, 213, .slice (some ⟨(θ 64).b, 0, none⟩) 1 1⟩ :: ⟨some 9, none, 214, .slice ((θ 72).p) ((x_19 ++ [r_14]).length) ((θ 72).c)⟩ :: ⟨some 10, none, 215, .pointer (some ⟨b_5, 2, none⟩)⟩ :: ⟨some 11, none, 216, .slice p_18 x_20.length c_18⟩ :: ⟨some 12, none, 217, .pointer (some ⟨b_10, 0, none⟩)⟩ :: ⟨some 13, none, 218, .int .i64 r_12.1.Lo⟩ :: ⟨some 14, none, 219, .int .i64 (max 0 r_12.1.Lo)⟩ :: ⟨some 15, none, 220, .pointer (some ⟨b_10, 1, none⟩)⟩ :: ⟨some 16, none, 221, .int .i64 r_12.1.Hi⟩ :: ⟨some 17, none, 222, .agg #[.bool r_15.Known, .int .i64 r_15.Flow.Lo, .int .i64 r_15.Flow.Hi]⟩ :: ⟨some 18, none, 223, .slice (some ⟨(θ 144).b, 0, none⟩) 1 1⟩ :: ⟨some 19, none, 224, .slice ((θ 152).p) ((x_20 ++ [r_15]).length) ((θ 152).c)⟩ :: ⟨some 20, none, 225, .pointer (some ⟨b_4, 2, none⟩)⟩ :: ⟨some 22, none, 226, .pointer (some ⟨b_5, 2, none⟩)⟩ :: [])) (fun E θ => (bif E 18 then .row (some ⟨(θ 144).b, 0, none⟩) 1 (([r_15] : List daily_Value).map enc_daily_Value) 56 3 else .row none 0 [] 0 0) :: (bif E 8 then .row (some ⟨(θ 64).b, 0, none⟩) 1 (([r_14] : List daily_Value).map enc_daily_Value) 56 3 else .row none 0 [] 0 0) :: .row (some ⟨b_11, 0, none⟩) 1 (([r_10.1] : List Int).map encI_i64) 3 1 :: .box b_1 [.slice numbers_p numbers.length numbers_c, .int .i64 r_13.2.1, .int .i64 r_13.2.2] 135 :: .box b_10 [.int .i64 r_12.1.Lo, .int .i64 r_12.1.Hi] 30 :: .box b_9 [.int .i64 r_11.1.Lo, .int .i64 r_11.1.Hi] 30 :: .box b_2 [.slice errors_p errors.length errors_c, .int .i64 r_8.2.1, .int .i64 r_8.2.2] 135 :: (bif E 19 then .row ((θ 152).p) ((θ 152).c) ((x_20 ++ [r_15]).map enc_daily_Value) 56 3 else .row p_18 c_18 (x_20.map enc_daily_Value) 56 3) :: (bif E 9 then .row ((θ 72).p) ((θ 72).c) ((x_19 ++ [r_14]).map enc_daily_Value) 56 3 else .row p_17 c_17 (x_19.map enc_daily_Value) 56 3) :: .row p_20 c_20 ((truth_1 ++ [r_10.1]).map encI_i64) 3 1 :: (bif E 23 then .box b_5 [.int .i64 0, .int .i64 0, .slice ((θ 152).p) ((x_20 ++ [r_15]).length) ((θ 152).c)] 24 else .box b_5 [.int .i64 0, .int .i64 0, .slice p_18 x_20.length c_18] 24) :: (bif E 21 then .box b_4 [.int .i64 x_21, .int .i64 x_22, .slice ((θ 72).p) ((x_19 ++ [r_14]).length) ((θ 72).c)] 24 else .box b_4 [.int .i64 x_21, .int .i64 x_22, .slice p_17 x_19.length c_17] 24) :: .box b_3 [.slice better_p better.length better_c, .int .i64 x_15, .int .i64 x_16] 135 :: Lf) [(21, 1), (21, 9), (23, 11), (23, 19)] (fun a w => ∃ (b_14 : Nat) (b_15 : Nat) (p_23 : Option Addr) (c_23 : Nat) (p_24 : Option Addr) (c_24 : Nat), Has 315 a [(7, .pointer (some ⟨b_1, 0, none⟩)), (8, .pointer (some ⟨b_2, 0, none⟩)), (9, .pointer (some ⟨b_3, 0, none⟩)), (10, .pointer (some ⟨b_4, 0, none⟩)), (11, .pointer (some ⟨b_5, 0, none⟩)), (12, .slice p_20 ((truth_1 ++ [r_10.1]).length) c_20), (38, .int .i64 r_3.1), (39, .int .i64 x)] ∧ Ctx G (.row (some ⟨b_14, 0, none⟩) 1 (([r_15] : List daily_Value).map enc_daily_Value) 56 3 :: .row (some ⟨b_15, 0, none⟩) 1 (([r_14] : List daily_Value).map enc_daily_Value) 56 3 :: .row (some ⟨b_11, 0, none⟩) 1 (([r_10.1] : List Int).map encI_i64) 3 1 :: .box b_1 [.slice numbers_p numbers.length numbers_c, .int .i64 r_13.2.1, .int .i64 r_13.2.2] 135 :: .box b_10 [.int .i64 r_12.1.Lo, .int .i64 r_12.1.Hi] 30 :: .box b_9 [.int .i64 r_11.1.Lo, .int .i64 r_11.1.Hi] 30 :: .box b_2 [.slice errors_p errors.length errors_c, .int .i64 r_8.2.1, .int .i64 r_8.2.2] 135 :: .row p_23 c_23 ((x_20 ++ [r_15]).map enc_daily_Value) 56 3 :: .row p_24 c_24 ((x_19 ++ [r_14]).map enc_daily_Value) 56 3 :: .row p_20 c_20 ((truth_1 ++ [r_10.1]).map encI_i64) 3 1 :: .box b_5 [.int .i64 0, .int .i64 0, .slice p_23 ((x_20 ++ [r_15]).length) c_23] 24 :: .box b_4 [.int .i64 x_21, .int .i64 x_22, .slice p_24 ((x_19 ++ [r_14]).length) c_24] 24 :: .box b_3 [.slice better_p better.length better_c, .int .i64 x_15, .int .i64 x_16] 135 :: Lf) w) follows_mx (by kernel_rfl) (by kernel_rfl) (HasE.of hf ⟨rfl, rfl, rfl, rfl, rfl, rfl, rfl, rfl, rfl, rfl, trivial, trivial, trivial, trivial, trivial, trivial, trivial, trivial, trivial, trivial, trivial, trivial, trivial, trivial, trivial, trivial, trivial, trivial, trivial, trivial, trivial, trivial, trivial⟩) hc ⟨?_, ?_, ?_, ?_, ?_, ?_, ?_, ?_, ?_, ?_, ?_, ?_, ?_, ?_, ?_, ?_, ?_, ?_, ?_, ?_, ?_, ?_, ?_, ?_, trivial⟩ ?_ ?_
              · intro E θ a w hD hi hp he hc
                have hf := he.h0
                replace hf := hf.more he 3 rfl onT
                refine stP hf rfl rfl rfl (pFA fa_24_2 rfl) fun a hf => ?_
                refine cNil ?_
                refine xThenN ?_
                intro ds u hau
                refine ⟨θ, he.put0 hi hau hf rfl 10 rfl rfl, ?_⟩
                exact hc
              · intro E θ a w hD hi hp he hc
                have e0 := hp.of (k := 0) rfl
                have e21 := hD.f 0 rfl hi
                try dsimp only at hc
                rw [e21] at hc
                have hf := he.h0
                replace hf := hf.more he 10 rfl (onP e0)
                refine stE hf hc rfl rfl rfl (eLd1 sc_22 rfl (cell_box m11 rfl)) fun a w hf hc => ?_
                refine cNil ?_
                refine xThenN ?_
                intro ds u hau
                refine ⟨θ, he.put0 hi hau hf rfl 11 rfl rfl, ?_⟩
                try dsimp only
                rw [updE_fls 1 e21 rfl]
                exact hc
              · intro E θ a w hD hi hp he hc
                have hf := he.h0
                replace hf := hf.more he 6 rfl onT
                refine stP hf rfl rfl rfl (pFA fa_30_0 rfl) fun a hf => ?_
                refine cNil ?_
                refine xThenN ?_
                intro ds u hau
                refine ⟨θ, he.put0 hi hau hf rfl 12 rfl rfl, ?_⟩
                exact hc
              · intro E θ a w hD hi hp he hc
                have e2 := hp.of (k := 2) rfl
                have hf := he.h0
                replace hf := hf.more he 12 rfl (onP e2)
                refine stE hf hc rfl rfl rfl (eLd1 sc_3 rfl (cell_box m5 rfl)) fun a w hf hc => ?_
                refine cNil ?_
                refine xThenN ?_
                intro ds u hau
                refine ⟨θ, he.put0 hi hau hf rfl 13 rfl rfl, ?_⟩
                exact hc
              · intro E θ a w hD hi hp he hc
                have e3 := hp.of (k := 3) rfl
                have hf := he.h0
                replace hf := hf.more he 13 rfl (onP e3)
                refine stP hf rfl rfl rfl (pMax2 rfl rfl) fun a hf => ?_
                refine cNil ?_
                refine xThenN ?_
                intro ds u hau
                refine ⟨θ, he.put0 hi hau hf rfl 14 rfl rfl, ?_⟩
                exact hc
              · intro E θ a w hD hi hp he hc
                have hf := he.h0
                replace hf := hf.more he 6 rfl onT
                refine stP hf rfl rfl rfl (pFA fa_30_1 rfl) fun a hf => ?_
                refine cNil ?_
                refine xThenN ?_
                intro ds u hau
                refine ⟨θ, he.put0 hi hau hf rfl 15 rfl rfl, ?_⟩
                exact hc
              · intro E θ a w hD hi hp he hc
                have e5 := hp.of (k := 5) rfl
                have hf := he.h0
                replace hf := hf.more he 15 rfl (onP e5)
                refine stE hf hc rfl rfl rfl (eLd1 sc_3 rfl (cell_box m5 rfl)) fun a w hf hc => ?_
                refine cNil ?_
                refine xThenN ?_
                intro ds u hau
                refine ⟨θ, he.put0 hi hau hf rfl 16 rfl rfl, ?_⟩
                exact hc
              · intro E θ a w hD hi hp he hc
                have e4 := hp.of (k := 4) rfl
                have e6 := hp.of (k := 6) rfl
                have hf := he.h0
                replace hf := hf.more he 14 rfl (onP e4)
                replace hf := hf.more he 16 rfl (onP e6)
                refine stE hf hc rfl rfl rfl (eC (v := .agg #[.bool r_14.Known, .int .i64 r_14.Flow.Lo, .int .i64 r_14.Flow.Hi]) (vs := [.int .i64 (max 0 r_11.1.Lo), .int .i64 r_11.1.Hi]) (caps := []) en_27 rfl rfl rfl rfl (fun w hc => law07_known_ok (max 0 r_11.1.Lo) r_11.1.Hi hc hr_14)) fun a w hf hc => ?_
                refine cNil ?_
                refine xThenN ?_
                intro ds u hau
                refine ⟨θ, he.put0 hi hau hf rfl 17 rfl rfl, ?_⟩
                exact hc
              · intro E θ a w hD hi hp he hc
                have e7 := hp.of (k := 7) rfl
                try dsimp only at hc
                rw [hi] at hc
                have hf := he.h0
                replace hf := hf.more he 17 rfl (onP e7)
                refine stBS (rows := ([r_14] : List daily_Value).map enc_daily_Value) (vs := [(0, .agg #[.bool r_14.Known, .int .i64 r_14.Flow.Lo, .int .i64 r_14.Flow.Hi])]) hf hc rfl rfl sl_22 rfl ⟨rfl, rfl, rfl, trivial⟩ rfl rfl fun b_12 a w hf hc => ?_
                refine cNil ?_
                refine xThenN ?_
                intro ds u hau
                replace hc := hc.drop k2
                replace hc := hc.pick k0
                replace hc := hc.pick k1
                refine ⟨(setT θ 64 ⟨b_12, none, 0⟩), he.put hi hau hf rfl [] trivial ⟨qq, qq, qq, qq, qq, qq, qq, qq, qq, qq, qq, qq, qq, qq, qq, qq, qq, qq, qq, qq, qq, qq, qq, qq, qq, qq, qq, qq, qq, qq, qq, qq, trivial⟩, ?_⟩
                try dsimp only
                rw [updE_self E 8]
                exact hc
              · intro E θ a w hD hi hp he hc
                have e1 := hp.of (k := 1) rfl
                have e8 := hp.of (k := 8) rfl
                have e21 := hD.f 1 rfl hi
                try dsimp only at hc
                rw [e8, hi, e21] at hc
                have hf := he.h0
                replace hf := hf.more he 11 rfl (onP e1)
                replace hf := hf.more he 18 rfl (onP e8)
                refine stApm (xs := x_19) (ys := ([r_14] : List daily_Value)) hf hc rfl rfl sl_22 rfl rfl rfl rfl rfl one_enc_daily_Value (src_row hc m1) (fun _ _ => u8) (by simpa using room_spec hun_1) fun p_21 c_21 a w hf hc => ?_
                refine cNil ?_
                refine xThenN ?_
                intro ds u hau
                refine ⟨(setT θ 72 ⟨0, p_21, c_21⟩), he.put hi hau hf rfl [] trivial ⟨qq, qq, qq, qq, qq, qq, qq, qq, qq, qq, qq, qq, qq, qq, qq, qq, qq, qq, qq, qq, qq, qq, qq, qq, qq, qq, qq, qq, qq, qq, qq, qq, trivial⟩, ?_⟩
                try dsimp only
                rw [updE_tru 9 e8, updE_self E 9, updE_fls 9 e21 rfl]
                exact hc
              · intro E θ a w hD hi hp he hc
                have hf := he.h0
                replace hf := hf.more he 4 rfl onT
                refine stP hf rfl rfl rfl (pFA fa_24_2 rfl) fun a hf => ?_
                refine cNil ?_
                refine xThenN ?_
                intro ds u hau
                refine ⟨θ, he.put0 hi hau hf rfl 20 rfl rfl, ?_⟩
                exact hc
              · intro E θ a w hD hi hp he hc
                have e10 := hp.of (k := 10) rfl
                have e23 := hD.f 2 rfl hi
                try dsimp only at hc
                rw [e23] at hc
                have hf := he.h0
                replace hf := hf.more he 20 rfl (onP e10)
                refine stE hf hc rfl rfl rfl (eLd1 sc_22 rfl (cell_box m10 rfl)) fun a w hf hc => ?_
                refine cNil ?_
                refine xThenN ?_
                intro ds u hau
                refine ⟨θ, he.put0 hi hau hf rfl 21 rfl rfl, ?_⟩
                try dsimp only
                rw [updE_fls 11 e23 rfl]
                exact hc
              · intro E θ a w hD hi hp he hc
                have hf := he.h0
                replace hf := hf.more he 7 rfl onT
                refine stP hf rfl rfl rfl (pFA fa_30_0 rfl) fun a hf => ?_
                refine cNil ?_
                refine xThenN ?_
                intro ds u hau
                refine ⟨θ, he.put0 hi hau hf rfl 22 rfl rfl, ?_⟩
                exact hc
              · intro E θ a w hD hi hp he hc
                have e12 := hp.of (k := 12) rfl
                have hf := he.h0
                replace hf := hf.more he 22 rfl (onP e12)
                refine stE hf hc rfl rfl rfl (eLd1 sc_3 rfl (cell_box m4 rfl)) fun a w hf hc => ?_
                refine cNil ?_
                refine xThenN ?_
                intro ds u hau
                refine ⟨θ, he.put0 hi hau hf rfl 23 rfl rfl, ?_⟩
                exact hc
              · intro E θ a w hD hi hp he hc
                have e13 := hp.of (k := 13) rfl
                have hf := he.h0
                replace hf := hf.more he 23 rfl (onP e13)
                refine stP hf rfl rfl rfl (pMax2 rfl rfl) fun a hf => ?_
                refine cNil ?_
                refine xThenN ?_
                intro ds u hau
                refine ⟨θ, he.put0 hi hau hf rfl 24 rfl rfl, ?_⟩
                exact hc
              · intro E θ a w hD hi hp he hc
                have hf := he.h0
                replace hf := hf.more he 7 rfl onT
                refine stP hf rfl rfl rfl (pFA fa_30_1 rfl) fun a hf => ?_
                refine cNil ?_
                refine xThenN ?_
                intro ds u hau
                refine ⟨θ, he.put0 hi hau hf rfl 25 rfl rfl, ?_⟩
                exact hc
              · intro E θ a w hD hi hp he hc
                have e15 := hp.of (k := 15) rfl
                have hf := he.h0
                replace hf := hf.more he 25 rfl (onP e15)
                refine stE hf hc rfl rfl rfl (eLd1 sc_3 rfl (cell_box m4 rfl)) fun a w hf hc => ?_
                refine cNil ?_
                refine xThenN ?_
                intro ds u hau
                refine ⟨θ, he.put0 hi hau hf rfl 26 rfl rfl, ?_⟩
                exact hc
              · intro E θ a w hD hi hp he hc
                have e14 := hp.of (k := 14) rfl
                have e16 := hp.of (k := 16) rfl
                have hf := he.h0
                replace hf := hf.more he 24 rfl (onP e14)
                replace hf := hf.more he 26 rfl (onP e16)
                refine stE hf hc rfl rfl rfl (eC (v := .agg #[.bool r_15.Known, .int .i64 r_15.Flow.Lo, .int .i64 r_15.Flow.Hi]) (vs := [.int .i64 (max 0 r_12.1.Lo), .int .i64 r_12.1.Hi]) (caps := []) en_27 rfl rfl rfl rfl (fun w hc => law07_known_ok (max 0 r_12.1.Lo) r_12.1.Hi hc hr_15)) fun a w hf hc => ?_
                refine cNil ?_
                refine xThenN ?_
                intro ds u hau
                refine ⟨θ, he.put0 hi hau hf rfl 27 rfl rfl, ?_⟩
                exact hc
              · intro E θ a w hD hi hp he hc
                have e17 := hp.of (k := 17) rfl
                try dsimp only at hc
                rw [hi] at hc
                have hf := he.h0
                replace hf := hf.more he 27 rfl (onP e17)
                refine stBS (rows := ([r_15] : List daily_Value).map enc_daily_Value) (vs := [(0, .agg #[.bool r_15.Known, .int .i64 r_15.Flow.Lo, .int .i64 r_15.Flow.Hi])]) hf hc rfl rfl sl_22 rfl ⟨rfl, rfl, rfl, trivial⟩ rfl rfl fun b_13 a w hf hc => ?_
                refine cNil ?_
                refine xThenN ?_
                intro ds u hau
                replace hc := hc.drop k1
                refine ⟨(setT θ 144 ⟨b_13, none, 0⟩), he.put hi hau hf rfl [] trivial ⟨qq, qq, qq, qq, qq, qq, qq, qq, qq, qq, qq, qq, qq, qq, qq, qq, qq, qq, qq, qq, qq, qq, qq, qq, qq, qq, qq, qq, qq, qq, qq, qq, trivial⟩, ?_⟩
                try dsimp only
                rw [updE_self E 18]
                exact hc
              · intro E θ a w hD hi hp he hc
                have e11 := hp.of (k := 11) rfl
                have e18 := hp.of (k := 18) rfl
                have e23 := hD.f 3 rfl hi
                try dsimp only at hc
                rw [e18, hi, e23] at hc
                have hf := he.h0
                replace hf := hf.more he 21 rfl (onP e11)
                replace hf := hf.more he 28 rfl (onP e18)
                refine stApm (xs := x_20) (ys := ([r_15] : List daily_Value)) hf hc rfl rfl sl_22 rfl rfl rfl rfl rfl one_enc_daily_Value (src_row hc m0) (fun _ _ => u7) (by simpa using room_spec hun_2) fun p_22 c_22 a w hf hc => ?_
                refine cNil ?_
                refine xThenN ?_
                intro ds u hau
                refine ⟨(setT θ 152 ⟨0, p_22, c_22⟩), he.put hi hau hf rfl [] trivial ⟨qq, qq, qq, qq, qq, qq, qq, qq, qq, qq, qq, qq, qq, qq, qq, qq, qq, qq, qq, qq, qq, qq, qq, qq, qq, qq, qq, qq, qq, qq, qq, qq, trivial⟩, ?_⟩
                try dsimp only
                rw [updE_tru 19 e18, updE_self E 19, updE_fls 19 e23 rfl]
                exact hc
              · intro E θ a w hD hi hp he hc
                have hf := he.h0
                replace hf := hf.more he 3 rfl onT
                refine stP hf rfl rfl rfl (pFA fa_24_2 rfl) fun a hf => ?_
                refine cNil ?_
                refine xThenN ?_
                intro ds u hau
                refine ⟨θ, he.put0 hi hau hf rfl 30 rfl rfl, ?_⟩
                exact hc
              · intro E θ a w hD hi hp he hc
                have e9 := hp.of (k := 9) rfl
                have e20 := hp.of (k := 20) rfl
                try dsimp only at hc
                rw [hi] at hc
                have hf := he.h0
                replace hf := hf.more he 19 rfl (onP e9)
                replace hf := hf.more he 30 rfl (onP e20)
                refine stSt (vs := [.slice ((θ 72).p) ((x_19 ++ [r_14]).length) ((θ 72).c)]) hf hc rfl rfl rfl rfl sz_22 rfl rfl u11 fun w hc => ?_
                refine cNil ?_
                refine xThenN ?_
                intro ds u hau
                refine ⟨θ, he.stay0 hi hau hf rfl, ?_⟩
                try dsimp only
                rw [updE_self E 21]
                exact hc
              · intro E θ a w hD hi hp he hc
                have hf := he.h0
                replace hf := hf.more he 4 rfl onT
                refine stP hf rfl rfl rfl (pFA fa_24_2 rfl) fun a hf => ?_
                refine cNil ?_
                refine xThenN ?_
                intro ds u hau
                refine ⟨θ, he.put0 hi hau hf rfl 31 rfl rfl, ?_⟩
                exact hc
              · intro E θ a w hD hi hp he hc
                have e19 := hp.of (k := 19) rfl
                have e22 := hp.of (k := 22) rfl
                try dsimp only at hc
                rw [hi] at hc
                have hf := he.h0
                replace hf := hf.more he 29 rfl (onP e19)
                replace hf := hf.more he 31 rfl (onP e22)
                refine stSt (vs := [.slice ((θ 152).p) ((x_20 ++ [r_15]).length) ((θ 152).c)]) hf hc rfl rfl rfl rfl sz_22 rfl rfl u10 fun w hc => ?_
                refine cNil ?_
                refine xThenN ?_
                intro ds u hau
                refine ⟨θ, he.stay0 hi hau hf rfl, ?_⟩
                try dsimp only
                rw [updE_self E 23]
                exact hc
              · intro E θ a w hall he hc
                have hf := he.h0
                have e8 := hall 8 rfl
                have e9 := hall 9 rfl
                have e18 := hall 18 rfl
                have e19 := hall 19 rfl
                have e21 := hall 21 rfl
                have e23 := hall 23 rfl
                replace hf := hf.more he 9 rfl (onT)
                replace hf := hf.more he 8 rfl (onT)
                replace hf := hf.more he 5 rfl (onT)
                replace hf := hf.more he 4 rfl (onT)
                replace hf := hf.more he 3 rfl (onT)
                replace hf := hf.more he 2 rfl (onT)
                replace hf := hf.more he 1 rfl (onT)
                replace hf := hf.more he 0 rfl (onT)
                try dsimp only at hc
                rw [e8, e9, e18, e19, e21, e23] at hc
                exact ⟨(θ 144).b, (θ 64).b, (θ 152).p, (θ 152).c, (θ 72).p, (θ 72).c, hf.keep ⟨rfl, rfl, rfl, rfl, rfl, rfl, rfl, rfl, trivial⟩, hc⟩
              rintro a w ⟨b_14, b_15, p_23, c_23, p_24, c_24, hf, hc⟩
              refine h26 _ _ ?_
              refine cReg ?_
              refine stP hf rfl rfl rfl (pAdd rfl rfl) fun a hf => ?_
              refine stP hf rfl rfl rfl (pM rfl) fun a hf => ?_
              refine cNil ?_
              replace hc := hc.drop k5
              replace hc := hc.drop k4
              replace hc := hc.drop k2
              replace hc := hc.drop k1
              replace hc := hc.drop k0
              replace hc := hc.pick k1
              replace hc := hc.pick k7
              replace hc := hc.pick k7
              replace hc := hc.pick k7
              replace hc := hc.pick k4
              replace hc := hc.pick k7
              replace hc := hc.pick k7
              replace hc := hc.pick k7
              exact hK7 ((truth_1 ++ [r_10.1]), W (x + 1), r_13.2.1, r_13.2.2, r_8.2.1, r_8.2.2, x_15, x_16, x_21, x_22, (x_19 ++ [r_14]), (x_20 ++ [r_15])) _ _ (Option.some.inj hF).symm ⟨p_20, c_20, p_24, c_24, p_23, c_23, hf.keep ⟨rfl, rfl, rfl, rfl, rfl, rfl, rfl, rfl, trivial⟩, hc⟩
            refine wp_seq_k fun K47 h47 => ?_
            refine cReg ?_
            refine stP hf rfl rfl rfl (pM rfl) fun a hf => ?_
            refine stP hf rfl rfl rfl (pLenS Try.underlying39 rfl) fun a hf => ?_
            refine stP hf rfl rfl rfl (pA rfl) fun a hf => ?_
            refine cNil ?_
            refine h47 _ _ ?_
            refine wp_seq_k fun K48 h48 => ?_
            refine cReg ?_
            refine stP hf rfl rfl rfl (pM rfl) fun a hf => ?_
            refine stP hf rfl rfl rfl (pGt rfl rfl) fun a hf => ?_
            refine cNil ?_
            refine h48 _ _ ?_
            refine cCond (b := (decide (0 < ((truth_1.length : Nat) : Int)))) hf rfl (fun hb => ?_) (fun hb => ?_)
            · replace hF := condT hb hF
              clear hb
              obtain ⟨e_8, he_8, hF⟩ := bnd_some hF
              obtain ⟨g_4, rfl, qa_7, qr_7⟩ := row_atm hc m6 he_8
              obtain ⟨e_9, he_9, hF⟩ := bnd_some hF
              obtain ⟨qa_8, qr_8⟩ := row_atk hc m6 he_9
              refine regionE (fun θ => (⟨none, none, 7, .pointer (some ⟨b_1, 0, none⟩)⟩ :: ⟨none, none, 8, .pointer (some ⟨b_2, 0, none⟩)⟩ :: ⟨none, none, 9, .pointer (some ⟨b_3, 0, none⟩)⟩ :: ⟨none, none, 10, .pointer (some ⟨b_4, 0, none⟩)⟩ :: ⟨none, none, 11, .pointer (some ⟨b_5, 0, none⟩)⟩ :: ⟨none, none, 12, .slice (some ⟨g_4, 0, none⟩) truth_1.length c_16⟩ :: ⟨none, none, 18, .int .i64 r_10.1⟩ :: ⟨none, none, 20, .pointer (some ⟨b_9, 0, none⟩)⟩ :: ⟨none, none, 22, .pointer (some ⟨b_10, 0, none⟩)⟩ :: ⟨none, none, 24, .int .i64 ((truth_1.length : Nat) : Int)⟩ :: ⟨none, none, 38, .int .i64 r_3.1⟩ :: ⟨none, none, 39, .int .i64 x⟩ :: ⟨some 0, none, 179, .pointer (some ⟨b_4, 0, none⟩)⟩ :: ⟨some 1, none, 180, .int .i64 x_7⟩ :: ⟨some 2, none, 181, .int .i64 r_10.1⟩ :: ⟨some 3, none, 182, .slice (some ⟨g_4, 0, none⟩) truth_1.length c_16⟩ :: ⟨some 4, none, 183, .int .i64 ((truth_1.length : Nat) : Int)⟩ :: ⟨some 5, none, 184, .int .i64 (W (((truth_1.length : Nat) : Int) - 1))⟩ :: ⟨some 6, none, 185, .pointer (some ⟨g_4, (W (((truth_1.length : Nat) : Int) - 1)).toNat * 1, none⟩)⟩ :: ⟨some 7, none, 186, .int .i64 e_8⟩ :: ⟨some 8, none, 187, .int .i64 (W (r_10.1 - e_8))⟩ :: ⟨some 9, none, 188, .int .i64 (max x_7 (W (r_10.1 - e_8)))⟩ :: ⟨some 10, none, 189, .pointer (some ⟨b_4, 1, none⟩)⟩ :: ⟨some 11, none, 190, .int .i64 x_8⟩ :: ⟨some 12, none, 191, .slice (some ⟨g_4, 0, none⟩) truth_1.length c_16⟩ :: ⟨some 13, none, 192, .int .i64 ((truth_1.length : Nat) : Int)⟩ :: ⟨some 14, none, 193, .int .i64 (W (((truth_1.length : Nat) : Int) - 1))⟩ :: ⟨some 15, none, 194, .pointer (some ⟨g_4, (W (((truth_1.length : Nat) : Int) - 1)).toNat * 1, none⟩)⟩ :: ⟨some 16, none, 195, .int .i64 e_9⟩ :: ⟨some 17, none, 196, .int .i64 r_10.1⟩ :: ⟨some 18, none, 197, .int .i64 (W (e_9 - r_10.1))⟩ :: ⟨some 19, none, 198, .int .i64 (max x_8 (W (e_9 - r_10.1)))⟩ :: ⟨some 20, none, 199, .pointer (some ⟨b_4, 0, none⟩)⟩ :: ⟨some 22, none, 200, .pointer (some ⟨b_4, 1, none⟩)⟩ :: [])) (fun E θ => .box b_1 [.slice numbers_p numbers.length numbers_c, .int .i64 r_13.2.1, .int .i64 r_13.2.2] 135 :: .box b_10 [.int .i64 r_12.1.Lo, .int .i64 r_12.1.Hi] 30 :: .box b_9 [.int .i64 r_11.1.Lo, .int .i64 r_11.1.Hi] 30 :: .box b_2 [.slice errors_p errors.length errors_c, .int .i64 r_8.2.1, .int .i64 r_8.2.2] 135 :: .row p_18 c_18 (x_20.map enc_daily_Value) 56 3 :: .row p_17 c_17 (x_19.map enc_daily_Value) 56 3 :: .row (some ⟨g_4, 0, none⟩) c_16 (truth_1.map encI_i64) 3 1 :: .box b_5 [.int .i64 0, .int .i64 0, .slice p_18 x_20.length c_18] 24 :: (bif E 23 then .box b_4 [.int .i64 (max x_7 (W (r_10.1 - e_8))), .int .i64 (max x_8 (W (e_9 - r_10.1))), .slice p_17 x_19.length c_17] 24 else bif E 21 then .box b_4 [.int .i64 (max x_7 (W (r_10.1 - e_8))), .int .i64 x_8, .slice p_17 x_19.length c_17] 24 else .box b_4 [.int .i64 x_7, .int .i64 x_8, .slice p_17 x_19.length c_17] 24) :: .box b_3 [.slice better_p better.length better_c, .int .i64 x_15, .int .i64 x_16] 135 :: Lf) [(21, 1), (23, 1), (21, 11), (23, 11), (23, 21)] (fun a w => Has 315 a [(7, .pointer (some ⟨b_1, 0, none⟩)), (8, .pointer (some ⟨b_2, 0, none⟩)), (9, .pointer (some ⟨b_3, 0, none⟩)), (10, .pointer (some ⟨b_4, 0, none⟩)), (11, .pointer (some ⟨b_5, 0, none⟩)), (12, .slice (some ⟨g_4, 0, none⟩) truth_1.length c_16), (18, .int .i64 r_10.1), (20, .pointer (some ⟨b_9, 0, none⟩)), (22, .pointer (some ⟨b_10, 0, none⟩)), (38, .int .i64 r_3.1), (39, .int .i64 x)] ∧ Ctx G (.box b_1 [.slice numbers_p numbers.length numbers_c, .int .i64 r_13.2.1, .int .i64 r_13.2.2] 135 :: .box b_10 [.int .i64 r_12.1.Lo, .int .i64 r_12.1.Hi] 30 :: .box b_9 [.int .i64 r_11.1.Lo, .int .i64 r_11.1.Hi] 30 :: .box b_2 [.slice errors_p errors.length errors_c, .int .i64 r_8.2.1, .int .i64 r_8.2.2] 135 :: .row p_18 c_18 (x_20.map enc_daily_Value) 56 3 :: .row p_17 c_17 (x_19.map enc_daily_Value) 56 3 :: .row (some ⟨g_4, 0, none⟩) c_16 (truth_1.map encI_i64) 3 1 :: .box b_5 [.int .i64 0, .int .i64 0, .slice p_18 x_20.length c_18] 24 :: .box b_4 [.int .i64 (max x_7 (W (r_10.1 - e_8))), .int .i64 (max x_8 (W (e_9 - r_10.1))), .slice p_17 x_19.length c_17] 24 :: .box b_3 [.slice better_p better.length better_c, .int .i64 x_15, .int .i64 x_16] 135 :: Lf) w) follows_mx (by kernel_rfl) (by kernel_rfl) (HasE.of hf ⟨rfl, rfl, rfl, rfl, rfl, rfl, rfl, rfl, rfl, rfl, rfl, rfl, trivial, trivial, trivial, trivial, trivial, trivial, trivial, trivial, trivial, trivial, trivial, trivial, trivial, trivial, trivial, trivial, trivial, trivial, trivial, trivial, trivial, trivial, trivial⟩) hc ⟨?_, ?_, ?_, ?_, ?_, ?_, ?_, ?_, ?_, ?_, ?_, ?_, ?_, ?_, ?_, ?_, ?_, ?_, ?_, ?_, ?_, ?_, ?_, ?_, trivial⟩ ?_ ?_
              · intro E θ a w hD hi hp he hc
                have hf := he.h0
                replace hf := hf.more he 3 rfl onT
                refine stP hf rfl rfl rfl (pFA fa_24_0 rfl) fun a hf => ?_
                refine cNil ?_
                refine xThenN ?_
                intro ds u hau
                refine ⟨θ, he.put0 hi hau hf rfl 12 rfl rfl, ?_⟩
                exact hc
              · intro E θ a w hD hi hp he hc
                have e0 := hp.of (k := 0) rfl
                have e21 := hD.f 0 rfl hi
                have e23 := hD.f 1 rfl hi
                try dsimp only at hc
                rw [e21, e23] at hc
                have hf := he.h0
                replace hf := hf.more he 12 rfl (onP e0)
                refine stE hf hc rfl rfl rfl (eLd1 sc_3 rfl (cell_box m8 rfl)) fun a w hf hc => ?_
                refine cNil ?_
                refine xThenN ?_
                intro ds u hau
                refine ⟨θ, he.put0 hi hau hf rfl 13 rfl rfl, ?_⟩
                try dsimp only
                rw [updE_fls 1 e21 rfl, updE_fls 1 e23 rfl]
                exact hc
              · intro E θ a w hD hi hp he hc
                have hf := he.h0
                replace hf := hf.more he 6 rfl onT
                refine stP hf rfl rfl rfl (pM rfl) fun a hf => ?_
                refine cNil ?_
                refine xThenN ?_
                intro ds u hau
                refine ⟨θ, he.put0 hi hau hf rfl 14 rfl rfl, ?_⟩
                exact hc
              · intro E θ a w hD hi hp he hc
                have hf := he.h0
                replace hf := hf.more he 5 rfl onT
                refine stP hf rfl rfl rfl (pM rfl) fun a hf => ?_
                refine cNil ?_
                refine xThenN ?_
                intro ds u hau
                refine ⟨θ, he.put0 hi hau hf rfl 15 rfl rfl, ?_⟩
                exact hc
              · intro E θ a w hD hi hp he hc
                have hf := he.h0
                replace hf := hf.more he 9 rfl onT
                refine stP hf rfl rfl rfl (pM rfl) fun a hf => ?_
                refine cNil ?_
                refine xThenN ?_
                intro ds u hau
                refine ⟨θ, he.put0 hi hau hf rfl 16 rfl rfl, ?_⟩
                exact hc
              · intro E θ a w hD hi hp he hc
                have e4 := hp.of (k := 4) rfl
                have hf := he.h0
                replace hf := hf.more he 16 rfl (onP e4)
                refine stP hf rfl rfl rfl (pSub rfl rfl) fun a hf => ?_
                refine cNil ?_
                refine xThenN ?_
                intro ds u hau
                refine ⟨θ, he.put0 hi hau hf rfl 17 rfl rfl, ?_⟩
                exact hc
              · intro E θ a w hD hi hp he hc
                have e3 := hp.of (k := 3) rfl
                have e5 := hp.of (k := 5) rfl
                have hf := he.h0
                replace hf := hf.more he 15 rfl (onP e3)
                replace hf := hf.more he 17 rfl (onP e5)
                refine stP hf rfl rfl rfl (pIA Try.underlying39 sz_3 rfl rfl qa_7) fun a hf => ?_
                refine cNil ?_
                refine xThenN ?_
                intro ds u hau
                refine ⟨θ, he.put0 hi hau hf rfl 18 rfl rfl, ?_⟩
                exact hc
              · intro E θ a w hD hi hp he hc
                have e6 := hp.of (k := 6) rfl
                have hf := he.h0
                replace hf := hf.more he 18 rfl (onP e6)
                refine stE hf hc rfl rfl rfl (eLd1 sc_3 rfl (cell_row (sz := 1) (i := (W (((truth_1.length : Nat) : Int) - 1)).toNat) (j := 0) m6 qr_7 rfl)) fun a w hf hc => ?_
                refine cNil ?_
                refine xThenN ?_
                intro ds u hau
                refine ⟨θ, he.put0 hi hau hf rfl 19 rfl rfl, ?_⟩
                exact hc
              · intro E θ a w hD hi hp he hc
                have e2 := hp.of (k := 2) rfl
                have e7 := hp.of (k := 7) rfl
                have hf := he.h0
                replace hf := hf.more he 14 rfl (onP e2)
                replace hf := hf.more he 19 rfl (onP e7)
                refine stP hf rfl rfl rfl (pSub rfl rfl) fun a hf => ?_
                refine cNil ?_
                refine xThenN ?_
                intro ds u hau
                refine ⟨θ, he.put0 hi hau hf rfl 20 rfl rfl, ?_⟩
                exact hc
              · intro E θ a w hD hi hp he hc
                have e1 := hp.of (k := 1) rfl
                have e8 := hp.of (k := 8) rfl
                have hf := he.h0
                replace hf := hf.more he 13 rfl (onP e1)
                replace hf := hf.more he 20 rfl (onP e8)
                refine stP hf rfl rfl rfl (pMax2 rfl rfl) fun a hf => ?_
                refine cNil ?_
                refine xThenN ?_
                intro ds u hau
                refine ⟨θ, he.put0 hi hau hf rfl 21 rfl rfl, ?_⟩
                exact hc
              · intro E θ a w hD hi hp he hc
                have hf := he.h0
                replace hf := hf.more he 3 rfl onT
                refine stP hf rfl rfl rfl (pFA fa_24_1 rfl) fun a hf => ?_
                refine cNil ?_
                refine xThenN ?_
                intro ds u hau
                refine ⟨θ, he.put0 hi hau hf rfl 22 rfl rfl, ?_⟩
                exact hc
              · intro E θ a w hD hi hp he hc
                have e10 := hp.of (k := 10) rfl
                have e21 := hD.f 2 rfl hi
                have e23 := hD.f 3 rfl hi
                try dsimp only at hc
                rw [e21, e23] at hc
                have hf := he.h0
                replace hf := hf.more he 22 rfl (onP e10)
                refine stE hf hc rfl rfl rfl (eLd1 sc_3 rfl (cell_box m8 rfl)) fun a w hf hc => ?_
                refine cNil ?_
                refine xThenN ?_
                intro ds u hau
                refine ⟨θ, he.put0 hi hau hf rfl 23 rfl rfl, ?_⟩
                try dsimp only
                rw [updE_fls 11 e21 rfl, updE_fls 11 e23 rfl]
                exact hc
              · intro E θ a w hD hi hp he hc
                have hf := he.h0
                replace hf := hf.more he 5 rfl onT
                refine stP hf rfl rfl rfl (pM rfl) fun a hf => ?_
                refine cNil ?_
                refine xThenN ?_
                intro ds u hau
                refine ⟨θ, he.put0 hi hau hf rfl 24 rfl rfl, ?_⟩
                exact hc
              · intro E θ a w hD hi hp he hc
                have hf := he.h0
                replace hf := hf.more he 9 rfl onT
                refine stP hf rfl rfl rfl (pM rfl) fun a hf => ?_
                refine cNil ?_
                refine xThenN ?_
                intro ds u hau
                refine ⟨θ, he.put0 hi hau hf rfl 25 rfl rfl, ?_⟩
                exact hc
              · intro E θ a w hD hi hp he hc
                have e13 := hp.of (k := 13) rfl
                have hf := he.h0
                replace hf := hf.more he 25 rfl (onP e13)
                refine stP hf rfl rfl rfl (pSub rfl rfl) fun a hf => ?_
                refine cNil ?_
                refine xThenN ?_
                intro ds u hau
                refine ⟨θ, he.put0 hi hau hf rfl 26 rfl rfl, ?_⟩
                exact hc
              · intro E θ a w hD hi hp he hc
                have e12 := hp.of (k := 12) rfl
                have e14 := hp.of (k := 14) rfl
                have hf := he.h0
                replace hf := hf.more he 24 rfl (onP e12)
                replace hf := hf.more he 26 rfl (onP e14)
                refine stP hf rfl rfl rfl (pIA Try.underlying39 sz_3 rfl rfl qa_8) fun a hf => ?_
                refine cNil ?_
                refine xThenN ?_
                intro ds u hau
                refine ⟨θ, he.put0 hi hau hf rfl 27 rfl rfl, ?_⟩
                exact hc
              · intro E θ a w hD hi hp he hc
                have e15 := hp.of (k := 15) rfl
                have hf := he.h0
                replace hf := hf.more he 27 rfl (onP e15)
                refine stE hf hc rfl rfl rfl (eLd1 sc_3 rfl (cell_row (sz := 1) (i := (W (((truth_1.length : Nat) : Int) - 1)).toNat) (j := 0) m6 qr_8 rfl)) fun a w hf hc => ?_
                refine cNil ?_
                refine xThenN ?_
                intro ds u hau
                refine ⟨θ, he.put0 hi hau hf rfl 28 rfl rfl, ?_⟩
                exact hc
              · intro E θ a w hD hi hp he hc
                have hf := he.h0
                replace hf := hf.more he 6 rfl onT
                refine stP hf rfl rfl rfl (pM rfl) fun a hf => ?_
                refine cNil ?_
                refine xThenN ?_
                intro ds u hau
                refine ⟨θ, he.put0 hi hau hf rfl 29 rfl rfl, ?_⟩
                exact hc
              · intro E θ a w hD hi hp he hc
                have e16 := hp.of (k := 16) rfl
                have e17 := hp.of (k := 17) rfl
                have hf := he.h0
                replace hf := hf.more he 28 rfl (onP e16)
                replace hf := hf.more he 29 rfl (onP e17)
                refine stP hf rfl rfl rfl (pSub rfl rfl) fun a hf => ?_
                refine cNil ?_
                refine xThenN ?_
                intro ds u hau
                refine ⟨θ, he.put0 hi hau hf rfl 30 rfl rfl, ?_⟩
                exact hc
              · intro E θ a w hD hi hp he hc
                have e11 := hp.of (k := 11) rfl
                have e18 := hp.of (k := 18) rfl
                have hf := he.h0
                replace hf := hf.more he 23 rfl (onP e11)
                replace hf := hf.more he 30 rfl (onP e18)
                refine stP hf rfl rfl rfl (pMax2 rfl rfl) fun a hf => ?_
                refine cNil ?_
                refine xThenN ?_
                intro ds u hau
                refine ⟨θ, he.put0 hi hau hf rfl 31 rfl rfl, ?_⟩
                exact hc
              · intro E θ a w hD hi hp he hc
                have hf := he.h0
                replace hf := hf.more he 3 rfl onT
                refine stP hf rfl rfl rfl (pFA fa_24_0 rfl) fun a hf => ?_
                refine cNil ?_
                refine xThenN ?_
                intro ds u hau
                refine ⟨θ, he.put0 hi hau hf rfl 32 rfl rfl, ?_⟩
                exact hc
              · intro E θ a w hD hi hp he hc
                have e9 := hp.of (k := 9) rfl
                have e20 := hp.of (k := 20) rfl
                have e23 := hD.f 4 rfl hi
                try dsimp only at hc
                rw [hi, e23] at hc
                have hf := he.h0
                replace hf := hf.more he 21 rfl (onP e9)
                replace hf := hf.more he 32 rfl (onP e20)
                refine stSt (vs := [.int .i64 (max x_7 (W (r_10.1 - e_8)))]) hf hc rfl rfl rfl rfl sz_3 rfl rfl u8 fun w hc => ?_
                refine cNil ?_
                refine xThenN ?_
                intro ds u hau
                refine ⟨θ, he.stay0 hi hau hf rfl, ?_⟩
                try dsimp only
                rw [updE_self E 21, updE_fls 21 e23 rfl]
                exact hc
              · intro E θ a w hD hi hp he hc
                have hf := he.h0
                replace hf := hf.more he 3 rfl onT
                refine stP hf rfl rfl rfl (pFA fa_24_1 rfl) fun a hf => ?_
                refine cNil ?_
                refine xThenN ?_
                intro ds u hau
                refine ⟨θ, he.put0 hi hau hf rfl 33 rfl rfl, ?_⟩
                exact hc
              · intro E θ a w hD hi hp he hc
                have e19 := hp.of (k := 19) rfl
                have e22 := hp.of (k := 22) rfl
                have e21 := hp.of (k := 21) rfl
                try dsimp only at hc
                rw [e21, hi] at hc
                have hf := he.h0
                replace hf := hf.more he 31 rfl (onP e19)
                replace hf := hf.more he 33 rfl (onP e22)
                refine stSt (vs := [.int .i64 (max x_8 (W (e_9 - r_10.1)))]) hf hc rfl rfl rfl rfl sz_3 rfl rfl u8 fun w hc => ?_
                refine cNil ?_
                refine xThenN ?_
                intro ds u hau
                refine ⟨θ, he.stay0 hi hau hf rfl, ?_⟩
                try dsimp only
                rw [updE_tru 23 e21, updE_self E 23]
                exact hc
              · intro E θ a w hall he hc
                have hf := he.h0
                have e21 := hall 21 rfl
                have e23 := hall 23 rfl
                replace hf := hf.more he 11 rfl (onT)
                replace hf := hf.more he 10 rfl (onT)
                replace hf := hf.more he 8 rfl (onT)
                replace hf := hf.more he 7 rfl (onT)
                replace hf := hf.more he 6 rfl (onT)
                replace hf := hf.more he 5 rfl (onT)
                replace hf := hf.more he 4 rfl (onT)
                replace hf := hf.more he 3 rfl (onT)
                replace hf := hf.more he 2 rfl (onT)
                replace hf := hf.more he 1 rfl (onT)
                replace hf := hf.more he 0 rfl (onT)
                try dsimp only at hc
                rw [e21, e23] at hc
                exact ⟨hf.keep ⟨rfl, rfl, rfl, rfl, rfl, rfl, rfl, rfl, rfl, rfl, rfl, trivial⟩, hc⟩
              rintro a w ⟨hf, hc⟩
              exact hj45 (max x_7 (W (r_10.1 - e_8))) (max x_8 (W (e_9 - r_10.1))) (some ⟨g_4, 0, none⟩) c_16 _ _  (hf.keep ⟨rfl, rfl, rfl, rfl, rfl, rfl, rfl, rfl, rfl, rfl, rfl, trivial⟩) hc hF
            · replace hF := condF hb hF
              clear hb
              refine wp_skip ?_
              exact hj45 x_7 x_8 p_16 c_16 _ _  (hf.keep ⟨rfl, rfl, rfl, rfl, rfl, rfl, rfl, rfl, rfl, rfl, rfl, trivial⟩) hc hF
          have ho44 : ∀ r, x44 = .out r → r = st7 := by
            rintro r rfl
            exact Option.some.inj hF
          replace hc := hc.drop k11
          replace hc := hc.drop k9
          replace hc := hc.drop k8
          replace hc := hc.drop k7
          replace hc := hc.drop k6
          replace hc := hc.drop k5
          replace hc := hc.drop k4
          replace hc := hc.drop k3
          refine cLoop N (loopW (S := S44) (x := x44) ?_ N (truth, 0, x_9, x_10) _ _ ⟨p_1, c_1, p_2, c_2, p_3, c_3, hf.keep ⟨rfl, rfl, rfl, rfl, rfl, rfl, rfl, rfl, rfl, rfl, rfl, rfl, rfl, trivial⟩, hc⟩ hx44)
          clear hF hf hc
          rintro ⟨truth_1, x_18, x_19, x_20⟩ st44 a w KB44 ⟨p_16, c_16, p_17, c_17, p_18, c_18, hf, hc⟩ hF hfin44 hK44
          unfold law07_DailyGauged_b44 at hF
          refine wp_seq_k fun K49 h49 => ?_
          refine cReg ?_
          refine stP hf rfl rfl rfl (pLt rfl rfl) fun a hf => ?_
          refine cNil ?_
          refine h49 _ _ ?_
          refine wp_seq_k fun K50 h50 => ?_
          refine cCond (b := (decide (x_18 < r_13.1))) hf rfl (fun hb => ?_) (fun hb => ?_)
          · replace hF := condT hb hF
            clear hb
            refine wp_skip ?_
            refine h50 _ _ ?_
            refine wp_seq_k fun K51 h51 => ?_
            have hj51 : ∀ (truth_2 : List Int) (x_23 : List daily_Value) (x_24 : List daily_Value) (p_25 : Option Addr) (c_25 : Nat) (p_26 : Option Addr) (c_26 : Nat) (p_27 : Option Addr) (c_27 : Nat) a w, Has 315 a [(7, .pointer (some ⟨b_1, 0, none⟩)), (8, .pointer (some ⟨b_2, 0, none⟩)), (9, .pointer (some ⟨b_3, 0, none⟩)), (10, .pointer (some ⟨b_4, 0, none⟩)), (11, .pointer (some ⟨b_5, 0, none⟩)), (12, .slice p_25 truth_2.length c_25), (18, .int .i64 r_10.1), (20, .pointer (some ⟨b_9, 0, none⟩)), (22, .pointer (some ⟨b_10, 0, none⟩)), (38, .int .i64 r_3.1), (39, .int .i64 x), (147, .int .i64 r_13.1), (148, .int .i64 x_18)] → Ctx G (.box b_1 [.slice numbers_p numbers.length numbers_c, .int .i64 r_13.2.1, .int .i64 r_13.2.2] 135 :: .box b_10 [.int .i64 r_12.1.Lo, .int .i64 r_12.1.Hi] 30 :: .box b_9 [.int .i64 r_11.1.Lo, .int .i64 r_11.1.Hi] 30 :: .box b_2 [.slice errors_p errors.length errors_c, .int .i64 r_8.2.1, .int .i64 r_8.2.2] 135 :: .row p_27 c_27 (x_24.map enc_daily_Value) 56 3 :: .row p_26 c_26 (x_23.map enc_daily_Value) 56 3 :: .row p_25 c_25 (truth_2.map encI_i64) 3 1 :: .box b_5 [.int .i64 0, .int .i64 0, .slice p_27 x_24.length c_27] 24 :: .box b_4 [.int .i64 x_7, .int .i64 x_8, .slice p_26 x_23.length c_26] 24 :: .box b_3 [.slice better_p better.length better_c, .int .i64 x_15, .int .i64 x_16] 135 :: Lf) w → law07_DailyGauged_j51 N x_18 truth_2 x_23 x_24 = some st44 → K51 a w := by
              repeat (clear hF)
              repeat (clear hc)
              repeat (clear hf)
              intro truth_2 x_23 x_24 p_25 c_25 p_26 c_26 p_27 c_27 a w hf hc hF
              unfold law07_DailyGauged_j51 at hF
              refine h51 _ _ ?_
              refine cReg ?_
              refine stP hf rfl rfl rfl (pAdd rfl rfl) fun a hf => ?_
              refine stP hf rfl rfl rfl (pM rfl) fun a hf => ?_
              refine cNil ?_
              exact hK44 (truth_2, W (x_18 + 1), x_23, x_24) _ _ (Option.some.inj hF).symm ⟨p_25, c_25, p_26, c_26, p_27, c_27, hf.keep ⟨rfl, rfl, rfl, rfl, rfl, rfl, rfl, rfl, rfl, rfl, rfl, rfl, rfl, trivial⟩, hc⟩
            refine wp_block ?_
            refine wp_seq_k fun K52 h52 => ?_
            refine cReg ?_
            refine stP hf rfl rfl rfl (pM rfl) fun a hf => ?_
            refine stP hf rfl rfl rfl (pLenS Try.underlying39 rfl) fun a hf => ?_
            refine stP hf rfl rfl rfl (pGt rfl rfl) fun a hf => ?_
            refine cNil ?_
            refine h52 _ _ ?_
            refine cCond (b := (decide (0 < ((truth_1.length : Nat) : Int)))) hf rfl (fun hb => ?_) (fun hb => ?_)
            · replace hF := condT hb hF
              clear hb
              refine wp_seq_k fun K53 h53 => ?_
              refine cReg ?_
              refine stP hf rfl rfl rfl (pM rfl) fun a hf => ?_
              refine stP hf rfl rfl rfl (pM rfl) fun a hf => ?_
              refine stP hf rfl rfl rfl (pM rfl) fun a hf => ?_
              refine stP hf rfl rfl rfl (pLenS Try.underlying39 rfl) fun a hf => ?_
              refine stP hf rfl rfl rfl (pSub rfl rfl) fun a hf => ?_
              obtain ⟨e_10, he_10, hF⟩ := bnd_some hF
              obtain ⟨g_5, rfl, qa_9, qr_9⟩ := row_atm hc m6 he_10
              refine stP hf rfl rfl rfl (pIA Try.underlying39 sz_3 rfl rfl qa_9) fun a hf => ?_
              refine stE hf hc rfl rfl rfl (eLd1 sc_3 rfl (cell_row (sz := 1) (i := (W (((truth_1.length : Nat) : Int) - 1)).toNat) (j := 0) m6 qr_9 rfl)) fun a w hf hc => ?_
              refine stBS (rows := ([e_10] : List Int).map encI_i64) (vs := [(0, .int .i64 e_10)]) hf hc rfl rfl sl_39 rfl ⟨rfl, rfl, rfl, trivial⟩ rfl rfl fun b_16 a w hf hc => ?_
              obtain ⟨un_3, hun_3, hF⟩ := bnd_some hF
              refine stApm (xs := truth_1) (ys := ([e_10] : List Int)) hf hc rfl rfl sl_39 rfl rfl rfl rfl rfl one_encI_i64 (src_row hc m0) (fun _ _ => u7) (by simpa using room_spec hun_3) fun p_28 c_28 a w hf hc => ?_
              refine stP hf rfl rfl rfl (pA rfl) fun a hf => ?_
              refine cNil ?_
              refine h53 _ _ ?_
              obtain ⟨un_4, hun_4, hF⟩ := bnd_some hF
              obtain ⟨un_5, hun_5, hF⟩ := bnd_some hF
              replace hc := hc.nilRow 0 0
              replace hc := hc.nilRow 0 0
              refine regionE (fun θ => [⟨none, none, 7, .pointer (some ⟨b_1, 0, none⟩)⟩, ⟨none, none, 8, .pointer (some ⟨b_2, 0, none⟩)⟩, ⟨none, none, 9, .pointer (some ⟨b_3, 0, none⟩)⟩, ⟨none, none, 10, .pointer (some ⟨b_4, 0, none⟩)⟩, ⟨none, none, 11, .pointer (some ⟨b_5, 0, none⟩)⟩, ⟨none, none, 12, .slice p_28 ((truth_1 ++ [e_10]).length) c_28⟩, ⟨none, none, 18, .int .i64 r_10.1⟩, ⟨none, none, 20, .pointer (some ⟨b_9, 0, none⟩)⟩, ⟨none, none, 22, .pointer (some ⟨b_10, 0, none⟩)⟩, ⟨none, none, 38, .int .i64 r_3.1⟩, ⟨none, none, 39, .int .i64 x⟩, ⟨none, none, 147, .int .i64 r_13.1⟩, ⟨none, none, 148, .int .i64 x_18⟩, ⟨some 0, none, 162, .pointer (some ⟨b_4, 2, none⟩)⟩, ⟨some 1, none, 163, .slice p_17 x_19.length c_17⟩, ⟨some 2, none, 164, .agg #[.bool false, .int .i64 0, .int .i64 0]⟩, ⟨some 3, none, 165, .slice (some ⟨(θ 24).b, 0, none⟩) 1 1⟩, ⟨some 4, none, 166, .slice ((θ 32).p) ((x_19 ++ [(⟨false, (⟨0, 0⟩ : api_Span)⟩ : daily_Value)]).length) ((θ 32).c)⟩, ⟨some 5, none, 167, .pointer (some ⟨b_5, 2, none⟩)⟩, ⟨some 6, none, 168, .slice p_18 x_20.length c_18⟩, ⟨some 7, none, 169, .agg #[.bool false, .int .i64 0, .int .i64 0]⟩, ⟨some 8, none, 170, .slice (some ⟨(θ 64).b, 0, none⟩) 1 1⟩, ⟨some 9, none, 171, .slice ((θ 72).p) ((x_20 ++ [(⟨false, (⟨0, 0⟩ : api_Span)⟩ : daily_Value)]).length) ((θ 72).c)⟩, ⟨some 10, none, 172, .pointer (some ⟨b_4, 2, none⟩)⟩, ⟨some 12, none, 173, .pointer (some ⟨b_5, 2, none⟩)⟩]) (fun E θ => (bif E 8 then .row (some ⟨(θ 64).b, 0, none⟩) 1 (([(⟨false, (⟨0, 0⟩ : api_Span)⟩ : daily_Value)] : List daily_Value).map enc_daily_Value) 56 3 else .row none 0 [] 0 0) :: (bif E 3 then .row (some ⟨(θ 24).b, 0, none⟩) 1 (([(⟨false, (⟨0, 0⟩ : api_Span)⟩ : daily_Value)] : List daily_Value).map enc_daily_Value) 56 3 else .row none 0 [] 0 0) :: .row (some ⟨b_16, 0, none⟩) 1 (([e_10] : List Int).map encI_i64) 3 1 :: .box b_1 [.slice numbers_p numbers.length numbers_c, .int .i64 r_13.2.1, .int .i64 r_13.2.2] 135 :: .box b_10 [.int .i64 r_12.1.Lo, .int .i64 r_12.1.Hi] 30 :: .box b_9 [.int .i64 r_11.1.Lo, .int .i64 r_11.1.Hi] 30 :: .box b_2 [.slice errors_p errors.length errors_c, .int .i64 r_8.2.1, .int .i64 r_8.2.2] 135 :: (bif E 9 then .row ((θ 72).p) ((θ 72).c) ((x_20 ++ [(⟨false, (⟨0, 0⟩ : api_Span)⟩ : daily_Value)]).map enc_daily_Value) 56 3 else .row p_18 c_18 (x_20.map enc_daily_Value) 56 3) :: (bif E 4 then .row ((θ 32).p) ((θ 32).c) ((x_19 ++ [(⟨false, (⟨0, 0⟩ : api_Span)⟩ : daily_Value)]).map enc_daily_Value) 56 3 else .row p_17 c_17 (x_19.map enc_daily_Value) 56 3) :: .row p_28 c_28 ((truth_1 ++ [e_10]).map encI_i64) 3 1 :: (bif E 13 then .box b_5 [.int .i64 0, .int .i64 0, .slice ((θ 72).p) ((x_20 ++ [(⟨false, (⟨0, 0⟩ : api_Span)⟩ : daily_Value)]).length) ((θ 72).c)] 24 else .box b_5 [.int .i64 0, .int .i64 0, .slice p_18 x_20.length c_18] 24) :: (bif E 11 then .box b_4 [.int .i64 x_7, .int .i64 x_8, .slice ((θ 32).p) ((x_19 ++ [(⟨false, (⟨0, 0⟩ : api_Span)⟩ : daily_Value)]).length) ((θ 32).c)] 24 else .box b_4 [.int .i64 x_7, .int .i64 x_8, .slice p_17 x_19.length c_17] 24) :: .box b_3 [.slice better_p better.length better_c, .int .i64 x_15, .int .i64 x_16] 135 :: Lf) [(11, 1), (11, 4), (13, 6), (13, 9)] (fun a w => ∃ (b_19 : Nat) (b_20 : Nat) (p_31 : Option Addr) (c_31 : Nat) (p_32 : Option Addr) (c_32 : Nat), Has 315 a [(7, .pointer (some ⟨b_1, 0, none⟩)), (8, .pointer (some ⟨b_2, 0, none⟩)), (9, .pointer (some ⟨b_3, 0, none⟩)), (10, .pointer (some ⟨b_4, 0, none⟩)), (11, .pointer (some ⟨b_5, 0, none⟩)), (12, .slice p_28 ((truth_1 ++ [e_10]).length) c_28), (18, .int .i64 r_10.1), (20, .pointer (some ⟨b_9, 0, none⟩)), (22, .pointer (some ⟨b_10, 0, none⟩)), (38, .int .i64 r_3.1), (39, .int .i64 x), (147, .int .i64 r_13.1), (148, .int .i64 x_18)] ∧ Ctx G (.row (some ⟨b_19, 0, none⟩) 1 (([(⟨false, (⟨0, 0⟩ : api_Span)⟩ : daily_Value)] : List daily_Value).map enc_daily_Value) 56 3 :: .row (some ⟨b_20, 0, none⟩) 1 (([(⟨false, (⟨0, 0⟩ : api_Span)⟩ : daily_Value)] : List daily_Value).map enc_daily_Value) 56 3 :: .row (some ⟨b_16, 0, none⟩) 1 (([e_10] : List Int).map encI_i64) 3 1 :: .box b_1 [.slice numbers_p numbers.length numbers_c, .int .i64 r_13.2.1, .int .i64 r_13.2.2] 135 :: .box b_10 [.int .i64 r_12.1.Lo, .int .i64 r_12.1.Hi] 30 :: .box b_9 [.int .i64 r_11.1.Lo, .int .i64 r_11.1.Hi] 30 :: .box b_2 [.slice errors_p errors.length errors_c, .int .i64 r_8.2.1, .int .i64 r_8.2.2] 135 :: .row p_31 c_31 ((x_20 ++ [(⟨false, (⟨0, 0⟩ : api_Span)⟩ : daily_Value)]).map enc_daily_Value) 56 3 :: .row p_32 c_32 ((x_19 ++ [(⟨false, (⟨0, 0⟩ : api_Span)⟩ : daily_Value)]).map enc_daily_Value) 56 3 :: .row p_28 c_28 ((truth_1 ++ [e_10]).map encI_i64) 3 1 :: .box b_5 [.int .i64 0, .int .i64 0, .slice p_31 ((x_20 ++ [(⟨false, (⟨0, 0⟩ : api_Span)⟩ : daily_Value)]).length) c_31] 24 :: .box b_4 [.int .i64 x_7, .int .i64 x_8, .slice p_32 ((x_19 ++ [(⟨false, (⟨0, 0⟩ : api_Span)⟩ : daily_Value)]).length) c_32] 24 :: .box b_3 [.slice better_p better.length better_c, .int .i64 x_15, .int .i64 x_16] 135 :: Lf) w) follows_mx (by kernel_rfl) (by kernel_rfl) (HasE.of hf ⟨rfl, rfl, rfl, rfl, rfl, rfl, rfl, rfl, rfl, rfl, rfl, rfl, rfl, trivial, trivial, trivial, trivial, trivial, trivial, trivial, trivial, trivial, trivial, trivial, trivial, trivial⟩) hc ⟨?_, ?_, ?_, ?_, ?_, ?_, ?_, ?_, ?_, ?_, ?_, ?_, ?_, ?_, trivial⟩ ?_ ?_
              · intro E θ a w hD hi hp he hc
                have hf := he.h0
                replace hf := hf.more he 3 rfl onT
                refine stP hf rfl rfl rfl (pFA fa_24_2 rfl) fun a hf => ?_
                refine cNil ?_
                refine xThenN ?_
                intro ds u hau
                refine ⟨θ, he.put0 hi hau hf rfl 13 rfl rfl, ?_⟩
                exact hc
              · intro E θ a w hD hi hp he hc
                have e0 := hp.of (k := 0) rfl
                have e11 := hD.f 0 rfl hi
                try dsimp only at hc
                rw [e11] at hc
                have hf := he.h0
                replace hf := hf.more he 13 rfl (onP e0)
                refine stE hf hc rfl rfl rfl (eLd1 sc_22 rfl (cell_box m11 rfl)) fun a w hf hc => ?_
                refine cNil ?_
                refine xThenN ?_
                intro ds u hau
                refine ⟨θ, he.put0 hi hau hf rfl 14 rfl rfl, ?_⟩
                try dsimp only
                rw [updE_fls 1 e11 rfl]
                exact hc
              · intro E θ a w hD hi hp he hc
                have hf := he.h0
                refine stP hf rfl rfl rfl (pBuildS (cells := [.bool false, .int .i64 0, .int .i64 0]) bt_56 rfl rfl) fun a hf => ?_
                refine cNil ?_
                refine xThenN ?_
                intro ds u hau
                refine ⟨θ, he.put0 hi hau hf rfl 15 rfl rfl, ?_⟩
                exact hc
              · intro E θ a w hD hi hp he hc
                have e2 := hp.of (k := 2) rfl
                try dsimp only at hc
                rw [hi] at hc
                have hf := he.h0
                replace hf := hf.more he 15 rfl (onP e2)
                refine stBS (rows := ([(⟨false, (⟨0, 0⟩ : api_Span)⟩ : daily_Value)] : List daily_Value).map enc_daily_Value) (vs := [(0, .agg #[.bool false, .int .i64 0, .int .i64 0])]) hf hc rfl rfl sl_22 rfl ⟨rfl, rfl, rfl, trivial⟩ rfl rfl fun b_17 a w hf hc => ?_
                refine cNil ?_
                refine xThenN ?_
                intro ds u hau
                replace hc := hc.drop k2
                replace hc := hc.pick k0
                replace hc := hc.pick k1
                refine ⟨(setT θ 24 ⟨b_17, none, 0⟩), he.put hi hau hf rfl [] trivial ⟨qq, qq, qq, qq, qq, qq, qq, qq, qq, qq, qq, qq, qq, qq, qq, qq, qq, qq, qq, qq, qq, qq, qq, qq, qq, trivial⟩, ?_⟩
                try dsimp only
                rw [updE_self E 3]
                exact hc
              · intro E θ a w hD hi hp he hc
                have e1 := hp.of (k := 1) rfl
                have e3 := hp.of (k := 3) rfl
                have e11 := hD.f 1 rfl hi
                try dsimp only at hc
                rw [e3, hi, e11] at hc
                have hf := he.h0
                replace hf := hf.more he 14 rfl (onP e1)
                replace hf := hf.more he 16 rfl (onP e3)
                refine stApm (xs := x_19) (ys := ([(⟨false, (⟨0, 0⟩ : api_Span)⟩ : daily_Value)] : List daily_Value)) hf hc rfl rfl sl_22 rfl rfl rfl rfl rfl one_enc_daily_Value (src_row hc m1) (fun _ _ => u8) (by simpa using room_spec hun_4) fun p_29 c_29 a w hf hc => ?_
                refine cNil ?_
                refine xThenN ?_
                intro ds u hau
                refine ⟨(setT θ 32 ⟨0, p_29, c_29⟩), he.put hi hau hf rfl [] trivial ⟨qq, qq, qq, qq, qq, qq, qq, qq, qq, qq, qq, qq, qq, qq, qq, qq, qq, qq, qq, qq, qq, qq, qq, qq, qq, trivial⟩, ?_⟩
                try dsimp only
                rw [updE_tru 4 e3, updE_self E 4, updE_fls 4 e11 rfl]
                exact hc
              · intro E θ a w hD hi hp he hc
                have hf := he.h0
                replace hf := hf.more he 4 rfl onT
                refine stP hf rfl rfl rfl (pFA fa_24_2 rfl) fun a hf => ?_
                refine cNil ?_
                refine xThenN ?_
                intro ds u hau
                refine ⟨θ, he.put0 hi hau hf rfl 18 rfl rfl, ?_⟩
                exact hc
              · intro E θ a w hD hi hp he hc
                have e5 := hp.of (k := 5) rfl
                have e13 := hD.f 2 rfl hi
                try dsimp only at hc
                rw [e13] at hc
                have hf := he.h0
                replace hf := hf.more he 18 rfl (onP e5)
                refine stE hf hc rfl rfl rfl (eLd1 sc_22 rfl (cell_box m10 rfl)) fun a w hf hc => ?_
                refine cNil ?_
                refine xThenN ?_
                intro ds u hau
                refine ⟨θ, he.put0 hi hau hf rfl 19 rfl rfl, ?_⟩
                try dsimp only
                rw [updE_fls 6 e13 rfl]
                exact hc
              · intro E θ a w hD hi hp he hc
                have hf := he.h0
                refine stP hf rfl rfl rfl (pBuildS (cells := [.bool false, .int .i64 0, .int .i64 0]) bt_56 rfl rfl) fun a hf => ?_
                refine cNil ?_
                refine xThenN ?_
                intro ds u hau
                refine ⟨θ, he.put0 hi hau hf rfl 20 rfl rfl, ?_⟩
                exact hc
              · intro E θ a w hD hi hp he hc
                have e7 := hp.of (k := 7) rfl
                try dsimp only at hc
                rw [hi] at hc
                have hf := he.h0
                replace hf := hf.more he 20 rfl (onP e7)
                refine stBS (rows := ([(⟨false, (⟨0, 0⟩ : api_Span)⟩ : daily_Value)] : List daily_Value).map enc_daily_Value) (vs := [(0, .agg #[.bool false, .int .i64 0, .int .i64 0])]) hf hc rfl rfl sl_22 rfl ⟨rfl, rfl, rfl, trivial⟩ rfl rfl fun b_18 a w hf hc => ?_
                refine cNil ?_
                refine xThenN ?_
                intro ds u hau
                replace hc := hc.drop k1
                refine ⟨(setT θ 64 ⟨b_18, none, 0⟩), he.put hi hau hf rfl [] trivial ⟨qq, qq, qq, qq, qq, qq, qq, qq, qq, qq, qq, qq, qq, qq, qq, qq, qq, qq, qq, qq, qq, qq, qq, qq, qq, trivial⟩, ?_⟩
                try dsimp only
                rw [updE_self E 8]
                exact hc
              · intro E θ a w hD hi hp he hc
                have e6 := hp.of (k := 6) rfl
                have e8 := hp.of (k := 8) rfl
                have e13 := hD.f 3 rfl hi
                try dsimp only at hc
                rw [e8, hi, e13] at hc
                have hf := he.h0
                replace hf := hf.more he 19 rfl (onP e6)
                replace hf := hf.more he 21 rfl (onP e8)
                refine stApm (xs := x_20) (ys := ([(⟨false, (⟨0, 0⟩ : api_Span)⟩ : daily_Value)] : List daily_Value)) hf hc rfl rfl sl_22 rfl rfl rfl rfl rfl one_enc_daily_Value (src_row hc m0) (fun _ _ => u7) (by simpa using room_spec hun_5) fun p_30 c_30 a w hf hc => ?_
                refine cNil ?_
                refine xThenN ?_
                intro ds u hau
                refine ⟨(setT θ 72 ⟨0, p_30, c_30⟩), he.put hi hau hf rfl [] trivial ⟨qq, qq, qq, qq, qq, qq, qq, qq, qq, qq, qq, qq, qq, qq, qq, qq, qq, qq, qq, qq, qq, qq, qq, qq, qq, trivial⟩, ?_⟩
                try dsimp only
                rw [updE_tru 9 e8, updE_self E 9, updE_fls 9 e13 rfl]
                exact hc
              · intro E θ a w hD hi hp he hc
                have hf := he.h0
                replace hf := hf.more he 3 rfl onT
                refine stP hf rfl rfl rfl (pFA fa_24_2 rfl) fun a hf => ?_
                refine cNil ?_
                refine xThenN ?_
                intro ds u hau
                refine ⟨θ, he.put0 hi hau hf rfl 23 rfl rfl, ?_⟩
                exact hc
              · intro E θ a w hD hi hp he hc
                have e4 := hp.of (k := 4) rfl
                have e10 := hp.of (k := 10) rfl
                try dsimp only at hc
                rw [hi] at hc
                have hf := he.h0
                replace hf := hf.more he 17 rfl (onP e4)
                replace hf := hf.more he 23 rfl (onP e10)
                refine stSt (vs := [.slice ((θ 32).p) ((x_19 ++ [(⟨false, (⟨0, 0⟩ : api_Span)⟩ : daily_Value)]).length) ((θ 32).c)]) hf hc rfl rfl rfl rfl sz_22 rfl rfl u11 fun w hc => ?_
                refine cNil ?_
                refine xThenN ?_
                intro ds u hau
                refine ⟨θ, he.stay0 hi hau hf rfl, ?_⟩
                try dsimp only
                rw [updE_self E 11]
                exact hc
              · intro E θ a w hD hi hp he hc
                have hf := he.h0
                replace hf := hf.more he 4 rfl onT
                refine stP hf rfl rfl rfl (pFA fa_24_2 rfl) fun a hf => ?_
                refine cNil ?_
                refine xThenN ?_
                intro ds u hau
                refine ⟨θ, he.put0 hi hau hf rfl 24 rfl rfl, ?_⟩
                exact hc
              · intro E θ a w hD hi hp he hc
                have e9 := hp.of (k := 9) rfl
                have e12 := hp.of (k := 12) rfl
                try dsimp only at hc
                rw [hi] at hc
                have hf := he.h0
                replace hf := hf.more he 22 rfl (onP e9)
                replace hf := hf.more he 24 rfl (onP e12)
                refine stSt (vs := [.slice ((θ 72).p) ((x_20 ++ [(⟨false, (⟨0, 0⟩ : api_Span)⟩ : daily_Value)]).length) ((θ 72).c)]) hf hc rfl rfl rfl rfl sz_22 rfl rfl u10 fun w hc => ?_
                refine cNil ?_
                refine xThenN ?_
                intro ds u hau
                refine ⟨θ, he.stay0 hi hau hf rfl, ?_⟩
                try dsimp only
                rw [updE_self E 13]
                exact hc
              · intro E θ a w hall he hc
                have hf := he.h0
                have e3 := hall 3 rfl
                have e4 := hall 4 rfl
                have e8 := hall 8 rfl
                have e9 := hall 9 rfl
                have e11 := hall 11 rfl
                have e13 := hall 13 rfl
                replace hf := hf.more he 12 rfl (onT)
                replace hf := hf.more he 11 rfl (onT)
                replace hf := hf.more he 10 rfl (onT)
                replace hf := hf.more he 9 rfl (onT)
                replace hf := hf.more he 8 rfl (onT)
                replace hf := hf.more he 7 rfl (onT)
                replace hf := hf.more he 6 rfl (onT)
                replace hf := hf.more he 5 rfl (onT)
                replace hf := hf.more he 4 rfl (onT)
                replace hf := hf.more he 3 rfl (onT)
                replace hf := hf.more he 2 rfl (onT)
                replace hf := hf.more he 1 rfl (onT)
                replace hf := hf.more he 0 rfl (onT)
                try dsimp only at hc
                rw [e3, e4, e8, e9, e11, e13] at hc
                exact ⟨(θ 64).b, (θ 24).b, (θ 72).p, (θ 72).c, (θ 32).p, (θ 32).c, hf.keep ⟨rfl, rfl, rfl, rfl, rfl, rfl, rfl, rfl, rfl, rfl, rfl, rfl, rfl, trivial⟩, hc⟩
              rintro a w ⟨b_19, b_20, p_31, c_31, p_32, c_32, hf, hc⟩
              replace hc := hc.drop k2
              replace hc := hc.drop k1
              replace hc := hc.drop k0
              exact hj51 (truth_1 ++ [e_10]) (x_19 ++ [(⟨false, (⟨0, 0⟩ : api_Span)⟩ : daily_Value)]) (x_20 ++ [(⟨false, (⟨0, 0⟩ : api_Span)⟩ : daily_Value)]) p_28 c_28 p_32 c_32 p_31 c_31 _ _  (hf.keep ⟨rfl, rfl, rfl, rfl, rfl, rfl, rfl, rfl, rfl, rfl, rfl, rfl, rfl, trivial⟩) hc hF
            · replace hF := condF hb hF
              clear hb
              refine wp_skip ?_
              exact hj51 truth_1 x_19 x_20 p_16 c_16 p_17 c_17 p_18 c_18 _ _  (hf.keep ⟨rfl, rfl, rfl, rfl, rfl, rfl, rfl, rfl, rfl, rfl, rfl, rfl, rfl, trivial⟩) hc hF
          · replace hF := condF hb hF
            clear hb
            refine wp_exit ?_
            refine xThen ?_
            refine xThen ?_
            have he := Option.some.inj hF
            rw [← he] at hfin44
            refine cHit ?_
            exact hr44 _ _ _ hfin44 ⟨p_16, c_16, p_17, c_17, p_18, c_18, hf.keep ⟨rfl, rfl, rfl, rfl, rfl, rfl, rfl, rfl, rfl, rfl, rfl, rfl, rfl, trivial⟩, hc⟩
      have ho35 : ∀ r, x35 = .out r → r = st7 := by
        rintro r rfl
        exact Option.some.inj hF
      refine cLoop N (loopW (S := S35) (x := x35) ?_ N (0, x_5, x_6, r_9.Verticals) _ _ ⟨p_11, c_11, p_13, c_13, hf.keep ⟨rfl, rfl, rfl, rfl, rfl, rfl, rfl, rfl, rfl, rfl, rfl, rfl, rfl, trivial⟩, hc⟩ hx35)
      clear hF hf hc
      rintro ⟨x_14, x_15, x_16, x_17⟩ st35 a w KB35 ⟨p_14, c_14, p_15, c_15, hf, hc⟩ hF hfin35 hK35
      unfold law07_DailyGauged_b35 at hF
      refine wp_seq_k fun K54 h54 => ?_
      refine cReg ?_
      refine stP hf rfl rfl rfl (pLt rfl rfl) fun a hf => ?_
      refine cNil ?_
      refine h54 _ _ ?_
      refine wp_seq_k fun K55 h55 => ?_
      refine cCond (b := (decide (x_14 < ((r_9.Verticals.length : Nat) : Int)))) hf rfl (fun hb => ?_) (fun hb => ?_)
      · replace hF := condT hb hF
        clear hb
        refine wp_skip ?_
        refine h55 _ _ ?_
        refine wp_seq_k fun K56 h56 => ?_
        have hj56 : ∀ (x_25 : Int) (x_26 : Int) (x_27 : List gauge_Vertical) (p_33 : Option Addr) (c_33 : Nat) (p_34 : Option Addr) (c_34 : Nat) a w, Has 315 a [(7, .pointer (some ⟨b_1, 0, none⟩)), (8, .pointer (some ⟨b_2, 0, none⟩)), (9, .pointer (some ⟨b_3, 0, none⟩)), (10, .pointer (some ⟨b_4, 0, none⟩)), (11, .pointer (some ⟨b_5, 0, none⟩)), (12, .slice p_1 truth.length c_1), (13, .pointer (some ⟨b_6, 0, none⟩)), (15, .pointer (some ⟨b_7, 0, none⟩)), (16, .pointer (some ⟨b_8, 0, none⟩)), (38, .int .i64 r_3.1), (39, .int .i64 x), (67, .int .i64 ((r_9.Verticals.length : Nat) : Int)), (68, .int .i64 x_14)] → Ctx G (.box b_3 [.slice better_p better.length better_c, .int .i64 x_25, .int .i64 x_26] 135 :: .box b_8 [.int .i64 r_9.Left, .int .i64 r_9.Right, .slice p_34 x_27.length c_34] 87 :: .row p_12 c_12 (r_8.1.Verticals.map enc_gauge_Vertical) 92 5 :: .row p_34 c_34 (x_27.map enc_gauge_Vertical) 92 5 :: .box b_7 [.int .i64 r_8.1.Left, .int .i64 r_8.1.Right, .slice p_12 r_8.1.Verticals.length c_12] 87 :: .row p_8 c_8 (r_7.1.At.map encI_i64) 3 1 :: .row p_9 c_9 (r_7.1.Depth.map encI_i64) 3 1 :: .row p_33 c_33 (x_13.map encI_i64) 3 1 :: .box b_2 [.slice errors_p errors.length errors_c, .int .i64 r_8.2.1, .int .i64 r_8.2.2] 135 :: .box b_6 [.int .i64 r_7.1.Left, .int .i64 r_7.1.Right, .slice p_8 r_7.1.At.length c_8, .slice p_9 r_7.1.Depth.length c_9, .slice p_33 x_13.length c_33] 83 :: .box b_1 [.slice numbers_p numbers.length numbers_c, .int .i64 r_7.2.1, .int .i64 r_7.2.2] 135 :: .row p_3 c_3 (x_10.map enc_daily_Value) 56 3 :: .row p_2 c_2 (x_9.map enc_daily_Value) 56 3 :: .row p_1 c_1 (truth.map encI_i64) 3 1 :: .box b_5 [.int .i64 0, .int .i64 0, .slice p_3 x_10.length c_3] 24 :: .box b_4 [.int .i64 x_7, .int .i64 x_8, .slice p_2 x_9.length c_2] 24 :: Lf) w → law07_DailyGauged_j56 N x_14 x_25 x_26 x_27 = some st35 → K56 a w := by
          repeat (clear hF)
          repeat (clear hc)
          repeat (clear hf)
          intro x_25 x_26 x_27 p_33 c_33 p_34 c_34 a w hf hc hF
          unfold law07_DailyGauged_j56 at hF
          refine h56 _ _ ?_
          refine cReg ?_
          refine stP hf rfl rfl rfl (pAdd rfl rfl) fun a hf => ?_
          refine stP hf rfl rfl rfl (pM rfl) fun a hf => ?_
          refine cNil ?_
          replace hc := hc.pick k0
          replace hc := hc.pick k15
          replace hc := hc.pick k15
          replace hc := hc.pick k15
          replace hc := hc.pick k15
          replace hc := hc.pick k15
          replace hc := hc.pick k15
          replace hc := hc.pick k15
          replace hc := hc.pick k15
          replace hc := hc.pick k15
          replace hc := hc.pick k15
          replace hc := hc.pick k15
          replace hc := hc.pick k15
          replace hc := hc.pick k15
          replace hc := hc.pick k15
          replace hc := hc.pick k15
          exact hK35 (W (x_14 + 1), x_25, x_26, x_27) _ _ (Option.some.inj hF).symm ⟨p_33, c_33, p_34, c_34, hf.keep ⟨rfl, rfl, rfl, rfl, rfl, rfl, rfl, rfl, rfl, rfl, rfl, rfl, rfl, trivial⟩, hc⟩
        refine wp_block ?_
        refine wp_seq_k fun K57 h57 => ?_
        refine cReg ?_
        refine stP hf rfl rfl rfl (pM rfl) fun a hf => ?_
        refine stP hf rfl rfl rfl (pA rfl) fun a hf => ?_
        refine cNil ?_
        refine h57 _ _ ?_
        refine wp_seq_k fun K58 h58 => ?_
        refine cReg ?_
        refine stP hf rfl rfl rfl (pM rfl) fun a hf => ?_
        obtain ⟨r_16, hr_16, hF⟩ := bnd_some hF
        refine stC (vs := [.pointer (some ⟨b_3, 0, none⟩), .int .i64 2]) (caps := []) hf rfl rfl rfl en_30 rfl rfl rfl rfl (kit_Stream_Next_ok (⟨better, x_15, x_16⟩ : kit_Stream) 2 h_better (hc.pick k15) hr_16) ?_
        rintro _ w ⟨rfl, hc⟩
        refine ⟨_, rfl, fun a hf => ?_⟩
        refine stP hf rfl rfl rfl (pEq rfl rfl) fun a hf => ?_
        refine cNil ?_
        refine h58 _ _ ?_
        refine cCond (b := (r_16.1 == 0)) hf rfl (fun hb => ?_) (fun hb => ?_)
        · replace hF := condT hb hF
          clear hb
          obtain ⟨e_11, he_11, hF⟩ := bnd_some hF
          obtain ⟨g_6, rfl, qa_10, qr_10⟩ := row_atm hc m7 he_11
          obtain ⟨e_12, he_12, hF⟩ := bnd_some hF
          obtain ⟨qa_11, qr_11⟩ := row_atk hc m7 he_12
          obtain ⟨r_17, hr_17, hF⟩ := bnd_some hF
          obtain ⟨e_13, he_13, hF⟩ := bnd_some hF
          obtain ⟨g_7, rfl, qa_12, qr_12⟩ := row_atm hc m3 he_13
          refine regionE (fun θ => (⟨none, none, 7, .pointer (some ⟨b_1, 0, none⟩)⟩ :: ⟨none, none, 8, .pointer (some ⟨b_2, 0, none⟩)⟩ :: ⟨none, none, 9, .pointer (some ⟨b_3, 0, none⟩)⟩ :: ⟨none, none, 10, .pointer (some ⟨b_4, 0, none⟩)⟩ :: ⟨none, none, 11, .pointer (some ⟨b_5, 0, none⟩)⟩ :: ⟨none, none, 12, .slice p_1 truth.length c_1⟩ :: ⟨none, none, 13, .pointer (some ⟨b_6, 0, none⟩)⟩ :: ⟨none, none, 15, .pointer (some ⟨b_7, 0, none⟩)⟩ :: ⟨none, none, 16, .pointer (some ⟨b_8, 0, none⟩)⟩ :: ⟨none, none, 17, .int .i64 x_14⟩ :: ⟨none, none, 38, .int .i64 r_3.1⟩ :: ⟨none, none, 39, .int .i64 x⟩ :: ⟨none, none, 67, .int .i64 ((r_9.Verticals.length : Nat) : Int)⟩ :: ⟨none, none, 68, .int .i64 x_14⟩ :: ⟨some 0, none, 74, .pointer (some ⟨b_8, 2, none⟩)⟩ :: ⟨some 1, none, 75, .slice (some ⟨g_7, 0, none⟩) x_17.length c_15⟩ :: ⟨some 2, none, 76, .int .i64 x_14⟩ :: ⟨some 3, none, 77, .pointer (some ⟨b_6, 4, none⟩)⟩ :: ⟨some 4, none, 78, .slice (some ⟨g_6, 0, none⟩) x_13.length c_14⟩ :: ⟨some 5, none, 79, .int .i64 x_14⟩ :: ⟨some 6, none, 80, .pointer (some ⟨g_6, x_14.toNat * 1, none⟩)⟩ :: ⟨some 7, none, 81, .int .i64 e_11⟩ :: ⟨some 8, none, 82, .pointer (some ⟨b_6, 4, none⟩)⟩ :: ⟨some 9, none, 83, .slice (some ⟨g_6, 0, none⟩) x_13.length c_14⟩ :: ⟨some 10, none, 84, .int .i64 x_14⟩ :: ⟨some 11, none, 85, .pointer (some ⟨g_6, x_14.toNat * 1, none⟩)⟩ :: ⟨some 12, none, 86, .int .i64 e_12⟩ :: ⟨some 13, none, 87, .agg #[.int .i64 r_17.Lo, .int .i64 r_17.Hi]⟩ :: ⟨some 14, none, 88, .pointer (some ⟨g_7, x_14.toNat * 5, none⟩)⟩ :: ⟨some 15, none, 89, .pointer (some ⟨g_7, x_14.toNat * 5 + 3, none⟩)⟩ :: [])) (fun E θ => .box b_3 [.slice better_p better.length better_c, .int .i64 r_16.2.1, .int .i64 r_16.2.2] 135 :: .box b_8 [.int .i64 r_9.Left, .int .i64 r_9.Right, .slice (some ⟨g_7, 0, none⟩) x_17.length c_15] 87 :: .row p_12 c_12 (r_8.1.Verticals.map enc_gauge_Vertical) 92 5 :: (bif E 16 then .row (some ⟨g_7, 0, none⟩) c_15 ((x_17.set x_14.toNat (⟨e_13.At, e_13.Depth, r_17⟩ : gauge_Vertical)).map enc_gauge_Vertical) 92 5 else .row (some ⟨g_7, 0, none⟩) c_15 (x_17.map enc_gauge_Vertical) 92 5) :: .box b_7 [.int .i64 r_8.1.Left, .int .i64 r_8.1.Right, .slice p_12 r_8.1.Verticals.length c_12] 87 :: .row p_8 c_8 (r_7.1.At.map encI_i64) 3 1 :: .row p_9 c_9 (r_7.1.Depth.map encI_i64) 3 1 :: .row (some ⟨g_6, 0, none⟩) c_14 (x_13.map encI_i64) 3 1 :: .box b_2 [.slice errors_p errors.length errors_c, .int .i64 r_8.2.1, .int .i64 r_8.2.2] 135 :: .box b_6 [.int .i64 r_7.1.Left, .int .i64 r_7.1.Right, .slice p_8 r_7.1.At.length c_8, .slice p_9 r_7.1.Depth.length c_9, .slice (some ⟨g_6, 0, none⟩) x_13.length c_14] 83 :: .box b_1 [.slice numbers_p numbers.length numbers_c, .int .i64 r_7.2.1, .int .i64 r_7.2.2] 135 :: .row p_3 c_3 (x_10.map enc_daily_Value) 56 3 :: .row p_2 c_2 (x_9.map enc_daily_Value) 56 3 :: .row p_1 c_1 (truth.map encI_i64) 3 1 :: .box b_5 [.int .i64 0, .int .i64 0, .slice p_3 x_10.length c_3] 24 :: .box b_4 [.int .i64 x_7, .int .i64 x_8, .slice p_2 x_9.length c_2] 24 :: Lf) [(15, 14), (16, 15)] (fun a w => Has 315 a [(7, .pointer (some ⟨b_1, 0, none⟩)), (8, .pointer (some ⟨b_2, 0, none⟩)), (9, .pointer (some ⟨b_3, 0, none⟩)), (10, .pointer (some ⟨b_4, 0, none⟩)), (11, .pointer (some ⟨b_5, 0, none⟩)), (12, .slice p_1 truth.length c_1), (13, .pointer (some ⟨b_6, 0, none⟩)), (15, .pointer (some ⟨b_7, 0, none⟩)), (16, .pointer (some ⟨b_8, 0, none⟩)), (38, .int .i64 r_3.1), (39, .int .i64 x), (67, .int .i64 ((r_9.Verticals.length : Nat) : Int)), (68, .int .i64 x_14)] ∧ Ctx G (.box b_3 [.slice better_p better.length better_c, .int .i64 r_16.2.1, .int .i64 r_16.2.2] 135 :: .box b_8 [.int .i64 r_9.Left, .int .i64 r_9.Right, .slice (some ⟨g_7, 0, none⟩) x_17.length c_15] 87 :: .row p_12 c_12 (r_8.1.Verticals.map enc_gauge_Vertical) 92 5 :: .row (some ⟨g_7, 0, none⟩) c_15 ((x_17.set x_14.toNat (⟨e_13.At, e_13.Depth, r_17⟩ : gauge_Vertical)).map enc_gauge_Vertical) 92 5 :: .box b_7 [.int .i64 r_8.1.Left, .int .i64 r_8.1.Right, .slice p_12 r_8.1.Verticals.length c_12] 87 :: .row p_8 c_8 (r_7.1.At.map encI_i64) 3 1 :: .row p_9 c_9 (r_7.1.Depth.map encI_i64) 3 1 :: .row (some ⟨g_6, 0, none⟩) c_14 (x_13.map encI_i64) 3 1 :: .box b_2 [.slice errors_p errors.length errors_c, .int .i64 r_8.2.1, .int .i64 r_8.2.2] 135 :: .box b_6 [.int .i64 r_7.1.Left, .int .i64 r_7.1.Right, .slice p_8 r_7.1.At.length c_8, .slice p_9 r_7.1.Depth.length c_9, .slice (some ⟨g_6, 0, none⟩) x_13.length c_14] 83 :: .box b_1 [.slice numbers_p numbers.length numbers_c, .int .i64 r_7.2.1, .int .i64 r_7.2.2] 135 :: .row p_3 c_3 (x_10.map enc_daily_Value) 56 3 :: .row p_2 c_2 (x_9.map enc_daily_Value) 56 3 :: .row p_1 c_1 (truth.map encI_i64) 3 1 :: .box b_5 [.int .i64 0, .int .i64 0, .slice p_3 x_10.length c_3] 24 :: .box b_4 [.int .i64 x_7, .int .i64 x_8, .slice p_2 x_9.length c_2] 24 :: Lf) w) follows_mx (by kernel_rfl) (by kernel_rfl) (HasE.of hf ⟨rfl, rfl, rfl, rfl, rfl, rfl, rfl, rfl, rfl, rfl, rfl, rfl, rfl, rfl, trivial, trivial, trivial, trivial, trivial, trivial, trivial, trivial, trivial, trivial, trivial, trivial, trivial, trivial, trivial, trivial, trivial⟩) hc ⟨?_, ?_, ?_, ?_, ?_, ?_, ?_, ?_, ?_, ?_, ?_, ?_, ?_, ?_, ?_, ?_, ?_, trivial⟩ ?_ ?_
          · intro E θ a w hD hi hp he hc
            have hf := he.h0
            replace hf := hf.more he 8 rfl onT
            refine stP hf rfl rfl rfl (pFA fa_87_2 rfl) fun a hf => ?_
            refine cNil ?_
            refine xThenN ?_
            intro ds u hau
            refine ⟨θ, he.put0 hi hau hf rfl 14 rfl rfl, ?_⟩
            exact hc
          · intro E θ a w hD hi hp he hc
            have e0 := hp.of (k := 0) rfl
            have hf := he.h0
            replace hf := hf.more he 14 rfl (onP e0)
            refine stE hf hc rfl rfl rfl (eLd1 sc_85 rfl (cell_box m1 rfl)) fun a w hf hc => ?_
            refine cNil ?_
            refine xThenN ?_
            intro ds u hau
            refine ⟨θ, he.put0 hi hau hf rfl 15 rfl rfl, ?_⟩
            exact hc
          · intro E θ a w hD hi hp he hc
            have hf := he.h0
            replace hf := hf.more he 9 rfl onT
            refine stP hf rfl rfl rfl (pM rfl) fun a hf => ?_
            refine cNil ?_
            refine xThenN ?_
            intro ds u hau
            refine ⟨θ, he.put0 hi hau hf rfl 16 rfl rfl, ?_⟩
            exact hc
          · intro E θ a w hD hi hp he hc
            have hf := he.h0
            replace hf := hf.more he 6 rfl onT
            refine stP hf rfl rfl rfl (pFA fa_83_4 rfl) fun a hf => ?_
            refine cNil ?_
            refine xThenN ?_
            intro ds u hau
            refine ⟨θ, he.put0 hi hau hf rfl 17 rfl rfl, ?_⟩
            exact hc
          · intro E θ a w hD hi hp he hc
            have e3 := hp.of (k := 3) rfl
            have hf := he.h0
            replace hf := hf.more he 17 rfl (onP e3)
            refine stE hf hc rfl rfl rfl (eLd1 sc_39 rfl (cell_box m9 rfl)) fun a w hf hc => ?_
            refine cNil ?_
            refine xThenN ?_
            intro ds u hau
            refine ⟨θ, he.put0 hi hau hf rfl 18 rfl rfl, ?_⟩
            exact hc
          · intro E θ a w hD hi hp he hc
            have hf := he.h0
            replace hf := hf.more he 9 rfl onT
            refine stP hf rfl rfl rfl (pM rfl) fun a hf => ?_
            refine cNil ?_
            refine xThenN ?_
            intro ds u hau
            refine ⟨θ, he.put0 hi hau hf rfl 19 rfl rfl, ?_⟩
            exact hc
          · intro E θ a w hD hi hp he hc
            have e4 := hp.of (k := 4) rfl
            have e5 := hp.of (k := 5) rfl
            have hf := he.h0
            replace hf := hf.more he 18 rfl (onP e4)
            replace hf := hf.more he 19 rfl (onP e5)
            refine stP hf rfl rfl rfl (pIA Try.underlying39 sz_3 rfl rfl qa_10) fun a hf => ?_
            refine cNil ?_
            refine xThenN ?_
            intro ds u hau
            refine ⟨θ, he.put0 hi hau hf rfl 20 rfl rfl, ?_⟩
            exact hc
          · intro E θ a w hD hi hp he hc
            have e6 := hp.of (k := 6) rfl
            have hf := he.h0
            replace hf := hf.more he 20 rfl (onP e6)
            refine stE hf hc rfl rfl rfl (eLd1 sc_3 rfl (cell_row (sz := 1) (i := x_14.toNat) (j := 0) m7 qr_10 rfl)) fun a w hf hc => ?_
            refine cNil ?_
            refine xThenN ?_
            intro ds u hau
            refine ⟨θ, he.put0 hi hau hf rfl 21 rfl rfl, ?_⟩
            exact hc
          · intro E θ a w hD hi hp he hc
            have hf := he.h0
            replace hf := hf.more he 6 rfl onT
            refine stP hf rfl rfl rfl (pFA fa_83_4 rfl) fun a hf => ?_
            refine cNil ?_
            refine xThenN ?_
            intro ds u hau
            refine ⟨θ, he.put0 hi hau hf rfl 22 rfl rfl, ?_⟩
            exact hc
          · intro E θ a w hD hi hp he hc
            have e8 := hp.of (k := 8) rfl
            have hf := he.h0
            replace hf := hf.more he 22 rfl (onP e8)
            refine stE hf hc rfl rfl rfl (eLd1 sc_39 rfl (cell_box m9 rfl)) fun a w hf hc => ?_
            refine cNil ?_
            refine xThenN ?_
            intro ds u hau
            refine ⟨θ, he.put0 hi hau hf rfl 23 rfl rfl, ?_⟩
            exact hc
          · intro E θ a w hD hi hp he hc
            have hf := he.h0
            replace hf := hf.more he 9 rfl onT
            refine stP hf rfl rfl rfl (pM rfl) fun a hf => ?_
            refine cNil ?_
            refine xThenN ?_
            intro ds u hau
            refine ⟨θ, he.put0 hi hau hf rfl 24 rfl rfl, ?_⟩
            exact hc
          · intro E θ a w hD hi hp he hc
            have e9 := hp.of (k := 9) rfl
            have e10 := hp.of (k := 10) rfl
            have hf := he.h0
            replace hf := hf.more he 23 rfl (onP e9)
            replace hf := hf.more he 24 rfl (onP e10)
            refine stP hf rfl rfl rfl (pIA Try.underlying39 sz_3 rfl rfl qa_11) fun a hf => ?_
            refine cNil ?_
            refine xThenN ?_
            intro ds u hau
            refine ⟨θ, he.put0 hi hau hf rfl 25 rfl rfl, ?_⟩
            exact hc
          · intro E θ a w hD hi hp he hc
            have e11 := hp.of (k := 11) rfl
            have hf := he.h0
            replace hf := hf.more he 25 rfl (onP e11)
            refine stE hf hc rfl rfl rfl (eLd1 sc_3 rfl (cell_row (sz := 1) (i := x_14.toNat) (j := 0) m7 qr_11 rfl)) fun a w hf hc => ?_
            refine cNil ?_
            refine xThenN ?_
            intro ds u hau
            refine ⟨θ, he.put0 hi hau hf rfl 26 rfl rfl, ?_⟩
            exact hc
          · intro E θ a w hD hi hp he hc
            have e7 := hp.of (k := 7) rfl
            have e12 := hp.of (k := 12) rfl
            have hf := he.h0
            replace hf := hf.more he 21 rfl (onP e7)
            replace hf := hf.more he 26 rfl (onP e12)
            refine stE hf hc rfl rfl rfl (eC (v := .agg #[.int .i64 r_17.Lo, .int .i64 r_17.Hi]) (vs := [.int .i64 e_11, .int .i64 e_12]) (caps := []) en_47 rfl rfl rfl rfl (fun w hc => law07_span_ok e_11 e_12 hc hr_17)) fun a w hf hc => ?_
            refine cNil ?_
            refine xThenN ?_
            intro ds u hau
            refine ⟨θ, he.put0 hi hau hf rfl 27 rfl rfl, ?_⟩
            exact hc
          · intro E θ a w hD hi hp he hc
            have e1 := hp.of (k := 1) rfl
            have e2 := hp.of (k := 2) rfl
            have e15 := hD.f 0 rfl hi
            have e16 := hD.f 1 rfl e15
            try dsimp only at hc
            rw [e16] at hc
            have hf := he.h0
            replace hf := hf.more he 15 rfl (onP e1)
            replace hf := hf.more he 16 rfl (onP e2)
            refine stP hf rfl rfl rfl (pIA Try.underlying85 sz_92 rfl rfl qa_12) fun a hf => ?_
            refine cNil ?_
            refine xThenN ?_
            intro ds u hau
            refine ⟨θ, he.put0 hi hau hf rfl 28 rfl rfl, ?_⟩
            try dsimp only
            rw [updE_fls 14 e16 rfl]
            exact hc
          · intro E θ a w hD hi hp he hc
            have e14 := hp.of (k := 14) rfl
            have hf := he.h0
            replace hf := hf.more he 28 rfl (onP e14)
            refine stP hf rfl rfl rfl (pFA fa_92_2 rfl) fun a hf => ?_
            refine cNil ?_
            refine xThenN ?_
            intro ds u hau
            refine ⟨θ, he.put0 hi hau hf rfl 29 rfl rfl, ?_⟩
            exact hc
          · intro E θ a w hD hi hp he hc
            have e13 := hp.of (k := 13) rfl
            have e15 := hp.of (k := 15) rfl
            try dsimp only at hc
            rw [hi] at hc
            have hf := he.h0
            replace hf := hf.more he 27 rfl (onP e13)
            replace hf := hf.more he 29 rfl (onP e15)
            refine stRw (vs := [.int .i64 r_17.Lo, .int .i64 r_17.Hi]) (o' := 3) (z := (⟨e_13.At, e_13.Depth, r_17⟩ : gauge_Vertical)) (xs := x_17) hf hc rfl rfl rfl rfl sz_30 rfl (fun x => (one_enc_gauge_Vertical x).1) (getI_lt he_13) (fun e' he' => by cases (he'.symm.trans (getI_spec he_13).2); rfl) rfl u3 fun w hc => ?_
            refine cNil ?_
            refine xThenN ?_
            intro ds u hau
            refine ⟨θ, he.stay0 hi hau hf rfl, ?_⟩
            try dsimp only
            rw [updE_self E 16]
            exact hc
          · intro E θ a w hall he hc
            have hf := he.h0
            have e16 := hall 16 rfl
            replace hf := hf.more he 13 rfl (onT)
            replace hf := hf.more he 12 rfl (onT)
            replace hf := hf.more he 11 rfl (onT)
            replace hf := hf.more he 10 rfl (onT)
            replace hf := hf.more he 8 rfl (onT)
            replace hf := hf.more he 7 rfl (onT)
            replace hf := hf.more he 6 rfl (onT)
            replace hf := hf.more he 5 rfl (onT)
            replace hf := hf.more he 4 rfl (onT)
            replace hf := hf.more he 3 rfl (onT)
            replace hf := hf.more he 2 rfl (onT)
            replace hf := hf.more he 1 rfl (onT)
            replace hf := hf.more he 0 rfl (onT)
            try dsimp only at hc
            rw [e16] at hc
            exact ⟨hf.keep ⟨rfl, rfl, rfl, rfl, rfl, rfl, rfl, rfl, rfl, rfl, rfl, rfl, rfl, trivial⟩, hc⟩
          rintro a w ⟨hf, hc⟩
          rw [(by simp : x_17.length = (x_17.set x_14.toNat (⟨e_13.At, e_13.Depth, r_17⟩ : gauge_Vertical)).length)] at hc
          exact hj56 r_16.2.1 r_16.2.2 (x_17.set x_14.toNat (⟨e_13.At, e_13.Depth, r_17⟩ : gauge_Vertical)) (some ⟨g_6, 0, none⟩) c_14 (some ⟨g_7, 0, none⟩) c_15 _ _  (hf.keep ⟨rfl, rfl, rfl, rfl, rfl, rfl, rfl, rfl, rfl, rfl, rfl, rfl, rfl, trivial⟩) hc hF
        · replace hF := condF hb hF
          clear hb
          refine wp_skip ?_
          exact hj56 r_16.2.1 r_16.2.2 x_17 p_14 c_14 p_15 c_15 _ _  (hf.keep ⟨rfl, rfl, rfl, rfl, rfl, rfl, rfl, rfl, rfl, rfl, rfl, rfl, rfl, trivial⟩) hc hF
      · replace hF := condF hb hF
        clear hb
        refine wp_exit ?_
        refine xThen ?_
        refine xThen ?_
        have he := Option.some.inj hF
        rw [← he] at hfin35
        refine cHit ?_
        exact hr35 _ _ _ hfin35 ⟨p_14, c_14, p_15, c_15, hf.keep ⟨rfl, rfl, rfl, rfl, rfl, rfl, rfl, rfl, rfl, rfl, rfl, rfl, rfl, trivial⟩, hc⟩
    have ho30 : ∀ r, x30 = .out r → r = st7 := by
      rintro r rfl
      exact Option.some.inj hF
    refine cLoop N (loopW (S := S30) (x := x30) ?_ N (0, r_7.1.Speeds) _ _ ⟨p_10, c_10, hf.keep ⟨rfl, rfl, rfl, rfl, rfl, rfl, rfl, rfl, rfl, rfl, rfl, trivial⟩, hc⟩ hx30)
    clear hF hf hc
    rintro ⟨x_12, x_13⟩ st30 a w KB30 ⟨p_11, c_11, hf, hc⟩ hF hfin30 hK30
    unfold law07_DailyGauged_b30 at hF
    refine wp_seq_k fun K59 h59 => ?_
    refine cReg ?_
    refine stP hf rfl rfl rfl (pLt rfl rfl) fun a hf => ?_
    refine cNil ?_
    refine h59 _ _ ?_
    refine wp_seq_k fun K60 h60 => ?_
    refine cCond (b := (decide (x_12 < ((r_7.1.Speeds.length : Nat) : Int)))) hf rfl (fun hb => ?_) (fun hb => ?_)
    · replace hF := condT hb hF
      clear hb
      refine wp_skip ?_
      refine h60 _ _ ?_
      refine wp_seq_k fun K61 h61 => ?_
      refine wp_block ?_
      refine wp_seq_k fun K62 h62 => ?_
      refine cReg ?_
      refine stP hf rfl rfl rfl (pM rfl) fun a hf => ?_
      refine stP hf rfl rfl rfl (pA rfl) fun a hf => ?_
      refine cNil ?_
      refine h62 _ _ ?_
      obtain ⟨e_14, he_14, hF⟩ := bnd_some hF
      obtain ⟨g_8, rfl, qa_13, qr_13⟩ := row_atm hc m3 he_14
      obtain ⟨e_15, he_15, hF⟩ := bnd_some hF
      obtain ⟨qa_14, qr_14⟩ := row_atk hc m3 he_15
      refine regionE (fun θ => [⟨none, none, 7, .pointer (some ⟨b_1, 0, none⟩)⟩, ⟨none, none, 8, .pointer (some ⟨b_2, 0, none⟩)⟩, ⟨none, none, 9, .pointer (some ⟨b_3, 0, none⟩)⟩, ⟨none, none, 10, .pointer (some ⟨b_4, 0, none⟩)⟩, ⟨none, none, 11, .pointer (some ⟨b_5, 0, none⟩)⟩, ⟨none, none, 12, .slice p_1 truth.length c_1⟩, ⟨none, none, 13, .pointer (some ⟨b_6, 0, none⟩)⟩, ⟨none, none, 14, .int .i64 x_12⟩, ⟨none, none, 38, .int .i64 r_3.1⟩, ⟨none, none, 39, .int .i64 x⟩, ⟨none, none, 45, .int .i64 ((r_7.1.Speeds.length : Nat) : Int)⟩, ⟨none, none, 46, .int .i64 x_12⟩, ⟨some 0, none, 49, .pointer (some ⟨b_6, 4, none⟩)⟩, ⟨some 1, none, 50, .slice (some ⟨g_8, 0, none⟩) x_13.length c_11⟩, ⟨some 2, none, 51, .int .i64 x_12⟩, ⟨some 3, none, 52, .pointer (some ⟨b_6, 4, none⟩)⟩, ⟨some 4, none, 53, .slice (some ⟨g_8, 0, none⟩) x_13.length c_11⟩, ⟨some 5, none, 54, .int .i64 x_12⟩, ⟨some 6, none, 55, .pointer (some ⟨g_8, x_12.toNat * 1, none⟩)⟩, ⟨some 7, none, 56, .int .i64 e_14⟩, ⟨some 8, none, 57, .int .i64 (max 0 e_14)⟩, ⟨some 9, none, 58, .pointer (some ⟨g_8, x_12.toNat * 1, none⟩)⟩]) (fun E θ => .box b_6 [.int .i64 r_7.1.Left, .int .i64 r_7.1.Right, .slice p_8 r_7.1.At.length c_8, .slice p_9 r_7.1.Depth.length c_9, .slice (some ⟨g_8, 0, none⟩) x_13.length c_11] 83 :: .row p_8 c_8 (r_7.1.At.map encI_i64) 3 1 :: .row p_9 c_9 (r_7.1.Depth.map encI_i64) 3 1 :: (bif E 10 then .row (some ⟨g_8, 0, none⟩) c_11 ((x_13.set x_12.toNat (max 0 e_14)).map encI_i64) 3 1 else .row (some ⟨g_8, 0, none⟩) c_11 (x_13.map encI_i64) 3 1) :: .box b_1 [.slice numbers_p numbers.length numbers_c, .int .i64 r_7.2.1, .int .i64 r_7.2.2] 135 :: .row p_3 c_3 (x_10.map enc_daily_Value) 56 3 :: .row p_2 c_2 (x_9.map enc_daily_Value) 56 3 :: .row p_1 c_1 (truth.map encI_i64) 3 1 :: .box b_5 [.int .i64 0, .int .i64 0, .slice p_3 x_10.length c_3] 24 :: .box b_4 [.int .i64 x_7, .int .i64 x_8, .slice p_2 x_9.length c_2] 24 :: .box b_3 [.slice better_p better.length better_c, .int .i64 x_5, .int .i64 x_6] 135 :: .box b_2 [.slice errors_p errors.length errors_c, .int .i64 x_3, .int .i64 x_4] 135 :: Lf) [(10, 6), (10, 7), (10, 9)] (fun a w => Has 315 a [(7, .pointer (some ⟨b_1, 0, none⟩)), (8, .pointer (some ⟨b_2, 0, none⟩)), (9, .pointer (some ⟨b_3, 0, none⟩)), (10, .pointer (some ⟨b_4, 0, none⟩)), (11, .pointer (some ⟨b_5, 0, none⟩)), (12, .slice p_1 truth.length c_1), (13, .pointer (some ⟨b_6, 0, none⟩)), (38, .int .i64 r_3.1), (39, .int .i64 x), (45, .int .i64 ((r_7.1.Speeds.length : Nat) : Int)), (46, .int .i64 x_12)] ∧ Ctx G (.box b_6 [.int .i64 r_7.1.Left, .int .i64 r_7.1.Right, .slice p_8 r_7.1.At.length c_8, .slice p_9 r_7.1.Depth.length c_9, .slice (some ⟨g_8, 0, none⟩) x_13.length c_11] 83 :: .row p_8 c_8 (r_7.1.At.map encI_i64) 3 1 :: .row p_9 c_9 (r_7.1.Depth.map encI_i64) 3 1 :: .row (some ⟨g_8, 0, none⟩) c_11 ((x_13.set x_12.toNat (max 0 e_14)).map encI_i64) 3 1 :: .box b_1 [.slice numbers_p numbers.length numbers_c, .int .i64 r_7.2.1, .int .i64 r_7.2.2] 135 :: .row p_3 c_3 (x_10.map enc_daily_Value) 56 3 :: .row p_2 c_2 (x_9.map enc_daily_Value) 56 3 :: .row p_1 c_1 (truth.map encI_i64) 3 1 :: .box b_5 [.int .i64 0, .int .i64 0, .slice p_3 x_10.length c_3] 24 :: .box b_4 [.int .i64 x_7, .int .i64 x_8, .slice p_2 x_9.length c_2] 24 :: .box b_3 [.slice better_p better.length better_c, .int .i64 x_5, .int .i64 x_6] 135 :: .box b_2 [.slice errors_p errors.length errors_c, .int .i64 x_3, .int .i64 x_4] 135 :: Lf) w) follows_mx (by kernel_rfl) (by kernel_rfl) (HasE.of hf ⟨rfl, rfl, rfl, rfl, rfl, rfl, rfl, rfl, rfl, rfl, rfl, rfl, trivial, trivial, trivial, trivial, trivial, trivial, trivial, trivial, trivial, trivial, trivial⟩) hc ⟨?_, ?_, ?_, ?_, ?_, ?_, ?_, ?_, ?_, ?_, ?_, trivial⟩ ?_ ?_
      · intro E θ a w hD hi hp he hc
        have hf := he.h0
        replace hf := hf.more he 6 rfl onT
        refine stP hf rfl rfl rfl (pFA fa_83_4 rfl) fun a hf => ?_
        refine cNil ?_
        refine xThenN ?_
        intro ds u hau
        refine ⟨θ, he.put0 hi hau hf rfl 12 rfl rfl, ?_⟩
        exact hc
      · intro E θ a w hD hi hp he hc
        have e0 := hp.of (k := 0) rfl
        have hf := he.h0
        replace hf := hf.more he 12 rfl (onP e0)
        refine stE hf hc rfl rfl rfl (eLd1 sc_39 rfl (cell_box m0 rfl)) fun a w hf hc => ?_
        refine cNil ?_
        refine xThenN ?_
        intro ds u hau
        refine ⟨θ, he.put0 hi hau hf rfl 13 rfl rfl, ?_⟩
        exact hc
      · intro E θ a w hD hi hp he hc
        have hf := he.h0
        replace hf := hf.more he 7 rfl onT
        refine stP hf rfl rfl rfl (pM rfl) fun a hf => ?_
        refine cNil ?_
        refine xThenN ?_
        intro ds u hau
        refine ⟨θ, he.put0 hi hau hf rfl 14 rfl rfl, ?_⟩
        exact hc
      · intro E θ a w hD hi hp he hc
        have hf := he.h0
        replace hf := hf.more he 6 rfl onT
        refine stP hf rfl rfl rfl (pFA fa_83_4 rfl) fun a hf => ?_
        refine cNil ?_
        refine xThenN ?_
        intro ds u hau
        refine ⟨θ, he.put0 hi hau hf rfl 15 rfl rfl, ?_⟩
        exact hc
      · intro E θ a w hD hi hp he hc
        have e3 := hp.of (k := 3) rfl
        have hf := he.h0
        replace hf := hf.more he 15 rfl (onP e3)
        refine stE hf hc rfl rfl rfl (eLd1 sc_39 rfl (cell_box m0 rfl)) fun a w hf hc => ?_
        refine cNil ?_
        refine xThenN ?_
        intro ds u hau
        refine ⟨θ, he.put0 hi hau hf rfl 16 rfl rfl, ?_⟩
        exact hc
      · intro E θ a w hD hi hp he hc
        have hf := he.h0
        replace hf := hf.more he 7 rfl onT
        refine stP hf rfl rfl rfl (pM rfl) fun a hf => ?_
        refine cNil ?_
        refine xThenN ?_
        intro ds u hau
        refine ⟨θ, he.put0 hi hau hf rfl 17 rfl rfl, ?_⟩
        exact hc
      · intro E θ a w hD hi hp he hc
        have e4 := hp.of (k := 4) rfl
        have e5 := hp.of (k := 5) rfl
        have e10 := hD.f 0 rfl hi
        try dsimp only at hc
        rw [e10] at hc
        have hf := he.h0
        replace hf := hf.more he 16 rfl (onP e4)
        replace hf := hf.more he 17 rfl (onP e5)
        refine stP hf rfl rfl rfl (pIA Try.underlying39 sz_3 rfl rfl qa_13) fun a hf => ?_
        refine cNil ?_
        refine xThenN ?_
        intro ds u hau
        refine ⟨θ, he.put0 hi hau hf rfl 18 rfl rfl, ?_⟩
        try dsimp only
        rw [updE_fls 6 e10 rfl]
        exact hc
      · intro E θ a w hD hi hp he hc
        have e6 := hp.of (k := 6) rfl
        have e10 := hD.f 1 rfl hi
        try dsimp only at hc
        rw [e10] at hc
        have hf := he.h0
        replace hf := hf.more he 18 rfl (onP e6)
        refine stE hf hc rfl rfl rfl (eLd1 sc_3 rfl (cell_row (sz := 1) (i := x_12.toNat) (j := 0) m3 qr_13 rfl)) fun a w hf hc => ?_
        refine cNil ?_
        refine xThenN ?_
        intro ds u hau
        refine ⟨θ, he.put0 hi hau hf rfl 19 rfl rfl, ?_⟩
        try dsimp only
        rw [updE_fls 7 e10 rfl]
        exact hc
      · intro E θ a w hD hi hp he hc
        have e7 := hp.of (k := 7) rfl
        have hf := he.h0
        replace hf := hf.more he 19 rfl (onP e7)
        refine stP hf rfl rfl rfl (pMax2 rfl rfl) fun a hf => ?_
        refine cNil ?_
        refine xThenN ?_
        intro ds u hau
        refine ⟨θ, he.put0 hi hau hf rfl 20 rfl rfl, ?_⟩
        exact hc
      · intro E θ a w hD hi hp he hc
        have e1 := hp.of (k := 1) rfl
        have e2 := hp.of (k := 2) rfl
        have e10 := hD.f 2 rfl hi
        try dsimp only at hc
        rw [e10] at hc
        have hf := he.h0
        replace hf := hf.more he 13 rfl (onP e1)
        replace hf := hf.more he 14 rfl (onP e2)
        refine stP hf rfl rfl rfl (pIA Try.underlying39 sz_3 rfl rfl qa_14) fun a hf => ?_
        refine cNil ?_
        refine xThenN ?_
        intro ds u hau
        refine ⟨θ, he.put0 hi hau hf rfl 21 rfl rfl, ?_⟩
        try dsimp only
        rw [updE_fls 9 e10 rfl]
        exact hc
      · intro E θ a w hD hi hp he hc
        have e8 := hp.of (k := 8) rfl
        have e9 := hp.of (k := 9) rfl
        try dsimp only at hc
        rw [hi] at hc
        have hf := he.h0
        replace hf := hf.more he 20 rfl (onP e8)
        replace hf := hf.more he 21 rfl (onP e9)
        refine stRw (vs := [.int .i64 (max 0 e_14)]) (o' := 0) (z := max 0 e_14) (xs := x_13) hf hc rfl rfl rfl rfl sz_3 rfl (fun x => (one_encI_i64 x).1) (getI_lt he_15) (fun _ _ => rfl) rfl u3 fun w hc => ?_
        refine cNil ?_
        refine xThenN ?_
        intro ds u hau
        refine ⟨θ, he.stay0 hi hau hf rfl, ?_⟩
        try dsimp only
        rw [updE_self E 10]
        exact hc
      · intro E θ a w hall he hc
        have hf := he.h0
        have e10 := hall 10 rfl
        replace hf := hf.more he 11 rfl (onT)
        replace hf := hf.more he 10 rfl (onT)
        replace hf := hf.more he 9 rfl (onT)
        replace hf := hf.more he 8 rfl (onT)
        replace hf := hf.more he 6 rfl (onT)
        replace hf := hf.more he 5 rfl (onT)
        replace hf := hf.more he 4 rfl (onT)
        replace hf := hf.more he 3 rfl (onT)
        replace hf := hf.more he 2 rfl (onT)
        replace hf := hf.more he 1 rfl (onT)
        replace hf := hf.more he 0 rfl (onT)
        try dsimp only at hc
        rw [e10] at hc
        exact ⟨hf.keep ⟨rfl, rfl, rfl, rfl, rfl, rfl, rfl, rfl, rfl, rfl, rfl, trivial⟩, hc⟩
      rintro a w ⟨hf, hc⟩
      refine h61 _ _ ?_
      refine cReg ?_
      refine stP hf rfl rfl rfl (pAdd rfl rfl) fun a hf => ?_
      refine stP hf rfl rfl rfl (pM rfl) fun a hf => ?_
      refine cNil ?_
      rw [(by simp : x_13.length = (x_13.set x_12.toNat (max 0 e_14)).length)] at hc
      exact hK30 (W (x_12 + 1), (x_13.set x_12.toNat (max 0 e_14))) _ _ (Option.some.inj hF).symm ⟨(some ⟨g_8, 0, none⟩), c_11, hf.keep ⟨rfl, rfl, rfl, rfl, rfl, rfl, rfl, rfl, rfl, rfl, rfl, trivial⟩, hc⟩
    · replace hF := condF hb hF
      clear hb
      refine wp_exit ?_
      refine xThen ?_
      refine xThen ?_
      have he := Option.some.inj hF
      rw [← he] at hfin30
      refine cHit ?_
      exact hr30 _ _ _ hfin30 ⟨p_11, c_11, hf.keep ⟨rfl, rfl, rfl, rfl, rfl, rfl, rfl, rfl, rfl, rfl, rfl, trivial⟩, hc⟩
  · replace hF := condF hb hF
    clear hb
    refine wp_exit ?_
    refine xThen ?_
    refine xThen ?_
    have he := Option.some.inj hF
    rw [← he] at hfin7
    refine cHit ?_
    exact hr7 _ _ _ hfin7 ⟨p_1, c_1, p_2, c_2, p_3, c_3, hf.keep ⟨rfl, rfl, rfl, rfl, rfl, rfl, rfl, rfl, trivial⟩, hc⟩

end Go.Nilo
