/-
  What functions of the Go text compute, as plain functions, and that they do, part 4 of 4. Conditions: what each theorem names.
-/
import Derived.Test.YtbcaeppbfioogaaBt3
import Derived.Test.YtbcaeppbfioogaaProg
set_option linter.unusedVariables false
set_option linter.unusedSimpArgs false
set_option maxRecDepth 100000
set_option maxHeartbeats 4000000
namespace Go.Nilo
open Go.Proofs


def law07_DailyBetter_j42 (N : Nat) (x_6 : Int) (tight_1 : List api_Span) (want_1 : List Int) (x_9 : Int) (x_10 : Int) : Option (Step ((List api_Span) × (List Int) × Int × Int × Int) (Bool)) :=
  some (.cont (tight_1, want_1, W (x_6 + 1), x_9, x_10))
def law07_DailyBetter_b37 (N : Nat) (better : List Int) (r_12 : (List api_Span)) (tight : List api_Span) (want : List Int) (x_6 : Int) (x_7 : Int) (x_8 : Int) : Option (Step ((List api_Span) × (List Int) × Int × Int × Int) (Bool)) :=
  cond (decide (x_6 < ((r_12.length : Nat) : Int)))
  (Option.bind (Option.bind (kit_Stream_Next N (⟨better, x_7, x_8⟩ : kit_Stream) 3) fun r_16 =>
  cond (r_16.1 == 0)
  (Option.bind (getI tight x_6) fun e_1 =>
  some ((decide (e_1.Lo < e_1.Hi)), r_16.2.1, r_16.2.2))
  (some (false, r_16.2.1, r_16.2.2))) fun rg =>
  cond rg.1
  (Option.bind (getI tight x_6) fun e_2 =>
  Option.bind (getI tight x_6) fun e_3 =>
  Option.bind (room ((want ++ [x_6])).length) fun un_2 =>
  law07_DailyBetter_j42 N x_6 (tight.set x_6.toNat (⟨W (e_2.Lo + 1), e_3.Hi⟩ : api_Span)) (want ++ [x_6]) rg.2.1 rg.2.2)
  (law07_DailyBetter_j42 N x_6 tight want rg.2.1 rg.2.2))
  (some (.brk (tight, want, x_6, x_7, x_8)))
def law07_DailyBetter_b27 (N : Nat) (r_8 : api_Span × (List Int) × Int) (r_9 : api_Span × (List Int) × Int) (x_5 : Int) : Option (Step (Int) (Bool)) :=
  cond (decide (x_5 < ((r_9.2.1.length : Nat) : Int)))
  (Option.bind (getI r_9.2.1 x_5) fun e_4 =>
  Option.bind (slices_Contains_Lint_int N r_8.2.1 e_4) fun r_17 =>
  cond (!r_17)
  (some (.ret false))
  (some (.cont (W (x_5 + 1)))))
  (some (.brk x_5))
def law07_DailyBetter_b17 (N : Nat) (r_1 : daily_Record × (List Int) × Int × Int) (r_4 : (List api_Span) × Int) (r_5 : (List api_Span) × Int) (x_4 : Int) : Option (Step (Int) (Bool)) :=
  cond (decide (x_4 < ((r_4.1.length : Nat) : Int)))
  (Option.bind (getI r_5.1 x_4) fun e_5 =>
  Option.bind (getI r_4.1 x_4) fun e_6 =>
  Option.bind (cond (decide (e_5.Lo < e_6.Lo)) (some true) (Option.bind (getI r_5.1 x_4) fun e_7 =>
  Option.bind (getI r_4.1 x_4) fun e_8 =>
  some (decide (e_8.Hi < e_7.Hi)))) fun t_3 =>
  Option.bind (cond t_3 (some true) (Option.bind (getI r_5.1 x_4) fun e_9 =>
  Option.bind (getI r_1.2.1 x_4) fun e_10 =>
  some (decide (e_10 < e_9.Lo)))) fun t_4 =>
  Option.bind (cond t_4 (some true) (Option.bind (getI r_5.1 x_4) fun e_11 =>
  Option.bind (getI r_1.2.1 x_4) fun e_12 =>
  some (decide (e_11.Hi < e_12)))) fun t_5 =>
  cond t_5
  (some (.ret false))
  (some (.cont (W (x_4 + 1)))))
  (some (.brk x_4))
def law07_DailyBetter_j60 (N : Nat) (x_1 : Int) (x_14 : List daily_Value) (x_15 : Int) (x_16 : Int) : Option (Step ((List daily_Value) × Int × Int × Int) (Bool)) :=
  some (.cont (x_14, W (x_1 + 1), x_15, x_16))
def law07_DailyBetter_b7 (N : Nat) (better : List Int) (r_1 : daily_Record × (List Int) × Int × Int) (r_3 : daily_Record) (x : List daily_Value) (x_1 : Int) (x_2 : Int) (x_3 : Int) : Option (Step ((List daily_Value) × Int × Int × Int) (Bool)) :=
  cond (decide (x_1 < ((r_3.Days.length : Nat) : Int)))
  (Option.bind (getI x x_1) fun e_13 =>
  Option.bind (kit_Stream_Next N (⟨better, x_2, x_3⟩ : kit_Stream) 3) fun r_18 =>
  cond (decide (0 < r_18.1))
  (law07_DailyBetter_j60 N x_1 x r_18.2.1 r_18.2.2)
  (cond (!e_13.Known)
  (Option.bind (getI r_1.2.1 x_1) fun e_14 =>
  Option.bind (kit_Stream_Next N (⟨better, r_18.2.1, r_18.2.2⟩ : kit_Stream) 60) fun r_19 =>
  Option.bind (getI r_1.2.1 x_1) fun e_15 =>
  Option.bind (kit_Stream_Next N (⟨better, r_19.2.1, r_19.2.2⟩ : kit_Stream) 60) fun r_20 =>
  Option.bind (law07_known N (max 0 (W (e_14 - r_19.1))) (W (e_15 + r_20.1))) fun r_21 =>
  Option.bind (getI x x_1) fun e_16 =>
  law07_DailyBetter_j60 N x_1 (x.set x_1.toNat r_21) r_20.2.1 r_20.2.2)
  (Option.bind (getI r_1.2.1 x_1) fun e_17 =>
  Option.bind (kit_Stream_Within N (⟨better, r_18.2.1, r_18.2.2⟩ : kit_Stream) e_13.Flow.Lo e_17) fun r_22 =>
  Option.bind (getI r_1.2.1 x_1) fun e_18 =>
  Option.bind (kit_Stream_Within N (⟨better, r_22.2.1, r_22.2.2⟩ : kit_Stream) e_18 e_13.Flow.Hi) fun r_23 =>
  Option.bind (law07_known N r_22.1 r_23.1) fun r_24 =>
  Option.bind (getI x x_1) fun e_19 =>
  law07_DailyBetter_j60 N x_1 (x.set x_1.toNat r_24) r_23.2.1 r_23.2.2)))
  (some (.brk (x, x_1, x_2, x_3)))
def law07_DailyBetter (N : Nat) (numbers : List Int) (better : List Int) (a_ : Int) (b_ : Int) : Option (Bool) :=
  Option.bind (kit_New N numbers) fun r =>
  Option.bind (law07_Made N (⟨numbers, r.1, r.2⟩ : kit_Stream) 20) fun r_1 =>
  Option.bind (kit_New N better) fun r_2 =>
  Option.bind (law07_CopyRecord N r_1.1) fun r_3 =>
  Option.bind (loopO (fun s7 => law07_DailyBetter_b7 N better r_1 r_3 s7.1 s7.2.1 s7.2.2.1 s7.2.2.2) N (r_3.Days, 0, r_2.1, r_2.2)) fun x7 =>
  exK x7 (fun s7 => Option.bind (nz ((r_1.2.1.length : Nat) : Int)) fun un =>
  Option.bind (nz ((r_1.2.1.length : Nat) : Int)) fun un_1 =>
  Option.bind (daily_Fill N r_1.1) fun r_4 =>
  Option.bind (daily_Fill N (⟨r_3.Rise, r_3.Fall, s7.1⟩ : daily_Record)) fun r_5 =>
  cond ((((r_4.2 != 0) || (r_5.2 != 0)) || (((r_4.1.length : Nat) : Int) != ((r_1.2.1.length : Nat) : Int))) || (((r_5.1.length : Nat) : Int) != ((r_1.2.1.length : Nat) : Int)))
  (some false)
  (Option.bind (loopO (fun s17 => law07_DailyBetter_b17 N r_1 r_4 r_5 s17) N 0) fun x17 =>
  exK x17 (fun s17 => Option.bind (daily_Volume N r_1.1 (min ((W (a_)).tmod ((r_1.2.1.length : Nat) : Int)) ((W (b_)).tmod ((r_1.2.1.length : Nat) : Int))) (max ((W (a_)).tmod ((r_1.2.1.length : Nat) : Int)) ((W (b_)).tmod ((r_1.2.1.length : Nat) : Int)))) fun r_6 =>
  Option.bind (daily_Volume N (⟨r_3.Rise, r_3.Fall, s7.1⟩ : daily_Record) (min ((W (a_)).tmod ((r_1.2.1.length : Nat) : Int)) ((W (b_)).tmod ((r_1.2.1.length : Nat) : Int))) (max ((W (a_)).tmod ((r_1.2.1.length : Nat) : Int)) ((W (b_)).tmod ((r_1.2.1.length : Nat) : Int)))) fun r_7 =>
  Option.bind (daily_Peak N r_1.1) fun r_8 =>
  Option.bind (daily_Peak N (⟨r_3.Rise, r_3.Fall, s7.1⟩ : daily_Record)) fun r_9 =>
  cond ((((((((r_6.2 != 0) || (r_7.2 != 0)) || (r_8.2.2 != 0)) || (r_9.2.2 != 0)) || (decide (r_7.1.Lo < r_6.1.Lo))) || (decide (r_6.1.Hi < r_7.1.Hi))) || (decide (r_9.1.Lo < r_8.1.Lo))) || (decide (r_8.1.Hi < r_9.1.Hi)))
  (some false)
  (Option.bind (loopO (fun s27 => law07_DailyBetter_b27 N r_8 r_9 s27) N 0) fun x27 =>
  exK x27 (fun s27 => Option.bind (daily_Again N r_1.1 r_4.1) fun r_10 =>
  Option.bind (daily_Again N (⟨r_3.Rise, r_3.Fall, s7.1⟩ : daily_Record) r_4.1) fun r_11 =>
  cond ((((r_10.2 != 0) || (r_11.2 != 0)) || (((r_10.1.length : Nat) : Int) != 0)) || (((r_11.1.length : Nat) : Int) != 0))
  (some false)
  (Option.bind (kit_Copy_api_Span N r_4.1) fun r_12 =>
  Option.bind (loopO (fun s37 => law07_DailyBetter_b37 N better r_12 s37.1 s37.2.1 s37.2.2.1 s37.2.2.2.1 s37.2.2.2.2) N (r_12, ([] : List Int), 0, s7.2.2.1, s7.2.2.2)) fun x37 =>
  exK x37 (fun s37 => Option.bind (daily_Again N r_1.1 s37.1) fun r_13 =>
  Option.bind (cond (r_13.2 == 0) (Option.bind (kit_Same_int N r_13.1 s37.2.1) fun r_14 =>
  some r_14) (some false)) fun t_1 =>
  Option.bind (cond t_1 (Option.bind (law07_awake N) fun r_15 =>
  some r_15) (some false)) fun t_2 =>
  some t_2) some)) some)) some)) some
theorem law07_DailyBetter_ok {N : Nat} {G : Pers} {Lf : List Ent} {w : World} (numbers : List Int) (better : List Int) (a_ : Int) (b_ : Int) {numbers_p : Option Addr} {numbers_c : Nat} {better_p : Option Addr} {better_c : Nat} (h_numbers : Rd G 1 numbers_p numbers_c (numbers.map encI_u8)) (h_better : Rd G 1 better_p better_c (better.map encI_u8)) (hc : Ctx G (Lf) w) {res : Bool} (hF : law07_DailyBetter N numbers better a_ b_ = some res) : Calls Try.prog 5 #[.slice numbers_p numbers.length numbers_c, .slice better_p better.length better_c, .int .u8 a_, .int .u8 b_] w (fun e w => e = .returned (.bool res) ∧ Ctx G (Lf) w) := by
  unfold law07_DailyBetter at hF
  refine fnIn (args := [.slice numbers_p numbers.length numbers_c, .slice better_p better.length better_c, .int .u8 a_, .int .u8 b_]) Try.func5 rfl Try.ntmps5 rfl fun a hf => ?_
  refine wp_seq_k fun K1 h1 => ?_
  refine cReg ?_
  refine stP hf rfl rfl rfl (pA rfl) fun a hf => ?_
  refine cNil ?_
  refine h1 _ _ ?_
  refine wp_seq_k fun K2 h2 => ?_
  refine cReg ?_
  refine stP hf rfl rfl rfl (pM rfl) fun a hf => ?_
  obtain ⟨r, hr, hF⟩ := bnd_some hF
  refine stC (vs := [.slice numbers_p numbers.length numbers_c]) (caps := []) hf rfl rfl rfl en_26 rfl rfl rfl rfl (kit_New_ok numbers h_numbers hc hr) ?_
  rintro _ w ⟨b_1, rfl, hc⟩
  refine ⟨_, rfl, fun a hf => ?_⟩
  obtain ⟨r_1, hr_1, hF⟩ := bnd_some hF
  refine stC (vs := [.pointer (some ⟨b_1, 0, none⟩), .int .i64 20]) (caps := []) hf rfl rfl rfl en_25 rfl rfl rfl rfl (law07_Made_ok (⟨numbers, r.1, r.2⟩ : kit_Stream) 20 h_numbers (hc.pick k0) hr_1) ?_
  rintro _ w ⟨p_1, c_1, p_2, c_2, rfl, hc⟩
  refine ⟨_, rfl, fun a hf => ?_⟩
  refine stP hf rfl rfl rfl (pM rfl) fun a hf => ?_
  refine stP hf rfl rfl rfl (pX rfl rfl) fun a hf => ?_
  refine stP hf rfl rfl rfl (pX rfl rfl) fun a hf => ?_
  refine stAl (cs := [.int .i64 0, .int .i64 0, .slice none 0 0]) hf hc rfl rfl zr_24 rfl fun b_2 a w hf hc => ?_
  refine stSt (vs := [.int .i64 r_1.1.Rise, .int .i64 r_1.1.Fall, .slice p_1 r_1.1.Days.length c_1]) hf hc rfl rfl rfl rfl sz_24 rfl rfl u0 fun w hc => ?_
  refine stP hf rfl rfl rfl (pA rfl) fun a hf => ?_
  refine cNil ?_
  refine h2 _ _ ?_
  refine wp_seq_k fun K3 h3 => ?_
  refine cReg ?_
  refine stP hf rfl rfl rfl (pM rfl) fun a hf => ?_
  obtain ⟨r_2, hr_2, hF⟩ := bnd_some hF
  refine stC (vs := [.slice better_p better.length better_c]) (caps := []) hf rfl rfl rfl en_26 rfl rfl rfl rfl (kit_New_ok better h_better hc hr_2) ?_
  rintro _ w ⟨b_3, rfl, hc⟩
  refine ⟨_, rfl, fun a hf => ?_⟩
  refine stP hf rfl rfl rfl (pA rfl) fun a hf => ?_
  refine cNil ?_
  refine h3 _ _ ?_
  refine wp_seq_k fun K4 h4 => ?_
  refine cReg ?_
  refine stE hf hc rfl rfl rfl (eLdN (vs := [.int .i64 r_1.1.Rise, .int .i64 r_1.1.Fall, .slice p_1 r_1.1.Days.length c_1]) ag_24 rfl rfl (cells_box (n := 3) m1 rfl)) fun a w hf hc => ?_
  obtain ⟨r_3, hr_3, hF⟩ := bnd_some hF
  obtain ⟨G1, hle1, hrd1, hc, hth1⟩ := lend hc k2
  refine stC (vs := [.agg #[.int .i64 r_1.1.Rise, .int .i64 r_1.1.Fall, .slice p_1 r_1.1.Days.length c_1]]) (caps := []) hf rfl rfl rfl en_13 rfl rfl rfl rfl (law07_CopyRecord_ok r_1.1 hrd1 hc hr_3) ?_
  rintro _ w ⟨p_3, c_3, rfl, hc⟩
  refine ⟨_, rfl, fun a hf => ?_⟩
  replace hc := hth1 _ _ hc
  refine stAl (cs := [.int .i64 0, .int .i64 0, .slice none 0 0]) hf hc rfl rfl zr_24 rfl fun b_4 a w hf hc => ?_
  refine stSt (vs := [.int .i64 r_3.Rise, .int .i64 r_3.Fall, .slice p_3 r_3.Days.length c_3]) hf hc rfl rfl rfl rfl sz_24 rfl rfl u0 fun w hc => ?_
  refine cNil ?_
  refine h4 _ _ ?_
  refine wp_seq_k fun K5 h5 => ?_
  refine wp_seq_k fun K6 h6 => ?_
  refine cReg ?_
  refine stP hf rfl rfl rfl (pFA fa_24_2 rfl) fun a hf => ?_
  refine stE hf hc rfl rfl rfl (eLd1 sc_22 rfl (cell_box m0 rfl)) fun a w hf hc => ?_
  refine stP hf rfl rfl rfl (pLenS Try.underlying22 rfl) fun a hf => ?_
  refine stP hf rfl rfl rfl (pM rfl) fun a hf => ?_
  refine cNil ?_
  refine h6 _ _ ?_
  refine wp_block ?_
  obtain ⟨x7, hx7, hF⟩ := bnd_some hF
  let S7 : ((List daily_Value) × Int × Int × Int) → Act → World → Prop := (fun (zz : (List daily_Value) × Int × Int × Int) a w => ∃ (p_4 : Option Addr) (c_4 : Nat) (p_5 : Option Addr) (c_5 : Nat), Has 364 a [(2, .int .u8 a_), (3, .int .u8 b_), (9, .pointer (some ⟨b_2, 0, none⟩)), (10, .slice p_4 r_1.2.1.length c_4), (11, .pointer (some ⟨b_3, 0, none⟩)), (12, .pointer (some ⟨b_4, 0, none⟩)), (48, .slice p_5 zz.1.length c_5), (49, .int .i64 ((r_3.Days.length : Nat) : Int)), (50, .int .i64 zz.2.1)] ∧ Ctx G (.box b_4 [.int .i64 r_3.Rise, .int .i64 r_3.Fall, .slice p_5 zz.1.length c_5] 24 :: .row p_1 c_1 (r_1.1.Days.map enc_daily_Value) 56 3 :: .row p_5 c_5 (zz.1.map enc_daily_Value) 56 3 :: .box b_3 [.slice better_p better.length better_c, .int .i64 zz.2.2.1, .int .i64 zz.2.2.2] 135 :: .box b_2 [.int .i64 r_1.1.Rise, .int .i64 r_1.1.Fall, .slice p_1 r_1.1.Days.length c_1] 24 :: .row p_4 c_4 (r_1.2.1.map encI_i64) 3 1 :: Lf) w)
  have hr7 : ∀ (zz : (List daily_Value) × Int × Int × Int) a w, x7 = .go zz → S7 zz a w → K5 a w := by
    rintro ⟨x, x_1, x_2, x_3⟩ a w rfl ⟨p_4, c_4, p_5, c_5, hf, hc⟩
    replace hF := exK_go hF
    refine h5 _ _ ?_
    refine wp_seq_k fun K8 h8 => ?_
    obtain ⟨un, hun, hF⟩ := bnd_some hF
    obtain ⟨un_1, hun_1, hF⟩ := bnd_some hF
    refine cQ hc follows_mx (by kernel_rfl) ?_
    refine qE hf rfl rfl rfl (Pu.ev (pM rfl)) fun a hf => ?_
    refine qE hf rfl rfl rfl (Pu.ev (pCv Try.underlying5 Try.underlying3 rfl)) fun a hf => ?_
    refine qE hf rfl rfl rfl (Pu.ev (pM rfl)) fun a hf => ?_
    refine qE hf rfl rfl rfl (Pu.ev (pLenS Try.underlying39 rfl)) fun a hf => ?_
    refine qE hf rfl rfl rfl (Pu.ev (pRem rfl rfl (nz_spec hun))) fun a hf => ?_
    refine qE hf rfl rfl rfl (Pu.ev (pM rfl)) fun a hf => ?_
    refine qE hf rfl rfl rfl (Pu.ev (pCv Try.underlying5 Try.underlying3 rfl)) fun a hf => ?_
    refine qE hf rfl rfl rfl (Pu.ev (pM rfl)) fun a hf => ?_
    refine qE hf rfl rfl rfl (Pu.ev (pLenS Try.underlying39 rfl)) fun a hf => ?_
    refine qE hf rfl rfl rfl (Pu.ev (pRem rfl rfl (nz_spec hun_1))) fun a hf => ?_
    refine qE hf rfl rfl rfl (Pu.ev (pA rfl)) fun a hf => ?_
    refine qE hf rfl rfl rfl (Pu.ev (pA rfl)) fun a hf => ?_
    intro w hc
    refine h8 _ _ ?_
    refine wp_seq_k fun K9 h9 => ?_
    refine cReg ?_
    refine stP hf rfl rfl rfl (pM rfl) fun a hf => ?_
    refine stP hf rfl rfl rfl (pM rfl) fun a hf => ?_
    refine stP hf rfl rfl rfl (pMin2 rfl rfl) fun a hf => ?_
    refine stP hf rfl rfl rfl (pM rfl) fun a hf => ?_
    refine stP hf rfl rfl rfl (pM rfl) fun a hf => ?_
    refine stP hf rfl rfl rfl (pMax2 rfl rfl) fun a hf => ?_
    refine stP hf rfl rfl rfl (pA rfl) fun a hf => ?_
    refine stP hf rfl rfl rfl (pA rfl) fun a hf => ?_
    refine cNil ?_
    refine h9 _ _ ?_
    refine wp_seq_k fun K10 h10 => ?_
    refine cReg ?_
    refine stE hf hc rfl rfl rfl (eLdN (vs := [.int .i64 r_1.1.Rise, .int .i64 r_1.1.Fall, .slice p_1 r_1.1.Days.length c_1]) ag_24 rfl rfl (cells_box (n := 3) m4 rfl)) fun a w hf hc => ?_
    obtain ⟨r_4, hr_4, hF⟩ := bnd_some hF
    obtain ⟨G1, hle1, hrd1, hc, hth1⟩ := lend hc k1
    refine stC (vs := [.agg #[.int .i64 r_1.1.Rise, .int .i64 r_1.1.Fall, .slice p_1 r_1.1.Days.length c_1]]) (caps := []) hf rfl rfl rfl en_29 rfl rfl rfl rfl (daily_Fill_ok r_1.1 hrd1 hc hr_4) ?_
    rintro _ w ⟨p_6, c_6, rfl, hc⟩
    refine ⟨_, rfl, fun a hf => ?_⟩
    replace hc := hth1 _ _ hc
    refine stP hf rfl rfl rfl (pM rfl) fun a hf => ?_
    refine stP hf rfl rfl rfl (pX rfl rfl) fun a hf => ?_
    refine stP hf rfl rfl rfl (pX rfl rfl) fun a hf => ?_
    refine stP hf rfl rfl rfl (pA rfl) fun a hf => ?_
    refine stP hf rfl rfl rfl (pA rfl) fun a hf => ?_
    refine cNil ?_
    refine h10 _ _ ?_
    refine wp_seq_k fun K11 h11 => ?_
    refine cReg ?_
    refine stE hf hc rfl rfl rfl (eLdN (vs := [.int .i64 r_3.Rise, .int .i64 r_3.Fall, .slice p_5 x.length c_5]) ag_24 rfl rfl (cells_box (n := 3) m2 rfl)) fun a w hf hc => ?_
    obtain ⟨r_5, hr_5, hF⟩ := bnd_some hF
    obtain ⟨G1, hle1, hrd1, hc, hth1⟩ := lend hc k3
    refine stC (vs := [.agg #[.int .i64 r_3.Rise, .int .i64 r_3.Fall, .slice p_5 x.length c_5]]) (caps := []) hf rfl rfl rfl en_29 rfl rfl rfl rfl (daily_Fill_ok (⟨r_3.Rise, r_3.Fall, x⟩ : daily_Record) hrd1 hc hr_5) ?_
    rintro _ w ⟨p_7, c_7, rfl, hc⟩
    refine ⟨_, rfl, fun a hf => ?_⟩
    replace hc := hth1 _ _ hc
    refine stP hf rfl rfl rfl (pM rfl) fun a hf => ?_
    refine stP hf rfl rfl rfl (pX rfl rfl) fun a hf => ?_
    refine stP hf rfl rfl rfl (pX rfl rfl) fun a hf => ?_
    refine stP hf rfl rfl rfl (pA rfl) fun a hf => ?_
    refine stP hf rfl rfl rfl (pA rfl) fun a hf => ?_
    refine cNil ?_
    refine h11 _ _ ?_
    refine wp_seq_k fun K12 h12 => ?_
    refine wp_seq_k fun K13 h13 => ?_
    refine cReg ?_
    refine stP hf rfl rfl rfl (pM rfl) fun a hf => ?_
    refine stP hf rfl rfl rfl (pNe rfl rfl) fun a hf => ?_
    refine stP hf rfl rfl rfl (pM rfl) fun a hf => ?_
    refine stCut 3 (fun a w => Has 364 a [(9, .pointer (some ⟨b_2, 0, none⟩)), (10, .slice p_4 r_1.2.1.length c_4), (11, .pointer (some ⟨b_3, 0, none⟩)), (12, .pointer (some ⟨b_4, 0, none⟩)), (15, .int .i64 (min ((W (a_)).tmod ((r_1.2.1.length : Nat) : Int)) ((W (b_)).tmod ((r_1.2.1.length : Nat) : Int)))), (16, .int .i64 (max ((W (a_)).tmod ((r_1.2.1.length : Nat) : Int)) ((W (b_)).tmod ((r_1.2.1.length : Nat) : Int)))), (17, .slice p_6 r_4.1.length c_6), (18, .int .i64 r_4.2), (19, .slice p_7 r_5.1.length c_7), (20, .int .i64 r_5.2), (131, .int .i64 r_4.2), (132, .bool (r_4.2 != 0)), (133, .bool (r_4.2 != 0)), (136, .bool ((r_4.2 != 0) || (r_5.2 != 0)))] ∧ Ctx G (.row p_5 c_5 (x.map enc_daily_Value) 56 3 :: .row p_7 c_7 (r_5.1.map enc_api_Span) 30 2 :: .row p_1 c_1 (r_1.1.Days.map enc_daily_Value) 56 3 :: .row p_6 c_6 (r_4.1.map enc_api_Span) 30 2 :: .box b_4 [.int .i64 r_3.Rise, .int .i64 r_3.Fall, .slice p_5 x.length c_5] 24 :: .box b_3 [.slice better_p better.length better_c, .int .i64 x_2, .int .i64 x_3] 135 :: .box b_2 [.int .i64 r_1.1.Rise, .int .i64 r_1.1.Fall, .slice p_1 r_1.1.Days.length c_1] 24 :: .row p_4 c_4 (r_1.2.1.map encI_i64) 3 1 :: Lf) w) ?_ ?_
    · cases hb : (r_4.2 != 0)
      · rw [hb] at hf
        refine stP hf rfl rfl rfl (pM rfl) fun a hf => ?_
        refine stP hf rfl rfl rfl (pNe rfl rfl) fun a hf => ?_
        refine stP hf rfl rfl rfl (pPf rfl rfl) fun a hf => ?_
        exact cNil ⟨hf.keep ⟨rfl, rfl, rfl, rfl, rfl, rfl, rfl, rfl, rfl, rfl, rfl, rfl, rfl, rfl, trivial⟩, hc⟩
      · rw [hb] at hf
        refine stS hf rfl rfl rfl fun a hf => ?_
        refine stS hf rfl rfl rfl fun a hf => ?_
        refine stP hf rfl rfl rfl (pPt rfl rfl) fun a hf => ?_
        exact cNil ⟨hf.keep ⟨rfl, rfl, rfl, rfl, rfl, rfl, rfl, rfl, rfl, rfl, rfl, rfl, rfl, rfl, trivial⟩, hc⟩
    intro a w ⟨hf, hc⟩
    refine stP hf rfl rfl rfl (pM rfl) fun a hf => ?_
    refine stCut 6 (fun a w => Has 364 a [(9, .pointer (some ⟨b_2, 0, none⟩)), (10, .slice p_4 r_1.2.1.length c_4), (11, .pointer (some ⟨b_3, 0, none⟩)), (12, .pointer (some ⟨b_4, 0, none⟩)), (15, .int .i64 (min ((W (a_)).tmod ((r_1.2.1.length : Nat) : Int)) ((W (b_)).tmod ((r_1.2.1.length : Nat) : Int)))), (16, .int .i64 (max ((W (a_)).tmod ((r_1.2.1.length : Nat) : Int)) ((W (b_)).tmod ((r_1.2.1.length : Nat) : Int)))), (17, .slice p_6 r_4.1.length c_6), (18, .int .i64 r_4.2), (19, .slice p_7 r_5.1.length c_7), (20, .int .i64 r_5.2), (131, .int .i64 r_4.2), (132, .bool (r_4.2 != 0)), (133, .bool (r_4.2 != 0)), (136, .bool ((r_4.2 != 0) || (r_5.2 != 0))), (137, .bool ((r_4.2 != 0) || (r_5.2 != 0))), (143, .bool (((r_4.2 != 0) || (r_5.2 != 0)) || (((r_4.1.length : Nat) : Int) != ((r_1.2.1.length : Nat) : Int))))] ∧ Ctx G (.row p_5 c_5 (x.map enc_daily_Value) 56 3 :: .row p_7 c_7 (r_5.1.map enc_api_Span) 30 2 :: .row p_1 c_1 (r_1.1.Days.map enc_daily_Value) 56 3 :: .row p_6 c_6 (r_4.1.map enc_api_Span) 30 2 :: .box b_4 [.int .i64 r_3.Rise, .int .i64 r_3.Fall, .slice p_5 x.length c_5] 24 :: .box b_3 [.slice better_p better.length better_c, .int .i64 x_2, .int .i64 x_3] 135 :: .box b_2 [.int .i64 r_1.1.Rise, .int .i64 r_1.1.Fall, .slice p_1 r_1.1.Days.length c_1] 24 :: .row p_4 c_4 (r_1.2.1.map encI_i64) 3 1 :: Lf) w) ?_ ?_
    · cases hb : ((r_4.2 != 0) || (r_5.2 != 0))
      · rw [hb] at hf
        refine stP hf rfl rfl rfl (pM rfl) fun a hf => ?_
        refine stP hf rfl rfl rfl (pLenS Try.underlying25 rfl) fun a hf => ?_
        refine stP hf rfl rfl rfl (pM rfl) fun a hf => ?_
        refine stP hf rfl rfl rfl (pLenS Try.underlying39 rfl) fun a hf => ?_
        refine stP hf rfl rfl rfl (pNe rfl rfl) fun a hf => ?_
        refine stP hf rfl rfl rfl (pPf rfl rfl) fun a hf => ?_
        exact cNil ⟨hf.keep ⟨rfl, rfl, rfl, rfl, rfl, rfl, rfl, rfl, rfl, rfl, rfl, rfl, rfl, rfl, rfl, rfl, trivial⟩, hc⟩
      · rw [hb] at hf
        refine stS hf rfl rfl rfl fun a hf => ?_
        refine stS hf rfl rfl rfl fun a hf => ?_
        refine stS hf rfl rfl rfl fun a hf => ?_
        refine stS hf rfl rfl rfl fun a hf => ?_
        refine stS hf rfl rfl rfl fun a hf => ?_
        refine stP hf rfl rfl rfl (pPt rfl rfl) fun a hf => ?_
        exact cNil ⟨hf.keep ⟨rfl, rfl, rfl, rfl, rfl, rfl, rfl, rfl, rfl, rfl, rfl, rfl, rfl, rfl, rfl, rfl, trivial⟩, hc⟩
    intro a w ⟨hf, hc⟩
    refine stP hf rfl rfl rfl (pM rfl) fun a hf => ?_
    refine stCut 6 (fun a w => Has 364 a [(9, .pointer (some ⟨b_2, 0, none⟩)), (10, .slice p_4 r_1.2.1.length c_4), (11, .pointer (some ⟨b_3, 0, none⟩)), (12, .pointer (some ⟨b_4, 0, none⟩)), (15, .int .i64 (min ((W (a_)).tmod ((r_1.2.1.length : Nat) : Int)) ((W (b_)).tmod ((r_1.2.1.length : Nat) : Int)))), (16, .int .i64 (max ((W (a_)).tmod ((r_1.2.1.length : Nat) : Int)) ((W (b_)).tmod ((r_1.2.1.length : Nat) : Int)))), (17, .slice p_6 r_4.1.length c_6), (18, .int .i64 r_4.2), (19, .slice p_7 r_5.1.length c_7), (20, .int .i64 r_5.2), (131, .int .i64 r_4.2), (132, .bool (r_4.2 != 0)), (133, .bool (r_4.2 != 0)), (136, .bool ((r_4.2 != 0) || (r_5.2 != 0))), (137, .bool ((r_4.2 != 0) || (r_5.2 != 0))), (143, .bool (((r_4.2 != 0) || (r_5.2 != 0)) || (((r_4.1.length : Nat) : Int) != ((r_1.2.1.length : Nat) : Int)))), (144, .bool (((r_4.2 != 0) || (r_5.2 != 0)) || (((r_4.1.length : Nat) : Int) != ((r_1.2.1.length : Nat) : Int)))), (150, .bool ((((r_4.2 != 0) || (r_5.2 != 0)) || (((r_4.1.length : Nat) : Int) != ((r_1.2.1.length : Nat) : Int))) || (((r_5.1.length : Nat) : Int) != ((r_1.2.1.length : Nat) : Int))))] ∧ Ctx G (.row p_5 c_5 (x.map enc_daily_Value) 56 3 :: .row p_7 c_7 (r_5.1.map enc_api_Span) 30 2 :: .row p_1 c_1 (r_1.1.Days.map enc_daily_Value) 56 3 :: .row p_6 c_6 (r_4.1.map enc_api_Span) 30 2 :: .box b_4 [.int .i64 r_3.Rise, .int .i64 r_3.Fall, .slice p_5 x.length c_5] 24 :: .box b_3 [.slice better_p better.length better_c, .int .i64 x_2, .int .i64 x_3] 135 :: .box b_2 [.int .i64 r_1.1.Rise, .int .i64 r_1.1.Fall, .slice p_1 r_1.1.Days.length c_1] 24 :: .row p_4 c_4 (r_1.2.1.map encI_i64) 3 1 :: Lf) w) ?_ ?_
    · cases hb : (((r_4.2 != 0) || (r_5.2 != 0)) || (((r_4.1.length : Nat) : Int) != ((r_1.2.1.length : Nat) : Int)))
      · rw [hb] at hf
        refine stP hf rfl rfl rfl (pM rfl) fun a hf => ?_
        refine stP hf rfl rfl rfl (pLenS Try.underlying25 rfl) fun a hf => ?_
        refine stP hf rfl rfl rfl (pM rfl) fun a hf => ?_
        refine stP hf rfl rfl rfl (pLenS Try.underlying39 rfl) fun a hf => ?_
        refine stP hf rfl rfl rfl (pNe rfl rfl) fun a hf => ?_
        refine stP hf rfl rfl rfl (pPf rfl rfl) fun a hf => ?_
        exact cNil ⟨hf.keep ⟨rfl, rfl, rfl, rfl, rfl, rfl, rfl, rfl, rfl, rfl, rfl, rfl, rfl, rfl, rfl, rfl, rfl, rfl, trivial⟩, hc⟩
      · rw [hb] at hf
        refine stS hf rfl rfl rfl fun a hf => ?_
        refine stS hf rfl rfl rfl fun a hf => ?_
        refine stS hf rfl rfl rfl fun a hf => ?_
        refine stS hf rfl rfl rfl fun a hf => ?_
        refine stS hf rfl rfl rfl fun a hf => ?_
        refine stP hf rfl rfl rfl (pPt rfl rfl) fun a hf => ?_
        exact cNil ⟨hf.keep ⟨rfl, rfl, rfl, rfl, rfl, rfl, rfl, rfl, rfl, rfl, rfl, rfl, rfl, rfl, rfl, rfl, rfl, rfl, trivial⟩, hc⟩
    intro a w ⟨hf, hc⟩
    refine cNil ?_
    refine h13 _ _ ?_
    refine cCond (b := ((((r_4.2 != 0) || (r_5.2 != 0)) || (((r_4.1.length : Nat) : Int) != ((r_1.2.1.length : Nat) : Int))) || (((r_5.1.length : Nat) : Int) != ((r_1.2.1.length : Nat) : Int)))) hf rfl (fun hb => ?_) (fun hb => ?_)
    · replace hF := condT hb hF
      clear hb
      refine wp_seq_k fun K14 h14 => ?_
      refine cReg ?_
      refine stP hf rfl rfl rfl (pA rfl) fun a hf => ?_
      refine cNil ?_
      refine h14 _ _ ?_
      refine wp_ret ?_
      refine xThenR ?_
      obtain rfl := Option.some.inj hF
      replace hc := hc.drop k7
      replace hc := hc.drop k6
      replace hc := hc.drop k5
      replace hc := hc.drop k4
      replace hc := hc.drop k3
      replace hc := hc.drop k2
      replace hc := hc.drop k1
      replace hc := hc.drop k0
      exact fnOut1 (by simp) rfl Try.results5 hf hc (show look _ 8 = _ from rfl) ⟨rfl, hc⟩
    · replace hF := condF hb hF
      clear hb
      refine wp_skip ?_
      refine h12 _ _ ?_
      refine wp_seq_k fun K15 h15 => ?_
      refine wp_seq_k fun K16 h16 => ?_
      refine cReg ?_
      refine stP hf rfl rfl rfl (pM rfl) fun a hf => ?_
      refine stP hf rfl rfl rfl (pLenS Try.underlying25 rfl) fun a hf => ?_
      refine stP hf rfl rfl rfl (pM rfl) fun a hf => ?_
      refine cNil ?_
      refine h16 _ _ ?_
      refine wp_block ?_
      obtain ⟨x17, hx17, hF⟩ := bnd_some hF
      let S17 : Int → Act → World → Prop := (fun (zz : Int) a w => ∃ (p_8 : Option Addr) (c_8 : Nat) (p_9 : Option Addr) (c_9 : Nat), Has 364 a [(9, .pointer (some ⟨b_2, 0, none⟩)), (10, .slice p_4 r_1.2.1.length c_4), (11, .pointer (some ⟨b_3, 0, none⟩)), (12, .pointer (some ⟨b_4, 0, none⟩)), (15, .int .i64 (min ((W (a_)).tmod ((r_1.2.1.length : Nat) : Int)) ((W (b_)).tmod ((r_1.2.1.length : Nat) : Int)))), (16, .int .i64 (max ((W (a_)).tmod ((r_1.2.1.length : Nat) : Int)) ((W (b_)).tmod ((r_1.2.1.length : Nat) : Int)))), (17, .slice p_8 r_4.1.length c_8), (19, .slice p_9 r_5.1.length c_9), (152, .int .i64 ((r_4.1.length : Nat) : Int)), (153, .int .i64 zz)] ∧ Ctx G (.row p_5 c_5 (x.map enc_daily_Value) 56 3 :: .row p_9 c_9 (r_5.1.map enc_api_Span) 30 2 :: .row p_1 c_1 (r_1.1.Days.map enc_daily_Value) 56 3 :: .row p_8 c_8 (r_4.1.map enc_api_Span) 30 2 :: .box b_4 [.int .i64 r_3.Rise, .int .i64 r_3.Fall, .slice p_5 x.length c_5] 24 :: .box b_3 [.slice better_p better.length better_c, .int .i64 x_2, .int .i64 x_3] 135 :: .box b_2 [.int .i64 r_1.1.Rise, .int .i64 r_1.1.Fall, .slice p_1 r_1.1.Days.length c_1] 24 :: .row p_4 c_4 (r_1.2.1.map encI_i64) 3 1 :: Lf) w)
      have hr17 : ∀ (zz : Int) a w, x17 = .go zz → S17 zz a w → K15 a w := by
        rintro x_4 a w rfl ⟨p_8, c_8, p_9, c_9, hf, hc⟩
        replace hF := exK_go hF
        refine h15 _ _ ?_
        refine wp_seq_k fun K18 h18 => ?_
        refine cReg ?_
        refine stE hf hc rfl rfl rfl (eLdN (vs := [.int .i64 r_1.1.Rise, .int .i64 r_1.1.Fall, .slice p_1 r_1.1.Days.length c_1]) ag_24 rfl rfl (cells_box (n := 3) m6 rfl)) fun a w hf hc => ?_
        refine stP hf rfl rfl rfl (pM rfl) fun a hf => ?_
        refine stP hf rfl rfl rfl (pM rfl) fun a hf => ?_
        obtain ⟨r_6, hr_6, hF⟩ := bnd_some hF
        refine stE hf hc rfl rfl rfl (eC (v := .tuple #[.agg #[.int .i64 r_6.1.Lo, .int .i64 r_6.1.Hi], .int .i64 r_6.2]) (vs := [.agg #[.int .i64 r_1.1.Rise, .int .i64 r_1.1.Fall, .slice p_1 r_1.1.Days.length c_1], .int .i64 (min ((W (a_)).tmod ((r_1.2.1.length : Nat) : Int)) ((W (b_)).tmod ((r_1.2.1.length : Nat) : Int))), .int .i64 (max ((W (a_)).tmod ((r_1.2.1.length : Nat) : Int)) ((W (b_)).tmod ((r_1.2.1.length : Nat) : Int)))]) (caps := []) en_15 rfl rfl rfl rfl (fun w hc => by obtain ⟨G1, hle1, hrd1, hc, hth1⟩ := lend hc k2; exact (daily_Volume_ok r_1.1 (min ((W (a_)).tmod ((r_1.2.1.length : Nat) : Int)) ((W (b_)).tmod ((r_1.2.1.length : Nat) : Int))) (max ((W (a_)).tmod ((r_1.2.1.length : Nat) : Int)) ((W (b_)).tmod ((r_1.2.1.length : Nat) : Int))) hrd1 hc hr_6).mono fun e w h => ⟨h.1, ((hth1 _ _ h.2).unpick k2)⟩)) fun a w hf hc => ?_
        refine stP hf rfl rfl rfl (pM rfl) fun a hf => ?_
        refine stP hf rfl rfl rfl (pX rfl rfl) fun a hf => ?_
        refine stP hf rfl rfl rfl (pX rfl rfl) fun a hf => ?_
        refine stAl (cs := [.int .i64 0, .int .i64 0]) hf hc rfl rfl zr_30 rfl fun b_5 a w hf hc => ?_
        refine stSt (vs := [.int .i64 r_6.1.Lo, .int .i64 r_6.1.Hi]) hf hc rfl rfl rfl rfl sz_30 rfl rfl u0 fun w hc => ?_
        refine stP hf rfl rfl rfl (pA rfl) fun a hf => ?_
        refine cNil ?_
        refine h18 _ _ ?_
        refine wp_seq_k fun K19 h19 => ?_
        refine cReg ?_
        refine stE hf hc rfl rfl rfl (eLdN (vs := [.int .i64 r_3.Rise, .int .i64 r_3.Fall, .slice p_5 x.length c_5]) ag_24 rfl rfl (cells_box (n := 3) m5 rfl)) fun a w hf hc => ?_
        refine stP hf rfl rfl rfl (pM rfl) fun a hf => ?_
        refine stP hf rfl rfl rfl (pM rfl) fun a hf => ?_
        obtain ⟨r_7, hr_7, hF⟩ := bnd_some hF
        refine stE hf hc rfl rfl rfl (eC (v := .tuple #[.agg #[.int .i64 r_7.1.Lo, .int .i64 r_7.1.Hi], .int .i64 r_7.2]) (vs := [.agg #[.int .i64 r_3.Rise, .int .i64 r_3.Fall, .slice p_5 x.length c_5], .int .i64 (min ((W (a_)).tmod ((r_1.2.1.length : Nat) : Int)) ((W (b_)).tmod ((r_1.2.1.length : Nat) : Int))), .int .i64 (max ((W (a_)).tmod ((r_1.2.1.length : Nat) : Int)) ((W (b_)).tmod ((r_1.2.1.length : Nat) : Int)))]) (caps := []) en_15 rfl rfl rfl rfl (fun w hc => by obtain ⟨G1, hle1, hrd1, hc, hth1⟩ := lend hc k1; exact (daily_Volume_ok (⟨r_3.Rise, r_3.Fall, x⟩ : daily_Record) (min ((W (a_)).tmod ((r_1.2.1.length : Nat) : Int)) ((W (b_)).tmod ((r_1.2.1.length : Nat) : Int))) (max ((W (a_)).tmod ((r_1.2.1.length : Nat) : Int)) ((W (b_)).tmod ((r_1.2.1.length : Nat) : Int))) hrd1 hc hr_7).mono fun e w h => ⟨h.1, ((hth1 _ _ h.2).unpick k1)⟩)) fun a w hf hc => ?_
        refine stP hf rfl rfl rfl (pM rfl) fun a hf => ?_
        refine stP hf rfl rfl rfl (pX rfl rfl) fun a hf => ?_
        refine stP hf rfl rfl rfl (pX rfl rfl) fun a hf => ?_
        refine stAl (cs := [.int .i64 0, .int .i64 0]) hf hc rfl rfl zr_30 rfl fun b_6 a w hf hc => ?_
        refine stSt (vs := [.int .i64 r_7.1.Lo, .int .i64 r_7.1.Hi]) hf hc rfl rfl rfl rfl sz_30 rfl rfl u0 fun w hc => ?_
        refine stP hf rfl rfl rfl (pA rfl) fun a hf => ?_
        refine cNil ?_
        refine h19 _ _ ?_
        refine wp_seq_k fun K20 h20 => ?_
        refine cReg ?_
        refine stE hf hc rfl rfl rfl (eLdN (vs := [.int .i64 r_1.1.Rise, .int .i64 r_1.1.Fall, .slice p_1 r_1.1.Days.length c_1]) ag_24 rfl rfl (cells_box (n := 3) m8 rfl)) fun a w hf hc => ?_
        obtain ⟨r_8, hr_8, hF⟩ := bnd_some hF
        obtain ⟨G1, hle1, hrd1, hc, hth1⟩ := lend hc k4
        refine stC (vs := [.agg #[.int .i64 r_1.1.Rise, .int .i64 r_1.1.Fall, .slice p_1 r_1.1.Days.length c_1]]) (caps := []) hf rfl rfl rfl en_18 rfl rfl rfl rfl (daily_Peak_ok r_1.1 hrd1 hc hr_8) ?_
        rintro _ w ⟨p_10, c_10, rfl, hc⟩
        refine ⟨_, rfl, fun a hf => ?_⟩
        replace hc := hth1 _ _ hc
        refine stP hf rfl rfl rfl (pM rfl) fun a hf => ?_
        refine stP hf rfl rfl rfl (pX rfl rfl) fun a hf => ?_
        refine stP hf rfl rfl rfl (pX rfl rfl) fun a hf => ?_
        refine stP hf rfl rfl rfl (pX rfl rfl) fun a hf => ?_
        refine stAl (cs := [.int .i64 0, .int .i64 0]) hf hc rfl rfl zr_30 rfl fun b_7 a w hf hc => ?_
        refine stSt (vs := [.int .i64 r_8.1.Lo, .int .i64 r_8.1.Hi]) hf hc rfl rfl rfl rfl sz_30 rfl rfl u0 fun w hc => ?_
        refine stP hf rfl rfl rfl (pA rfl) fun a hf => ?_
        refine stP hf rfl rfl rfl (pA rfl) fun a hf => ?_
        refine cNil ?_
        refine h20 _ _ ?_
        refine wp_seq_k fun K21 h21 => ?_
        refine cReg ?_
        refine stE hf hc rfl rfl rfl (eLdN (vs := [.int .i64 r_3.Rise, .int .i64 r_3.Fall, .slice p_5 x.length c_5]) ag_24 rfl rfl (cells_box (n := 3) m8 rfl)) fun a w hf hc => ?_
        obtain ⟨r_9, hr_9, hF⟩ := bnd_some hF
        obtain ⟨G1, hle1, hrd1, hc, hth1⟩ := lend hc k5
        refine stC (vs := [.agg #[.int .i64 r_3.Rise, .int .i64 r_3.Fall, .slice p_5 x.length c_5]]) (caps := []) hf rfl rfl rfl en_18 rfl rfl rfl rfl (daily_Peak_ok (⟨r_3.Rise, r_3.Fall, x⟩ : daily_Record) hrd1 hc hr_9) ?_
        rintro _ w ⟨p_11, c_11, rfl, hc⟩
        refine ⟨_, rfl, fun a hf => ?_⟩
        replace hc := hth1 _ _ hc
        refine stP hf rfl rfl rfl (pM rfl) fun a hf => ?_
        refine stP hf rfl rfl rfl (pX rfl rfl) fun a hf => ?_
        refine stP hf rfl rfl rfl (pX rfl rfl) fun a hf => ?_
        refine stP hf rfl rfl rfl (pX rfl rfl) fun a hf => ?_
        refine stAl (cs := [.int .i64 0, .int .i64 0]) hf hc rfl rfl zr_30 rfl fun b_8 a w hf hc => ?_
        refine stSt (vs := [.int .i64 r_9.1.Lo, .int .i64 r_9.1.Hi]) hf hc rfl rfl rfl rfl sz_30 rfl rfl u0 fun w hc => ?_
        refine stP hf rfl rfl rfl (pA rfl) fun a hf => ?_
        refine stP hf rfl rfl rfl (pA rfl) fun a hf => ?_
        refine cNil ?_
        refine h21 _ _ ?_
        refine wp_seq_k fun K22 h22 => ?_
        refine wp_seq_k fun K23 h23 => ?_
        refine cReg ?_
        refine stP hf rfl rfl rfl (pM rfl) fun a hf => ?_
        refine stP hf rfl rfl rfl (pNe rfl rfl) fun a hf => ?_
        refine stP hf rfl rfl rfl (pM rfl) fun a hf => ?_
        refine stCut 3 (fun a w => Has 364 a [(9, .pointer (some ⟨b_2, 0, none⟩)), (11, .pointer (some ⟨b_3, 0, none⟩)), (12, .pointer (some ⟨b_4, 0, none⟩)), (17, .slice p_8 r_4.1.length c_8), (22, .pointer (some ⟨b_5, 0, none⟩)), (18, .int .i64 r_6.2), (23, .pointer (some ⟨b_6, 0, none⟩)), (20, .int .i64 r_7.2), (24, .pointer (some ⟨b_7, 0, none⟩)), (25, .slice p_10 r_8.2.1.length c_10), (26, .int .i64 r_8.2.2), (27, .pointer (some ⟨b_8, 0, none⟩)), (28, .slice p_11 r_9.2.1.length c_11), (29, .int .i64 r_9.2.2), (231, .int .i64 r_6.2), (232, .bool (r_6.2 != 0)), (233, .bool (r_6.2 != 0)), (236, .bool ((r_6.2 != 0) || (r_7.2 != 0)))] ∧ Ctx G (.box b_8 [.int .i64 r_9.1.Lo, .int .i64 r_9.1.Hi] 30 :: .row p_5 c_5 (x.map enc_daily_Value) 56 3 :: .row p_11 c_11 (r_9.2.1.map encI_i64) 3 1 :: .box b_7 [.int .i64 r_8.1.Lo, .int .i64 r_8.1.Hi] 30 :: .row p_1 c_1 (r_1.1.Days.map enc_daily_Value) 56 3 :: .row p_10 c_10 (r_8.2.1.map encI_i64) 3 1 :: .box b_6 [.int .i64 r_7.1.Lo, .int .i64 r_7.1.Hi] 30 :: .box b_5 [.int .i64 r_6.1.Lo, .int .i64 r_6.1.Hi] 30 :: .row p_9 c_9 (r_5.1.map enc_api_Span) 30 2 :: .row p_8 c_8 (r_4.1.map enc_api_Span) 30 2 :: .box b_4 [.int .i64 r_3.Rise, .int .i64 r_3.Fall, .slice p_5 x.length c_5] 24 :: .box b_3 [.slice better_p better.length better_c, .int .i64 x_2, .int .i64 x_3] 135 :: .box b_2 [.int .i64 r_1.1.Rise, .int .i64 r_1.1.Fall, .slice p_1 r_1.1.Days.length c_1] 24 :: .row p_4 c_4 (r_1.2.1.map encI_i64) 3 1 :: Lf) w) ?_ ?_
        · cases hb : (r_6.2 != 0)
          · rw [hb] at hf
            refine stP hf rfl rfl rfl (pM rfl) fun a hf => ?_
            refine stP hf rfl rfl rfl (pNe rfl rfl) fun a hf => ?_
            refine stP hf rfl rfl rfl (pPf rfl rfl) fun a hf => ?_
            exact cNil ⟨hf.keep ⟨rfl, rfl, rfl, rfl, rfl, rfl, rfl, rfl, rfl, rfl, rfl, rfl, rfl, rfl, rfl, rfl, rfl, rfl, trivial⟩, hc⟩
          · rw [hb] at hf
            refine stS hf rfl rfl rfl fun a hf => ?_
            refine stS hf rfl rfl rfl fun a hf => ?_
            refine stP hf rfl rfl rfl (pPt rfl rfl) fun a hf => ?_
            exact cNil ⟨hf.keep ⟨rfl, rfl, rfl, rfl, rfl, rfl, rfl, rfl, rfl, rfl, rfl, rfl, rfl, rfl, rfl, rfl, rfl, rfl, trivial⟩, hc⟩
        intro a w ⟨hf, hc⟩
        refine stP hf rfl rfl rfl (pM rfl) fun a hf => ?_
        refine stCut 3 (fun a w => Has 364 a [(9, .pointer (some ⟨b_2, 0, none⟩)), (11, .pointer (some ⟨b_3, 0, none⟩)), (12, .pointer (some ⟨b_4, 0, none⟩)), (17, .slice p_8 r_4.1.length c_8), (22, .pointer (some ⟨b_5, 0, none⟩)), (18, .int .i64 r_6.2), (23, .pointer (some ⟨b_6, 0, none⟩)), (20, .int .i64 r_7.2), (24, .pointer (some ⟨b_7, 0, none⟩)), (25, .slice p_10 r_8.2.1.length c_10), (26, .int .i64 r_8.2.2), (27, .pointer (some ⟨b_8, 0, none⟩)), (28, .slice p_11 r_9.2.1.length c_11), (29, .int .i64 r_9.2.2), (231, .int .i64 r_6.2), (232, .bool (r_6.2 != 0)), (233, .bool (r_6.2 != 0)), (236, .bool ((r_6.2 != 0) || (r_7.2 != 0))), (237, .bool ((r_6.2 != 0) || (r_7.2 != 0))), (240, .bool (((r_6.2 != 0) || (r_7.2 != 0)) || (r_8.2.2 != 0)))] ∧ Ctx G (.box b_8 [.int .i64 r_9.1.Lo, .int .i64 r_9.1.Hi] 30 :: .row p_5 c_5 (x.map enc_daily_Value) 56 3 :: .row p_11 c_11 (r_9.2.1.map encI_i64) 3 1 :: .box b_7 [.int .i64 r_8.1.Lo, .int .i64 r_8.1.Hi] 30 :: .row p_1 c_1 (r_1.1.Days.map enc_daily_Value) 56 3 :: .row p_10 c_10 (r_8.2.1.map encI_i64) 3 1 :: .box b_6 [.int .i64 r_7.1.Lo, .int .i64 r_7.1.Hi] 30 :: .box b_5 [.int .i64 r_6.1.Lo, .int .i64 r_6.1.Hi] 30 :: .row p_9 c_9 (r_5.1.map enc_api_Span) 30 2 :: .row p_8 c_8 (r_4.1.map enc_api_Span) 30 2 :: .box b_4 [.int .i64 r_3.Rise, .int .i64 r_3.Fall, .slice p_5 x.length c_5] 24 :: .box b_3 [.slice better_p better.length better_c, .int .i64 x_2, .int .i64 x_3] 135 :: .box b_2 [.int .i64 r_1.1.Rise, .int .i64 r_1.1.Fall, .slice p_1 r_1.1.Days.length c_1] 24 :: .row p_4 c_4 (r_1.2.1.map encI_i64) 3 1 :: Lf) w) ?_ ?_
        · cases hb : ((r_6.2 != 0) || (r_7.2 != 0))
          · rw [hb] at hf
            refine stP hf rfl rfl rfl (pM rfl) fun a hf => ?_
            refine stP hf rfl rfl rfl (pNe rfl rfl) fun a hf => ?_
            refine stP hf rfl rfl rfl (pPf rfl rfl) fun a hf => ?_
            exact cNil ⟨hf.keep ⟨rfl, rfl, rfl, rfl, rfl, rfl, rfl, rfl, rfl, rfl, rfl, rfl, rfl, rfl, rfl, rfl, rfl, rfl, rfl, rfl, trivial⟩, hc⟩
          · rw [hb] at hf
            refine stS hf rfl rfl rfl fun a hf => ?_
            refine stS hf rfl rfl rfl fun a hf => ?_
            refine stP hf rfl rfl rfl (pPt rfl rfl) fun a hf => ?_
            exact cNil ⟨hf.keep ⟨rfl, rfl, rfl, rfl, rfl, rfl, rfl, rfl, rfl, rfl, rfl, rfl, rfl, rfl, rfl, rfl, rfl, rfl, rfl, rfl, trivial⟩, hc⟩
        intro a w ⟨hf, hc⟩
        refine stP hf rfl rfl rfl (pM rfl) fun a hf => ?_
        refine stCut 3 (fun a w => Has 364 a [(9, .pointer (some ⟨b_2, 0, none⟩)), (11, .pointer (some ⟨b_3, 0, none⟩)), (12, .pointer (some ⟨b_4, 0, none⟩)), (17, .slice p_8 r_4.1.length c_8), (22, .pointer (some ⟨b_5, 0, none⟩)), (18, .int .i64 r_6.2), (23, .pointer (some ⟨b_6, 0, none⟩)), (20, .int .i64 r_7.2), (24, .pointer (some ⟨b_7, 0, none⟩)), (25, .slice p_10 r_8.2.1.length c_10), (26, .int .i64 r_8.2.2), (27, .pointer (some ⟨b_8, 0, none⟩)), (28, .slice p_11 r_9.2.1.length c_11), (29, .int .i64 r_9.2.2), (231, .int .i64 r_6.2), (232, .bool (r_6.2 != 0)), (233, .bool (r_6.2 != 0)), (236, .bool ((r_6.2 != 0) || (r_7.2 != 0))), (237, .bool ((r_6.2 != 0) || (r_7.2 != 0))), (240, .bool (((r_6.2 != 0) || (r_7.2 != 0)) || (r_8.2.2 != 0))), (241, .bool (((r_6.2 != 0) || (r_7.2 != 0)) || (r_8.2.2 != 0))), (244, .bool ((((r_6.2 != 0) || (r_7.2 != 0)) || (r_8.2.2 != 0)) || (r_9.2.2 != 0)))] ∧ Ctx G (.box b_8 [.int .i64 r_9.1.Lo, .int .i64 r_9.1.Hi] 30 :: .row p_5 c_5 (x.map enc_daily_Value) 56 3 :: .row p_11 c_11 (r_9.2.1.map encI_i64) 3 1 :: .box b_7 [.int .i64 r_8.1.Lo, .int .i64 r_8.1.Hi] 30 :: .row p_1 c_1 (r_1.1.Days.map enc_daily_Value) 56 3 :: .row p_10 c_10 (r_8.2.1.map encI_i64) 3 1 :: .box b_6 [.int .i64 r_7.1.Lo, .int .i64 r_7.1.Hi] 30 :: .box b_5 [.int .i64 r_6.1.Lo, .int .i64 r_6.1.Hi] 30 :: .row p_9 c_9 (r_5.1.map enc_api_Span) 30 2 :: .row p_8 c_8 (r_4.1.map enc_api_Span) 30 2 :: .box b_4 [.int .i64 r_3.Rise, .int .i64 r_3.Fall, .slice p_5 x.length c_5] 24 :: .box b_3 [.slice better_p better.length better_c, .int .i64 x_2, .int .i64 x_3] 135 :: .box b_2 [.int .i64 r_1.1.Rise, .int .i64 r_1.1.Fall, .slice p_1 r_1.1.Days.length c_1] 24 :: .row p_4 c_4 (r_1.2.1.map encI_i64) 3 1 :: Lf) w) ?_ ?_
        · cases hb : (((r_6.2 != 0) || (r_7.2 != 0)) || (r_8.2.2 != 0))
          · rw [hb] at hf
            refine stP hf rfl rfl rfl (pM rfl) fun a hf => ?_
            refine stP hf rfl rfl rfl (pNe rfl rfl) fun a hf => ?_
            refine stP hf rfl rfl rfl (pPf rfl rfl) fun a hf => ?_
            exact cNil ⟨hf.keep ⟨rfl, rfl, rfl, rfl, rfl, rfl, rfl, rfl, rfl, rfl, rfl, rfl, rfl, rfl, rfl, rfl, rfl, rfl, rfl, rfl, rfl, rfl, trivial⟩, hc⟩
          · rw [hb] at hf
            refine stS hf rfl rfl rfl fun a hf => ?_
            refine stS hf rfl rfl rfl fun a hf => ?_
            refine stP hf rfl rfl rfl (pPt rfl rfl) fun a hf => ?_
            exact cNil ⟨hf.keep ⟨rfl, rfl, rfl, rfl, rfl, rfl, rfl, rfl, rfl, rfl, rfl, rfl, rfl, rfl, rfl, rfl, rfl, rfl, rfl, rfl, rfl, rfl, trivial⟩, hc⟩
        intro a w ⟨hf, hc⟩
        refine stP hf rfl rfl rfl (pM rfl) fun a hf => ?_
        refine stCut 6 (fun a w => Has 364 a [(9, .pointer (some ⟨b_2, 0, none⟩)), (11, .pointer (some ⟨b_3, 0, none⟩)), (12, .pointer (some ⟨b_4, 0, none⟩)), (17, .slice p_8 r_4.1.length c_8), (22, .pointer (some ⟨b_5, 0, none⟩)), (18, .int .i64 r_6.2), (23, .pointer (some ⟨b_6, 0, none⟩)), (20, .int .i64 r_7.2), (24, .pointer (some ⟨b_7, 0, none⟩)), (25, .slice p_10 r_8.2.1.length c_10), (26, .int .i64 r_8.2.2), (27, .pointer (some ⟨b_8, 0, none⟩)), (28, .slice p_11 r_9.2.1.length c_11), (29, .int .i64 r_9.2.2), (231, .int .i64 r_6.2), (232, .bool (r_6.2 != 0)), (233, .bool (r_6.2 != 0)), (236, .bool ((r_6.2 != 0) || (r_7.2 != 0))), (237, .bool ((r_6.2 != 0) || (r_7.2 != 0))), (240, .bool (((r_6.2 != 0) || (r_7.2 != 0)) || (r_8.2.2 != 0))), (241, .bool (((r_6.2 != 0) || (r_7.2 != 0)) || (r_8.2.2 != 0))), (244, .bool ((((r_6.2 != 0) || (r_7.2 != 0)) || (r_8.2.2 != 0)) || (r_9.2.2 != 0))), (245, .bool ((((r_6.2 != 0) || (r_7.2 != 0)) || (r_8.2.2 != 0)) || (r_9.2.2 != 0))), (251, .bool (((((r_6.2 != 0) || (r_7.2 != 0)) || (r_8.2.2 != 0)) || (r_9.2.2 != 0)) || (decide (r_7.1.Lo < r_6.1.Lo))))] ∧ Ctx G (.box b_8 [.int .i64 r_9.1.Lo, .int .i64 r_9.1.Hi] 30 :: .row p_5 c_5 (x.map enc_daily_Value) 56 3 :: .row p_11 c_11 (r_9.2.1.map encI_i64) 3 1 :: .box b_7 [.int .i64 r_8.1.Lo, .int .i64 r_8.1.Hi] 30 :: .row p_1 c_1 (r_1.1.Days.map enc_daily_Value) 56 3 :: .row p_10 c_10 (r_8.2.1.map encI_i64) 3 1 :: .box b_6 [.int .i64 r_7.1.Lo, .int .i64 r_7.1.Hi] 30 :: .box b_5 [.int .i64 r_6.1.Lo, .int .i64 r_6.1.Hi] 30 :: .row p_9 c_9 (r_5.1.map enc_api_Span) 30 2 :: .row p_8 c_8 (r_4.1.map enc_api_Span) 30 2 :: .box b_4 [.int .i64 r_3.Rise, .int .i64 r_3.Fall, .slice p_5 x.length c_5] 24 :: .box b_3 [.slice better_p better.length better_c, .int .i64 x_2, .int .i64 x_3] 135 :: .box b_2 [.int .i64 r_1.1.Rise, .int .i64 r_1.1.Fall, .slice p_1 r_1.1.Days.length c_1] 24 :: .row p_4 c_4 (r_1.2.1.map encI_i64) 3 1 :: Lf) w) ?_ ?_
        · cases hb : ((((r_6.2 != 0) || (r_7.2 != 0)) || (r_8.2.2 != 0)) || (r_9.2.2 != 0))
          · rw [hb] at hf
            refine stP hf rfl rfl rfl (pFA fa_30_0 rfl) fun a hf => ?_
            refine stE hf hc rfl rfl rfl (eLd1 sc_3 rfl (cell_box m6 rfl)) fun a w hf hc => ?_
            refine stP hf rfl rfl rfl (pFA fa_30_0 rfl) fun a hf => ?_
            refine stE hf hc rfl rfl rfl (eLd1 sc_3 rfl (cell_box m7 rfl)) fun a w hf hc => ?_
            refine stP hf rfl rfl rfl (pLt rfl rfl) fun a hf => ?_
            refine stP hf rfl rfl rfl (pPf rfl rfl) fun a hf => ?_
            exact cNil ⟨hf.keep ⟨rfl, rfl, rfl, rfl, rfl, rfl, rfl, rfl, rfl, rfl, rfl, rfl, rfl, rfl, rfl, rfl, rfl, rfl, rfl, rfl, rfl, rfl, rfl, rfl, trivial⟩, hc⟩
          · rw [hb] at hf
            refine stS hf rfl rfl rfl fun a hf => ?_
            refine stS hf rfl rfl rfl fun a hf => ?_
            refine stS hf rfl rfl rfl fun a hf => ?_
            refine stS hf rfl rfl rfl fun a hf => ?_
            refine stS hf rfl rfl rfl fun a hf => ?_
            refine stP hf rfl rfl rfl (pPt rfl rfl) fun a hf => ?_
            exact cNil ⟨hf.keep ⟨rfl, rfl, rfl, rfl, rfl, rfl, rfl, rfl, rfl, rfl, rfl, rfl, rfl, rfl, rfl, rfl, rfl, rfl, rfl, rfl, rfl, rfl, rfl, rfl, trivial⟩, hc⟩
        intro a w ⟨hf, hc⟩
        refine stP hf rfl rfl rfl (pM rfl) fun a hf => ?_
        refine stCut 6 (fun a w => Has 364 a [(9, .pointer (some ⟨b_2, 0, none⟩)), (11, .pointer (some ⟨b_3, 0, none⟩)), (12, .pointer (some ⟨b_4, 0, none⟩)), (17, .slice p_8 r_4.1.length c_8), (22, .pointer (some ⟨b_5, 0, none⟩)), (18, .int .i64 r_6.2), (23, .pointer (some ⟨b_6, 0, none⟩)), (20, .int .i64 r_7.2), (24, .pointer (some ⟨b_7, 0, none⟩)), (25, .slice p_10 r_8.2.1.length c_10), (26, .int .i64 r_8.2.2), (27, .pointer (some ⟨b_8, 0, none⟩)), (28, .slice p_11 r_9.2.1.length c_11), (29, .int .i64 r_9.2.2), (231, .int .i64 r_6.2), (232, .bool (r_6.2 != 0)), (233, .bool (r_6.2 != 0)), (236, .bool ((r_6.2 != 0) || (r_7.2 != 0))), (237, .bool ((r_6.2 != 0) || (r_7.2 != 0))), (240, .bool (((r_6.2 != 0) || (r_7.2 != 0)) || (r_8.2.2 != 0))), (241, .bool (((r_6.2 != 0) || (r_7.2 != 0)) || (r_8.2.2 != 0))), (244, .bool ((((r_6.2 != 0) || (r_7.2 != 0)) || (r_8.2.2 != 0)) || (r_9.2.2 != 0))), (245, .bool ((((r_6.2 != 0) || (r_7.2 != 0)) || (r_8.2.2 != 0)) || (r_9.2.2 != 0))), (251, .bool (((((r_6.2 != 0) || (r_7.2 != 0)) || (r_8.2.2 != 0)) || (r_9.2.2 != 0)) || (decide (r_7.1.Lo < r_6.1.Lo)))), (252, .bool (((((r_6.2 != 0) || (r_7.2 != 0)) || (r_8.2.2 != 0)) || (r_9.2.2 != 0)) || (decide (r_7.1.Lo < r_6.1.Lo)))), (258, .bool ((((((r_6.2 != 0) || (r_7.2 != 0)) || (r_8.2.2 != 0)) || (r_9.2.2 != 0)) || (decide (r_7.1.Lo < r_6.1.Lo))) || (decide (r_6.1.Hi < r_7.1.Hi))))] ∧ Ctx G (.box b_8 [.int .i64 r_9.1.Lo, .int .i64 r_9.1.Hi] 30 :: .row p_5 c_5 (x.map enc_daily_Value) 56 3 :: .row p_11 c_11 (r_9.2.1.map encI_i64) 3 1 :: .box b_7 [.int .i64 r_8.1.Lo, .int .i64 r_8.1.Hi] 30 :: .row p_1 c_1 (r_1.1.Days.map enc_daily_Value) 56 3 :: .row p_10 c_10 (r_8.2.1.map encI_i64) 3 1 :: .box b_6 [.int .i64 r_7.1.Lo, .int .i64 r_7.1.Hi] 30 :: .box b_5 [.int .i64 r_6.1.Lo, .int .i64 r_6.1.Hi] 30 :: .row p_9 c_9 (r_5.1.map enc_api_Span) 30 2 :: .row p_8 c_8 (r_4.1.map enc_api_Span) 30 2 :: .box b_4 [.int .i64 r_3.Rise, .int .i64 r_3.Fall, .slice p_5 x.length c_5] 24 :: .box b_3 [.slice better_p better.length better_c, .int .i64 x_2, .int .i64 x_3] 135 :: .box b_2 [.int .i64 r_1.1.Rise, .int .i64 r_1.1.Fall, .slice p_1 r_1.1.Days.length c_1] 24 :: .row p_4 c_4 (r_1.2.1.map encI_i64) 3 1 :: Lf) w) ?_ ?_
        · cases hb : (((((r_6.2 != 0) || (r_7.2 != 0)) || (r_8.2.2 != 0)) || (r_9.2.2 != 0)) || (decide (r_7.1.Lo < r_6.1.Lo)))
          · rw [hb] at hf
            refine stP hf rfl rfl rfl (pFA fa_30_1 rfl) fun a hf => ?_
            refine stE hf hc rfl rfl rfl (eLd1 sc_3 rfl (cell_box m6 rfl)) fun a w hf hc => ?_
            refine stP hf rfl rfl rfl (pFA fa_30_1 rfl) fun a hf => ?_
            refine stE hf hc rfl rfl rfl (eLd1 sc_3 rfl (cell_box m7 rfl)) fun a w hf hc => ?_
            refine stP hf rfl rfl rfl (pGt rfl rfl) fun a hf => ?_
            refine stP hf rfl rfl rfl (pPf rfl rfl) fun a hf => ?_
            exact cNil ⟨hf.keep ⟨rfl, rfl, rfl, rfl, rfl, rfl, rfl, rfl, rfl, rfl, rfl, rfl, rfl, rfl, rfl, rfl, rfl, rfl, rfl, rfl, rfl, rfl, rfl, rfl, rfl, rfl, trivial⟩, hc⟩
          · rw [hb] at hf
            refine stS hf rfl rfl rfl fun a hf => ?_
            refine stS hf rfl rfl rfl fun a hf => ?_
            refine stS hf rfl rfl rfl fun a hf => ?_
            refine stS hf rfl rfl rfl fun a hf => ?_
            refine stS hf rfl rfl rfl fun a hf => ?_
            refine stP hf rfl rfl rfl (pPt rfl rfl) fun a hf => ?_
            exact cNil ⟨hf.keep ⟨rfl, rfl, rfl, rfl, rfl, rfl, rfl, rfl, rfl, rfl, rfl, rfl, rfl, rfl, rfl, rfl, rfl, rfl, rfl, rfl, rfl, rfl, rfl, rfl, rfl, rfl, trivial⟩, hc⟩
        intro a w ⟨hf, hc⟩
        refine stP hf rfl rfl rfl (pM rfl) fun a hf => ?_
        refine stCut 6 (fun a w => Has 364 a [(9, .pointer (some ⟨b_2, 0, none⟩)), (11, .pointer (some ⟨b_3, 0, none⟩)), (12, .pointer (some ⟨b_4, 0, none⟩)), (17, .slice p_8 r_4.1.length c_8), (22, .pointer (some ⟨b_5, 0, none⟩)), (18, .int .i64 r_6.2), (23, .pointer (some ⟨b_6, 0, none⟩)), (20, .int .i64 r_7.2), (24, .pointer (some ⟨b_7, 0, none⟩)), (25, .slice p_10 r_8.2.1.length c_10), (26, .int .i64 r_8.2.2), (27, .pointer (some ⟨b_8, 0, none⟩)), (28, .slice p_11 r_9.2.1.length c_11), (29, .int .i64 r_9.2.2), (231, .int .i64 r_6.2), (232, .bool (r_6.2 != 0)), (233, .bool (r_6.2 != 0)), (236, .bool ((r_6.2 != 0) || (r_7.2 != 0))), (237, .bool ((r_6.2 != 0) || (r_7.2 != 0))), (240, .bool (((r_6.2 != 0) || (r_7.2 != 0)) || (r_8.2.2 != 0))), (241, .bool (((r_6.2 != 0) || (r_7.2 != 0)) || (r_8.2.2 != 0))), (244, .bool ((((r_6.2 != 0) || (r_7.2 != 0)) || (r_8.2.2 != 0)) || (r_9.2.2 != 0))), (245, .bool ((((r_6.2 != 0) || (r_7.2 != 0)) || (r_8.2.2 != 0)) || (r_9.2.2 != 0))), (251, .bool (((((r_6.2 != 0) || (r_7.2 != 0)) || (r_8.2.2 != 0)) || (r_9.2.2 != 0)) || (decide (r_7.1.Lo < r_6.1.Lo)))), (252, .bool (((((r_6.2 != 0) || (r_7.2 != 0)) || (r_8.2.2 != 0)) || (r_9.2.2 != 0)) || (decide (r_7.1.Lo < r_6.1.Lo)))), (258, .bool ((((((r_6.2 != 0) || (r_7.2 != 0)) || (r_8.2.2 != 0)) || (r_9.2.2 != 0)) || (decide (r_7.1.Lo < r_6.1.Lo))) || (decide (r_6.1.Hi < r_7.1.Hi)))), (259, .bool ((((((r_6.2 != 0) || (r_7.2 != 0)) || (r_8.2.2 != 0)) || (r_9.2.2 != 0)) || (decide (r_7.1.Lo < r_6.1.Lo))) || (decide (r_6.1.Hi < r_7.1.Hi)))), (265, .bool (((((((r_6.2 != 0) || (r_7.2 != 0)) || (r_8.2.2 != 0)) || (r_9.2.2 != 0)) || (decide (r_7.1.Lo < r_6.1.Lo))) || (decide (r_6.1.Hi < r_7.1.Hi))) || (decide (r_9.1.Lo < r_8.1.Lo))))] ∧ Ctx G (.box b_8 [.int .i64 r_9.1.Lo, .int .i64 r_9.1.Hi] 30 :: .row p_5 c_5 (x.map enc_daily_Value) 56 3 :: .row p_11 c_11 (r_9.2.1.map encI_i64) 3 1 :: .box b_7 [.int .i64 r_8.1.Lo, .int .i64 r_8.1.Hi] 30 :: .row p_1 c_1 (r_1.1.Days.map enc_daily_Value) 56 3 :: .row p_10 c_10 (r_8.2.1.map encI_i64) 3 1 :: .box b_6 [.int .i64 r_7.1.Lo, .int .i64 r_7.1.Hi] 30 :: .box b_5 [.int .i64 r_6.1.Lo, .int .i64 r_6.1.Hi] 30 :: .row p_9 c_9 (r_5.1.map enc_api_Span) 30 2 :: .row p_8 c_8 (r_4.1.map enc_api_Span) 30 2 :: .box b_4 [.int .i64 r_3.Rise, .int .i64 r_3.Fall, .slice p_5 x.length c_5] 24 :: .box b_3 [.slice better_p better.length better_c, .int .i64 x_2, .int .i64 x_3] 135 :: .box b_2 [.int .i64 r_1.1.Rise, .int .i64 r_1.1.Fall, .slice p_1 r_1.1.Days.length c_1] 24 :: .row p_4 c_4 (r_1.2.1.map encI_i64) 3 1 :: Lf) w) ?_ ?_
        · cases hb : ((((((r_6.2 != 0) || (r_7.2 != 0)) || (r_8.2.2 != 0)) || (r_9.2.2 != 0)) || (decide (r_7.1.Lo < r_6.1.Lo))) || (decide (r_6.1.Hi < r_7.1.Hi)))
          · rw [hb] at hf
            refine stP hf rfl rfl rfl (pFA fa_30_0 rfl) fun a hf => ?_
            refine stE hf hc rfl rfl rfl (eLd1 sc_3 rfl (cell_box m0 rfl)) fun a w hf hc => ?_
            refine stP hf rfl rfl rfl (pFA fa_30_0 rfl) fun a hf => ?_
            refine stE hf hc rfl rfl rfl (eLd1 sc_3 rfl (cell_box m3 rfl)) fun a w hf hc => ?_
            refine stP hf rfl rfl rfl (pLt rfl rfl) fun a hf => ?_
            refine stP hf rfl rfl rfl (pPf rfl rfl) fun a hf => ?_
            exact cNil ⟨hf.keep ⟨rfl, rfl, rfl, rfl, rfl, rfl, rfl, rfl, rfl, rfl, rfl, rfl, rfl, rfl, rfl, rfl, rfl, rfl, rfl, rfl, rfl, rfl, rfl, rfl, rfl, rfl, rfl, rfl, trivial⟩, hc⟩
          · rw [hb] at hf
            refine stS hf rfl rfl rfl fun a hf => ?_
            refine stS hf rfl rfl rfl fun a hf => ?_
            refine stS hf rfl rfl rfl fun a hf => ?_
            refine stS hf rfl rfl rfl fun a hf => ?_
            refine stS hf rfl rfl rfl fun a hf => ?_
            refine stP hf rfl rfl rfl (pPt rfl rfl) fun a hf => ?_
            exact cNil ⟨hf.keep ⟨rfl, rfl, rfl, rfl, rfl, rfl, rfl, rfl, rfl, rfl, rfl, rfl, rfl, rfl, rfl, rfl, rfl, rfl, rfl, rfl, rfl, rfl, rfl, rfl, rfl, rfl, rfl, rfl, trivial⟩, hc⟩
        intro a w ⟨hf, hc⟩
        refine stP hf rfl rfl rfl (pM rfl) fun a hf => ?_
        refine stCut 6 (fun a w => Has 364 a ((9, .pointer (some ⟨b_2, 0, none⟩)) :: (11, .pointer (some ⟨b_3, 0, none⟩)) :: (12, .pointer (some ⟨b_4, 0, none⟩)) :: (17, .slice p_8 r_4.1.length c_8) :: (22, .pointer (some ⟨b_5, 0, none⟩)) :: (18, .int .i64 r_6.2) :: (23, .pointer (some ⟨b_6, 0, none⟩)) :: (20, .int .i64 r_7.2) :: (24, .pointer (some ⟨b_7, 0, none⟩)) :: (25, .slice p_10 r_8.2.1.length c_10) :: (26, .int .i64 r_8.2.2) :: (27, .pointer (some ⟨b_8, 0, none⟩)) :: (28, .slice p_11 r_9.2.1.length c_11) :: (29, .int .i64 r_9.2.2) :: (231, .int .i64 r_6.2) :: (232, .bool (r_6.2 != 0)) :: (233, .bool (r_6.2 != 0)) :: (236, .bool ((r_6.2 != 0) || (r_7.2 != 0))) :: (237, .bool ((r_6.2 != 0) || (r_7.2 != 0))) :: (240, .bool (((r_6.2 != 0) || (r_7.2 != 0)) || (r_8.2.2 != 0))) :: (241, .bool (((r_6.2 != 0) || (r_7.2 != 0)) || (r_8.2.2 != 0))) :: (244, .bool ((((r_6.2 != 0) || (r_7.2 != 0)) || (r_8.2.2 != 0)) || (r_9.2.2 != 0))) :: (245, .bool ((((r_6.2 != 0) || (r_7.2 != 0)) || (r_8.2.2 != 0)) || (r_9.2.2 != 0))) :: (251, .bool (((((r_6.2 != 0) || (r_7.2 != 0)) || (r_8.2.2 != 0)) || (r_9.2.2 != 0)) || (decide (r_7.1.Lo < r_6.1.Lo)))) :: (252, .bool (((((r_6.2 != 0) || (r_7.2 != 0)) || (r_8.2.2 != 0)) || (r_9.2.2 != 0)) || (decide (r_7.1.Lo < r_6.1.Lo)))) :: (258, .bool ((((((r_6.2 != 0) || (r_7.2 != 0)) || (r_8.2.2 != 0)) || (r_9.2.2 != 0)) || (decide (r_7.1.Lo < r_6.1.Lo))) || (decide (r_6.1.Hi < r_7.1.Hi)))) :: (259, .bool ((((((r_6.2 != 0) || (r_7.2 != 0)) || (r_8.2.2 != 0)) || (r_9.2.2 != 0)) || (decide (r_7.1.Lo < r_6.1.Lo))) || (decide (r_6.1.Hi < r_7.1.Hi)))) :: (265, .bool (((((((r_6.2 != 0) || (r_7.2 != 0)) || (r_8.2.2 != 0)) || (r_9.2.2 != 0)) || (decide (r_7.1.Lo < r_6.1.Lo))) || (decide (r_6.1.Hi < r_7.1.Hi))) || (decide (r_9.1.Lo < r_8.1.Lo)))) :: (266, .bool (((((((r_6.2 != 0) || (r_7.2 != 0)) || (r_8.2.2 != 0)) || (r_9.2.2 != 0)) || (decide (r_7.1.Lo < r_6.1.Lo))) || (decide (r_6.1.Hi < r_7.1.Hi))) || (decide (r_9.1.Lo < r_8.1.Lo)))) :: (272, .bool ((((((((r_6.2 != 0) || (r_7.2 != 0)) || (r_8.2.2 != 0)) || (r_9.2.2 != 0)) || (decide (r_7.1.Lo < r_6.1.Lo))) || (decide (r_6.1.Hi < r_7.1.Hi))) || (decide (r_9.1.Lo < r_8.1.Lo))) || (decide (r_8.1.Hi < r_9.1.Hi)))) :: []) ∧ Ctx G (.box b_8 [.int .i64 r_9.1.Lo, .int .i64 r_9.1.Hi] 30 :: .row p_5 c_5 (x.map enc_daily_Value) 56 3 :: .row p_11 c_11 (r_9.2.1.map encI_i64) 3 1 :: .box b_7 [.int .i64 r_8.1.Lo, .int .i64 r_8.1.Hi] 30 :: .row p_1 c_1 (r_1.1.Days.map enc_daily_Value) 56 3 :: .row p_10 c_10 (r_8.2.1.map encI_i64) 3 1 :: .box b_6 [.int .i64 r_7.1.Lo, .int .i64 r_7.1.Hi] 30 :: .box b_5 [.int .i64 r_6.1.Lo, .int .i64 r_6.1.Hi] 30 :: .row p_9 c_9 (r_5.1.map enc_api_Span) 30 2 :: .row p_8 c_8 (r_4.1.map enc_api_Span) 30 2 :: .box b_4 [.int .i64 r_3.Rise, .int .i64 r_3.Fall, .slice p_5 x.length c_5] 24 :: .box b_3 [.slice better_p better.length better_c, .int .i64 x_2, .int .i64 x_3] 135 :: .box b_2 [.int .i64 r_1.1.Rise, .int .i64 r_1.1.Fall, .slice p_1 r_1.1.Days.length c_1] 24 :: .row p_4 c_4 (r_1.2.1.map encI_i64) 3 1 :: Lf) w) ?_ ?_
        · cases hb : (((((((r_6.2 != 0) || (r_7.2 != 0)) || (r_8.2.2 != 0)) || (r_9.2.2 != 0)) || (decide (r_7.1.Lo < r_6.1.Lo))) || (decide (r_6.1.Hi < r_7.1.Hi))) || (decide (r_9.1.Lo < r_8.1.Lo)))
          · rw [hb] at hf
            refine stP hf rfl rfl rfl (pFA fa_30_1 rfl) fun a hf => ?_
            refine stE hf hc rfl rfl rfl (eLd1 sc_3 rfl (cell_box m0 rfl)) fun a w hf hc => ?_
            refine stP hf rfl rfl rfl (pFA fa_30_1 rfl) fun a hf => ?_
            refine stE hf hc rfl rfl rfl (eLd1 sc_3 rfl (cell_box m3 rfl)) fun a w hf hc => ?_
            refine stP hf rfl rfl rfl (pGt rfl rfl) fun a hf => ?_
            refine stP hf rfl rfl rfl (pPf rfl rfl) fun a hf => ?_
            exact cNil ⟨hf.keep ⟨rfl, rfl, rfl, rfl, rfl, rfl, rfl, rfl, rfl, rfl, rfl, rfl, rfl, rfl, rfl, rfl, rfl, rfl, rfl, rfl, rfl, rfl, rfl, rfl, rfl, rfl, rfl, rfl, rfl, rfl, trivial⟩, hc⟩
          · rw [hb] at hf
            refine stS hf rfl rfl rfl fun a hf => ?_
            refine stS hf rfl rfl rfl fun a hf => ?_
            refine stS hf rfl rfl rfl fun a hf => ?_
            refine stS hf rfl rfl rfl fun a hf => ?_
            refine stS hf rfl rfl rfl fun a hf => ?_
            refine stP hf rfl rfl rfl (pPt rfl rfl) fun a hf => ?_
            exact cNil ⟨hf.keep ⟨rfl, rfl, rfl, rfl, rfl, rfl, rfl, rfl, rfl, rfl, rfl, rfl, rfl, rfl, rfl, rfl, rfl, rfl, rfl, rfl, rfl, rfl, rfl, rfl, rfl, rfl, rfl, rfl, rfl, rfl, trivial⟩, hc⟩
        intro a w ⟨hf, hc⟩
        refine cNil ?_
        refine h23 _ _ ?_
        refine cCond (b := ((((((((r_6.2 != 0) || (r_7.2 != 0)) || (r_8.2.2 != 0)) || (r_9.2.2 != 0)) || (decide (r_7.1.Lo < r_6.1.Lo))) || (decide (r_6.1.Hi < r_7.1.Hi))) || (decide (r_9.1.Lo < r_8.1.Lo))) || (decide (r_8.1.Hi < r_9.1.Hi)))) hf rfl (fun hb => ?_) (fun hb => ?_)
        · replace hF := condT hb hF
          clear hb
          refine wp_seq_k fun K24 h24 => ?_
          refine cReg ?_
          refine stP hf rfl rfl rfl (pA rfl) fun a hf => ?_
          refine cNil ?_
          refine h24 _ _ ?_
          refine wp_ret ?_
          refine xThenR ?_
          obtain rfl := Option.some.inj hF
          replace hc := hc.drop k13
          replace hc := hc.drop k12
          replace hc := hc.drop k11
          replace hc := hc.drop k10
          replace hc := hc.drop k9
          replace hc := hc.drop k8
          replace hc := hc.drop k7
          replace hc := hc.drop k6
          replace hc := hc.drop k5
          replace hc := hc.drop k4
          replace hc := hc.drop k3
          replace hc := hc.drop k2
          replace hc := hc.drop k1
          replace hc := hc.drop k0
          exact fnOut1 (by simp) rfl Try.results5 hf hc (show look _ 8 = _ from rfl) ⟨rfl, hc⟩
        · replace hF := condF hb hF
          clear hb
          refine wp_skip ?_
          refine h22 _ _ ?_
          refine wp_seq_k fun K25 h25 => ?_
          refine wp_seq_k fun K26 h26 => ?_
          refine cReg ?_
          refine stP hf rfl rfl rfl (pM rfl) fun a hf => ?_
          refine stP hf rfl rfl rfl (pLenS Try.underlying39 rfl) fun a hf => ?_
          refine stP hf rfl rfl rfl (pM rfl) fun a hf => ?_
          refine cNil ?_
          refine h26 _ _ ?_
          refine wp_block ?_
          obtain ⟨x27, hx27, hF⟩ := bnd_some hF
          let S27 : Int → Act → World → Prop := (fun (zz : Int) a w => ∃ (p_12 : Option Addr) (c_12 : Nat), Has 364 a [(9, .pointer (some ⟨b_2, 0, none⟩)), (11, .pointer (some ⟨b_3, 0, none⟩)), (12, .pointer (some ⟨b_4, 0, none⟩)), (17, .slice p_8 r_4.1.length c_8), (25, .slice p_10 r_8.2.1.length c_10), (273, .slice p_12 r_9.2.1.length c_12), (274, .int .i64 ((r_9.2.1.length : Nat) : Int)), (275, .int .i64 zz)] ∧ Ctx G (.row p_5 c_5 (x.map enc_daily_Value) 56 3 :: .row p_12 c_12 (r_9.2.1.map encI_i64) 3 1 :: .row p_1 c_1 (r_1.1.Days.map enc_daily_Value) 56 3 :: .row p_10 c_10 (r_8.2.1.map encI_i64) 3 1 :: .row p_8 c_8 (r_4.1.map enc_api_Span) 30 2 :: .box b_4 [.int .i64 r_3.Rise, .int .i64 r_3.Fall, .slice p_5 x.length c_5] 24 :: .box b_3 [.slice better_p better.length better_c, .int .i64 x_2, .int .i64 x_3] 135 :: .box b_2 [.int .i64 r_1.1.Rise, .int .i64 r_1.1.Fall, .slice p_1 r_1.1.Days.length c_1] 24 :: Lf) w)
          have hr27 : ∀ (zz : Int) a w, x27 = .go zz → S27 zz a w → K25 a w := by
            rintro x_5 a w rfl ⟨p_12, c_12, hf, hc⟩
            replace hF := exK_go hF
            refine h25 _ _ ?_
            refine wp_seq_k fun K28 h28 => ?_
            refine cReg ?_
            refine stE hf hc rfl rfl rfl (eLdN (vs := [.int .i64 r_1.1.Rise, .int .i64 r_1.1.Fall, .slice p_1 r_1.1.Days.length c_1]) ag_24 rfl rfl (cells_box (n := 3) m7 rfl)) fun a w hf hc => ?_
            refine stP hf rfl rfl rfl (pM rfl) fun a hf => ?_
            obtain ⟨r_10, hr_10, hF⟩ := bnd_some hF
            obtain ⟨G1, hle1, hrd1, hc, hth1⟩ := lend hc k2
            obtain ⟨G2, hle2, hrd2, hc, hth2⟩ := lend hc k3
            refine stC (vs := [.agg #[.int .i64 r_1.1.Rise, .int .i64 r_1.1.Fall, .slice p_1 r_1.1.Days.length c_1], .slice p_8 r_4.1.length c_8]) (caps := []) hf rfl rfl rfl en_21 rfl rfl rfl rfl (daily_Again_ok r_1.1 r_4.1 (hrd1.mono hle2) hrd2 hc hr_10) ?_
            rintro _ w ⟨p_13, c_13, rfl, hc⟩
            refine ⟨_, rfl, fun a hf => ?_⟩
            replace hc := hth2 _ _ hc
            replace hc := hth1 _ _ hc
            refine stP hf rfl rfl rfl (pM rfl) fun a hf => ?_
            refine stP hf rfl rfl rfl (pX rfl rfl) fun a hf => ?_
            refine stP hf rfl rfl rfl (pX rfl rfl) fun a hf => ?_
            refine stP hf rfl rfl rfl (pA rfl) fun a hf => ?_
            refine stP hf rfl rfl rfl (pA rfl) fun a hf => ?_
            refine cNil ?_
            refine h28 _ _ ?_
            refine wp_seq_k fun K29 h29 => ?_
            refine cReg ?_
            refine stE hf hc rfl rfl rfl (eLdN (vs := [.int .i64 r_3.Rise, .int .i64 r_3.Fall, .slice p_5 x.length c_5]) ag_24 rfl rfl (cells_box (n := 3) m6 rfl)) fun a w hf hc => ?_
            refine stP hf rfl rfl rfl (pM rfl) fun a hf => ?_
            obtain ⟨r_11, hr_11, hF⟩ := bnd_some hF
            obtain ⟨G1, hle1, hrd1, hc, hth1⟩ := lend hc k3
            obtain ⟨G2, hle2, hrd2, hc, hth2⟩ := lend hc k1
            refine stC (vs := [.agg #[.int .i64 r_3.Rise, .int .i64 r_3.Fall, .slice p_5 x.length c_5], .slice p_8 r_4.1.length c_8]) (caps := []) hf rfl rfl rfl en_21 rfl rfl rfl rfl (daily_Again_ok (⟨r_3.Rise, r_3.Fall, x⟩ : daily_Record) r_4.1 (hrd1.mono hle2) hrd2 hc hr_11) ?_
            rintro _ w ⟨p_14, c_14, rfl, hc⟩
            refine ⟨_, rfl, fun a hf => ?_⟩
            replace hc := hth2 _ _ hc
            replace hc := hth1 _ _ hc
            refine stP hf rfl rfl rfl (pM rfl) fun a hf => ?_
            refine stP hf rfl rfl rfl (pX rfl rfl) fun a hf => ?_
            refine stP hf rfl rfl rfl (pX rfl rfl) fun a hf => ?_
            refine stP hf rfl rfl rfl (pA rfl) fun a hf => ?_
            refine stP hf rfl rfl rfl (pA rfl) fun a hf => ?_
            refine cNil ?_
            refine h29 _ _ ?_
            refine wp_seq_k fun K30 h30 => ?_
            refine wp_seq_k fun K31 h31 => ?_
            refine cReg ?_
            refine stP hf rfl rfl rfl (pM rfl) fun a hf => ?_
            refine stP hf rfl rfl rfl (pNe rfl rfl) fun a hf => ?_
            refine stP hf rfl rfl rfl (pM rfl) fun a hf => ?_
            refine stCut 3 (fun a w => Has 364 a [(9, .pointer (some ⟨b_2, 0, none⟩)), (11, .pointer (some ⟨b_3, 0, none⟩)), (17, .slice p_8 r_4.1.length c_8), (32, .slice p_13 r_10.1.length c_13), (18, .int .i64 r_10.2), (33, .slice p_14 r_11.1.length c_14), (20, .int .i64 r_11.2), (296, .int .i64 r_10.2), (297, .bool (r_10.2 != 0)), (298, .bool (r_10.2 != 0)), (301, .bool ((r_10.2 != 0) || (r_11.2 != 0)))] ∧ Ctx G (.row p_5 c_5 (x.map enc_daily_Value) 56 3 :: .row p_8 c_8 (r_4.1.map enc_api_Span) 30 2 :: .row p_14 c_14 (r_11.1.map encI_i64) 3 1 :: .row p_1 c_1 (r_1.1.Days.map enc_daily_Value) 56 3 :: .row p_13 c_13 (r_10.1.map encI_i64) 3 1 :: .row p_12 c_12 (r_9.2.1.map encI_i64) 3 1 :: .row p_10 c_10 (r_8.2.1.map encI_i64) 3 1 :: .box b_4 [.int .i64 r_3.Rise, .int .i64 r_3.Fall, .slice p_5 x.length c_5] 24 :: .box b_3 [.slice better_p better.length better_c, .int .i64 x_2, .int .i64 x_3] 135 :: .box b_2 [.int .i64 r_1.1.Rise, .int .i64 r_1.1.Fall, .slice p_1 r_1.1.Days.length c_1] 24 :: Lf) w) ?_ ?_
            · cases hb : (r_10.2 != 0)
              · rw [hb] at hf
                refine stP hf rfl rfl rfl (pM rfl) fun a hf => ?_
                refine stP hf rfl rfl rfl (pNe rfl rfl) fun a hf => ?_
                refine stP hf rfl rfl rfl (pPf rfl rfl) fun a hf => ?_
                exact cNil ⟨hf.keep ⟨rfl, rfl, rfl, rfl, rfl, rfl, rfl, rfl, rfl, rfl, rfl, trivial⟩, hc⟩
              · rw [hb] at hf
                refine stS hf rfl rfl rfl fun a hf => ?_
                refine stS hf rfl rfl rfl fun a hf => ?_
                refine stP hf rfl rfl rfl (pPt rfl rfl) fun a hf => ?_
                exact cNil ⟨hf.keep ⟨rfl, rfl, rfl, rfl, rfl, rfl, rfl, rfl, rfl, rfl, rfl, trivial⟩, hc⟩
            intro a w ⟨hf, hc⟩
            refine stP hf rfl rfl rfl (pM rfl) fun a hf => ?_
            refine stCut 4 (fun a w => Has 364 a [(9, .pointer (some ⟨b_2, 0, none⟩)), (11, .pointer (some ⟨b_3, 0, none⟩)), (17, .slice p_8 r_4.1.length c_8), (32, .slice p_13 r_10.1.length c_13), (18, .int .i64 r_10.2), (33, .slice p_14 r_11.1.length c_14), (20, .int .i64 r_11.2), (296, .int .i64 r_10.2), (297, .bool (r_10.2 != 0)), (298, .bool (r_10.2 != 0)), (301, .bool ((r_10.2 != 0) || (r_11.2 != 0))), (302, .bool ((r_10.2 != 0) || (r_11.2 != 0))), (306, .bool (((r_10.2 != 0) || (r_11.2 != 0)) || (((r_10.1.length : Nat) : Int) != 0)))] ∧ Ctx G (.row p_5 c_5 (x.map enc_daily_Value) 56 3 :: .row p_8 c_8 (r_4.1.map enc_api_Span) 30 2 :: .row p_14 c_14 (r_11.1.map encI_i64) 3 1 :: .row p_1 c_1 (r_1.1.Days.map enc_daily_Value) 56 3 :: .row p_13 c_13 (r_10.1.map encI_i64) 3 1 :: .row p_12 c_12 (r_9.2.1.map encI_i64) 3 1 :: .row p_10 c_10 (r_8.2.1.map encI_i64) 3 1 :: .box b_4 [.int .i64 r_3.Rise, .int .i64 r_3.Fall, .slice p_5 x.length c_5] 24 :: .box b_3 [.slice better_p better.length better_c, .int .i64 x_2, .int .i64 x_3] 135 :: .box b_2 [.int .i64 r_1.1.Rise, .int .i64 r_1.1.Fall, .slice p_1 r_1.1.Days.length c_1] 24 :: Lf) w) ?_ ?_
            · cases hb : ((r_10.2 != 0) || (r_11.2 != 0))
              · rw [hb] at hf
                refine stP hf rfl rfl rfl (pM rfl) fun a hf => ?_
                refine stP hf rfl rfl rfl (pLenS Try.underlying39 rfl) fun a hf => ?_
                refine stP hf rfl rfl rfl (pNe rfl rfl) fun a hf => ?_
                refine stP hf rfl rfl rfl (pPf rfl rfl) fun a hf => ?_
                exact cNil ⟨hf.keep ⟨rfl, rfl, rfl, rfl, rfl, rfl, rfl, rfl, rfl, rfl, rfl, rfl, rfl, trivial⟩, hc⟩
              · rw [hb] at hf
                refine stS hf rfl rfl rfl fun a hf => ?_
                refine stS hf rfl rfl rfl fun a hf => ?_
                refine stS hf rfl rfl rfl fun a hf => ?_
                refine stP hf rfl rfl rfl (pPt rfl rfl) fun a hf => ?_
                exact cNil ⟨hf.keep ⟨rfl, rfl, rfl, rfl, rfl, rfl, rfl, rfl, rfl, rfl, rfl, rfl, rfl, trivial⟩, hc⟩
            intro a w ⟨hf, hc⟩
            refine stP hf rfl rfl rfl (pM rfl) fun a hf => ?_
            refine stCut 4 (fun a w => Has 364 a [(9, .pointer (some ⟨b_2, 0, none⟩)), (11, .pointer (some ⟨b_3, 0, none⟩)), (17, .slice p_8 r_4.1.length c_8), (32, .slice p_13 r_10.1.length c_13), (18, .int .i64 r_10.2), (33, .slice p_14 r_11.1.length c_14), (20, .int .i64 r_11.2), (296, .int .i64 r_10.2), (297, .bool (r_10.2 != 0)), (298, .bool (r_10.2 != 0)), (301, .bool ((r_10.2 != 0) || (r_11.2 != 0))), (302, .bool ((r_10.2 != 0) || (r_11.2 != 0))), (306, .bool (((r_10.2 != 0) || (r_11.2 != 0)) || (((r_10.1.length : Nat) : Int) != 0))), (307, .bool (((r_10.2 != 0) || (r_11.2 != 0)) || (((r_10.1.length : Nat) : Int) != 0))), (311, .bool ((((r_10.2 != 0) || (r_11.2 != 0)) || (((r_10.1.length : Nat) : Int) != 0)) || (((r_11.1.length : Nat) : Int) != 0)))] ∧ Ctx G (.row p_5 c_5 (x.map enc_daily_Value) 56 3 :: .row p_8 c_8 (r_4.1.map enc_api_Span) 30 2 :: .row p_14 c_14 (r_11.1.map encI_i64) 3 1 :: .row p_1 c_1 (r_1.1.Days.map enc_daily_Value) 56 3 :: .row p_13 c_13 (r_10.1.map encI_i64) 3 1 :: .row p_12 c_12 (r_9.2.1.map encI_i64) 3 1 :: .row p_10 c_10 (r_8.2.1.map encI_i64) 3 1 :: .box b_4 [.int .i64 r_3.Rise, .int .i64 r_3.Fall, .slice p_5 x.length c_5] 24 :: .box b_3 [.slice better_p better.length better_c, .int .i64 x_2, .int .i64 x_3] 135 :: .box b_2 [.int .i64 r_1.1.Rise, .int .i64 r_1.1.Fall, .slice p_1 r_1.1.Days.length c_1] 24 :: Lf) w) ?_ ?_
            · cases hb : (((r_10.2 != 0) || (r_11.2 != 0)) || (((r_10.1.length : Nat) : Int) != 0))
              · rw [hb] at hf
                refine stP hf rfl rfl rfl (pM rfl) fun a hf => ?_
                refine stP hf rfl rfl rfl (pLenS Try.underlying39 rfl) fun a hf => ?_
                refine stP hf rfl rfl rfl (pNe rfl rfl) fun a hf => ?_
                refine stP hf rfl rfl rfl (pPf rfl rfl) fun a hf => ?_
                exact cNil ⟨hf.keep ⟨rfl, rfl, rfl, rfl, rfl, rfl, rfl, rfl, rfl, rfl, rfl, rfl, rfl, rfl, rfl, trivial⟩, hc⟩
              · rw [hb] at hf
                refine stS hf rfl rfl rfl fun a hf => ?_
                refine stS hf rfl rfl rfl fun a hf => ?_
                refine stS hf rfl rfl rfl fun a hf => ?_
                refine stP hf rfl rfl rfl (pPt rfl rfl) fun a hf => ?_
                exact cNil ⟨hf.keep ⟨rfl, rfl, rfl, rfl, rfl, rfl, rfl, rfl, rfl, rfl, rfl, rfl, rfl, rfl, rfl, trivial⟩, hc⟩
            intro a w ⟨hf, hc⟩
            refine cNil ?_
            refine h31 _ _ ?_
            refine cCond (b := ((((r_10.2 != 0) || (r_11.2 != 0)) || (((r_10.1.length : Nat) : Int) != 0)) || (((r_11.1.length : Nat) : Int) != 0))) hf rfl (fun hb => ?_) (fun hb => ?_)
            · replace hF := condT hb hF
              clear hb
              refine wp_seq_k fun K32 h32 => ?_
              refine cReg ?_
              refine stP hf rfl rfl rfl (pA rfl) fun a hf => ?_
              refine cNil ?_
              refine h32 _ _ ?_
              refine wp_ret ?_
              refine xThenR ?_
              obtain rfl := Option.some.inj hF
              replace hc := hc.drop k9
              replace hc := hc.drop k8
              replace hc := hc.drop k7
              replace hc := hc.drop k6
              replace hc := hc.drop k5
              replace hc := hc.drop k4
              replace hc := hc.drop k3
              replace hc := hc.drop k2
              replace hc := hc.drop k1
              replace hc := hc.drop k0
              exact fnOut1 (by simp) rfl Try.results5 hf hc (show look _ 8 = _ from rfl) ⟨rfl, hc⟩
            · replace hF := condF hb hF
              clear hb
              refine wp_skip ?_
              refine h30 _ _ ?_
              refine wp_seq_k fun K33 h33 => ?_
              refine cReg ?_
              refine stP hf rfl rfl rfl (pM rfl) fun a hf => ?_
              obtain ⟨r_12, hr_12, hF⟩ := bnd_some hF
              obtain ⟨G1, hle1, hrd1, hc, hth1⟩ := lend hc k1
              refine stC (vs := [.slice p_8 r_4.1.length c_8]) (caps := []) hf rfl rfl rfl en_14 rfl rfl rfl rfl (kit_Copy_api_Span_ok r_4.1 hrd1 hc hr_12) ?_
              rintro _ w ⟨p_15, c_15, rfl, hc⟩
              refine ⟨_, rfl, fun a hf => ?_⟩
              replace hc := hth1 _ _ hc
              refine stP hf rfl rfl rfl (pA rfl) fun a hf => ?_
              refine cNil ?_
              refine h33 _ _ ?_
              refine wp_seq_k fun K34 h34 => ?_
              refine cReg ?_
              refine stP hf rfl rfl rfl (pA rfl) fun a hf => ?_
              refine cNil ?_
              refine h34 _ _ ?_
              refine wp_seq_k fun K35 h35 => ?_
              refine wp_seq_k fun K36 h36 => ?_
              refine cReg ?_
              refine stP hf rfl rfl rfl (pM rfl) fun a hf => ?_
              refine stP hf rfl rfl rfl (pLenS Try.underlying25 rfl) fun a hf => ?_
              refine stP hf rfl rfl rfl (pM rfl) fun a hf => ?_
              refine cNil ?_
              refine h36 _ _ ?_
              refine wp_block ?_
              obtain ⟨x37, hx37, hF⟩ := bnd_some hF
              let S37 : ((List api_Span) × (List Int) × Int × Int × Int) → Act → World → Prop := (fun (zz : (List api_Span) × (List Int) × Int × Int × Int) a w => ∃ (p_16 : Option Addr) (c_16 : Nat) (p_17 : Option Addr) (c_17 : Nat), Has 364 a [(9, .pointer (some ⟨b_2, 0, none⟩)), (11, .pointer (some ⟨b_3, 0, none⟩)), (34, .slice p_16 zz.1.length c_16), (35, .slice p_17 zz.2.1.length c_17), (315, .int .i64 ((r_12.length : Nat) : Int)), (316, .int .i64 zz.2.2.1)] ∧ Ctx G (.row p_17 c_17 (zz.2.1.map encI_i64) 3 1 :: .row p_16 c_16 (zz.1.map enc_api_Span) 30 2 :: .row p_1 c_1 (r_1.1.Days.map enc_daily_Value) 56 3 :: .box b_3 [.slice better_p better.length better_c, .int .i64 zz.2.2.2.1, .int .i64 zz.2.2.2.2] 135 :: .box b_2 [.int .i64 r_1.1.Rise, .int .i64 r_1.1.Fall, .slice p_1 r_1.1.Days.length c_1] 24 :: Lf) w)
              have hr37 : ∀ (zz : (List api_Span) × (List Int) × Int × Int × Int) a w, x37 = .go zz → S37 zz a w → K35 a w := by
                rintro ⟨tight, want, x_6, x_7, x_8⟩ a w rfl ⟨p_16, c_16, p_17, c_17, hf, hc⟩
                replace hF := exK_go hF
                refine h35 _ _ ?_
                refine wp_seq_k fun K38 h38 => ?_
                refine cReg ?_
                refine stE hf hc rfl rfl rfl (eLdN (vs := [.int .i64 r_1.1.Rise, .int .i64 r_1.1.Fall, .slice p_1 r_1.1.Days.length c_1]) ag_24 rfl rfl (cells_box (n := 3) m4 rfl)) fun a w hf hc => ?_
                refine stP hf rfl rfl rfl (pM rfl) fun a hf => ?_
                obtain ⟨r_13, hr_13, hF⟩ := bnd_some hF
                obtain ⟨G1, hle1, hrd1, hc, hth1⟩ := lend hc k2
                obtain ⟨G2, hle2, hrd2, hc, hth2⟩ := lend hc k1
                refine stC (vs := [.agg #[.int .i64 r_1.1.Rise, .int .i64 r_1.1.Fall, .slice p_1 r_1.1.Days.length c_1], .slice p_16 tight.length c_16]) (caps := []) hf rfl rfl rfl en_21 rfl rfl rfl rfl (daily_Again_ok r_1.1 tight (hrd1.mono hle2) hrd2 hc hr_13) ?_
                rintro _ w ⟨p_18, c_18, rfl, hc⟩
                refine ⟨_, rfl, fun a hf => ?_⟩
                replace hc := hth2 _ _ hc
                replace hc := hth1 _ _ hc
                refine stP hf rfl rfl rfl (pM rfl) fun a hf => ?_
                refine stP hf rfl rfl rfl (pX rfl rfl) fun a hf => ?_
                refine stP hf rfl rfl rfl (pX rfl rfl) fun a hf => ?_
                refine stP hf rfl rfl rfl (pA rfl) fun a hf => ?_
                refine stP hf rfl rfl rfl (pA rfl) fun a hf => ?_
                refine cNil ?_
                refine h38 _ _ ?_
                refine wp_seq_k fun K39 h39 => ?_
                refine cReg ?_
                refine stP hf rfl rfl rfl (pM rfl) fun a hf => ?_
                refine stP hf rfl rfl rfl (pEq rfl rfl) fun a hf => ?_
                refine stP hf rfl rfl rfl (pM rfl) fun a hf => ?_
                obtain ⟨t_1, ht_1, hF⟩ := bnd_some hF
                refine stCut 4 (fun a w => Has 364 a [(35, .slice p_17 want.length c_17), (32, .slice p_18 r_13.1.length c_18), (18, .int .i64 r_13.2), (354, .int .i64 r_13.2), (355, .bool (r_13.2 == 0)), (356, .bool (r_13.2 == 0)), (360, .bool t_1)] ∧ Ctx G (.row p_1 c_1 (r_1.1.Days.map enc_daily_Value) 56 3 :: .row p_16 c_16 (tight.map enc_api_Span) 30 2 :: .row p_18 c_18 (r_13.1.map encI_i64) 3 1 :: .row p_17 c_17 (want.map encI_i64) 3 1 :: .box b_3 [.slice better_p better.length better_c, .int .i64 x_7, .int .i64 x_8] 135 :: .box b_2 [.int .i64 r_1.1.Rise, .int .i64 r_1.1.Fall, .slice p_1 r_1.1.Days.length c_1] 24 :: Lf) w) ?_ ?_
                · cases hb : (r_13.2 == 0)
                  · rw [hb] at hf
                    have hF := condF hb ht_1
                    obtain rfl := Option.some.inj hF
                    refine stS hf rfl rfl rfl fun a hf => ?_
                    refine stS hf rfl rfl rfl fun a hf => ?_
                    refine stS hf rfl rfl rfl fun a hf => ?_
                    refine stP hf rfl rfl rfl (pPf rfl rfl) fun a hf => ?_
                    exact cNil ⟨hf.keep ⟨rfl, rfl, rfl, rfl, rfl, rfl, rfl, trivial⟩, hc⟩
                  · rw [hb] at hf
                    have hF := condT hb ht_1
                    refine stP hf rfl rfl rfl (pM rfl) fun a hf => ?_
                    refine stP hf rfl rfl rfl (pM rfl) fun a hf => ?_
                    obtain ⟨r_14, hr_14, hF⟩ := bnd_some hF
                    refine stE hf hc rfl rfl rfl (eC (v := .bool r_14) (vs := [.slice p_18 r_13.1.length c_18, .slice p_17 want.length c_17]) (caps := []) en_20 rfl rfl rfl rfl (fun w hc => by obtain ⟨G1, hle1, hrd1, hc, hth1⟩ := lend hc k2; obtain ⟨G2, hle2, hrd2, hc, hth2⟩ := lend hc k2; exact (kit_Same_int_ok r_13.1 want (hrd1.mono hle2) hrd2 hc hr_14).mono fun e w h => ⟨h.1, ((hth1 _ _ ((hth2 _ _ h.2).unpick k2)).unpick k2)⟩)) fun a w hf hc => ?_
                    refine stP hf rfl rfl rfl (pPt rfl rfl) fun a hf => ?_
                    obtain rfl := Option.some.inj hF
                    exact cNil ⟨hf.keep ⟨rfl, rfl, rfl, rfl, rfl, rfl, rfl, trivial⟩, hc⟩
                intro a w ⟨hf, hc⟩
                refine stP hf rfl rfl rfl (pM rfl) fun a hf => ?_
                obtain ⟨t_2, ht_2, hF⟩ := bnd_some hF
                refine stCut 2 (fun a w => Has 364 a [(35, .slice p_17 want.length c_17), (32, .slice p_18 r_13.1.length c_18), (18, .int .i64 r_13.2), (354, .int .i64 r_13.2), (355, .bool (r_13.2 == 0)), (356, .bool (r_13.2 == 0)), (360, .bool t_1), (361, .bool t_1), (363, .bool t_2)] ∧ Ctx G (.row p_1 c_1 (r_1.1.Days.map enc_daily_Value) 56 3 :: .row p_16 c_16 (tight.map enc_api_Span) 30 2 :: .row p_18 c_18 (r_13.1.map encI_i64) 3 1 :: .row p_17 c_17 (want.map encI_i64) 3 1 :: .box b_3 [.slice better_p better.length better_c, .int .i64 x_7, .int .i64 x_8] 135 :: .box b_2 [.int .i64 r_1.1.Rise, .int .i64 r_1.1.Fall, .slice p_1 r_1.1.Days.length c_1] 24 :: Lf) w) ?_ ?_
                · cases hb : t_1
                  · rw [hb] at hf
                    have hF := condF hb ht_2
                    obtain rfl := Option.some.inj hF
                    refine stS hf rfl rfl rfl fun a hf => ?_
                    refine stP hf rfl rfl rfl (pPf rfl rfl) fun a hf => ?_
                    exact cNil ⟨hf.keep ⟨rfl, rfl, rfl, rfl, rfl, rfl, rfl, rfl, rfl, trivial⟩, hc⟩
                  · rw [hb] at hf
                    have hF := condT hb ht_2
                    obtain ⟨r_15, hr_15, hF⟩ := bnd_some hF
                    refine stE hf hc rfl rfl rfl (eC (v := .bool r_15) (vs := []) (caps := []) en_12 rfl rfl rfl rfl (fun w hc => law07_awake_ok hc hr_15)) fun a w hf hc => ?_
                    refine stP hf rfl rfl rfl (pPt rfl rfl) fun a hf => ?_
                    obtain rfl := Option.some.inj hF
                    exact cNil ⟨hf.keep ⟨rfl, rfl, rfl, rfl, rfl, rfl, rfl, rfl, rfl, trivial⟩, hc⟩
                intro a w ⟨hf, hc⟩
                refine stP hf rfl rfl rfl (pA rfl) fun a hf => ?_
                refine cNil ?_
                refine h39 _ _ ?_
                refine wp_ret ?_
                obtain rfl := Option.some.inj hF
                replace hc := hc.drop k5
                replace hc := hc.drop k4
                replace hc := hc.drop k3
                replace hc := hc.drop k2
                replace hc := hc.drop k1
                replace hc := hc.drop k0
                exact fnOut1 (by simp) rfl Try.results5 hf hc (show look _ 8 = _ from rfl) ⟨rfl, hc⟩
              have ho37 : ∀ r, x37 = .out r → r = res := by
                rintro r rfl
                exact Option.some.inj hF
              replace hc := hc.nilRow 3 1
              replace hc := hc.drop k9
              replace hc := hc.drop k8
              replace hc := hc.drop k7
              replace hc := hc.drop k6
              replace hc := hc.drop k4
              replace hc := hc.drop k3
              replace hc := hc.drop k1
              refine cLoop N (loopW (S := S37) (x := x37) ?_ N (r_12, ([] : List Int), 0, x_2, x_3) _ _ ⟨p_15, c_15, none, 0, hf.keep ⟨rfl, rfl, rfl, rfl, rfl, rfl, trivial⟩, hc⟩ hx37)
              clear hF hf hc
              rintro ⟨tight, want, x_6, x_7, x_8⟩ st37 a w KB37 ⟨p_16, c_16, p_17, c_17, hf, hc⟩ hF hfin37 hK37
              unfold law07_DailyBetter_b37 at hF
              refine wp_seq_k fun K40 h40 => ?_
              refine cReg ?_
              refine stP hf rfl rfl rfl (pLt rfl rfl) fun a hf => ?_
              refine cNil ?_
              refine h40 _ _ ?_
              refine wp_seq_k fun K41 h41 => ?_
              refine cCond (b := (decide (x_6 < ((r_12.length : Nat) : Int)))) hf rfl (fun hb => ?_) (fun hb => ?_)
              · replace hF := condT hb hF
                clear hb
                refine wp_skip ?_
                refine h41 _ _ ?_
                refine wp_seq_k fun K42 h42 => ?_
                have hj42 : ∀ (tight_1 : List api_Span) (want_1 : List Int) (x_9 : Int) (x_10 : Int) (p_19 : Option Addr) (c_19 : Nat) (p_20 : Option Addr) (c_20 : Nat) a w, Has 364 a [(9, .pointer (some ⟨b_2, 0, none⟩)), (11, .pointer (some ⟨b_3, 0, none⟩)), (34, .slice p_19 tight_1.length c_19), (35, .slice p_20 want_1.length c_20), (315, .int .i64 ((r_12.length : Nat) : Int)), (316, .int .i64 x_6)] → Ctx G (.row p_20 c_20 (want_1.map encI_i64) 3 1 :: .row p_19 c_19 (tight_1.map enc_api_Span) 30 2 :: .row p_1 c_1 (r_1.1.Days.map enc_daily_Value) 56 3 :: .box b_3 [.slice better_p better.length better_c, .int .i64 x_9, .int .i64 x_10] 135 :: .box b_2 [.int .i64 r_1.1.Rise, .int .i64 r_1.1.Fall, .slice p_1 r_1.1.Days.length c_1] 24 :: Lf) w → law07_DailyBetter_j42 N x_6 tight_1 want_1 x_9 x_10 = some st37 → K42 a w := by
                  try clear hF
                  try clear hc
                  try clear hf
                  intro tight_1 want_1 x_9 x_10 p_19 c_19 p_20 c_20 a w hf hc hF
                  unfold law07_DailyBetter_j42 at hF
                  refine h42 _ _ ?_
                  refine cReg ?_
                  refine stP hf rfl rfl rfl (pAdd rfl rfl) fun a hf => ?_
                  refine stP hf rfl rfl rfl (pM rfl) fun a hf => ?_
                  refine cNil ?_
                  exact hK37 (tight_1, want_1, W (x_6 + 1), x_9, x_10) _ _ (Option.some.inj hF).symm ⟨p_19, c_19, p_20, c_20, hf.keep ⟨rfl, rfl, rfl, rfl, rfl, rfl, trivial⟩, hc⟩
                refine wp_block ?_
                refine wp_seq_k fun K43 h43 => ?_
                refine cReg ?_
                refine stP hf rfl rfl rfl (pM rfl) fun a hf => ?_
                refine stP hf rfl rfl rfl (pA rfl) fun a hf => ?_
                refine cNil ?_
                refine h43 _ _ ?_
                refine wp_seq_k fun K44 h44 => ?_
                obtain ⟨rg, hrg, hF⟩ := bnd_some hF
                refine regCut (fun a w => ∃ (p_21 : Option Addr) (c_21 : Nat), Has 364 a [(9, .pointer (some ⟨b_2, 0, none⟩)), (11, .pointer (some ⟨b_3, 0, none⟩)), (34, .slice p_21 tight.length c_21), (35, .slice p_17 want.length c_17), (36, .int .i64 x_6), (315, .int .i64 ((r_12.length : Nat) : Int)), (316, .int .i64 x_6), (334, .bool rg.1)] ∧ Ctx G (.row p_17 c_17 (want.map encI_i64) 3 1 :: .row p_21 c_21 (tight.map enc_api_Span) 30 2 :: .row p_1 c_1 (r_1.1.Days.map enc_daily_Value) 56 3 :: .box b_3 [.slice better_p better.length better_c, .int .i64 rg.2.1, .int .i64 rg.2.2] 135 :: .box b_2 [.int .i64 r_1.1.Rise, .int .i64 r_1.1.Fall, .slice p_1 r_1.1.Days.length c_1] 24 :: Lf) w) ?_ ?_
                · clear hF
                  have hF := hrg
                  clear hrg
                  obtain ⟨r_16, hr_16, hF⟩ := bnd_some hF
                  cases hb : (r_16.1 == 0)
                  · replace hF := condF hb hF
                    try rw [hb] at hf
                    try rw [hb] at hc
                    have hb2 := hb
                    clear hb
                    refine regionE (fun θ => [⟨none, none, 9, .pointer (some ⟨b_2, 0, none⟩)⟩, ⟨none, none, 11, .pointer (some ⟨b_3, 0, none⟩)⟩, ⟨none, none, 34, .slice p_16 tight.length c_16⟩, ⟨none, none, 35, .slice p_17 want.length c_17⟩, ⟨none, none, 36, .int .i64 x_6⟩, ⟨none, none, 315, .int .i64 ((r_12.length : Nat) : Int)⟩, ⟨none, none, 316, .int .i64 x_6⟩, ⟨some 0, none, 319, .pointer (some ⟨b_3, 0, none⟩)⟩, ⟨some 1, none, 320, .int .i64 r_16.1⟩, ⟨some 2, none, 321, .bool false⟩, ⟨some 3, none, 322, .bool false⟩, ⟨some 4, none, 323, undef⟩, ⟨some 5, none, 324, undef⟩, ⟨some 6, none, 325, undef⟩, ⟨some 7, none, 326, undef⟩, ⟨some 8, none, 327, undef⟩, ⟨some 9, none, 328, undef⟩, ⟨some 10, none, 329, undef⟩, ⟨some 11, none, 330, undef⟩, ⟨some 12, none, 331, undef⟩, ⟨some 13, none, 332, undef⟩, ⟨some 14, none, 333, undef⟩, ⟨some 15, none, 334, .bool false⟩]) (fun E θ => .row p_17 c_17 (want.map encI_i64) 3 1 :: .row p_16 c_16 (tight.map enc_api_Span) 30 2 :: .row p_1 c_1 (r_1.1.Days.map enc_daily_Value) 56 3 :: (bif E 1 then .box b_3 [.slice better_p better.length better_c, .int .i64 r_16.2.1, .int .i64 r_16.2.2] 135 else .box b_3 [.slice better_p better.length better_c, .int .i64 x_7, .int .i64 x_8] 135) :: .box b_2 [.int .i64 r_1.1.Rise, .int .i64 r_1.1.Fall, .slice p_1 r_1.1.Days.length c_1] 24 :: Lf) [] (fun a w => Has 364 a [(9, .pointer (some ⟨b_2, 0, none⟩)), (11, .pointer (some ⟨b_3, 0, none⟩)), (34, .slice p_16 tight.length c_16), (35, .slice p_17 want.length c_17), (36, .int .i64 x_6), (315, .int .i64 ((r_12.length : Nat) : Int)), (316, .int .i64 x_6), (323, undef), (324, undef), (325, undef), (326, undef), (327, undef), (328, undef), (329, undef), (330, undef), (331, undef), (332, undef), (333, undef), (334, .bool false)] ∧ Ctx G (.row p_17 c_17 (want.map encI_i64) 3 1 :: .row p_16 c_16 (tight.map enc_api_Span) 30 2 :: .row p_1 c_1 (r_1.1.Days.map enc_daily_Value) 56 3 :: .box b_3 [.slice better_p better.length better_c, .int .i64 r_16.2.1, .int .i64 r_16.2.2] 135 :: .box b_2 [.int .i64 r_1.1.Rise, .int .i64 r_1.1.Fall, .slice p_1 r_1.1.Days.length c_1] 24 :: Lf) w) follows_mx (by kernel_rfl) (by kernel_rfl) (HasE.of hf ⟨rfl, rfl, rfl, rfl, rfl, rfl, rfl, trivial, trivial, trivial, trivial, trivial, trivial, trivial, trivial, trivial, trivial, trivial, trivial, trivial, trivial, trivial, trivial, trivial⟩) hc ⟨?_, ?_, ?_, ?_, ?_, ?_, ?_, ?_, ?_, ?_, ?_, ?_, ?_, ?_, ?_, ?_, trivial⟩ ?_ ?_
                    · intro E θ a w hD hi hp he hc
                      have hf := he.h0
                      replace hf := hf.more he 1 rfl onT
                      refine stP hf rfl rfl rfl (pM rfl) fun a hf => ?_
                      refine cNil ?_
                      refine xThenN ?_
                      intro ds u hau
                      refine ⟨θ, he.put0 hi hau hf rfl 7 rfl rfl, ?_⟩
                      exact hc
                    · intro E θ a w hD hi hp he hc
                      have e0 := hp.of (k := 0) rfl
                      try dsimp only at hc
                      rw [hi] at hc
                      have hf := he.h0
                      replace hf := hf.more he 7 rfl (onP e0)
                      refine stC (vs := [.pointer (some ⟨b_3, 0, none⟩), .int .i64 3]) (caps := []) hf rfl rfl rfl en_30 rfl rfl rfl rfl (kit_Stream_Next_ok (⟨better, x_7, x_8⟩ : kit_Stream) 3 h_better (hc.pick k3) hr_16) ?_
                      rintro _ w ⟨rfl, hc⟩
                      refine ⟨_, rfl, fun a hf => ?_⟩
                      refine cNil ?_
                      refine xThenN ?_
                      intro ds u hau
                      replace hc := hc.pick k0
                      replace hc := hc.pick k3
                      replace hc := hc.pick k3
                      replace hc := hc.pick k3
                      refine ⟨θ, he.put0 hi hau hf rfl 8 rfl rfl, ?_⟩
                      try dsimp only
                      rw [updE_self E 1]
                      exact hc
                    · intro E θ a w hD hi hp he hc
                      have e1 := hp.of (k := 1) rfl
                      have hf := he.h0
                      replace hf := hf.more he 8 rfl (onP e1)
                      refine stP hf rfl rfl rfl (pEq rfl rfl) fun a hf => ?_
                      rw [hb2] at hf
                      refine cNil ?_
                      refine xThenN ?_
                      intro ds u hau
                      refine ⟨θ, he.put0 hi hau hf rfl 9 rfl rfl, ?_⟩
                      exact hc
                    · intro E θ a w hD hi hp he hc
                      have e2 := hp.of (k := 2) rfl
                      have hf := he.h0
                      replace hf := hf.more he 9 rfl (onP e2)
                      refine stP hf rfl rfl rfl (pM rfl) fun a hf => ?_
                      refine cNil ?_
                      refine xThenN ?_
                      intro ds u hau
                      refine ⟨θ, he.put0 hi hau hf rfl 10 rfl rfl, ?_⟩
                      exact hc
                    · intro E θ a w hD hi hp he hc
                      have e3 := hp.of (k := 3) rfl
                      have hf := he.h0
                      replace hf := hf.more he 2 rfl onT
                      replace hf := hf.more he 10 rfl (onP e3)
                      refine stS hf rfl rfl rfl fun a hf => ?_
                      refine cNil ?_
                      refine xThenN ?_
                      intro ds u hau
                      refine ⟨θ, he.put0 hi hau hf rfl 11 rfl rfl, ?_⟩
                      exact hc
                    · intro E θ a w hD hi hp he hc
                      have e3 := hp.of (k := 3) rfl
                      have hf := he.h0
                      replace hf := hf.more he 4 rfl onT
                      replace hf := hf.more he 10 rfl (onP e3)
                      refine stS hf rfl rfl rfl fun a hf => ?_
                      refine cNil ?_
                      refine xThenN ?_
                      intro ds u hau
                      refine ⟨θ, he.put0 hi hau hf rfl 12 rfl rfl, ?_⟩
                      exact hc
                    · intro E θ a w hD hi hp he hc
                      have e3 := hp.of (k := 3) rfl
                      have e4 := hp.of (k := 4) rfl
                      have e5 := hp.of (k := 5) rfl
                      have hf := he.h0
                      replace hf := hf.more he 10 rfl (onP e3)
                      replace hf := hf.more he 11 rfl (onP e4)
                      replace hf := hf.more he 12 rfl (onP e5)
                      refine stS hf rfl rfl rfl fun a hf => ?_
                      refine cNil ?_
                      refine xThenN ?_
                      intro ds u hau
                      refine ⟨θ, he.put0 hi hau hf rfl 13 rfl rfl, ?_⟩
                      exact hc
                    · intro E θ a w hD hi hp he hc
                      have e3 := hp.of (k := 3) rfl
                      have e6 := hp.of (k := 6) rfl
                      have hf := he.h0
                      replace hf := hf.more he 10 rfl (onP e3)
                      replace hf := hf.more he 13 rfl (onP e6)
                      refine stS hf rfl rfl rfl fun a hf => ?_
                      refine cNil ?_
                      refine xThenN ?_
                      intro ds u hau
                      refine ⟨θ, he.put0 hi hau hf rfl 14 rfl rfl, ?_⟩
                      exact hc
                    · intro E θ a w hD hi hp he hc
                      have e3 := hp.of (k := 3) rfl
                      have e7 := hp.of (k := 7) rfl
                      have hf := he.h0
                      replace hf := hf.more he 10 rfl (onP e3)
                      replace hf := hf.more he 14 rfl (onP e7)
                      refine stS hf rfl rfl rfl fun a hf => ?_
                      refine cNil ?_
                      refine xThenN ?_
                      intro ds u hau
                      refine ⟨θ, he.put0 hi hau hf rfl 15 rfl rfl, ?_⟩
                      exact hc
                    · intro E θ a w hD hi hp he hc
                      have e3 := hp.of (k := 3) rfl
                      have hf := he.h0
                      replace hf := hf.more he 2 rfl onT
                      replace hf := hf.more he 10 rfl (onP e3)
                      refine stS hf rfl rfl rfl fun a hf => ?_
                      refine cNil ?_
                      refine xThenN ?_
                      intro ds u hau
                      refine ⟨θ, he.put0 hi hau hf rfl 16 rfl rfl, ?_⟩
                      exact hc
                    · intro E θ a w hD hi hp he hc
                      have e3 := hp.of (k := 3) rfl
                      have hf := he.h0
                      replace hf := hf.more he 4 rfl onT
                      replace hf := hf.more he 10 rfl (onP e3)
                      refine stS hf rfl rfl rfl fun a hf => ?_
                      refine cNil ?_
                      refine xThenN ?_
                      intro ds u hau
                      refine ⟨θ, he.put0 hi hau hf rfl 17 rfl rfl, ?_⟩
                      exact hc
                    · intro E θ a w hD hi hp he hc
                      have e3 := hp.of (k := 3) rfl
                      have e9 := hp.of (k := 9) rfl
                      have e10 := hp.of (k := 10) rfl
                      have hf := he.h0
                      replace hf := hf.more he 10 rfl (onP e3)
                      replace hf := hf.more he 16 rfl (onP e9)
                      replace hf := hf.more he 17 rfl (onP e10)
                      refine stS hf rfl rfl rfl fun a hf => ?_
                      refine cNil ?_
                      refine xThenN ?_
                      intro ds u hau
                      refine ⟨θ, he.put0 hi hau hf rfl 18 rfl rfl, ?_⟩
                      exact hc
                    · intro E θ a w hD hi hp he hc
                      have e3 := hp.of (k := 3) rfl
                      have e11 := hp.of (k := 11) rfl
                      have hf := he.h0
                      replace hf := hf.more he 10 rfl (onP e3)
                      replace hf := hf.more he 18 rfl (onP e11)
                      refine stS hf rfl rfl rfl fun a hf => ?_
                      refine cNil ?_
                      refine xThenN ?_
                      intro ds u hau
                      refine ⟨θ, he.put0 hi hau hf rfl 19 rfl rfl, ?_⟩
                      exact hc
                    · intro E θ a w hD hi hp he hc
                      have e3 := hp.of (k := 3) rfl
                      have e12 := hp.of (k := 12) rfl
                      have hf := he.h0
                      replace hf := hf.more he 10 rfl (onP e3)
                      replace hf := hf.more he 19 rfl (onP e12)
                      refine stS hf rfl rfl rfl fun a hf => ?_
                      refine cNil ?_
                      refine xThenN ?_
                      intro ds u hau
                      refine ⟨θ, he.put0 hi hau hf rfl 20 rfl rfl, ?_⟩
                      exact hc
                    · intro E θ a w hD hi hp he hc
                      have e3 := hp.of (k := 3) rfl
                      have e8 := hp.of (k := 8) rfl
                      have e13 := hp.of (k := 13) rfl
                      have hf := he.h0
                      replace hf := hf.more he 10 rfl (onP e3)
                      replace hf := hf.more he 15 rfl (onP e8)
                      replace hf := hf.more he 20 rfl (onP e13)
                      refine stS hf rfl rfl rfl fun a hf => ?_
                      refine cNil ?_
                      refine xThenN ?_
                      intro ds u hau
                      refine ⟨θ, he.put0 hi hau hf rfl 21 rfl rfl, ?_⟩
                      exact hc
                    · intro E θ a w hD hi hp he hc
                      have e3 := hp.of (k := 3) rfl
                      have e14 := hp.of (k := 14) rfl
                      have hf := he.h0
                      replace hf := hf.more he 10 rfl (onP e3)
                      replace hf := hf.more he 21 rfl (onP e14)
                      refine stP hf rfl rfl rfl (pPf rfl rfl) fun a hf => ?_
                      refine cNil ?_
                      refine xThenN ?_
                      intro ds u hau
                      refine ⟨θ, he.put0 hi hau hf rfl 22 rfl rfl, ?_⟩
                      exact hc
                    · intro E θ a w hall he hc
                      have hf := he.h0
                      have e1 := hall 1 rfl
                      have e4 := hall 4 rfl
                      have e5 := hall 5 rfl
                      have e6 := hall 6 rfl
                      have e7 := hall 7 rfl
                      have e8 := hall 8 rfl
                      have e9 := hall 9 rfl
                      have e10 := hall 10 rfl
                      have e11 := hall 11 rfl
                      have e12 := hall 12 rfl
                      have e13 := hall 13 rfl
                      have e14 := hall 14 rfl
                      have e15 := hall 15 rfl
                      replace hf := hf.more he 22 rfl (onP e15)
                      replace hf := hf.more he 21 rfl (onP e14)
                      replace hf := hf.more he 20 rfl (onP e13)
                      replace hf := hf.more he 19 rfl (onP e12)
                      replace hf := hf.more he 18 rfl (onP e11)
                      replace hf := hf.more he 17 rfl (onP e10)
                      replace hf := hf.more he 16 rfl (onP e9)
                      replace hf := hf.more he 15 rfl (onP e8)
                      replace hf := hf.more he 14 rfl (onP e7)
                      replace hf := hf.more he 13 rfl (onP e6)
                      replace hf := hf.more he 12 rfl (onP e5)
                      replace hf := hf.more he 11 rfl (onP e4)
                      replace hf := hf.more he 6 rfl (onT)
                      replace hf := hf.more he 5 rfl (onT)
                      replace hf := hf.more he 4 rfl (onT)
                      replace hf := hf.more he 3 rfl (onT)
                      replace hf := hf.more he 2 rfl (onT)
                      replace hf := hf.more he 1 rfl (onT)
                      replace hf := hf.more he 0 rfl (onT)
                      try dsimp only at hc
                      rw [e1] at hc
                      exact ⟨hf.keep ⟨rfl, rfl, rfl, rfl, rfl, rfl, rfl, rfl, rfl, rfl, rfl, rfl, rfl, rfl, rfl, rfl, rfl, rfl, rfl, trivial⟩, hc⟩
                    rintro a w ⟨hf, hc⟩
                    refine xThenN ?_
                    obtain rfl := Option.some.inj hF
                    exact ⟨p_16, c_16, hf.keep ⟨rfl, rfl, rfl, rfl, rfl, rfl, rfl, rfl, trivial⟩, hc⟩
                  · replace hF := condT hb hF
                    try rw [hb] at hf
                    try rw [hb] at hc
                    have hb2 := hb
                    clear hb
                    obtain ⟨e_1, he_1, hF⟩ := bnd_some hF
                    obtain ⟨g, rfl, qa, qr⟩ := row_atm hc m1 he_1
                    refine regionE (fun θ => [⟨none, none, 9, .pointer (some ⟨b_2, 0, none⟩)⟩, ⟨none, none, 11, .pointer (some ⟨b_3, 0, none⟩)⟩, ⟨none, none, 34, .slice (some ⟨g, 0, none⟩) tight.length c_16⟩, ⟨none, none, 35, .slice p_17 want.length c_17⟩, ⟨none, none, 36, .int .i64 x_6⟩, ⟨none, none, 315, .int .i64 ((r_12.length : Nat) : Int)⟩, ⟨none, none, 316, .int .i64 x_6⟩, ⟨some 0, none, 319, .pointer (some ⟨b_3, 0, none⟩)⟩, ⟨some 1, none, 320, .int .i64 r_16.1⟩, ⟨some 2, none, 321, .bool true⟩, ⟨some 3, none, 322, .bool true⟩, ⟨some 4, none, 323, .slice (some ⟨g, 0, none⟩) tight.length c_16⟩, ⟨some 5, none, 324, .int .i64 x_6⟩, ⟨some 6, none, 325, .pointer (some ⟨g, x_6.toNat * 2, none⟩)⟩, ⟨some 7, none, 326, .pointer (some ⟨g, x_6.toNat * 2 + 0, none⟩)⟩, ⟨some 8, none, 327, .int .i64 e_1.Lo⟩, ⟨some 9, none, 328, .slice (some ⟨g, 0, none⟩) tight.length c_16⟩, ⟨some 10, none, 329, .int .i64 x_6⟩, ⟨some 11, none, 330, .pointer (some ⟨g, x_6.toNat * 2, none⟩)⟩, ⟨some 12, none, 331, .pointer (some ⟨g, x_6.toNat * 2 + 1, none⟩)⟩, ⟨some 13, none, 332, .int .i64 e_1.Hi⟩, ⟨some 14, none, 333, .bool (decide (e_1.Lo < e_1.Hi))⟩, ⟨some 15, none, 334, .bool (decide (e_1.Lo < e_1.Hi))⟩]) (fun E θ => .row p_17 c_17 (want.map encI_i64) 3 1 :: .row (some ⟨g, 0, none⟩) c_16 (tight.map enc_api_Span) 30 2 :: .row p_1 c_1 (r_1.1.Days.map enc_daily_Value) 56 3 :: (bif E 1 then .box b_3 [.slice better_p better.length better_c, .int .i64 r_16.2.1, .int .i64 r_16.2.2] 135 else .box b_3 [.slice better_p better.length better_c, .int .i64 x_7, .int .i64 x_8] 135) :: .box b_2 [.int .i64 r_1.1.Rise, .int .i64 r_1.1.Fall, .slice p_1 r_1.1.Days.length c_1] 24 :: Lf) [] (fun a w => Has 364 a [(9, .pointer (some ⟨b_2, 0, none⟩)), (11, .pointer (some ⟨b_3, 0, none⟩)), (34, .slice (some ⟨g, 0, none⟩) tight.length c_16), (35, .slice p_17 want.length c_17), (36, .int .i64 x_6), (315, .int .i64 ((r_12.length : Nat) : Int)), (316, .int .i64 x_6), (323, .slice (some ⟨g, 0, none⟩) tight.length c_16), (324, .int .i64 x_6), (325, .pointer (some ⟨g, x_6.toNat * 2, none⟩)), (326, .pointer (some ⟨g, x_6.toNat * 2 + 0, none⟩)), (327, .int .i64 e_1.Lo), (328, .slice (some ⟨g, 0, none⟩) tight.length c_16), (329, .int .i64 x_6), (330, .pointer (some ⟨g, x_6.toNat * 2, none⟩)), (331, .pointer (some ⟨g, x_6.toNat * 2 + 1, none⟩)), (332, .int .i64 e_1.Hi), (333, .bool (decide (e_1.Lo < e_1.Hi))), (334, .bool (decide (e_1.Lo < e_1.Hi)))] ∧ Ctx G (.row p_17 c_17 (want.map encI_i64) 3 1 :: .row (some ⟨g, 0, none⟩) c_16 (tight.map enc_api_Span) 30 2 :: .row p_1 c_1 (r_1.1.Days.map enc_daily_Value) 56 3 :: .box b_3 [.slice better_p better.length better_c, .int .i64 r_16.2.1, .int .i64 r_16.2.2] 135 :: .box b_2 [.int .i64 r_1.1.Rise, .int .i64 r_1.1.Fall, .slice p_1 r_1.1.Days.length c_1] 24 :: Lf) w) follows_mx (by kernel_rfl) (by kernel_rfl) (HasE.of hf ⟨rfl, rfl, rfl, rfl, rfl, rfl, rfl, trivial, trivial, trivial, trivial, trivial, trivial, trivial, trivial, trivial, trivial, trivial, trivial, trivial, trivial, trivial, trivial, trivial⟩) hc ⟨?_, ?_, ?_, ?_, ?_, ?_, ?_, ?_, ?_, ?_, ?_, ?_, ?_, ?_, ?_, ?_, trivial⟩ ?_ ?_
                    · intro E θ a w hD hi hp he hc
                      have hf := he.h0
                      replace hf := hf.more he 1 rfl onT
                      refine stP hf rfl rfl rfl (pM rfl) fun a hf => ?_
                      refine cNil ?_
                      refine xThenN ?_
                      intro ds u hau
                      refine ⟨θ, he.put0 hi hau hf rfl 7 rfl rfl, ?_⟩
                      exact hc
                    · intro E θ a w hD hi hp he hc
                      have e0 := hp.of (k := 0) rfl
                      try dsimp only at hc
                      rw [hi] at hc
                      have hf := he.h0
                      replace hf := hf.more he 7 rfl (onP e0)
                      refine stC (vs := [.pointer (some ⟨b_3, 0, none⟩), .int .i64 3]) (caps := []) hf rfl rfl rfl en_30 rfl rfl rfl rfl (kit_Stream_Next_ok (⟨better, x_7, x_8⟩ : kit_Stream) 3 h_better (hc.pick k3) hr_16) ?_
                      rintro _ w ⟨rfl, hc⟩
                      refine ⟨_, rfl, fun a hf => ?_⟩
                      refine cNil ?_
                      refine xThenN ?_
                      intro ds u hau
                      replace hc := hc.pick k0
                      replace hc := hc.pick k3
                      replace hc := hc.pick k3
                      replace hc := hc.pick k3
                      refine ⟨θ, he.put0 hi hau hf rfl 8 rfl rfl, ?_⟩
                      try dsimp only
                      rw [updE_self E 1]
                      exact hc
                    · intro E θ a w hD hi hp he hc
                      have e1 := hp.of (k := 1) rfl
                      have hf := he.h0
                      replace hf := hf.more he 8 rfl (onP e1)
                      refine stP hf rfl rfl rfl (pEq rfl rfl) fun a hf => ?_
                      rw [hb2] at hf
                      refine cNil ?_
                      refine xThenN ?_
                      intro ds u hau
                      refine ⟨θ, he.put0 hi hau hf rfl 9 rfl rfl, ?_⟩
                      exact hc
                    · intro E θ a w hD hi hp he hc
                      have e2 := hp.of (k := 2) rfl
                      have hf := he.h0
                      replace hf := hf.more he 9 rfl (onP e2)
                      refine stP hf rfl rfl rfl (pM rfl) fun a hf => ?_
                      refine cNil ?_
                      refine xThenN ?_
                      intro ds u hau
                      refine ⟨θ, he.put0 hi hau hf rfl 10 rfl rfl, ?_⟩
                      exact hc
                    · intro E θ a w hD hi hp he hc
                      have e3 := hp.of (k := 3) rfl
                      have hf := he.h0
                      replace hf := hf.more he 2 rfl onT
                      replace hf := hf.more he 10 rfl (onP e3)
                      refine stP hf rfl rfl rfl (pM rfl) fun a hf => ?_
                      refine cNil ?_
                      refine xThenN ?_
                      intro ds u hau
                      refine ⟨θ, he.put0 hi hau hf rfl 11 rfl rfl, ?_⟩
                      exact hc
                    · intro E θ a w hD hi hp he hc
                      have e3 := hp.of (k := 3) rfl
                      have hf := he.h0
                      replace hf := hf.more he 4 rfl onT
                      replace hf := hf.more he 10 rfl (onP e3)
                      refine stP hf rfl rfl rfl (pM rfl) fun a hf => ?_
                      refine cNil ?_
                      refine xThenN ?_
                      intro ds u hau
                      refine ⟨θ, he.put0 hi hau hf rfl 12 rfl rfl, ?_⟩
                      exact hc
                    · intro E θ a w hD hi hp he hc
                      have e3 := hp.of (k := 3) rfl
                      have e4 := hp.of (k := 4) rfl
                      have e5 := hp.of (k := 5) rfl
                      have hf := he.h0
                      replace hf := hf.more he 10 rfl (onP e3)
                      replace hf := hf.more he 11 rfl (onP e4)
                      replace hf := hf.more he 12 rfl (onP e5)
                      refine stP hf rfl rfl rfl (pIA Try.underlying25 sz_30 rfl rfl qa) fun a hf => ?_
                      refine cNil ?_
                      refine xThenN ?_
                      intro ds u hau
                      refine ⟨θ, he.put0 hi hau hf rfl 13 rfl rfl, ?_⟩
                      exact hc
                    · intro E θ a w hD hi hp he hc
                      have e3 := hp.of (k := 3) rfl
                      have e6 := hp.of (k := 6) rfl
                      have hf := he.h0
                      replace hf := hf.more he 10 rfl (onP e3)
                      replace hf := hf.more he 13 rfl (onP e6)
                      refine stP hf rfl rfl rfl (pFA fa_30_0 rfl) fun a hf => ?_
                      refine cNil ?_
                      refine xThenN ?_
                      intro ds u hau
                      refine ⟨θ, he.put0 hi hau hf rfl 14 rfl rfl, ?_⟩
                      exact hc
                    · intro E θ a w hD hi hp he hc
                      have e3 := hp.of (k := 3) rfl
                      have e7 := hp.of (k := 7) rfl
                      have hf := he.h0
                      replace hf := hf.more he 10 rfl (onP e3)
                      replace hf := hf.more he 14 rfl (onP e7)
                      refine stE hf hc rfl rfl rfl (eLd1 sc_3 rfl (cell_row (sz := 2) (i := x_6.toNat) (j := 0) m1 qr rfl)) fun a w hf hc => ?_
                      refine cNil ?_
                      refine xThenN ?_
                      intro ds u hau
                      refine ⟨θ, he.put0 hi hau hf rfl 15 rfl rfl, ?_⟩
                      exact hc
                    · intro E θ a w hD hi hp he hc
                      have e3 := hp.of (k := 3) rfl
                      have hf := he.h0
                      replace hf := hf.more he 2 rfl onT
                      replace hf := hf.more he 10 rfl (onP e3)
                      refine stP hf rfl rfl rfl (pM rfl) fun a hf => ?_
                      refine cNil ?_
                      refine xThenN ?_
                      intro ds u hau
                      refine ⟨θ, he.put0 hi hau hf rfl 16 rfl rfl, ?_⟩
                      exact hc
                    · intro E θ a w hD hi hp he hc
                      have e3 := hp.of (k := 3) rfl
                      have hf := he.h0
                      replace hf := hf.more he 4 rfl onT
                      replace hf := hf.more he 10 rfl (onP e3)
                      refine stP hf rfl rfl rfl (pM rfl) fun a hf => ?_
                      refine cNil ?_
                      refine xThenN ?_
                      intro ds u hau
                      refine ⟨θ, he.put0 hi hau hf rfl 17 rfl rfl, ?_⟩
                      exact hc
                    · intro E θ a w hD hi hp he hc
                      have e3 := hp.of (k := 3) rfl
                      have e9 := hp.of (k := 9) rfl
                      have e10 := hp.of (k := 10) rfl
                      have hf := he.h0
                      replace hf := hf.more he 10 rfl (onP e3)
                      replace hf := hf.more he 16 rfl (onP e9)
                      replace hf := hf.more he 17 rfl (onP e10)
                      refine stP hf rfl rfl rfl (pIA Try.underlying25 sz_30 rfl rfl qa) fun a hf => ?_
                      refine cNil ?_
                      refine xThenN ?_
                      intro ds u hau
                      refine ⟨θ, he.put0 hi hau hf rfl 18 rfl rfl, ?_⟩
                      exact hc
                    · intro E θ a w hD hi hp he hc
                      have e3 := hp.of (k := 3) rfl
                      have e11 := hp.of (k := 11) rfl
                      have hf := he.h0
                      replace hf := hf.more he 10 rfl (onP e3)
                      replace hf := hf.more he 18 rfl (onP e11)
                      refine stP hf rfl rfl rfl (pFA fa_30_1 rfl) fun a hf => ?_
                      refine cNil ?_
                      refine xThenN ?_
                      intro ds u hau
                      refine ⟨θ, he.put0 hi hau hf rfl 19 rfl rfl, ?_⟩
                      exact hc
                    · intro E θ a w hD hi hp he hc
                      have e3 := hp.of (k := 3) rfl
                      have e12 := hp.of (k := 12) rfl
                      have hf := he.h0
                      replace hf := hf.more he 10 rfl (onP e3)
                      replace hf := hf.more he 19 rfl (onP e12)
                      refine stE hf hc rfl rfl rfl (eLd1 sc_3 rfl (cell_row (sz := 2) (i := x_6.toNat) (j := 1) m1 qr rfl)) fun a w hf hc => ?_
                      refine cNil ?_
                      refine xThenN ?_
                      intro ds u hau
                      refine ⟨θ, he.put0 hi hau hf rfl 20 rfl rfl, ?_⟩
                      exact hc
                    · intro E θ a w hD hi hp he hc
                      have e3 := hp.of (k := 3) rfl
                      have e8 := hp.of (k := 8) rfl
                      have e13 := hp.of (k := 13) rfl
                      have hf := he.h0
                      replace hf := hf.more he 10 rfl (onP e3)
                      replace hf := hf.more he 15 rfl (onP e8)
                      replace hf := hf.more he 20 rfl (onP e13)
                      refine stP hf rfl rfl rfl (pLt rfl rfl) fun a hf => ?_
                      refine cNil ?_
                      refine xThenN ?_
                      intro ds u hau
                      refine ⟨θ, he.put0 hi hau hf rfl 21 rfl rfl, ?_⟩
                      exact hc
                    · intro E θ a w hD hi hp he hc
                      have e3 := hp.of (k := 3) rfl
                      have e14 := hp.of (k := 14) rfl
                      have hf := he.h0
                      replace hf := hf.more he 10 rfl (onP e3)
                      replace hf := hf.more he 21 rfl (onP e14)
                      refine stP hf rfl rfl rfl (pPt rfl rfl) fun a hf => ?_
                      refine cNil ?_
                      refine xThenN ?_
                      intro ds u hau
                      refine ⟨θ, he.put0 hi hau hf rfl 22 rfl rfl, ?_⟩
                      exact hc
                    · intro E θ a w hall he hc
                      have hf := he.h0
                      have e1 := hall 1 rfl
                      have e4 := hall 4 rfl
                      have e5 := hall 5 rfl
                      have e6 := hall 6 rfl
                      have e7 := hall 7 rfl
                      have e8 := hall 8 rfl
                      have e9 := hall 9 rfl
                      have e10 := hall 10 rfl
                      have e11 := hall 11 rfl
                      have e12 := hall 12 rfl
                      have e13 := hall 13 rfl
                      have e14 := hall 14 rfl
                      have e15 := hall 15 rfl
                      replace hf := hf.more he 22 rfl (onP e15)
                      replace hf := hf.more he 21 rfl (onP e14)
                      replace hf := hf.more he 20 rfl (onP e13)
                      replace hf := hf.more he 19 rfl (onP e12)
                      replace hf := hf.more he 18 rfl (onP e11)
                      replace hf := hf.more he 17 rfl (onP e10)
                      replace hf := hf.more he 16 rfl (onP e9)
                      replace hf := hf.more he 15 rfl (onP e8)
                      replace hf := hf.more he 14 rfl (onP e7)
                      replace hf := hf.more he 13 rfl (onP e6)
                      replace hf := hf.more he 12 rfl (onP e5)
                      replace hf := hf.more he 11 rfl (onP e4)
                      replace hf := hf.more he 6 rfl (onT)
                      replace hf := hf.more he 5 rfl (onT)
                      replace hf := hf.more he 4 rfl (onT)
                      replace hf := hf.more he 3 rfl (onT)
                      replace hf := hf.more he 2 rfl (onT)
                      replace hf := hf.more he 1 rfl (onT)
                      replace hf := hf.more he 0 rfl (onT)
                      try dsimp only at hc
                      rw [e1] at hc
                      exact ⟨hf.keep ⟨rfl, rfl, rfl, rfl, rfl, rfl, rfl, rfl, rfl, rfl, rfl, rfl, rfl, rfl, rfl, rfl, rfl, rfl, rfl, trivial⟩, hc⟩
                    rintro a w ⟨hf, hc⟩
                    refine xThenN ?_
                    obtain rfl := Option.some.inj hF
                    exact ⟨(some ⟨g, 0, none⟩), c_16, hf.keep ⟨rfl, rfl, rfl, rfl, rfl, rfl, rfl, rfl, trivial⟩, hc⟩
                rintro a w ⟨p_21, c_21, hf, hc⟩
                refine h44 _ _ ?_
                refine cCond (b := rg.1) hf rfl (fun hb => ?_) (fun hb => ?_)
                · replace hF := condT hb hF
                  clear hb
                  refine wp_seq_k fun K45 h45 => ?_
                  refine cReg ?_
                  refine stP hf rfl rfl rfl (pM rfl) fun a hf => ?_
                  refine stP hf rfl rfl rfl (pM rfl) fun a hf => ?_
                  obtain ⟨e_2, he_2, hF⟩ := bnd_some hF
                  obtain ⟨g_1, rfl, qa_1, qr_1⟩ := row_atm hc m1 he_2
                  refine stP hf rfl rfl rfl (pIA Try.underlying25 sz_30 rfl rfl qa_1) fun a hf => ?_
                  refine stP hf rfl rfl rfl (pFA fa_30_0 rfl) fun a hf => ?_
                  refine stE hf hc rfl rfl rfl (eLd1 sc_3 rfl (cell_row (sz := 2) (i := x_6.toNat) (j := 0) m1 qr_1 rfl)) fun a w hf hc => ?_
                  refine stP hf rfl rfl rfl (pAdd rfl rfl) fun a hf => ?_
                  obtain ⟨e_3, he_3, hF⟩ := bnd_some hF
                  obtain ⟨qa_2, qr_2⟩ := row_atk hc m1 he_3
                  refine stP hf rfl rfl rfl (pIA Try.underlying25 sz_30 rfl rfl qa_2) fun a hf => ?_
                  refine stP hf rfl rfl rfl (pFA fa_30_0 rfl) fun a hf => ?_
                  refine stRw (vs := [.int .i64 (W (e_2.Lo + 1))]) (o' := 0) (z := (⟨W (e_2.Lo + 1), e_3.Hi⟩ : api_Span)) (xs := tight) hf hc rfl rfl rfl rfl sz_3 rfl (fun x => (one_enc_api_Span x).1) (getI_lt he_3) (fun e' he' => by cases (he'.symm.trans (getI_spec he_3).2); rfl) rfl u1 fun w hc => ?_
                  refine cNil ?_
                  refine h45 _ _ ?_
                  refine cReg ?_
                  refine stP hf rfl rfl rfl (pM rfl) fun a hf => ?_
                  refine stP hf rfl rfl rfl (pM rfl) fun a hf => ?_
                  refine stBS (rows := ([x_6] : List Int).map encI_i64) (vs := [(0, .int .i64 x_6)]) hf hc rfl rfl sl_39 rfl ⟨rfl, rfl, rfl, trivial⟩ rfl rfl fun b_9 a w hf hc => ?_
                  obtain ⟨un_2, hun_2, hF⟩ := bnd_some hF
                  refine stApm (xs := want) (ys := ([x_6] : List Int)) hf hc rfl rfl sl_39 rfl rfl rfl rfl rfl one_encI_i64 (src_row hc m0) (fun _ _ => u1) (by simpa using room_spec hun_2) fun p_22 c_22 a w hf hc => ?_
                  refine stP hf rfl rfl rfl (pA rfl) fun a hf => ?_
                  refine cNil ?_
                  rw [(by simp : tight.length = (tight.set x_6.toNat (⟨W (e_2.Lo + 1), e_3.Hi⟩ : api_Span)).length)] at hf
                  replace hc := hc.drop k0
                  exact hj42 (tight.set x_6.toNat (⟨W (e_2.Lo + 1), e_3.Hi⟩ : api_Span)) (want ++ [x_6]) rg.2.1 rg.2.2 (some ⟨g_1, 0, none⟩) c_21 p_22 c_22 _ _  (hf.keep ⟨rfl, rfl, rfl, rfl, rfl, rfl, trivial⟩) hc hF
                · replace hF := condF hb hF
                  clear hb
                  refine wp_skip ?_
                  exact hj42 tight want rg.2.1 rg.2.2 p_21 c_21 p_17 c_17 _ _  (hf.keep ⟨rfl, rfl, rfl, rfl, rfl, rfl, trivial⟩) hc hF
              · replace hF := condF hb hF
                clear hb
                refine wp_exit ?_
                refine xThen ?_
                refine xThen ?_
                have he := Option.some.inj hF
                rw [← he] at hfin37
                refine cHit ?_
                exact hr37 _ _ _ hfin37 ⟨p_16, c_16, p_17, c_17, hf.keep ⟨rfl, rfl, rfl, rfl, rfl, rfl, trivial⟩, hc⟩
          have ho27 : ∀ r, x27 = .out r → r = res := by
            rintro r rfl
            exact Option.some.inj hF
          replace hc := hc.drop k13
          replace hc := hc.drop k8
          replace hc := hc.drop k7
          replace hc := hc.drop k6
          replace hc := hc.drop k3
          replace hc := hc.drop k0
          refine cLoop N (loopW (S := S27) (x := x27) ?_ N 0 _ _ ⟨p_11, c_11, hf.keep ⟨rfl, rfl, rfl, rfl, rfl, rfl, rfl, rfl, trivial⟩, hc⟩ hx27)
          clear hF hf hc
          rintro x_5 st27 a w KB27 ⟨p_12, c_12, hf, hc⟩ hF hfin27 hK27
          unfold law07_DailyBetter_b27 at hF
          refine wp_seq_k fun K46 h46 => ?_
          refine cReg ?_
          refine stP hf rfl rfl rfl (pLt rfl rfl) fun a hf => ?_
          refine cNil ?_
          refine h46 _ _ ?_
          refine wp_seq_k fun K47 h47 => ?_
          refine cCond (b := (decide (x_5 < ((r_9.2.1.length : Nat) : Int)))) hf rfl (fun hb => ?_) (fun hb => ?_)
          · replace hF := condT hb hF
            clear hb
            refine wp_skip ?_
            refine h47 _ _ ?_
            refine wp_seq_k fun K48 h48 => ?_
            refine wp_block ?_
            refine wp_seq_k fun K49 h49 => ?_
            refine cReg ?_
            obtain ⟨e_4, he_4, hF⟩ := bnd_some hF
            obtain ⟨g_2, rfl, qa_3, qr_3⟩ := row_atm hc m1 he_4
            refine stP hf rfl rfl rfl (pIA Try.underlying39 sz_3 rfl rfl qa_3) fun a hf => ?_
            refine stE hf hc rfl rfl rfl (eLd1 sc_3 rfl (cell_row (sz := 1) (i := x_5.toNat) (j := 0) m1 qr_3 rfl)) fun a w hf hc => ?_
            refine stP hf rfl rfl rfl (pA rfl) fun a hf => ?_
            refine cNil ?_
            refine h49 _ _ ?_
            refine wp_seq_k fun K50 h50 => ?_
            refine cReg ?_
            refine stP hf rfl rfl rfl (pM rfl) fun a hf => ?_
            refine stP hf rfl rfl rfl (pM rfl) fun a hf => ?_
            obtain ⟨r_17, hr_17, hF⟩ := bnd_some hF
            refine stE hf hc rfl rfl rfl (eC (v := .bool r_17) (vs := [.slice p_10 r_8.2.1.length c_10, .int .i64 e_4]) (caps := []) en_32 rfl rfl rfl rfl (fun w hc => by obtain ⟨G1, hle1, hrd1, hc, hth1⟩ := lend hc k3; exact (slices_Contains_Lint_int_ok r_8.2.1 e_4 hrd1 hc hr_17).mono fun e w h => ⟨h.1, ((hth1 _ _ h.2).unpick k3)⟩)) fun a w hf hc => ?_
            refine stP hf rfl rfl rfl (pNot rfl) fun a hf => ?_
            refine cNil ?_
            refine h50 _ _ ?_
            refine cCond (b := (!r_17)) hf rfl (fun hb => ?_) (fun hb => ?_)
            · replace hF := condT hb hF
              clear hb
              refine wp_seq_k fun K51 h51 => ?_
              refine cReg ?_
              refine stP hf rfl rfl rfl (pA rfl) fun a hf => ?_
              refine cNil ?_
              refine h51 _ _ ?_
              refine wp_ret ?_
              refine xBlkR ?_
              refine xThenR ?_
              refine xThenR ?_
              have he := Option.some.inj hF
              rw [← he] at hfin27
              replace hF := ho27 _ hfin27
              refine xBlkR ?_
              refine xThenR ?_
              obtain rfl := hF
              replace hc := hc.drop k7
              replace hc := hc.drop k6
              replace hc := hc.drop k5
              replace hc := hc.drop k4
              replace hc := hc.drop k3
              replace hc := hc.drop k2
              replace hc := hc.drop k1
              replace hc := hc.drop k0
              exact fnOut1 (by simp) rfl Try.results5 hf hc (show look _ 8 = _ from rfl) ⟨rfl, hc⟩
            · replace hF := condF hb hF
              clear hb
              refine wp_skip ?_
              refine h48 _ _ ?_
              refine cReg ?_
              refine stP hf rfl rfl rfl (pAdd rfl rfl) fun a hf => ?_
              refine stP hf rfl rfl rfl (pM rfl) fun a hf => ?_
              refine cNil ?_
              exact hK27 (W (x_5 + 1)) _ _ (Option.some.inj hF).symm ⟨(some ⟨g_2, 0, none⟩), c_12, hf.keep ⟨rfl, rfl, rfl, rfl, rfl, rfl, rfl, rfl, trivial⟩, hc⟩
          · replace hF := condF hb hF
            clear hb
            refine wp_exit ?_
            refine xThen ?_
            refine xThen ?_
            have he := Option.some.inj hF
            rw [← he] at hfin27
            refine cHit ?_
            exact hr27 _ _ _ hfin27 ⟨p_12, c_12, hf.keep ⟨rfl, rfl, rfl, rfl, rfl, rfl, rfl, rfl, trivial⟩, hc⟩
      have ho17 : ∀ r, x17 = .out r → r = res := by
        rintro r rfl
        exact Option.some.inj hF
      refine cLoop N (loopW (S := S17) (x := x17) ?_ N 0 _ _ ⟨p_6, c_6, p_7, c_7, hf.keep ⟨rfl, rfl, rfl, rfl, rfl, rfl, rfl, rfl, rfl, rfl, trivial⟩, hc⟩ hx17)
      clear hF hf hc
      rintro x_4 st17 a w KB17 ⟨p_8, c_8, p_9, c_9, hf, hc⟩ hF hfin17 hK17
      unfold law07_DailyBetter_b17 at hF
      refine wp_seq_k fun K52 h52 => ?_
      refine cReg ?_
      refine stP hf rfl rfl rfl (pLt rfl rfl) fun a hf => ?_
      refine cNil ?_
      refine h52 _ _ ?_
      refine wp_seq_k fun K53 h53 => ?_
      refine cCond (b := (decide (x_4 < ((r_4.1.length : Nat) : Int)))) hf rfl (fun hb => ?_) (fun hb => ?_)
      · replace hF := condT hb hF
        clear hb
        refine wp_skip ?_
        refine h53 _ _ ?_
        refine wp_seq_k fun K54 h54 => ?_
        refine wp_block ?_
        refine wp_seq_k fun K55 h55 => ?_
        refine cReg ?_
        refine stP hf rfl rfl rfl (pM rfl) fun a hf => ?_
        refine stP hf rfl rfl rfl (pA rfl) fun a hf => ?_
        refine cNil ?_
        refine h55 _ _ ?_
        refine wp_seq_k fun K56 h56 => ?_
        obtain ⟨e_5, he_5, hF⟩ := bnd_some hF
        obtain ⟨g_3, rfl, qa_4, qr_4⟩ := row_atm hc m1 he_5
        obtain ⟨e_6, he_6, hF⟩ := bnd_some hF
        obtain ⟨g_4, rfl, qa_5, qr_5⟩ := row_atm hc m3 he_6
        obtain ⟨t_3, ht_3, hF⟩ := bnd_some hF
        obtain ⟨t_4, ht_4, hF⟩ := bnd_some hF
        obtain ⟨t_5, ht_5, hF⟩ := bnd_some hF
        refine cQ hc follows_mx (by kernel_rfl) ?_
        refine qE hf rfl rfl rfl (Pu.ev (pM rfl)) fun a hf => ?_
        refine qE hf rfl rfl rfl (Pu.ev (pM rfl)) fun a hf => ?_
        refine qE hf rfl rfl rfl (Pu.ev (pIA Try.underlying25 sz_30 rfl rfl qa_4)) fun a hf => ?_
        refine qE hf rfl rfl rfl (Pu.ev (pFA fa_30_0 rfl)) fun a hf => ?_
        refine qE hf rfl rfl rfl (eLd1 sc_3 rfl (cell_row (sz := 2) (i := x_4.toNat) (j := 0) m1 qr_4 rfl)) fun a hf => ?_
        refine qE hf rfl rfl rfl (Pu.ev (pM rfl)) fun a hf => ?_
        refine qE hf rfl rfl rfl (Pu.ev (pM rfl)) fun a hf => ?_
        refine qE hf rfl rfl rfl (Pu.ev (pIA Try.underlying25 sz_30 rfl rfl qa_5)) fun a hf => ?_
        refine qE hf rfl rfl rfl (Pu.ev (pFA fa_30_0 rfl)) fun a hf => ?_
        refine qE hf rfl rfl rfl (eLd1 sc_3 rfl (cell_row (sz := 2) (i := x_4.toNat) (j := 0) m3 qr_5 rfl)) fun a hf => ?_
        refine qE hf rfl rfl rfl (Pu.ev (pLt rfl rfl)) fun a hf => ?_
        refine qE hf rfl rfl rfl (Pu.ev (pM rfl)) fun a hf => ?_
        refine qCut 12 (fun a => Has 364 a [(9, .pointer (some ⟨b_2, 0, none⟩)), (10, .slice p_4 r_1.2.1.length c_4), (11, .pointer (some ⟨b_3, 0, none⟩)), (12, .pointer (some ⟨b_4, 0, none⟩)), (15, .int .i64 (min ((W (a_)).tmod ((r_1.2.1.length : Nat) : Int)) ((W (b_)).tmod ((r_1.2.1.length : Nat) : Int)))), (16, .int .i64 (max ((W (a_)).tmod ((r_1.2.1.length : Nat) : Int)) ((W (b_)).tmod ((r_1.2.1.length : Nat) : Int)))), (17, .slice (some ⟨g_4, 0, none⟩) r_4.1.length c_8), (19, .slice (some ⟨g_3, 0, none⟩) r_5.1.length c_9), (152, .int .i64 ((r_4.1.length : Nat) : Int)), (153, .int .i64 x_4), (21, .int .i64 x_4), (156, .slice (some ⟨g_3, 0, none⟩) r_5.1.length c_9), (157, .int .i64 x_4), (158, .pointer (some ⟨g_3, x_4.toNat * 2, none⟩)), (159, .pointer (some ⟨g_3, x_4.toNat * 2 + 0, none⟩)), (160, .int .i64 e_5.Lo), (161, .slice (some ⟨g_4, 0, none⟩) r_4.1.length c_8), (162, .int .i64 x_4), (163, .pointer (some ⟨g_4, x_4.toNat * 2, none⟩)), (164, .pointer (some ⟨g_4, x_4.toNat * 2 + 0, none⟩)), (165, .int .i64 e_6.Lo), (166, .bool (decide (e_5.Lo < e_6.Lo))), (167, .bool (decide (e_5.Lo < e_6.Lo))), (179, .bool t_3)]) ?_ ?_
        · cases hb : (decide (e_5.Lo < e_6.Lo))
          · rw [hb] at hf
            have hF := condF hb ht_3
            obtain ⟨e_7, he_7, hF⟩ := bnd_some hF
            obtain ⟨qa_6, qr_6⟩ := row_atk hc m1 he_7
            obtain ⟨e_8, he_8, hF⟩ := bnd_some hF
            obtain ⟨qa_7, qr_7⟩ := row_atk hc m3 he_8
            refine qE hf rfl rfl rfl (Pu.ev (pM rfl)) fun a hf => ?_
            refine qE hf rfl rfl rfl (Pu.ev (pM rfl)) fun a hf => ?_
            refine qE hf rfl rfl rfl (Pu.ev (pIA Try.underlying25 sz_30 rfl rfl qa_6)) fun a hf => ?_
            refine qE hf rfl rfl rfl (Pu.ev (pFA fa_30_1 rfl)) fun a hf => ?_
            refine qE hf rfl rfl rfl (eLd1 sc_3 rfl (cell_row (sz := 2) (i := x_4.toNat) (j := 1) m1 qr_6 rfl)) fun a hf => ?_
            refine qE hf rfl rfl rfl (Pu.ev (pM rfl)) fun a hf => ?_
            refine qE hf rfl rfl rfl (Pu.ev (pM rfl)) fun a hf => ?_
            refine qE hf rfl rfl rfl (Pu.ev (pIA Try.underlying25 sz_30 rfl rfl qa_7)) fun a hf => ?_
            refine qE hf rfl rfl rfl (Pu.ev (pFA fa_30_1 rfl)) fun a hf => ?_
            refine qE hf rfl rfl rfl (eLd1 sc_3 rfl (cell_row (sz := 2) (i := x_4.toNat) (j := 1) m3 qr_7 rfl)) fun a hf => ?_
            refine qE hf rfl rfl rfl (Pu.ev (pGt rfl rfl)) fun a hf => ?_
            refine qE hf rfl rfl rfl (Pu.ev (pPf rfl rfl)) fun a hf => ?_
            obtain rfl := Option.some.inj hF
            exact qNil (hf.keep ⟨rfl, rfl, rfl, rfl, rfl, rfl, rfl, rfl, rfl, rfl, rfl, rfl, rfl, rfl, rfl, rfl, rfl, rfl, rfl, rfl, rfl, rfl, rfl, rfl, trivial⟩)
          · rw [hb] at hf
            have hF := condT hb ht_3
            obtain rfl := Option.some.inj hF
            refine qS hf rfl rfl rfl fun a hf => ?_
            refine qS hf rfl rfl rfl fun a hf => ?_
            refine qS hf rfl rfl rfl fun a hf => ?_
            refine qS hf rfl rfl rfl fun a hf => ?_
            refine qS hf rfl rfl rfl fun a hf => ?_
            refine qS hf rfl rfl rfl fun a hf => ?_
            refine qS hf rfl rfl rfl fun a hf => ?_
            refine qS hf rfl rfl rfl fun a hf => ?_
            refine qS hf rfl rfl rfl fun a hf => ?_
            refine qS hf rfl rfl rfl fun a hf => ?_
            refine qS hf rfl rfl rfl fun a hf => ?_
            refine qE hf rfl rfl rfl (Pu.ev (pPt rfl rfl)) fun a hf => ?_
            exact qNil (hf.keep ⟨rfl, rfl, rfl, rfl, rfl, rfl, rfl, rfl, rfl, rfl, rfl, rfl, rfl, rfl, rfl, rfl, rfl, rfl, rfl, rfl, rfl, rfl, rfl, rfl, trivial⟩)
        intro a hf
        refine qE hf rfl rfl rfl (Pu.ev (pM rfl)) fun a hf => ?_
        refine qCut 11 (fun a => Has 364 a [(9, .pointer (some ⟨b_2, 0, none⟩)), (10, .slice p_4 r_1.2.1.length c_4), (11, .pointer (some ⟨b_3, 0, none⟩)), (12, .pointer (some ⟨b_4, 0, none⟩)), (15, .int .i64 (min ((W (a_)).tmod ((r_1.2.1.length : Nat) : Int)) ((W (b_)).tmod ((r_1.2.1.length : Nat) : Int)))), (16, .int .i64 (max ((W (a_)).tmod ((r_1.2.1.length : Nat) : Int)) ((W (b_)).tmod ((r_1.2.1.length : Nat) : Int)))), (17, .slice (some ⟨g_4, 0, none⟩) r_4.1.length c_8), (19, .slice (some ⟨g_3, 0, none⟩) r_5.1.length c_9), (152, .int .i64 ((r_4.1.length : Nat) : Int)), (153, .int .i64 x_4), (21, .int .i64 x_4), (156, .slice (some ⟨g_3, 0, none⟩) r_5.1.length c_9), (157, .int .i64 x_4), (158, .pointer (some ⟨g_3, x_4.toNat * 2, none⟩)), (159, .pointer (some ⟨g_3, x_4.toNat * 2 + 0, none⟩)), (160, .int .i64 e_5.Lo), (161, .slice (some ⟨g_4, 0, none⟩) r_4.1.length c_8), (162, .int .i64 x_4), (163, .pointer (some ⟨g_4, x_4.toNat * 2, none⟩)), (164, .pointer (some ⟨g_4, x_4.toNat * 2 + 0, none⟩)), (165, .int .i64 e_6.Lo), (166, .bool (decide (e_5.Lo < e_6.Lo))), (167, .bool (decide (e_5.Lo < e_6.Lo))), (179, .bool t_3), (180, .bool t_3), (191, .bool t_4)]) ?_ ?_
        · cases hb : t_3
          · rw [hb] at hf
            have hF := condF hb ht_4
            obtain ⟨e_9, he_9, hF⟩ := bnd_some hF
            obtain ⟨qa_8, qr_8⟩ := row_atk hc m1 he_9
            obtain ⟨e_10, he_10, hF⟩ := bnd_some hF
            obtain ⟨g_5, rfl, qa_9, qr_9⟩ := row_atm hc m7 he_10
            refine qE hf rfl rfl rfl (Pu.ev (pM rfl)) fun a hf => ?_
            refine qE hf rfl rfl rfl (Pu.ev (pM rfl)) fun a hf => ?_
            refine qE hf rfl rfl rfl (Pu.ev (pIA Try.underlying25 sz_30 rfl rfl qa_8)) fun a hf => ?_
            refine qE hf rfl rfl rfl (Pu.ev (pFA fa_30_0 rfl)) fun a hf => ?_
            refine qE hf rfl rfl rfl (eLd1 sc_3 rfl (cell_row (sz := 2) (i := x_4.toNat) (j := 0) m1 qr_8 rfl)) fun a hf => ?_
            refine qE hf rfl rfl rfl (Pu.ev (pM rfl)) fun a hf => ?_
            refine qE hf rfl rfl rfl (Pu.ev (pM rfl)) fun a hf => ?_
            refine qE hf rfl rfl rfl (Pu.ev (pIA Try.underlying39 sz_3 rfl rfl qa_9)) fun a hf => ?_
            refine qE hf rfl rfl rfl (eLd1 sc_3 rfl (cell_row (sz := 1) (i := x_4.toNat) (j := 0) m7 qr_9 rfl)) fun a hf => ?_
            refine qE hf rfl rfl rfl (Pu.ev (pGt rfl rfl)) fun a hf => ?_
            refine qE hf rfl rfl rfl (Pu.ev (pPf rfl rfl)) fun a hf => ?_
            obtain rfl := Option.some.inj hF
            exact qNil (hf.keep ⟨rfl, rfl, rfl, rfl, rfl, rfl, rfl, rfl, rfl, rfl, rfl, rfl, rfl, rfl, rfl, rfl, rfl, rfl, rfl, rfl, rfl, rfl, rfl, rfl, rfl, rfl, trivial⟩)
          · rw [hb] at hf
            have hF := condT hb ht_4
            obtain rfl := Option.some.inj hF
            refine qS hf rfl rfl rfl fun a hf => ?_
            refine qS hf rfl rfl rfl fun a hf => ?_
            refine qS hf rfl rfl rfl fun a hf => ?_
            refine qS hf rfl rfl rfl fun a hf => ?_
            refine qS hf rfl rfl rfl fun a hf => ?_
            refine qS hf rfl rfl rfl fun a hf => ?_
            refine qS hf rfl rfl rfl fun a hf => ?_
            refine qS hf rfl rfl rfl fun a hf => ?_
            refine qS hf rfl rfl rfl fun a hf => ?_
            refine qS hf rfl rfl rfl fun a hf => ?_
            refine qE hf rfl rfl rfl (Pu.ev (pPt rfl rfl)) fun a hf => ?_
            exact qNil (hf.keep ⟨rfl, rfl, rfl, rfl, rfl, rfl, rfl, rfl, rfl, rfl, rfl, rfl, rfl, rfl, rfl, rfl, rfl, rfl, rfl, rfl, rfl, rfl, rfl, rfl, rfl, rfl, trivial⟩)
        intro a hf
        refine qE hf rfl rfl rfl (Pu.ev (pM rfl)) fun a hf => ?_
        refine qCut 11 (fun a => Has 364 a [(9, .pointer (some ⟨b_2, 0, none⟩)), (10, .slice p_4 r_1.2.1.length c_4), (11, .pointer (some ⟨b_3, 0, none⟩)), (12, .pointer (some ⟨b_4, 0, none⟩)), (15, .int .i64 (min ((W (a_)).tmod ((r_1.2.1.length : Nat) : Int)) ((W (b_)).tmod ((r_1.2.1.length : Nat) : Int)))), (16, .int .i64 (max ((W (a_)).tmod ((r_1.2.1.length : Nat) : Int)) ((W (b_)).tmod ((r_1.2.1.length : Nat) : Int)))), (17, .slice (some ⟨g_4, 0, none⟩) r_4.1.length c_8), (19, .slice (some ⟨g_3, 0, none⟩) r_5.1.length c_9), (152, .int .i64 ((r_4.1.length : Nat) : Int)), (153, .int .i64 x_4), (21, .int .i64 x_4), (156, .slice (some ⟨g_3, 0, none⟩) r_5.1.length c_9), (157, .int .i64 x_4), (158, .pointer (some ⟨g_3, x_4.toNat * 2, none⟩)), (159, .pointer (some ⟨g_3, x_4.toNat * 2 + 0, none⟩)), (160, .int .i64 e_5.Lo), (161, .slice (some ⟨g_4, 0, none⟩) r_4.1.length c_8), (162, .int .i64 x_4), (163, .pointer (some ⟨g_4, x_4.toNat * 2, none⟩)), (164, .pointer (some ⟨g_4, x_4.toNat * 2 + 0, none⟩)), (165, .int .i64 e_6.Lo), (166, .bool (decide (e_5.Lo < e_6.Lo))), (167, .bool (decide (e_5.Lo < e_6.Lo))), (179, .bool t_3), (180, .bool t_3), (191, .bool t_4), (192, .bool t_4), (203, .bool t_5)]) ?_ ?_
        · cases hb : t_4
          · rw [hb] at hf
            have hF := condF hb ht_5
            obtain ⟨e_11, he_11, hF⟩ := bnd_some hF
            obtain ⟨qa_10, qr_10⟩ := row_atk hc m1 he_11
            obtain ⟨e_12, he_12, hF⟩ := bnd_some hF
            obtain ⟨g_6, rfl, qa_11, qr_11⟩ := row_atm hc m7 he_12
            refine qE hf rfl rfl rfl (Pu.ev (pM rfl)) fun a hf => ?_
            refine qE hf rfl rfl rfl (Pu.ev (pM rfl)) fun a hf => ?_
            refine qE hf rfl rfl rfl (Pu.ev (pIA Try.underlying25 sz_30 rfl rfl qa_10)) fun a hf => ?_
            refine qE hf rfl rfl rfl (Pu.ev (pFA fa_30_1 rfl)) fun a hf => ?_
            refine qE hf rfl rfl rfl (eLd1 sc_3 rfl (cell_row (sz := 2) (i := x_4.toNat) (j := 1) m1 qr_10 rfl)) fun a hf => ?_
            refine qE hf rfl rfl rfl (Pu.ev (pM rfl)) fun a hf => ?_
            refine qE hf rfl rfl rfl (Pu.ev (pM rfl)) fun a hf => ?_
            refine qE hf rfl rfl rfl (Pu.ev (pIA Try.underlying39 sz_3 rfl rfl qa_11)) fun a hf => ?_
            refine qE hf rfl rfl rfl (eLd1 sc_3 rfl (cell_row (sz := 1) (i := x_4.toNat) (j := 0) m7 qr_11 rfl)) fun a hf => ?_
            refine qE hf rfl rfl rfl (Pu.ev (pLt rfl rfl)) fun a hf => ?_
            refine qE hf rfl rfl rfl (Pu.ev (pPf rfl rfl)) fun a hf => ?_
            obtain rfl := Option.some.inj hF
            exact qNil (hf.keep ⟨rfl, rfl, rfl, rfl, rfl, rfl, rfl, rfl, rfl, rfl, rfl, rfl, rfl, rfl, rfl, rfl, rfl, rfl, rfl, rfl, rfl, rfl, rfl, rfl, rfl, rfl, rfl, rfl, trivial⟩)
          · rw [hb] at hf
            have hF := condT hb ht_5
            obtain rfl := Option.some.inj hF
            refine qS hf rfl rfl rfl fun a hf => ?_
            refine qS hf rfl rfl rfl fun a hf => ?_
            refine qS hf rfl rfl rfl fun a hf => ?_
            refine qS hf rfl rfl rfl fun a hf => ?_
            refine qS hf rfl rfl rfl fun a hf => ?_
            refine qS hf rfl rfl rfl fun a hf => ?_
            refine qS hf rfl rfl rfl fun a hf => ?_
            refine qS hf rfl rfl rfl fun a hf => ?_
            refine qS hf rfl rfl rfl fun a hf => ?_
            refine qS hf rfl rfl rfl fun a hf => ?_
            refine qE hf rfl rfl rfl (Pu.ev (pPt rfl rfl)) fun a hf => ?_
            exact qNil (hf.keep ⟨rfl, rfl, rfl, rfl, rfl, rfl, rfl, rfl, rfl, rfl, rfl, rfl, rfl, rfl, rfl, rfl, rfl, rfl, rfl, rfl, rfl, rfl, rfl, rfl, rfl, rfl, rfl, rfl, trivial⟩)
        intro a hf
        intro w hc
        refine h56 _ _ ?_
        refine cCond (b := t_5) hf rfl (fun hb => ?_) (fun hb => ?_)
        · replace hF := condT hb hF
          clear hb
          refine wp_seq_k fun K57 h57 => ?_
          refine cReg ?_
          refine stP hf rfl rfl rfl (pA rfl) fun a hf => ?_
          refine cNil ?_
          refine h57 _ _ ?_
          refine wp_ret ?_
          refine xBlkR ?_
          refine xThenR ?_
          refine xThenR ?_
          have he := Option.some.inj hF
          rw [← he] at hfin17
          replace hF := ho17 _ hfin17
          refine xBlkR ?_
          refine xThenR ?_
          obtain rfl := hF
          replace hc := hc.drop k7
          replace hc := hc.drop k6
          replace hc := hc.drop k5
          replace hc := hc.drop k4
          replace hc := hc.drop k3
          replace hc := hc.drop k2
          replace hc := hc.drop k1
          replace hc := hc.drop k0
          exact fnOut1 (by simp) rfl Try.results5 hf hc (show look _ 8 = _ from rfl) ⟨rfl, hc⟩
        · replace hF := condF hb hF
          clear hb
          refine wp_skip ?_
          refine h54 _ _ ?_
          refine cReg ?_
          refine stP hf rfl rfl rfl (pAdd rfl rfl) fun a hf => ?_
          refine stP hf rfl rfl rfl (pM rfl) fun a hf => ?_
          refine cNil ?_
          exact hK17 (W (x_4 + 1)) _ _ (Option.some.inj hF).symm ⟨(some ⟨g_4, 0, none⟩), c_8, (some ⟨g_3, 0, none⟩), c_9, hf.keep ⟨rfl, rfl, rfl, rfl, rfl, rfl, rfl, rfl, rfl, rfl, trivial⟩, hc⟩
      · replace hF := condF hb hF
        clear hb
        refine wp_exit ?_
        refine xThen ?_
        refine xThen ?_
        have he := Option.some.inj hF
        rw [← he] at hfin17
        refine cHit ?_
        exact hr17 _ _ _ hfin17 ⟨p_8, c_8, p_9, c_9, hf.keep ⟨rfl, rfl, rfl, rfl, rfl, rfl, rfl, rfl, rfl, rfl, trivial⟩, hc⟩
  have ho7 : ∀ r, x7 = .out r → r = res := by
    rintro r rfl
    exact Option.some.inj hF
  replace hc := hc.drop k6
  refine cLoop N (loopW (S := S7) (x := x7) ?_ N (r_3.Days, 0, r_2.1, r_2.2) _ _ ⟨p_2, c_2, p_3, c_3, hf.keep ⟨rfl, rfl, rfl, rfl, rfl, rfl, rfl, rfl, rfl, trivial⟩, hc⟩ hx7)
  clear hF hf hc
  rintro ⟨x, x_1, x_2, x_3⟩ st7 a w KB7 ⟨p_4, c_4, p_5, c_5, hf, hc⟩ hF hfin7 hK7
  unfold law07_DailyBetter_b7 at hF
  refine wp_seq_k fun K58 h58 => ?_
  refine cReg ?_
  refine stP hf rfl rfl rfl (pLt rfl rfl) fun a hf => ?_
  refine cNil ?_
  refine h58 _ _ ?_
  refine wp_seq_k fun K59 h59 => ?_
  refine cCond (b := (decide (x_1 < ((r_3.Days.length : Nat) : Int)))) hf rfl (fun hb => ?_) (fun hb => ?_)
  · replace hF := condT hb hF
    clear hb
    refine wp_skip ?_
    refine h59 _ _ ?_
    refine wp_seq_k fun K60 h60 => ?_
    have hj60 : ∀ (x_14 : List daily_Value) (x_15 : Int) (x_16 : Int) (p_23 : Option Addr) (c_23 : Nat) (p_24 : Option Addr) (c_24 : Nat) a w, Has 364 a [(2, .int .u8 a_), (3, .int .u8 b_), (9, .pointer (some ⟨b_2, 0, none⟩)), (10, .slice p_23 r_1.2.1.length c_23), (11, .pointer (some ⟨b_3, 0, none⟩)), (12, .pointer (some ⟨b_4, 0, none⟩)), (48, .slice p_24 x_14.length c_24), (49, .int .i64 ((r_3.Days.length : Nat) : Int)), (50, .int .i64 x_1)] → Ctx G (.box b_3 [.slice better_p better.length better_c, .int .i64 x_15, .int .i64 x_16] 135 :: .box b_4 [.int .i64 r_3.Rise, .int .i64 r_3.Fall, .slice p_24 x_14.length c_24] 24 :: .row p_1 c_1 (r_1.1.Days.map enc_daily_Value) 56 3 :: .row p_24 c_24 (x_14.map enc_daily_Value) 56 3 :: .box b_2 [.int .i64 r_1.1.Rise, .int .i64 r_1.1.Fall, .slice p_1 r_1.1.Days.length c_1] 24 :: .row p_23 c_23 (r_1.2.1.map encI_i64) 3 1 :: Lf) w → law07_DailyBetter_j60 N x_1 x_14 x_15 x_16 = some st7 → K60 a w := by
      try clear hF
      try clear hc
      try clear hf
      intro x_14 x_15 x_16 p_23 c_23 p_24 c_24 a w hf hc hF
      unfold law07_DailyBetter_j60 at hF
      refine h60 _ _ ?_
      refine cReg ?_
      refine stP hf rfl rfl rfl (pAdd rfl rfl) fun a hf => ?_
      refine stP hf rfl rfl rfl (pM rfl) fun a hf => ?_
      refine cNil ?_
      replace hc := hc.pick k0
      replace hc := hc.pick k3
      replace hc := hc.pick k3
      replace hc := hc.pick k3
      exact hK7 (x_14, W (x_1 + 1), x_15, x_16) _ _ (Option.some.inj hF).symm ⟨p_23, c_23, p_24, c_24, hf.keep ⟨rfl, rfl, rfl, rfl, rfl, rfl, rfl, rfl, rfl, trivial⟩, hc⟩
    refine wp_block ?_
    refine wp_seq_k fun K61 h61 => ?_
    refine cReg ?_
    refine stP hf rfl rfl rfl (pM rfl) fun a hf => ?_
    obtain ⟨e_13, he_13, hF⟩ := bnd_some hF
    obtain ⟨g_7, rfl, qa_12, qr_12⟩ := row_atm hc m2 he_13
    refine stP hf rfl rfl rfl (pIA Try.underlying22 sz_56 rfl rfl qa_12) fun a hf => ?_
    refine stE hf hc rfl rfl rfl (eLdN (vs := [.bool e_13.Known, .int .i64 e_13.Flow.Lo, .int .i64 e_13.Flow.Hi]) ag_56 rfl rfl (cells_rw (sz := 3) (i := x_1.toNat) m2 qr_12 (n := 3) (o' := 0) rfl)) fun a w hf hc => ?_
    refine stAl (cs := [.bool false, .int .i64 0, .int .i64 0]) hf hc rfl rfl zr_56 rfl fun b_10 a w hf hc => ?_
    refine stP hf rfl rfl rfl (pA rfl) fun a hf => ?_
    refine stSt (vs := [.bool e_13.Known, .int .i64 e_13.Flow.Lo, .int .i64 e_13.Flow.Hi]) hf hc rfl rfl rfl rfl sz_56 rfl rfl u0 fun w hc => ?_
    refine cNil ?_
    refine h61 _ _ ?_
    refine wp_seq_k fun K62 h62 => ?_
    refine wp_seq_k fun K63 h63 => ?_
    refine cReg ?_
    refine stP hf rfl rfl rfl (pM rfl) fun a hf => ?_
    obtain ⟨r_18, hr_18, hF⟩ := bnd_some hF
    refine stC (vs := [.pointer (some ⟨b_3, 0, none⟩), .int .i64 3]) (caps := []) hf rfl rfl rfl en_30 rfl rfl rfl rfl (kit_Stream_Next_ok (⟨better, x_2, x_3⟩ : kit_Stream) 3 h_better (hc.pick k4) hr_18) ?_
    rintro _ w ⟨rfl, hc⟩
    refine ⟨_, rfl, fun a hf => ?_⟩
    refine stP hf rfl rfl rfl (pGt rfl rfl) fun a hf => ?_
    refine cNil ?_
    refine h63 _ _ ?_
    refine cCond (b := (decide (0 < r_18.1))) hf rfl (fun hb => ?_) (fun hb => ?_)
    · replace hF := condT hb hF
      clear hb
      refine wp_exit ?_
      refine xThen ?_
      refine cHit ?_
      replace hc := hc.drop k1
      exact hj60 x r_18.2.1 r_18.2.2 p_4 c_4 (some ⟨g_7, 0, none⟩) c_5 _ _  (hf.keep ⟨rfl, rfl, rfl, rfl, rfl, rfl, rfl, rfl, rfl, trivial⟩) hc hF
    · replace hF := condF hb hF
      clear hb
      refine wp_skip ?_
      refine h62 _ _ ?_
      refine wp_seq_k fun K64 h64 => ?_
      refine wp_seq_k fun K65 h65 => ?_
      refine cReg ?_
      refine stP hf rfl rfl rfl (pFA fa_56_0 rfl) fun a hf => ?_
      refine stE hf hc rfl rfl rfl (eLd1 sc_4 rfl (cell_box m1 rfl)) fun a w hf hc => ?_
      refine stP hf rfl rfl rfl (pNot rfl) fun a hf => ?_
      refine cNil ?_
      refine h65 _ _ ?_
      refine cCond (b := (!e_13.Known)) hf rfl (fun hb => ?_) (fun hb => ?_)
      · replace hF := condT hb hF
        clear hb
        refine wp_seq_k fun K66 h66 => ?_
        obtain ⟨e_14, he_14, hF⟩ := bnd_some hF
        obtain ⟨g_8, rfl, qa_13, qr_13⟩ := row_atm hc m6 he_14
        obtain ⟨r_19, hr_19, hF⟩ := bnd_some hF
        obtain ⟨e_15, he_15, hF⟩ := bnd_some hF
        obtain ⟨qa_14, qr_14⟩ := row_atk hc m6 he_15
        obtain ⟨r_20, hr_20, hF⟩ := bnd_some hF
        obtain ⟨r_21, hr_21, hF⟩ := bnd_some hF
        obtain ⟨e_16, he_16, hF⟩ := bnd_some hF
        obtain ⟨qa_15, qr_15⟩ := row_atk hc m4 he_16
        refine regionE (fun θ => (⟨none, none, 2, .int .u8 a_⟩ :: ⟨none, none, 3, .int .u8 b_⟩ :: ⟨none, none, 9, .pointer (some ⟨b_2, 0, none⟩)⟩ :: ⟨none, none, 10, .slice (some ⟨g_8, 0, none⟩) r_1.2.1.length c_4⟩ :: ⟨none, none, 11, .pointer (some ⟨b_3, 0, none⟩)⟩ :: ⟨none, none, 12, .pointer (some ⟨b_4, 0, none⟩)⟩ :: ⟨none, none, 13, .int .i64 x_1⟩ :: ⟨none, none, 48, .slice (some ⟨g_7, 0, none⟩) x.length c_5⟩ :: ⟨none, none, 49, .int .i64 ((r_3.Days.length : Nat) : Int)⟩ :: ⟨none, none, 50, .int .i64 x_1⟩ :: ⟨some 0, none, 61, .pointer (some ⟨b_4, 2, none⟩)⟩ :: ⟨some 1, none, 62, .slice (some ⟨g_7, 0, none⟩) x.length c_5⟩ :: ⟨some 2, none, 63, .int .i64 x_1⟩ :: ⟨some 3, none, 64, .slice (some ⟨g_8, 0, none⟩) r_1.2.1.length c_4⟩ :: ⟨some 4, none, 65, .int .i64 x_1⟩ :: ⟨some 5, none, 66, .pointer (some ⟨g_8, x_1.toNat * 1, none⟩)⟩ :: ⟨some 6, none, 67, .int .i64 e_14⟩ :: ⟨some 7, none, 68, .pointer (some ⟨b_3, 0, none⟩)⟩ :: ⟨some 8, none, 69, .int .i64 r_19.1⟩ :: ⟨some 9, none, 70, .int .i64 (W (e_14 - r_19.1))⟩ :: ⟨some 10, none, 71, .int .i64 (max 0 (W (e_14 - r_19.1)))⟩ :: ⟨some 11, none, 72, .slice (some ⟨g_8, 0, none⟩) r_1.2.1.length c_4⟩ :: ⟨some 12, none, 73, .int .i64 x_1⟩ :: ⟨some 13, none, 74, .pointer (some ⟨g_8, x_1.toNat * 1, none⟩)⟩ :: ⟨some 14, none, 75, .int .i64 e_15⟩ :: ⟨some 15, none, 76, .pointer (some ⟨b_3, 0, none⟩)⟩ :: ⟨some 16, none, 77, .int .i64 r_20.1⟩ :: ⟨some 17, none, 78, .int .i64 (W (e_15 + r_20.1))⟩ :: ⟨some 18, none, 79, .agg #[.bool r_21.Known, .int .i64 r_21.Flow.Lo, .int .i64 r_21.Flow.Hi]⟩ :: ⟨some 19, none, 80, .pointer (some ⟨g_7, x_1.toNat * 3, none⟩)⟩ :: [])) (fun E θ => (bif E 16 then .box b_3 [.slice better_p better.length better_c, .int .i64 r_20.2.1, .int .i64 r_20.2.2] 135 else bif E 8 then .box b_3 [.slice better_p better.length better_c, .int .i64 r_19.2.1, .int .i64 r_19.2.2] 135 else .box b_3 [.slice better_p better.length better_c, .int .i64 r_18.2.1, .int .i64 r_18.2.2] 135) :: .box b_10 [.bool e_13.Known, .int .i64 e_13.Flow.Lo, .int .i64 e_13.Flow.Hi] 56 :: .box b_4 [.int .i64 r_3.Rise, .int .i64 r_3.Fall, .slice (some ⟨g_7, 0, none⟩) x.length c_5] 24 :: .row p_1 c_1 (r_1.1.Days.map enc_daily_Value) 56 3 :: (bif E 20 then .row (some ⟨g_7, 0, none⟩) c_5 ((x.set x_1.toNat r_21).map enc_daily_Value) 56 3 else .row (some ⟨g_7, 0, none⟩) c_5 (x.map enc_daily_Value) 56 3) :: .box b_2 [.int .i64 r_1.1.Rise, .int .i64 r_1.1.Fall, .slice p_1 r_1.1.Days.length c_1] 24 :: .row (some ⟨g_8, 0, none⟩) c_4 (r_1.2.1.map encI_i64) 3 1 :: Lf) [(16, 8), (20, 19)] (fun a w => Has 364 a [(2, .int .u8 a_), (3, .int .u8 b_), (9, .pointer (some ⟨b_2, 0, none⟩)), (10, .slice (some ⟨g_8, 0, none⟩) r_1.2.1.length c_4), (11, .pointer (some ⟨b_3, 0, none⟩)), (12, .pointer (some ⟨b_4, 0, none⟩)), (48, .slice (some ⟨g_7, 0, none⟩) x.length c_5), (49, .int .i64 ((r_3.Days.length : Nat) : Int)), (50, .int .i64 x_1)] ∧ Ctx G (.box b_3 [.slice better_p better.length better_c, .int .i64 r_20.2.1, .int .i64 r_20.2.2] 135 :: .box b_10 [.bool e_13.Known, .int .i64 e_13.Flow.Lo, .int .i64 e_13.Flow.Hi] 56 :: .box b_4 [.int .i64 r_3.Rise, .int .i64 r_3.Fall, .slice (some ⟨g_7, 0, none⟩) x.length c_5] 24 :: .row p_1 c_1 (r_1.1.Days.map enc_daily_Value) 56 3 :: .row (some ⟨g_7, 0, none⟩) c_5 ((x.set x_1.toNat r_21).map enc_daily_Value) 56 3 :: .box b_2 [.int .i64 r_1.1.Rise, .int .i64 r_1.1.Fall, .slice p_1 r_1.1.Days.length c_1] 24 :: .row (some ⟨g_8, 0, none⟩) c_4 (r_1.2.1.map encI_i64) 3 1 :: Lf) w) follows_mx (by kernel_rfl) (by kernel_rfl) (HasE.of hf ⟨rfl, rfl, rfl, rfl, rfl, rfl, rfl, rfl, rfl, rfl, trivial, trivial, trivial, trivial, trivial, trivial, trivial, trivial, trivial, trivial, trivial, trivial, trivial, trivial, trivial, trivial, trivial, trivial, trivial, trivial, trivial⟩) hc ⟨?_, ?_, ?_, ?_, ?_, ?_, ?_, ?_, ?_, ?_, ?_, ?_, ?_, ?_, ?_, ?_, ?_, ?_, ?_, ?_, ?_, trivial⟩ ?_ ?_
        · intro E θ a w hD hi hp he hc
          have hf := he.h0
          replace hf := hf.more he 5 rfl onT
          refine stP hf rfl rfl rfl (pFA fa_24_2 rfl) fun a hf => ?_
          refine cNil ?_
          refine xThenN ?_
          intro ds u hau
          refine ⟨θ, he.put0 hi hau hf rfl 10 rfl rfl, ?_⟩
          exact hc
        · intro E θ a w hD hi hp he hc
          have e0 := hp.of (k := 0) rfl
          have hf := he.h0
          replace hf := hf.more he 10 rfl (onP e0)
          refine stE hf hc rfl rfl rfl (eLd1 sc_22 rfl (cell_box m2 rfl)) fun a w hf hc => ?_
          refine cNil ?_
          refine xThenN ?_
          intro ds u hau
          refine ⟨θ, he.put0 hi hau hf rfl 11 rfl rfl, ?_⟩
          exact hc
        · intro E θ a w hD hi hp he hc
          have hf := he.h0
          replace hf := hf.more he 6 rfl onT
          refine stP hf rfl rfl rfl (pM rfl) fun a hf => ?_
          refine cNil ?_
          refine xThenN ?_
          intro ds u hau
          refine ⟨θ, he.put0 hi hau hf rfl 12 rfl rfl, ?_⟩
          exact hc
        · intro E θ a w hD hi hp he hc
          have hf := he.h0
          replace hf := hf.more he 3 rfl onT
          refine stP hf rfl rfl rfl (pM rfl) fun a hf => ?_
          refine cNil ?_
          refine xThenN ?_
          intro ds u hau
          refine ⟨θ, he.put0 hi hau hf rfl 13 rfl rfl, ?_⟩
          exact hc
        · intro E θ a w hD hi hp he hc
          have hf := he.h0
          replace hf := hf.more he 6 rfl onT
          refine stP hf rfl rfl rfl (pM rfl) fun a hf => ?_
          refine cNil ?_
          refine xThenN ?_
          intro ds u hau
          refine ⟨θ, he.put0 hi hau hf rfl 14 rfl rfl, ?_⟩
          exact hc
        · intro E θ a w hD hi hp he hc
          have e3 := hp.of (k := 3) rfl
          have e4 := hp.of (k := 4) rfl
          have hf := he.h0
          replace hf := hf.more he 13 rfl (onP e3)
          replace hf := hf.more he 14 rfl (onP e4)
          refine stP hf rfl rfl rfl (pIA Try.underlying39 sz_3 rfl rfl qa_13) fun a hf => ?_
          refine cNil ?_
          refine xThenN ?_
          intro ds u hau
          refine ⟨θ, he.put0 hi hau hf rfl 15 rfl rfl, ?_⟩
          exact hc
        · intro E θ a w hD hi hp he hc
          have e5 := hp.of (k := 5) rfl
          have hf := he.h0
          replace hf := hf.more he 15 rfl (onP e5)
          refine stE hf hc rfl rfl rfl (eLd1 sc_3 rfl (cell_row (sz := 1) (i := x_1.toNat) (j := 0) m6 qr_13 rfl)) fun a w hf hc => ?_
          refine cNil ?_
          refine xThenN ?_
          intro ds u hau
          refine ⟨θ, he.put0 hi hau hf rfl 16 rfl rfl, ?_⟩
          exact hc
        · intro E θ a w hD hi hp he hc
          have hf := he.h0
          replace hf := hf.more he 4 rfl onT
          refine stP hf rfl rfl rfl (pM rfl) fun a hf => ?_
          refine cNil ?_
          refine xThenN ?_
          intro ds u hau
          refine ⟨θ, he.put0 hi hau hf rfl 17 rfl rfl, ?_⟩
          exact hc
        · intro E θ a w hD hi hp he hc
          have e7 := hp.of (k := 7) rfl
          have e16 := hD.f 0 rfl hi
          try dsimp only at hc
          rw [hi, e16] at hc
          have hf := he.h0
          replace hf := hf.more he 17 rfl (onP e7)
          refine stC (vs := [.pointer (some ⟨b_3, 0, none⟩), .int .i64 60]) (caps := []) hf rfl rfl rfl en_30 rfl rfl rfl rfl (kit_Stream_Next_ok (⟨better, r_18.2.1, r_18.2.2⟩ : kit_Stream) 60 h_better (hc.pick k0) hr_19) ?_
          rintro _ w ⟨rfl, hc⟩
          refine ⟨_, rfl, fun a hf => ?_⟩
          refine cNil ?_
          refine xThenN ?_
          intro ds u hau
          refine ⟨θ, he.put0 hi hau hf rfl 18 rfl rfl, ?_⟩
          try dsimp only
          rw [updE_self E 8, updE_fls 8 e16 rfl]
          exact hc
        · intro E θ a w hD hi hp he hc
          have e6 := hp.of (k := 6) rfl
          have e8 := hp.of (k := 8) rfl
          have hf := he.h0
          replace hf := hf.more he 16 rfl (onP e6)
          replace hf := hf.more he 18 rfl (onP e8)
          refine stP hf rfl rfl rfl (pSub rfl rfl) fun a hf => ?_
          refine cNil ?_
          refine xThenN ?_
          intro ds u hau
          refine ⟨θ, he.put0 hi hau hf rfl 19 rfl rfl, ?_⟩
          exact hc
        · intro E θ a w hD hi hp he hc
          have e9 := hp.of (k := 9) rfl
          have hf := he.h0
          replace hf := hf.more he 19 rfl (onP e9)
          refine stP hf rfl rfl rfl (pMax2 rfl rfl) fun a hf => ?_
          refine cNil ?_
          refine xThenN ?_
          intro ds u hau
          refine ⟨θ, he.put0 hi hau hf rfl 20 rfl rfl, ?_⟩
          exact hc
        · intro E θ a w hD hi hp he hc
          have hf := he.h0
          replace hf := hf.more he 3 rfl onT
          refine stP hf rfl rfl rfl (pM rfl) fun a hf => ?_
          refine cNil ?_
          refine xThenN ?_
          intro ds u hau
          refine ⟨θ, he.put0 hi hau hf rfl 21 rfl rfl, ?_⟩
          exact hc
        · intro E θ a w hD hi hp he hc
          have hf := he.h0
          replace hf := hf.more he 6 rfl onT
          refine stP hf rfl rfl rfl (pM rfl) fun a hf => ?_
          refine cNil ?_
          refine xThenN ?_
          intro ds u hau
          refine ⟨θ, he.put0 hi hau hf rfl 22 rfl rfl, ?_⟩
          exact hc
        · intro E θ a w hD hi hp he hc
          have e11 := hp.of (k := 11) rfl
          have e12 := hp.of (k := 12) rfl
          have hf := he.h0
          replace hf := hf.more he 21 rfl (onP e11)
          replace hf := hf.more he 22 rfl (onP e12)
          refine stP hf rfl rfl rfl (pIA Try.underlying39 sz_3 rfl rfl qa_14) fun a hf => ?_
          refine cNil ?_
          refine xThenN ?_
          intro ds u hau
          refine ⟨θ, he.put0 hi hau hf rfl 23 rfl rfl, ?_⟩
          exact hc
        · intro E θ a w hD hi hp he hc
          have e13 := hp.of (k := 13) rfl
          have hf := he.h0
          replace hf := hf.more he 23 rfl (onP e13)
          refine stE hf hc rfl rfl rfl (eLd1 sc_3 rfl (cell_row (sz := 1) (i := x_1.toNat) (j := 0) m6 qr_14 rfl)) fun a w hf hc => ?_
          refine cNil ?_
          refine xThenN ?_
          intro ds u hau
          refine ⟨θ, he.put0 hi hau hf rfl 24 rfl rfl, ?_⟩
          exact hc
        · intro E θ a w hD hi hp he hc
          have hf := he.h0
          replace hf := hf.more he 4 rfl onT
          refine stP hf rfl rfl rfl (pM rfl) fun a hf => ?_
          refine cNil ?_
          refine xThenN ?_
          intro ds u hau
          refine ⟨θ, he.put0 hi hau hf rfl 25 rfl rfl, ?_⟩
          exact hc
        · intro E θ a w hD hi hp he hc
          have e15 := hp.of (k := 15) rfl
          have e8 := hp.of (k := 8) rfl
          try dsimp only at hc
          rw [e8, hi] at hc
          have hf := he.h0
          replace hf := hf.more he 25 rfl (onP e15)
          refine stC (vs := [.pointer (some ⟨b_3, 0, none⟩), .int .i64 60]) (caps := []) hf rfl rfl rfl en_30 rfl rfl rfl rfl (kit_Stream_Next_ok (⟨better, r_19.2.1, r_19.2.2⟩ : kit_Stream) 60 h_better (hc.pick k0) hr_20) ?_
          rintro _ w ⟨rfl, hc⟩
          refine ⟨_, rfl, fun a hf => ?_⟩
          refine cNil ?_
          refine xThenN ?_
          intro ds u hau
          refine ⟨θ, he.put0 hi hau hf rfl 26 rfl rfl, ?_⟩
          try dsimp only
          rw [updE_tru 16 e8, updE_self E 16]
          exact hc
        · intro E θ a w hD hi hp he hc
          have e14 := hp.of (k := 14) rfl
          have e16 := hp.of (k := 16) rfl
          have hf := he.h0
          replace hf := hf.more he 24 rfl (onP e14)
          replace hf := hf.more he 26 rfl (onP e16)
          refine stP hf rfl rfl rfl (pAdd rfl rfl) fun a hf => ?_
          refine cNil ?_
          refine xThenN ?_
          intro ds u hau
          refine ⟨θ, he.put0 hi hau hf rfl 27 rfl rfl, ?_⟩
          exact hc
        · intro E θ a w hD hi hp he hc
          have e10 := hp.of (k := 10) rfl
          have e17 := hp.of (k := 17) rfl
          have hf := he.h0
          replace hf := hf.more he 20 rfl (onP e10)
          replace hf := hf.more he 27 rfl (onP e17)
          refine stE hf hc rfl rfl rfl (eC (v := .agg #[.bool r_21.Known, .int .i64 r_21.Flow.Lo, .int .i64 r_21.Flow.Hi]) (vs := [.int .i64 (max 0 (W (e_14 - r_19.1))), .int .i64 (W (e_15 + r_20.1))]) (caps := []) en_27 rfl rfl rfl rfl (fun w hc => law07_known_ok (max 0 (W (e_14 - r_19.1))) (W (e_15 + r_20.1)) hc hr_21)) fun a w hf hc => ?_
          refine cNil ?_
          refine xThenN ?_
          intro ds u hau
          refine ⟨θ, he.put0 hi hau hf rfl 28 rfl rfl, ?_⟩
          exact hc
        · intro E θ a w hD hi hp he hc
          have e1 := hp.of (k := 1) rfl
          have e2 := hp.of (k := 2) rfl
          have e20 := hD.f 1 rfl hi
          try dsimp only at hc
          rw [e20] at hc
          have hf := he.h0
          replace hf := hf.more he 11 rfl (onP e1)
          replace hf := hf.more he 12 rfl (onP e2)
          refine stP hf rfl rfl rfl (pIA Try.underlying22 sz_56 rfl rfl qa_15) fun a hf => ?_
          refine cNil ?_
          refine xThenN ?_
          intro ds u hau
          refine ⟨θ, he.put0 hi hau hf rfl 29 rfl rfl, ?_⟩
          try dsimp only
          rw [updE_fls 19 e20 rfl]
          exact hc
        · intro E θ a w hD hi hp he hc
          have e18 := hp.of (k := 18) rfl
          have e19 := hp.of (k := 19) rfl
          try dsimp only at hc
          rw [hi] at hc
          have hf := he.h0
          replace hf := hf.more he 28 rfl (onP e18)
          replace hf := hf.more he 29 rfl (onP e19)
          refine stRw (vs := [.bool r_21.Known, .int .i64 r_21.Flow.Lo, .int .i64 r_21.Flow.Hi]) (o' := 0) (z := r_21) (xs := x) hf hc rfl rfl rfl rfl sz_56 rfl (fun x => (one_enc_daily_Value x).1) (getI_lt he_16) (fun _ _ => rfl) rfl u4 fun w hc => ?_
          refine cNil ?_
          refine xThenN ?_
          intro ds u hau
          refine ⟨θ, he.stay0 hi hau hf rfl, ?_⟩
          try dsimp only
          rw [updE_self E 20]
          exact hc
        · intro E θ a w hall he hc
          have hf := he.h0
          have e8 := hall 8 rfl
          have e16 := hall 16 rfl
          have e20 := hall 20 rfl
          replace hf := hf.more he 9 rfl (onT)
          replace hf := hf.more he 8 rfl (onT)
          replace hf := hf.more he 7 rfl (onT)
          replace hf := hf.more he 5 rfl (onT)
          replace hf := hf.more he 4 rfl (onT)
          replace hf := hf.more he 3 rfl (onT)
          replace hf := hf.more he 2 rfl (onT)
          replace hf := hf.more he 1 rfl (onT)
          replace hf := hf.more he 0 rfl (onT)
          try dsimp only at hc
          rw [e8, e16, e20] at hc
          exact ⟨hf.keep ⟨rfl, rfl, rfl, rfl, rfl, rfl, rfl, rfl, rfl, trivial⟩, hc⟩
        rintro a w ⟨hf, hc⟩
        refine h66 _ _ ?_
        refine wp_exit ?_
        refine xThen ?_
        refine cHit ?_
        rw [(by simp : x.length = (x.set x_1.toNat r_21).length)] at hf
        rw [(by simp : x.length = (x.set x_1.toNat r_21).length)] at hc
        replace hc := hc.drop k1
        exact hj60 (x.set x_1.toNat r_21) r_20.2.1 r_20.2.2 (some ⟨g_8, 0, none⟩) c_4 (some ⟨g_7, 0, none⟩) c_5 _ _  (hf.keep ⟨rfl, rfl, rfl, rfl, rfl, rfl, rfl, rfl, rfl, trivial⟩) hc hF
      · replace hF := condF hb hF
        clear hb
        refine wp_skip ?_
        refine h64 _ _ ?_
        obtain ⟨e_17, he_17, hF⟩ := bnd_some hF
        obtain ⟨g_9, rfl, qa_16, qr_16⟩ := row_atm hc m6 he_17
        obtain ⟨r_22, hr_22, hF⟩ := bnd_some hF
        obtain ⟨e_18, he_18, hF⟩ := bnd_some hF
        obtain ⟨qa_17, qr_17⟩ := row_atk hc m6 he_18
        obtain ⟨r_23, hr_23, hF⟩ := bnd_some hF
        obtain ⟨r_24, hr_24, hF⟩ := bnd_some hF
        obtain ⟨e_19, he_19, hF⟩ := bnd_some hF
        obtain ⟨qa_18, qr_18⟩ := row_atk hc m4 he_19
        refine regionE (fun θ => (⟨none, none, 2, .int .u8 a_⟩ :: ⟨none, none, 3, .int .u8 b_⟩ :: ⟨none, none, 9, .pointer (some ⟨b_2, 0, none⟩)⟩ :: ⟨none, none, 10, .slice (some ⟨g_9, 0, none⟩) r_1.2.1.length c_4⟩ :: ⟨none, none, 11, .pointer (some ⟨b_3, 0, none⟩)⟩ :: ⟨none, none, 12, .pointer (some ⟨b_4, 0, none⟩)⟩ :: ⟨none, none, 13, .int .i64 x_1⟩ :: ⟨none, none, 14, .pointer (some ⟨b_10, 0, none⟩)⟩ :: ⟨none, none, 48, .slice (some ⟨g_7, 0, none⟩) x.length c_5⟩ :: ⟨none, none, 49, .int .i64 ((r_3.Days.length : Nat) : Int)⟩ :: ⟨none, none, 50, .int .i64 x_1⟩ :: ⟨some 0, none, 81, .pointer (some ⟨b_4, 2, none⟩)⟩ :: ⟨some 1, none, 82, .slice (some ⟨g_7, 0, none⟩) x.length c_5⟩ :: ⟨some 2, none, 83, .int .i64 x_1⟩ :: ⟨some 3, none, 84, .pointer (some ⟨b_3, 0, none⟩)⟩ :: ⟨some 4, none, 85, .pointer (some ⟨b_10, 1, none⟩)⟩ :: ⟨some 5, none, 86, .pointer (some ⟨b_10, 1, none⟩)⟩ :: ⟨some 6, none, 87, .int .i64 e_13.Flow.Lo⟩ :: ⟨some 7, none, 88, .slice (some ⟨g_9, 0, none⟩) r_1.2.1.length c_4⟩ :: ⟨some 8, none, 89, .int .i64 x_1⟩ :: ⟨some 9, none, 90, .pointer (some ⟨g_9, x_1.toNat * 1, none⟩)⟩ :: ⟨some 10, none, 91, .int .i64 e_17⟩ :: ⟨some 11, none, 92, .int .i64 r_22.1⟩ :: ⟨some 12, none, 93, .pointer (some ⟨b_3, 0, none⟩)⟩ :: ⟨some 13, none, 94, .slice (some ⟨g_9, 0, none⟩) r_1.2.1.length c_4⟩ :: ⟨some 14, none, 95, .int .i64 x_1⟩ :: ⟨some 15, none, 96, .pointer (some ⟨g_9, x_1.toNat * 1, none⟩)⟩ :: ⟨some 16, none, 97, .int .i64 e_18⟩ :: ⟨some 17, none, 98, .pointer (some ⟨b_10, 1, none⟩)⟩ :: ⟨some 18, none, 99, .pointer (some ⟨b_10, 2, none⟩)⟩ :: ⟨some 19, none, 100, .int .i64 e_13.Flow.Hi⟩ :: ⟨some 20, none, 101, .int .i64 r_23.1⟩ :: ⟨some 21, none, 102, .agg #[.bool r_24.Known, .int .i64 r_24.Flow.Lo, .int .i64 r_24.Flow.Hi]⟩ :: ⟨some 22, none, 103, .pointer (some ⟨g_7, x_1.toNat * 3, none⟩)⟩ :: [])) (fun E θ => (bif E 20 then .box b_3 [.slice better_p better.length better_c, .int .i64 r_23.2.1, .int .i64 r_23.2.2] 135 else bif E 11 then .box b_3 [.slice better_p better.length better_c, .int .i64 r_22.2.1, .int .i64 r_22.2.2] 135 else .box b_3 [.slice better_p better.length better_c, .int .i64 r_18.2.1, .int .i64 r_18.2.2] 135) :: .box b_10 [.bool e_13.Known, .int .i64 e_13.Flow.Lo, .int .i64 e_13.Flow.Hi] 56 :: .box b_4 [.int .i64 r_3.Rise, .int .i64 r_3.Fall, .slice (some ⟨g_7, 0, none⟩) x.length c_5] 24 :: .row p_1 c_1 (r_1.1.Days.map enc_daily_Value) 56 3 :: (bif E 23 then .row (some ⟨g_7, 0, none⟩) c_5 ((x.set x_1.toNat r_24).map enc_daily_Value) 56 3 else .row (some ⟨g_7, 0, none⟩) c_5 (x.map enc_daily_Value) 56 3) :: .box b_2 [.int .i64 r_1.1.Rise, .int .i64 r_1.1.Fall, .slice p_1 r_1.1.Days.length c_1] 24 :: .row (some ⟨g_9, 0, none⟩) c_4 (r_1.2.1.map encI_i64) 3 1 :: Lf) [(20, 11), (23, 22)] (fun a w => Has 364 a [(2, .int .u8 a_), (3, .int .u8 b_), (9, .pointer (some ⟨b_2, 0, none⟩)), (10, .slice (some ⟨g_9, 0, none⟩) r_1.2.1.length c_4), (11, .pointer (some ⟨b_3, 0, none⟩)), (12, .pointer (some ⟨b_4, 0, none⟩)), (48, .slice (some ⟨g_7, 0, none⟩) x.length c_5), (49, .int .i64 ((r_3.Days.length : Nat) : Int)), (50, .int .i64 x_1)] ∧ Ctx G (.box b_3 [.slice better_p better.length better_c, .int .i64 r_23.2.1, .int .i64 r_23.2.2] 135 :: .box b_10 [.bool e_13.Known, .int .i64 e_13.Flow.Lo, .int .i64 e_13.Flow.Hi] 56 :: .box b_4 [.int .i64 r_3.Rise, .int .i64 r_3.Fall, .slice (some ⟨g_7, 0, none⟩) x.length c_5] 24 :: .row p_1 c_1 (r_1.1.Days.map enc_daily_Value) 56 3 :: .row (some ⟨g_7, 0, none⟩) c_5 ((x.set x_1.toNat r_24).map enc_daily_Value) 56 3 :: .box b_2 [.int .i64 r_1.1.Rise, .int .i64 r_1.1.Fall, .slice p_1 r_1.1.Days.length c_1] 24 :: .row (some ⟨g_9, 0, none⟩) c_4 (r_1.2.1.map encI_i64) 3 1 :: Lf) w) follows_mx (by kernel_rfl) (by kernel_rfl) (HasE.of hf ⟨rfl, rfl, rfl, rfl, rfl, rfl, rfl, rfl, rfl, rfl, rfl, trivial, trivial, trivial, trivial, trivial, trivial, trivial, trivial, trivial, trivial, trivial, trivial, trivial, trivial, trivial, trivial, trivial, trivial, trivial, trivial, trivial, trivial, trivial, trivial⟩) hc ⟨?_, ?_, ?_, ?_, ?_, ?_, ?_, ?_, ?_, ?_, ?_, ?_, ?_, ?_, ?_, ?_, ?_, ?_, ?_, ?_, ?_, ?_, ?_, ?_, trivial⟩ ?_ ?_
        · intro E θ a w hD hi hp he hc
          have hf := he.h0
          replace hf := hf.more he 5 rfl onT
          refine stP hf rfl rfl rfl (pFA fa_24_2 rfl) fun a hf => ?_
          refine cNil ?_
          refine xThenN ?_
          intro ds u hau
          refine ⟨θ, he.put0 hi hau hf rfl 11 rfl rfl, ?_⟩
          exact hc
        · intro E θ a w hD hi hp he hc
          have e0 := hp.of (k := 0) rfl
          have hf := he.h0
          replace hf := hf.more he 11 rfl (onP e0)
          refine stE hf hc rfl rfl rfl (eLd1 sc_22 rfl (cell_box m2 rfl)) fun a w hf hc => ?_
          refine cNil ?_
          refine xThenN ?_
          intro ds u hau
          refine ⟨θ, he.put0 hi hau hf rfl 12 rfl rfl, ?_⟩
          exact hc
        · intro E θ a w hD hi hp he hc
          have hf := he.h0
          replace hf := hf.more he 6 rfl onT
          refine stP hf rfl rfl rfl (pM rfl) fun a hf => ?_
          refine cNil ?_
          refine xThenN ?_
          intro ds u hau
          refine ⟨θ, he.put0 hi hau hf rfl 13 rfl rfl, ?_⟩
          exact hc
        · intro E θ a w hD hi hp he hc
          have hf := he.h0
          replace hf := hf.more he 4 rfl onT
          refine stP hf rfl rfl rfl (pM rfl) fun a hf => ?_
          refine cNil ?_
          refine xThenN ?_
          intro ds u hau
          refine ⟨θ, he.put0 hi hau hf rfl 14 rfl rfl, ?_⟩
          exact hc
        · intro E θ a w hD hi hp he hc
          have hf := he.h0
          replace hf := hf.more he 7 rfl onT
          refine stP hf rfl rfl rfl (pFA fa_56_1 rfl) fun a hf => ?_
          refine cNil ?_
          refine xThenN ?_
          intro ds u hau
          refine ⟨θ, he.put0 hi hau hf rfl 15 rfl rfl, ?_⟩
          exact hc
        · intro E θ a w hD hi hp he hc
          have e4 := hp.of (k := 4) rfl
          have hf := he.h0
          replace hf := hf.more he 15 rfl (onP e4)
          refine stP hf rfl rfl rfl (pFA fa_30_0 rfl) fun a hf => ?_
          refine cNil ?_
          refine xThenN ?_
          intro ds u hau
          refine ⟨θ, he.put0 hi hau hf rfl 16 rfl rfl, ?_⟩
          exact hc
        · intro E θ a w hD hi hp he hc
          have e5 := hp.of (k := 5) rfl
          have hf := he.h0
          replace hf := hf.more he 16 rfl (onP e5)
          refine stE hf hc rfl rfl rfl (eLd1 sc_3 rfl (cell_box m1 rfl)) fun a w hf hc => ?_
          refine cNil ?_
          refine xThenN ?_
          intro ds u hau
          refine ⟨θ, he.put0 hi hau hf rfl 17 rfl rfl, ?_⟩
          exact hc
        · intro E θ a w hD hi hp he hc
          have hf := he.h0
          replace hf := hf.more he 3 rfl onT
          refine stP hf rfl rfl rfl (pM rfl) fun a hf => ?_
          refine cNil ?_
          refine xThenN ?_
          intro ds u hau
          refine ⟨θ, he.put0 hi hau hf rfl 18 rfl rfl, ?_⟩
          exact hc
        · intro E θ a w hD hi hp he hc
          have hf := he.h0
          replace hf := hf.more he 6 rfl onT
          refine stP hf rfl rfl rfl (pM rfl) fun a hf => ?_
          refine cNil ?_
          refine xThenN ?_
          intro ds u hau
          refine ⟨θ, he.put0 hi hau hf rfl 19 rfl rfl, ?_⟩
          exact hc
        · intro E θ a w hD hi hp he hc
          have e7 := hp.of (k := 7) rfl
          have e8 := hp.of (k := 8) rfl
          have hf := he.h0
          replace hf := hf.more he 18 rfl (onP e7)
          replace hf := hf.more he 19 rfl (onP e8)
          refine stP hf rfl rfl rfl (pIA Try.underlying39 sz_3 rfl rfl qa_16) fun a hf => ?_
          refine cNil ?_
          refine xThenN ?_
          intro ds u hau
          refine ⟨θ, he.put0 hi hau hf rfl 20 rfl rfl, ?_⟩
          exact hc
        · intro E θ a w hD hi hp he hc
          have e9 := hp.of (k := 9) rfl
          have hf := he.h0
          replace hf := hf.more he 20 rfl (onP e9)
          refine stE hf hc rfl rfl rfl (eLd1 sc_3 rfl (cell_row (sz := 1) (i := x_1.toNat) (j := 0) m6 qr_16 rfl)) fun a w hf hc => ?_
          refine cNil ?_
          refine xThenN ?_
          intro ds u hau
          refine ⟨θ, he.put0 hi hau hf rfl 21 rfl rfl, ?_⟩
          exact hc
        · intro E θ a w hD hi hp he hc
          have e3 := hp.of (k := 3) rfl
          have e6 := hp.of (k := 6) rfl
          have e10 := hp.of (k := 10) rfl
          have e20 := hD.f 0 rfl hi
          try dsimp only at hc
          rw [hi, e20] at hc
          have hf := he.h0
          replace hf := hf.more he 14 rfl (onP e3)
          replace hf := hf.more he 17 rfl (onP e6)
          replace hf := hf.more he 21 rfl (onP e10)
          refine stC (vs := [.pointer (some ⟨b_3, 0, none⟩), .int .i64 e_13.Flow.Lo, .int .i64 e_17]) (caps := []) hf rfl rfl rfl en_31 rfl rfl rfl rfl (kit_Stream_Within_ok (⟨better, r_18.2.1, r_18.2.2⟩ : kit_Stream) e_13.Flow.Lo e_17 h_better (hc.pick k0) hr_22) ?_
          rintro _ w ⟨rfl, hc⟩
          refine ⟨_, rfl, fun a hf => ?_⟩
          refine cNil ?_
          refine xThenN ?_
          intro ds u hau
          refine ⟨θ, he.put0 hi hau hf rfl 22 rfl rfl, ?_⟩
          try dsimp only
          rw [updE_self E 11, updE_fls 11 e20 rfl]
          exact hc
        · intro E θ a w hD hi hp he hc
          have hf := he.h0
          replace hf := hf.more he 4 rfl onT
          refine stP hf rfl rfl rfl (pM rfl) fun a hf => ?_
          refine cNil ?_
          refine xThenN ?_
          intro ds u hau
          refine ⟨θ, he.put0 hi hau hf rfl 23 rfl rfl, ?_⟩
          exact hc
        · intro E θ a w hD hi hp he hc
          have hf := he.h0
          replace hf := hf.more he 3 rfl onT
          refine stP hf rfl rfl rfl (pM rfl) fun a hf => ?_
          refine cNil ?_
          refine xThenN ?_
          intro ds u hau
          refine ⟨θ, he.put0 hi hau hf rfl 24 rfl rfl, ?_⟩
          exact hc
        · intro E θ a w hD hi hp he hc
          have hf := he.h0
          replace hf := hf.more he 6 rfl onT
          refine stP hf rfl rfl rfl (pM rfl) fun a hf => ?_
          refine cNil ?_
          refine xThenN ?_
          intro ds u hau
          refine ⟨θ, he.put0 hi hau hf rfl 25 rfl rfl, ?_⟩
          exact hc
        · intro E θ a w hD hi hp he hc
          have e13 := hp.of (k := 13) rfl
          have e14 := hp.of (k := 14) rfl
          have hf := he.h0
          replace hf := hf.more he 24 rfl (onP e13)
          replace hf := hf.more he 25 rfl (onP e14)
          refine stP hf rfl rfl rfl (pIA Try.underlying39 sz_3 rfl rfl qa_17) fun a hf => ?_
          refine cNil ?_
          refine xThenN ?_
          intro ds u hau
          refine ⟨θ, he.put0 hi hau hf rfl 26 rfl rfl, ?_⟩
          exact hc
        · intro E θ a w hD hi hp he hc
          have e15 := hp.of (k := 15) rfl
          have hf := he.h0
          replace hf := hf.more he 26 rfl (onP e15)
          refine stE hf hc rfl rfl rfl (eLd1 sc_3 rfl (cell_row (sz := 1) (i := x_1.toNat) (j := 0) m6 qr_17 rfl)) fun a w hf hc => ?_
          refine cNil ?_
          refine xThenN ?_
          intro ds u hau
          refine ⟨θ, he.put0 hi hau hf rfl 27 rfl rfl, ?_⟩
          exact hc
        · intro E θ a w hD hi hp he hc
          have hf := he.h0
          replace hf := hf.more he 7 rfl onT
          refine stP hf rfl rfl rfl (pFA fa_56_1 rfl) fun a hf => ?_
          refine cNil ?_
          refine xThenN ?_
          intro ds u hau
          refine ⟨θ, he.put0 hi hau hf rfl 28 rfl rfl, ?_⟩
          exact hc
        · intro E θ a w hD hi hp he hc
          have e17 := hp.of (k := 17) rfl
          have hf := he.h0
          replace hf := hf.more he 28 rfl (onP e17)
          refine stP hf rfl rfl rfl (pFA fa_30_1 rfl) fun a hf => ?_
          refine cNil ?_
          refine xThenN ?_
          intro ds u hau
          refine ⟨θ, he.put0 hi hau hf rfl 29 rfl rfl, ?_⟩
          exact hc
        · intro E θ a w hD hi hp he hc
          have e18 := hp.of (k := 18) rfl
          have hf := he.h0
          replace hf := hf.more he 29 rfl (onP e18)
          refine stE hf hc rfl rfl rfl (eLd1 sc_3 rfl (cell_box m1 rfl)) fun a w hf hc => ?_
          refine cNil ?_
          refine xThenN ?_
          intro ds u hau
          refine ⟨θ, he.put0 hi hau hf rfl 30 rfl rfl, ?_⟩
          exact hc
        · intro E θ a w hD hi hp he hc
          have e12 := hp.of (k := 12) rfl
          have e16 := hp.of (k := 16) rfl
          have e19 := hp.of (k := 19) rfl
          have e11 := hp.of (k := 11) rfl
          try dsimp only at hc
          rw [e11, hi] at hc
          have hf := he.h0
          replace hf := hf.more he 23 rfl (onP e12)
          replace hf := hf.more he 27 rfl (onP e16)
          replace hf := hf.more he 30 rfl (onP e19)
          refine stC (vs := [.pointer (some ⟨b_3, 0, none⟩), .int .i64 e_18, .int .i64 e_13.Flow.Hi]) (caps := []) hf rfl rfl rfl en_31 rfl rfl rfl rfl (kit_Stream_Within_ok (⟨better, r_22.2.1, r_22.2.2⟩ : kit_Stream) e_18 e_13.Flow.Hi h_better (hc.pick k0) hr_23) ?_
          rintro _ w ⟨rfl, hc⟩
          refine ⟨_, rfl, fun a hf => ?_⟩
          refine cNil ?_
          refine xThenN ?_
          intro ds u hau
          refine ⟨θ, he.put0 hi hau hf rfl 31 rfl rfl, ?_⟩
          try dsimp only
          rw [updE_tru 20 e11, updE_self E 20]
          exact hc
        · intro E θ a w hD hi hp he hc
          have e11 := hp.of (k := 11) rfl
          have e20 := hp.of (k := 20) rfl
          have hf := he.h0
          replace hf := hf.more he 22 rfl (onP e11)
          replace hf := hf.more he 31 rfl (onP e20)
          refine stE hf hc rfl rfl rfl (eC (v := .agg #[.bool r_24.Known, .int .i64 r_24.Flow.Lo, .int .i64 r_24.Flow.Hi]) (vs := [.int .i64 r_22.1, .int .i64 r_23.1]) (caps := []) en_27 rfl rfl rfl rfl (fun w hc => law07_known_ok r_22.1 r_23.1 hc hr_24)) fun a w hf hc => ?_
          refine cNil ?_
          refine xThenN ?_
          intro ds u hau
          refine ⟨θ, he.put0 hi hau hf rfl 32 rfl rfl, ?_⟩
          exact hc
        · intro E θ a w hD hi hp he hc
          have e1 := hp.of (k := 1) rfl
          have e2 := hp.of (k := 2) rfl
          have e23 := hD.f 1 rfl hi
          try dsimp only at hc
          rw [e23] at hc
          have hf := he.h0
          replace hf := hf.more he 12 rfl (onP e1)
          replace hf := hf.more he 13 rfl (onP e2)
          refine stP hf rfl rfl rfl (pIA Try.underlying22 sz_56 rfl rfl qa_18) fun a hf => ?_
          refine cNil ?_
          refine xThenN ?_
          intro ds u hau
          refine ⟨θ, he.put0 hi hau hf rfl 33 rfl rfl, ?_⟩
          try dsimp only
          rw [updE_fls 22 e23 rfl]
          exact hc
        · intro E θ a w hD hi hp he hc
          have e21 := hp.of (k := 21) rfl
          have e22 := hp.of (k := 22) rfl
          try dsimp only at hc
          rw [hi] at hc
          have hf := he.h0
          replace hf := hf.more he 32 rfl (onP e21)
          replace hf := hf.more he 33 rfl (onP e22)
          refine stRw (vs := [.bool r_24.Known, .int .i64 r_24.Flow.Lo, .int .i64 r_24.Flow.Hi]) (o' := 0) (z := r_24) (xs := x) hf hc rfl rfl rfl rfl sz_56 rfl (fun x => (one_enc_daily_Value x).1) (getI_lt he_19) (fun _ _ => rfl) rfl u4 fun w hc => ?_
          refine cNil ?_
          refine xThenN ?_
          intro ds u hau
          refine ⟨θ, he.stay0 hi hau hf rfl, ?_⟩
          try dsimp only
          rw [updE_self E 23]
          exact hc
        · intro E θ a w hall he hc
          have hf := he.h0
          have e11 := hall 11 rfl
          have e20 := hall 20 rfl
          have e23 := hall 23 rfl
          replace hf := hf.more he 10 rfl (onT)
          replace hf := hf.more he 9 rfl (onT)
          replace hf := hf.more he 8 rfl (onT)
          replace hf := hf.more he 5 rfl (onT)
          replace hf := hf.more he 4 rfl (onT)
          replace hf := hf.more he 3 rfl (onT)
          replace hf := hf.more he 2 rfl (onT)
          replace hf := hf.more he 1 rfl (onT)
          replace hf := hf.more he 0 rfl (onT)
          try dsimp only at hc
          rw [e11, e20, e23] at hc
          exact ⟨hf.keep ⟨rfl, rfl, rfl, rfl, rfl, rfl, rfl, rfl, rfl, trivial⟩, hc⟩
        rintro a w ⟨hf, hc⟩
        rw [(by simp : x.length = (x.set x_1.toNat r_24).length)] at hf
        rw [(by simp : x.length = (x.set x_1.toNat r_24).length)] at hc
        replace hc := hc.drop k1
        exact hj60 (x.set x_1.toNat r_24) r_23.2.1 r_23.2.2 (some ⟨g_9, 0, none⟩) c_4 (some ⟨g_7, 0, none⟩) c_5 _ _  (hf.keep ⟨rfl, rfl, rfl, rfl, rfl, rfl, rfl, rfl, rfl, trivial⟩) hc hF
  · replace hF := condF hb hF
    clear hb
    refine wp_exit ?_
    refine xThen ?_
    refine xThen ?_
    have he := Option.some.inj hF
    rw [← he] at hfin7
    refine cHit ?_
    exact hr7 _ _ _ hfin7 ⟨p_4, c_4, p_5, c_5, hf.keep ⟨rfl, rfl, rfl, rfl, rfl, rfl, rfl, rfl, rfl, trivial⟩, hc⟩

end Go.Nilo
