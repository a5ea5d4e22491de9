/-
  What functions of the Go text compute, as plain functions, and that they do, part 4 of 4. Conditions: what each theorem names.
-/
import Derived.Test.YtbgjmnbgilddgaaBe3
import Derived.Test.YtbgjmnbgilddgaaProg
set_option linter.unusedVariables false
set_option maxRecDepth 100000
set_option maxHeartbeats 4000000
namespace Go.Nilo
open Go.Proofs


def law03_GaugeBetter_b19 (N : Nat) (r_6 : (List api_Span) × Int) (a_1 : List api_Span) (b_10 : List api_Span) (x_4 : Int) : Option (Step ((List api_Span) × (List api_Span) × Int) (Bool)) :=
  cond (decide (x_4 < ((r_6.1.length : Nat) : Int)))
  (Option.bind (getI b_10 x_4) fun e_1 =>
  Option.bind (getI a_1 x_4) fun e_2 =>
  Option.bind (cond (decide (e_1.Lo < e_2.Lo)) (some true) (Option.bind (getI b_10 x_4) fun e_3 =>
  Option.bind (getI a_1 x_4) fun e_4 =>
  some (decide (e_4.Hi < e_3.Hi)))) fun t_5 =>
  cond t_5
  (some (.ret false))
  (some (.cont (a_1, b_10, W (x_4 + 1)))))
  (some (.brk (a_1, b_10, x_4)))
def law03_GaugeBetter_j45 (N : Nat) (x_1 : Int) (x_5 : List gauge_Vertical) (x_6 : Int) (x_7 : Int) : Option (Step ((List gauge_Vertical) × Int × Int × Int) (Bool)) :=
  some (.cont (x_5, W (x_1 + 1), x_6, x_7))
def law03_GaugeBetter_j47 (N : Nat) (better : List Int) (x_1 : Int) (e_5 : gauge_Vertical) (x_8 : List gauge_Vertical) (x_9 : Int) (x_10 : Int) : Option (Step ((List gauge_Vertical) × Int × Int × Int) (Bool)) :=
  Option.bind (kit_Stream_Next N (⟨better, x_9, x_10⟩ : kit_Stream) 2) fun r_40 =>
  cond (r_40.1 == 0)
  (Option.bind (law03_GaugeBetter_1 N e_5.Speed (⟨better, r_40.2.1, r_40.2.2⟩ : kit_Stream)) fun r_41 =>
  Option.bind (getI x_8 x_1) fun e_6 =>
  law03_GaugeBetter_j45 N x_1 (x_8.set x_1.toNat (⟨e_6.At, e_6.Depth, r_41.1⟩ : gauge_Vertical)) r_41.2.1 r_41.2.2)
  (law03_GaugeBetter_j45 N x_1 x_8 r_40.2.1 r_40.2.2)
def law03_GaugeBetter_b9 (N : Nat) (better : List Int) (r_5 : gauge_Gauging) (x : List gauge_Vertical) (x_1 : Int) (x_2 : Int) (x_3 : Int) : Option (Step ((List gauge_Vertical) × Int × Int × Int) (Bool)) :=
  cond (decide (x_1 < ((r_5.Verticals.length : Nat) : Int)))
  (Option.bind (getI x x_1) fun e_5 =>
  Option.bind (kit_Stream_Next N (⟨better, x_2, x_3⟩ : kit_Stream) 2) fun r_42 =>
  cond (r_42.1 == 0)
  (Option.bind (law03_GaugeBetter_1 N e_5.Depth (⟨better, r_42.2.1, r_42.2.2⟩ : kit_Stream)) fun r_43 =>
  Option.bind (getI x x_1) fun e_7 =>
  law03_GaugeBetter_j47 N better x_1 e_5 (x.set x_1.toNat (⟨e_7.At, r_43.1, e_7.Speed⟩ : gauge_Vertical)) r_43.2.1 r_43.2.2)
  (law03_GaugeBetter_j47 N better x_1 e_5 x r_42.2.1 r_42.2.2))
  (some (.brk (x, x_1, x_2, x_3)))
def law03_GaugeBetter (N : Nat) (numbers : List Int) (errors : List Int) (better : List Int) (permille : Int) : Option (Bool) :=
  Option.bind (kit_New N numbers) fun r =>
  Option.bind (law03_Section N (⟨numbers, r.1, r.2⟩ : kit_Stream) 10) fun r_1 =>
  Option.bind (kit_New N errors) fun r_2 =>
  Option.bind (kit_New N better) fun r_3 =>
  Option.bind (law03_Gauged N (⟨errors, r_2.1, r_2.2⟩ : kit_Stream) r_1.1) fun r_4 =>
  Option.bind (law03_CopyGauging N r_4.1) fun r_5 =>
  Option.bind (loopO (fun s9 => law03_GaugeBetter_b9 N better r_5 s9.1 s9.2.1 s9.2.2.1 s9.2.2.2) N (r_5.Verticals, 0, r_3.1, r_3.2)) fun x9 =>
  exK x9 (fun s9 => Option.bind (gauge_Panels N r_4.1) fun r_6 =>
  Option.bind (gauge_Panels N (⟨r_5.Left, r_5.Right, s9.1⟩ : gauge_Gauging)) fun r_7 =>
  Option.bind (gauge_Flow N r_4.1) fun r_8 =>
  Option.bind (gauge_Flow N (⟨r_5.Left, r_5.Right, s9.1⟩ : gauge_Gauging)) fun r_9 =>
  cond (((((((r_6.2 != 0) || (r_7.2 != 0)) || (r_8.2 != 0)) || (r_9.2 != 0)) || (((r_6.1.length : Nat) : Int) != ((r_7.1.length : Nat) : Int))) || (decide (r_9.1.Lo < r_8.1.Lo))) || (decide (r_8.1.Hi < r_9.1.Hi)))
  (some false)
  (Option.bind (loopO (fun s19 => law03_GaugeBetter_b19 N r_6 s19.1 s19.2.1 s19.2.2) N (r_6.1, r_7.1, 0)) fun x19 =>
  exK x19 (fun s19 => Option.bind (gauge_Heavy N r_4.1 ((W (permille)).tmod 1001)) fun r_10 =>
  Option.bind (gauge_Heavy N (⟨r_5.Left, r_5.Right, s9.1⟩ : gauge_Gauging) ((W (permille)).tmod 1001)) fun r_11 =>
  Option.bind (cond ((r_10.2.2 != 0) || (r_11.2.2 != 0)) (some true) (Option.bind (law03_part N r_11.1 r_10.1) fun r_12 =>
  some (!r_12))) fun t_1 =>
  Option.bind (cond t_1 (some true) (Option.bind (law03_part N r_10.2.1 r_11.2.1) fun r_13 =>
  some (!r_13))) fun t_2 =>
  Option.bind (cond t_2 (some true) (Option.bind (law03_part N r_11.2.1 r_11.1) fun r_14 =>
  some (!r_14))) fun t_3 =>
  cond t_3
  (some false)
  (Option.bind (kit_Stream_Within N (⟨errors, r_4.2.1, r_4.2.2⟩ : kit_Stream) (-50) 50) fun r_15 =>
  Option.bind (law03_Around N (⟨errors, r_15.2.1, r_15.2.2⟩ : kit_Stream) r_15.1 (-100) 100 9) fun r_16 =>
  Option.bind (kit_Stream_Within N (⟨errors, r_16.2.1, r_16.2.2⟩ : kit_Stream) (-50) 50) fun r_17 =>
  Option.bind (law03_Around N (⟨errors, r_17.2.1, r_17.2.2⟩ : kit_Stream) r_17.1 (-100) 100 9) fun r_18 =>
  Option.bind (kit_Stream_Next N (⟨errors, r_18.2.1, r_18.2.2⟩ : kit_Stream) 99) fun r_19 =>
  Option.bind (law03_Around N (⟨errors, r_19.2.1, r_19.2.2⟩ : kit_Stream) r_19.1 0 200 9) fun r_20 =>
  Option.bind (kit_Stream_Within N (⟨errors, r_20.2.1, r_20.2.2⟩ : kit_Stream) (-99) 99) fun r_21 =>
  Option.bind (law03_Around N (⟨errors, r_21.2.1, r_21.2.2⟩ : kit_Stream) r_21.1 (-200) 200 9) fun r_22 =>
  Option.bind (kit_Stream_Within N (⟨errors, r_22.2.1, r_22.2.2⟩ : kit_Stream) (-99) 99) fun r_23 =>
  Option.bind (law03_Around N (⟨errors, r_23.2.1, r_23.2.2⟩ : kit_Stream) r_23.1 (-200) 200 9) fun r_24 =>
  Option.bind (law03_GaugeBetter_1 N r_16.1 (⟨better, s9.2.2.1, s9.2.2.2⟩ : kit_Stream)) fun r_25 =>
  Option.bind (law03_GaugeBetter_1 N r_18.1 (⟨better, r_25.2.1, r_25.2.2⟩ : kit_Stream)) fun r_26 =>
  Option.bind (law03_GaugeBetter_1 N r_20.1 (⟨better, r_26.2.1, r_26.2.2⟩ : kit_Stream)) fun r_27 =>
  Option.bind (law03_GaugeBetter_1 N r_22.1 (⟨better, r_27.2.1, r_27.2.2⟩ : kit_Stream)) fun r_28 =>
  Option.bind (law03_GaugeBetter_1 N r_24.1 (⟨better, r_28.2.1, r_28.2.2⟩ : kit_Stream)) fun r_29 =>
  Option.bind (gauge_Cross N ([(⟨r_16.1, r_18.1, r_20.1, r_22.1, r_24.1⟩ : gauge_Leg), (⟨r_16.1, r_18.1, r_20.1, r_22.1, r_24.1⟩ : gauge_Leg)] : List gauge_Leg)) fun r_30 =>
  Option.bind (gauge_Cross N ([(⟨r_25.1, r_26.1, r_27.1, r_28.1, r_29.1⟩ : gauge_Leg), (⟨r_25.1, r_26.1, r_27.1, r_28.1, r_29.1⟩ : gauge_Leg)] : List gauge_Leg)) fun r_31 =>
  cond ((((r_30.2 != 0) || (r_31.2 != 0)) || (decide (r_31.1.Lo < r_30.1.Lo))) || (decide (r_30.1.Hi < r_31.1.Hi)))
  (some false)
  (Option.bind (law03_Dyed N (⟨errors, r_24.2.1, r_24.2.2⟩ : kit_Stream)) fun r_32 =>
  Option.bind (law03_GaugeBetter_1 N r_32.1.Rate (⟨better, r_29.2.1, r_29.2.2⟩ : kit_Stream)) fun r_33 =>
  Option.bind (law03_GaugeBetter_1 N r_32.1.Strong (⟨better, r_33.2.1, r_33.2.2⟩ : kit_Stream)) fun r_34 =>
  Option.bind (law03_GaugeBetter_1 N r_32.1.Found (⟨better, r_34.2.1, r_34.2.2⟩ : kit_Stream)) fun r_35 =>
  Option.bind (law03_GaugeBetter_1 N r_32.1.Clean (⟨better, r_35.2.1, r_35.2.2⟩ : kit_Stream)) fun r_36 =>
  Option.bind (gauge_Thinned N r_32.1) fun r_37 =>
  Option.bind (gauge_Thinned N (⟨r_33.1, r_34.1, r_35.1, r_36.1⟩ : gauge_Dye)) fun r_38 =>
  Option.bind (cond ((((r_37.2 == 0) && (r_38.2 == 0)) && (decide (r_37.1.Lo ≤ r_38.1.Lo))) && (decide (r_38.1.Hi ≤ r_37.1.Hi))) (Option.bind (law03_awake N) fun r_39 =>
  some r_39) (some false)) fun t_4 =>
  some t_4))) some)) some
theorem law03_GaugeBetter_ok {N : Nat} {G : Pers} {Lf : List Ent} {w : World} (numbers : List Int) (errors : List Int) (better : List Int) (permille : Int) {numbers_p : Option Addr} {numbers_c : Nat} {errors_p : Option Addr} {errors_c : Nat} {better_p : Option Addr} {better_c : Nat} (h_numbers : Rd G 1 numbers_p numbers_c (numbers.map encI_u8)) (h_errors : Rd G 1 errors_p errors_c (errors.map encI_u8)) (h_better : Rd G 1 better_p better_c (better.map encI_u8)) (hc : Ctx G (Lf) w) {res : Bool} (hF : law03_GaugeBetter N numbers errors better permille = some res) : Calls Try.prog 6 #[.slice numbers_p numbers.length numbers_c, .slice errors_p errors.length errors_c, .slice better_p better.length better_c, .int .u16 permille] w (fun e w => e = .returned (.bool res) ∧ Ctx G (Lf) w) := by
  unfold law03_GaugeBetter at hF
  refine fnIn (args := [.slice numbers_p numbers.length numbers_c, .slice errors_p errors.length errors_c, .slice better_p better.length better_c, .int .u16 permille]) Try.func6 rfl Try.ntmps6 rfl fun a hf => ?_
  refine wp_seq_k fun K1 h1 => ?_
  refine cReg ?_
  refine stP hf rfl rfl rfl (pA rfl) fun a hf => ?_
  refine cNil ?_
  refine h1 _ _ ?_
  refine wp_seq_k fun K2 h2 => ?_
  refine cReg ?_
  refine stP hf rfl rfl rfl (pM rfl) fun a hf => ?_
  obtain ⟨r, hr, hF⟩ := bnd_some hF
  refine stC (vs := [.slice numbers_p numbers.length numbers_c]) (caps := []) hf rfl rfl rfl en_11 rfl rfl rfl rfl (kit_New_ok numbers h_numbers hc hr) ?_
  rintro _ w ⟨b_1, rfl, hc⟩
  refine ⟨_, rfl, fun a hf => ?_⟩
  obtain ⟨r_1, hr_1, hF⟩ := bnd_some hF
  refine stC (vs := [.pointer (some ⟨b_1, 0, none⟩), .int .i64 10]) (caps := []) hf rfl rfl rfl en_21 rfl rfl rfl rfl (law03_Section_ok (⟨numbers, r.1, r.2⟩ : kit_Stream) 10 h_numbers (hc.pick k0) hr_1) ?_
  rintro _ w ⟨p_1, c_1, p_2, c_2, p_3, c_3, rfl, hc⟩
  refine ⟨_, rfl, fun a hf => ?_⟩
  refine stAl (cs := [.int .i64 0, .int .i64 0, .slice none 0 0, .slice none 0 0, .slice none 0 0]) hf hc rfl rfl zr_51 rfl fun b_2 a w hf hc => ?_
  refine stSt (vs := [.int .i64 r_1.1.Left, .int .i64 r_1.1.Right, .slice p_1 r_1.1.At.length c_1, .slice p_2 r_1.1.Depth.length c_2, .slice p_3 r_1.1.Speeds.length c_3]) hf hc rfl rfl rfl rfl sz_51 rfl rfl u0 fun w hc => ?_
  refine cNil ?_
  refine h2 _ _ ?_
  refine wp_seq_k fun K3 h3 => ?_
  refine cReg ?_
  refine stP hf rfl rfl rfl (pM rfl) fun a hf => ?_
  obtain ⟨r_2, hr_2, hF⟩ := bnd_some hF
  refine stC (vs := [.slice errors_p errors.length errors_c]) (caps := []) hf rfl rfl rfl en_11 rfl rfl rfl rfl (kit_New_ok errors h_errors hc hr_2) ?_
  rintro _ w ⟨b_3, rfl, hc⟩
  refine ⟨_, rfl, fun a hf => ?_⟩
  refine stP hf rfl rfl rfl (pM rfl) fun a hf => ?_
  obtain ⟨r_3, hr_3, hF⟩ := bnd_some hF
  refine stC (vs := [.slice better_p better.length better_c]) (caps := []) hf rfl rfl rfl en_11 rfl rfl rfl rfl (kit_New_ok better h_better hc hr_3) ?_
  rintro _ w ⟨b_4, rfl, hc⟩
  refine ⟨_, rfl, fun a hf => ?_⟩
  refine stAl (cs := [.pointer none]) hf hc rfl rfl zr_28 rfl fun b_5 a w hf hc => ?_
  refine stP hf rfl rfl rfl (pA rfl) fun a hf => ?_
  refine stSt (vs := [.pointer (some ⟨b_4, 0, none⟩)]) hf hc rfl rfl rfl rfl sz_28 rfl rfl u0 fun w hc => ?_
  refine cNil ?_
  refine h3 _ _ ?_
  refine wp_seq_k fun K4 h4 => ?_
  refine cReg ?_
  refine stP hf rfl rfl rfl (pM rfl) fun a hf => ?_
  refine stE hf hc rfl rfl rfl (eLdN (vs := [.int .i64 r_1.1.Left, .int .i64 r_1.1.Right, .slice p_1 r_1.1.At.length c_1, .slice p_2 r_1.1.Depth.length c_2, .slice p_3 r_1.1.Speeds.length c_3]) ag_51 rfl rfl (cells_box (n := 5) m3 rfl)) fun a w hf hc => ?_
  obtain ⟨r_4, hr_4, hF⟩ := bnd_some hF
  obtain ⟨G1, hle1, hrd1, hc, hth1⟩ := lend hc k4
  obtain ⟨G2, hle2, hrd2, hc, hth2⟩ := lend hc k4
  obtain ⟨G3, hle3, hrd3, hc, hth3⟩ := lend hc k4
  refine stC (vs := [.pointer (some ⟨b_3, 0, none⟩), .agg #[.int .i64 r_1.1.Left, .int .i64 r_1.1.Right, .slice p_1 r_1.1.At.length c_1, .slice p_2 r_1.1.Depth.length c_2, .slice p_3 r_1.1.Speeds.length c_3]]) (caps := []) hf rfl rfl rfl en_20 rfl rfl rfl rfl (law03_Gauged_ok (⟨errors, r_2.1, r_2.2⟩ : kit_Stream) r_1.1 (((h_errors.mono hle1).mono hle2).mono hle3) ((hrd1.mono hle2).mono hle3) (hrd2.mono hle3) hrd3 (hc.pick k2) hr_4) ?_
  rintro _ w ⟨p_4, c_4, rfl, hc⟩
  refine ⟨_, rfl, fun a hf => ?_⟩
  replace hc := hth3 _ _ hc
  replace hc := hth2 _ _ hc
  replace hc := hth1 _ _ hc
  refine stAl (cs := [.int .i64 0, .int .i64 0, .slice none 0 0]) hf hc rfl rfl zr_48 rfl fun b_6 a w hf hc => ?_
  refine stSt (vs := [.int .i64 r_4.1.Left, .int .i64 r_4.1.Right, .slice p_4 r_4.1.Verticals.length c_4]) hf hc rfl rfl rfl rfl sz_48 rfl rfl u0 fun w hc => ?_
  refine cNil ?_
  refine h4 _ _ ?_
  refine wp_seq_k fun K5 h5 => ?_
  refine cReg ?_
  refine stP hf rfl rfl rfl (pMF (us := [.pointer (some ⟨b_5, 0, none⟩)]) rfl rfl) fun a hf => ?_
  refine stP hf rfl rfl rfl (pA rfl) fun a hf => ?_
  refine cNil ?_
  refine h5 _ _ ?_
  refine wp_seq_k fun K6 h6 => ?_
  refine cReg ?_
  refine stE hf hc rfl rfl rfl (eLdN (vs := [.int .i64 r_4.1.Left, .int .i64 r_4.1.Right, .slice p_4 r_4.1.Verticals.length c_4]) ag_48 rfl rfl (cells_box (n := 3) m0 rfl)) fun a w hf hc => ?_
  obtain ⟨r_5, hr_5, hF⟩ := bnd_some hF
  obtain ⟨G1, hle1, hrd1, hc, hth1⟩ := lend hc k4
  refine stC (vs := [.agg #[.int .i64 r_4.1.Left, .int .i64 r_4.1.Right, .slice p_4 r_4.1.Verticals.length c_4]]) (caps := []) hf rfl rfl rfl en_23 rfl rfl rfl rfl (law03_CopyGauging_ok r_4.1 hrd1 hc hr_5) ?_
  rintro _ w ⟨p_5, c_5, rfl, hc⟩
  refine ⟨_, rfl, fun a hf => ?_⟩
  replace hc := hth1 _ _ hc
  refine stAl (cs := [.int .i64 0, .int .i64 0, .slice none 0 0]) hf hc rfl rfl zr_48 rfl fun b_7 a w hf hc => ?_
  refine stSt (vs := [.int .i64 r_5.Left, .int .i64 r_5.Right, .slice p_5 r_5.Verticals.length c_5]) hf hc rfl rfl rfl rfl sz_48 rfl rfl u0 fun w hc => ?_
  refine cNil ?_
  refine h6 _ _ ?_
  refine wp_seq_k fun K7 h7 => ?_
  refine wp_seq_k fun K8 h8 => ?_
  refine cReg ?_
  refine stP hf rfl rfl rfl (pFA fa_48_2 rfl) fun a hf => ?_
  refine stE hf hc rfl rfl rfl (eLd1 sc_46 rfl (cell_box m0 rfl)) fun a w hf hc => ?_
  refine stP hf rfl rfl rfl (pLenS Try.underlying46 rfl) fun a hf => ?_
  refine stP hf rfl rfl rfl (pM rfl) fun a hf => ?_
  refine cNil ?_
  refine h8 _ _ ?_
  refine wp_block ?_
  obtain ⟨x9, hx9, hF⟩ := bnd_some hF
  let S9 : ((List gauge_Vertical) × Int × Int × Int) → Act → World → Prop := (fun (zz : (List gauge_Vertical) × Int × Int × Int) a w => ∃ (p_6 : Option Addr) (c_6 : Nat), Has 335 a [(3, .int .u16 permille), (10, .pointer (some ⟨b_3, 0, none⟩)), (11, .pointer (some ⟨b_5, 0, none⟩)), (12, .pointer (some ⟨b_6, 0, none⟩)), (13, .func (.func 30) #[] #[.pointer (some ⟨b_5, 0, none⟩)]), (14, .pointer (some ⟨b_7, 0, none⟩)), (48, .slice p_6 zz.1.length c_6), (49, .int .i64 ((r_5.Verticals.length : Nat) : Int)), (50, .int .i64 zz.2.1)] ∧ Ctx G (.box b_7 [.int .i64 r_5.Left, .int .i64 r_5.Right, .slice p_6 zz.1.length c_6] 48 :: .row p_4 c_4 (r_4.1.Verticals.map enc_gauge_Vertical) 61 5 :: .row p_6 c_6 (zz.1.map enc_gauge_Vertical) 61 5 :: .box b_6 [.int .i64 r_4.1.Left, .int .i64 r_4.1.Right, .slice p_4 r_4.1.Verticals.length c_4] 48 :: .box b_3 [.slice errors_p errors.length errors_c, .int .i64 r_4.2.1, .int .i64 r_4.2.2] 104 :: .box b_5 [.pointer (some ⟨b_4, 0, none⟩)] 28 :: .box b_4 [.slice better_p better.length better_c, .int .i64 zz.2.2.1, .int .i64 zz.2.2.2] 104 :: Lf) w)
  have hr9 : ∀ (zz : (List gauge_Vertical) × Int × Int × Int) a w, x9 = .go zz → S9 zz a w → K7 a w := by
    rintro ⟨x, x_1, x_2, x_3⟩ a w rfl ⟨p_6, c_6, hf, hc⟩
    replace hF : _ = some res := hF
    refine h7 _ _ ?_
    refine wp_seq_k fun K10 h10 => ?_
    refine cReg ?_
    refine stE hf hc rfl rfl rfl (eLdN (vs := [.int .i64 r_4.1.Left, .int .i64 r_4.1.Right, .slice p_4 r_4.1.Verticals.length c_4]) ag_48 rfl rfl (cells_box (n := 3) m3 rfl)) fun a w hf hc => ?_
    obtain ⟨r_6, hr_6, hF⟩ := bnd_some hF
    obtain ⟨G1, hle1, hrd1, hc, hth1⟩ := lend hc k1
    refine stC (vs := [.agg #[.int .i64 r_4.1.Left, .int .i64 r_4.1.Right, .slice p_4 r_4.1.Verticals.length c_4]]) (caps := []) hf rfl rfl rfl en_31 rfl rfl rfl rfl (gauge_Panels_ok r_4.1 hrd1 hc hr_6) ?_
    rintro _ w ⟨p_7, c_7, rfl, hc⟩
    refine ⟨_, rfl, fun a hf => ?_⟩
    replace hc := hth1 _ _ hc
    refine stP hf rfl rfl rfl (pM rfl) fun a hf => ?_
    refine stP hf rfl rfl rfl (pX rfl rfl) fun a hf => ?_
    refine stP hf rfl rfl rfl (pX rfl rfl) fun a hf => ?_
    refine stP hf rfl rfl rfl (pA rfl) fun a hf => ?_
    refine stP hf rfl rfl rfl (pA rfl) fun a hf => ?_
    refine cNil ?_
    refine h10 _ _ ?_
    refine wp_seq_k fun K11 h11 => ?_
    refine cReg ?_
    refine stE hf hc rfl rfl rfl (eLdN (vs := [.int .i64 r_5.Left, .int .i64 r_5.Right, .slice p_6 x.length c_6]) ag_48 rfl rfl (cells_box (n := 3) m2 rfl)) fun a w hf hc => ?_
    obtain ⟨r_7, hr_7, hF⟩ := bnd_some hF
    obtain ⟨G1, hle1, hrd1, hc, hth1⟩ := lend hc k3
    refine stC (vs := [.agg #[.int .i64 r_5.Left, .int .i64 r_5.Right, .slice p_6 x.length c_6]]) (caps := []) hf rfl rfl rfl en_31 rfl rfl rfl rfl (gauge_Panels_ok (⟨r_5.Left, r_5.Right, x⟩ : gauge_Gauging) hrd1 hc hr_7) ?_
    rintro _ w ⟨p_8, c_8, rfl, hc⟩
    refine ⟨_, rfl, fun a hf => ?_⟩
    replace hc := hth1 _ _ hc
    refine stP hf rfl rfl rfl (pM rfl) fun a hf => ?_
    refine stP hf rfl rfl rfl (pX rfl rfl) fun a hf => ?_
    refine stP hf rfl rfl rfl (pX rfl rfl) fun a hf => ?_
    refine stP hf rfl rfl rfl (pA rfl) fun a hf => ?_
    refine stP hf rfl rfl rfl (pA rfl) fun a hf => ?_
    refine cNil ?_
    refine h11 _ _ ?_
    refine wp_seq_k fun K12 h12 => ?_
    refine cReg ?_
    refine stE hf hc rfl rfl rfl (eLdN (vs := [.int .i64 r_4.1.Left, .int .i64 r_4.1.Right, .slice p_4 r_4.1.Verticals.length c_4]) ag_48 rfl rfl (cells_box (n := 3) m5 rfl)) fun a w hf hc => ?_
    obtain ⟨r_8, hr_8, hF⟩ := bnd_some hF
    refine stE hf hc rfl rfl rfl (eC (v := .tuple #[.agg #[.int .i64 r_8.1.Lo, .int .i64 r_8.1.Hi], .int .i64 r_8.2]) (vs := [.agg #[.int .i64 r_4.1.Left, .int .i64 r_4.1.Right, .slice p_4 r_4.1.Verticals.length c_4]]) (caps := []) en_27 rfl rfl rfl rfl (fun w hc => by obtain ⟨G1, hle1, hrd1, hc, hth1⟩ := lend hc k2; exact (gauge_Flow_ok r_4.1 hrd1 hc hr_8).mono fun e w h => ⟨h.1, ((hth1 _ _ h.2).unpick k2)⟩)) fun a w hf hc => ?_
    refine stP hf rfl rfl rfl (pM rfl) fun a hf => ?_
    refine stP hf rfl rfl rfl (pX rfl rfl) fun a hf => ?_
    refine stP hf rfl rfl rfl (pX rfl rfl) fun a hf => ?_
    refine stAl (cs := [.int .i64 0, .int .i64 0]) hf hc rfl rfl zr_24 rfl fun b_8 a w hf hc => ?_
    refine stSt (vs := [.int .i64 r_8.1.Lo, .int .i64 r_8.1.Hi]) hf hc rfl rfl rfl rfl sz_24 rfl rfl u0 fun w hc => ?_
    refine stP hf rfl rfl rfl (pA rfl) fun a hf => ?_
    refine cNil ?_
    refine h12 _ _ ?_
    refine wp_seq_k fun K13 h13 => ?_
    refine cReg ?_
    refine stE hf hc rfl rfl rfl (eLdN (vs := [.int .i64 r_5.Left, .int .i64 r_5.Right, .slice p_6 x.length c_6]) ag_48 rfl rfl (cells_box (n := 3) m5 rfl)) fun a w hf hc => ?_
    obtain ⟨r_9, hr_9, hF⟩ := bnd_some hF
    refine stE hf hc rfl rfl rfl (eC (v := .tuple #[.agg #[.int .i64 r_9.1.Lo, .int .i64 r_9.1.Hi], .int .i64 r_9.2]) (vs := [.agg #[.int .i64 r_5.Left, .int .i64 r_5.Right, .slice p_6 x.length c_6]]) (caps := []) en_27 rfl rfl rfl rfl (fun w hc => by obtain ⟨G1, hle1, hrd1, hc, hth1⟩ := lend hc k1; exact (gauge_Flow_ok (⟨r_5.Left, r_5.Right, x⟩ : gauge_Gauging) hrd1 hc hr_9).mono fun e w h => ⟨h.1, ((hth1 _ _ h.2).unpick k1)⟩)) fun a w hf hc => ?_
    refine stP hf rfl rfl rfl (pM rfl) fun a hf => ?_
    refine stP hf rfl rfl rfl (pX rfl rfl) fun a hf => ?_
    refine stP hf rfl rfl rfl (pX rfl rfl) fun a hf => ?_
    refine stAl (cs := [.int .i64 0, .int .i64 0]) hf hc rfl rfl zr_24 rfl fun b_9 a w hf hc => ?_
    refine stSt (vs := [.int .i64 r_9.1.Lo, .int .i64 r_9.1.Hi]) hf hc rfl rfl rfl rfl sz_24 rfl rfl u0 fun w hc => ?_
    refine stP hf rfl rfl rfl (pA rfl) fun a hf => ?_
    refine cNil ?_
    refine h13 _ _ ?_
    refine wp_seq_k fun K14 h14 => ?_
    refine wp_seq_k fun K15 h15 => ?_
    refine cReg ?_
    refine stP hf rfl rfl rfl (pM rfl) fun a hf => ?_
    refine stP hf rfl rfl rfl (pNe rfl rfl) fun a hf => ?_
    refine stP hf rfl rfl rfl (pM rfl) fun a hf => ?_
    refine stCut 3 (fun a w => Has 335 a [(3, .int .u16 permille), (10, .pointer (some ⟨b_3, 0, none⟩)), (12, .pointer (some ⟨b_6, 0, none⟩)), (13, .func (.func 30) #[] #[.pointer (some ⟨b_5, 0, none⟩)]), (14, .pointer (some ⟨b_7, 0, none⟩)), (17, .slice p_7 r_6.1.length c_7), (18, .int .i64 r_6.2), (19, .slice p_8 r_7.1.length c_8), (20, .int .i64 r_7.2), (21, .pointer (some ⟨b_8, 0, none⟩)), (22, .int .i64 r_8.2), (23, .pointer (some ⟨b_9, 0, none⟩)), (24, .int .i64 r_9.2), (100, .int .i64 r_6.2), (101, .bool (r_6.2 != 0)), (102, .bool (r_6.2 != 0)), (105, .bool ((r_6.2 != 0) || (r_7.2 != 0)))] ∧ Ctx G (.box b_9 [.int .i64 r_9.1.Lo, .int .i64 r_9.1.Hi] 24 :: .box b_8 [.int .i64 r_8.1.Lo, .int .i64 r_8.1.Hi] 24 :: .row p_6 c_6 (x.map enc_gauge_Vertical) 61 5 :: .row p_8 c_8 (r_7.1.map enc_api_Span) 24 2 :: .row p_4 c_4 (r_4.1.Verticals.map enc_gauge_Vertical) 61 5 :: .row p_7 c_7 (r_6.1.map enc_api_Span) 24 2 :: .box b_7 [.int .i64 r_5.Left, .int .i64 r_5.Right, .slice p_6 x.length c_6] 48 :: .box b_6 [.int .i64 r_4.1.Left, .int .i64 r_4.1.Right, .slice p_4 r_4.1.Verticals.length c_4] 48 :: .box b_3 [.slice errors_p errors.length errors_c, .int .i64 r_4.2.1, .int .i64 r_4.2.2] 104 :: .box b_5 [.pointer (some ⟨b_4, 0, none⟩)] 28 :: .box b_4 [.slice better_p better.length better_c, .int .i64 x_2, .int .i64 x_3] 104 :: Lf) w) ?_ ?_
    · cases hb : (r_6.2 != 0)
      · rw [hb] at hf
        refine stP hf rfl rfl rfl (pM rfl) fun a hf => ?_
        refine stP hf rfl rfl rfl (pNe rfl rfl) fun a hf => ?_
        refine stP hf rfl rfl rfl (pPf rfl rfl) fun a hf => ?_
        exact cNil ⟨hf.keep ⟨rfl, rfl, rfl, rfl, rfl, rfl, rfl, rfl, rfl, rfl, rfl, rfl, rfl, rfl, rfl, rfl, rfl, trivial⟩, hc⟩
      · rw [hb] at hf
        refine stS hf rfl rfl rfl fun a hf => ?_
        refine stS hf rfl rfl rfl fun a hf => ?_
        refine stP hf rfl rfl rfl (pPt rfl rfl) fun a hf => ?_
        exact cNil ⟨hf.keep ⟨rfl, rfl, rfl, rfl, rfl, rfl, rfl, rfl, rfl, rfl, rfl, rfl, rfl, rfl, rfl, rfl, rfl, trivial⟩, hc⟩
    intro a w ⟨hf, hc⟩
    refine stP hf rfl rfl rfl (pM rfl) fun a hf => ?_
    refine stCut 3 (fun a w => Has 335 a [(3, .int .u16 permille), (10, .pointer (some ⟨b_3, 0, none⟩)), (12, .pointer (some ⟨b_6, 0, none⟩)), (13, .func (.func 30) #[] #[.pointer (some ⟨b_5, 0, none⟩)]), (14, .pointer (some ⟨b_7, 0, none⟩)), (17, .slice p_7 r_6.1.length c_7), (18, .int .i64 r_6.2), (19, .slice p_8 r_7.1.length c_8), (20, .int .i64 r_7.2), (21, .pointer (some ⟨b_8, 0, none⟩)), (22, .int .i64 r_8.2), (23, .pointer (some ⟨b_9, 0, none⟩)), (24, .int .i64 r_9.2), (100, .int .i64 r_6.2), (101, .bool (r_6.2 != 0)), (102, .bool (r_6.2 != 0)), (105, .bool ((r_6.2 != 0) || (r_7.2 != 0))), (106, .bool ((r_6.2 != 0) || (r_7.2 != 0))), (109, .bool (((r_6.2 != 0) || (r_7.2 != 0)) || (r_8.2 != 0)))] ∧ Ctx G (.box b_9 [.int .i64 r_9.1.Lo, .int .i64 r_9.1.Hi] 24 :: .box b_8 [.int .i64 r_8.1.Lo, .int .i64 r_8.1.Hi] 24 :: .row p_6 c_6 (x.map enc_gauge_Vertical) 61 5 :: .row p_8 c_8 (r_7.1.map enc_api_Span) 24 2 :: .row p_4 c_4 (r_4.1.Verticals.map enc_gauge_Vertical) 61 5 :: .row p_7 c_7 (r_6.1.map enc_api_Span) 24 2 :: .box b_7 [.int .i64 r_5.Left, .int .i64 r_5.Right, .slice p_6 x.length c_6] 48 :: .box b_6 [.int .i64 r_4.1.Left, .int .i64 r_4.1.Right, .slice p_4 r_4.1.Verticals.length c_4] 48 :: .box b_3 [.slice errors_p errors.length errors_c, .int .i64 r_4.2.1, .int .i64 r_4.2.2] 104 :: .box b_5 [.pointer (some ⟨b_4, 0, none⟩)] 28 :: .box b_4 [.slice better_p better.length better_c, .int .i64 x_2, .int .i64 x_3] 104 :: Lf) w) ?_ ?_
    · cases hb : ((r_6.2 != 0) || (r_7.2 != 0))
      · rw [hb] at hf
        refine stP hf rfl rfl rfl (pM rfl) fun a hf => ?_
        refine stP hf rfl rfl rfl (pNe rfl rfl) fun a hf => ?_
        refine stP hf rfl rfl rfl (pPf rfl rfl) fun a hf => ?_
        exact cNil ⟨hf.keep ⟨rfl, rfl, rfl, rfl, rfl, rfl, rfl, rfl, rfl, rfl, rfl, rfl, rfl, rfl, rfl, rfl, rfl, rfl, rfl, trivial⟩, hc⟩
      · rw [hb] at hf
        refine stS hf rfl rfl rfl fun a hf => ?_
        refine stS hf rfl rfl rfl fun a hf => ?_
        refine stP hf rfl rfl rfl (pPt rfl rfl) fun a hf => ?_
        exact cNil ⟨hf.keep ⟨rfl, rfl, rfl, rfl, rfl, rfl, rfl, rfl, rfl, rfl, rfl, rfl, rfl, rfl, rfl, rfl, rfl, rfl, rfl, trivial⟩, hc⟩
    intro a w ⟨hf, hc⟩
    refine stP hf rfl rfl rfl (pM rfl) fun a hf => ?_
    refine stCut 3 (fun a w => Has 335 a [(3, .int .u16 permille), (10, .pointer (some ⟨b_3, 0, none⟩)), (12, .pointer (some ⟨b_6, 0, none⟩)), (13, .func (.func 30) #[] #[.pointer (some ⟨b_5, 0, none⟩)]), (14, .pointer (some ⟨b_7, 0, none⟩)), (17, .slice p_7 r_6.1.length c_7), (18, .int .i64 r_6.2), (19, .slice p_8 r_7.1.length c_8), (20, .int .i64 r_7.2), (21, .pointer (some ⟨b_8, 0, none⟩)), (22, .int .i64 r_8.2), (23, .pointer (some ⟨b_9, 0, none⟩)), (24, .int .i64 r_9.2), (100, .int .i64 r_6.2), (101, .bool (r_6.2 != 0)), (102, .bool (r_6.2 != 0)), (105, .bool ((r_6.2 != 0) || (r_7.2 != 0))), (106, .bool ((r_6.2 != 0) || (r_7.2 != 0))), (109, .bool (((r_6.2 != 0) || (r_7.2 != 0)) || (r_8.2 != 0))), (110, .bool (((r_6.2 != 0) || (r_7.2 != 0)) || (r_8.2 != 0))), (113, .bool ((((r_6.2 != 0) || (r_7.2 != 0)) || (r_8.2 != 0)) || (r_9.2 != 0)))] ∧ Ctx G (.box b_9 [.int .i64 r_9.1.Lo, .int .i64 r_9.1.Hi] 24 :: .box b_8 [.int .i64 r_8.1.Lo, .int .i64 r_8.1.Hi] 24 :: .row p_6 c_6 (x.map enc_gauge_Vertical) 61 5 :: .row p_8 c_8 (r_7.1.map enc_api_Span) 24 2 :: .row p_4 c_4 (r_4.1.Verticals.map enc_gauge_Vertical) 61 5 :: .row p_7 c_7 (r_6.1.map enc_api_Span) 24 2 :: .box b_7 [.int .i64 r_5.Left, .int .i64 r_5.Right, .slice p_6 x.length c_6] 48 :: .box b_6 [.int .i64 r_4.1.Left, .int .i64 r_4.1.Right, .slice p_4 r_4.1.Verticals.length c_4] 48 :: .box b_3 [.slice errors_p errors.length errors_c, .int .i64 r_4.2.1, .int .i64 r_4.2.2] 104 :: .box b_5 [.pointer (some ⟨b_4, 0, none⟩)] 28 :: .box b_4 [.slice better_p better.length better_c, .int .i64 x_2, .int .i64 x_3] 104 :: Lf) w) ?_ ?_
    · cases hb : (((r_6.2 != 0) || (r_7.2 != 0)) || (r_8.2 != 0))
      · rw [hb] at hf
        refine stP hf rfl rfl rfl (pM rfl) fun a hf => ?_
        refine stP hf rfl rfl rfl (pNe rfl rfl) fun a hf => ?_
        refine stP hf rfl rfl rfl (pPf rfl rfl) fun a hf => ?_
        exact cNil ⟨hf.keep ⟨rfl, rfl, rfl, rfl, rfl, rfl, rfl, rfl, rfl, rfl, rfl, rfl, rfl, rfl, rfl, rfl, rfl, rfl, rfl, rfl, rfl, trivial⟩, hc⟩
      · rw [hb] at hf
        refine stS hf rfl rfl rfl fun a hf => ?_
        refine stS hf rfl rfl rfl fun a hf => ?_
        refine stP hf rfl rfl rfl (pPt rfl rfl) fun a hf => ?_
        exact cNil ⟨hf.keep ⟨rfl, rfl, rfl, rfl, rfl, rfl, rfl, rfl, rfl, rfl, rfl, rfl, rfl, rfl, rfl, rfl, rfl, rfl, rfl, rfl, rfl, trivial⟩, hc⟩
    intro a w ⟨hf, hc⟩
    refine stP hf rfl rfl rfl (pM rfl) fun a hf => ?_
    refine stCut 6 (fun a w => Has 335 a [(3, .int .u16 permille), (10, .pointer (some ⟨b_3, 0, none⟩)), (12, .pointer (some ⟨b_6, 0, none⟩)), (13, .func (.func 30) #[] #[.pointer (some ⟨b_5, 0, none⟩)]), (14, .pointer (some ⟨b_7, 0, none⟩)), (17, .slice p_7 r_6.1.length c_7), (18, .int .i64 r_6.2), (19, .slice p_8 r_7.1.length c_8), (20, .int .i64 r_7.2), (21, .pointer (some ⟨b_8, 0, none⟩)), (22, .int .i64 r_8.2), (23, .pointer (some ⟨b_9, 0, none⟩)), (24, .int .i64 r_9.2), (100, .int .i64 r_6.2), (101, .bool (r_6.2 != 0)), (102, .bool (r_6.2 != 0)), (105, .bool ((r_6.2 != 0) || (r_7.2 != 0))), (106, .bool ((r_6.2 != 0) || (r_7.2 != 0))), (109, .bool (((r_6.2 != 0) || (r_7.2 != 0)) || (r_8.2 != 0))), (110, .bool (((r_6.2 != 0) || (r_7.2 != 0)) || (r_8.2 != 0))), (113, .bool ((((r_6.2 != 0) || (r_7.2 != 0)) || (r_8.2 != 0)) || (r_9.2 != 0))), (114, .bool ((((r_6.2 != 0) || (r_7.2 != 0)) || (r_8.2 != 0)) || (r_9.2 != 0))), (120, .bool (((((r_6.2 != 0) || (r_7.2 != 0)) || (r_8.2 != 0)) || (r_9.2 != 0)) || (((r_6.1.length : Nat) : Int) != ((r_7.1.length : Nat) : Int))))] ∧ Ctx G (.box b_9 [.int .i64 r_9.1.Lo, .int .i64 r_9.1.Hi] 24 :: .box b_8 [.int .i64 r_8.1.Lo, .int .i64 r_8.1.Hi] 24 :: .row p_6 c_6 (x.map enc_gauge_Vertical) 61 5 :: .row p_8 c_8 (r_7.1.map enc_api_Span) 24 2 :: .row p_4 c_4 (r_4.1.Verticals.map enc_gauge_Vertical) 61 5 :: .row p_7 c_7 (r_6.1.map enc_api_Span) 24 2 :: .box b_7 [.int .i64 r_5.Left, .int .i64 r_5.Right, .slice p_6 x.length c_6] 48 :: .box b_6 [.int .i64 r_4.1.Left, .int .i64 r_4.1.Right, .slice p_4 r_4.1.Verticals.length c_4] 48 :: .box b_3 [.slice errors_p errors.length errors_c, .int .i64 r_4.2.1, .int .i64 r_4.2.2] 104 :: .box b_5 [.pointer (some ⟨b_4, 0, none⟩)] 28 :: .box b_4 [.slice better_p better.length better_c, .int .i64 x_2, .int .i64 x_3] 104 :: Lf) w) ?_ ?_
    · cases hb : ((((r_6.2 != 0) || (r_7.2 != 0)) || (r_8.2 != 0)) || (r_9.2 != 0))
      · rw [hb] at hf
        refine stP hf rfl rfl rfl (pM rfl) fun a hf => ?_
        refine stP hf rfl rfl rfl (pLenS Try.underlying72 rfl) fun a hf => ?_
        refine stP hf rfl rfl rfl (pM rfl) fun a hf => ?_
        refine stP hf rfl rfl rfl (pLenS Try.underlying72 rfl) fun a hf => ?_
        refine stP hf rfl rfl rfl (pNe rfl rfl) fun a hf => ?_
        refine stP hf rfl rfl rfl (pPf rfl rfl) fun a hf => ?_
        exact cNil ⟨hf.keep ⟨rfl, rfl, rfl, rfl, rfl, rfl, rfl, rfl, rfl, rfl, rfl, rfl, rfl, rfl, rfl, rfl, rfl, rfl, rfl, rfl, rfl, rfl, rfl, trivial⟩, hc⟩
      · rw [hb] at hf
        refine stS hf rfl rfl rfl fun a hf => ?_
        refine stS hf rfl rfl rfl fun a hf => ?_
        refine stS hf rfl rfl rfl fun a hf => ?_
        refine stS hf rfl rfl rfl fun a hf => ?_
        refine stS hf rfl rfl rfl fun a hf => ?_
        refine stP hf rfl rfl rfl (pPt rfl rfl) fun a hf => ?_
        exact cNil ⟨hf.keep ⟨rfl, rfl, rfl, rfl, rfl, rfl, rfl, rfl, rfl, rfl, rfl, rfl, rfl, rfl, rfl, rfl, rfl, rfl, rfl, rfl, rfl, rfl, rfl, trivial⟩, hc⟩
    intro a w ⟨hf, hc⟩
    refine stP hf rfl rfl rfl (pM rfl) fun a hf => ?_
    refine stCut 6 (fun a w => Has 335 a [(3, .int .u16 permille), (10, .pointer (some ⟨b_3, 0, none⟩)), (12, .pointer (some ⟨b_6, 0, none⟩)), (13, .func (.func 30) #[] #[.pointer (some ⟨b_5, 0, none⟩)]), (14, .pointer (some ⟨b_7, 0, none⟩)), (17, .slice p_7 r_6.1.length c_7), (18, .int .i64 r_6.2), (19, .slice p_8 r_7.1.length c_8), (20, .int .i64 r_7.2), (21, .pointer (some ⟨b_8, 0, none⟩)), (22, .int .i64 r_8.2), (23, .pointer (some ⟨b_9, 0, none⟩)), (24, .int .i64 r_9.2), (100, .int .i64 r_6.2), (101, .bool (r_6.2 != 0)), (102, .bool (r_6.2 != 0)), (105, .bool ((r_6.2 != 0) || (r_7.2 != 0))), (106, .bool ((r_6.2 != 0) || (r_7.2 != 0))), (109, .bool (((r_6.2 != 0) || (r_7.2 != 0)) || (r_8.2 != 0))), (110, .bool (((r_6.2 != 0) || (r_7.2 != 0)) || (r_8.2 != 0))), (113, .bool ((((r_6.2 != 0) || (r_7.2 != 0)) || (r_8.2 != 0)) || (r_9.2 != 0))), (114, .bool ((((r_6.2 != 0) || (r_7.2 != 0)) || (r_8.2 != 0)) || (r_9.2 != 0))), (120, .bool (((((r_6.2 != 0) || (r_7.2 != 0)) || (r_8.2 != 0)) || (r_9.2 != 0)) || (((r_6.1.length : Nat) : Int) != ((r_7.1.length : Nat) : Int)))), (121, .bool (((((r_6.2 != 0) || (r_7.2 != 0)) || (r_8.2 != 0)) || (r_9.2 != 0)) || (((r_6.1.length : Nat) : Int) != ((r_7.1.length : Nat) : Int)))), (127, .bool ((((((r_6.2 != 0) || (r_7.2 != 0)) || (r_8.2 != 0)) || (r_9.2 != 0)) || (((r_6.1.length : Nat) : Int) != ((r_7.1.length : Nat) : Int))) || (decide (r_9.1.Lo < r_8.1.Lo))))] ∧ Ctx G (.box b_9 [.int .i64 r_9.1.Lo, .int .i64 r_9.1.Hi] 24 :: .box b_8 [.int .i64 r_8.1.Lo, .int .i64 r_8.1.Hi] 24 :: .row p_6 c_6 (x.map enc_gauge_Vertical) 61 5 :: .row p_8 c_8 (r_7.1.map enc_api_Span) 24 2 :: .row p_4 c_4 (r_4.1.Verticals.map enc_gauge_Vertical) 61 5 :: .row p_7 c_7 (r_6.1.map enc_api_Span) 24 2 :: .box b_7 [.int .i64 r_5.Left, .int .i64 r_5.Right, .slice p_6 x.length c_6] 48 :: .box b_6 [.int .i64 r_4.1.Left, .int .i64 r_4.1.Right, .slice p_4 r_4.1.Verticals.length c_4] 48 :: .box b_3 [.slice errors_p errors.length errors_c, .int .i64 r_4.2.1, .int .i64 r_4.2.2] 104 :: .box b_5 [.pointer (some ⟨b_4, 0, none⟩)] 28 :: .box b_4 [.slice better_p better.length better_c, .int .i64 x_2, .int .i64 x_3] 104 :: Lf) w) ?_ ?_
    · cases hb : (((((r_6.2 != 0) || (r_7.2 != 0)) || (r_8.2 != 0)) || (r_9.2 != 0)) || (((r_6.1.length : Nat) : Int) != ((r_7.1.length : Nat) : Int)))
      · rw [hb] at hf
        refine stP hf rfl rfl rfl (pFA fa_24_0 rfl) fun a hf => ?_
        refine stE hf hc rfl rfl rfl (eLd1 sc_3 rfl (cell_box m0 rfl)) fun a w hf hc => ?_
        refine stP hf rfl rfl rfl (pFA fa_24_0 rfl) fun a hf => ?_
        refine stE hf hc rfl rfl rfl (eLd1 sc_3 rfl (cell_box m1 rfl)) fun a w hf hc => ?_
        refine stP hf rfl rfl rfl (pLt rfl rfl) fun a hf => ?_
        refine stP hf rfl rfl rfl (pPf rfl rfl) fun a hf => ?_
        exact cNil ⟨hf.keep ⟨rfl, rfl, rfl, rfl, rfl, rfl, rfl, rfl, rfl, rfl, rfl, rfl, rfl, rfl, rfl, rfl, rfl, rfl, rfl, rfl, rfl, rfl, rfl, rfl, rfl, trivial⟩, hc⟩
      · rw [hb] at hf
        refine stS hf rfl rfl rfl fun a hf => ?_
        refine stS hf rfl rfl rfl fun a hf => ?_
        refine stS hf rfl rfl rfl fun a hf => ?_
        refine stS hf rfl rfl rfl fun a hf => ?_
        refine stS hf rfl rfl rfl fun a hf => ?_
        refine stP hf rfl rfl rfl (pPt rfl rfl) fun a hf => ?_
        exact cNil ⟨hf.keep ⟨rfl, rfl, rfl, rfl, rfl, rfl, rfl, rfl, rfl, rfl, rfl, rfl, rfl, rfl, rfl, rfl, rfl, rfl, rfl, rfl, rfl, rfl, rfl, rfl, rfl, trivial⟩, hc⟩
    intro a w ⟨hf, hc⟩
    refine stP hf rfl rfl rfl (pM rfl) fun a hf => ?_
    refine stCut 6 (fun a w => Has 335 a [(3, .int .u16 permille), (10, .pointer (some ⟨b_3, 0, none⟩)), (12, .pointer (some ⟨b_6, 0, none⟩)), (13, .func (.func 30) #[] #[.pointer (some ⟨b_5, 0, none⟩)]), (14, .pointer (some ⟨b_7, 0, none⟩)), (17, .slice p_7 r_6.1.length c_7), (18, .int .i64 r_6.2), (19, .slice p_8 r_7.1.length c_8), (20, .int .i64 r_7.2), (21, .pointer (some ⟨b_8, 0, none⟩)), (22, .int .i64 r_8.2), (23, .pointer (some ⟨b_9, 0, none⟩)), (24, .int .i64 r_9.2), (100, .int .i64 r_6.2), (101, .bool (r_6.2 != 0)), (102, .bool (r_6.2 != 0)), (105, .bool ((r_6.2 != 0) || (r_7.2 != 0))), (106, .bool ((r_6.2 != 0) || (r_7.2 != 0))), (109, .bool (((r_6.2 != 0) || (r_7.2 != 0)) || (r_8.2 != 0))), (110, .bool (((r_6.2 != 0) || (r_7.2 != 0)) || (r_8.2 != 0))), (113, .bool ((((r_6.2 != 0) || (r_7.2 != 0)) || (r_8.2 != 0)) || (r_9.2 != 0))), (114, .bool ((((r_6.2 != 0) || (r_7.2 != 0)) || (r_8.2 != 0)) || (r_9.2 != 0))), (120, .bool (((((r_6.2 != 0) || (r_7.2 != 0)) || (r_8.2 != 0)) || (r_9.2 != 0)) || (((r_6.1.length : Nat) : Int) != ((r_7.1.length : Nat) : Int)))), (121, .bool (((((r_6.2 != 0) || (r_7.2 != 0)) || (r_8.2 != 0)) || (r_9.2 != 0)) || (((r_6.1.length : Nat) : Int) != ((r_7.1.length : Nat) : Int)))), (127, .bool ((((((r_6.2 != 0) || (r_7.2 != 0)) || (r_8.2 != 0)) || (r_9.2 != 0)) || (((r_6.1.length : Nat) : Int) != ((r_7.1.length : Nat) : Int))) || (decide (r_9.1.Lo < r_8.1.Lo)))), (128, .bool ((((((r_6.2 != 0) || (r_7.2 != 0)) || (r_8.2 != 0)) || (r_9.2 != 0)) || (((r_6.1.length : Nat) : Int) != ((r_7.1.length : Nat) : Int))) || (decide (r_9.1.Lo < r_8.1.Lo)))), (134, .bool (((((((r_6.2 != 0) || (r_7.2 != 0)) || (r_8.2 != 0)) || (r_9.2 != 0)) || (((r_6.1.length : Nat) : Int) != ((r_7.1.length : Nat) : Int))) || (decide (r_9.1.Lo < r_8.1.Lo))) || (decide (r_8.1.Hi < r_9.1.Hi))))] ∧ Ctx G (.box b_9 [.int .i64 r_9.1.Lo, .int .i64 r_9.1.Hi] 24 :: .box b_8 [.int .i64 r_8.1.Lo, .int .i64 r_8.1.Hi] 24 :: .row p_6 c_6 (x.map enc_gauge_Vertical) 61 5 :: .row p_8 c_8 (r_7.1.map enc_api_Span) 24 2 :: .row p_4 c_4 (r_4.1.Verticals.map enc_gauge_Vertical) 61 5 :: .row p_7 c_7 (r_6.1.map enc_api_Span) 24 2 :: .box b_7 [.int .i64 r_5.Left, .int .i64 r_5.Right, .slice p_6 x.length c_6] 48 :: .box b_6 [.int .i64 r_4.1.Left, .int .i64 r_4.1.Right, .slice p_4 r_4.1.Verticals.length c_4] 48 :: .box b_3 [.slice errors_p errors.length errors_c, .int .i64 r_4.2.1, .int .i64 r_4.2.2] 104 :: .box b_5 [.pointer (some ⟨b_4, 0, none⟩)] 28 :: .box b_4 [.slice better_p better.length better_c, .int .i64 x_2, .int .i64 x_3] 104 :: Lf) w) ?_ ?_
    · cases hb : ((((((r_6.2 != 0) || (r_7.2 != 0)) || (r_8.2 != 0)) || (r_9.2 != 0)) || (((r_6.1.length : Nat) : Int) != ((r_7.1.length : Nat) : Int))) || (decide (r_9.1.Lo < r_8.1.Lo)))
      · rw [hb] at hf
        refine stP hf rfl rfl rfl (pFA fa_24_1 rfl) fun a hf => ?_
        refine stE hf hc rfl rfl rfl (eLd1 sc_3 rfl (cell_box m0 rfl)) fun a w hf hc => ?_
        refine stP hf rfl rfl rfl (pFA fa_24_1 rfl) fun a hf => ?_
        refine stE hf hc rfl rfl rfl (eLd1 sc_3 rfl (cell_box m1 rfl)) fun a w hf hc => ?_
        refine stP hf rfl rfl rfl (pGt rfl rfl) fun a hf => ?_
        refine stP hf rfl rfl rfl (pPf rfl rfl) fun a hf => ?_
        exact cNil ⟨hf.keep ⟨rfl, rfl, rfl, rfl, rfl, rfl, rfl, rfl, rfl, rfl, rfl, rfl, rfl, rfl, rfl, rfl, rfl, rfl, rfl, rfl, rfl, rfl, rfl, rfl, rfl, rfl, rfl, trivial⟩, hc⟩
      · rw [hb] at hf
        refine stS hf rfl rfl rfl fun a hf => ?_
        refine stS hf rfl rfl rfl fun a hf => ?_
        refine stS hf rfl rfl rfl fun a hf => ?_
        refine stS hf rfl rfl rfl fun a hf => ?_
        refine stS hf rfl rfl rfl fun a hf => ?_
        refine stP hf rfl rfl rfl (pPt rfl rfl) fun a hf => ?_
        exact cNil ⟨hf.keep ⟨rfl, rfl, rfl, rfl, rfl, rfl, rfl, rfl, rfl, rfl, rfl, rfl, rfl, rfl, rfl, rfl, rfl, rfl, rfl, rfl, rfl, rfl, rfl, rfl, rfl, rfl, rfl, trivial⟩, hc⟩
    intro a w ⟨hf, hc⟩
    refine cNil ?_
    refine h15 _ _ ?_
    refine cCond (b := (((((((r_6.2 != 0) || (r_7.2 != 0)) || (r_8.2 != 0)) || (r_9.2 != 0)) || (((r_6.1.length : Nat) : Int) != ((r_7.1.length : Nat) : Int))) || (decide (r_9.1.Lo < r_8.1.Lo))) || (decide (r_8.1.Hi < r_9.1.Hi)))) hf rfl (fun hb => ?_) (fun hb => ?_)
    · replace hF := condT hb hF
      clear hb
      refine wp_seq_k fun K16 h16 => ?_
      refine cReg ?_
      refine stP hf rfl rfl rfl (pA rfl) fun a hf => ?_
      refine cNil ?_
      refine h16 _ _ ?_
      refine wp_ret ?_
      refine xThenR ?_
      obtain rfl := Option.some.inj hF
      replace hc := hc.drop k10
      replace hc := hc.drop k9
      replace hc := hc.drop k8
      replace hc := hc.drop k7
      replace hc := hc.drop k6
      replace hc := hc.drop k5
      replace hc := hc.drop k4
      replace hc := hc.drop k3
      replace hc := hc.drop k2
      replace hc := hc.drop k1
      replace hc := hc.drop k0
      exact fnOut1 (by simp) rfl Try.results6 hf hc (show look _ 8 = _ from rfl) ⟨rfl, hc⟩
    · replace hF := condF hb hF
      clear hb
      refine wp_skip ?_
      refine h14 _ _ ?_
      refine wp_seq_k fun K17 h17 => ?_
      refine wp_seq_k fun K18 h18 => ?_
      refine cReg ?_
      refine stP hf rfl rfl rfl (pM rfl) fun a hf => ?_
      refine stP hf rfl rfl rfl (pLenS Try.underlying72 rfl) fun a hf => ?_
      refine stP hf rfl rfl rfl (pM rfl) fun a hf => ?_
      refine cNil ?_
      refine h18 _ _ ?_
      refine wp_block ?_
      obtain ⟨x19, hx19, hF⟩ := bnd_some hF
      let S19 : ((List api_Span) × (List api_Span) × Int) → Act → World → Prop := (fun (zz : (List api_Span) × (List api_Span) × Int) a w => ∃ (p_9 : Option Addr) (c_9 : Nat) (p_10 : Option Addr) (c_10 : Nat), Has 335 a [(3, .int .u16 permille), (10, .pointer (some ⟨b_3, 0, none⟩)), (12, .pointer (some ⟨b_6, 0, none⟩)), (13, .func (.func 30) #[] #[.pointer (some ⟨b_5, 0, none⟩)]), (14, .pointer (some ⟨b_7, 0, none⟩)), (17, .slice p_9 zz.1.length c_9), (19, .slice p_10 zz.2.1.length c_10), (21, .pointer (some ⟨b_8, 0, none⟩)), (23, .pointer (some ⟨b_9, 0, none⟩)), (136, .int .i64 ((r_6.1.length : Nat) : Int)), (137, .int .i64 zz.2.2)] ∧ Ctx G (.box b_9 [.int .i64 r_9.1.Lo, .int .i64 r_9.1.Hi] 24 :: .box b_8 [.int .i64 r_8.1.Lo, .int .i64 r_8.1.Hi] 24 :: .row p_6 c_6 (x.map enc_gauge_Vertical) 61 5 :: .row p_10 c_10 (zz.2.1.map enc_api_Span) 24 2 :: .row p_4 c_4 (r_4.1.Verticals.map enc_gauge_Vertical) 61 5 :: .row p_9 c_9 (zz.1.map enc_api_Span) 24 2 :: .box b_7 [.int .i64 r_5.Left, .int .i64 r_5.Right, .slice p_6 x.length c_6] 48 :: .box b_6 [.int .i64 r_4.1.Left, .int .i64 r_4.1.Right, .slice p_4 r_4.1.Verticals.length c_4] 48 :: .box b_3 [.slice errors_p errors.length errors_c, .int .i64 r_4.2.1, .int .i64 r_4.2.2] 104 :: .box b_5 [.pointer (some ⟨b_4, 0, none⟩)] 28 :: .box b_4 [.slice better_p better.length better_c, .int .i64 x_2, .int .i64 x_3] 104 :: Lf) w)
      have hr19 : ∀ (zz : (List api_Span) × (List api_Span) × Int) a w, x19 = .go zz → S19 zz a w → K17 a w := by
        rintro ⟨a_1, b_10, x_4⟩ a w rfl ⟨p_9, c_9, p_10, c_10, hf, hc⟩
        replace hF : _ = some res := hF
        refine h17 _ _ ?_
        refine wp_seq_k fun K20 h20 => ?_
        refine cReg ?_
        refine stE hf hc rfl rfl rfl (eLdN (vs := [.int .i64 r_4.1.Left, .int .i64 r_4.1.Right, .slice p_4 r_4.1.Verticals.length c_4]) ag_48 rfl rfl (cells_box (n := 3) m7 rfl)) fun a w hf hc => ?_
        refine stP hf rfl rfl rfl (pM rfl) fun a hf => ?_
        refine stP hf rfl rfl rfl (pCv Try.underlying45 Try.underlying3 rfl) fun a hf => ?_
        refine stP hf rfl rfl rfl (pRem rfl rfl (by decide)) fun a hf => ?_
        obtain ⟨r_10, hr_10, hF⟩ := bnd_some hF
        obtain ⟨G1, hle1, hrd1, hc, hth1⟩ := lend hc k4
        refine stC (vs := [.agg #[.int .i64 r_4.1.Left, .int .i64 r_4.1.Right, .slice p_4 r_4.1.Verticals.length c_4], .int .i64 ((W (permille)).tmod 1001)]) (caps := []) hf rfl rfl rfl en_28 rfl rfl rfl rfl (gauge_Heavy_ok r_4.1 ((W (permille)).tmod 1001) hrd1 hc hr_10) ?_
        rintro _ w ⟨p_11, c_11, p_12, c_12, rfl, hc⟩
        refine ⟨_, rfl, fun a hf => ?_⟩
        replace hc := hth1 _ _ hc
        refine stP hf rfl rfl rfl (pM rfl) fun a hf => ?_
        refine stP hf rfl rfl rfl (pX rfl rfl) fun a hf => ?_
        refine stP hf rfl rfl rfl (pX rfl rfl) fun a hf => ?_
        refine stP hf rfl rfl rfl (pX rfl rfl) fun a hf => ?_
        refine stP hf rfl rfl rfl (pA rfl) fun a hf => ?_
        refine stP hf rfl rfl rfl (pA rfl) fun a hf => ?_
        refine stP hf rfl rfl rfl (pA rfl) fun a hf => ?_
        refine cNil ?_
        refine h20 _ _ ?_
        refine wp_seq_k fun K21 h21 => ?_
        refine cReg ?_
        refine stE hf hc rfl rfl rfl (eLdN (vs := [.int .i64 r_5.Left, .int .i64 r_5.Right, .slice p_6 x.length c_6]) ag_48 rfl rfl (cells_box (n := 3) m8 rfl)) fun a w hf hc => ?_
        refine stP hf rfl rfl rfl (pM rfl) fun a hf => ?_
        refine stP hf rfl rfl rfl (pCv Try.underlying45 Try.underlying3 rfl) fun a hf => ?_
        refine stP hf rfl rfl rfl (pRem rfl rfl (by decide)) fun a hf => ?_
        obtain ⟨r_11, hr_11, hF⟩ := bnd_some hF
        obtain ⟨G1, hle1, hrd1, hc, hth1⟩ := lend hc k5
        refine stC (vs := [.agg #[.int .i64 r_5.Left, .int .i64 r_5.Right, .slice p_6 x.length c_6], .int .i64 ((W (permille)).tmod 1001)]) (caps := []) hf rfl rfl rfl en_28 rfl rfl rfl rfl (gauge_Heavy_ok (⟨r_5.Left, r_5.Right, x⟩ : gauge_Gauging) ((W (permille)).tmod 1001) hrd1 hc hr_11) ?_
        rintro _ w ⟨p_13, c_13, p_14, c_14, rfl, hc⟩
        refine ⟨_, rfl, fun a hf => ?_⟩
        replace hc := hth1 _ _ hc
        refine stP hf rfl rfl rfl (pM rfl) fun a hf => ?_
        refine stP hf rfl rfl rfl (pX rfl rfl) fun a hf => ?_
        refine stP hf rfl rfl rfl (pX rfl rfl) fun a hf => ?_
        refine stP hf rfl rfl rfl (pX rfl rfl) fun a hf => ?_
        refine stP hf rfl rfl rfl (pA rfl) fun a hf => ?_
        refine stP hf rfl rfl rfl (pA rfl) fun a hf => ?_
        refine stP hf rfl rfl rfl (pA rfl) fun a hf => ?_
        refine cNil ?_
        refine h21 _ _ ?_
        refine wp_seq_k fun K22 h22 => ?_
        refine wp_seq_k fun K23 h23 => ?_
        refine cReg ?_
        refine stP hf rfl rfl rfl (pM rfl) fun a hf => ?_
        refine stP hf rfl rfl rfl (pNe rfl rfl) fun a hf => ?_
        refine stP hf rfl rfl rfl (pM rfl) fun a hf => ?_
        refine stCut 3 (fun a w => Has 335 a [(10, .pointer (some ⟨b_3, 0, none⟩)), (13, .func (.func 30) #[] #[.pointer (some ⟨b_5, 0, none⟩)]), (21, .pointer (some ⟨b_8, 0, none⟩)), (23, .pointer (some ⟨b_9, 0, none⟩)), (26, .slice p_11 r_10.1.length c_11), (27, .slice p_12 r_10.2.1.length c_12), (18, .int .i64 r_10.2.2), (28, .slice p_13 r_11.1.length c_13), (29, .slice p_14 r_11.2.1.length c_14), (20, .int .i64 r_11.2.2), (183, .int .i64 r_10.2.2), (184, .bool (r_10.2.2 != 0)), (185, .bool (r_10.2.2 != 0)), (188, .bool ((r_10.2.2 != 0) || (r_11.2.2 != 0)))] ∧ Ctx G (.row p_6 c_6 (x.map enc_gauge_Vertical) 61 5 :: .row p_13 c_13 (r_11.1.map encI_i64) 3 1 :: .row p_14 c_14 (r_11.2.1.map encI_i64) 3 1 :: .row p_4 c_4 (r_4.1.Verticals.map enc_gauge_Vertical) 61 5 :: .row p_11 c_11 (r_10.1.map encI_i64) 3 1 :: .row p_12 c_12 (r_10.2.1.map encI_i64) 3 1 :: .box b_9 [.int .i64 r_9.1.Lo, .int .i64 r_9.1.Hi] 24 :: .box b_8 [.int .i64 r_8.1.Lo, .int .i64 r_8.1.Hi] 24 :: .row p_10 c_10 (b_10.map enc_api_Span) 24 2 :: .row p_9 c_9 (a_1.map enc_api_Span) 24 2 :: .box b_7 [.int .i64 r_5.Left, .int .i64 r_5.Right, .slice p_6 x.length c_6] 48 :: .box b_6 [.int .i64 r_4.1.Left, .int .i64 r_4.1.Right, .slice p_4 r_4.1.Verticals.length c_4] 48 :: .box b_3 [.slice errors_p errors.length errors_c, .int .i64 r_4.2.1, .int .i64 r_4.2.2] 104 :: .box b_5 [.pointer (some ⟨b_4, 0, none⟩)] 28 :: .box b_4 [.slice better_p better.length better_c, .int .i64 x_2, .int .i64 x_3] 104 :: Lf) w) ?_ ?_
        · cases hb : (r_10.2.2 != 0)
          · rw [hb] at hf
            refine stP hf rfl rfl rfl (pM rfl) fun a hf => ?_
            refine stP hf rfl rfl rfl (pNe rfl rfl) fun a hf => ?_
            refine stP hf rfl rfl rfl (pPf rfl rfl) fun a hf => ?_
            exact cNil ⟨hf.keep ⟨rfl, rfl, rfl, rfl, rfl, rfl, rfl, rfl, rfl, rfl, rfl, rfl, rfl, rfl, trivial⟩, hc⟩
          · rw [hb] at hf
            refine stS hf rfl rfl rfl fun a hf => ?_
            refine stS hf rfl rfl rfl fun a hf => ?_
            refine stP hf rfl rfl rfl (pPt rfl rfl) fun a hf => ?_
            exact cNil ⟨hf.keep ⟨rfl, rfl, rfl, rfl, rfl, rfl, rfl, rfl, rfl, rfl, rfl, rfl, rfl, rfl, trivial⟩, hc⟩
        intro a w ⟨hf, hc⟩
        refine stP hf rfl rfl rfl (pM rfl) fun a hf => ?_
        obtain ⟨t_1, ht_1, hF⟩ := bnd_some hF
        refine stCut 5 (fun a w => Has 335 a [(10, .pointer (some ⟨b_3, 0, none⟩)), (13, .func (.func 30) #[] #[.pointer (some ⟨b_5, 0, none⟩)]), (21, .pointer (some ⟨b_8, 0, none⟩)), (23, .pointer (some ⟨b_9, 0, none⟩)), (26, .slice p_11 r_10.1.length c_11), (27, .slice p_12 r_10.2.1.length c_12), (18, .int .i64 r_10.2.2), (28, .slice p_13 r_11.1.length c_13), (29, .slice p_14 r_11.2.1.length c_14), (20, .int .i64 r_11.2.2), (183, .int .i64 r_10.2.2), (184, .bool (r_10.2.2 != 0)), (185, .bool (r_10.2.2 != 0)), (188, .bool ((r_10.2.2 != 0) || (r_11.2.2 != 0))), (189, .bool ((r_10.2.2 != 0) || (r_11.2.2 != 0))), (194, .bool t_1)] ∧ Ctx G (.row p_6 c_6 (x.map enc_gauge_Vertical) 61 5 :: .row p_13 c_13 (r_11.1.map encI_i64) 3 1 :: .row p_14 c_14 (r_11.2.1.map encI_i64) 3 1 :: .row p_4 c_4 (r_4.1.Verticals.map enc_gauge_Vertical) 61 5 :: .row p_11 c_11 (r_10.1.map encI_i64) 3 1 :: .row p_12 c_12 (r_10.2.1.map encI_i64) 3 1 :: .box b_9 [.int .i64 r_9.1.Lo, .int .i64 r_9.1.Hi] 24 :: .box b_8 [.int .i64 r_8.1.Lo, .int .i64 r_8.1.Hi] 24 :: .row p_10 c_10 (b_10.map enc_api_Span) 24 2 :: .row p_9 c_9 (a_1.map enc_api_Span) 24 2 :: .box b_7 [.int .i64 r_5.Left, .int .i64 r_5.Right, .slice p_6 x.length c_6] 48 :: .box b_6 [.int .i64 r_4.1.Left, .int .i64 r_4.1.Right, .slice p_4 r_4.1.Verticals.length c_4] 48 :: .box b_3 [.slice errors_p errors.length errors_c, .int .i64 r_4.2.1, .int .i64 r_4.2.2] 104 :: .box b_5 [.pointer (some ⟨b_4, 0, none⟩)] 28 :: .box b_4 [.slice better_p better.length better_c, .int .i64 x_2, .int .i64 x_3] 104 :: Lf) w) ?_ ?_
        · cases hb : ((r_10.2.2 != 0) || (r_11.2.2 != 0))
          · rw [hb] at hf
            have hF := condF hb ht_1
            refine stP hf rfl rfl rfl (pM rfl) fun a hf => ?_
            refine stP hf rfl rfl rfl (pM rfl) fun a hf => ?_
            obtain ⟨r_12, hr_12, hF⟩ := bnd_some hF
            refine stE hf hc rfl rfl rfl (eC (v := .bool r_12) (vs := [.slice p_13 r_11.1.length c_13, .slice p_11 r_10.1.length c_11]) (caps := []) en_32 rfl rfl rfl rfl (fun w hc => by obtain ⟨G1, hle1, hrd1, hc, hth1⟩ := lend hc k1; obtain ⟨G2, hle2, hrd2, hc, hth2⟩ := lend hc k3; exact (law03_part_ok r_11.1 r_10.1 (hrd1.mono hle2) hrd2 hc hr_12).mono fun e w h => ⟨h.1, ((hth1 _ _ ((hth2 _ _ h.2).unpick k3)).unpick k1)⟩)) fun a w hf hc => ?_
            refine stP hf rfl rfl rfl (pNot rfl) fun a hf => ?_
            refine stP hf rfl rfl rfl (pPf rfl rfl) fun a hf => ?_
            obtain rfl := Option.some.inj hF
            exact cNil ⟨hf.keep ⟨rfl, rfl, rfl, rfl, rfl, rfl, rfl, rfl, rfl, rfl, rfl, rfl, rfl, rfl, rfl, rfl, trivial⟩, hc⟩
          · rw [hb] at hf
            have hF := condT hb ht_1
            obtain rfl := Option.some.inj hF
            refine stS hf rfl rfl rfl fun a hf => ?_
            refine stS hf rfl rfl rfl fun a hf => ?_
            refine stS hf rfl rfl rfl fun a hf => ?_
            refine stS hf rfl rfl rfl fun a hf => ?_
            refine stP hf rfl rfl rfl (pPt rfl rfl) fun a hf => ?_
            exact cNil ⟨hf.keep ⟨rfl, rfl, rfl, rfl, rfl, rfl, rfl, rfl, rfl, rfl, rfl, rfl, rfl, rfl, rfl, rfl, trivial⟩, hc⟩
        intro a w ⟨hf, hc⟩
        refine stP hf rfl rfl rfl (pM rfl) fun a hf => ?_
        obtain ⟨t_2, ht_2, hF⟩ := bnd_some hF
        refine stCut 5 (fun a w => Has 335 a [(10, .pointer (some ⟨b_3, 0, none⟩)), (13, .func (.func 30) #[] #[.pointer (some ⟨b_5, 0, none⟩)]), (21, .pointer (some ⟨b_8, 0, none⟩)), (23, .pointer (some ⟨b_9, 0, none⟩)), (26, .slice p_11 r_10.1.length c_11), (27, .slice p_12 r_10.2.1.length c_12), (18, .int .i64 r_10.2.2), (28, .slice p_13 r_11.1.length c_13), (29, .slice p_14 r_11.2.1.length c_14), (20, .int .i64 r_11.2.2), (183, .int .i64 r_10.2.2), (184, .bool (r_10.2.2 != 0)), (185, .bool (r_10.2.2 != 0)), (188, .bool ((r_10.2.2 != 0) || (r_11.2.2 != 0))), (189, .bool ((r_10.2.2 != 0) || (r_11.2.2 != 0))), (194, .bool t_1), (195, .bool t_1), (200, .bool t_2)] ∧ Ctx G (.row p_6 c_6 (x.map enc_gauge_Vertical) 61 5 :: .row p_13 c_13 (r_11.1.map encI_i64) 3 1 :: .row p_14 c_14 (r_11.2.1.map encI_i64) 3 1 :: .row p_4 c_4 (r_4.1.Verticals.map enc_gauge_Vertical) 61 5 :: .row p_11 c_11 (r_10.1.map encI_i64) 3 1 :: .row p_12 c_12 (r_10.2.1.map encI_i64) 3 1 :: .box b_9 [.int .i64 r_9.1.Lo, .int .i64 r_9.1.Hi] 24 :: .box b_8 [.int .i64 r_8.1.Lo, .int .i64 r_8.1.Hi] 24 :: .row p_10 c_10 (b_10.map enc_api_Span) 24 2 :: .row p_9 c_9 (a_1.map enc_api_Span) 24 2 :: .box b_7 [.int .i64 r_5.Left, .int .i64 r_5.Right, .slice p_6 x.length c_6] 48 :: .box b_6 [.int .i64 r_4.1.Left, .int .i64 r_4.1.Right, .slice p_4 r_4.1.Verticals.length c_4] 48 :: .box b_3 [.slice errors_p errors.length errors_c, .int .i64 r_4.2.1, .int .i64 r_4.2.2] 104 :: .box b_5 [.pointer (some ⟨b_4, 0, none⟩)] 28 :: .box b_4 [.slice better_p better.length better_c, .int .i64 x_2, .int .i64 x_3] 104 :: Lf) w) ?_ ?_
        · cases hb : t_1
          · rw [hb] at hf
            have hF := condF hb ht_2
            refine stP hf rfl rfl rfl (pM rfl) fun a hf => ?_
            refine stP hf rfl rfl rfl (pM rfl) fun a hf => ?_
            obtain ⟨r_13, hr_13, hF⟩ := bnd_some hF
            refine stE hf hc rfl rfl rfl (eC (v := .bool r_13) (vs := [.slice p_12 r_10.2.1.length c_12, .slice p_14 r_11.2.1.length c_14]) (caps := []) en_32 rfl rfl rfl rfl (fun w hc => by obtain ⟨G1, hle1, hrd1, hc, hth1⟩ := lend hc k5; obtain ⟨G2, hle2, hrd2, hc, hth2⟩ := lend hc k2; exact (law03_part_ok r_10.2.1 r_11.2.1 (hrd1.mono hle2) hrd2 hc hr_13).mono fun e w h => ⟨h.1, ((hth1 _ _ ((hth2 _ _ h.2).unpick k2)).unpick k5)⟩)) fun a w hf hc => ?_
            refine stP hf rfl rfl rfl (pNot rfl) fun a hf => ?_
            refine stP hf rfl rfl rfl (pPf rfl rfl) fun a hf => ?_
            obtain rfl := Option.some.inj hF
            exact cNil ⟨hf.keep ⟨rfl, rfl, rfl, rfl, rfl, rfl, rfl, rfl, rfl, rfl, rfl, rfl, rfl, rfl, rfl, rfl, rfl, rfl, trivial⟩, hc⟩
          · rw [hb] at hf
            have hF := condT hb ht_2
            obtain rfl := Option.some.inj hF
            refine stS hf rfl rfl rfl fun a hf => ?_
            refine stS hf rfl rfl rfl fun a hf => ?_
            refine stS hf rfl rfl rfl fun a hf => ?_
            refine stS hf rfl rfl rfl fun a hf => ?_
            refine stP hf rfl rfl rfl (pPt rfl rfl) fun a hf => ?_
            exact cNil ⟨hf.keep ⟨rfl, rfl, rfl, rfl, rfl, rfl, rfl, rfl, rfl, rfl, rfl, rfl, rfl, rfl, rfl, rfl, rfl, rfl, trivial⟩, hc⟩
        intro a w ⟨hf, hc⟩
        refine stP hf rfl rfl rfl (pM rfl) fun a hf => ?_
        obtain ⟨t_3, ht_3, hF⟩ := bnd_some hF
        refine stCut 5 (fun a w => Has 335 a [(10, .pointer (some ⟨b_3, 0, none⟩)), (13, .func (.func 30) #[] #[.pointer (some ⟨b_5, 0, none⟩)]), (21, .pointer (some ⟨b_8, 0, none⟩)), (23, .pointer (some ⟨b_9, 0, none⟩)), (26, .slice p_11 r_10.1.length c_11), (27, .slice p_12 r_10.2.1.length c_12), (18, .int .i64 r_10.2.2), (28, .slice p_13 r_11.1.length c_13), (29, .slice p_14 r_11.2.1.length c_14), (20, .int .i64 r_11.2.2), (183, .int .i64 r_10.2.2), (184, .bool (r_10.2.2 != 0)), (185, .bool (r_10.2.2 != 0)), (188, .bool ((r_10.2.2 != 0) || (r_11.2.2 != 0))), (189, .bool ((r_10.2.2 != 0) || (r_11.2.2 != 0))), (194, .bool t_1), (195, .bool t_1), (200, .bool t_2), (201, .bool t_2), (206, .bool t_3)] ∧ Ctx G (.row p_6 c_6 (x.map enc_gauge_Vertical) 61 5 :: .row p_13 c_13 (r_11.1.map encI_i64) 3 1 :: .row p_14 c_14 (r_11.2.1.map encI_i64) 3 1 :: .row p_4 c_4 (r_4.1.Verticals.map enc_gauge_Vertical) 61 5 :: .row p_11 c_11 (r_10.1.map encI_i64) 3 1 :: .row p_12 c_12 (r_10.2.1.map encI_i64) 3 1 :: .box b_9 [.int .i64 r_9.1.Lo, .int .i64 r_9.1.Hi] 24 :: .box b_8 [.int .i64 r_8.1.Lo, .int .i64 r_8.1.Hi] 24 :: .row p_10 c_10 (b_10.map enc_api_Span) 24 2 :: .row p_9 c_9 (a_1.map enc_api_Span) 24 2 :: .box b_7 [.int .i64 r_5.Left, .int .i64 r_5.Right, .slice p_6 x.length c_6] 48 :: .box b_6 [.int .i64 r_4.1.Left, .int .i64 r_4.1.Right, .slice p_4 r_4.1.Verticals.length c_4] 48 :: .box b_3 [.slice errors_p errors.length errors_c, .int .i64 r_4.2.1, .int .i64 r_4.2.2] 104 :: .box b_5 [.pointer (some ⟨b_4, 0, none⟩)] 28 :: .box b_4 [.slice better_p better.length better_c, .int .i64 x_2, .int .i64 x_3] 104 :: Lf) w) ?_ ?_
        · cases hb : t_2
          · rw [hb] at hf
            have hF := condF hb ht_3
            refine stP hf rfl rfl rfl (pM rfl) fun a hf => ?_
            refine stP hf rfl rfl rfl (pM rfl) fun a hf => ?_
            obtain ⟨r_14, hr_14, hF⟩ := bnd_some hF
            refine stE hf hc rfl rfl rfl (eC (v := .bool r_14) (vs := [.slice p_14 r_11.2.1.length c_14, .slice p_13 r_11.1.length c_13]) (caps := []) en_32 rfl rfl rfl rfl (fun w hc => by obtain ⟨G1, hle1, hrd1, hc, hth1⟩ := lend hc k2; obtain ⟨G2, hle2, hrd2, hc, hth2⟩ := lend hc k1; exact (law03_part_ok r_11.2.1 r_11.1 (hrd1.mono hle2) hrd2 hc hr_14).mono fun e w h => ⟨h.1, ((hth1 _ _ ((hth2 _ _ h.2).unpick k1)).unpick k2)⟩)) fun a w hf hc => ?_
            refine stP hf rfl rfl rfl (pNot rfl) fun a hf => ?_
            refine stP hf rfl rfl rfl (pPf rfl rfl) fun a hf => ?_
            obtain rfl := Option.some.inj hF
            exact cNil ⟨hf.keep ⟨rfl, rfl, rfl, rfl, rfl, rfl, rfl, rfl, rfl, rfl, rfl, rfl, rfl, rfl, rfl, rfl, rfl, rfl, rfl, rfl, trivial⟩, hc⟩
          · rw [hb] at hf
            have hF := condT hb ht_3
            obtain rfl := Option.some.inj hF
            refine stS hf rfl rfl rfl fun a hf => ?_
            refine stS hf rfl rfl rfl fun a hf => ?_
            refine stS hf rfl rfl rfl fun a hf => ?_
            refine stS hf rfl rfl rfl fun a hf => ?_
            refine stP hf rfl rfl rfl (pPt rfl rfl) fun a hf => ?_
            exact cNil ⟨hf.keep ⟨rfl, rfl, rfl, rfl, rfl, rfl, rfl, rfl, rfl, rfl, rfl, rfl, rfl, rfl, rfl, rfl, rfl, rfl, rfl, rfl, trivial⟩, hc⟩
        intro a w ⟨hf, hc⟩
        refine cNil ?_
        refine h23 _ _ ?_
        refine cCond (b := t_3) hf rfl (fun hb => ?_) (fun hb => ?_)
        · replace hF := condT hb hF
          clear hb
          refine wp_seq_k fun K24 h24 => ?_
          refine cReg ?_
          refine stP hf rfl rfl rfl (pA rfl) fun a hf => ?_
          refine cNil ?_
          refine h24 _ _ ?_
          refine wp_ret ?_
          refine xThenR ?_
          obtain rfl := Option.some.inj hF
          replace hc := hc.drop k14
          replace hc := hc.drop k13
          replace hc := hc.drop k12
          replace hc := hc.drop k11
          replace hc := hc.drop k10
          replace hc := hc.drop k9
          replace hc := hc.drop k8
          replace hc := hc.drop k7
          replace hc := hc.drop k6
          replace hc := hc.drop k5
          replace hc := hc.drop k4
          replace hc := hc.drop k3
          replace hc := hc.drop k2
          replace hc := hc.drop k1
          replace hc := hc.drop k0
          exact fnOut1 (by simp) rfl Try.results6 hf hc (show look _ 8 = _ from rfl) ⟨rfl, hc⟩
        · replace hF := condF hb hF
          clear hb
          refine wp_skip ?_
          refine h22 _ _ ?_
          refine wp_seq_k fun K25 h25 => ?_
          refine cReg ?_
          refine stP hf rfl rfl rfl (pM rfl) fun a hf => ?_
          refine stP hf rfl rfl rfl (pM rfl) fun a hf => ?_
          obtain ⟨r_15, hr_15, hF⟩ := bnd_some hF
          refine stC (vs := [.pointer (some ⟨b_3, 0, none⟩), .int .i64 (-50), .int .i64 50]) (caps := []) hf rfl rfl rfl en_12 rfl rfl rfl rfl (kit_Stream_Within_ok (⟨errors, r_4.2.1, r_4.2.2⟩ : kit_Stream) (-50) 50 h_errors (hc.pick k12) hr_15) ?_
          rintro _ w ⟨rfl, hc⟩
          refine ⟨_, rfl, fun a hf => ?_⟩
          obtain ⟨r_16, hr_16, hF⟩ := bnd_some hF
          refine stC (vs := [.pointer (some ⟨b_3, 0, none⟩), .int .i64 r_15.1, .int .i64 (-100), .int .i64 100, .int .i64 9]) (caps := []) hf rfl rfl rfl en_17 rfl rfl rfl rfl (law03_Around_ok (⟨errors, r_15.2.1, r_15.2.2⟩ : kit_Stream) r_15.1 (-100) 100 9 h_errors (hc.pick k0) hr_16) ?_
          rintro _ w ⟨rfl, hc⟩
          refine ⟨_, rfl, fun a hf => ?_⟩
          refine stP hf rfl rfl rfl (pM rfl) fun a hf => ?_
          refine stP hf rfl rfl rfl (pM rfl) fun a hf => ?_
          obtain ⟨r_17, hr_17, hF⟩ := bnd_some hF
          refine stC (vs := [.pointer (some ⟨b_3, 0, none⟩), .int .i64 (-50), .int .i64 50]) (caps := []) hf rfl rfl rfl en_12 rfl rfl rfl rfl (kit_Stream_Within_ok (⟨errors, r_16.2.1, r_16.2.2⟩ : kit_Stream) (-50) 50 h_errors (hc.pick k0) hr_17) ?_
          rintro _ w ⟨rfl, hc⟩
          refine ⟨_, rfl, fun a hf => ?_⟩
          obtain ⟨r_18, hr_18, hF⟩ := bnd_some hF
          refine stC (vs := [.pointer (some ⟨b_3, 0, none⟩), .int .i64 r_17.1, .int .i64 (-100), .int .i64 100, .int .i64 9]) (caps := []) hf rfl rfl rfl en_17 rfl rfl rfl rfl (law03_Around_ok (⟨errors, r_17.2.1, r_17.2.2⟩ : kit_Stream) r_17.1 (-100) 100 9 h_errors (hc.pick k0) hr_18) ?_
          rintro _ w ⟨rfl, hc⟩
          refine ⟨_, rfl, fun a hf => ?_⟩
          refine stP hf rfl rfl rfl (pM rfl) fun a hf => ?_
          refine stP hf rfl rfl rfl (pM rfl) fun a hf => ?_
          obtain ⟨r_19, hr_19, hF⟩ := bnd_some hF
          refine stC (vs := [.pointer (some ⟨b_3, 0, none⟩), .int .i64 99]) (caps := []) hf rfl rfl rfl en_16 rfl rfl rfl rfl (kit_Stream_Next_ok (⟨errors, r_18.2.1, r_18.2.2⟩ : kit_Stream) 99 h_errors (hc.pick k0) hr_19) ?_
          rintro _ w ⟨rfl, hc⟩
          refine ⟨_, rfl, fun a hf => ?_⟩
          obtain ⟨r_20, hr_20, hF⟩ := bnd_some hF
          refine stC (vs := [.pointer (some ⟨b_3, 0, none⟩), .int .i64 r_19.1, .int .i64 0, .int .i64 200, .int .i64 9]) (caps := []) hf rfl rfl rfl en_17 rfl rfl rfl rfl (law03_Around_ok (⟨errors, r_19.2.1, r_19.2.2⟩ : kit_Stream) r_19.1 0 200 9 h_errors (hc.pick k0) hr_20) ?_
          rintro _ w ⟨rfl, hc⟩
          refine ⟨_, rfl, fun a hf => ?_⟩
          refine stP hf rfl rfl rfl (pM rfl) fun a hf => ?_
          refine stP hf rfl rfl rfl (pM rfl) fun a hf => ?_
          obtain ⟨r_21, hr_21, hF⟩ := bnd_some hF
          refine stC (vs := [.pointer (some ⟨b_3, 0, none⟩), .int .i64 (-99), .int .i64 99]) (caps := []) hf rfl rfl rfl en_12 rfl rfl rfl rfl (kit_Stream_Within_ok (⟨errors, r_20.2.1, r_20.2.2⟩ : kit_Stream) (-99) 99 h_errors (hc.pick k0) hr_21) ?_
          rintro _ w ⟨rfl, hc⟩
          refine ⟨_, rfl, fun a hf => ?_⟩
          obtain ⟨r_22, hr_22, hF⟩ := bnd_some hF
          refine stC (vs := [.pointer (some ⟨b_3, 0, none⟩), .int .i64 r_21.1, .int .i64 (-200), .int .i64 200, .int .i64 9]) (caps := []) hf rfl rfl rfl en_17 rfl rfl rfl rfl (law03_Around_ok (⟨errors, r_21.2.1, r_21.2.2⟩ : kit_Stream) r_21.1 (-200) 200 9 h_errors (hc.pick k0) hr_22) ?_
          rintro _ w ⟨rfl, hc⟩
          refine ⟨_, rfl, fun a hf => ?_⟩
          refine stP hf rfl rfl rfl (pM rfl) fun a hf => ?_
          refine stP hf rfl rfl rfl (pM rfl) fun a hf => ?_
          obtain ⟨r_23, hr_23, hF⟩ := bnd_some hF
          refine stC (vs := [.pointer (some ⟨b_3, 0, none⟩), .int .i64 (-99), .int .i64 99]) (caps := []) hf rfl rfl rfl en_12 rfl rfl rfl rfl (kit_Stream_Within_ok (⟨errors, r_22.2.1, r_22.2.2⟩ : kit_Stream) (-99) 99 h_errors (hc.pick k0) hr_23) ?_
          rintro _ w ⟨rfl, hc⟩
          refine ⟨_, rfl, fun a hf => ?_⟩
          obtain ⟨r_24, hr_24, hF⟩ := bnd_some hF
          refine stC (vs := [.pointer (some ⟨b_3, 0, none⟩), .int .i64 r_23.1, .int .i64 (-200), .int .i64 200, .int .i64 9]) (caps := []) hf rfl rfl rfl en_17 rfl rfl rfl rfl (law03_Around_ok (⟨errors, r_23.2.1, r_23.2.2⟩ : kit_Stream) r_23.1 (-200) 200 9 h_errors (hc.pick k0) hr_24) ?_
          rintro _ w ⟨rfl, hc⟩
          refine ⟨_, rfl, fun a hf => ?_⟩
          refine stP hf rfl rfl rfl (pBuildS (cells := [.int .i64 r_16.1.Lo, .int .i64 r_16.1.Hi, .int .i64 r_18.1.Lo, .int .i64 r_18.1.Hi, .int .i64 r_20.1.Lo, .int .i64 r_20.1.Hi, .int .i64 r_22.1.Lo, .int .i64 r_22.1.Hi, .int .i64 r_24.1.Lo, .int .i64 r_24.1.Hi]) bt_40 rfl rfl) fun a hf => ?_
          refine stAl (cs := [.int .i64 0, .int .i64 0, .int .i64 0, .int .i64 0, .int .i64 0, .int .i64 0, .int .i64 0, .int .i64 0, .int .i64 0, .int .i64 0]) hf hc rfl rfl zr_40 rfl fun b_11 a w hf hc => ?_
          refine stSt (vs := [.int .i64 r_16.1.Lo, .int .i64 r_16.1.Hi, .int .i64 r_18.1.Lo, .int .i64 r_18.1.Hi, .int .i64 r_20.1.Lo, .int .i64 r_20.1.Hi, .int .i64 r_22.1.Lo, .int .i64 r_22.1.Hi, .int .i64 r_24.1.Lo, .int .i64 r_24.1.Hi]) hf hc rfl rfl rfl rfl sz_40 rfl rfl u0 fun w hc => ?_
          refine cNil ?_
          refine h25 _ _ ?_
          refine wp_seq_k fun K26 h26 => ?_
          obtain ⟨r_25, hr_25, hF⟩ := bnd_some hF
          obtain ⟨r_26, hr_26, hF⟩ := bnd_some hF
          obtain ⟨r_27, hr_27, hF⟩ := bnd_some hF
          obtain ⟨r_28, hr_28, hF⟩ := bnd_some hF
          obtain ⟨r_29, hr_29, hF⟩ := bnd_some hF
          replace hc := hc.nilRow 0 0
          refine regionE (fun θ => [⟨none, none, 10, .pointer (some ⟨b_3, 0, none⟩)⟩, ⟨none, none, 13, .func (.func 30) #[] #[.pointer (some ⟨b_5, 0, none⟩)]⟩, ⟨none, none, 21, .pointer (some ⟨b_8, 0, none⟩)⟩, ⟨none, none, 23, .pointer (some ⟨b_9, 0, none⟩)⟩, ⟨none, none, 30, .pointer (some ⟨b_11, 0, none⟩)⟩, ⟨some 0, none, 228, .func (.func 30) #[] #[.pointer (some ⟨b_5, 0, none⟩)]⟩, ⟨some 1, none, 229, .pointer (some ⟨b_11, 0, none⟩)⟩, ⟨some 2, none, 230, .agg #[.int .i64 r_16.1.Lo, .int .i64 r_16.1.Hi]⟩, ⟨some 3, none, 231, .agg #[.int .i64 r_25.1.Lo, .int .i64 r_25.1.Hi]⟩, ⟨some 4, none, 232, .func (.func 30) #[] #[.pointer (some ⟨b_5, 0, none⟩)]⟩, ⟨some 5, none, 233, .pointer (some ⟨b_11, 2, none⟩)⟩, ⟨some 6, none, 234, .agg #[.int .i64 r_18.1.Lo, .int .i64 r_18.1.Hi]⟩, ⟨some 7, none, 235, .agg #[.int .i64 r_26.1.Lo, .int .i64 r_26.1.Hi]⟩, ⟨some 8, none, 236, .func (.func 30) #[] #[.pointer (some ⟨b_5, 0, none⟩)]⟩, ⟨some 9, none, 237, .pointer (some ⟨b_11, 4, none⟩)⟩, ⟨some 10, none, 238, .agg #[.int .i64 r_20.1.Lo, .int .i64 r_20.1.Hi]⟩, ⟨some 11, none, 239, .agg #[.int .i64 r_27.1.Lo, .int .i64 r_27.1.Hi]⟩, ⟨some 12, none, 240, .func (.func 30) #[] #[.pointer (some ⟨b_5, 0, none⟩)]⟩, ⟨some 13, none, 241, .pointer (some ⟨b_11, 6, none⟩)⟩, ⟨some 14, none, 242, .agg #[.int .i64 r_22.1.Lo, .int .i64 r_22.1.Hi]⟩, ⟨some 15, none, 243, .agg #[.int .i64 r_28.1.Lo, .int .i64 r_28.1.Hi]⟩, ⟨some 16, none, 244, .func (.func 30) #[] #[.pointer (some ⟨b_5, 0, none⟩)]⟩, ⟨some 17, none, 245, .pointer (some ⟨b_11, 8, none⟩)⟩, ⟨some 18, none, 246, .agg #[.int .i64 r_24.1.Lo, .int .i64 r_24.1.Hi]⟩, ⟨some 19, none, 247, .agg #[.int .i64 r_29.1.Lo, .int .i64 r_29.1.Hi]⟩, ⟨some 20, none, 248, .agg #[.int .i64 r_25.1.Lo, .int .i64 r_25.1.Hi, .int .i64 r_26.1.Lo, .int .i64 r_26.1.Hi, .int .i64 r_27.1.Lo, .int .i64 r_27.1.Hi, .int .i64 r_28.1.Lo, .int .i64 r_28.1.Hi, .int .i64 r_29.1.Lo, .int .i64 r_29.1.Hi]⟩, ⟨some 21, none, 31, .pointer (some ⟨(θ 168).b, 0, none⟩)⟩]) (fun E θ => (bif E 22 then .box (θ 168).b [.int .i64 r_25.1.Lo, .int .i64 r_25.1.Hi, .int .i64 r_26.1.Lo, .int .i64 r_26.1.Hi, .int .i64 r_27.1.Lo, .int .i64 r_27.1.Hi, .int .i64 r_28.1.Lo, .int .i64 r_28.1.Hi, .int .i64 r_29.1.Lo, .int .i64 r_29.1.Hi] 40 else bif E 21 then .box (θ 168).b [.int .i64 0, .int .i64 0, .int .i64 0, .int .i64 0, .int .i64 0, .int .i64 0, .int .i64 0, .int .i64 0, .int .i64 0, .int .i64 0] 40 else .row none 0 [] 0 0) :: .box b_11 [.int .i64 r_16.1.Lo, .int .i64 r_16.1.Hi, .int .i64 r_18.1.Lo, .int .i64 r_18.1.Hi, .int .i64 r_20.1.Lo, .int .i64 r_20.1.Hi, .int .i64 r_22.1.Lo, .int .i64 r_22.1.Hi, .int .i64 r_24.1.Lo, .int .i64 r_24.1.Hi] 40 :: .box b_3 [.slice errors_p errors.length errors_c, .int .i64 r_24.2.1, .int .i64 r_24.2.2] 104 :: .row p_6 c_6 (x.map enc_gauge_Vertical) 61 5 :: .row p_13 c_13 (r_11.1.map encI_i64) 3 1 :: .row p_14 c_14 (r_11.2.1.map encI_i64) 3 1 :: .row p_4 c_4 (r_4.1.Verticals.map enc_gauge_Vertical) 61 5 :: .row p_11 c_11 (r_10.1.map encI_i64) 3 1 :: .row p_12 c_12 (r_10.2.1.map encI_i64) 3 1 :: .box b_9 [.int .i64 r_9.1.Lo, .int .i64 r_9.1.Hi] 24 :: .box b_8 [.int .i64 r_8.1.Lo, .int .i64 r_8.1.Hi] 24 :: .row p_10 c_10 (b_10.map enc_api_Span) 24 2 :: .row p_9 c_9 (a_1.map enc_api_Span) 24 2 :: .box b_7 [.int .i64 r_5.Left, .int .i64 r_5.Right, .slice p_6 x.length c_6] 48 :: .box b_6 [.int .i64 r_4.1.Left, .int .i64 r_4.1.Right, .slice p_4 r_4.1.Verticals.length c_4] 48 :: .box b_5 [.pointer (some ⟨b_4, 0, none⟩)] 28 :: (bif E 19 then .box b_4 [.slice better_p better.length better_c, .int .i64 r_29.2.1, .int .i64 r_29.2.2] 104 else bif E 15 then .box b_4 [.slice better_p better.length better_c, .int .i64 r_28.2.1, .int .i64 r_28.2.2] 104 else bif E 11 then .box b_4 [.slice better_p better.length better_c, .int .i64 r_27.2.1, .int .i64 r_27.2.2] 104 else bif E 7 then .box b_4 [.slice better_p better.length better_c, .int .i64 r_26.2.1, .int .i64 r_26.2.2] 104 else bif E 3 then .box b_4 [.slice better_p better.length better_c, .int .i64 r_25.2.1, .int .i64 r_25.2.2] 104 else .box b_4 [.slice better_p better.length better_c, .int .i64 x_2, .int .i64 x_3] 104) :: Lf) [(7, 3), (11, 7), (15, 11), (19, 15), (22, 21)] (fun a w => ∃ (b_13 : Nat), Has 335 a [(10, .pointer (some ⟨b_3, 0, none⟩)), (13, .func (.func 30) #[] #[.pointer (some ⟨b_5, 0, none⟩)]), (21, .pointer (some ⟨b_8, 0, none⟩)), (23, .pointer (some ⟨b_9, 0, none⟩)), (30, .pointer (some ⟨b_11, 0, none⟩)), (31, .pointer (some ⟨b_13, 0, none⟩))] ∧ Ctx G (.box b_13 [.int .i64 r_25.1.Lo, .int .i64 r_25.1.Hi, .int .i64 r_26.1.Lo, .int .i64 r_26.1.Hi, .int .i64 r_27.1.Lo, .int .i64 r_27.1.Hi, .int .i64 r_28.1.Lo, .int .i64 r_28.1.Hi, .int .i64 r_29.1.Lo, .int .i64 r_29.1.Hi] 40 :: .box b_11 [.int .i64 r_16.1.Lo, .int .i64 r_16.1.Hi, .int .i64 r_18.1.Lo, .int .i64 r_18.1.Hi, .int .i64 r_20.1.Lo, .int .i64 r_20.1.Hi, .int .i64 r_22.1.Lo, .int .i64 r_22.1.Hi, .int .i64 r_24.1.Lo, .int .i64 r_24.1.Hi] 40 :: .box b_3 [.slice errors_p errors.length errors_c, .int .i64 r_24.2.1, .int .i64 r_24.2.2] 104 :: .row p_6 c_6 (x.map enc_gauge_Vertical) 61 5 :: .row p_13 c_13 (r_11.1.map encI_i64) 3 1 :: .row p_14 c_14 (r_11.2.1.map encI_i64) 3 1 :: .row p_4 c_4 (r_4.1.Verticals.map enc_gauge_Vertical) 61 5 :: .row p_11 c_11 (r_10.1.map encI_i64) 3 1 :: .row p_12 c_12 (r_10.2.1.map encI_i64) 3 1 :: .box b_9 [.int .i64 r_9.1.Lo, .int .i64 r_9.1.Hi] 24 :: .box b_8 [.int .i64 r_8.1.Lo, .int .i64 r_8.1.Hi] 24 :: .row p_10 c_10 (b_10.map enc_api_Span) 24 2 :: .row p_9 c_9 (a_1.map enc_api_Span) 24 2 :: .box b_7 [.int .i64 r_5.Left, .int .i64 r_5.Right, .slice p_6 x.length c_6] 48 :: .box b_6 [.int .i64 r_4.1.Left, .int .i64 r_4.1.Right, .slice p_4 r_4.1.Verticals.length c_4] 48 :: .box b_5 [.pointer (some ⟨b_4, 0, none⟩)] 28 :: .box b_4 [.slice better_p better.length better_c, .int .i64 r_29.2.1, .int .i64 r_29.2.2] 104 :: Lf) w) follows_mx (by kernel_rfl) (by kernel_rfl) (HasE.of hf ⟨rfl, rfl, rfl, rfl, rfl, trivial, trivial, trivial, trivial, trivial, trivial, trivial, trivial, trivial, trivial, trivial, trivial, trivial, trivial, trivial, trivial, trivial, trivial, trivial, trivial, trivial, trivial, trivial⟩) hc ⟨?_, ?_, ?_, ?_, ?_, ?_, ?_, ?_, ?_, ?_, ?_, ?_, ?_, ?_, ?_, ?_, ?_, ?_, ?_, ?_, ?_, ?_, ?_, trivial⟩ ?_ ?_
          · intro E θ a w hD hi hp he hc
            have hf := he.h0
            replace hf := hf.more he 1 rfl onT
            refine stP hf rfl rfl rfl (pM rfl) fun a hf => ?_
            refine cNil ?_
            refine xThenN ?_
            intro ds u hau
            refine ⟨θ, he.put0 hi hau hf rfl 5 rfl rfl, ?_⟩
            exact hc
          · intro E θ a w hD hi hp he hc
            have hf := he.h0
            replace hf := hf.more he 4 rfl onT
            refine stP hf rfl rfl rfl (pFA fa_40_0 rfl) fun a hf => ?_
            refine cNil ?_
            refine xThenN ?_
            intro ds u hau
            refine ⟨θ, he.put0 hi hau hf rfl 6 rfl rfl, ?_⟩
            exact hc
          · intro E θ a w hD hi hp he hc
            have e1 := hp.of (k := 1) rfl
            have hf := he.h0
            replace hf := hf.more he 6 rfl (onP e1)
            refine stE hf hc rfl rfl rfl (eLdN (vs := [.int .i64 r_16.1.Lo, .int .i64 r_16.1.Hi]) ag_24 rfl rfl (cells_box (n := 2) m1 rfl)) fun a w hf hc => ?_
            refine cNil ?_
            refine xThenN ?_
            intro ds u hau
            refine ⟨θ, he.put0 hi hau hf rfl 7 rfl rfl, ?_⟩
            exact hc
          · intro E θ a w hD hi hp he hc
            have e0 := hp.of (k := 0) rfl
            have e2 := hp.of (k := 2) rfl
            have e7 := hD.f 0 rfl hi
            have e11 := hD.f 1 rfl e7
            have e15 := hD.f 2 rfl e11
            have e19 := hD.f 3 rfl e15
            try dsimp only at hc
            rw [hi, e7, e11, e15, e19] at hc
            have hf := he.h0
            replace hf := hf.more he 5 rfl (onP e0)
            replace hf := hf.more he 7 rfl (onP e2)
            refine stC (vs := [.agg #[.int .i64 r_16.1.Lo, .int .i64 r_16.1.Hi]]) (caps := [.pointer (some ⟨b_5, 0, none⟩)]) hf rfl rfl rfl en_30 rfl rfl rfl rfl (law03_GaugeBetter_1_ok r_16.1 (⟨better, x_2, x_3⟩ : kit_Stream) h_better ((hc.pick k16).pick k16) hr_25) ?_
            rintro _ w ⟨rfl, hc⟩
            refine ⟨_, rfl, fun a hf => ?_⟩
            refine cNil ?_
            refine xThenN ?_
            intro ds u hau
            replace hc := hc.pick k1
            replace hc := hc.pick k1
            replace hc := hc.pick k16
            replace hc := hc.pick k16
            replace hc := hc.pick k16
            replace hc := hc.pick k16
            replace hc := hc.pick k16
            replace hc := hc.pick k16
            replace hc := hc.pick k16
            replace hc := hc.pick k16
            replace hc := hc.pick k16
            replace hc := hc.pick k16
            replace hc := hc.pick k16
            replace hc := hc.pick k16
            replace hc := hc.pick k16
            replace hc := hc.pick k16
            replace hc := hc.pick k16
            refine ⟨θ, he.put0 hi hau hf rfl 8 rfl rfl, ?_⟩
            try dsimp only
            rw [updE_self E 3, updE_fls 3 e7 rfl, updE_fls 3 e11 rfl, updE_fls 3 e15 rfl, updE_fls 3 e19 rfl]
            exact hc
          · intro E θ a w hD hi hp he hc
            have hf := he.h0
            replace hf := hf.more he 1 rfl onT
            refine stP hf rfl rfl rfl (pM rfl) fun a hf => ?_
            refine cNil ?_
            refine xThenN ?_
            intro ds u hau
            refine ⟨θ, he.put0 hi hau hf rfl 9 rfl rfl, ?_⟩
            exact hc
          · intro E θ a w hD hi hp he hc
            have hf := he.h0
            replace hf := hf.more he 4 rfl onT
            refine stP hf rfl rfl rfl (pFA fa_40_1 rfl) fun a hf => ?_
            refine cNil ?_
            refine xThenN ?_
            intro ds u hau
            refine ⟨θ, he.put0 hi hau hf rfl 10 rfl rfl, ?_⟩
            exact hc
          · intro E θ a w hD hi hp he hc
            have e5 := hp.of (k := 5) rfl
            have hf := he.h0
            replace hf := hf.more he 10 rfl (onP e5)
            refine stE hf hc rfl rfl rfl (eLdN (vs := [.int .i64 r_18.1.Lo, .int .i64 r_18.1.Hi]) ag_24 rfl rfl (cells_box (n := 2) m1 rfl)) fun a w hf hc => ?_
            refine cNil ?_
            refine xThenN ?_
            intro ds u hau
            refine ⟨θ, he.put0 hi hau hf rfl 11 rfl rfl, ?_⟩
            exact hc
          · intro E θ a w hD hi hp he hc
            have e4 := hp.of (k := 4) rfl
            have e6 := hp.of (k := 6) rfl
            have e3 := hp.of (k := 3) rfl
            have e11 := hD.f 1 rfl hi
            have e15 := hD.f 2 rfl e11
            have e19 := hD.f 3 rfl e15
            try dsimp only at hc
            rw [e3, hi, e11, e15, e19] at hc
            have hf := he.h0
            replace hf := hf.more he 9 rfl (onP e4)
            replace hf := hf.more he 11 rfl (onP e6)
            refine stC (vs := [.agg #[.int .i64 r_18.1.Lo, .int .i64 r_18.1.Hi]]) (caps := [.pointer (some ⟨b_5, 0, none⟩)]) hf rfl rfl rfl en_30 rfl rfl rfl rfl (law03_GaugeBetter_1_ok r_18.1 (⟨better, r_25.2.1, r_25.2.2⟩ : kit_Stream) h_better ((hc.pick k16).pick k16) hr_26) ?_
            rintro _ w ⟨rfl, hc⟩
            refine ⟨_, rfl, fun a hf => ?_⟩
            refine cNil ?_
            refine xThenN ?_
            intro ds u hau
            replace hc := hc.pick k1
            replace hc := hc.pick k1
            replace hc := hc.pick k16
            replace hc := hc.pick k16
            replace hc := hc.pick k16
            replace hc := hc.pick k16
            replace hc := hc.pick k16
            replace hc := hc.pick k16
            replace hc := hc.pick k16
            replace hc := hc.pick k16
            replace hc := hc.pick k16
            replace hc := hc.pick k16
            replace hc := hc.pick k16
            replace hc := hc.pick k16
            replace hc := hc.pick k16
            replace hc := hc.pick k16
            replace hc := hc.pick k16
            refine ⟨θ, he.put0 hi hau hf rfl 12 rfl rfl, ?_⟩
            try dsimp only
            rw [updE_tru 7 e3, updE_self E 7, updE_fls 7 e11 rfl, updE_fls 7 e15 rfl, updE_fls 7 e19 rfl]
            exact hc
          · intro E θ a w hD hi hp he hc
            have hf := he.h0
            replace hf := hf.more he 1 rfl onT
            refine stP hf rfl rfl rfl (pM rfl) fun a hf => ?_
            refine cNil ?_
            refine xThenN ?_
            intro ds u hau
            refine ⟨θ, he.put0 hi hau hf rfl 13 rfl rfl, ?_⟩
            exact hc
          · intro E θ a w hD hi hp he hc
            have hf := he.h0
            replace hf := hf.more he 4 rfl onT
            refine stP hf rfl rfl rfl (pFA fa_40_2 rfl) fun a hf => ?_
            refine cNil ?_
            refine xThenN ?_
            intro ds u hau
            refine ⟨θ, he.put0 hi hau hf rfl 14 rfl rfl, ?_⟩
            exact hc
          · intro E θ a w hD hi hp he hc
            have e9 := hp.of (k := 9) rfl
            have hf := he.h0
            replace hf := hf.more he 14 rfl (onP e9)
            refine stE hf hc rfl rfl rfl (eLdN (vs := [.int .i64 r_20.1.Lo, .int .i64 r_20.1.Hi]) ag_24 rfl rfl (cells_box (n := 2) m1 rfl)) fun a w hf hc => ?_
            refine cNil ?_
            refine xThenN ?_
            intro ds u hau
            refine ⟨θ, he.put0 hi hau hf rfl 15 rfl rfl, ?_⟩
            exact hc
          · intro E θ a w hD hi hp he hc
            have e8 := hp.of (k := 8) rfl
            have e10 := hp.of (k := 10) rfl
            have e7 := hp.of (k := 7) rfl
            have e3 := hD.t 0 rfl e7
            have e15 := hD.f 2 rfl hi
            have e19 := hD.f 3 rfl e15
            try dsimp only at hc
            rw [e3, e7, hi, e15, e19] at hc
            have hf := he.h0
            replace hf := hf.more he 13 rfl (onP e8)
            replace hf := hf.more he 15 rfl (onP e10)
            refine stC (vs := [.agg #[.int .i64 r_20.1.Lo, .int .i64 r_20.1.Hi]]) (caps := [.pointer (some ⟨b_5, 0, none⟩)]) hf rfl rfl rfl en_30 rfl rfl rfl rfl (law03_GaugeBetter_1_ok r_20.1 (⟨better, r_26.2.1, r_26.2.2⟩ : kit_Stream) h_better ((hc.pick k16).pick k16) hr_27) ?_
            rintro _ w ⟨rfl, hc⟩
            refine ⟨_, rfl, fun a hf => ?_⟩
            refine cNil ?_
            refine xThenN ?_
            intro ds u hau
            replace hc := hc.pick k1
            replace hc := hc.pick k1
            replace hc := hc.pick k16
            replace hc := hc.pick k16
            replace hc := hc.pick k16
            replace hc := hc.pick k16
            replace hc := hc.pick k16
            replace hc := hc.pick k16
            replace hc := hc.pick k16
            replace hc := hc.pick k16
            replace hc := hc.pick k16
            replace hc := hc.pick k16
            replace hc := hc.pick k16
            replace hc := hc.pick k16
            replace hc := hc.pick k16
            replace hc := hc.pick k16
            replace hc := hc.pick k16
            refine ⟨θ, he.put0 hi hau hf rfl 16 rfl rfl, ?_⟩
            try dsimp only
            rw [updE_tru 11 e3, updE_tru 11 e7, updE_self E 11, updE_fls 11 e15 rfl, updE_fls 11 e19 rfl]
            exact hc
          · intro E θ a w hD hi hp he hc
            have hf := he.h0
            replace hf := hf.more he 1 rfl onT
            refine stP hf rfl rfl rfl (pM rfl) fun a hf => ?_
            refine cNil ?_
            refine xThenN ?_
            intro ds u hau
            refine ⟨θ, he.put0 hi hau hf rfl 17 rfl rfl, ?_⟩
            exact hc
          · intro E θ a w hD hi hp he hc
            have hf := he.h0
            replace hf := hf.more he 4 rfl onT
            refine stP hf rfl rfl rfl (pFA fa_40_3 rfl) fun a hf => ?_
            refine cNil ?_
            refine xThenN ?_
            intro ds u hau
            refine ⟨θ, he.put0 hi hau hf rfl 18 rfl rfl, ?_⟩
            exact hc
          · intro E θ a w hD hi hp he hc
            have e13 := hp.of (k := 13) rfl
            have hf := he.h0
            replace hf := hf.more he 18 rfl (onP e13)
            refine stE hf hc rfl rfl rfl (eLdN (vs := [.int .i64 r_22.1.Lo, .int .i64 r_22.1.Hi]) ag_24 rfl rfl (cells_box (n := 2) m1 rfl)) fun a w hf hc => ?_
            refine cNil ?_
            refine xThenN ?_
            intro ds u hau
            refine ⟨θ, he.put0 hi hau hf rfl 19 rfl rfl, ?_⟩
            exact hc
          · intro E θ a w hD hi hp he hc
            have e12 := hp.of (k := 12) rfl
            have e14 := hp.of (k := 14) rfl
            have e11 := hp.of (k := 11) rfl
            have e7 := hD.t 1 rfl e11
            have e3 := hD.t 0 rfl e7
            have e19 := hD.f 3 rfl hi
            try dsimp only at hc
            rw [e3, e7, e11, hi, e19] at hc
            have hf := he.h0
            replace hf := hf.more he 17 rfl (onP e12)
            replace hf := hf.more he 19 rfl (onP e14)
            refine stC (vs := [.agg #[.int .i64 r_22.1.Lo, .int .i64 r_22.1.Hi]]) (caps := [.pointer (some ⟨b_5, 0, none⟩)]) hf rfl rfl rfl en_30 rfl rfl rfl rfl (law03_GaugeBetter_1_ok r_22.1 (⟨better, r_27.2.1, r_27.2.2⟩ : kit_Stream) h_better ((hc.pick k16).pick k16) hr_28) ?_
            rintro _ w ⟨rfl, hc⟩
            refine ⟨_, rfl, fun a hf => ?_⟩
            refine cNil ?_
            refine xThenN ?_
            intro ds u hau
            replace hc := hc.pick k1
            replace hc := hc.pick k1
            replace hc := hc.pick k16
            replace hc := hc.pick k16
            replace hc := hc.pick k16
            replace hc := hc.pick k16
            replace hc := hc.pick k16
            replace hc := hc.pick k16
            replace hc := hc.pick k16
            replace hc := hc.pick k16
            replace hc := hc.pick k16
            replace hc := hc.pick k16
            replace hc := hc.pick k16
            replace hc := hc.pick k16
            replace hc := hc.pick k16
            replace hc := hc.pick k16
            replace hc := hc.pick k16
            refine ⟨θ, he.put0 hi hau hf rfl 20 rfl rfl, ?_⟩
            try dsimp only
            rw [updE_tru 15 e3, updE_tru 15 e7, updE_tru 15 e11, updE_self E 15, updE_fls 15 e19 rfl]
            exact hc
          · intro E θ a w hD hi hp he hc
            have hf := he.h0
            replace hf := hf.more he 1 rfl onT
            refine stP hf rfl rfl rfl (pM rfl) fun a hf => ?_
            refine cNil ?_
            refine xThenN ?_
            intro ds u hau
            refine ⟨θ, he.put0 hi hau hf rfl 21 rfl rfl, ?_⟩
            exact hc
          · intro E θ a w hD hi hp he hc
            have hf := he.h0
            replace hf := hf.more he 4 rfl onT
            refine stP hf rfl rfl rfl (pFA fa_40_4 rfl) fun a hf => ?_
            refine cNil ?_
            refine xThenN ?_
            intro ds u hau
            refine ⟨θ, he.put0 hi hau hf rfl 22 rfl rfl, ?_⟩
            exact hc
          · intro E θ a w hD hi hp he hc
            have e17 := hp.of (k := 17) rfl
            have hf := he.h0
            replace hf := hf.more he 22 rfl (onP e17)
            refine stE hf hc rfl rfl rfl (eLdN (vs := [.int .i64 r_24.1.Lo, .int .i64 r_24.1.Hi]) ag_24 rfl rfl (cells_box (n := 2) m1 rfl)) fun a w hf hc => ?_
            refine cNil ?_
            refine xThenN ?_
            intro ds u hau
            refine ⟨θ, he.put0 hi hau hf rfl 23 rfl rfl, ?_⟩
            exact hc
          · intro E θ a w hD hi hp he hc
            have e16 := hp.of (k := 16) rfl
            have e18 := hp.of (k := 18) rfl
            have e15 := hp.of (k := 15) rfl
            have e11 := hD.t 2 rfl e15
            have e7 := hD.t 1 rfl e11
            have e3 := hD.t 0 rfl e7
            try dsimp only at hc
            rw [e3, e7, e11, e15, hi] at hc
            have hf := he.h0
            replace hf := hf.more he 21 rfl (onP e16)
            replace hf := hf.more he 23 rfl (onP e18)
            refine stC (vs := [.agg #[.int .i64 r_24.1.Lo, .int .i64 r_24.1.Hi]]) (caps := [.pointer (some ⟨b_5, 0, none⟩)]) hf rfl rfl rfl en_30 rfl rfl rfl rfl (law03_GaugeBetter_1_ok r_24.1 (⟨better, r_28.2.1, r_28.2.2⟩ : kit_Stream) h_better ((hc.pick k16).pick k16) hr_29) ?_
            rintro _ w ⟨rfl, hc⟩
            refine ⟨_, rfl, fun a hf => ?_⟩
            refine cNil ?_
            refine xThenN ?_
            intro ds u hau
            replace hc := hc.pick k1
            replace hc := hc.pick k1
            replace hc := hc.pick k16
            replace hc := hc.pick k16
            replace hc := hc.pick k16
            replace hc := hc.pick k16
            replace hc := hc.pick k16
            replace hc := hc.pick k16
            replace hc := hc.pick k16
            replace hc := hc.pick k16
            replace hc := hc.pick k16
            replace hc := hc.pick k16
            replace hc := hc.pick k16
            replace hc := hc.pick k16
            replace hc := hc.pick k16
            replace hc := hc.pick k16
            replace hc := hc.pick k16
            refine ⟨θ, he.put0 hi hau hf rfl 24 rfl rfl, ?_⟩
            try dsimp only
            rw [updE_tru 19 e3, updE_tru 19 e7, updE_tru 19 e11, updE_tru 19 e15, updE_self E 19]
            exact hc
          · intro E θ a w hD hi hp he hc
            have e3 := hp.of (k := 3) rfl
            have e7 := hp.of (k := 7) rfl
            have e11 := hp.of (k := 11) rfl
            have e15 := hp.of (k := 15) rfl
            have e19 := hp.of (k := 19) rfl
            have hf := he.h0
            replace hf := hf.more he 8 rfl (onP e3)
            replace hf := hf.more he 12 rfl (onP e7)
            replace hf := hf.more he 16 rfl (onP e11)
            replace hf := hf.more he 20 rfl (onP e15)
            replace hf := hf.more he 24 rfl (onP e19)
            refine stP hf rfl rfl rfl (pBuildS (cells := [.int .i64 r_25.1.Lo, .int .i64 r_25.1.Hi, .int .i64 r_26.1.Lo, .int .i64 r_26.1.Hi, .int .i64 r_27.1.Lo, .int .i64 r_27.1.Hi, .int .i64 r_28.1.Lo, .int .i64 r_28.1.Hi, .int .i64 r_29.1.Lo, .int .i64 r_29.1.Hi]) bt_40 rfl rfl) fun a hf => ?_
            refine cNil ?_
            refine xThenN ?_
            intro ds u hau
            refine ⟨θ, he.put0 hi hau hf rfl 25 rfl rfl, ?_⟩
            exact hc
          · intro E θ a w hD hi hp he hc
            have e22 := hD.f 4 rfl hi
            try dsimp only at hc
            rw [hi, e22] at hc
            have hf := he.h0
            refine stAl (cs := [.int .i64 0, .int .i64 0, .int .i64 0, .int .i64 0, .int .i64 0, .int .i64 0, .int .i64 0, .int .i64 0, .int .i64 0, .int .i64 0]) hf hc rfl rfl zr_40 rfl fun b_12 a w hf hc => ?_
            refine cNil ?_
            refine xThenN ?_
            intro ds u hau
            replace hc := hc.drop k1
            refine ⟨(setT θ 168 ⟨b_12, none, 0⟩), he.put hi hau hf rfl [] trivial ⟨qq, qq, qq, qq, qq, qq, qq, qq, qq, qq, qq, qq, qq, qq, qq, qq, qq, qq, qq, qq, qq, qq, qq, qq, qq, qq, qq, trivial⟩, ?_⟩
            try dsimp only
            rw [updE_self E 21, updE_fls 21 e22 rfl]
            exact hc
          · intro E θ a w hD hi hp he hc
            have e20 := hp.of (k := 20) rfl
            have e21 := hp.of (k := 21) rfl
            try dsimp only at hc
            rw [e21, hi] at hc
            have hf := he.h0
            replace hf := hf.more he 25 rfl (onP e20)
            replace hf := hf.more he 26 rfl (onP e21)
            refine stSt (vs := [.int .i64 r_25.1.Lo, .int .i64 r_25.1.Hi, .int .i64 r_26.1.Lo, .int .i64 r_26.1.Hi, .int .i64 r_27.1.Lo, .int .i64 r_27.1.Hi, .int .i64 r_28.1.Lo, .int .i64 r_28.1.Hi, .int .i64 r_29.1.Lo, .int .i64 r_29.1.Hi]) hf hc rfl rfl rfl rfl sz_40 rfl rfl u0 fun w hc => ?_
            refine cNil ?_
            refine xThenN ?_
            intro ds u hau
            refine ⟨θ, he.stay0 hi hau hf rfl, ?_⟩
            try dsimp only
            rw [updE_tru 22 e21, updE_self E 22]
            exact hc
          · intro E θ a w hall he hc
            have hf := he.h0
            have e3 := hall 3 rfl
            have e7 := hall 7 rfl
            have e11 := hall 11 rfl
            have e15 := hall 15 rfl
            have e19 := hall 19 rfl
            have e21 := hall 21 rfl
            have e22 := hall 22 rfl
            replace hf := hf.more he 26 rfl (onP e21)
            replace hf := hf.more he 4 rfl (onT)
            replace hf := hf.more he 3 rfl (onT)
            replace hf := hf.more he 2 rfl (onT)
            replace hf := hf.more he 1 rfl (onT)
            replace hf := hf.more he 0 rfl (onT)
            try dsimp only at hc
            rw [e3, e7, e11, e15, e19, e21, e22] at hc
            exact ⟨(θ 168).b, hf.keep ⟨rfl, rfl, rfl, rfl, rfl, rfl, trivial⟩, hc⟩
          rintro a w ⟨b_13, hf, hc⟩
          refine h26 _ _ ?_
          refine wp_seq_k fun K27 h27 => ?_
          refine cReg ?_
          refine stE hf hc rfl rfl rfl (eLdN (vs := [.int .i64 r_16.1.Lo, .int .i64 r_16.1.Hi, .int .i64 r_18.1.Lo, .int .i64 r_18.1.Hi, .int .i64 r_20.1.Lo, .int .i64 r_20.1.Hi, .int .i64 r_22.1.Lo, .int .i64 r_22.1.Hi, .int .i64 r_24.1.Lo, .int .i64 r_24.1.Hi]) ag_40 rfl rfl (cells_box (n := 10) m1 rfl)) fun a w hf hc => ?_
          refine stE hf hc rfl rfl rfl (eLdN (vs := [.int .i64 r_16.1.Lo, .int .i64 r_16.1.Hi, .int .i64 r_18.1.Lo, .int .i64 r_18.1.Hi, .int .i64 r_20.1.Lo, .int .i64 r_20.1.Hi, .int .i64 r_22.1.Lo, .int .i64 r_22.1.Hi, .int .i64 r_24.1.Lo, .int .i64 r_24.1.Hi]) ag_40 rfl rfl (cells_box (n := 10) m1 rfl)) fun a w hf hc => ?_
          refine stBS (rows := ([(⟨r_16.1, r_18.1, r_20.1, r_22.1, r_24.1⟩ : gauge_Leg), (⟨r_16.1, r_18.1, r_20.1, r_22.1, r_24.1⟩ : gauge_Leg)] : List gauge_Leg).map enc_gauge_Leg) (vs := [(0, .agg #[.int .i64 r_16.1.Lo, .int .i64 r_16.1.Hi, .int .i64 r_18.1.Lo, .int .i64 r_18.1.Hi, .int .i64 r_20.1.Lo, .int .i64 r_20.1.Hi, .int .i64 r_22.1.Lo, .int .i64 r_22.1.Hi, .int .i64 r_24.1.Lo, .int .i64 r_24.1.Hi]), (1, .agg #[.int .i64 r_16.1.Lo, .int .i64 r_16.1.Hi, .int .i64 r_18.1.Lo, .int .i64 r_18.1.Hi, .int .i64 r_20.1.Lo, .int .i64 r_20.1.Hi, .int .i64 r_22.1.Lo, .int .i64 r_22.1.Hi, .int .i64 r_24.1.Lo, .int .i64 r_24.1.Hi])]) hf hc rfl rfl sl_38 rfl ⟨rfl, rfl, rfl, rfl, rfl, rfl, trivial⟩ rfl rfl fun b_14 a w hf hc => ?_
          obtain ⟨r_30, hr_30, hF⟩ := bnd_some hF
          refine stE hf hc rfl rfl rfl (eC (v := .tuple #[.agg #[.int .i64 r_30.1.Lo, .int .i64 r_30.1.Hi], .int .i64 r_30.2]) (vs := [.slice (some ⟨b_14, 0, none⟩) 2 2]) (caps := []) en_18 rfl rfl rfl rfl (fun w hc => by obtain ⟨G1, hle1, hrd1, hc, hth1⟩ := lend hc k0; exact (gauge_Cross_ok ([(⟨r_16.1, r_18.1, r_20.1, r_22.1, r_24.1⟩ : gauge_Leg), (⟨r_16.1, r_18.1, r_20.1, r_22.1, r_24.1⟩ : gauge_Leg)] : List gauge_Leg) hrd1 hc hr_30).mono fun e w h => ⟨h.1, ((hth1 _ _ h.2).unpick k0)⟩)) fun a w hf hc => ?_
          refine stP hf rfl rfl rfl (pM rfl) fun a hf => ?_
          refine stP hf rfl rfl rfl (pX rfl rfl) fun a hf => ?_
          refine stP hf rfl rfl rfl (pX rfl rfl) fun a hf => ?_
          refine stSt (vs := [.int .i64 r_30.1.Lo, .int .i64 r_30.1.Hi]) hf hc rfl rfl rfl rfl sz_24 rfl rfl u11 fun w hc => ?_
          refine stP hf rfl rfl rfl (pA rfl) fun a hf => ?_
          refine cNil ?_
          refine h27 _ _ ?_
          refine wp_seq_k fun K28 h28 => ?_
          refine cReg ?_
          refine stE hf hc rfl rfl rfl (eLdN (vs := [.int .i64 r_25.1.Lo, .int .i64 r_25.1.Hi, .int .i64 r_26.1.Lo, .int .i64 r_26.1.Hi, .int .i64 r_27.1.Lo, .int .i64 r_27.1.Hi, .int .i64 r_28.1.Lo, .int .i64 r_28.1.Hi, .int .i64 r_29.1.Lo, .int .i64 r_29.1.Hi]) ag_40 rfl rfl (cells_box (n := 10) m1 rfl)) fun a w hf hc => ?_
          refine stE hf hc rfl rfl rfl (eLdN (vs := [.int .i64 r_25.1.Lo, .int .i64 r_25.1.Hi, .int .i64 r_26.1.Lo, .int .i64 r_26.1.Hi, .int .i64 r_27.1.Lo, .int .i64 r_27.1.Hi, .int .i64 r_28.1.Lo, .int .i64 r_28.1.Hi, .int .i64 r_29.1.Lo, .int .i64 r_29.1.Hi]) ag_40 rfl rfl (cells_box (n := 10) m1 rfl)) fun a w hf hc => ?_
          refine stBS (rows := ([(⟨r_25.1, r_26.1, r_27.1, r_28.1, r_29.1⟩ : gauge_Leg), (⟨r_25.1, r_26.1, r_27.1, r_28.1, r_29.1⟩ : gauge_Leg)] : List gauge_Leg).map enc_gauge_Leg) (vs := [(0, .agg #[.int .i64 r_25.1.Lo, .int .i64 r_25.1.Hi, .int .i64 r_26.1.Lo, .int .i64 r_26.1.Hi, .int .i64 r_27.1.Lo, .int .i64 r_27.1.Hi, .int .i64 r_28.1.Lo, .int .i64 r_28.1.Hi, .int .i64 r_29.1.Lo, .int .i64 r_29.1.Hi]), (1, .agg #[.int .i64 r_25.1.Lo, .int .i64 r_25.1.Hi, .int .i64 r_26.1.Lo, .int .i64 r_26.1.Hi, .int .i64 r_27.1.Lo, .int .i64 r_27.1.Hi, .int .i64 r_28.1.Lo, .int .i64 r_28.1.Hi, .int .i64 r_29.1.Lo, .int .i64 r_29.1.Hi])]) hf hc rfl rfl sl_38 rfl ⟨rfl, rfl, rfl, rfl, rfl, rfl, trivial⟩ rfl rfl fun b_15 a w hf hc => ?_
          obtain ⟨r_31, hr_31, hF⟩ := bnd_some hF
          refine stE hf hc rfl rfl rfl (eC (v := .tuple #[.agg #[.int .i64 r_31.1.Lo, .int .i64 r_31.1.Hi], .int .i64 r_31.2]) (vs := [.slice (some ⟨b_15, 0, none⟩) 2 2]) (caps := []) en_18 rfl rfl rfl rfl (fun w hc => by obtain ⟨G1, hle1, hrd1, hc, hth1⟩ := lend hc k0; exact (gauge_Cross_ok ([(⟨r_25.1, r_26.1, r_27.1, r_28.1, r_29.1⟩ : gauge_Leg), (⟨r_25.1, r_26.1, r_27.1, r_28.1, r_29.1⟩ : gauge_Leg)] : List gauge_Leg) hrd1 hc hr_31).mono fun e w h => ⟨h.1, ((hth1 _ _ h.2).unpick k0)⟩)) fun a w hf hc => ?_
          refine stP hf rfl rfl rfl (pM rfl) fun a hf => ?_
          refine stP hf rfl rfl rfl (pX rfl rfl) fun a hf => ?_
          refine stP hf rfl rfl rfl (pX rfl rfl) fun a hf => ?_
          refine stSt (vs := [.int .i64 r_31.1.Lo, .int .i64 r_31.1.Hi]) hf hc rfl rfl rfl rfl sz_24 rfl rfl u11 fun w hc => ?_
          refine stP hf rfl rfl rfl (pA rfl) fun a hf => ?_
          refine cNil ?_
          refine h28 _ _ ?_
          refine wp_seq_k fun K29 h29 => ?_
          refine wp_seq_k fun K30 h30 => ?_
          refine cReg ?_
          refine stP hf rfl rfl rfl (pM rfl) fun a hf => ?_
          refine stP hf rfl rfl rfl (pNe rfl rfl) fun a hf => ?_
          refine stP hf rfl rfl rfl (pM rfl) fun a hf => ?_
          refine stCut 3 (fun a w => Has 335 a [(10, .pointer (some ⟨b_3, 0, none⟩)), (13, .func (.func 30) #[] #[.pointer (some ⟨b_5, 0, none⟩)]), (21, .pointer (some ⟨b_8, 0, none⟩)), (23, .pointer (some ⟨b_9, 0, none⟩)), (18, .int .i64 r_30.2), (20, .int .i64 r_31.2), (263, .int .i64 r_30.2), (264, .bool (r_30.2 != 0)), (265, .bool (r_30.2 != 0)), (268, .bool ((r_30.2 != 0) || (r_31.2 != 0)))] ∧ Ctx G (.row (some ⟨b_15, 0, none⟩) 2 (([(⟨r_25.1, r_26.1, r_27.1, r_28.1, r_29.1⟩ : gauge_Leg), (⟨r_25.1, r_26.1, r_27.1, r_28.1, r_29.1⟩ : gauge_Leg)] : List gauge_Leg).map enc_gauge_Leg) 40 10 :: .row (some ⟨b_14, 0, none⟩) 2 (([(⟨r_16.1, r_18.1, r_20.1, r_22.1, r_24.1⟩ : gauge_Leg), (⟨r_16.1, r_18.1, r_20.1, r_22.1, r_24.1⟩ : gauge_Leg)] : List gauge_Leg).map enc_gauge_Leg) 40 10 :: .box b_13 [.int .i64 r_25.1.Lo, .int .i64 r_25.1.Hi, .int .i64 r_26.1.Lo, .int .i64 r_26.1.Hi, .int .i64 r_27.1.Lo, .int .i64 r_27.1.Hi, .int .i64 r_28.1.Lo, .int .i64 r_28.1.Hi, .int .i64 r_29.1.Lo, .int .i64 r_29.1.Hi] 40 :: .box b_11 [.int .i64 r_16.1.Lo, .int .i64 r_16.1.Hi, .int .i64 r_18.1.Lo, .int .i64 r_18.1.Hi, .int .i64 r_20.1.Lo, .int .i64 r_20.1.Hi, .int .i64 r_22.1.Lo, .int .i64 r_22.1.Hi, .int .i64 r_24.1.Lo, .int .i64 r_24.1.Hi] 40 :: .box b_3 [.slice errors_p errors.length errors_c, .int .i64 r_24.2.1, .int .i64 r_24.2.2] 104 :: .row p_6 c_6 (x.map enc_gauge_Vertical) 61 5 :: .row p_13 c_13 (r_11.1.map encI_i64) 3 1 :: .row p_14 c_14 (r_11.2.1.map encI_i64) 3 1 :: .row p_4 c_4 (r_4.1.Verticals.map enc_gauge_Vertical) 61 5 :: .row p_11 c_11 (r_10.1.map encI_i64) 3 1 :: .row p_12 c_12 (r_10.2.1.map encI_i64) 3 1 :: .box b_9 [.int .i64 r_31.1.Lo, .int .i64 r_31.1.Hi] 24 :: .box b_8 [.int .i64 r_30.1.Lo, .int .i64 r_30.1.Hi] 24 :: .row p_10 c_10 (b_10.map enc_api_Span) 24 2 :: .row p_9 c_9 (a_1.map enc_api_Span) 24 2 :: .box b_7 [.int .i64 r_5.Left, .int .i64 r_5.Right, .slice p_6 x.length c_6] 48 :: .box b_6 [.int .i64 r_4.1.Left, .int .i64 r_4.1.Right, .slice p_4 r_4.1.Verticals.length c_4] 48 :: .box b_5 [.pointer (some ⟨b_4, 0, none⟩)] 28 :: .box b_4 [.slice better_p better.length better_c, .int .i64 r_29.2.1, .int .i64 r_29.2.2] 104 :: Lf) w) ?_ ?_
          · cases hb : (r_30.2 != 0)
            · rw [hb] at hf
              refine stP hf rfl rfl rfl (pM rfl) fun a hf => ?_
              refine stP hf rfl rfl rfl (pNe rfl rfl) fun a hf => ?_
              refine stP hf rfl rfl rfl (pPf rfl rfl) fun a hf => ?_
              exact cNil ⟨hf.keep ⟨rfl, rfl, rfl, rfl, rfl, rfl, rfl, rfl, rfl, rfl, trivial⟩, hc⟩
            · rw [hb] at hf
              refine stS hf rfl rfl rfl fun a hf => ?_
              refine stS hf rfl rfl rfl fun a hf => ?_
              refine stP hf rfl rfl rfl (pPt rfl rfl) fun a hf => ?_
              exact cNil ⟨hf.keep ⟨rfl, rfl, rfl, rfl, rfl, rfl, rfl, rfl, rfl, rfl, trivial⟩, hc⟩
          intro a w ⟨hf, hc⟩
          refine stP hf rfl rfl rfl (pM rfl) fun a hf => ?_
          refine stCut 6 (fun a w => Has 335 a [(10, .pointer (some ⟨b_3, 0, none⟩)), (13, .func (.func 30) #[] #[.pointer (some ⟨b_5, 0, none⟩)]), (21, .pointer (some ⟨b_8, 0, none⟩)), (23, .pointer (some ⟨b_9, 0, none⟩)), (18, .int .i64 r_30.2), (20, .int .i64 r_31.2), (263, .int .i64 r_30.2), (264, .bool (r_30.2 != 0)), (265, .bool (r_30.2 != 0)), (268, .bool ((r_30.2 != 0) || (r_31.2 != 0))), (269, .bool ((r_30.2 != 0) || (r_31.2 != 0))), (275, .bool (((r_30.2 != 0) || (r_31.2 != 0)) || (decide (r_31.1.Lo < r_30.1.Lo))))] ∧ Ctx G (.row (some ⟨b_15, 0, none⟩) 2 (([(⟨r_25.1, r_26.1, r_27.1, r_28.1, r_29.1⟩ : gauge_Leg), (⟨r_25.1, r_26.1, r_27.1, r_28.1, r_29.1⟩ : gauge_Leg)] : List gauge_Leg).map enc_gauge_Leg) 40 10 :: .row (some ⟨b_14, 0, none⟩) 2 (([(⟨r_16.1, r_18.1, r_20.1, r_22.1, r_24.1⟩ : gauge_Leg), (⟨r_16.1, r_18.1, r_20.1, r_22.1, r_24.1⟩ : gauge_Leg)] : List gauge_Leg).map enc_gauge_Leg) 40 10 :: .box b_13 [.int .i64 r_25.1.Lo, .int .i64 r_25.1.Hi, .int .i64 r_26.1.Lo, .int .i64 r_26.1.Hi, .int .i64 r_27.1.Lo, .int .i64 r_27.1.Hi, .int .i64 r_28.1.Lo, .int .i64 r_28.1.Hi, .int .i64 r_29.1.Lo, .int .i64 r_29.1.Hi] 40 :: .box b_11 [.int .i64 r_16.1.Lo, .int .i64 r_16.1.Hi, .int .i64 r_18.1.Lo, .int .i64 r_18.1.Hi, .int .i64 r_20.1.Lo, .int .i64 r_20.1.Hi, .int .i64 r_22.1.Lo, .int .i64 r_22.1.Hi, .int .i64 r_24.1.Lo, .int .i64 r_24.1.Hi] 40 :: .box b_3 [.slice errors_p errors.length errors_c, .int .i64 r_24.2.1, .int .i64 r_24.2.2] 104 :: .row p_6 c_6 (x.map enc_gauge_Vertical) 61 5 :: .row p_13 c_13 (r_11.1.map encI_i64) 3 1 :: .row p_14 c_14 (r_11.2.1.map encI_i64) 3 1 :: .row p_4 c_4 (r_4.1.Verticals.map enc_gauge_Vertical) 61 5 :: .row p_11 c_11 (r_10.1.map encI_i64) 3 1 :: .row p_12 c_12 (r_10.2.1.map encI_i64) 3 1 :: .box b_9 [.int .i64 r_31.1.Lo, .int .i64 r_31.1.Hi] 24 :: .box b_8 [.int .i64 r_30.1.Lo, .int .i64 r_30.1.Hi] 24 :: .row p_10 c_10 (b_10.map enc_api_Span) 24 2 :: .row p_9 c_9 (a_1.map enc_api_Span) 24 2 :: .box b_7 [.int .i64 r_5.Left, .int .i64 r_5.Right, .slice p_6 x.length c_6] 48 :: .box b_6 [.int .i64 r_4.1.Left, .int .i64 r_4.1.Right, .slice p_4 r_4.1.Verticals.length c_4] 48 :: .box b_5 [.pointer (some ⟨b_4, 0, none⟩)] 28 :: .box b_4 [.slice better_p better.length better_c, .int .i64 r_29.2.1, .int .i64 r_29.2.2] 104 :: Lf) w) ?_ ?_
          · cases hb : ((r_30.2 != 0) || (r_31.2 != 0))
            · rw [hb] at hf
              refine stP hf rfl rfl rfl (pFA fa_24_0 rfl) fun a hf => ?_
              refine stE hf hc rfl rfl rfl (eLd1 sc_3 rfl (cell_box m11 rfl)) fun a w hf hc => ?_
              refine stP hf rfl rfl rfl (pFA fa_24_0 rfl) fun a hf => ?_
              refine stE hf hc rfl rfl rfl (eLd1 sc_3 rfl (cell_box m12 rfl)) fun a w hf hc => ?_
              refine stP hf rfl rfl rfl (pLt rfl rfl) fun a hf => ?_
              refine stP hf rfl rfl rfl (pPf rfl rfl) fun a hf => ?_
              exact cNil ⟨hf.keep ⟨rfl, rfl, rfl, rfl, rfl, rfl, rfl, rfl, rfl, rfl, rfl, rfl, trivial⟩, hc⟩
            · rw [hb] at hf
              refine stS hf rfl rfl rfl fun a hf => ?_
              refine stS hf rfl rfl rfl fun a hf => ?_
              refine stS hf rfl rfl rfl fun a hf => ?_
              refine stS hf rfl rfl rfl fun a hf => ?_
              refine stS hf rfl rfl rfl fun a hf => ?_
              refine stP hf rfl rfl rfl (pPt rfl rfl) fun a hf => ?_
              exact cNil ⟨hf.keep ⟨rfl, rfl, rfl, rfl, rfl, rfl, rfl, rfl, rfl, rfl, rfl, rfl, trivial⟩, hc⟩
          intro a w ⟨hf, hc⟩
          refine stP hf rfl rfl rfl (pM rfl) fun a hf => ?_
          refine stCut 6 (fun a w => Has 335 a [(10, .pointer (some ⟨b_3, 0, none⟩)), (13, .func (.func 30) #[] #[.pointer (some ⟨b_5, 0, none⟩)]), (21, .pointer (some ⟨b_8, 0, none⟩)), (23, .pointer (some ⟨b_9, 0, none⟩)), (18, .int .i64 r_30.2), (20, .int .i64 r_31.2), (263, .int .i64 r_30.2), (264, .bool (r_30.2 != 0)), (265, .bool (r_30.2 != 0)), (268, .bool ((r_30.2 != 0) || (r_31.2 != 0))), (269, .bool ((r_30.2 != 0) || (r_31.2 != 0))), (275, .bool (((r_30.2 != 0) || (r_31.2 != 0)) || (decide (r_31.1.Lo < r_30.1.Lo)))), (276, .bool (((r_30.2 != 0) || (r_31.2 != 0)) || (decide (r_31.1.Lo < r_30.1.Lo)))), (282, .bool ((((r_30.2 != 0) || (r_31.2 != 0)) || (decide (r_31.1.Lo < r_30.1.Lo))) || (decide (r_30.1.Hi < r_31.1.Hi))))] ∧ Ctx G (.row (some ⟨b_15, 0, none⟩) 2 (([(⟨r_25.1, r_26.1, r_27.1, r_28.1, r_29.1⟩ : gauge_Leg), (⟨r_25.1, r_26.1, r_27.1, r_28.1, r_29.1⟩ : gauge_Leg)] : List gauge_Leg).map enc_gauge_Leg) 40 10 :: .row (some ⟨b_14, 0, none⟩) 2 (([(⟨r_16.1, r_18.1, r_20.1, r_22.1, r_24.1⟩ : gauge_Leg), (⟨r_16.1, r_18.1, r_20.1, r_22.1, r_24.1⟩ : gauge_Leg)] : List gauge_Leg).map enc_gauge_Leg) 40 10 :: .box b_13 [.int .i64 r_25.1.Lo, .int .i64 r_25.1.Hi, .int .i64 r_26.1.Lo, .int .i64 r_26.1.Hi, .int .i64 r_27.1.Lo, .int .i64 r_27.1.Hi, .int .i64 r_28.1.Lo, .int .i64 r_28.1.Hi, .int .i64 r_29.1.Lo, .int .i64 r_29.1.Hi] 40 :: .box b_11 [.int .i64 r_16.1.Lo, .int .i64 r_16.1.Hi, .int .i64 r_18.1.Lo, .int .i64 r_18.1.Hi, .int .i64 r_20.1.Lo, .int .i64 r_20.1.Hi, .int .i64 r_22.1.Lo, .int .i64 r_22.1.Hi, .int .i64 r_24.1.Lo, .int .i64 r_24.1.Hi] 40 :: .box b_3 [.slice errors_p errors.length errors_c, .int .i64 r_24.2.1, .int .i64 r_24.2.2] 104 :: .row p_6 c_6 (x.map enc_gauge_Vertical) 61 5 :: .row p_13 c_13 (r_11.1.map encI_i64) 3 1 :: .row p_14 c_14 (r_11.2.1.map encI_i64) 3 1 :: .row p_4 c_4 (r_4.1.Verticals.map enc_gauge_Vertical) 61 5 :: .row p_11 c_11 (r_10.1.map encI_i64) 3 1 :: .row p_12 c_12 (r_10.2.1.map encI_i64) 3 1 :: .box b_9 [.int .i64 r_31.1.Lo, .int .i64 r_31.1.Hi] 24 :: .box b_8 [.int .i64 r_30.1.Lo, .int .i64 r_30.1.Hi] 24 :: .row p_10 c_10 (b_10.map enc_api_Span) 24 2 :: .row p_9 c_9 (a_1.map enc_api_Span) 24 2 :: .box b_7 [.int .i64 r_5.Left, .int .i64 r_5.Right, .slice p_6 x.length c_6] 48 :: .box b_6 [.int .i64 r_4.1.Left, .int .i64 r_4.1.Right, .slice p_4 r_4.1.Verticals.length c_4] 48 :: .box b_5 [.pointer (some ⟨b_4, 0, none⟩)] 28 :: .box b_4 [.slice better_p better.length better_c, .int .i64 r_29.2.1, .int .i64 r_29.2.2] 104 :: Lf) w) ?_ ?_
          · cases hb : (((r_30.2 != 0) || (r_31.2 != 0)) || (decide (r_31.1.Lo < r_30.1.Lo)))
            · rw [hb] at hf
              refine stP hf rfl rfl rfl (pFA fa_24_1 rfl) fun a hf => ?_
              refine stE hf hc rfl rfl rfl (eLd1 sc_3 rfl (cell_box m11 rfl)) fun a w hf hc => ?_
              refine stP hf rfl rfl rfl (pFA fa_24_1 rfl) fun a hf => ?_
              refine stE hf hc rfl rfl rfl (eLd1 sc_3 rfl (cell_box m12 rfl)) fun a w hf hc => ?_
              refine stP hf rfl rfl rfl (pGt rfl rfl) fun a hf => ?_
              refine stP hf rfl rfl rfl (pPf rfl rfl) fun a hf => ?_
              exact cNil ⟨hf.keep ⟨rfl, rfl, rfl, rfl, rfl, rfl, rfl, rfl, rfl, rfl, rfl, rfl, rfl, rfl, trivial⟩, hc⟩
            · rw [hb] at hf
              refine stS hf rfl rfl rfl fun a hf => ?_
              refine stS hf rfl rfl rfl fun a hf => ?_
              refine stS hf rfl rfl rfl fun a hf => ?_
              refine stS hf rfl rfl rfl fun a hf => ?_
              refine stS hf rfl rfl rfl fun a hf => ?_
              refine stP hf rfl rfl rfl (pPt rfl rfl) fun a hf => ?_
              exact cNil ⟨hf.keep ⟨rfl, rfl, rfl, rfl, rfl, rfl, rfl, rfl, rfl, rfl, rfl, rfl, rfl, rfl, trivial⟩, hc⟩
          intro a w ⟨hf, hc⟩
          refine cNil ?_
          refine h30 _ _ ?_
          refine cCond (b := ((((r_30.2 != 0) || (r_31.2 != 0)) || (decide (r_31.1.Lo < r_30.1.Lo))) || (decide (r_30.1.Hi < r_31.1.Hi)))) hf rfl (fun hb => ?_) (fun hb => ?_)
          · replace hF := condT hb hF
            clear hb
            refine wp_seq_k fun K31 h31 => ?_
            refine cReg ?_
            refine stP hf rfl rfl rfl (pA rfl) fun a hf => ?_
            refine cNil ?_
            refine h31 _ _ ?_
            refine wp_ret ?_
            refine xThenR ?_
            obtain rfl := Option.some.inj hF
            replace hc := hc.drop k18
            replace hc := hc.drop k17
            replace hc := hc.drop k16
            replace hc := hc.drop k15
            replace hc := hc.drop k14
            replace hc := hc.drop k13
            replace hc := hc.drop k12
            replace hc := hc.drop k11
            replace hc := hc.drop k10
            replace hc := hc.drop k9
            replace hc := hc.drop k8
            replace hc := hc.drop k7
            replace hc := hc.drop k6
            replace hc := hc.drop k5
            replace hc := hc.drop k4
            replace hc := hc.drop k3
            replace hc := hc.drop k2
            replace hc := hc.drop k1
            replace hc := hc.drop k0
            exact fnOut1 (by simp) rfl Try.results6 hf hc (show look _ 8 = _ from rfl) ⟨rfl, hc⟩
          · replace hF := condF hb hF
            clear hb
            refine wp_skip ?_
            refine h29 _ _ ?_
            refine wp_seq_k fun K32 h32 => ?_
            refine cReg ?_
            refine stP hf rfl rfl rfl (pM rfl) fun a hf => ?_
            obtain ⟨r_32, hr_32, hF⟩ := bnd_some hF
            refine stC (vs := [.pointer (some ⟨b_3, 0, none⟩)]) (caps := []) hf rfl rfl rfl en_10 rfl rfl rfl rfl (law03_Dyed_ok (⟨errors, r_24.2.1, r_24.2.2⟩ : kit_Stream) h_errors (hc.pick k4) hr_32) ?_
            rintro _ w ⟨rfl, hc⟩
            refine ⟨_, rfl, fun a hf => ?_⟩
            refine stAl (cs := [.int .i64 0, .int .i64 0, .int .i64 0, .int .i64 0, .int .i64 0, .int .i64 0, .int .i64 0, .int .i64 0]) hf hc rfl rfl zr_26 rfl fun b_16 a w hf hc => ?_
            refine stSt (vs := [.int .i64 r_32.1.Rate.Lo, .int .i64 r_32.1.Rate.Hi, .int .i64 r_32.1.Strong.Lo, .int .i64 r_32.1.Strong.Hi, .int .i64 r_32.1.Found.Lo, .int .i64 r_32.1.Found.Hi, .int .i64 r_32.1.Clean.Lo, .int .i64 r_32.1.Clean.Hi]) hf hc rfl rfl rfl rfl sz_26 rfl rfl u0 fun w hc => ?_
            refine cNil ?_
            refine h32 _ _ ?_
            refine wp_seq_k fun K33 h33 => ?_
            obtain ⟨r_33, hr_33, hF⟩ := bnd_some hF
            obtain ⟨r_34, hr_34, hF⟩ := bnd_some hF
            obtain ⟨r_35, hr_35, hF⟩ := bnd_some hF
            obtain ⟨r_36, hr_36, hF⟩ := bnd_some hF
            replace hc := hc.nilRow 0 0
            refine regionE (fun θ => [⟨none, none, 13, .func (.func 30) #[] #[.pointer (some ⟨b_5, 0, none⟩)]⟩, ⟨none, none, 21, .pointer (some ⟨b_8, 0, none⟩)⟩, ⟨none, none, 23, .pointer (some ⟨b_9, 0, none⟩)⟩, ⟨none, none, 32, .pointer (some ⟨b_16, 0, none⟩)⟩, ⟨some 0, none, 285, .func (.func 30) #[] #[.pointer (some ⟨b_5, 0, none⟩)]⟩, ⟨some 1, none, 286, .pointer (some ⟨b_16, 0, none⟩)⟩, ⟨some 2, none, 287, .agg #[.int .i64 r_32.1.Rate.Lo, .int .i64 r_32.1.Rate.Hi]⟩, ⟨some 3, none, 288, .agg #[.int .i64 r_33.1.Lo, .int .i64 r_33.1.Hi]⟩, ⟨some 4, none, 289, .func (.func 30) #[] #[.pointer (some ⟨b_5, 0, none⟩)]⟩, ⟨some 5, none, 290, .pointer (some ⟨b_16, 2, none⟩)⟩, ⟨some 6, none, 291, .agg #[.int .i64 r_32.1.Strong.Lo, .int .i64 r_32.1.Strong.Hi]⟩, ⟨some 7, none, 292, .agg #[.int .i64 r_34.1.Lo, .int .i64 r_34.1.Hi]⟩, ⟨some 8, none, 293, .func (.func 30) #[] #[.pointer (some ⟨b_5, 0, none⟩)]⟩, ⟨some 9, none, 294, .pointer (some ⟨b_16, 4, none⟩)⟩, ⟨some 10, none, 295, .agg #[.int .i64 r_32.1.Found.Lo, .int .i64 r_32.1.Found.Hi]⟩, ⟨some 11, none, 296, .agg #[.int .i64 r_35.1.Lo, .int .i64 r_35.1.Hi]⟩, ⟨some 12, none, 297, .func (.func 30) #[] #[.pointer (some ⟨b_5, 0, none⟩)]⟩, ⟨some 13, none, 298, .pointer (some ⟨b_16, 6, none⟩)⟩, ⟨some 14, none, 299, .agg #[.int .i64 r_32.1.Clean.Lo, .int .i64 r_32.1.Clean.Hi]⟩, ⟨some 15, none, 300, .agg #[.int .i64 r_36.1.Lo, .int .i64 r_36.1.Hi]⟩, ⟨some 16, none, 301, .agg #[.int .i64 r_33.1.Lo, .int .i64 r_33.1.Hi, .int .i64 r_34.1.Lo, .int .i64 r_34.1.Hi, .int .i64 r_35.1.Lo, .int .i64 r_35.1.Hi, .int .i64 r_36.1.Lo, .int .i64 r_36.1.Hi]⟩, ⟨some 17, none, 33, .pointer (some ⟨(θ 136).b, 0, none⟩)⟩]) (fun E θ => (bif E 18 then .box (θ 136).b [.int .i64 r_33.1.Lo, .int .i64 r_33.1.Hi, .int .i64 r_34.1.Lo, .int .i64 r_34.1.Hi, .int .i64 r_35.1.Lo, .int .i64 r_35.1.Hi, .int .i64 r_36.1.Lo, .int .i64 r_36.1.Hi] 26 else bif E 17 then .box (θ 136).b [.int .i64 0, .int .i64 0, .int .i64 0, .int .i64 0, .int .i64 0, .int .i64 0, .int .i64 0, .int .i64 0] 26 else .row none 0 [] 0 0) :: .box b_16 [.int .i64 r_32.1.Rate.Lo, .int .i64 r_32.1.Rate.Hi, .int .i64 r_32.1.Strong.Lo, .int .i64 r_32.1.Strong.Hi, .int .i64 r_32.1.Found.Lo, .int .i64 r_32.1.Found.Hi, .int .i64 r_32.1.Clean.Lo, .int .i64 r_32.1.Clean.Hi] 26 :: .box b_3 [.slice errors_p errors.length errors_c, .int .i64 r_32.2.1, .int .i64 r_32.2.2] 104 :: .row (some ⟨b_15, 0, none⟩) 2 (([(⟨r_25.1, r_26.1, r_27.1, r_28.1, r_29.1⟩ : gauge_Leg), (⟨r_25.1, r_26.1, r_27.1, r_28.1, r_29.1⟩ : gauge_Leg)] : List gauge_Leg).map enc_gauge_Leg) 40 10 :: .row (some ⟨b_14, 0, none⟩) 2 (([(⟨r_16.1, r_18.1, r_20.1, r_22.1, r_24.1⟩ : gauge_Leg), (⟨r_16.1, r_18.1, r_20.1, r_22.1, r_24.1⟩ : gauge_Leg)] : List gauge_Leg).map enc_gauge_Leg) 40 10 :: .box b_13 [.int .i64 r_25.1.Lo, .int .i64 r_25.1.Hi, .int .i64 r_26.1.Lo, .int .i64 r_26.1.Hi, .int .i64 r_27.1.Lo, .int .i64 r_27.1.Hi, .int .i64 r_28.1.Lo, .int .i64 r_28.1.Hi, .int .i64 r_29.1.Lo, .int .i64 r_29.1.Hi] 40 :: .box b_11 [.int .i64 r_16.1.Lo, .int .i64 r_16.1.Hi, .int .i64 r_18.1.Lo, .int .i64 r_18.1.Hi, .int .i64 r_20.1.Lo, .int .i64 r_20.1.Hi, .int .i64 r_22.1.Lo, .int .i64 r_22.1.Hi, .int .i64 r_24.1.Lo, .int .i64 r_24.1.Hi] 40 :: .row p_6 c_6 (x.map enc_gauge_Vertical) 61 5 :: .row p_13 c_13 (r_11.1.map encI_i64) 3 1 :: .row p_14 c_14 (r_11.2.1.map encI_i64) 3 1 :: .row p_4 c_4 (r_4.1.Verticals.map enc_gauge_Vertical) 61 5 :: .row p_11 c_11 (r_10.1.map encI_i64) 3 1 :: .row p_12 c_12 (r_10.2.1.map encI_i64) 3 1 :: .box b_9 [.int .i64 r_31.1.Lo, .int .i64 r_31.1.Hi] 24 :: .box b_8 [.int .i64 r_30.1.Lo, .int .i64 r_30.1.Hi] 24 :: .row p_10 c_10 (b_10.map enc_api_Span) 24 2 :: .row p_9 c_9 (a_1.map enc_api_Span) 24 2 :: .box b_7 [.int .i64 r_5.Left, .int .i64 r_5.Right, .slice p_6 x.length c_6] 48 :: .box b_6 [.int .i64 r_4.1.Left, .int .i64 r_4.1.Right, .slice p_4 r_4.1.Verticals.length c_4] 48 :: .box b_5 [.pointer (some ⟨b_4, 0, none⟩)] 28 :: (bif E 15 then .box b_4 [.slice better_p better.length better_c, .int .i64 r_36.2.1, .int .i64 r_36.2.2] 104 else bif E 11 then .box b_4 [.slice better_p better.length better_c, .int .i64 r_35.2.1, .int .i64 r_35.2.2] 104 else bif E 7 then .box b_4 [.slice better_p better.length better_c, .int .i64 r_34.2.1, .int .i64 r_34.2.2] 104 else bif E 3 then .box b_4 [.slice better_p better.length better_c, .int .i64 r_33.2.1, .int .i64 r_33.2.2] 104 else .box b_4 [.slice better_p better.length better_c, .int .i64 r_29.2.1, .int .i64 r_29.2.2] 104) :: Lf) [(7, 3), (11, 7), (15, 11), (18, 17)] (fun a w => ∃ (b_18 : Nat), Has 335 a [(21, .pointer (some ⟨b_8, 0, none⟩)), (23, .pointer (some ⟨b_9, 0, none⟩)), (32, .pointer (some ⟨b_16, 0, none⟩)), (33, .pointer (some ⟨b_18, 0, none⟩))] ∧ Ctx G (.box b_18 [.int .i64 r_33.1.Lo, .int .i64 r_33.1.Hi, .int .i64 r_34.1.Lo, .int .i64 r_34.1.Hi, .int .i64 r_35.1.Lo, .int .i64 r_35.1.Hi, .int .i64 r_36.1.Lo, .int .i64 r_36.1.Hi] 26 :: .box b_16 [.int .i64 r_32.1.Rate.Lo, .int .i64 r_32.1.Rate.Hi, .int .i64 r_32.1.Strong.Lo, .int .i64 r_32.1.Strong.Hi, .int .i64 r_32.1.Found.Lo, .int .i64 r_32.1.Found.Hi, .int .i64 r_32.1.Clean.Lo, .int .i64 r_32.1.Clean.Hi] 26 :: .box b_3 [.slice errors_p errors.length errors_c, .int .i64 r_32.2.1, .int .i64 r_32.2.2] 104 :: .row (some ⟨b_15, 0, none⟩) 2 (([(⟨r_25.1, r_26.1, r_27.1, r_28.1, r_29.1⟩ : gauge_Leg), (⟨r_25.1, r_26.1, r_27.1, r_28.1, r_29.1⟩ : gauge_Leg)] : List gauge_Leg).map enc_gauge_Leg) 40 10 :: .row (some ⟨b_14, 0, none⟩) 2 (([(⟨r_16.1, r_18.1, r_20.1, r_22.1, r_24.1⟩ : gauge_Leg), (⟨r_16.1, r_18.1, r_20.1, r_22.1, r_24.1⟩ : gauge_Leg)] : List gauge_Leg).map enc_gauge_Leg) 40 10 :: .box b_13 [.int .i64 r_25.1.Lo, .int .i64 r_25.1.Hi, .int .i64 r_26.1.Lo, .int .i64 r_26.1.Hi, .int .i64 r_27.1.Lo, .int .i64 r_27.1.Hi, .int .i64 r_28.1.Lo, .int .i64 r_28.1.Hi, .int .i64 r_29.1.Lo, .int .i64 r_29.1.Hi] 40 :: .box b_11 [.int .i64 r_16.1.Lo, .int .i64 r_16.1.Hi, .int .i64 r_18.1.Lo, .int .i64 r_18.1.Hi, .int .i64 r_20.1.Lo, .int .i64 r_20.1.Hi, .int .i64 r_22.1.Lo, .int .i64 r_22.1.Hi, .int .i64 r_24.1.Lo, .int .i64 r_24.1.Hi] 40 :: .row p_6 c_6 (x.map enc_gauge_Vertical) 61 5 :: .row p_13 c_13 (r_11.1.map encI_i64) 3 1 :: .row p_14 c_14 (r_11.2.1.map encI_i64) 3 1 :: .row p_4 c_4 (r_4.1.Verticals.map enc_gauge_Vertical) 61 5 :: .row p_11 c_11 (r_10.1.map encI_i64) 3 1 :: .row p_12 c_12 (r_10.2.1.map encI_i64) 3 1 :: .box b_9 [.int .i64 r_31.1.Lo, .int .i64 r_31.1.Hi] 24 :: .box b_8 [.int .i64 r_30.1.Lo, .int .i64 r_30.1.Hi] 24 :: .row p_10 c_10 (b_10.map enc_api_Span) 24 2 :: .row p_9 c_9 (a_1.map enc_api_Span) 24 2 :: .box b_7 [.int .i64 r_5.Left, .int .i64 r_5.Right, .slice p_6 x.length c_6] 48 :: .box b_6 [.int .i64 r_4.1.Left, .int .i64 r_4.1.Right, .slice p_4 r_4.1.Verticals.length c_4] 48 :: .box b_5 [.pointer (some ⟨b_4, 0, none⟩)] 28 :: .box b_4 [.slice better_p better.length better_c, .int .i64 r_36.2.1, .int .i64 r_36.2.2] 104 :: Lf) w) follows_mx (by kernel_rfl) (by kernel_rfl) (HasE.of hf ⟨rfl, rfl, rfl, rfl, trivial, trivial, trivial, trivial, trivial, trivial, trivial, trivial, trivial, trivial, trivial, trivial, trivial, trivial, trivial, trivial, trivial, trivial, trivial⟩) hc ⟨?_, ?_, ?_, ?_, ?_, ?_, ?_, ?_, ?_, ?_, ?_, ?_, ?_, ?_, ?_, ?_, ?_, ?_, ?_, trivial⟩ ?_ ?_
            · intro E θ a w hD hi hp he hc
              have hf := he.h0
              replace hf := hf.more he 0 rfl onT
              refine stP hf rfl rfl rfl (pM rfl) fun a hf => ?_
              refine cNil ?_
              refine xThenN ?_
              intro ds u hau
              refine ⟨θ, he.put0 hi hau hf rfl 4 rfl rfl, ?_⟩
              exact hc
            · intro E θ a w hD hi hp he hc
              have hf := he.h0
              replace hf := hf.more he 3 rfl onT
              refine stP hf rfl rfl rfl (pFA fa_26_0 rfl) fun a hf => ?_
              refine cNil ?_
              refine xThenN ?_
              intro ds u hau
              refine ⟨θ, he.put0 hi hau hf rfl 5 rfl rfl, ?_⟩
              exact hc
            · intro E θ a w hD hi hp he hc
              have e1 := hp.of (k := 1) rfl
              have hf := he.h0
              replace hf := hf.more he 5 rfl (onP e1)
              refine stE hf hc rfl rfl rfl (eLdN (vs := [.int .i64 r_32.1.Rate.Lo, .int .i64 r_32.1.Rate.Hi]) ag_24 rfl rfl (cells_box (n := 2) m1 rfl)) fun a w hf hc => ?_
              refine cNil ?_
              refine xThenN ?_
              intro ds u hau
              refine ⟨θ, he.put0 hi hau hf rfl 6 rfl rfl, ?_⟩
              exact hc
            · intro E θ a w hD hi hp he hc
              have e0 := hp.of (k := 0) rfl
              have e2 := hp.of (k := 2) rfl
              have e7 := hD.f 0 rfl hi
              have e11 := hD.f 1 rfl e7
              have e15 := hD.f 2 rfl e11
              try dsimp only at hc
              rw [hi, e7, e11, e15] at hc
              have hf := he.h0
              replace hf := hf.more he 4 rfl (onP e0)
              replace hf := hf.more he 6 rfl (onP e2)
              refine stC (vs := [.agg #[.int .i64 r_32.1.Rate.Lo, .int .i64 r_32.1.Rate.Hi]]) (caps := [.pointer (some ⟨b_5, 0, none⟩)]) hf rfl rfl rfl en_30 rfl rfl rfl rfl (law03_GaugeBetter_1_ok r_32.1.Rate (⟨better, r_29.2.1, r_29.2.2⟩ : kit_Stream) h_better ((hc.pick k20).pick k20) hr_33) ?_
              rintro _ w ⟨rfl, hc⟩
              refine ⟨_, rfl, fun a hf => ?_⟩
              refine cNil ?_
              refine xThenN ?_
              intro ds u hau
              replace hc := hc.pick k1
              replace hc := hc.pick k1
              replace hc := hc.pick k20
              replace hc := hc.pick k20
              replace hc := hc.pick k20
              replace hc := hc.pick k20
              replace hc := hc.pick k20
              replace hc := hc.pick k20
              replace hc := hc.pick k20
              replace hc := hc.pick k20
              replace hc := hc.pick k20
              replace hc := hc.pick k20
              replace hc := hc.pick k20
              replace hc := hc.pick k20
              replace hc := hc.pick k20
              replace hc := hc.pick k20
              replace hc := hc.pick k20
              replace hc := hc.pick k20
              replace hc := hc.pick k20
              replace hc := hc.pick k20
              replace hc := hc.pick k20
              refine ⟨θ, he.put0 hi hau hf rfl 7 rfl rfl, ?_⟩
              try dsimp only
              rw [updE_self E 3, updE_fls 3 e7 rfl, updE_fls 3 e11 rfl, updE_fls 3 e15 rfl]
              exact hc
            · intro E θ a w hD hi hp he hc
              have hf := he.h0
              replace hf := hf.more he 0 rfl onT
              refine stP hf rfl rfl rfl (pM rfl) fun a hf => ?_
              refine cNil ?_
              refine xThenN ?_
              intro ds u hau
              refine ⟨θ, he.put0 hi hau hf rfl 8 rfl rfl, ?_⟩
              exact hc
            · intro E θ a w hD hi hp he hc
              have hf := he.h0
              replace hf := hf.more he 3 rfl onT
              refine stP hf rfl rfl rfl (pFA fa_26_1 rfl) fun a hf => ?_
              refine cNil ?_
              refine xThenN ?_
              intro ds u hau
              refine ⟨θ, he.put0 hi hau hf rfl 9 rfl rfl, ?_⟩
              exact hc
            · intro E θ a w hD hi hp he hc
              have e5 := hp.of (k := 5) rfl
              have hf := he.h0
              replace hf := hf.more he 9 rfl (onP e5)
              refine stE hf hc rfl rfl rfl (eLdN (vs := [.int .i64 r_32.1.Strong.Lo, .int .i64 r_32.1.Strong.Hi]) ag_24 rfl rfl (cells_box (n := 2) m1 rfl)) fun a w hf hc => ?_
              refine cNil ?_
              refine xThenN ?_
              intro ds u hau
              refine ⟨θ, he.put0 hi hau hf rfl 10 rfl rfl, ?_⟩
              exact hc
            · intro E θ a w hD hi hp he hc
              have e4 := hp.of (k := 4) rfl
              have e6 := hp.of (k := 6) rfl
              have e3 := hp.of (k := 3) rfl
              have e11 := hD.f 1 rfl hi
              have e15 := hD.f 2 rfl e11
              try dsimp only at hc
              rw [e3, hi, e11, e15] at hc
              have hf := he.h0
              replace hf := hf.more he 8 rfl (onP e4)
              replace hf := hf.more he 10 rfl (onP e6)
              refine stC (vs := [.agg #[.int .i64 r_32.1.Strong.Lo, .int .i64 r_32.1.Strong.Hi]]) (caps := [.pointer (some ⟨b_5, 0, none⟩)]) hf rfl rfl rfl en_30 rfl rfl rfl rfl (law03_GaugeBetter_1_ok r_32.1.Strong (⟨better, r_33.2.1, r_33.2.2⟩ : kit_Stream) h_better ((hc.pick k20).pick k20) hr_34) ?_
              rintro _ w ⟨rfl, hc⟩
              refine ⟨_, rfl, fun a hf => ?_⟩
              refine cNil ?_
              refine xThenN ?_
              intro ds u hau
              replace hc := hc.pick k1
              replace hc := hc.pick k1
              replace hc := hc.pick k20
              replace hc := hc.pick k20
              replace hc := hc.pick k20
              replace hc := hc.pick k20
              replace hc := hc.pick k20
              replace hc := hc.pick k20
              replace hc := hc.pick k20
              replace hc := hc.pick k20
              replace hc := hc.pick k20
              replace hc := hc.pick k20
              replace hc := hc.pick k20
              replace hc := hc.pick k20
              replace hc := hc.pick k20
              replace hc := hc.pick k20
              replace hc := hc.pick k20
              replace hc := hc.pick k20
              replace hc := hc.pick k20
              replace hc := hc.pick k20
              replace hc := hc.pick k20
              refine ⟨θ, he.put0 hi hau hf rfl 11 rfl rfl, ?_⟩
              try dsimp only
              rw [updE_tru 7 e3, updE_self E 7, updE_fls 7 e11 rfl, updE_fls 7 e15 rfl]
              exact hc
            · intro E θ a w hD hi hp he hc
              have hf := he.h0
              replace hf := hf.more he 0 rfl onT
              refine stP hf rfl rfl rfl (pM rfl) fun a hf => ?_
              refine cNil ?_
              refine xThenN ?_
              intro ds u hau
              refine ⟨θ, he.put0 hi hau hf rfl 12 rfl rfl, ?_⟩
              exact hc
            · intro E θ a w hD hi hp he hc
              have hf := he.h0
              replace hf := hf.more he 3 rfl onT
              refine stP hf rfl rfl rfl (pFA fa_26_2 rfl) fun a hf => ?_
              refine cNil ?_
              refine xThenN ?_
              intro ds u hau
              refine ⟨θ, he.put0 hi hau hf rfl 13 rfl rfl, ?_⟩
              exact hc
            · intro E θ a w hD hi hp he hc
              have e9 := hp.of (k := 9) rfl
              have hf := he.h0
              replace hf := hf.more he 13 rfl (onP e9)
              refine stE hf hc rfl rfl rfl (eLdN (vs := [.int .i64 r_32.1.Found.Lo, .int .i64 r_32.1.Found.Hi]) ag_24 rfl rfl (cells_box (n := 2) m1 rfl)) fun a w hf hc => ?_
              refine cNil ?_
              refine xThenN ?_
              intro ds u hau
              refine ⟨θ, he.put0 hi hau hf rfl 14 rfl rfl, ?_⟩
              exact hc
            · intro E θ a w hD hi hp he hc
              have e8 := hp.of (k := 8) rfl
              have e10 := hp.of (k := 10) rfl
              have e7 := hp.of (k := 7) rfl
              have e3 := hD.t 0 rfl e7
              have e15 := hD.f 2 rfl hi
              try dsimp only at hc
              rw [e3, e7, hi, e15] at hc
              have hf := he.h0
              replace hf := hf.more he 12 rfl (onP e8)
              replace hf := hf.more he 14 rfl (onP e10)
              refine stC (vs := [.agg #[.int .i64 r_32.1.Found.Lo, .int .i64 r_32.1.Found.Hi]]) (caps := [.pointer (some ⟨b_5, 0, none⟩)]) hf rfl rfl rfl en_30 rfl rfl rfl rfl (law03_GaugeBetter_1_ok r_32.1.Found (⟨better, r_34.2.1, r_34.2.2⟩ : kit_Stream) h_better ((hc.pick k20).pick k20) hr_35) ?_
              rintro _ w ⟨rfl, hc⟩
              refine ⟨_, rfl, fun a hf => ?_⟩
              refine cNil ?_
              refine xThenN ?_
              intro ds u hau
              replace hc := hc.pick k1
              replace hc := hc.pick k1
              replace hc := hc.pick k20
              replace hc := hc.pick k20
              replace hc := hc.pick k20
              replace hc := hc.pick k20
              replace hc := hc.pick k20
              replace hc := hc.pick k20
              replace hc := hc.pick k20
              replace hc := hc.pick k20
              replace hc := hc.pick k20
              replace hc := hc.pick k20
              replace hc := hc.pick k20
              replace hc := hc.pick k20
              replace hc := hc.pick k20
              replace hc := hc.pick k20
              replace hc := hc.pick k20
              replace hc := hc.pick k20
              replace hc := hc.pick k20
              replace hc := hc.pick k20
              replace hc := hc.pick k20
              refine ⟨θ, he.put0 hi hau hf rfl 15 rfl rfl, ?_⟩
              try dsimp only
              rw [updE_tru 11 e3, updE_tru 11 e7, updE_self E 11, updE_fls 11 e15 rfl]
              exact hc
            · intro E θ a w hD hi hp he hc
              have hf := he.h0
              replace hf := hf.more he 0 rfl onT
              refine stP hf rfl rfl rfl (pM rfl) fun a hf => ?_
              refine cNil ?_
              refine xThenN ?_
              intro ds u hau
              refine ⟨θ, he.put0 hi hau hf rfl 16 rfl rfl, ?_⟩
              exact hc
            · intro E θ a w hD hi hp he hc
              have hf := he.h0
              replace hf := hf.more he 3 rfl onT
              refine stP hf rfl rfl rfl (pFA fa_26_3 rfl) fun a hf => ?_
              refine cNil ?_
              refine xThenN ?_
              intro ds u hau
              refine ⟨θ, he.put0 hi hau hf rfl 17 rfl rfl, ?_⟩
              exact hc
            · intro E θ a w hD hi hp he hc
              have e13 := hp.of (k := 13) rfl
              have hf := he.h0
              replace hf := hf.more he 17 rfl (onP e13)
              refine stE hf hc rfl rfl rfl (eLdN (vs := [.int .i64 r_32.1.Clean.Lo, .int .i64 r_32.1.Clean.Hi]) ag_24 rfl rfl (cells_box (n := 2) m1 rfl)) fun a w hf hc => ?_
              refine cNil ?_
              refine xThenN ?_
              intro ds u hau
              refine ⟨θ, he.put0 hi hau hf rfl 18 rfl rfl, ?_⟩
              exact hc
            · intro E θ a w hD hi hp he hc
              have e12 := hp.of (k := 12) rfl
              have e14 := hp.of (k := 14) rfl
              have e11 := hp.of (k := 11) rfl
              have e7 := hD.t 1 rfl e11
              have e3 := hD.t 0 rfl e7
              try dsimp only at hc
              rw [e3, e7, e11, hi] at hc
              have hf := he.h0
              replace hf := hf.more he 16 rfl (onP e12)
              replace hf := hf.more he 18 rfl (onP e14)
              refine stC (vs := [.agg #[.int .i64 r_32.1.Clean.Lo, .int .i64 r_32.1.Clean.Hi]]) (caps := [.pointer (some ⟨b_5, 0, none⟩)]) hf rfl rfl rfl en_30 rfl rfl rfl rfl (law03_GaugeBetter_1_ok r_32.1.Clean (⟨better, r_35.2.1, r_35.2.2⟩ : kit_Stream) h_better ((hc.pick k20).pick k20) hr_36) ?_
              rintro _ w ⟨rfl, hc⟩
              refine ⟨_, rfl, fun a hf => ?_⟩
              refine cNil ?_
              refine xThenN ?_
              intro ds u hau
              replace hc := hc.pick k1
              replace hc := hc.pick k1
              replace hc := hc.pick k20
              replace hc := hc.pick k20
              replace hc := hc.pick k20
              replace hc := hc.pick k20
              replace hc := hc.pick k20
              replace hc := hc.pick k20
              replace hc := hc.pick k20
              replace hc := hc.pick k20
              replace hc := hc.pick k20
              replace hc := hc.pick k20
              replace hc := hc.pick k20
              replace hc := hc.pick k20
              replace hc := hc.pick k20
              replace hc := hc.pick k20
              replace hc := hc.pick k20
              replace hc := hc.pick k20
              replace hc := hc.pick k20
              replace hc := hc.pick k20
              replace hc := hc.pick k20
              refine ⟨θ, he.put0 hi hau hf rfl 19 rfl rfl, ?_⟩
              try dsimp only
              rw [updE_tru 15 e3, updE_tru 15 e7, updE_tru 15 e11, updE_self E 15]
              exact hc
            · intro E θ a w hD hi hp he hc
              have e3 := hp.of (k := 3) rfl
              have e7 := hp.of (k := 7) rfl
              have e11 := hp.of (k := 11) rfl
              have e15 := hp.of (k := 15) rfl
              have hf := he.h0
              replace hf := hf.more he 7 rfl (onP e3)
              replace hf := hf.more he 11 rfl (onP e7)
              replace hf := hf.more he 15 rfl (onP e11)
              replace hf := hf.more he 19 rfl (onP e15)
              refine stP hf rfl rfl rfl (pBuildS (cells := [.int .i64 r_33.1.Lo, .int .i64 r_33.1.Hi, .int .i64 r_34.1.Lo, .int .i64 r_34.1.Hi, .int .i64 r_35.1.Lo, .int .i64 r_35.1.Hi, .int .i64 r_36.1.Lo, .int .i64 r_36.1.Hi]) bt_26 rfl rfl) fun a hf => ?_
              refine cNil ?_
              refine xThenN ?_
              intro ds u hau
              refine ⟨θ, he.put0 hi hau hf rfl 20 rfl rfl, ?_⟩
              exact hc
            · intro E θ a w hD hi hp he hc
              have e18 := hD.f 3 rfl hi
              try dsimp only at hc
              rw [hi, e18] at hc
              have hf := he.h0
              refine stAl (cs := [.int .i64 0, .int .i64 0, .int .i64 0, .int .i64 0, .int .i64 0, .int .i64 0, .int .i64 0, .int .i64 0]) hf hc rfl rfl zr_26 rfl fun b_17 a w hf hc => ?_
              refine cNil ?_
              refine xThenN ?_
              intro ds u hau
              replace hc := hc.drop k1
              refine ⟨(setT θ 136 ⟨b_17, none, 0⟩), he.put hi hau hf rfl [] trivial ⟨qq, qq, qq, qq, qq, qq, qq, qq, qq, qq, qq, qq, qq, qq, qq, qq, qq, qq, qq, qq, qq, qq, trivial⟩, ?_⟩
              try dsimp only
              rw [updE_self E 17, updE_fls 17 e18 rfl]
              exact hc
            · intro E θ a w hD hi hp he hc
              have e16 := hp.of (k := 16) rfl
              have e17 := hp.of (k := 17) rfl
              try dsimp only at hc
              rw [e17, hi] at hc
              have hf := he.h0
              replace hf := hf.more he 20 rfl (onP e16)
              replace hf := hf.more he 21 rfl (onP e17)
              refine stSt (vs := [.int .i64 r_33.1.Lo, .int .i64 r_33.1.Hi, .int .i64 r_34.1.Lo, .int .i64 r_34.1.Hi, .int .i64 r_35.1.Lo, .int .i64 r_35.1.Hi, .int .i64 r_36.1.Lo, .int .i64 r_36.1.Hi]) hf hc rfl rfl rfl rfl sz_26 rfl rfl u0 fun w hc => ?_
              refine cNil ?_
              refine xThenN ?_
              intro ds u hau
              refine ⟨θ, he.stay0 hi hau hf rfl, ?_⟩
              try dsimp only
              rw [updE_tru 18 e17, updE_self E 18]
              exact hc
            · intro E θ a w hall he hc
              have hf := he.h0
              have e3 := hall 3 rfl
              have e7 := hall 7 rfl
              have e11 := hall 11 rfl
              have e15 := hall 15 rfl
              have e17 := hall 17 rfl
              have e18 := hall 18 rfl
              replace hf := hf.more he 21 rfl (onP e17)
              replace hf := hf.more he 3 rfl (onT)
              replace hf := hf.more he 2 rfl (onT)
              replace hf := hf.more he 1 rfl (onT)
              try dsimp only at hc
              rw [e3, e7, e11, e15, e17, e18] at hc
              exact ⟨(θ 136).b, hf.keep ⟨rfl, rfl, rfl, rfl, trivial⟩, hc⟩
            rintro a w ⟨b_18, hf, hc⟩
            refine h33 _ _ ?_
            refine wp_seq_k fun K34 h34 => ?_
            refine cReg ?_
            refine stE hf hc rfl rfl rfl (eLdN (vs := [.int .i64 r_32.1.Rate.Lo, .int .i64 r_32.1.Rate.Hi, .int .i64 r_32.1.Strong.Lo, .int .i64 r_32.1.Strong.Hi, .int .i64 r_32.1.Found.Lo, .int .i64 r_32.1.Found.Hi, .int .i64 r_32.1.Clean.Lo, .int .i64 r_32.1.Clean.Hi]) ag_26 rfl rfl (cells_box (n := 8) m1 rfl)) fun a w hf hc => ?_
            obtain ⟨r_37, hr_37, hF⟩ := bnd_some hF
            refine stE hf hc rfl rfl rfl (eC (v := .tuple #[.agg #[.int .i64 r_37.1.Lo, .int .i64 r_37.1.Hi], .int .i64 r_37.2]) (vs := [.agg #[.int .i64 r_32.1.Rate.Lo, .int .i64 r_32.1.Rate.Hi, .int .i64 r_32.1.Strong.Lo, .int .i64 r_32.1.Strong.Hi, .int .i64 r_32.1.Found.Lo, .int .i64 r_32.1.Found.Hi, .int .i64 r_32.1.Clean.Lo, .int .i64 r_32.1.Clean.Hi]]) (caps := []) en_13 rfl rfl rfl rfl (fun w hc => gauge_Thinned_ok r_32.1 hc hr_37)) fun a w hf hc => ?_
            refine stP hf rfl rfl rfl (pM rfl) fun a hf => ?_
            refine stP hf rfl rfl rfl (pX rfl rfl) fun a hf => ?_
            refine stP hf rfl rfl rfl (pX rfl rfl) fun a hf => ?_
            refine stSt (vs := [.int .i64 r_37.1.Lo, .int .i64 r_37.1.Hi]) hf hc rfl rfl rfl rfl sz_24 rfl rfl u14 fun w hc => ?_
            refine stP hf rfl rfl rfl (pA rfl) fun a hf => ?_
            refine cNil ?_
            refine h34 _ _ ?_
            refine wp_seq_k fun K35 h35 => ?_
            refine cReg ?_
            refine stE hf hc rfl rfl rfl (eLdN (vs := [.int .i64 r_33.1.Lo, .int .i64 r_33.1.Hi, .int .i64 r_34.1.Lo, .int .i64 r_34.1.Hi, .int .i64 r_35.1.Lo, .int .i64 r_35.1.Hi, .int .i64 r_36.1.Lo, .int .i64 r_36.1.Hi]) ag_26 rfl rfl (cells_box (n := 8) m0 rfl)) fun a w hf hc => ?_
            obtain ⟨r_38, hr_38, hF⟩ := bnd_some hF
            refine stE hf hc rfl rfl rfl (eC (v := .tuple #[.agg #[.int .i64 r_38.1.Lo, .int .i64 r_38.1.Hi], .int .i64 r_38.2]) (vs := [.agg #[.int .i64 r_33.1.Lo, .int .i64 r_33.1.Hi, .int .i64 r_34.1.Lo, .int .i64 r_34.1.Hi, .int .i64 r_35.1.Lo, .int .i64 r_35.1.Hi, .int .i64 r_36.1.Lo, .int .i64 r_36.1.Hi]]) (caps := []) en_13 rfl rfl rfl rfl (fun w hc => gauge_Thinned_ok (⟨r_33.1, r_34.1, r_35.1, r_36.1⟩ : gauge_Dye) hc hr_38)) fun a w hf hc => ?_
            refine stP hf rfl rfl rfl (pM rfl) fun a hf => ?_
            refine stP hf rfl rfl rfl (pX rfl rfl) fun a hf => ?_
            refine stP hf rfl rfl rfl (pX rfl rfl) fun a hf => ?_
            refine stSt (vs := [.int .i64 r_38.1.Lo, .int .i64 r_38.1.Hi]) hf hc rfl rfl rfl rfl sz_24 rfl rfl u13 fun w hc => ?_
            refine stP hf rfl rfl rfl (pA rfl) fun a hf => ?_
            refine cNil ?_
            refine h35 _ _ ?_
            refine wp_seq_k fun K36 h36 => ?_
            refine cReg ?_
            refine stP hf rfl rfl rfl (pM rfl) fun a hf => ?_
            refine stP hf rfl rfl rfl (pEq rfl rfl) fun a hf => ?_
            refine stP hf rfl rfl rfl (pM rfl) fun a hf => ?_
            refine stCut 3 (fun a w => Has 335 a [(21, .pointer (some ⟨b_8, 0, none⟩)), (23, .pointer (some ⟨b_9, 0, none⟩)), (18, .int .i64 r_37.2), (20, .int .i64 r_38.2), (312, .int .i64 r_37.2), (313, .bool (r_37.2 == 0)), (314, .bool (r_37.2 == 0)), (317, .bool ((r_37.2 == 0) && (r_38.2 == 0)))] ∧ Ctx G (.box b_18 [.int .i64 r_33.1.Lo, .int .i64 r_33.1.Hi, .int .i64 r_34.1.Lo, .int .i64 r_34.1.Hi, .int .i64 r_35.1.Lo, .int .i64 r_35.1.Hi, .int .i64 r_36.1.Lo, .int .i64 r_36.1.Hi] 26 :: .box b_16 [.int .i64 r_32.1.Rate.Lo, .int .i64 r_32.1.Rate.Hi, .int .i64 r_32.1.Strong.Lo, .int .i64 r_32.1.Strong.Hi, .int .i64 r_32.1.Found.Lo, .int .i64 r_32.1.Found.Hi, .int .i64 r_32.1.Clean.Lo, .int .i64 r_32.1.Clean.Hi] 26 :: .box b_3 [.slice errors_p errors.length errors_c, .int .i64 r_32.2.1, .int .i64 r_32.2.2] 104 :: .row (some ⟨b_15, 0, none⟩) 2 (([(⟨r_25.1, r_26.1, r_27.1, r_28.1, r_29.1⟩ : gauge_Leg), (⟨r_25.1, r_26.1, r_27.1, r_28.1, r_29.1⟩ : gauge_Leg)] : List gauge_Leg).map enc_gauge_Leg) 40 10 :: .row (some ⟨b_14, 0, none⟩) 2 (([(⟨r_16.1, r_18.1, r_20.1, r_22.1, r_24.1⟩ : gauge_Leg), (⟨r_16.1, r_18.1, r_20.1, r_22.1, r_24.1⟩ : gauge_Leg)] : List gauge_Leg).map enc_gauge_Leg) 40 10 :: .box b_13 [.int .i64 r_25.1.Lo, .int .i64 r_25.1.Hi, .int .i64 r_26.1.Lo, .int .i64 r_26.1.Hi, .int .i64 r_27.1.Lo, .int .i64 r_27.1.Hi, .int .i64 r_28.1.Lo, .int .i64 r_28.1.Hi, .int .i64 r_29.1.Lo, .int .i64 r_29.1.Hi] 40 :: .box b_11 [.int .i64 r_16.1.Lo, .int .i64 r_16.1.Hi, .int .i64 r_18.1.Lo, .int .i64 r_18.1.Hi, .int .i64 r_20.1.Lo, .int .i64 r_20.1.Hi, .int .i64 r_22.1.Lo, .int .i64 r_22.1.Hi, .int .i64 r_24.1.Lo, .int .i64 r_24.1.Hi] 40 :: .row p_6 c_6 (x.map enc_gauge_Vertical) 61 5 :: .row p_13 c_13 (r_11.1.map encI_i64) 3 1 :: .row p_14 c_14 (r_11.2.1.map encI_i64) 3 1 :: .row p_4 c_4 (r_4.1.Verticals.map enc_gauge_Vertical) 61 5 :: .row p_11 c_11 (r_10.1.map encI_i64) 3 1 :: .row p_12 c_12 (r_10.2.1.map encI_i64) 3 1 :: .box b_9 [.int .i64 r_38.1.Lo, .int .i64 r_38.1.Hi] 24 :: .box b_8 [.int .i64 r_37.1.Lo, .int .i64 r_37.1.Hi] 24 :: .row p_10 c_10 (b_10.map enc_api_Span) 24 2 :: .row p_9 c_9 (a_1.map enc_api_Span) 24 2 :: .box b_7 [.int .i64 r_5.Left, .int .i64 r_5.Right, .slice p_6 x.length c_6] 48 :: .box b_6 [.int .i64 r_4.1.Left, .int .i64 r_4.1.Right, .slice p_4 r_4.1.Verticals.length c_4] 48 :: .box b_5 [.pointer (some ⟨b_4, 0, none⟩)] 28 :: .box b_4 [.slice better_p better.length better_c, .int .i64 r_36.2.1, .int .i64 r_36.2.2] 104 :: Lf) w) ?_ ?_
            · cases hb : (r_37.2 == 0)
              · rw [hb] at hf
                refine stS hf rfl rfl rfl fun a hf => ?_
                refine stS hf rfl rfl rfl fun a hf => ?_
                refine stP hf rfl rfl rfl (pPf rfl rfl) fun a hf => ?_
                exact cNil ⟨hf.keep ⟨rfl, rfl, rfl, rfl, rfl, rfl, rfl, rfl, trivial⟩, hc⟩
              · rw [hb] at hf
                refine stP hf rfl rfl rfl (pM rfl) fun a hf => ?_
                refine stP hf rfl rfl rfl (pEq rfl rfl) fun a hf => ?_
                refine stP hf rfl rfl rfl (pPt rfl rfl) fun a hf => ?_
                exact cNil ⟨hf.keep ⟨rfl, rfl, rfl, rfl, rfl, rfl, rfl, rfl, trivial⟩, hc⟩
            intro a w ⟨hf, hc⟩
            refine stP hf rfl rfl rfl (pM rfl) fun a hf => ?_
            refine stCut 6 (fun a w => Has 335 a [(21, .pointer (some ⟨b_8, 0, none⟩)), (23, .pointer (some ⟨b_9, 0, none⟩)), (18, .int .i64 r_37.2), (20, .int .i64 r_38.2), (312, .int .i64 r_37.2), (313, .bool (r_37.2 == 0)), (314, .bool (r_37.2 == 0)), (317, .bool ((r_37.2 == 0) && (r_38.2 == 0))), (318, .bool ((r_37.2 == 0) && (r_38.2 == 0))), (324, .bool (((r_37.2 == 0) && (r_38.2 == 0)) && (decide (r_37.1.Lo ≤ r_38.1.Lo))))] ∧ Ctx G (.box b_18 [.int .i64 r_33.1.Lo, .int .i64 r_33.1.Hi, .int .i64 r_34.1.Lo, .int .i64 r_34.1.Hi, .int .i64 r_35.1.Lo, .int .i64 r_35.1.Hi, .int .i64 r_36.1.Lo, .int .i64 r_36.1.Hi] 26 :: .box b_16 [.int .i64 r_32.1.Rate.Lo, .int .i64 r_32.1.Rate.Hi, .int .i64 r_32.1.Strong.Lo, .int .i64 r_32.1.Strong.Hi, .int .i64 r_32.1.Found.Lo, .int .i64 r_32.1.Found.Hi, .int .i64 r_32.1.Clean.Lo, .int .i64 r_32.1.Clean.Hi] 26 :: .box b_3 [.slice errors_p errors.length errors_c, .int .i64 r_32.2.1, .int .i64 r_32.2.2] 104 :: .row (some ⟨b_15, 0, none⟩) 2 (([(⟨r_25.1, r_26.1, r_27.1, r_28.1, r_29.1⟩ : gauge_Leg), (⟨r_25.1, r_26.1, r_27.1, r_28.1, r_29.1⟩ : gauge_Leg)] : List gauge_Leg).map enc_gauge_Leg) 40 10 :: .row (some ⟨b_14, 0, none⟩) 2 (([(⟨r_16.1, r_18.1, r_20.1, r_22.1, r_24.1⟩ : gauge_Leg), (⟨r_16.1, r_18.1, r_20.1, r_22.1, r_24.1⟩ : gauge_Leg)] : List gauge_Leg).map enc_gauge_Leg) 40 10 :: .box b_13 [.int .i64 r_25.1.Lo, .int .i64 r_25.1.Hi, .int .i64 r_26.1.Lo, .int .i64 r_26.1.Hi, .int .i64 r_27.1.Lo, .int .i64 r_27.1.Hi, .int .i64 r_28.1.Lo, .int .i64 r_28.1.Hi, .int .i64 r_29.1.Lo, .int .i64 r_29.1.Hi] 40 :: .box b_11 [.int .i64 r_16.1.Lo, .int .i64 r_16.1.Hi, .int .i64 r_18.1.Lo, .int .i64 r_18.1.Hi, .int .i64 r_20.1.Lo, .int .i64 r_20.1.Hi, .int .i64 r_22.1.Lo, .int .i64 r_22.1.Hi, .int .i64 r_24.1.Lo, .int .i64 r_24.1.Hi] 40 :: .row p_6 c_6 (x.map enc_gauge_Vertical) 61 5 :: .row p_13 c_13 (r_11.1.map encI_i64) 3 1 :: .row p_14 c_14 (r_11.2.1.map encI_i64) 3 1 :: .row p_4 c_4 (r_4.1.Verticals.map enc_gauge_Vertical) 61 5 :: .row p_11 c_11 (r_10.1.map encI_i64) 3 1 :: .row p_12 c_12 (r_10.2.1.map encI_i64) 3 1 :: .box b_9 [.int .i64 r_38.1.Lo, .int .i64 r_38.1.Hi] 24 :: .box b_8 [.int .i64 r_37.1.Lo, .int .i64 r_37.1.Hi] 24 :: .row p_10 c_10 (b_10.map enc_api_Span) 24 2 :: .row p_9 c_9 (a_1.map enc_api_Span) 24 2 :: .box b_7 [.int .i64 r_5.Left, .int .i64 r_5.Right, .slice p_6 x.length c_6] 48 :: .box b_6 [.int .i64 r_4.1.Left, .int .i64 r_4.1.Right, .slice p_4 r_4.1.Verticals.length c_4] 48 :: .box b_5 [.pointer (some ⟨b_4, 0, none⟩)] 28 :: .box b_4 [.slice better_p better.length better_c, .int .i64 r_36.2.1, .int .i64 r_36.2.2] 104 :: Lf) w) ?_ ?_
            · cases hb : ((r_37.2 == 0) && (r_38.2 == 0))
              · rw [hb] at hf
                refine stS hf rfl rfl rfl fun a hf => ?_
                refine stS hf rfl rfl rfl fun a hf => ?_
                refine stS hf rfl rfl rfl fun a hf => ?_
                refine stS hf rfl rfl rfl fun a hf => ?_
                refine stS hf rfl rfl rfl fun a hf => ?_
                refine stP hf rfl rfl rfl (pPf rfl rfl) fun a hf => ?_
                exact cNil ⟨hf.keep ⟨rfl, rfl, rfl, rfl, rfl, rfl, rfl, rfl, rfl, rfl, trivial⟩, hc⟩
              · rw [hb] at hf
                refine stP hf rfl rfl rfl (pFA fa_24_0 rfl) fun a hf => ?_
                refine stE hf hc rfl rfl rfl (eLd1 sc_3 rfl (cell_box m13 rfl)) fun a w hf hc => ?_
                refine stP hf rfl rfl rfl (pFA fa_24_0 rfl) fun a hf => ?_
                refine stE hf hc rfl rfl rfl (eLd1 sc_3 rfl (cell_box m14 rfl)) fun a w hf hc => ?_
                refine stP hf rfl rfl rfl (pGe rfl rfl) fun a hf => ?_
                refine stP hf rfl rfl rfl (pPt rfl rfl) fun a hf => ?_
                exact cNil ⟨hf.keep ⟨rfl, rfl, rfl, rfl, rfl, rfl, rfl, rfl, rfl, rfl, trivial⟩, hc⟩
            intro a w ⟨hf, hc⟩
            refine stP hf rfl rfl rfl (pM rfl) fun a hf => ?_
            refine stCut 6 (fun a w => Has 335 a [(21, .pointer (some ⟨b_8, 0, none⟩)), (23, .pointer (some ⟨b_9, 0, none⟩)), (18, .int .i64 r_37.2), (20, .int .i64 r_38.2), (312, .int .i64 r_37.2), (313, .bool (r_37.2 == 0)), (314, .bool (r_37.2 == 0)), (317, .bool ((r_37.2 == 0) && (r_38.2 == 0))), (318, .bool ((r_37.2 == 0) && (r_38.2 == 0))), (324, .bool (((r_37.2 == 0) && (r_38.2 == 0)) && (decide (r_37.1.Lo ≤ r_38.1.Lo)))), (325, .bool (((r_37.2 == 0) && (r_38.2 == 0)) && (decide (r_37.1.Lo ≤ r_38.1.Lo)))), (331, .bool ((((r_37.2 == 0) && (r_38.2 == 0)) && (decide (r_37.1.Lo ≤ r_38.1.Lo))) && (decide (r_38.1.Hi ≤ r_37.1.Hi))))] ∧ Ctx G (.box b_18 [.int .i64 r_33.1.Lo, .int .i64 r_33.1.Hi, .int .i64 r_34.1.Lo, .int .i64 r_34.1.Hi, .int .i64 r_35.1.Lo, .int .i64 r_35.1.Hi, .int .i64 r_36.1.Lo, .int .i64 r_36.1.Hi] 26 :: .box b_16 [.int .i64 r_32.1.Rate.Lo, .int .i64 r_32.1.Rate.Hi, .int .i64 r_32.1.Strong.Lo, .int .i64 r_32.1.Strong.Hi, .int .i64 r_32.1.Found.Lo, .int .i64 r_32.1.Found.Hi, .int .i64 r_32.1.Clean.Lo, .int .i64 r_32.1.Clean.Hi] 26 :: .box b_3 [.slice errors_p errors.length errors_c, .int .i64 r_32.2.1, .int .i64 r_32.2.2] 104 :: .row (some ⟨b_15, 0, none⟩) 2 (([(⟨r_25.1, r_26.1, r_27.1, r_28.1, r_29.1⟩ : gauge_Leg), (⟨r_25.1, r_26.1, r_27.1, r_28.1, r_29.1⟩ : gauge_Leg)] : List gauge_Leg).map enc_gauge_Leg) 40 10 :: .row (some ⟨b_14, 0, none⟩) 2 (([(⟨r_16.1, r_18.1, r_20.1, r_22.1, r_24.1⟩ : gauge_Leg), (⟨r_16.1, r_18.1, r_20.1, r_22.1, r_24.1⟩ : gauge_Leg)] : List gauge_Leg).map enc_gauge_Leg) 40 10 :: .box b_13 [.int .i64 r_25.1.Lo, .int .i64 r_25.1.Hi, .int .i64 r_26.1.Lo, .int .i64 r_26.1.Hi, .int .i64 r_27.1.Lo, .int .i64 r_27.1.Hi, .int .i64 r_28.1.Lo, .int .i64 r_28.1.Hi, .int .i64 r_29.1.Lo, .int .i64 r_29.1.Hi] 40 :: .box b_11 [.int .i64 r_16.1.Lo, .int .i64 r_16.1.Hi, .int .i64 r_18.1.Lo, .int .i64 r_18.1.Hi, .int .i64 r_20.1.Lo, .int .i64 r_20.1.Hi, .int .i64 r_22.1.Lo, .int .i64 r_22.1.Hi, .int .i64 r_24.1.Lo, .int .i64 r_24.1.Hi] 40 :: .row p_6 c_6 (x.map enc_gauge_Vertical) 61 5 :: .row p_13 c_13 (r_11.1.map encI_i64) 3 1 :: .row p_14 c_14 (r_11.2.1.map encI_i64) 3 1 :: .row p_4 c_4 (r_4.1.Verticals.map enc_gauge_Vertical) 61 5 :: .row p_11 c_11 (r_10.1.map encI_i64) 3 1 :: .row p_12 c_12 (r_10.2.1.map encI_i64) 3 1 :: .box b_9 [.int .i64 r_38.1.Lo, .int .i64 r_38.1.Hi] 24 :: .box b_8 [.int .i64 r_37.1.Lo, .int .i64 r_37.1.Hi] 24 :: .row p_10 c_10 (b_10.map enc_api_Span) 24 2 :: .row p_9 c_9 (a_1.map enc_api_Span) 24 2 :: .box b_7 [.int .i64 r_5.Left, .int .i64 r_5.Right, .slice p_6 x.length c_6] 48 :: .box b_6 [.int .i64 r_4.1.Left, .int .i64 r_4.1.Right, .slice p_4 r_4.1.Verticals.length c_4] 48 :: .box b_5 [.pointer (some ⟨b_4, 0, none⟩)] 28 :: .box b_4 [.slice better_p better.length better_c, .int .i64 r_36.2.1, .int .i64 r_36.2.2] 104 :: Lf) w) ?_ ?_
            · cases hb : (((r_37.2 == 0) && (r_38.2 == 0)) && (decide (r_37.1.Lo ≤ r_38.1.Lo)))
              · rw [hb] at hf
                refine stS hf rfl rfl rfl fun a hf => ?_
                refine stS hf rfl rfl rfl fun a hf => ?_
                refine stS hf rfl rfl rfl fun a hf => ?_
                refine stS hf rfl rfl rfl fun a hf => ?_
                refine stS hf rfl rfl rfl fun a hf => ?_
                refine stP hf rfl rfl rfl (pPf rfl rfl) fun a hf => ?_
                exact cNil ⟨hf.keep ⟨rfl, rfl, rfl, rfl, rfl, rfl, rfl, rfl, rfl, rfl, rfl, rfl, trivial⟩, hc⟩
              · rw [hb] at hf
                refine stP hf rfl rfl rfl (pFA fa_24_1 rfl) fun a hf => ?_
                refine stE hf hc rfl rfl rfl (eLd1 sc_3 rfl (cell_box m13 rfl)) fun a w hf hc => ?_
                refine stP hf rfl rfl rfl (pFA fa_24_1 rfl) fun a hf => ?_
                refine stE hf hc rfl rfl rfl (eLd1 sc_3 rfl (cell_box m14 rfl)) fun a w hf hc => ?_
                refine stP hf rfl rfl rfl (pLe rfl rfl) fun a hf => ?_
                refine stP hf rfl rfl rfl (pPt rfl rfl) fun a hf => ?_
                exact cNil ⟨hf.keep ⟨rfl, rfl, rfl, rfl, rfl, rfl, rfl, rfl, rfl, rfl, rfl, rfl, trivial⟩, hc⟩
            intro a w ⟨hf, hc⟩
            refine stP hf rfl rfl rfl (pM rfl) fun a hf => ?_
            obtain ⟨t_4, ht_4, hF⟩ := bnd_some hF
            refine stCut 2 (fun a w => Has 335 a [(21, .pointer (some ⟨b_8, 0, none⟩)), (23, .pointer (some ⟨b_9, 0, none⟩)), (18, .int .i64 r_37.2), (20, .int .i64 r_38.2), (312, .int .i64 r_37.2), (313, .bool (r_37.2 == 0)), (314, .bool (r_37.2 == 0)), (317, .bool ((r_37.2 == 0) && (r_38.2 == 0))), (318, .bool ((r_37.2 == 0) && (r_38.2 == 0))), (324, .bool (((r_37.2 == 0) && (r_38.2 == 0)) && (decide (r_37.1.Lo ≤ r_38.1.Lo)))), (325, .bool (((r_37.2 == 0) && (r_38.2 == 0)) && (decide (r_37.1.Lo ≤ r_38.1.Lo)))), (331, .bool ((((r_37.2 == 0) && (r_38.2 == 0)) && (decide (r_37.1.Lo ≤ r_38.1.Lo))) && (decide (r_38.1.Hi ≤ r_37.1.Hi)))), (332, .bool ((((r_37.2 == 0) && (r_38.2 == 0)) && (decide (r_37.1.Lo ≤ r_38.1.Lo))) && (decide (r_38.1.Hi ≤ r_37.1.Hi)))), (334, .bool t_4)] ∧ Ctx G (.box b_18 [.int .i64 r_33.1.Lo, .int .i64 r_33.1.Hi, .int .i64 r_34.1.Lo, .int .i64 r_34.1.Hi, .int .i64 r_35.1.Lo, .int .i64 r_35.1.Hi, .int .i64 r_36.1.Lo, .int .i64 r_36.1.Hi] 26 :: .box b_16 [.int .i64 r_32.1.Rate.Lo, .int .i64 r_32.1.Rate.Hi, .int .i64 r_32.1.Strong.Lo, .int .i64 r_32.1.Strong.Hi, .int .i64 r_32.1.Found.Lo, .int .i64 r_32.1.Found.Hi, .int .i64 r_32.1.Clean.Lo, .int .i64 r_32.1.Clean.Hi] 26 :: .box b_3 [.slice errors_p errors.length errors_c, .int .i64 r_32.2.1, .int .i64 r_32.2.2] 104 :: .row (some ⟨b_15, 0, none⟩) 2 (([(⟨r_25.1, r_26.1, r_27.1, r_28.1, r_29.1⟩ : gauge_Leg), (⟨r_25.1, r_26.1, r_27.1, r_28.1, r_29.1⟩ : gauge_Leg)] : List gauge_Leg).map enc_gauge_Leg) 40 10 :: .row (some ⟨b_14, 0, none⟩) 2 (([(⟨r_16.1, r_18.1, r_20.1, r_22.1, r_24.1⟩ : gauge_Leg), (⟨r_16.1, r_18.1, r_20.1, r_22.1, r_24.1⟩ : gauge_Leg)] : List gauge_Leg).map enc_gauge_Leg) 40 10 :: .box b_13 [.int .i64 r_25.1.Lo, .int .i64 r_25.1.Hi, .int .i64 r_26.1.Lo, .int .i64 r_26.1.Hi, .int .i64 r_27.1.Lo, .int .i64 r_27.1.Hi, .int .i64 r_28.1.Lo, .int .i64 r_28.1.Hi, .int .i64 r_29.1.Lo, .int .i64 r_29.1.Hi] 40 :: .box b_11 [.int .i64 r_16.1.Lo, .int .i64 r_16.1.Hi, .int .i64 r_18.1.Lo, .int .i64 r_18.1.Hi, .int .i64 r_20.1.Lo, .int .i64 r_20.1.Hi, .int .i64 r_22.1.Lo, .int .i64 r_22.1.Hi, .int .i64 r_24.1.Lo, .int .i64 r_24.1.Hi] 40 :: .row p_6 c_6 (x.map enc_gauge_Vertical) 61 5 :: .row p_13 c_13 (r_11.1.map encI_i64) 3 1 :: .row p_14 c_14 (r_11.2.1.map encI_i64) 3 1 :: .row p_4 c_4 (r_4.1.Verticals.map enc_gauge_Vertical) 61 5 :: .row p_11 c_11 (r_10.1.map encI_i64) 3 1 :: .row p_12 c_12 (r_10.2.1.map encI_i64) 3 1 :: .box b_9 [.int .i64 r_38.1.Lo, .int .i64 r_38.1.Hi] 24 :: .box b_8 [.int .i64 r_37.1.Lo, .int .i64 r_37.1.Hi] 24 :: .row p_10 c_10 (b_10.map enc_api_Span) 24 2 :: .row p_9 c_9 (a_1.map enc_api_Span) 24 2 :: .box b_7 [.int .i64 r_5.Left, .int .i64 r_5.Right, .slice p_6 x.length c_6] 48 :: .box b_6 [.int .i64 r_4.1.Left, .int .i64 r_4.1.Right, .slice p_4 r_4.1.Verticals.length c_4] 48 :: .box b_5 [.pointer (some ⟨b_4, 0, none⟩)] 28 :: .box b_4 [.slice better_p better.length better_c, .int .i64 r_36.2.1, .int .i64 r_36.2.2] 104 :: Lf) w) ?_ ?_
            · cases hb : ((((r_37.2 == 0) && (r_38.2 == 0)) && (decide (r_37.1.Lo ≤ r_38.1.Lo))) && (decide (r_38.1.Hi ≤ r_37.1.Hi)))
              · rw [hb] at hf
                have hF := condF hb ht_4
                obtain rfl := Option.some.inj hF
                refine stS hf rfl rfl rfl fun a hf => ?_
                refine stP hf rfl rfl rfl (pPf rfl rfl) fun a hf => ?_
                exact cNil ⟨hf.keep ⟨rfl, rfl, rfl, rfl, rfl, rfl, rfl, rfl, rfl, rfl, rfl, rfl, rfl, rfl, trivial⟩, hc⟩
              · rw [hb] at hf
                have hF := condT hb ht_4
                obtain ⟨r_39, hr_39, hF⟩ := bnd_some hF
                refine stE hf hc rfl rfl rfl (eC (v := .bool r_39) (vs := []) (caps := []) en_15 rfl rfl rfl rfl (fun w hc => law03_awake_ok hc hr_39)) fun a w hf hc => ?_
                refine stP hf rfl rfl rfl (pPt rfl rfl) fun a hf => ?_
                obtain rfl := Option.some.inj hF
                exact cNil ⟨hf.keep ⟨rfl, rfl, rfl, rfl, rfl, rfl, rfl, rfl, rfl, rfl, rfl, rfl, rfl, rfl, trivial⟩, hc⟩
            intro a w ⟨hf, hc⟩
            refine stP hf rfl rfl rfl (pA rfl) fun a hf => ?_
            refine cNil ?_
            refine h36 _ _ ?_
            refine wp_ret ?_
            obtain rfl := Option.some.inj hF
            replace hc := hc.drop k20
            replace hc := hc.drop k19
            replace hc := hc.drop k18
            replace hc := hc.drop k17
            replace hc := hc.drop k16
            replace hc := hc.drop k15
            replace hc := hc.drop k14
            replace hc := hc.drop k13
            replace hc := hc.drop k12
            replace hc := hc.drop k11
            replace hc := hc.drop k10
            replace hc := hc.drop k9
            replace hc := hc.drop k8
            replace hc := hc.drop k7
            replace hc := hc.drop k6
            replace hc := hc.drop k5
            replace hc := hc.drop k4
            replace hc := hc.drop k3
            replace hc := hc.drop k2
            replace hc := hc.drop k1
            replace hc := hc.drop k0
            exact fnOut1 (by simp) rfl Try.results6 hf hc (show look _ 8 = _ from rfl) ⟨rfl, hc⟩
      have ho19 : ∀ r, x19 = .out r → r = res := by
        rintro r rfl
        exact Option.some.inj hF
      refine cLoop N (loopW (S := S19) (x := x19) ?_ N (r_6.1, r_7.1, 0) _ _ ⟨p_7, c_7, p_8, c_8, hf.keep ⟨rfl, rfl, rfl, rfl, rfl, rfl, rfl, rfl, rfl, rfl, rfl, trivial⟩, hc⟩ hx19)
      clear hF hf hc
      rintro ⟨a_1, b_10, x_4⟩ st19 a w KB19 ⟨p_9, c_9, p_10, c_10, hf, hc⟩ hF hfin19 hK19
      unfold law03_GaugeBetter_b19 at hF
      refine wp_seq_k fun K37 h37 => ?_
      refine cReg ?_
      refine stP hf rfl rfl rfl (pLt rfl rfl) fun a hf => ?_
      refine cNil ?_
      refine h37 _ _ ?_
      refine wp_seq_k fun K38 h38 => ?_
      refine cCond (b := (decide (x_4 < ((r_6.1.length : Nat) : Int)))) hf rfl (fun hb => ?_) (fun hb => ?_)
      · replace hF := condT hb hF
        clear hb
        refine wp_skip ?_
        refine h38 _ _ ?_
        refine wp_seq_k fun K39 h39 => ?_
        refine wp_block ?_
        refine wp_seq_k fun K40 h40 => ?_
        refine cReg ?_
        refine stP hf rfl rfl rfl (pM rfl) fun a hf => ?_
        refine stP hf rfl rfl rfl (pA rfl) fun a hf => ?_
        refine cNil ?_
        refine h40 _ _ ?_
        refine wp_seq_k fun K41 h41 => ?_
        obtain ⟨e_1, he_1, hF⟩ := bnd_some hF
        obtain ⟨g, rfl, ha, hr⟩ := row_atm hc m3 he_1
        obtain ⟨e_2, he_2, hF⟩ := bnd_some hF
        obtain ⟨g_1, rfl, ha_1, hr_1⟩ := row_atm hc m5 he_2
        obtain ⟨t_5, ht_5, hF⟩ := bnd_some hF
        refine cQ hc follows_mx (by kernel_rfl) ?_
        refine qE hf rfl rfl rfl (Pu.ev (pM rfl)) fun a hf => ?_
        refine qE hf rfl rfl rfl (Pu.ev (pM rfl)) fun a hf => ?_
        refine qE hf rfl rfl rfl (Pu.ev (pIA Try.underlying72 sz_24 rfl rfl ha)) fun a hf => ?_
        refine qE hf rfl rfl rfl (Pu.ev (pFA fa_24_0 rfl)) fun a hf => ?_
        refine qE hf rfl rfl rfl (eLd1 sc_3 rfl (cell_row (j := 0) m3 hr rfl)) fun a hf => ?_
        refine qE hf rfl rfl rfl (Pu.ev (pM rfl)) fun a hf => ?_
        refine qE hf rfl rfl rfl (Pu.ev (pM rfl)) fun a hf => ?_
        refine qE hf rfl rfl rfl (Pu.ev (pIA Try.underlying72 sz_24 rfl rfl ha_1)) fun a hf => ?_
        refine qE hf rfl rfl rfl (Pu.ev (pFA fa_24_0 rfl)) fun a hf => ?_
        refine qE hf rfl rfl rfl (eLd1 sc_3 rfl (cell_row (j := 0) m5 hr_1 rfl)) fun a hf => ?_
        refine qE hf rfl rfl rfl (Pu.ev (pLt rfl rfl)) fun a hf => ?_
        refine qE hf rfl rfl rfl (Pu.ev (pM rfl)) fun a hf => ?_
        refine qCut 12 (fun a => Has 335 a [(3, .int .u16 permille), (10, .pointer (some ⟨b_3, 0, none⟩)), (12, .pointer (some ⟨b_6, 0, none⟩)), (13, .func (.func 30) #[] #[.pointer (some ⟨b_5, 0, none⟩)]), (14, .pointer (some ⟨b_7, 0, none⟩)), (17, .slice (some ⟨g_1, 0, none⟩) a_1.length c_9), (19, .slice (some ⟨g, 0, none⟩) b_10.length c_10), (21, .pointer (some ⟨b_8, 0, none⟩)), (23, .pointer (some ⟨b_9, 0, none⟩)), (136, .int .i64 ((r_6.1.length : Nat) : Int)), (137, .int .i64 x_4), (25, .int .i64 x_4), (140, .slice (some ⟨g, 0, none⟩) b_10.length c_10), (141, .int .i64 x_4), (142, .pointer (some ⟨g, x_4.toNat * 2, none⟩)), (143, .pointer (some ⟨g, x_4.toNat * 2 + 0, none⟩)), (144, .int .i64 e_1.Lo), (145, .slice (some ⟨g_1, 0, none⟩) a_1.length c_9), (146, .int .i64 x_4), (147, .pointer (some ⟨g_1, x_4.toNat * 2, none⟩)), (148, .pointer (some ⟨g_1, x_4.toNat * 2 + 0, none⟩)), (149, .int .i64 e_2.Lo), (150, .bool (decide (e_1.Lo < e_2.Lo))), (151, .bool (decide (e_1.Lo < e_2.Lo))), (163, .bool t_5)]) ?_ ?_
        · cases hb : (decide (e_1.Lo < e_2.Lo))
          · rw [hb] at hf
            have hF := condF hb ht_5
            obtain ⟨e_3, he_3, hF⟩ := bnd_some hF
            obtain ⟨ha_2, hr_2⟩ := row_atk hc m3 he_3
            obtain ⟨e_4, he_4, hF⟩ := bnd_some hF
            obtain ⟨ha_3, hr_3⟩ := row_atk hc m5 he_4
            refine qE hf rfl rfl rfl (Pu.ev (pM rfl)) fun a hf => ?_
            refine qE hf rfl rfl rfl (Pu.ev (pM rfl)) fun a hf => ?_
            refine qE hf rfl rfl rfl (Pu.ev (pIA Try.underlying72 sz_24 rfl rfl ha_2)) fun a hf => ?_
            refine qE hf rfl rfl rfl (Pu.ev (pFA fa_24_1 rfl)) fun a hf => ?_
            refine qE hf rfl rfl rfl (eLd1 sc_3 rfl (cell_row (j := 1) m3 hr_2 rfl)) fun a hf => ?_
            refine qE hf rfl rfl rfl (Pu.ev (pM rfl)) fun a hf => ?_
            refine qE hf rfl rfl rfl (Pu.ev (pM rfl)) fun a hf => ?_
            refine qE hf rfl rfl rfl (Pu.ev (pIA Try.underlying72 sz_24 rfl rfl ha_3)) fun a hf => ?_
            refine qE hf rfl rfl rfl (Pu.ev (pFA fa_24_1 rfl)) fun a hf => ?_
            refine qE hf rfl rfl rfl (eLd1 sc_3 rfl (cell_row (j := 1) m5 hr_3 rfl)) fun a hf => ?_
            refine qE hf rfl rfl rfl (Pu.ev (pGt rfl rfl)) fun a hf => ?_
            refine qE hf rfl rfl rfl (Pu.ev (pPf rfl rfl)) fun a hf => ?_
            obtain rfl := Option.some.inj hF
            exact qNil (hf.keep ⟨rfl, rfl, rfl, rfl, rfl, rfl, rfl, rfl, rfl, rfl, rfl, rfl, rfl, rfl, rfl, rfl, rfl, rfl, rfl, rfl, rfl, rfl, rfl, rfl, rfl, trivial⟩)
          · rw [hb] at hf
            have hF := condT hb ht_5
            obtain rfl := Option.some.inj hF
            refine qS hf rfl rfl rfl fun a hf => ?_
            refine qS hf rfl rfl rfl fun a hf => ?_
            refine qS hf rfl rfl rfl fun a hf => ?_
            refine qS hf rfl rfl rfl fun a hf => ?_
            refine qS hf rfl rfl rfl fun a hf => ?_
            refine qS hf rfl rfl rfl fun a hf => ?_
            refine qS hf rfl rfl rfl fun a hf => ?_
            refine qS hf rfl rfl rfl fun a hf => ?_
            refine qS hf rfl rfl rfl fun a hf => ?_
            refine qS hf rfl rfl rfl fun a hf => ?_
            refine qS hf rfl rfl rfl fun a hf => ?_
            refine qE hf rfl rfl rfl (Pu.ev (pPt rfl rfl)) fun a hf => ?_
            exact qNil (hf.keep ⟨rfl, rfl, rfl, rfl, rfl, rfl, rfl, rfl, rfl, rfl, rfl, rfl, rfl, rfl, rfl, rfl, rfl, rfl, rfl, rfl, rfl, rfl, rfl, rfl, rfl, trivial⟩)
        intro a hf
        intro w hc
        refine h41 _ _ ?_
        refine cCond (b := t_5) hf rfl (fun hb => ?_) (fun hb => ?_)
        · replace hF := condT hb hF
          clear hb
          refine wp_seq_k fun K42 h42 => ?_
          refine cReg ?_
          refine stP hf rfl rfl rfl (pA rfl) fun a hf => ?_
          refine cNil ?_
          refine h42 _ _ ?_
          refine wp_ret ?_
          refine xBlkR ?_
          refine xThenR ?_
          refine xThenR ?_
          have he := Option.some.inj hF
          rw [← he] at hfin19
          replace hF := ho19 _ hfin19
          refine xBlkR ?_
          refine xThenR ?_
          obtain rfl := hF
          replace hc := hc.drop k10
          replace hc := hc.drop k9
          replace hc := hc.drop k8
          replace hc := hc.drop k7
          replace hc := hc.drop k6
          replace hc := hc.drop k5
          replace hc := hc.drop k4
          replace hc := hc.drop k3
          replace hc := hc.drop k2
          replace hc := hc.drop k1
          replace hc := hc.drop k0
          exact fnOut1 (by simp) rfl Try.results6 hf hc (show look _ 8 = _ from rfl) ⟨rfl, hc⟩
        · replace hF := condF hb hF
          clear hb
          refine wp_skip ?_
          refine h39 _ _ ?_
          refine cReg ?_
          refine stP hf rfl rfl rfl (pAdd rfl rfl) fun a hf => ?_
          refine stP hf rfl rfl rfl (pM rfl) fun a hf => ?_
          refine cNil ?_
          exact hK19 (a_1, b_10, W (x_4 + 1)) _ _ (Option.some.inj hF).symm ⟨(some ⟨g_1, 0, none⟩), c_9, (some ⟨g, 0, none⟩), c_10, hf.keep ⟨rfl, rfl, rfl, rfl, rfl, rfl, rfl, rfl, rfl, rfl, rfl, trivial⟩, hc⟩
      · replace hF := condF hb hF
        clear hb
        refine wp_exit ?_
        refine xThen ?_
        refine xThen ?_
        have he := Option.some.inj hF
        rw [← he] at hfin19
        refine cHit ?_
        exact hr19 _ _ _ hfin19 ⟨p_9, c_9, p_10, c_10, hf.keep ⟨rfl, rfl, rfl, rfl, rfl, rfl, rfl, rfl, rfl, rfl, rfl, trivial⟩, hc⟩
  have ho9 : ∀ r, x9 = .out r → r = res := by
    rintro r rfl
    exact Option.some.inj hF
  replace hc := hc.drop k11
  replace hc := hc.drop k10
  replace hc := hc.drop k6
  replace hc := hc.drop k5
  replace hc := hc.drop k4
  refine cLoop N (loopW (S := S9) (x := x9) ?_ N (r_5.Verticals, 0, r_3.1, r_3.2) _ _ ⟨p_5, c_5, hf.keep ⟨rfl, rfl, rfl, rfl, rfl, rfl, rfl, rfl, rfl, trivial⟩, hc⟩ hx9)
  clear hF hf hc
  rintro ⟨x, x_1, x_2, x_3⟩ st9 a w KB9 ⟨p_6, c_6, hf, hc⟩ hF hfin9 hK9
  unfold law03_GaugeBetter_b9 at hF
  refine wp_seq_k fun K43 h43 => ?_
  refine cReg ?_
  refine stP hf rfl rfl rfl (pLt rfl rfl) fun a hf => ?_
  refine cNil ?_
  refine h43 _ _ ?_
  refine wp_seq_k fun K44 h44 => ?_
  refine cCond (b := (decide (x_1 < ((r_5.Verticals.length : Nat) : Int)))) hf rfl (fun hb => ?_) (fun hb => ?_)
  · replace hF := condT hb hF
    clear hb
    refine wp_skip ?_
    refine h44 _ _ ?_
    refine wp_seq_k fun K45 h45 => ?_
    have hj45 : ∀ (x_5 : List gauge_Vertical) (x_6 : Int) (x_7 : Int) (p_15 : Option Addr) (c_15 : Nat) a w, Has 335 a [(3, .int .u16 permille), (10, .pointer (some ⟨b_3, 0, none⟩)), (11, .pointer (some ⟨b_5, 0, none⟩)), (12, .pointer (some ⟨b_6, 0, none⟩)), (13, .func (.func 30) #[] #[.pointer (some ⟨b_5, 0, none⟩)]), (14, .pointer (some ⟨b_7, 0, none⟩)), (48, .slice p_15 x_5.length c_15), (49, .int .i64 ((r_5.Verticals.length : Nat) : Int)), (50, .int .i64 x_1)] → Ctx G (.box b_4 [.slice better_p better.length better_c, .int .i64 x_6, .int .i64 x_7] 104 :: .box b_7 [.int .i64 r_5.Left, .int .i64 r_5.Right, .slice p_15 x_5.length c_15] 48 :: .row p_4 c_4 (r_4.1.Verticals.map enc_gauge_Vertical) 61 5 :: .row p_15 c_15 (x_5.map enc_gauge_Vertical) 61 5 :: .box b_6 [.int .i64 r_4.1.Left, .int .i64 r_4.1.Right, .slice p_4 r_4.1.Verticals.length c_4] 48 :: .box b_3 [.slice errors_p errors.length errors_c, .int .i64 r_4.2.1, .int .i64 r_4.2.2] 104 :: .box b_5 [.pointer (some ⟨b_4, 0, none⟩)] 28 :: Lf) w → law03_GaugeBetter_j45 N x_1 x_5 x_6 x_7 = some st9 → K45 a w := by
      intro x_5 x_6 x_7 p_15 c_15 a w hf hc hF
      unfold law03_GaugeBetter_j45 at hF
      refine h45 _ _ ?_
      refine cReg ?_
      refine stP hf rfl rfl rfl (pAdd rfl rfl) fun a hf => ?_
      refine stP hf rfl rfl rfl (pM rfl) fun a hf => ?_
      refine cNil ?_
      replace hc := hc.pick k0
      replace hc := hc.pick k6
      replace hc := hc.pick k6
      replace hc := hc.pick k6
      replace hc := hc.pick k6
      replace hc := hc.pick k6
      replace hc := hc.pick k6
      exact hK9 (x_5, W (x_1 + 1), x_6, x_7) _ _ (Option.some.inj hF).symm ⟨p_15, c_15, hf.keep ⟨rfl, rfl, rfl, rfl, rfl, rfl, rfl, rfl, rfl, trivial⟩, hc⟩
    refine wp_block ?_
    refine wp_seq_k fun K46 h46 => ?_
    refine cReg ?_
    refine stP hf rfl rfl rfl (pM rfl) fun a hf => ?_
    obtain ⟨e_5, he_5, hF⟩ := bnd_some hF
    obtain ⟨g_2, rfl, ha_4, hr_4⟩ := row_atm hc m2 he_5
    refine stP hf rfl rfl rfl (pIA Try.underlying46 sz_61 rfl rfl ha_4) fun a hf => ?_
    refine stE hf hc rfl rfl rfl (eLdN (vs := [.int .i64 e_5.At, .int .i64 e_5.Depth.Lo, .int .i64 e_5.Depth.Hi, .int .i64 e_5.Speed.Lo, .int .i64 e_5.Speed.Hi]) ag_61 rfl rfl (cells_rw m2 hr_4 (n := 5) (o' := 0) rfl)) fun a w hf hc => ?_
    refine stAl (cs := [.int .i64 0, .int .i64 0, .int .i64 0, .int .i64 0, .int .i64 0]) hf hc rfl rfl zr_61 rfl fun b_19 a w hf hc => ?_
    refine stP hf rfl rfl rfl (pA rfl) fun a hf => ?_
    refine stSt (vs := [.int .i64 e_5.At, .int .i64 e_5.Depth.Lo, .int .i64 e_5.Depth.Hi, .int .i64 e_5.Speed.Lo, .int .i64 e_5.Speed.Hi]) hf hc rfl rfl rfl rfl sz_61 rfl rfl u0 fun w hc => ?_
    refine cNil ?_
    refine h46 _ _ ?_
    refine wp_seq_k fun K47 h47 => ?_
    have hj47 : ∀ (x_8 : List gauge_Vertical) (x_9 : Int) (x_10 : Int) (p_16 : Option Addr) (c_16 : Nat) a w, Has 335 a [(3, .int .u16 permille), (10, .pointer (some ⟨b_3, 0, none⟩)), (11, .pointer (some ⟨b_5, 0, none⟩)), (12, .pointer (some ⟨b_6, 0, none⟩)), (13, .func (.func 30) #[] #[.pointer (some ⟨b_5, 0, none⟩)]), (14, .pointer (some ⟨b_7, 0, none⟩)), (15, .int .i64 x_1), (16, .pointer (some ⟨b_19, 0, none⟩)), (48, .slice p_16 x_8.length c_16), (49, .int .i64 ((r_5.Verticals.length : Nat) : Int)), (50, .int .i64 x_1)] → Ctx G (.box b_4 [.slice better_p better.length better_c, .int .i64 x_9, .int .i64 x_10] 104 :: .box b_19 [.int .i64 e_5.At, .int .i64 e_5.Depth.Lo, .int .i64 e_5.Depth.Hi, .int .i64 e_5.Speed.Lo, .int .i64 e_5.Speed.Hi] 61 :: .box b_7 [.int .i64 r_5.Left, .int .i64 r_5.Right, .slice p_16 x_8.length c_16] 48 :: .row p_4 c_4 (r_4.1.Verticals.map enc_gauge_Vertical) 61 5 :: .row p_16 c_16 (x_8.map enc_gauge_Vertical) 61 5 :: .box b_6 [.int .i64 r_4.1.Left, .int .i64 r_4.1.Right, .slice p_4 r_4.1.Verticals.length c_4] 48 :: .box b_3 [.slice errors_p errors.length errors_c, .int .i64 r_4.2.1, .int .i64 r_4.2.2] 104 :: .box b_5 [.pointer (some ⟨b_4, 0, none⟩)] 28 :: Lf) w → law03_GaugeBetter_j47 N better x_1 e_5 x_8 x_9 x_10 = some st9 → K47 a w := by
      intro x_8 x_9 x_10 p_16 c_16 a w hf hc hF
      unfold law03_GaugeBetter_j47 at hF
      refine h47 _ _ ?_
      refine wp_seq_k fun K48 h48 => ?_
      refine cReg ?_
      refine stE hf hc rfl rfl rfl (eLd1 sc_28 rfl (cell_box m7 rfl)) fun a w hf hc => ?_
      obtain ⟨r_40, hr_40, hF⟩ := bnd_some hF
      refine stC (vs := [.pointer (some ⟨b_4, 0, none⟩), .int .i64 2]) (caps := []) hf rfl rfl rfl en_16 rfl rfl rfl rfl (kit_Stream_Next_ok (⟨better, x_9, x_10⟩ : kit_Stream) 2 h_better (hc.pick k0) hr_40) ?_
      rintro _ w ⟨rfl, hc⟩
      refine ⟨_, rfl, fun a hf => ?_⟩
      refine stP hf rfl rfl rfl (pEq rfl rfl) fun a hf => ?_
      refine cNil ?_
      refine h48 _ _ ?_
      refine cCond (b := (r_40.1 == 0)) hf rfl (fun hb => ?_) (fun hb => ?_)
      · replace hF := condT hb hF
        clear hb
        obtain ⟨r_41, hr_41, hF⟩ := bnd_some hF
        obtain ⟨e_6, he_6, hF⟩ := bnd_some hF
        obtain ⟨g_3, rfl, ha_5, hr_5⟩ := row_atm hc m4 he_6
        refine regionE (fun θ => [⟨none, none, 3, .int .u16 permille⟩, ⟨none, none, 10, .pointer (some ⟨b_3, 0, none⟩)⟩, ⟨none, none, 11, .pointer (some ⟨b_5, 0, none⟩)⟩, ⟨none, none, 12, .pointer (some ⟨b_6, 0, none⟩)⟩, ⟨none, none, 13, .func (.func 30) #[] #[.pointer (some ⟨b_5, 0, none⟩)]⟩, ⟨none, none, 14, .pointer (some ⟨b_7, 0, none⟩)⟩, ⟨none, none, 15, .int .i64 x_1⟩, ⟨none, none, 16, .pointer (some ⟨b_19, 0, none⟩)⟩, ⟨none, none, 48, .slice (some ⟨g_3, 0, none⟩) x_8.length c_16⟩, ⟨none, none, 49, .int .i64 ((r_5.Verticals.length : Nat) : Int)⟩, ⟨none, none, 50, .int .i64 x_1⟩, ⟨some 0, none, 70, .pointer (some ⟨b_7, 2, none⟩)⟩, ⟨some 1, none, 71, .slice (some ⟨g_3, 0, none⟩) x_8.length c_16⟩, ⟨some 2, none, 72, .int .i64 x_1⟩, ⟨some 3, none, 73, .func (.func 30) #[] #[.pointer (some ⟨b_5, 0, none⟩)]⟩, ⟨some 4, none, 74, .pointer (some ⟨b_19, 3, none⟩)⟩, ⟨some 5, none, 75, .agg #[.int .i64 e_5.Speed.Lo, .int .i64 e_5.Speed.Hi]⟩, ⟨some 6, none, 76, .agg #[.int .i64 r_41.1.Lo, .int .i64 r_41.1.Hi]⟩, ⟨some 7, none, 77, .pointer (some ⟨g_3, x_1.toNat * 5, none⟩)⟩, ⟨some 8, none, 78, .pointer (some ⟨g_3, x_1.toNat * 5 + 3, none⟩)⟩]) (fun E θ => (bif E 6 then .box b_4 [.slice better_p better.length better_c, .int .i64 r_41.2.1, .int .i64 r_41.2.2] 104 else .box b_4 [.slice better_p better.length better_c, .int .i64 r_40.2.1, .int .i64 r_40.2.2] 104) :: .box b_19 [.int .i64 e_5.At, .int .i64 e_5.Depth.Lo, .int .i64 e_5.Depth.Hi, .int .i64 e_5.Speed.Lo, .int .i64 e_5.Speed.Hi] 61 :: (bif E 7 then .box b_7 [.int .i64 r_5.Left, .int .i64 r_5.Right, .slice (some ⟨g_3, 0, none⟩) x_8.length c_16] 48 else .box b_7 [.int .i64 r_5.Left, .int .i64 r_5.Right, .slice (some ⟨g_3, 0, none⟩) x_8.length c_16] 48) :: .row p_4 c_4 (r_4.1.Verticals.map enc_gauge_Vertical) 61 5 :: (bif E 9 then .row (some ⟨g_3, 0, none⟩) c_16 ((x_8.set x_1.toNat (⟨e_6.At, e_6.Depth, r_41.1⟩ : gauge_Vertical)).map enc_gauge_Vertical) 61 5 else .row (some ⟨g_3, 0, none⟩) c_16 (x_8.map enc_gauge_Vertical) 61 5) :: .box b_6 [.int .i64 r_4.1.Left, .int .i64 r_4.1.Right, .slice p_4 r_4.1.Verticals.length c_4] 48 :: .box b_3 [.slice errors_p errors.length errors_c, .int .i64 r_4.2.1, .int .i64 r_4.2.2] 104 :: .box b_5 [.pointer (some ⟨b_4, 0, none⟩)] 28 :: Lf) [(7, 1), (8, 7), (9, 8)] (fun a w => Has 335 a [(3, .int .u16 permille), (10, .pointer (some ⟨b_3, 0, none⟩)), (11, .pointer (some ⟨b_5, 0, none⟩)), (12, .pointer (some ⟨b_6, 0, none⟩)), (13, .func (.func 30) #[] #[.pointer (some ⟨b_5, 0, none⟩)]), (14, .pointer (some ⟨b_7, 0, none⟩)), (48, .slice (some ⟨g_3, 0, none⟩) x_8.length c_16), (49, .int .i64 ((r_5.Verticals.length : Nat) : Int)), (50, .int .i64 x_1)] ∧ Ctx G (.box b_4 [.slice better_p better.length better_c, .int .i64 r_41.2.1, .int .i64 r_41.2.2] 104 :: .box b_19 [.int .i64 e_5.At, .int .i64 e_5.Depth.Lo, .int .i64 e_5.Depth.Hi, .int .i64 e_5.Speed.Lo, .int .i64 e_5.Speed.Hi] 61 :: .box b_7 [.int .i64 r_5.Left, .int .i64 r_5.Right, .slice (some ⟨g_3, 0, none⟩) x_8.length c_16] 48 :: .row p_4 c_4 (r_4.1.Verticals.map enc_gauge_Vertical) 61 5 :: .row (some ⟨g_3, 0, none⟩) c_16 ((x_8.set x_1.toNat (⟨e_6.At, e_6.Depth, r_41.1⟩ : gauge_Vertical)).map enc_gauge_Vertical) 61 5 :: .box b_6 [.int .i64 r_4.1.Left, .int .i64 r_4.1.Right, .slice p_4 r_4.1.Verticals.length c_4] 48 :: .box b_3 [.slice errors_p errors.length errors_c, .int .i64 r_4.2.1, .int .i64 r_4.2.2] 104 :: .box b_5 [.pointer (some ⟨b_4, 0, none⟩)] 28 :: Lf) w) follows_mx (by kernel_rfl) (by kernel_rfl) (HasE.of hf ⟨rfl, rfl, rfl, rfl, rfl, rfl, rfl, rfl, rfl, rfl, rfl, trivial, trivial, trivial, trivial, trivial, trivial, trivial, trivial, trivial, trivial⟩) hc ⟨?_, ?_, ?_, ?_, ?_, ?_, ?_, ?_, ?_, ?_, trivial⟩ ?_ ?_
        · intro E θ a w hD hi hp he hc
          have hf := he.h0
          replace hf := hf.more he 5 rfl onT
          refine stP hf rfl rfl rfl (pFA fa_48_2 rfl) fun a hf => ?_
          refine cNil ?_
          refine xThenN ?_
          intro ds u hau
          refine ⟨θ, he.put0 hi hau hf rfl 11 rfl rfl, ?_⟩
          exact hc
        · intro E θ a w hD hi hp he hc
          have e0 := hp.of (k := 0) rfl
          have e7 := hD.f 0 rfl hi
          try dsimp only at hc
          rw [e7] at hc
          have hf := he.h0
          replace hf := hf.more he 11 rfl (onP e0)
          refine stE hf hc rfl rfl rfl (eLd1 sc_46 rfl (cell_box m2 rfl)) fun a w hf hc => ?_
          refine cNil ?_
          refine xThenN ?_
          intro ds u hau
          refine ⟨θ, he.put0 hi hau hf rfl 12 rfl rfl, ?_⟩
          try dsimp only
          rw [updE_fls 1 e7 rfl]
          exact hc
        · intro E θ a w hD hi hp he hc
          have hf := he.h0
          replace hf := hf.more he 6 rfl onT
          refine stP hf rfl rfl rfl (pM rfl) fun a hf => ?_
          refine cNil ?_
          refine xThenN ?_
          intro ds u hau
          refine ⟨θ, he.put0 hi hau hf rfl 13 rfl rfl, ?_⟩
          exact hc
        · intro E θ a w hD hi hp he hc
          have hf := he.h0
          replace hf := hf.more he 4 rfl onT
          refine stP hf rfl rfl rfl (pM rfl) fun a hf => ?_
          refine cNil ?_
          refine xThenN ?_
          intro ds u hau
          refine ⟨θ, he.put0 hi hau hf rfl 14 rfl rfl, ?_⟩
          exact hc
        · intro E θ a w hD hi hp he hc
          have hf := he.h0
          replace hf := hf.more he 7 rfl onT
          refine stP hf rfl rfl rfl (pFA fa_61_2 rfl) fun a hf => ?_
          refine cNil ?_
          refine xThenN ?_
          intro ds u hau
          refine ⟨θ, he.put0 hi hau hf rfl 15 rfl rfl, ?_⟩
          exact hc
        · intro E θ a w hD hi hp he hc
          have e4 := hp.of (k := 4) rfl
          have hf := he.h0
          replace hf := hf.more he 15 rfl (onP e4)
          refine stE hf hc rfl rfl rfl (eLdN (vs := [.int .i64 e_5.Speed.Lo, .int .i64 e_5.Speed.Hi]) ag_24 rfl rfl (cells_box (n := 2) m1 rfl)) fun a w hf hc => ?_
          refine cNil ?_
          refine xThenN ?_
          intro ds u hau
          refine ⟨θ, he.put0 hi hau hf rfl 16 rfl rfl, ?_⟩
          exact hc
        · intro E θ a w hD hi hp he hc
          have e3 := hp.of (k := 3) rfl
          have e5 := hp.of (k := 5) rfl
          try dsimp only at hc
          rw [hi] at hc
          have hf := he.h0
          replace hf := hf.more he 14 rfl (onP e3)
          replace hf := hf.more he 16 rfl (onP e5)
          refine stC (vs := [.agg #[.int .i64 e_5.Speed.Lo, .int .i64 e_5.Speed.Hi]]) (caps := [.pointer (some ⟨b_5, 0, none⟩)]) hf rfl rfl rfl en_30 rfl rfl rfl rfl (law03_GaugeBetter_1_ok e_5.Speed (⟨better, r_40.2.1, r_40.2.2⟩ : kit_Stream) h_better ((hc.pick k0).pick k7) hr_41) ?_
          rintro _ w ⟨rfl, hc⟩
          refine ⟨_, rfl, fun a hf => ?_⟩
          refine cNil ?_
          refine xThenN ?_
          intro ds u hau
          replace hc := hc.pick k0
          replace hc := hc.pick k7
          replace hc := hc.pick k7
          replace hc := hc.pick k7
          replace hc := hc.pick k7
          replace hc := hc.pick k7
          replace hc := hc.pick k7
          replace hc := hc.pick k7
          refine ⟨θ, he.put0 hi hau hf rfl 17 rfl rfl, ?_⟩
          try dsimp only
          rw [updE_self E 6]
          exact hc
        · intro E θ a w hD hi hp he hc
          have e1 := hp.of (k := 1) rfl
          have e2 := hp.of (k := 2) rfl
          have e8 := hD.f 1 rfl hi
          have e9 := hD.f 2 rfl e8
          try dsimp only at hc
          rw [hi, e9] at hc
          have hf := he.h0
          replace hf := hf.more he 12 rfl (onP e1)
          replace hf := hf.more he 13 rfl (onP e2)
          refine stP hf rfl rfl rfl (pIA Try.underlying46 sz_61 rfl rfl ha_5) fun a hf => ?_
          refine cNil ?_
          refine xThenN ?_
          intro ds u hau
          refine ⟨θ, he.put0 hi hau hf rfl 18 rfl rfl, ?_⟩
          try dsimp only
          rw [updE_self E 7, updE_fls 7 e9 rfl]
          exact hc
        · intro E θ a w hD hi hp he hc
          have e7 := hp.of (k := 7) rfl
          have hf := he.h0
          replace hf := hf.more he 18 rfl (onP e7)
          refine stP hf rfl rfl rfl (pFA fa_61_2 rfl) fun a hf => ?_
          refine cNil ?_
          refine xThenN ?_
          intro ds u hau
          refine ⟨θ, he.put0 hi hau hf rfl 19 rfl rfl, ?_⟩
          exact hc
        · intro E θ a w hD hi hp he hc
          have e6 := hp.of (k := 6) rfl
          have e8 := hp.of (k := 8) rfl
          try dsimp only at hc
          rw [hi] at hc
          have hf := he.h0
          replace hf := hf.more he 17 rfl (onP e6)
          replace hf := hf.more he 19 rfl (onP e8)
          refine stRw (vs := [.int .i64 r_41.1.Lo, .int .i64 r_41.1.Hi]) (o' := 3) (z := (⟨e_6.At, e_6.Depth, r_41.1⟩ : gauge_Vertical)) (xs := x_8) hf hc rfl rfl rfl rfl sz_24 rfl (fun x => (one_enc_gauge_Vertical x).1) (getI_lt he_6) (fun e' he' => by cases (he'.symm.trans (getI_spec he_6).2); rfl) rfl u4 fun w hc => ?_
          refine cNil ?_
          refine xThenN ?_
          intro ds u hau
          refine ⟨θ, he.stay0 hi hau hf rfl, ?_⟩
          try dsimp only
          rw [updE_self E 9]
          exact hc
        · intro E θ a w hall he hc
          have hf := he.h0
          have e6 := hall 6 rfl
          have e7 := hall 7 rfl
          have e9 := hall 9 rfl
          replace hf := hf.more he 10 rfl (onT)
          replace hf := hf.more he 9 rfl (onT)
          replace hf := hf.more he 8 rfl (onT)
          replace hf := hf.more he 5 rfl (onT)
          replace hf := hf.more he 4 rfl (onT)
          replace hf := hf.more he 3 rfl (onT)
          replace hf := hf.more he 2 rfl (onT)
          replace hf := hf.more he 1 rfl (onT)
          replace hf := hf.more he 0 rfl (onT)
          try dsimp only at hc
          rw [e6, e7, e9] at hc
          exact ⟨hf.keep ⟨rfl, rfl, rfl, rfl, rfl, rfl, rfl, rfl, rfl, trivial⟩, hc⟩
        rintro a w ⟨hf, hc⟩
        rw [(by simp : x_8.length = (x_8.set x_1.toNat (⟨e_6.At, e_6.Depth, r_41.1⟩ : gauge_Vertical)).length)] at hf
        rw [(by simp : x_8.length = (x_8.set x_1.toNat (⟨e_6.At, e_6.Depth, r_41.1⟩ : gauge_Vertical)).length)] at hc
        replace hc := hc.drop k1
        exact hj45 (x_8.set x_1.toNat (⟨e_6.At, e_6.Depth, r_41.1⟩ : gauge_Vertical)) r_41.2.1 r_41.2.2 (some ⟨g_3, 0, none⟩) c_16 _ _  (hf.keep ⟨rfl, rfl, rfl, rfl, rfl, rfl, rfl, rfl, rfl, trivial⟩) hc hF
      · replace hF := condF hb hF
        clear hb
        refine wp_skip ?_
        replace hc := hc.drop k1
        exact hj45 x_8 r_40.2.1 r_40.2.2 p_16 c_16 _ _  (hf.keep ⟨rfl, rfl, rfl, rfl, rfl, rfl, rfl, rfl, rfl, trivial⟩) hc hF
    refine wp_seq_k fun K49 h49 => ?_
    refine cReg ?_
    refine stE hf hc rfl rfl rfl (eLd1 sc_28 rfl (cell_box m6 rfl)) fun a w hf hc => ?_
    obtain ⟨r_42, hr_42, hF⟩ := bnd_some hF
    refine stC (vs := [.pointer (some ⟨b_4, 0, none⟩), .int .i64 2]) (caps := []) hf rfl rfl rfl en_16 rfl rfl rfl rfl (kit_Stream_Next_ok (⟨better, x_2, x_3⟩ : kit_Stream) 2 h_better (hc.pick k7) hr_42) ?_
    rintro _ w ⟨rfl, hc⟩
    refine ⟨_, rfl, fun a hf => ?_⟩
    refine stP hf rfl rfl rfl (pEq rfl rfl) fun a hf => ?_
    refine cNil ?_
    refine h49 _ _ ?_
    refine cCond (b := (r_42.1 == 0)) hf rfl (fun hb => ?_) (fun hb => ?_)
    · replace hF := condT hb hF
      clear hb
      obtain ⟨r_43, hr_43, hF⟩ := bnd_some hF
      obtain ⟨e_7, he_7, hF⟩ := bnd_some hF
      obtain ⟨ha_6, hr_6⟩ := row_atk hc m4 he_7
      refine regionE (fun θ => [⟨none, none, 3, .int .u16 permille⟩, ⟨none, none, 10, .pointer (some ⟨b_3, 0, none⟩)⟩, ⟨none, none, 11, .pointer (some ⟨b_5, 0, none⟩)⟩, ⟨none, none, 12, .pointer (some ⟨b_6, 0, none⟩)⟩, ⟨none, none, 13, .func (.func 30) #[] #[.pointer (some ⟨b_5, 0, none⟩)]⟩, ⟨none, none, 14, .pointer (some ⟨b_7, 0, none⟩)⟩, ⟨none, none, 15, .int .i64 x_1⟩, ⟨none, none, 16, .pointer (some ⟨b_19, 0, none⟩)⟩, ⟨none, none, 48, .slice (some ⟨g_2, 0, none⟩) x.length c_6⟩, ⟨none, none, 49, .int .i64 ((r_5.Verticals.length : Nat) : Int)⟩, ⟨none, none, 50, .int .i64 x_1⟩, ⟨some 0, none, 58, .pointer (some ⟨b_7, 2, none⟩)⟩, ⟨some 1, none, 59, .slice (some ⟨g_2, 0, none⟩) x.length c_6⟩, ⟨some 2, none, 60, .int .i64 x_1⟩, ⟨some 3, none, 61, .func (.func 30) #[] #[.pointer (some ⟨b_5, 0, none⟩)]⟩, ⟨some 4, none, 62, .pointer (some ⟨b_19, 1, none⟩)⟩, ⟨some 5, none, 63, .agg #[.int .i64 e_5.Depth.Lo, .int .i64 e_5.Depth.Hi]⟩, ⟨some 6, none, 64, .agg #[.int .i64 r_43.1.Lo, .int .i64 r_43.1.Hi]⟩, ⟨some 7, none, 65, .pointer (some ⟨g_2, x_1.toNat * 5, none⟩)⟩, ⟨some 8, none, 66, .pointer (some ⟨g_2, x_1.toNat * 5 + 1, none⟩)⟩]) (fun E θ => (bif E 6 then .box b_4 [.slice better_p better.length better_c, .int .i64 r_43.2.1, .int .i64 r_43.2.2] 104 else .box b_4 [.slice better_p better.length better_c, .int .i64 r_42.2.1, .int .i64 r_42.2.2] 104) :: .box b_19 [.int .i64 e_5.At, .int .i64 e_5.Depth.Lo, .int .i64 e_5.Depth.Hi, .int .i64 e_5.Speed.Lo, .int .i64 e_5.Speed.Hi] 61 :: .box b_7 [.int .i64 r_5.Left, .int .i64 r_5.Right, .slice (some ⟨g_2, 0, none⟩) x.length c_6] 48 :: .row p_4 c_4 (r_4.1.Verticals.map enc_gauge_Vertical) 61 5 :: (bif E 9 then .row (some ⟨g_2, 0, none⟩) c_6 ((x.set x_1.toNat (⟨e_7.At, r_43.1, e_7.Speed⟩ : gauge_Vertical)).map enc_gauge_Vertical) 61 5 else .row (some ⟨g_2, 0, none⟩) c_6 (x.map enc_gauge_Vertical) 61 5) :: .box b_6 [.int .i64 r_4.1.Left, .int .i64 r_4.1.Right, .slice p_4 r_4.1.Verticals.length c_4] 48 :: .box b_3 [.slice errors_p errors.length errors_c, .int .i64 r_4.2.1, .int .i64 r_4.2.2] 104 :: .box b_5 [.pointer (some ⟨b_4, 0, none⟩)] 28 :: Lf) [(8, 7), (9, 8)] (fun a w => Has 335 a [(3, .int .u16 permille), (10, .pointer (some ⟨b_3, 0, none⟩)), (11, .pointer (some ⟨b_5, 0, none⟩)), (12, .pointer (some ⟨b_6, 0, none⟩)), (13, .func (.func 30) #[] #[.pointer (some ⟨b_5, 0, none⟩)]), (14, .pointer (some ⟨b_7, 0, none⟩)), (15, .int .i64 x_1), (16, .pointer (some ⟨b_19, 0, none⟩)), (48, .slice (some ⟨g_2, 0, none⟩) x.length c_6), (49, .int .i64 ((r_5.Verticals.length : Nat) : Int)), (50, .int .i64 x_1)] ∧ Ctx G (.box b_4 [.slice better_p better.length better_c, .int .i64 r_43.2.1, .int .i64 r_43.2.2] 104 :: .box b_19 [.int .i64 e_5.At, .int .i64 e_5.Depth.Lo, .int .i64 e_5.Depth.Hi, .int .i64 e_5.Speed.Lo, .int .i64 e_5.Speed.Hi] 61 :: .box b_7 [.int .i64 r_5.Left, .int .i64 r_5.Right, .slice (some ⟨g_2, 0, none⟩) x.length c_6] 48 :: .row p_4 c_4 (r_4.1.Verticals.map enc_gauge_Vertical) 61 5 :: .row (some ⟨g_2, 0, none⟩) c_6 ((x.set x_1.toNat (⟨e_7.At, r_43.1, e_7.Speed⟩ : gauge_Vertical)).map enc_gauge_Vertical) 61 5 :: .box b_6 [.int .i64 r_4.1.Left, .int .i64 r_4.1.Right, .slice p_4 r_4.1.Verticals.length c_4] 48 :: .box b_3 [.slice errors_p errors.length errors_c, .int .i64 r_4.2.1, .int .i64 r_4.2.2] 104 :: .box b_5 [.pointer (some ⟨b_4, 0, none⟩)] 28 :: Lf) w) follows_mx (by kernel_rfl) (by kernel_rfl) (HasE.of hf ⟨rfl, rfl, rfl, rfl, rfl, rfl, rfl, rfl, rfl, rfl, rfl, trivial, trivial, trivial, trivial, trivial, trivial, trivial, trivial, trivial, trivial⟩) hc ⟨?_, ?_, ?_, ?_, ?_, ?_, ?_, ?_, ?_, ?_, trivial⟩ ?_ ?_
      · intro E θ a w hD hi hp he hc
        have hf := he.h0
        replace hf := hf.more he 5 rfl onT
        refine stP hf rfl rfl rfl (pFA fa_48_2 rfl) fun a hf => ?_
        refine cNil ?_
        refine xThenN ?_
        intro ds u hau
        refine ⟨θ, he.put0 hi hau hf rfl 11 rfl rfl, ?_⟩
        exact hc
      · intro E θ a w hD hi hp he hc
        have e0 := hp.of (k := 0) rfl
        have hf := he.h0
        replace hf := hf.more he 11 rfl (onP e0)
        refine stE hf hc rfl rfl rfl (eLd1 sc_46 rfl (cell_box m2 rfl)) fun a w hf hc => ?_
        refine cNil ?_
        refine xThenN ?_
        intro ds u hau
        refine ⟨θ, he.put0 hi hau hf rfl 12 rfl rfl, ?_⟩
        exact hc
      · intro E θ a w hD hi hp he hc
        have hf := he.h0
        replace hf := hf.more he 6 rfl onT
        refine stP hf rfl rfl rfl (pM rfl) fun a hf => ?_
        refine cNil ?_
        refine xThenN ?_
        intro ds u hau
        refine ⟨θ, he.put0 hi hau hf rfl 13 rfl rfl, ?_⟩
        exact hc
      · intro E θ a w hD hi hp he hc
        have hf := he.h0
        replace hf := hf.more he 4 rfl onT
        refine stP hf rfl rfl rfl (pM rfl) fun a hf => ?_
        refine cNil ?_
        refine xThenN ?_
        intro ds u hau
        refine ⟨θ, he.put0 hi hau hf rfl 14 rfl rfl, ?_⟩
        exact hc
      · intro E θ a w hD hi hp he hc
        have hf := he.h0
        replace hf := hf.more he 7 rfl onT
        refine stP hf rfl rfl rfl (pFA fa_61_1 rfl) fun a hf => ?_
        refine cNil ?_
        refine xThenN ?_
        intro ds u hau
        refine ⟨θ, he.put0 hi hau hf rfl 15 rfl rfl, ?_⟩
        exact hc
      · intro E θ a w hD hi hp he hc
        have e4 := hp.of (k := 4) rfl
        have hf := he.h0
        replace hf := hf.more he 15 rfl (onP e4)
        refine stE hf hc rfl rfl rfl (eLdN (vs := [.int .i64 e_5.Depth.Lo, .int .i64 e_5.Depth.Hi]) ag_24 rfl rfl (cells_box (n := 2) m1 rfl)) fun a w hf hc => ?_
        refine cNil ?_
        refine xThenN ?_
        intro ds u hau
        refine ⟨θ, he.put0 hi hau hf rfl 16 rfl rfl, ?_⟩
        exact hc
      · intro E θ a w hD hi hp he hc
        have e3 := hp.of (k := 3) rfl
        have e5 := hp.of (k := 5) rfl
        try dsimp only at hc
        rw [hi] at hc
        have hf := he.h0
        replace hf := hf.more he 14 rfl (onP e3)
        replace hf := hf.more he 16 rfl (onP e5)
        refine stC (vs := [.agg #[.int .i64 e_5.Depth.Lo, .int .i64 e_5.Depth.Hi]]) (caps := [.pointer (some ⟨b_5, 0, none⟩)]) hf rfl rfl rfl en_30 rfl rfl rfl rfl (law03_GaugeBetter_1_ok e_5.Depth (⟨better, r_42.2.1, r_42.2.2⟩ : kit_Stream) h_better ((hc.pick k0).pick k7) hr_43) ?_
        rintro _ w ⟨rfl, hc⟩
        refine ⟨_, rfl, fun a hf => ?_⟩
        refine cNil ?_
        refine xThenN ?_
        intro ds u hau
        replace hc := hc.pick k0
        replace hc := hc.pick k7
        replace hc := hc.pick k7
        replace hc := hc.pick k7
        replace hc := hc.pick k7
        replace hc := hc.pick k7
        replace hc := hc.pick k7
        replace hc := hc.pick k7
        refine ⟨θ, he.put0 hi hau hf rfl 17 rfl rfl, ?_⟩
        try dsimp only
        rw [updE_self E 6]
        exact hc
      · intro E θ a w hD hi hp he hc
        have e1 := hp.of (k := 1) rfl
        have e2 := hp.of (k := 2) rfl
        have e8 := hD.f 0 rfl hi
        have e9 := hD.f 1 rfl e8
        try dsimp only at hc
        rw [e9] at hc
        have hf := he.h0
        replace hf := hf.more he 12 rfl (onP e1)
        replace hf := hf.more he 13 rfl (onP e2)
        refine stP hf rfl rfl rfl (pIA Try.underlying46 sz_61 rfl rfl ha_6) fun a hf => ?_
        refine cNil ?_
        refine xThenN ?_
        intro ds u hau
        refine ⟨θ, he.put0 hi hau hf rfl 18 rfl rfl, ?_⟩
        try dsimp only
        rw [updE_fls 7 e9 rfl]
        exact hc
      · intro E θ a w hD hi hp he hc
        have e7 := hp.of (k := 7) rfl
        have hf := he.h0
        replace hf := hf.more he 18 rfl (onP e7)
        refine stP hf rfl rfl rfl (pFA fa_61_1 rfl) fun a hf => ?_
        refine cNil ?_
        refine xThenN ?_
        intro ds u hau
        refine ⟨θ, he.put0 hi hau hf rfl 19 rfl rfl, ?_⟩
        exact hc
      · intro E θ a w hD hi hp he hc
        have e6 := hp.of (k := 6) rfl
        have e8 := hp.of (k := 8) rfl
        try dsimp only at hc
        rw [hi] at hc
        have hf := he.h0
        replace hf := hf.more he 17 rfl (onP e6)
        replace hf := hf.more he 19 rfl (onP e8)
        refine stRw (vs := [.int .i64 r_43.1.Lo, .int .i64 r_43.1.Hi]) (o' := 1) (z := (⟨e_7.At, r_43.1, e_7.Speed⟩ : gauge_Vertical)) (xs := x) hf hc rfl rfl rfl rfl sz_24 rfl (fun x => (one_enc_gauge_Vertical x).1) (getI_lt he_7) (fun e' he' => by cases (he'.symm.trans (getI_spec he_7).2); rfl) rfl u4 fun w hc => ?_
        refine cNil ?_
        refine xThenN ?_
        intro ds u hau
        refine ⟨θ, he.stay0 hi hau hf rfl, ?_⟩
        try dsimp only
        rw [updE_self E 9]
        exact hc
      · intro E θ a w hall he hc
        have hf := he.h0
        have e6 := hall 6 rfl
        have e9 := hall 9 rfl
        replace hf := hf.more he 10 rfl (onT)
        replace hf := hf.more he 9 rfl (onT)
        replace hf := hf.more he 8 rfl (onT)
        replace hf := hf.more he 7 rfl (onT)
        replace hf := hf.more he 6 rfl (onT)
        replace hf := hf.more he 5 rfl (onT)
        replace hf := hf.more he 4 rfl (onT)
        replace hf := hf.more he 3 rfl (onT)
        replace hf := hf.more he 2 rfl (onT)
        replace hf := hf.more he 1 rfl (onT)
        replace hf := hf.more he 0 rfl (onT)
        try dsimp only at hc
        rw [e6, e9] at hc
        exact ⟨hf.keep ⟨rfl, rfl, rfl, rfl, rfl, rfl, rfl, rfl, rfl, rfl, rfl, trivial⟩, hc⟩
      rintro a w ⟨hf, hc⟩
      rw [(by simp : x.length = (x.set x_1.toNat (⟨e_7.At, r_43.1, e_7.Speed⟩ : gauge_Vertical)).length)] at hf
      rw [(by simp : x.length = (x.set x_1.toNat (⟨e_7.At, r_43.1, e_7.Speed⟩ : gauge_Vertical)).length)] at hc
      exact hj47 (x.set x_1.toNat (⟨e_7.At, r_43.1, e_7.Speed⟩ : gauge_Vertical)) r_43.2.1 r_43.2.2 (some ⟨g_2, 0, none⟩) c_6 _ _  (hf.keep ⟨rfl, rfl, rfl, rfl, rfl, rfl, rfl, rfl, rfl, rfl, rfl, trivial⟩) hc hF
    · replace hF := condF hb hF
      clear hb
      refine wp_skip ?_
      exact hj47 x r_42.2.1 r_42.2.2 (some ⟨g_2, 0, none⟩) c_6 _ _  (hf.keep ⟨rfl, rfl, rfl, rfl, rfl, rfl, rfl, rfl, rfl, rfl, rfl, trivial⟩) hc hF
  · replace hF := condF hb hF
    clear hb
    refine wp_exit ?_
    refine xThen ?_
    refine xThen ?_
    have he := Option.some.inj hF
    rw [← he] at hfin9
    refine cHit ?_
    exact hr9 _ _ _ hfin9 ⟨p_6, c_6, hf.keep ⟨rfl, rfl, rfl, rfl, rfl, rfl, rfl, rfl, rfl, trivial⟩, hc⟩

end Go.Nilo
