/-
  What functions of the Go text compute, as plain functions, and that they do, part 5 of 5. Conditions: what each theorem names.
-/
import Derived.Test.YtbgjmnbgilddgaaTr4
import Derived.Test.YtbgjmnbgilddgaaProg
set_option linter.unusedVariables false
set_option maxRecDepth 100000
set_option maxHeartbeats 4000000
namespace Go.Nilo
open Go.Proofs


def law03_GaugeTrack_b18 (N : Nat) (r_8 : (List Int) × Int × Int) (rough_1 : List gauge_Leg) (mixed : List gauge_Leg) (x_6 : List Int) (x_7 : Int) : Option (Step ((List gauge_Leg) × (List gauge_Leg) × (List Int) × Int) (Bool)) :=
  cond (decide (x_7 < ((r_8.1.length : Nat) : Int)))
  (Option.bind (getI x_6 x_7) fun e_2 =>
  Option.bind (getI rough_1 e_2) fun e_3 =>
  Option.bind (room ((mixed ++ [e_3])).length) fun un =>
  some (.cont (rough_1, (mixed ++ [e_3]), x_6, W (x_7 + 1))))
  (some (.brk (rough_1, mixed, x_6, x_7)))
def law03_GaugeTrack_j41 (N : Nat) (errors : List Int) (r_2 : Int × Int × Int) (r_3 : Int × Int × Int) (r_4 : Int × Int × Int) (x : Int) (y : Int) (just : List gauge_Leg) (rough : List gauge_Leg) (x_1 : Int) (x_4 : Int) (x_5 : Int) (r_21 : Int × Int × Int) (dx : Int) (dy : Int) : Option (Step (Int × Int × (List gauge_Leg) × (List gauge_Leg) × Int × Int × Int × Int × Int) (Bool)) :=
  Option.bind (law03_span N dx dx) fun r_22 =>
  Option.bind (law03_span N dy dy) fun r_23 =>
  Option.bind (law03_span N r_2.1 r_2.1) fun r_24 =>
  Option.bind (law03_span N r_3.1 r_3.1) fun r_25 =>
  Option.bind (law03_span N r_4.1 r_4.1) fun r_26 =>
  Option.bind (room ((just ++ [(⟨r_22, r_23, r_24, r_25, r_26⟩ : gauge_Leg)])).length) fun un_1 =>
  Option.bind (law03_Around N (⟨errors, x_4, x_5⟩ : kit_Stream) dx (-10000) 10000 3) fun r_27 =>
  Option.bind (law03_Around N (⟨errors, r_27.2.1, r_27.2.2⟩ : kit_Stream) dy (-10000) 10000 3) fun r_28 =>
  Option.bind (law03_Around N (⟨errors, r_28.2.1, r_28.2.2⟩ : kit_Stream) r_2.1 0 400 9) fun r_29 =>
  Option.bind (law03_Around N (⟨errors, r_29.2.1, r_29.2.2⟩ : kit_Stream) r_3.1 (-400) 400 9) fun r_30 =>
  Option.bind (law03_Around N (⟨errors, r_30.2.1, r_30.2.2⟩ : kit_Stream) r_4.1 (-400) 400 9) fun r_31 =>
  Option.bind (room ((rough ++ [(⟨r_27.1, r_28.1, r_29.1, r_30.1, r_31.1⟩ : gauge_Leg)])).length) fun un_2 =>
  some (.cont (W (x + dx), W (y + dy), (just ++ [(⟨r_22, r_23, r_24, r_25, r_26⟩ : gauge_Leg)]), (rough ++ [(⟨r_27.1, r_28.1, r_29.1, r_30.1, r_31.1⟩ : gauge_Leg)]), W (x_1 + 1), r_21.2.1, r_21.2.2, r_31.2.1, r_31.2.2))
def law03_GaugeTrack_b9 (N : Nat) (numbers : List Int) (errors : List Int) (r_2 : Int × Int × Int) (r_3 : Int × Int × Int) (r_4 : Int × Int × Int) (r_5 : Int × Int × Int) (x : Int) (y : Int) (just : List gauge_Leg) (rough : List gauge_Leg) (x_1 : Int) (x_2 : Int) (x_3 : Int) (x_4 : Int) (x_5 : Int) : Option (Step (Int × Int × (List gauge_Leg) × (List gauge_Leg) × Int × Int × Int × Int × Int) (Bool)) :=
  cond (decide (x_1 < r_5.1))
  (Option.bind (kit_Stream_Within N (⟨numbers, x_2, x_3⟩ : kit_Stream) (-90) 90) fun r_20 =>
  Option.bind (kit_Stream_Within N (⟨numbers, r_20.2.1, r_20.2.2⟩ : kit_Stream) (-90) 90) fun r_21 =>
  cond (x_1 == (W (r_5.1 - 1)))
  (law03_GaugeTrack_j41 N errors r_2 r_3 r_4 x y just rough x_1 x_4 x_5 r_21 (W (0 - x)) (W (0 - y)))
  (law03_GaugeTrack_j41 N errors r_2 r_3 r_4 x y just rough x_1 x_4 x_5 r_21 r_20.1 r_21.1))
  (some (.brk (x, y, just, rough, x_1, x_2, x_3, x_4, x_5)))
def law03_GaugeTrack (N : Nat) (numbers : List Int) (errors : List Int) : Option (Bool) :=
  Option.bind (kit_New N numbers) fun r =>
  Option.bind (kit_New N errors) fun r_1 =>
  Option.bind (kit_Stream_Next N (⟨numbers, r.1, r.2⟩ : kit_Stream) 300) fun r_2 =>
  Option.bind (kit_Stream_Within N (⟨numbers, r_2.2.1, r_2.2.2⟩ : kit_Stream) (-300) 300) fun r_3 =>
  Option.bind (kit_Stream_Within N (⟨numbers, r_3.2.1, r_3.2.2⟩ : kit_Stream) (-300) 300) fun r_4 =>
  Option.bind (kit_Stream_Within N (⟨numbers, r_4.2.1, r_4.2.2⟩ : kit_Stream) 2 12) fun r_5 =>
  Option.bind (loopO (fun s9 => law03_GaugeTrack_b9 N numbers errors r_2 r_3 r_4 r_5 s9.1 s9.2.1 s9.2.2.1 s9.2.2.2.1 s9.2.2.2.2.1 s9.2.2.2.2.2.1 s9.2.2.2.2.2.2.1 s9.2.2.2.2.2.2.2.1 s9.2.2.2.2.2.2.2.2) N (0, 0, ([] : List gauge_Leg), ([] : List gauge_Leg), 0, r_5.2.1, r_5.2.2, r_1.1, r_1.2)) fun x9 =>
  exK x9 (fun s9 => Option.bind (gauge_Cross N s9.2.2.1) fun r_6 =>
  Option.bind (gauge_Cross N s9.2.2.2.1) fun r_7 =>
  cond (((((r_6.2 != 0) || (r_7.2 != 0)) || (!(r_6.1.Lo == 0 && r_6.1.Hi == 0))) || (decide (0 < r_7.1.Lo))) || (decide (r_7.1.Hi < 0)))
  (some false)
  (Option.bind (kit_Mixed N (⟨errors, s9.2.2.2.2.2.2.2.1, s9.2.2.2.2.2.2.2.2⟩ : kit_Stream) ((s9.2.2.2.1.length : Nat) : Int)) fun r_8 =>
  Option.bind (loopO (fun s18 => law03_GaugeTrack_b18 N r_8 s18.1 s18.2.1 s18.2.2.1 s18.2.2.2) N (s9.2.2.2.1, ([] : List gauge_Leg), r_8.1, 0)) fun x18 =>
  exK x18 (fun s18 => Option.bind (gauge_Cross N s18.2.1) fun r_9 =>
  cond ((r_9.2 != 0) || (!(r_9.1.Lo == r_7.1.Lo && r_9.1.Hi == r_7.1.Hi)))
  (some false)
  (Option.bind (kit_Stream_Next N (⟨errors, r_8.2.1, r_8.2.2⟩ : kit_Stream) ((s9.2.2.1.length : Nat) : Int)) fun r_10 =>
  Option.bind (getI s9.2.2.1 r_10.1) fun e_1 =>
  Option.bind (kit_Stream_Within N (⟨errors, r_10.2.1, r_10.2.2⟩ : kit_Stream) (-40) 40) fun r_11 =>
  Option.bind (kit_Stream_Within N (⟨errors, r_11.2.1, r_11.2.2⟩ : kit_Stream) (-40) 40) fun r_12 =>
  Option.bind (law03_span N r_11.1 r_11.1) fun r_13 =>
  Option.bind (law03_span N r_12.1 r_12.1) fun r_14 =>
  Option.bind (law03_span N (W (e_1.X.Lo - r_11.1)) (W (e_1.X.Lo - r_11.1))) fun r_15 =>
  Option.bind (law03_span N (W (e_1.Y.Lo - r_12.1)) (W (e_1.Y.Lo - r_12.1))) fun r_16 =>
  Option.bind (gauge_Cross N ([e_1] : List gauge_Leg)) fun r_17 =>
  Option.bind (gauge_Cross N ([(⟨r_13, r_14, e_1.Depth, e_1.East, e_1.North⟩ : gauge_Leg), (⟨r_15, r_16, e_1.Depth, e_1.East, e_1.North⟩ : gauge_Leg)] : List gauge_Leg)) fun r_18 =>
  Option.bind (cond (((r_17.2 == 0) && (r_18.2 == 0)) && (r_17.1.Lo == r_18.1.Lo && r_17.1.Hi == r_18.1.Hi)) (Option.bind (law03_awake N) fun r_19 =>
  some r_19) (some false)) fun t_1 =>
  some t_1)) some)) some
theorem law03_GaugeTrack_ok {N : Nat} {G : Pers} {Lf : List Ent} {w : World} (numbers : List Int) (errors : List Int) {numbers_p : Option Addr} {numbers_c : Nat} {errors_p : Option Addr} {errors_c : Nat} (h_numbers : Rd G 1 numbers_p numbers_c (numbers.map encI_u8)) (h_errors : Rd G 1 errors_p errors_c (errors.map encI_u8)) (hc : Ctx G (Lf) w) {res : Bool} (hF : law03_GaugeTrack N numbers errors = some res) : Calls Try.prog 4 #[.slice numbers_p numbers.length numbers_c, .slice errors_p errors.length errors_c] w (fun e w => e = .returned (.bool res) ∧ Ctx G (Lf) w) := by
  unfold law03_GaugeTrack at hF
  refine fnIn (args := [.slice numbers_p numbers.length numbers_c, .slice errors_p errors.length errors_c]) Try.func4 rfl Try.ntmps4 rfl fun a hf => ?_
  refine wp_seq_k fun K1 h1 => ?_
  refine cReg ?_
  refine stP hf rfl rfl rfl (pA rfl) fun a hf => ?_
  refine cNil ?_
  refine h1 _ _ ?_
  refine wp_seq_k fun K2 h2 => ?_
  refine cReg ?_
  refine stP hf rfl rfl rfl (pM rfl) fun a hf => ?_
  obtain ⟨r, hr, hF⟩ := bnd_some hF
  refine stC (vs := [.slice numbers_p numbers.length numbers_c]) (caps := []) hf rfl rfl rfl en_11 rfl rfl rfl rfl (kit_New_ok numbers h_numbers hc hr) ?_
  rintro _ w ⟨b_1, rfl, hc⟩
  refine ⟨_, rfl, fun a hf => ?_⟩
  refine stP hf rfl rfl rfl (pM rfl) fun a hf => ?_
  obtain ⟨r_1, hr_1, hF⟩ := bnd_some hF
  refine stC (vs := [.slice errors_p errors.length errors_c]) (caps := []) hf rfl rfl rfl en_11 rfl rfl rfl rfl (kit_New_ok errors h_errors hc hr_1) ?_
  rintro _ w ⟨b_2, rfl, hc⟩
  refine ⟨_, rfl, fun a hf => ?_⟩
  refine stP hf rfl rfl rfl (pA rfl) fun a hf => ?_
  refine stP hf rfl rfl rfl (pA rfl) fun a hf => ?_
  refine cNil ?_
  refine h2 _ _ ?_
  refine wp_seq_k fun K3 h3 => ?_
  refine cReg ?_
  refine stP hf rfl rfl rfl (pM rfl) fun a hf => ?_
  obtain ⟨r_2, hr_2, hF⟩ := bnd_some hF
  refine stC (vs := [.pointer (some ⟨b_1, 0, none⟩), .int .i64 300]) (caps := []) hf rfl rfl rfl en_16 rfl rfl rfl rfl (kit_Stream_Next_ok (⟨numbers, r.1, r.2⟩ : kit_Stream) 300 h_numbers (hc.pick k1) hr_2) ?_
  rintro _ w ⟨rfl, hc⟩
  refine ⟨_, rfl, fun a hf => ?_⟩
  refine stP hf rfl rfl rfl (pM rfl) fun a hf => ?_
  obtain ⟨r_3, hr_3, hF⟩ := bnd_some hF
  refine stC (vs := [.pointer (some ⟨b_1, 0, none⟩), .int .i64 (-300), .int .i64 300]) (caps := []) hf rfl rfl rfl en_12 rfl rfl rfl rfl (kit_Stream_Within_ok (⟨numbers, r_2.2.1, r_2.2.2⟩ : kit_Stream) (-300) 300 h_numbers (hc.pick k0) hr_3) ?_
  rintro _ w ⟨rfl, hc⟩
  refine ⟨_, rfl, fun a hf => ?_⟩
  refine stP hf rfl rfl rfl (pM rfl) fun a hf => ?_
  obtain ⟨r_4, hr_4, hF⟩ := bnd_some hF
  refine stC (vs := [.pointer (some ⟨b_1, 0, none⟩), .int .i64 (-300), .int .i64 300]) (caps := []) hf rfl rfl rfl en_12 rfl rfl rfl rfl (kit_Stream_Within_ok (⟨numbers, r_3.2.1, r_3.2.2⟩ : kit_Stream) (-300) 300 h_numbers (hc.pick k0) hr_4) ?_
  rintro _ w ⟨rfl, hc⟩
  refine ⟨_, rfl, fun a hf => ?_⟩
  refine stP hf rfl rfl rfl (pA rfl) fun a hf => ?_
  refine stP hf rfl rfl rfl (pA rfl) fun a hf => ?_
  refine stP hf rfl rfl rfl (pA rfl) fun a hf => ?_
  refine cNil ?_
  refine h3 _ _ ?_
  refine wp_seq_k fun K4 h4 => ?_
  refine cReg ?_
  refine stP hf rfl rfl rfl (pA rfl) fun a hf => ?_
  refine stP hf rfl rfl rfl (pA rfl) fun a hf => ?_
  refine cNil ?_
  refine h4 _ _ ?_
  refine wp_seq_k fun K5 h5 => ?_
  refine cReg ?_
  refine stP hf rfl rfl rfl (pA rfl) fun a hf => ?_
  refine stP hf rfl rfl rfl (pA rfl) fun a hf => ?_
  refine cNil ?_
  refine h5 _ _ ?_
  refine wp_seq_k fun K6 h6 => ?_
  refine cReg ?_
  refine stP hf rfl rfl rfl (pM rfl) fun a hf => ?_
  obtain ⟨r_5, hr_5, hF⟩ := bnd_some hF
  refine stC (vs := [.pointer (some ⟨b_1, 0, none⟩), .int .i64 2, .int .i64 12]) (caps := []) hf rfl rfl rfl en_12 rfl rfl rfl rfl (kit_Stream_Within_ok (⟨numbers, r_4.2.1, r_4.2.2⟩ : kit_Stream) 2 12 h_numbers (hc.pick k0) hr_5) ?_
  rintro _ w ⟨rfl, hc⟩
  refine ⟨_, rfl, fun a hf => ?_⟩
  refine stP hf rfl rfl rfl (pA rfl) fun a hf => ?_
  refine cNil ?_
  refine h6 _ _ ?_
  refine wp_seq_k fun K7 h7 => ?_
  refine wp_seq_k fun K8 h8 => ?_
  refine cReg ?_
  refine stP hf rfl rfl rfl (pM rfl) fun a hf => ?_
  refine stP hf rfl rfl rfl (pM rfl) fun a hf => ?_
  refine cNil ?_
  refine h8 _ _ ?_
  refine wp_block ?_
  obtain ⟨x9, hx9, hF⟩ := bnd_some hF
  let S9 : (Int × Int × (List gauge_Leg) × (List gauge_Leg) × Int × Int × Int × Int × Int) → Act → World → Prop := (fun (zz : Int × Int × (List gauge_Leg) × (List gauge_Leg) × Int × Int × Int × Int × Int) a w => ∃ (p_1 : Option Addr) (c_1 : Nat) (p_2 : Option Addr) (c_2 : Nat), Has 240 a [(5, .pointer (some ⟨b_1, 0, none⟩)), (6, .pointer (some ⟨b_2, 0, none⟩)), (7, .int .i64 r_2.1), (8, .int .i64 r_3.1), (9, .int .i64 r_4.1), (10, .int .i64 zz.1), (11, .int .i64 zz.2.1), (12, .slice p_1 zz.2.2.1.length c_1), (13, .slice p_2 zz.2.2.2.1.length c_2), (14, .int .i64 r_5.1), (46, .int .i64 r_5.1), (47, .int .i64 zz.2.2.2.2.1)] ∧ Ctx G (.row p_2 c_2 (zz.2.2.2.1.map enc_gauge_Leg) 40 10 :: .row p_1 c_1 (zz.2.2.1.map enc_gauge_Leg) 40 10 :: .box b_1 [.slice numbers_p numbers.length numbers_c, .int .i64 zz.2.2.2.2.2.1, .int .i64 zz.2.2.2.2.2.2.1] 104 :: .box b_2 [.slice errors_p errors.length errors_c, .int .i64 zz.2.2.2.2.2.2.2.1, .int .i64 zz.2.2.2.2.2.2.2.2] 104 :: Lf) w)
  have hr9 : ∀ (zz : Int × Int × (List gauge_Leg) × (List gauge_Leg) × Int × Int × Int × Int × Int) a w, x9 = .go zz → S9 zz a w → K7 a w := by
    rintro ⟨x, y, just, rough, x_1, x_2, x_3, x_4, x_5⟩ a w rfl ⟨p_1, c_1, p_2, c_2, hf, hc⟩
    replace hF : _ = some res := hF
    refine h7 _ _ ?_
    refine wp_seq_k fun K10 h10 => ?_
    refine cReg ?_
    refine stP hf rfl rfl rfl (pM rfl) fun a hf => ?_
    obtain ⟨r_6, hr_6, hF⟩ := bnd_some hF
    refine stE hf hc rfl rfl rfl (eC (v := .tuple #[.agg #[.int .i64 r_6.1.Lo, .int .i64 r_6.1.Hi], .int .i64 r_6.2]) (vs := [.slice p_1 just.length c_1]) (caps := []) en_18 rfl rfl rfl rfl (fun w hc => by obtain ⟨G1, hle1, hrd1, hc, hth1⟩ := lend hc k1; exact (gauge_Cross_ok just hrd1 hc hr_6).mono fun e w h => ⟨h.1, ((hth1 _ _ h.2).unpick k1)⟩)) fun a w hf hc => ?_
    refine stP hf rfl rfl rfl (pM rfl) fun a hf => ?_
    refine stP hf rfl rfl rfl (pX rfl rfl) fun a hf => ?_
    refine stP hf rfl rfl rfl (pX rfl rfl) fun a hf => ?_
    refine stAl (cs := [.int .i64 0, .int .i64 0]) hf hc rfl rfl zr_24 rfl fun b_3 a w hf hc => ?_
    refine stSt (vs := [.int .i64 r_6.1.Lo, .int .i64 r_6.1.Hi]) hf hc rfl rfl rfl rfl sz_24 rfl rfl u0 fun w hc => ?_
    refine stP hf rfl rfl rfl (pA rfl) fun a hf => ?_
    refine cNil ?_
    refine h10 _ _ ?_
    refine wp_seq_k fun K11 h11 => ?_
    refine cReg ?_
    refine stP hf rfl rfl rfl (pM rfl) fun a hf => ?_
    obtain ⟨r_7, hr_7, hF⟩ := bnd_some hF
    refine stE hf hc rfl rfl rfl (eC (v := .tuple #[.agg #[.int .i64 r_7.1.Lo, .int .i64 r_7.1.Hi], .int .i64 r_7.2]) (vs := [.slice p_2 rough.length c_2]) (caps := []) en_18 rfl rfl rfl rfl (fun w hc => by obtain ⟨G1, hle1, hrd1, hc, hth1⟩ := lend hc k1; exact (gauge_Cross_ok rough hrd1 hc hr_7).mono fun e w h => ⟨h.1, ((hth1 _ _ h.2).unpick k1)⟩)) fun a w hf hc => ?_
    refine stP hf rfl rfl rfl (pM rfl) fun a hf => ?_
    refine stP hf rfl rfl rfl (pX rfl rfl) fun a hf => ?_
    refine stP hf rfl rfl rfl (pX rfl rfl) fun a hf => ?_
    refine stAl (cs := [.int .i64 0, .int .i64 0]) hf hc rfl rfl zr_24 rfl fun b_4 a w hf hc => ?_
    refine stSt (vs := [.int .i64 r_7.1.Lo, .int .i64 r_7.1.Hi]) hf hc rfl rfl rfl rfl sz_24 rfl rfl u0 fun w hc => ?_
    refine stP hf rfl rfl rfl (pA rfl) fun a hf => ?_
    refine cNil ?_
    refine h11 _ _ ?_
    refine wp_seq_k fun K12 h12 => ?_
    refine wp_seq_k fun K13 h13 => ?_
    refine cReg ?_
    refine stP hf rfl rfl rfl (pM rfl) fun a hf => ?_
    refine stP hf rfl rfl rfl (pNe rfl rfl) fun a hf => ?_
    refine stP hf rfl rfl rfl (pM rfl) fun a hf => ?_
    refine stCut 3 (fun a w => Has 240 a [(6, .pointer (some ⟨b_2, 0, none⟩)), (12, .slice p_1 just.length c_1), (13, .slice p_2 rough.length c_2), (18, .pointer (some ⟨b_3, 0, none⟩)), (19, .int .i64 r_6.2), (20, .pointer (some ⟨b_4, 0, none⟩)), (21, .int .i64 r_7.2), (117, .int .i64 r_6.2), (118, .bool (r_6.2 != 0)), (119, .bool (r_6.2 != 0)), (122, .bool ((r_6.2 != 0) || (r_7.2 != 0)))] ∧ Ctx G (.box b_4 [.int .i64 r_7.1.Lo, .int .i64 r_7.1.Hi] 24 :: .box b_3 [.int .i64 r_6.1.Lo, .int .i64 r_6.1.Hi] 24 :: .row p_2 c_2 (rough.map enc_gauge_Leg) 40 10 :: .row p_1 c_1 (just.map enc_gauge_Leg) 40 10 :: .box b_1 [.slice numbers_p numbers.length numbers_c, .int .i64 x_2, .int .i64 x_3] 104 :: .box b_2 [.slice errors_p errors.length errors_c, .int .i64 x_4, .int .i64 x_5] 104 :: Lf) w) ?_ ?_
    · cases hb : (r_6.2 != 0)
      · rw [hb] at hf
        refine stP hf rfl rfl rfl (pM rfl) fun a hf => ?_
        refine stP hf rfl rfl rfl (pNe rfl rfl) fun a hf => ?_
        refine stP hf rfl rfl rfl (pPf rfl rfl) fun a hf => ?_
        exact cNil ⟨hf.keep ⟨rfl, rfl, rfl, rfl, rfl, rfl, rfl, rfl, rfl, rfl, rfl, trivial⟩, hc⟩
      · rw [hb] at hf
        refine stS hf rfl rfl rfl fun a hf => ?_
        refine stS hf rfl rfl rfl fun a hf => ?_
        refine stP hf rfl rfl rfl (pPt rfl rfl) fun a hf => ?_
        exact cNil ⟨hf.keep ⟨rfl, rfl, rfl, rfl, rfl, rfl, rfl, rfl, rfl, rfl, rfl, trivial⟩, hc⟩
    intro a w ⟨hf, hc⟩
    refine stP hf rfl rfl rfl (pM rfl) fun a hf => ?_
    refine stCut 4 (fun a w => Has 240 a [(6, .pointer (some ⟨b_2, 0, none⟩)), (12, .slice p_1 just.length c_1), (13, .slice p_2 rough.length c_2), (18, .pointer (some ⟨b_3, 0, none⟩)), (19, .int .i64 r_6.2), (20, .pointer (some ⟨b_4, 0, none⟩)), (21, .int .i64 r_7.2), (117, .int .i64 r_6.2), (118, .bool (r_6.2 != 0)), (119, .bool (r_6.2 != 0)), (122, .bool ((r_6.2 != 0) || (r_7.2 != 0))), (123, .bool ((r_6.2 != 0) || (r_7.2 != 0))), (127, .bool (((r_6.2 != 0) || (r_7.2 != 0)) || (!(r_6.1.Lo == 0 && r_6.1.Hi == 0))))] ∧ Ctx G (.box b_4 [.int .i64 r_7.1.Lo, .int .i64 r_7.1.Hi] 24 :: .box b_3 [.int .i64 r_6.1.Lo, .int .i64 r_6.1.Hi] 24 :: .row p_2 c_2 (rough.map enc_gauge_Leg) 40 10 :: .row p_1 c_1 (just.map enc_gauge_Leg) 40 10 :: .box b_1 [.slice numbers_p numbers.length numbers_c, .int .i64 x_2, .int .i64 x_3] 104 :: .box b_2 [.slice errors_p errors.length errors_c, .int .i64 x_4, .int .i64 x_5] 104 :: Lf) w) ?_ ?_
    · cases hb : ((r_6.2 != 0) || (r_7.2 != 0))
      · rw [hb] at hf
        refine stE hf hc rfl rfl rfl (eLdN (vs := [.int .i64 r_6.1.Lo, .int .i64 r_6.1.Hi]) ag_24 rfl rfl (cells_box (n := 2) m1 rfl)) fun a w hf hc => ?_
        refine stP hf rfl rfl rfl (pBuildS (cells := [.int .i64 0, .int .i64 0]) bt_24 rfl rfl) fun a hf => ?_
        refine stP hf rfl rfl rfl (pNeA ge_24 rfl rfl (eqs_24 _ _ _ _)) fun a hf => ?_
        refine stP hf rfl rfl rfl (pPf rfl rfl) fun a hf => ?_
        exact cNil ⟨hf.keep ⟨rfl, rfl, rfl, rfl, rfl, rfl, rfl, rfl, rfl, rfl, rfl, rfl, rfl, trivial⟩, hc⟩
      · rw [hb] at hf
        refine stS hf rfl rfl rfl fun a hf => ?_
        refine stS hf rfl rfl rfl fun a hf => ?_
        refine stS hf rfl rfl rfl fun a hf => ?_
        refine stP hf rfl rfl rfl (pPt rfl rfl) fun a hf => ?_
        exact cNil ⟨hf.keep ⟨rfl, rfl, rfl, rfl, rfl, rfl, rfl, rfl, rfl, rfl, rfl, rfl, rfl, trivial⟩, hc⟩
    intro a w ⟨hf, hc⟩
    refine stP hf rfl rfl rfl (pM rfl) fun a hf => ?_
    refine stCut 4 (fun a w => Has 240 a [(6, .pointer (some ⟨b_2, 0, none⟩)), (12, .slice p_1 just.length c_1), (13, .slice p_2 rough.length c_2), (18, .pointer (some ⟨b_3, 0, none⟩)), (19, .int .i64 r_6.2), (20, .pointer (some ⟨b_4, 0, none⟩)), (21, .int .i64 r_7.2), (117, .int .i64 r_6.2), (118, .bool (r_6.2 != 0)), (119, .bool (r_6.2 != 0)), (122, .bool ((r_6.2 != 0) || (r_7.2 != 0))), (123, .bool ((r_6.2 != 0) || (r_7.2 != 0))), (127, .bool (((r_6.2 != 0) || (r_7.2 != 0)) || (!(r_6.1.Lo == 0 && r_6.1.Hi == 0)))), (128, .bool (((r_6.2 != 0) || (r_7.2 != 0)) || (!(r_6.1.Lo == 0 && r_6.1.Hi == 0)))), (132, .bool ((((r_6.2 != 0) || (r_7.2 != 0)) || (!(r_6.1.Lo == 0 && r_6.1.Hi == 0))) || (decide (0 < r_7.1.Lo))))] ∧ Ctx G (.box b_4 [.int .i64 r_7.1.Lo, .int .i64 r_7.1.Hi] 24 :: .box b_3 [.int .i64 r_6.1.Lo, .int .i64 r_6.1.Hi] 24 :: .row p_2 c_2 (rough.map enc_gauge_Leg) 40 10 :: .row p_1 c_1 (just.map enc_gauge_Leg) 40 10 :: .box b_1 [.slice numbers_p numbers.length numbers_c, .int .i64 x_2, .int .i64 x_3] 104 :: .box b_2 [.slice errors_p errors.length errors_c, .int .i64 x_4, .int .i64 x_5] 104 :: Lf) w) ?_ ?_
    · cases hb : (((r_6.2 != 0) || (r_7.2 != 0)) || (!(r_6.1.Lo == 0 && r_6.1.Hi == 0)))
      · rw [hb] at hf
        refine stP hf rfl rfl rfl (pFA fa_24_0 rfl) fun a hf => ?_
        refine stE hf hc rfl rfl rfl (eLd1 sc_3 rfl (cell_box m0 rfl)) fun a w hf hc => ?_
        refine stP hf rfl rfl rfl (pGt rfl rfl) fun a hf => ?_
        refine stP hf rfl rfl rfl (pPf rfl rfl) fun a hf => ?_
        exact cNil ⟨hf.keep ⟨rfl, rfl, rfl, rfl, rfl, rfl, rfl, rfl, rfl, rfl, rfl, rfl, rfl, rfl, rfl, trivial⟩, hc⟩
      · rw [hb] at hf
        refine stS hf rfl rfl rfl fun a hf => ?_
        refine stS hf rfl rfl rfl fun a hf => ?_
        refine stS hf rfl rfl rfl fun a hf => ?_
        refine stP hf rfl rfl rfl (pPt rfl rfl) fun a hf => ?_
        exact cNil ⟨hf.keep ⟨rfl, rfl, rfl, rfl, rfl, rfl, rfl, rfl, rfl, rfl, rfl, rfl, rfl, rfl, rfl, trivial⟩, hc⟩
    intro a w ⟨hf, hc⟩
    refine stP hf rfl rfl rfl (pM rfl) fun a hf => ?_
    refine stCut 4 (fun a w => Has 240 a [(6, .pointer (some ⟨b_2, 0, none⟩)), (12, .slice p_1 just.length c_1), (13, .slice p_2 rough.length c_2), (18, .pointer (some ⟨b_3, 0, none⟩)), (19, .int .i64 r_6.2), (20, .pointer (some ⟨b_4, 0, none⟩)), (21, .int .i64 r_7.2), (117, .int .i64 r_6.2), (118, .bool (r_6.2 != 0)), (119, .bool (r_6.2 != 0)), (122, .bool ((r_6.2 != 0) || (r_7.2 != 0))), (123, .bool ((r_6.2 != 0) || (r_7.2 != 0))), (127, .bool (((r_6.2 != 0) || (r_7.2 != 0)) || (!(r_6.1.Lo == 0 && r_6.1.Hi == 0)))), (128, .bool (((r_6.2 != 0) || (r_7.2 != 0)) || (!(r_6.1.Lo == 0 && r_6.1.Hi == 0)))), (132, .bool ((((r_6.2 != 0) || (r_7.2 != 0)) || (!(r_6.1.Lo == 0 && r_6.1.Hi == 0))) || (decide (0 < r_7.1.Lo)))), (133, .bool ((((r_6.2 != 0) || (r_7.2 != 0)) || (!(r_6.1.Lo == 0 && r_6.1.Hi == 0))) || (decide (0 < r_7.1.Lo)))), (137, .bool (((((r_6.2 != 0) || (r_7.2 != 0)) || (!(r_6.1.Lo == 0 && r_6.1.Hi == 0))) || (decide (0 < r_7.1.Lo))) || (decide (r_7.1.Hi < 0))))] ∧ Ctx G (.box b_4 [.int .i64 r_7.1.Lo, .int .i64 r_7.1.Hi] 24 :: .box b_3 [.int .i64 r_6.1.Lo, .int .i64 r_6.1.Hi] 24 :: .row p_2 c_2 (rough.map enc_gauge_Leg) 40 10 :: .row p_1 c_1 (just.map enc_gauge_Leg) 40 10 :: .box b_1 [.slice numbers_p numbers.length numbers_c, .int .i64 x_2, .int .i64 x_3] 104 :: .box b_2 [.slice errors_p errors.length errors_c, .int .i64 x_4, .int .i64 x_5] 104 :: Lf) w) ?_ ?_
    · cases hb : ((((r_6.2 != 0) || (r_7.2 != 0)) || (!(r_6.1.Lo == 0 && r_6.1.Hi == 0))) || (decide (0 < r_7.1.Lo)))
      · rw [hb] at hf
        refine stP hf rfl rfl rfl (pFA fa_24_1 rfl) fun a hf => ?_
        refine stE hf hc rfl rfl rfl (eLd1 sc_3 rfl (cell_box m0 rfl)) fun a w hf hc => ?_
        refine stP hf rfl rfl rfl (pLt rfl rfl) fun a hf => ?_
        refine stP hf rfl rfl rfl (pPf rfl rfl) fun a hf => ?_
        exact cNil ⟨hf.keep ⟨rfl, rfl, rfl, rfl, rfl, rfl, rfl, rfl, rfl, rfl, rfl, rfl, rfl, rfl, rfl, rfl, rfl, trivial⟩, hc⟩
      · rw [hb] at hf
        refine stS hf rfl rfl rfl fun a hf => ?_
        refine stS hf rfl rfl rfl fun a hf => ?_
        refine stS hf rfl rfl rfl fun a hf => ?_
        refine stP hf rfl rfl rfl (pPt rfl rfl) fun a hf => ?_
        exact cNil ⟨hf.keep ⟨rfl, rfl, rfl, rfl, rfl, rfl, rfl, rfl, rfl, rfl, rfl, rfl, rfl, rfl, rfl, rfl, rfl, trivial⟩, hc⟩
    intro a w ⟨hf, hc⟩
    refine cNil ?_
    refine h13 _ _ ?_
    refine cCond (b := (((((r_6.2 != 0) || (r_7.2 != 0)) || (!(r_6.1.Lo == 0 && r_6.1.Hi == 0))) || (decide (0 < r_7.1.Lo))) || (decide (r_7.1.Hi < 0)))) hf rfl (fun hb => ?_) (fun hb => ?_)
    · replace hF := condT hb hF
      clear hb
      refine wp_seq_k fun K14 h14 => ?_
      refine cReg ?_
      refine stP hf rfl rfl rfl (pA rfl) fun a hf => ?_
      refine cNil ?_
      refine h14 _ _ ?_
      refine wp_ret ?_
      refine xThenR ?_
      obtain rfl := Option.some.inj hF
      replace hc := hc.drop k5
      replace hc := hc.drop k4
      replace hc := hc.drop k3
      replace hc := hc.drop k2
      replace hc := hc.drop k1
      replace hc := hc.drop k0
      exact fnOut1 (by simp) rfl Try.results4 hf hc (show look _ 4 = _ from rfl) ⟨rfl, hc⟩
    · replace hF := condF hb hF
      clear hb
      refine wp_skip ?_
      refine h12 _ _ ?_
      refine wp_seq_k fun K15 h15 => ?_
      refine cReg ?_
      refine stP hf rfl rfl rfl (pA rfl) fun a hf => ?_
      refine cNil ?_
      refine h15 _ _ ?_
      refine wp_seq_k fun K16 h16 => ?_
      refine wp_seq_k fun K17 h17 => ?_
      refine cReg ?_
      refine stP hf rfl rfl rfl (pM rfl) fun a hf => ?_
      refine stP hf rfl rfl rfl (pM rfl) fun a hf => ?_
      refine stP hf rfl rfl rfl (pLenS Try.underlying38 rfl) fun a hf => ?_
      obtain ⟨r_8, hr_8, hF⟩ := bnd_some hF
      refine stC (vs := [.pointer (some ⟨b_2, 0, none⟩), .int .i64 ((rough.length : Nat) : Int)]) (caps := []) hf rfl rfl rfl en_19 rfl rfl rfl rfl (kit_Mixed_ok (⟨errors, x_4, x_5⟩ : kit_Stream) ((rough.length : Nat) : Int) h_errors (hc.pick k5) hr_8) ?_
      rintro _ w ⟨p_3, c_3, rfl, hc⟩
      refine ⟨_, rfl, fun a hf => ?_⟩
      refine stP hf rfl rfl rfl (pLenS Try.underlying43 rfl) fun a hf => ?_
      refine stP hf rfl rfl rfl (pM rfl) fun a hf => ?_
      refine cNil ?_
      refine h17 _ _ ?_
      refine wp_block ?_
      obtain ⟨x18, hx18, hF⟩ := bnd_some hF
      let S18 : ((List gauge_Leg) × (List gauge_Leg) × (List Int) × Int) → Act → World → Prop := (fun (zz : (List gauge_Leg) × (List gauge_Leg) × (List Int) × Int) a w => ∃ (p_4 : Option Addr) (c_4 : Nat) (p_5 : Option Addr) (c_5 : Nat) (p_6 : Option Addr) (c_6 : Nat), Has 240 a [(6, .pointer (some ⟨b_2, 0, none⟩)), (12, .slice p_1 just.length c_1), (13, .slice p_4 zz.1.length c_4), (20, .pointer (some ⟨b_4, 0, none⟩)), (22, .slice p_5 zz.2.1.length c_5), (141, .slice p_6 zz.2.2.1.length c_6), (142, .int .i64 ((r_8.1.length : Nat) : Int)), (143, .int .i64 zz.2.2.2)] ∧ Ctx G (.row p_5 c_5 (zz.2.1.map enc_gauge_Leg) 40 10 :: .row p_6 c_6 (zz.2.2.1.map encI_i64) 3 1 :: .box b_2 [.slice errors_p errors.length errors_c, .int .i64 r_8.2.1, .int .i64 r_8.2.2] 104 :: .box b_4 [.int .i64 r_7.1.Lo, .int .i64 r_7.1.Hi] 24 :: .row p_4 c_4 (zz.1.map enc_gauge_Leg) 40 10 :: .row p_1 c_1 (just.map enc_gauge_Leg) 40 10 :: Lf) w)
      have hr18 : ∀ (zz : (List gauge_Leg) × (List gauge_Leg) × (List Int) × Int) a w, x18 = .go zz → S18 zz a w → K16 a w := by
        rintro ⟨rough_1, mixed, x_6, x_7⟩ a w rfl ⟨p_4, c_4, p_5, c_5, p_6, c_6, hf, hc⟩
        replace hF : _ = some res := hF
        refine h16 _ _ ?_
        refine wp_seq_k fun K19 h19 => ?_
        refine cReg ?_
        refine stP hf rfl rfl rfl (pM rfl) fun a hf => ?_
        obtain ⟨r_9, hr_9, hF⟩ := bnd_some hF
        refine stE hf hc rfl rfl rfl (eC (v := .tuple #[.agg #[.int .i64 r_9.1.Lo, .int .i64 r_9.1.Hi], .int .i64 r_9.2]) (vs := [.slice p_5 mixed.length c_5]) (caps := []) en_18 rfl rfl rfl rfl (fun w hc => by obtain ⟨G1, hle1, hrd1, hc, hth1⟩ := lend hc k0; exact (gauge_Cross_ok mixed hrd1 hc hr_9).mono fun e w h => ⟨h.1, ((hth1 _ _ h.2).unpick k0)⟩)) fun a w hf hc => ?_
        refine stP hf rfl rfl rfl (pM rfl) fun a hf => ?_
        refine stP hf rfl rfl rfl (pX rfl rfl) fun a hf => ?_
        refine stP hf rfl rfl rfl (pX rfl rfl) fun a hf => ?_
        refine stAl (cs := [.int .i64 0, .int .i64 0]) hf hc rfl rfl zr_24 rfl fun b_5 a w hf hc => ?_
        refine stSt (vs := [.int .i64 r_9.1.Lo, .int .i64 r_9.1.Hi]) hf hc rfl rfl rfl rfl sz_24 rfl rfl u0 fun w hc => ?_
        refine stP hf rfl rfl rfl (pA rfl) fun a hf => ?_
        refine cNil ?_
        refine h19 _ _ ?_
        refine wp_seq_k fun K20 h20 => ?_
        refine wp_seq_k fun K21 h21 => ?_
        refine cReg ?_
        refine stP hf rfl rfl rfl (pM rfl) fun a hf => ?_
        refine stP hf rfl rfl rfl (pNe rfl rfl) fun a hf => ?_
        refine stP hf rfl rfl rfl (pM rfl) fun a hf => ?_
        refine stCut 4 (fun a w => Has 240 a [(6, .pointer (some ⟨b_2, 0, none⟩)), (12, .slice p_1 just.length c_1), (20, .pointer (some ⟨b_4, 0, none⟩)), (25, .pointer (some ⟨b_5, 0, none⟩)), (19, .int .i64 r_9.2), (160, .int .i64 r_9.2), (161, .bool (r_9.2 != 0)), (162, .bool (r_9.2 != 0)), (166, .bool ((r_9.2 != 0) || (!(r_9.1.Lo == r_7.1.Lo && r_9.1.Hi == r_7.1.Hi))))] ∧ Ctx G (.box b_5 [.int .i64 r_9.1.Lo, .int .i64 r_9.1.Hi] 24 :: .row p_5 c_5 (mixed.map enc_gauge_Leg) 40 10 :: .row p_6 c_6 (x_6.map encI_i64) 3 1 :: .box b_2 [.slice errors_p errors.length errors_c, .int .i64 r_8.2.1, .int .i64 r_8.2.2] 104 :: .box b_4 [.int .i64 r_7.1.Lo, .int .i64 r_7.1.Hi] 24 :: .row p_4 c_4 (rough_1.map enc_gauge_Leg) 40 10 :: .row p_1 c_1 (just.map enc_gauge_Leg) 40 10 :: Lf) w) ?_ ?_
        · cases hb : (r_9.2 != 0)
          · rw [hb] at hf
            refine stE hf hc rfl rfl rfl (eLdN (vs := [.int .i64 r_9.1.Lo, .int .i64 r_9.1.Hi]) ag_24 rfl rfl (cells_box (n := 2) m0 rfl)) fun a w hf hc => ?_
            refine stE hf hc rfl rfl rfl (eLdN (vs := [.int .i64 r_7.1.Lo, .int .i64 r_7.1.Hi]) ag_24 rfl rfl (cells_box (n := 2) m4 rfl)) fun a w hf hc => ?_
            refine stP hf rfl rfl rfl (pNeA ge_24 rfl rfl (eqs_24 _ _ _ _)) fun a hf => ?_
            refine stP hf rfl rfl rfl (pPf rfl rfl) fun a hf => ?_
            exact cNil ⟨hf.keep ⟨rfl, rfl, rfl, rfl, rfl, rfl, rfl, rfl, rfl, trivial⟩, hc⟩
          · rw [hb] at hf
            refine stS hf rfl rfl rfl fun a hf => ?_
            refine stS hf rfl rfl rfl fun a hf => ?_
            refine stS hf rfl rfl rfl fun a hf => ?_
            refine stP hf rfl rfl rfl (pPt rfl rfl) fun a hf => ?_
            exact cNil ⟨hf.keep ⟨rfl, rfl, rfl, rfl, rfl, rfl, rfl, rfl, rfl, trivial⟩, hc⟩
        intro a w ⟨hf, hc⟩
        refine cNil ?_
        refine h21 _ _ ?_
        refine cCond (b := ((r_9.2 != 0) || (!(r_9.1.Lo == r_7.1.Lo && r_9.1.Hi == r_7.1.Hi)))) hf rfl (fun hb => ?_) (fun hb => ?_)
        · replace hF := condT hb hF
          clear hb
          refine wp_seq_k fun K22 h22 => ?_
          refine cReg ?_
          refine stP hf rfl rfl rfl (pA rfl) fun a hf => ?_
          refine cNil ?_
          refine h22 _ _ ?_
          refine wp_ret ?_
          refine xThenR ?_
          obtain rfl := Option.some.inj hF
          replace hc := hc.drop k6
          replace hc := hc.drop k5
          replace hc := hc.drop k4
          replace hc := hc.drop k3
          replace hc := hc.drop k2
          replace hc := hc.drop k1
          replace hc := hc.drop k0
          exact fnOut1 (by simp) rfl Try.results4 hf hc (show look _ 4 = _ from rfl) ⟨rfl, hc⟩
        · replace hF := condF hb hF
          clear hb
          refine wp_skip ?_
          refine h20 _ _ ?_
          refine wp_seq_k fun K23 h23 => ?_
          refine cReg ?_
          refine stP hf rfl rfl rfl (pM rfl) fun a hf => ?_
          refine stP hf rfl rfl rfl (pM rfl) fun a hf => ?_
          refine stP hf rfl rfl rfl (pLenS Try.underlying38 rfl) fun a hf => ?_
          obtain ⟨r_10, hr_10, hF⟩ := bnd_some hF
          refine stC (vs := [.pointer (some ⟨b_2, 0, none⟩), .int .i64 ((just.length : Nat) : Int)]) (caps := []) hf rfl rfl rfl en_16 rfl rfl rfl rfl (kit_Stream_Next_ok (⟨errors, r_8.2.1, r_8.2.2⟩ : kit_Stream) ((just.length : Nat) : Int) h_errors (hc.pick k3) hr_10) ?_
          rintro _ w ⟨rfl, hc⟩
          refine ⟨_, rfl, fun a hf => ?_⟩
          refine stP hf rfl rfl rfl (pA rfl) fun a hf => ?_
          refine cNil ?_
          refine h23 _ _ ?_
          refine wp_seq_k fun K24 h24 => ?_
          refine cReg ?_
          refine stP hf rfl rfl rfl (pM rfl) fun a hf => ?_
          refine stP hf rfl rfl rfl (pM rfl) fun a hf => ?_
          obtain ⟨e_1, he_1, hF⟩ := bnd_some hF
          obtain ⟨g, rfl, ha, hr⟩ := row_atm hc m6 he_1
          refine stP hf rfl rfl rfl (pIA Try.underlying38 sz_40 rfl rfl ha) fun a hf => ?_
          refine stE hf hc rfl rfl rfl (eLdN (vs := [.int .i64 e_1.X.Lo, .int .i64 e_1.X.Hi, .int .i64 e_1.Y.Lo, .int .i64 e_1.Y.Hi, .int .i64 e_1.Depth.Lo, .int .i64 e_1.Depth.Hi, .int .i64 e_1.East.Lo, .int .i64 e_1.East.Hi, .int .i64 e_1.North.Lo, .int .i64 e_1.North.Hi]) ag_40 rfl rfl (cells_rw m6 hr (n := 10) (o' := 0) rfl)) fun a w hf hc => ?_
          refine stAl (cs := [.int .i64 0, .int .i64 0, .int .i64 0, .int .i64 0, .int .i64 0, .int .i64 0, .int .i64 0, .int .i64 0, .int .i64 0, .int .i64 0]) hf hc rfl rfl zr_40 rfl fun b_6 a w hf hc => ?_
          refine stSt (vs := [.int .i64 e_1.X.Lo, .int .i64 e_1.X.Hi, .int .i64 e_1.Y.Lo, .int .i64 e_1.Y.Hi, .int .i64 e_1.Depth.Lo, .int .i64 e_1.Depth.Hi, .int .i64 e_1.East.Lo, .int .i64 e_1.East.Hi, .int .i64 e_1.North.Lo, .int .i64 e_1.North.Hi]) hf hc rfl rfl rfl rfl sz_40 rfl rfl u0 fun w hc => ?_
          refine cNil ?_
          refine h24 _ _ ?_
          refine wp_seq_k fun K25 h25 => ?_
          refine cReg ?_
          refine stP hf rfl rfl rfl (pM rfl) fun a hf => ?_
          obtain ⟨r_11, hr_11, hF⟩ := bnd_some hF
          refine stC (vs := [.pointer (some ⟨b_2, 0, none⟩), .int .i64 (-40), .int .i64 40]) (caps := []) hf rfl rfl rfl en_12 rfl rfl rfl rfl (kit_Stream_Within_ok (⟨errors, r_10.2.1, r_10.2.2⟩ : kit_Stream) (-40) 40 h_errors (hc.pick k1) hr_11) ?_
          rintro _ w ⟨rfl, hc⟩
          refine ⟨_, rfl, fun a hf => ?_⟩
          refine stP hf rfl rfl rfl (pM rfl) fun a hf => ?_
          obtain ⟨r_12, hr_12, hF⟩ := bnd_some hF
          refine stC (vs := [.pointer (some ⟨b_2, 0, none⟩), .int .i64 (-40), .int .i64 40]) (caps := []) hf rfl rfl rfl en_12 rfl rfl rfl rfl (kit_Stream_Within_ok (⟨errors, r_11.2.1, r_11.2.2⟩ : kit_Stream) (-40) 40 h_errors (hc.pick k0) hr_12) ?_
          rintro _ w ⟨rfl, hc⟩
          refine ⟨_, rfl, fun a hf => ?_⟩
          refine stP hf rfl rfl rfl (pA rfl) fun a hf => ?_
          refine stP hf rfl rfl rfl (pA rfl) fun a hf => ?_
          refine cNil ?_
          refine h25 _ _ ?_
          refine wp_seq_k fun K26 h26 => ?_
          replace hc := hc.nilRow 0 0
          replace hc := hc.nilRow 0 0
          refine regionE (fun θ => [⟨none, none, 27, .pointer (some ⟨b_6, 0, none⟩)⟩, ⟨none, none, 28, .int .i64 r_11.1⟩, ⟨none, none, 29, .int .i64 r_12.1⟩, ⟨some 0, none, 179, .agg #[.int .i64 e_1.X.Lo, .int .i64 e_1.X.Hi, .int .i64 e_1.Y.Lo, .int .i64 e_1.Y.Hi, .int .i64 e_1.Depth.Lo, .int .i64 e_1.Depth.Hi, .int .i64 e_1.East.Lo, .int .i64 e_1.East.Hi, .int .i64 e_1.North.Lo, .int .i64 e_1.North.Hi]⟩, ⟨some 1, none, 180, .agg #[.int .i64 e_1.X.Lo, .int .i64 e_1.X.Hi, .int .i64 e_1.Y.Lo, .int .i64 e_1.Y.Hi, .int .i64 e_1.Depth.Lo, .int .i64 e_1.Depth.Hi, .int .i64 e_1.East.Lo, .int .i64 e_1.East.Hi, .int .i64 e_1.North.Lo, .int .i64 e_1.North.Hi]⟩, ⟨some 2, none, 30, .pointer (some ⟨(θ 16).b, 0, none⟩)⟩, ⟨some 3, none, 31, .pointer (some ⟨(θ 24).b, 0, none⟩)⟩]) (fun E θ => (bif E 5 then .box (θ 24).b [.int .i64 e_1.X.Lo, .int .i64 e_1.X.Hi, .int .i64 e_1.Y.Lo, .int .i64 e_1.Y.Hi, .int .i64 e_1.Depth.Lo, .int .i64 e_1.Depth.Hi, .int .i64 e_1.East.Lo, .int .i64 e_1.East.Hi, .int .i64 e_1.North.Lo, .int .i64 e_1.North.Hi] 40 else bif E 3 then .box (θ 24).b [.int .i64 0, .int .i64 0, .int .i64 0, .int .i64 0, .int .i64 0, .int .i64 0, .int .i64 0, .int .i64 0, .int .i64 0, .int .i64 0] 40 else .row none 0 [] 0 0) :: (bif E 4 then .box (θ 16).b [.int .i64 e_1.X.Lo, .int .i64 e_1.X.Hi, .int .i64 e_1.Y.Lo, .int .i64 e_1.Y.Hi, .int .i64 e_1.Depth.Lo, .int .i64 e_1.Depth.Hi, .int .i64 e_1.East.Lo, .int .i64 e_1.East.Hi, .int .i64 e_1.North.Lo, .int .i64 e_1.North.Hi] 40 else bif E 2 then .box (θ 16).b [.int .i64 0, .int .i64 0, .int .i64 0, .int .i64 0, .int .i64 0, .int .i64 0, .int .i64 0, .int .i64 0, .int .i64 0, .int .i64 0] 40 else .row none 0 [] 0 0) :: .box b_2 [.slice errors_p errors.length errors_c, .int .i64 r_12.2.1, .int .i64 r_12.2.2] 104 :: .box b_6 [.int .i64 e_1.X.Lo, .int .i64 e_1.X.Hi, .int .i64 e_1.Y.Lo, .int .i64 e_1.Y.Hi, .int .i64 e_1.Depth.Lo, .int .i64 e_1.Depth.Hi, .int .i64 e_1.East.Lo, .int .i64 e_1.East.Hi, .int .i64 e_1.North.Lo, .int .i64 e_1.North.Hi] 40 :: .box b_5 [.int .i64 r_9.1.Lo, .int .i64 r_9.1.Hi] 24 :: .row p_5 c_5 (mixed.map enc_gauge_Leg) 40 10 :: .row p_6 c_6 (x_6.map encI_i64) 3 1 :: .box b_4 [.int .i64 r_7.1.Lo, .int .i64 r_7.1.Hi] 24 :: .row p_4 c_4 (rough_1.map enc_gauge_Leg) 40 10 :: .row (some ⟨g, 0, none⟩) c_1 (just.map enc_gauge_Leg) 40 10 :: Lf) [(4, 2), (5, 3)] (fun a w => ∃ (b_9 : Nat) (b_10 : Nat), Has 240 a [(27, .pointer (some ⟨b_6, 0, none⟩)), (28, .int .i64 r_11.1), (29, .int .i64 r_12.1), (30, .pointer (some ⟨b_9, 0, none⟩)), (31, .pointer (some ⟨b_10, 0, none⟩))] ∧ Ctx G (.box b_10 [.int .i64 e_1.X.Lo, .int .i64 e_1.X.Hi, .int .i64 e_1.Y.Lo, .int .i64 e_1.Y.Hi, .int .i64 e_1.Depth.Lo, .int .i64 e_1.Depth.Hi, .int .i64 e_1.East.Lo, .int .i64 e_1.East.Hi, .int .i64 e_1.North.Lo, .int .i64 e_1.North.Hi] 40 :: .box b_9 [.int .i64 e_1.X.Lo, .int .i64 e_1.X.Hi, .int .i64 e_1.Y.Lo, .int .i64 e_1.Y.Hi, .int .i64 e_1.Depth.Lo, .int .i64 e_1.Depth.Hi, .int .i64 e_1.East.Lo, .int .i64 e_1.East.Hi, .int .i64 e_1.North.Lo, .int .i64 e_1.North.Hi] 40 :: .box b_2 [.slice errors_p errors.length errors_c, .int .i64 r_12.2.1, .int .i64 r_12.2.2] 104 :: .box b_6 [.int .i64 e_1.X.Lo, .int .i64 e_1.X.Hi, .int .i64 e_1.Y.Lo, .int .i64 e_1.Y.Hi, .int .i64 e_1.Depth.Lo, .int .i64 e_1.Depth.Hi, .int .i64 e_1.East.Lo, .int .i64 e_1.East.Hi, .int .i64 e_1.North.Lo, .int .i64 e_1.North.Hi] 40 :: .box b_5 [.int .i64 r_9.1.Lo, .int .i64 r_9.1.Hi] 24 :: .row p_5 c_5 (mixed.map enc_gauge_Leg) 40 10 :: .row p_6 c_6 (x_6.map encI_i64) 3 1 :: .box b_4 [.int .i64 r_7.1.Lo, .int .i64 r_7.1.Hi] 24 :: .row p_4 c_4 (rough_1.map enc_gauge_Leg) 40 10 :: .row (some ⟨g, 0, none⟩) c_1 (just.map enc_gauge_Leg) 40 10 :: Lf) w) follows_mx (by kernel_rfl) (by kernel_rfl) (HasE.of hf ⟨rfl, rfl, rfl, trivial, trivial, trivial, trivial, trivial⟩) hc ⟨?_, ?_, ?_, ?_, ?_, ?_, trivial⟩ ?_ ?_
          · intro E θ a w hD hi hp he hc
            have hf := he.h0
            replace hf := hf.more he 0 rfl (onT)
            refine stE hf hc rfl rfl rfl (eLdN (vs := [.int .i64 e_1.X.Lo, .int .i64 e_1.X.Hi, .int .i64 e_1.Y.Lo, .int .i64 e_1.Y.Hi, .int .i64 e_1.Depth.Lo, .int .i64 e_1.Depth.Hi, .int .i64 e_1.East.Lo, .int .i64 e_1.East.Hi, .int .i64 e_1.North.Lo, .int .i64 e_1.North.Hi]) ag_40 rfl rfl (cells_box (n := 10) m3 rfl)) fun a w hf hc => ?_
            refine cNil ?_
            refine xThenN ?_
            intro ds u hau
            refine ⟨θ, he.put hi hau hf rfl [] trivial ⟨⟨rfl, rfl⟩, ⟨rfl, rfl⟩, ⟨rfl, rfl⟩, ⟨rfl, rfl⟩, ⟨rfl, rfl⟩, ⟨rfl, rfl⟩, ⟨rfl, rfl⟩, trivial⟩, ?_⟩
            exact hc
          · intro E θ a w hD hi hp he hc
            have hf := he.h0
            replace hf := hf.more he 0 rfl (onT)
            refine stE hf hc rfl rfl rfl (eLdN (vs := [.int .i64 e_1.X.Lo, .int .i64 e_1.X.Hi, .int .i64 e_1.Y.Lo, .int .i64 e_1.Y.Hi, .int .i64 e_1.Depth.Lo, .int .i64 e_1.Depth.Hi, .int .i64 e_1.East.Lo, .int .i64 e_1.East.Hi, .int .i64 e_1.North.Lo, .int .i64 e_1.North.Hi]) ag_40 rfl rfl (cells_box (n := 10) m3 rfl)) fun a w hf hc => ?_
            refine cNil ?_
            refine xThenN ?_
            intro ds u hau
            refine ⟨θ, he.put hi hau hf rfl [] trivial ⟨⟨rfl, rfl⟩, ⟨rfl, rfl⟩, ⟨rfl, rfl⟩, ⟨rfl, rfl⟩, ⟨rfl, rfl⟩, ⟨rfl, rfl⟩, ⟨rfl, rfl⟩, trivial⟩, ?_⟩
            exact hc
          · intro E θ a w hD hi hp he hc
            have e4 := hD.f 0 rfl hi
            replace hc : Ctx G ((bif E 5 then .box (θ 24).b [.int .i64 e_1.X.Lo, .int .i64 e_1.X.Hi, .int .i64 e_1.Y.Lo, .int .i64 e_1.Y.Hi, .int .i64 e_1.Depth.Lo, .int .i64 e_1.Depth.Hi, .int .i64 e_1.East.Lo, .int .i64 e_1.East.Hi, .int .i64 e_1.North.Lo, .int .i64 e_1.North.Hi] 40 else bif E 3 then .box (θ 24).b [.int .i64 0, .int .i64 0, .int .i64 0, .int .i64 0, .int .i64 0, .int .i64 0, .int .i64 0, .int .i64 0, .int .i64 0, .int .i64 0] 40 else .row none 0 [] 0 0) :: (bif E 4 then .box (θ 16).b [.int .i64 e_1.X.Lo, .int .i64 e_1.X.Hi, .int .i64 e_1.Y.Lo, .int .i64 e_1.Y.Hi, .int .i64 e_1.Depth.Lo, .int .i64 e_1.Depth.Hi, .int .i64 e_1.East.Lo, .int .i64 e_1.East.Hi, .int .i64 e_1.North.Lo, .int .i64 e_1.North.Hi] 40 else bif E 2 then .box (θ 16).b [.int .i64 0, .int .i64 0, .int .i64 0, .int .i64 0, .int .i64 0, .int .i64 0, .int .i64 0, .int .i64 0, .int .i64 0, .int .i64 0] 40 else .row none 0 [] 0 0) :: .box b_2 [.slice errors_p errors.length errors_c, .int .i64 r_12.2.1, .int .i64 r_12.2.2] 104 :: .box b_6 [.int .i64 e_1.X.Lo, .int .i64 e_1.X.Hi, .int .i64 e_1.Y.Lo, .int .i64 e_1.Y.Hi, .int .i64 e_1.Depth.Lo, .int .i64 e_1.Depth.Hi, .int .i64 e_1.East.Lo, .int .i64 e_1.East.Hi, .int .i64 e_1.North.Lo, .int .i64 e_1.North.Hi] 40 :: .box b_5 [.int .i64 r_9.1.Lo, .int .i64 r_9.1.Hi] 24 :: .row p_5 c_5 (mixed.map enc_gauge_Leg) 40 10 :: .row p_6 c_6 (x_6.map encI_i64) 3 1 :: .box b_4 [.int .i64 r_7.1.Lo, .int .i64 r_7.1.Hi] 24 :: .row p_4 c_4 (rough_1.map enc_gauge_Leg) 40 10 :: .row (some ⟨g, 0, none⟩) c_1 (just.map enc_gauge_Leg) 40 10 :: Lf) w := hc
            rw [hi, e4] at hc
            replace hc : Ctx G ((bif E 5 then .box (θ 24).b [.int .i64 e_1.X.Lo, .int .i64 e_1.X.Hi, .int .i64 e_1.Y.Lo, .int .i64 e_1.Y.Hi, .int .i64 e_1.Depth.Lo, .int .i64 e_1.Depth.Hi, .int .i64 e_1.East.Lo, .int .i64 e_1.East.Hi, .int .i64 e_1.North.Lo, .int .i64 e_1.North.Hi] 40 else bif E 3 then .box (θ 24).b [.int .i64 0, .int .i64 0, .int .i64 0, .int .i64 0, .int .i64 0, .int .i64 0, .int .i64 0, .int .i64 0, .int .i64 0, .int .i64 0] 40 else .row none 0 [] 0 0) :: .row none 0 [] 0 0 :: .box b_2 [.slice errors_p errors.length errors_c, .int .i64 r_12.2.1, .int .i64 r_12.2.2] 104 :: .box b_6 [.int .i64 e_1.X.Lo, .int .i64 e_1.X.Hi, .int .i64 e_1.Y.Lo, .int .i64 e_1.Y.Hi, .int .i64 e_1.Depth.Lo, .int .i64 e_1.Depth.Hi, .int .i64 e_1.East.Lo, .int .i64 e_1.East.Hi, .int .i64 e_1.North.Lo, .int .i64 e_1.North.Hi] 40 :: .box b_5 [.int .i64 r_9.1.Lo, .int .i64 r_9.1.Hi] 24 :: .row p_5 c_5 (mixed.map enc_gauge_Leg) 40 10 :: .row p_6 c_6 (x_6.map encI_i64) 3 1 :: .box b_4 [.int .i64 r_7.1.Lo, .int .i64 r_7.1.Hi] 24 :: .row p_4 c_4 (rough_1.map enc_gauge_Leg) 40 10 :: .row (some ⟨g, 0, none⟩) c_1 (just.map enc_gauge_Leg) 40 10 :: Lf) w := hc
            have hf := he.h0
            refine stAl (cs := [.int .i64 0, .int .i64 0, .int .i64 0, .int .i64 0, .int .i64 0, .int .i64 0, .int .i64 0, .int .i64 0, .int .i64 0, .int .i64 0]) hf hc rfl rfl zr_40 rfl fun b_7 a w hf hc => ?_
            refine cNil ?_
            refine xThenN ?_
            intro ds u hau
            replace hc := hc.drop k2
            replace hc := hc.pick k0
            replace hc := hc.pick k1
            refine ⟨(setT θ 16 ⟨b_7, none, 0⟩), he.put hi hau hf rfl [] trivial ⟨⟨rfl, rfl⟩, ⟨rfl, rfl⟩, ⟨rfl, rfl⟩, ⟨rfl, rfl⟩, ⟨rfl, rfl⟩, ⟨rfl, rfl⟩, ⟨rfl, rfl⟩, trivial⟩, ?_⟩
            show Ctx G ((bif E 5 then .box (θ 24).b [.int .i64 e_1.X.Lo, .int .i64 e_1.X.Hi, .int .i64 e_1.Y.Lo, .int .i64 e_1.Y.Hi, .int .i64 e_1.Depth.Lo, .int .i64 e_1.Depth.Hi, .int .i64 e_1.East.Lo, .int .i64 e_1.East.Hi, .int .i64 e_1.North.Lo, .int .i64 e_1.North.Hi] 40 else bif E 3 then .box (θ 24).b [.int .i64 0, .int .i64 0, .int .i64 0, .int .i64 0, .int .i64 0, .int .i64 0, .int .i64 0, .int .i64 0, .int .i64 0, .int .i64 0] 40 else .row none 0 [] 0 0) :: (bif E 4 then .box b_7 [.int .i64 e_1.X.Lo, .int .i64 e_1.X.Hi, .int .i64 e_1.Y.Lo, .int .i64 e_1.Y.Hi, .int .i64 e_1.Depth.Lo, .int .i64 e_1.Depth.Hi, .int .i64 e_1.East.Lo, .int .i64 e_1.East.Hi, .int .i64 e_1.North.Lo, .int .i64 e_1.North.Hi] 40 else bif true then .box b_7 [.int .i64 0, .int .i64 0, .int .i64 0, .int .i64 0, .int .i64 0, .int .i64 0, .int .i64 0, .int .i64 0, .int .i64 0, .int .i64 0] 40 else .row none 0 [] 0 0) :: .box b_2 [.slice errors_p errors.length errors_c, .int .i64 r_12.2.1, .int .i64 r_12.2.2] 104 :: .box b_6 [.int .i64 e_1.X.Lo, .int .i64 e_1.X.Hi, .int .i64 e_1.Y.Lo, .int .i64 e_1.Y.Hi, .int .i64 e_1.Depth.Lo, .int .i64 e_1.Depth.Hi, .int .i64 e_1.East.Lo, .int .i64 e_1.East.Hi, .int .i64 e_1.North.Lo, .int .i64 e_1.North.Hi] 40 :: .box b_5 [.int .i64 r_9.1.Lo, .int .i64 r_9.1.Hi] 24 :: .row p_5 c_5 (mixed.map enc_gauge_Leg) 40 10 :: .row p_6 c_6 (x_6.map encI_i64) 3 1 :: .box b_4 [.int .i64 r_7.1.Lo, .int .i64 r_7.1.Hi] 24 :: .row p_4 c_4 (rough_1.map enc_gauge_Leg) 40 10 :: .row (some ⟨g, 0, none⟩) c_1 (just.map enc_gauge_Leg) 40 10 :: Lf) w
            rw [e4]
            exact hc
          · intro E θ a w hD hi hp he hc
            have e5 := hD.f 1 rfl hi
            replace hc : Ctx G ((bif E 5 then .box (θ 24).b [.int .i64 e_1.X.Lo, .int .i64 e_1.X.Hi, .int .i64 e_1.Y.Lo, .int .i64 e_1.Y.Hi, .int .i64 e_1.Depth.Lo, .int .i64 e_1.Depth.Hi, .int .i64 e_1.East.Lo, .int .i64 e_1.East.Hi, .int .i64 e_1.North.Lo, .int .i64 e_1.North.Hi] 40 else bif E 3 then .box (θ 24).b [.int .i64 0, .int .i64 0, .int .i64 0, .int .i64 0, .int .i64 0, .int .i64 0, .int .i64 0, .int .i64 0, .int .i64 0, .int .i64 0] 40 else .row none 0 [] 0 0) :: (bif E 4 then .box (θ 16).b [.int .i64 e_1.X.Lo, .int .i64 e_1.X.Hi, .int .i64 e_1.Y.Lo, .int .i64 e_1.Y.Hi, .int .i64 e_1.Depth.Lo, .int .i64 e_1.Depth.Hi, .int .i64 e_1.East.Lo, .int .i64 e_1.East.Hi, .int .i64 e_1.North.Lo, .int .i64 e_1.North.Hi] 40 else bif E 2 then .box (θ 16).b [.int .i64 0, .int .i64 0, .int .i64 0, .int .i64 0, .int .i64 0, .int .i64 0, .int .i64 0, .int .i64 0, .int .i64 0, .int .i64 0] 40 else .row none 0 [] 0 0) :: .box b_2 [.slice errors_p errors.length errors_c, .int .i64 r_12.2.1, .int .i64 r_12.2.2] 104 :: .box b_6 [.int .i64 e_1.X.Lo, .int .i64 e_1.X.Hi, .int .i64 e_1.Y.Lo, .int .i64 e_1.Y.Hi, .int .i64 e_1.Depth.Lo, .int .i64 e_1.Depth.Hi, .int .i64 e_1.East.Lo, .int .i64 e_1.East.Hi, .int .i64 e_1.North.Lo, .int .i64 e_1.North.Hi] 40 :: .box b_5 [.int .i64 r_9.1.Lo, .int .i64 r_9.1.Hi] 24 :: .row p_5 c_5 (mixed.map enc_gauge_Leg) 40 10 :: .row p_6 c_6 (x_6.map encI_i64) 3 1 :: .box b_4 [.int .i64 r_7.1.Lo, .int .i64 r_7.1.Hi] 24 :: .row p_4 c_4 (rough_1.map enc_gauge_Leg) 40 10 :: .row (some ⟨g, 0, none⟩) c_1 (just.map enc_gauge_Leg) 40 10 :: Lf) w := hc
            rw [hi, e5] at hc
            replace hc : Ctx G (.row none 0 [] 0 0 :: (bif E 4 then .box (θ 16).b [.int .i64 e_1.X.Lo, .int .i64 e_1.X.Hi, .int .i64 e_1.Y.Lo, .int .i64 e_1.Y.Hi, .int .i64 e_1.Depth.Lo, .int .i64 e_1.Depth.Hi, .int .i64 e_1.East.Lo, .int .i64 e_1.East.Hi, .int .i64 e_1.North.Lo, .int .i64 e_1.North.Hi] 40 else bif E 2 then .box (θ 16).b [.int .i64 0, .int .i64 0, .int .i64 0, .int .i64 0, .int .i64 0, .int .i64 0, .int .i64 0, .int .i64 0, .int .i64 0, .int .i64 0] 40 else .row none 0 [] 0 0) :: .box b_2 [.slice errors_p errors.length errors_c, .int .i64 r_12.2.1, .int .i64 r_12.2.2] 104 :: .box b_6 [.int .i64 e_1.X.Lo, .int .i64 e_1.X.Hi, .int .i64 e_1.Y.Lo, .int .i64 e_1.Y.Hi, .int .i64 e_1.Depth.Lo, .int .i64 e_1.Depth.Hi, .int .i64 e_1.East.Lo, .int .i64 e_1.East.Hi, .int .i64 e_1.North.Lo, .int .i64 e_1.North.Hi] 40 :: .box b_5 [.int .i64 r_9.1.Lo, .int .i64 r_9.1.Hi] 24 :: .row p_5 c_5 (mixed.map enc_gauge_Leg) 40 10 :: .row p_6 c_6 (x_6.map encI_i64) 3 1 :: .box b_4 [.int .i64 r_7.1.Lo, .int .i64 r_7.1.Hi] 24 :: .row p_4 c_4 (rough_1.map enc_gauge_Leg) 40 10 :: .row (some ⟨g, 0, none⟩) c_1 (just.map enc_gauge_Leg) 40 10 :: Lf) w := hc
            have hf := he.h0
            refine stAl (cs := [.int .i64 0, .int .i64 0, .int .i64 0, .int .i64 0, .int .i64 0, .int .i64 0, .int .i64 0, .int .i64 0, .int .i64 0, .int .i64 0]) hf hc rfl rfl zr_40 rfl fun b_8 a w hf hc => ?_
            refine cNil ?_
            refine xThenN ?_
            intro ds u hau
            replace hc := hc.drop k1
            refine ⟨(setT θ 24 ⟨b_8, none, 0⟩), he.put hi hau hf rfl [] trivial ⟨⟨rfl, rfl⟩, ⟨rfl, rfl⟩, ⟨rfl, rfl⟩, ⟨rfl, rfl⟩, ⟨rfl, rfl⟩, ⟨rfl, rfl⟩, ⟨rfl, rfl⟩, trivial⟩, ?_⟩
            show Ctx G ((bif E 5 then .box b_8 [.int .i64 e_1.X.Lo, .int .i64 e_1.X.Hi, .int .i64 e_1.Y.Lo, .int .i64 e_1.Y.Hi, .int .i64 e_1.Depth.Lo, .int .i64 e_1.Depth.Hi, .int .i64 e_1.East.Lo, .int .i64 e_1.East.Hi, .int .i64 e_1.North.Lo, .int .i64 e_1.North.Hi] 40 else bif true then .box b_8 [.int .i64 0, .int .i64 0, .int .i64 0, .int .i64 0, .int .i64 0, .int .i64 0, .int .i64 0, .int .i64 0, .int .i64 0, .int .i64 0] 40 else .row none 0 [] 0 0) :: (bif E 4 then .box (θ 16).b [.int .i64 e_1.X.Lo, .int .i64 e_1.X.Hi, .int .i64 e_1.Y.Lo, .int .i64 e_1.Y.Hi, .int .i64 e_1.Depth.Lo, .int .i64 e_1.Depth.Hi, .int .i64 e_1.East.Lo, .int .i64 e_1.East.Hi, .int .i64 e_1.North.Lo, .int .i64 e_1.North.Hi] 40 else bif E 2 then .box (θ 16).b [.int .i64 0, .int .i64 0, .int .i64 0, .int .i64 0, .int .i64 0, .int .i64 0, .int .i64 0, .int .i64 0, .int .i64 0, .int .i64 0] 40 else .row none 0 [] 0 0) :: .box b_2 [.slice errors_p errors.length errors_c, .int .i64 r_12.2.1, .int .i64 r_12.2.2] 104 :: .box b_6 [.int .i64 e_1.X.Lo, .int .i64 e_1.X.Hi, .int .i64 e_1.Y.Lo, .int .i64 e_1.Y.Hi, .int .i64 e_1.Depth.Lo, .int .i64 e_1.Depth.Hi, .int .i64 e_1.East.Lo, .int .i64 e_1.East.Hi, .int .i64 e_1.North.Lo, .int .i64 e_1.North.Hi] 40 :: .box b_5 [.int .i64 r_9.1.Lo, .int .i64 r_9.1.Hi] 24 :: .row p_5 c_5 (mixed.map enc_gauge_Leg) 40 10 :: .row p_6 c_6 (x_6.map encI_i64) 3 1 :: .box b_4 [.int .i64 r_7.1.Lo, .int .i64 r_7.1.Hi] 24 :: .row p_4 c_4 (rough_1.map enc_gauge_Leg) 40 10 :: .row (some ⟨g, 0, none⟩) c_1 (just.map enc_gauge_Leg) 40 10 :: Lf) w
            rw [e5]
            exact hc
          · intro E θ a w hD hi hp he hc
            have e0 := hp.of (k := 0) rfl
            have e2 := hp.of (k := 2) rfl
            replace hc : Ctx G ((bif E 5 then .box (θ 24).b [.int .i64 e_1.X.Lo, .int .i64 e_1.X.Hi, .int .i64 e_1.Y.Lo, .int .i64 e_1.Y.Hi, .int .i64 e_1.Depth.Lo, .int .i64 e_1.Depth.Hi, .int .i64 e_1.East.Lo, .int .i64 e_1.East.Hi, .int .i64 e_1.North.Lo, .int .i64 e_1.North.Hi] 40 else bif E 3 then .box (θ 24).b [.int .i64 0, .int .i64 0, .int .i64 0, .int .i64 0, .int .i64 0, .int .i64 0, .int .i64 0, .int .i64 0, .int .i64 0, .int .i64 0] 40 else .row none 0 [] 0 0) :: (bif E 4 then .box (θ 16).b [.int .i64 e_1.X.Lo, .int .i64 e_1.X.Hi, .int .i64 e_1.Y.Lo, .int .i64 e_1.Y.Hi, .int .i64 e_1.Depth.Lo, .int .i64 e_1.Depth.Hi, .int .i64 e_1.East.Lo, .int .i64 e_1.East.Hi, .int .i64 e_1.North.Lo, .int .i64 e_1.North.Hi] 40 else bif E 2 then .box (θ 16).b [.int .i64 0, .int .i64 0, .int .i64 0, .int .i64 0, .int .i64 0, .int .i64 0, .int .i64 0, .int .i64 0, .int .i64 0, .int .i64 0] 40 else .row none 0 [] 0 0) :: .box b_2 [.slice errors_p errors.length errors_c, .int .i64 r_12.2.1, .int .i64 r_12.2.2] 104 :: .box b_6 [.int .i64 e_1.X.Lo, .int .i64 e_1.X.Hi, .int .i64 e_1.Y.Lo, .int .i64 e_1.Y.Hi, .int .i64 e_1.Depth.Lo, .int .i64 e_1.Depth.Hi, .int .i64 e_1.East.Lo, .int .i64 e_1.East.Hi, .int .i64 e_1.North.Lo, .int .i64 e_1.North.Hi] 40 :: .box b_5 [.int .i64 r_9.1.Lo, .int .i64 r_9.1.Hi] 24 :: .row p_5 c_5 (mixed.map enc_gauge_Leg) 40 10 :: .row p_6 c_6 (x_6.map encI_i64) 3 1 :: .box b_4 [.int .i64 r_7.1.Lo, .int .i64 r_7.1.Hi] 24 :: .row p_4 c_4 (rough_1.map enc_gauge_Leg) 40 10 :: .row (some ⟨g, 0, none⟩) c_1 (just.map enc_gauge_Leg) 40 10 :: Lf) w := hc
            rw [e2, hi] at hc
            replace hc : Ctx G ((bif E 5 then .box (θ 24).b [.int .i64 e_1.X.Lo, .int .i64 e_1.X.Hi, .int .i64 e_1.Y.Lo, .int .i64 e_1.Y.Hi, .int .i64 e_1.Depth.Lo, .int .i64 e_1.Depth.Hi, .int .i64 e_1.East.Lo, .int .i64 e_1.East.Hi, .int .i64 e_1.North.Lo, .int .i64 e_1.North.Hi] 40 else bif E 3 then .box (θ 24).b [.int .i64 0, .int .i64 0, .int .i64 0, .int .i64 0, .int .i64 0, .int .i64 0, .int .i64 0, .int .i64 0, .int .i64 0, .int .i64 0] 40 else .row none 0 [] 0 0) :: .box (θ 16).b [.int .i64 0, .int .i64 0, .int .i64 0, .int .i64 0, .int .i64 0, .int .i64 0, .int .i64 0, .int .i64 0, .int .i64 0, .int .i64 0] 40 :: .box b_2 [.slice errors_p errors.length errors_c, .int .i64 r_12.2.1, .int .i64 r_12.2.2] 104 :: .box b_6 [.int .i64 e_1.X.Lo, .int .i64 e_1.X.Hi, .int .i64 e_1.Y.Lo, .int .i64 e_1.Y.Hi, .int .i64 e_1.Depth.Lo, .int .i64 e_1.Depth.Hi, .int .i64 e_1.East.Lo, .int .i64 e_1.East.Hi, .int .i64 e_1.North.Lo, .int .i64 e_1.North.Hi] 40 :: .box b_5 [.int .i64 r_9.1.Lo, .int .i64 r_9.1.Hi] 24 :: .row p_5 c_5 (mixed.map enc_gauge_Leg) 40 10 :: .row p_6 c_6 (x_6.map encI_i64) 3 1 :: .box b_4 [.int .i64 r_7.1.Lo, .int .i64 r_7.1.Hi] 24 :: .row p_4 c_4 (rough_1.map enc_gauge_Leg) 40 10 :: .row (some ⟨g, 0, none⟩) c_1 (just.map enc_gauge_Leg) 40 10 :: Lf) w := hc
            have hf := he.h0
            replace hf := hf.more he 3 rfl (onP e0)
            replace hf := hf.more he 5 rfl (onP e2)
            refine stSt (vs := [.int .i64 e_1.X.Lo, .int .i64 e_1.X.Hi, .int .i64 e_1.Y.Lo, .int .i64 e_1.Y.Hi, .int .i64 e_1.Depth.Lo, .int .i64 e_1.Depth.Hi, .int .i64 e_1.East.Lo, .int .i64 e_1.East.Hi, .int .i64 e_1.North.Lo, .int .i64 e_1.North.Hi]) hf hc rfl rfl rfl rfl sz_40 rfl rfl u1 fun w hc => ?_
            refine cNil ?_
            refine xThenN ?_
            intro ds u hau
            refine ⟨θ, he.stay hi hau hf ⟨⟨rfl, rfl⟩, ⟨rfl, rfl⟩, ⟨rfl, rfl⟩, ⟨rfl, rfl⟩, ⟨rfl, rfl⟩, ⟨rfl, rfl⟩, ⟨rfl, rfl⟩, trivial⟩, ?_⟩
            show Ctx G ((bif E 5 then .box (θ 24).b [.int .i64 e_1.X.Lo, .int .i64 e_1.X.Hi, .int .i64 e_1.Y.Lo, .int .i64 e_1.Y.Hi, .int .i64 e_1.Depth.Lo, .int .i64 e_1.Depth.Hi, .int .i64 e_1.East.Lo, .int .i64 e_1.East.Hi, .int .i64 e_1.North.Lo, .int .i64 e_1.North.Hi] 40 else bif E 3 then .box (θ 24).b [.int .i64 0, .int .i64 0, .int .i64 0, .int .i64 0, .int .i64 0, .int .i64 0, .int .i64 0, .int .i64 0, .int .i64 0, .int .i64 0] 40 else .row none 0 [] 0 0) :: (bif true then .box (θ 16).b [.int .i64 e_1.X.Lo, .int .i64 e_1.X.Hi, .int .i64 e_1.Y.Lo, .int .i64 e_1.Y.Hi, .int .i64 e_1.Depth.Lo, .int .i64 e_1.Depth.Hi, .int .i64 e_1.East.Lo, .int .i64 e_1.East.Hi, .int .i64 e_1.North.Lo, .int .i64 e_1.North.Hi] 40 else bif E 2 then .box (θ 16).b [.int .i64 0, .int .i64 0, .int .i64 0, .int .i64 0, .int .i64 0, .int .i64 0, .int .i64 0, .int .i64 0, .int .i64 0, .int .i64 0] 40 else .row none 0 [] 0 0) :: .box b_2 [.slice errors_p errors.length errors_c, .int .i64 r_12.2.1, .int .i64 r_12.2.2] 104 :: .box b_6 [.int .i64 e_1.X.Lo, .int .i64 e_1.X.Hi, .int .i64 e_1.Y.Lo, .int .i64 e_1.Y.Hi, .int .i64 e_1.Depth.Lo, .int .i64 e_1.Depth.Hi, .int .i64 e_1.East.Lo, .int .i64 e_1.East.Hi, .int .i64 e_1.North.Lo, .int .i64 e_1.North.Hi] 40 :: .box b_5 [.int .i64 r_9.1.Lo, .int .i64 r_9.1.Hi] 24 :: .row p_5 c_5 (mixed.map enc_gauge_Leg) 40 10 :: .row p_6 c_6 (x_6.map encI_i64) 3 1 :: .box b_4 [.int .i64 r_7.1.Lo, .int .i64 r_7.1.Hi] 24 :: .row p_4 c_4 (rough_1.map enc_gauge_Leg) 40 10 :: .row (some ⟨g, 0, none⟩) c_1 (just.map enc_gauge_Leg) 40 10 :: Lf) w
            rw [e2]
            exact hc
          · intro E θ a w hD hi hp he hc
            have e1 := hp.of (k := 1) rfl
            have e3 := hp.of (k := 3) rfl
            replace hc : Ctx G ((bif E 5 then .box (θ 24).b [.int .i64 e_1.X.Lo, .int .i64 e_1.X.Hi, .int .i64 e_1.Y.Lo, .int .i64 e_1.Y.Hi, .int .i64 e_1.Depth.Lo, .int .i64 e_1.Depth.Hi, .int .i64 e_1.East.Lo, .int .i64 e_1.East.Hi, .int .i64 e_1.North.Lo, .int .i64 e_1.North.Hi] 40 else bif E 3 then .box (θ 24).b [.int .i64 0, .int .i64 0, .int .i64 0, .int .i64 0, .int .i64 0, .int .i64 0, .int .i64 0, .int .i64 0, .int .i64 0, .int .i64 0] 40 else .row none 0 [] 0 0) :: (bif E 4 then .box (θ 16).b [.int .i64 e_1.X.Lo, .int .i64 e_1.X.Hi, .int .i64 e_1.Y.Lo, .int .i64 e_1.Y.Hi, .int .i64 e_1.Depth.Lo, .int .i64 e_1.Depth.Hi, .int .i64 e_1.East.Lo, .int .i64 e_1.East.Hi, .int .i64 e_1.North.Lo, .int .i64 e_1.North.Hi] 40 else bif E 2 then .box (θ 16).b [.int .i64 0, .int .i64 0, .int .i64 0, .int .i64 0, .int .i64 0, .int .i64 0, .int .i64 0, .int .i64 0, .int .i64 0, .int .i64 0] 40 else .row none 0 [] 0 0) :: .box b_2 [.slice errors_p errors.length errors_c, .int .i64 r_12.2.1, .int .i64 r_12.2.2] 104 :: .box b_6 [.int .i64 e_1.X.Lo, .int .i64 e_1.X.Hi, .int .i64 e_1.Y.Lo, .int .i64 e_1.Y.Hi, .int .i64 e_1.Depth.Lo, .int .i64 e_1.Depth.Hi, .int .i64 e_1.East.Lo, .int .i64 e_1.East.Hi, .int .i64 e_1.North.Lo, .int .i64 e_1.North.Hi] 40 :: .box b_5 [.int .i64 r_9.1.Lo, .int .i64 r_9.1.Hi] 24 :: .row p_5 c_5 (mixed.map enc_gauge_Leg) 40 10 :: .row p_6 c_6 (x_6.map encI_i64) 3 1 :: .box b_4 [.int .i64 r_7.1.Lo, .int .i64 r_7.1.Hi] 24 :: .row p_4 c_4 (rough_1.map enc_gauge_Leg) 40 10 :: .row (some ⟨g, 0, none⟩) c_1 (just.map enc_gauge_Leg) 40 10 :: Lf) w := hc
            rw [e3, hi] at hc
            replace hc : Ctx G (.box (θ 24).b [.int .i64 0, .int .i64 0, .int .i64 0, .int .i64 0, .int .i64 0, .int .i64 0, .int .i64 0, .int .i64 0, .int .i64 0, .int .i64 0] 40 :: (bif E 4 then .box (θ 16).b [.int .i64 e_1.X.Lo, .int .i64 e_1.X.Hi, .int .i64 e_1.Y.Lo, .int .i64 e_1.Y.Hi, .int .i64 e_1.Depth.Lo, .int .i64 e_1.Depth.Hi, .int .i64 e_1.East.Lo, .int .i64 e_1.East.Hi, .int .i64 e_1.North.Lo, .int .i64 e_1.North.Hi] 40 else bif E 2 then .box (θ 16).b [.int .i64 0, .int .i64 0, .int .i64 0, .int .i64 0, .int .i64 0, .int .i64 0, .int .i64 0, .int .i64 0, .int .i64 0, .int .i64 0] 40 else .row none 0 [] 0 0) :: .box b_2 [.slice errors_p errors.length errors_c, .int .i64 r_12.2.1, .int .i64 r_12.2.2] 104 :: .box b_6 [.int .i64 e_1.X.Lo, .int .i64 e_1.X.Hi, .int .i64 e_1.Y.Lo, .int .i64 e_1.Y.Hi, .int .i64 e_1.Depth.Lo, .int .i64 e_1.Depth.Hi, .int .i64 e_1.East.Lo, .int .i64 e_1.East.Hi, .int .i64 e_1.North.Lo, .int .i64 e_1.North.Hi] 40 :: .box b_5 [.int .i64 r_9.1.Lo, .int .i64 r_9.1.Hi] 24 :: .row p_5 c_5 (mixed.map enc_gauge_Leg) 40 10 :: .row p_6 c_6 (x_6.map encI_i64) 3 1 :: .box b_4 [.int .i64 r_7.1.Lo, .int .i64 r_7.1.Hi] 24 :: .row p_4 c_4 (rough_1.map enc_gauge_Leg) 40 10 :: .row (some ⟨g, 0, none⟩) c_1 (just.map enc_gauge_Leg) 40 10 :: Lf) w := hc
            have hf := he.h0
            replace hf := hf.more he 4 rfl (onP e1)
            replace hf := hf.more he 6 rfl (onP e3)
            refine stSt (vs := [.int .i64 e_1.X.Lo, .int .i64 e_1.X.Hi, .int .i64 e_1.Y.Lo, .int .i64 e_1.Y.Hi, .int .i64 e_1.Depth.Lo, .int .i64 e_1.Depth.Hi, .int .i64 e_1.East.Lo, .int .i64 e_1.East.Hi, .int .i64 e_1.North.Lo, .int .i64 e_1.North.Hi]) hf hc rfl rfl rfl rfl sz_40 rfl rfl u0 fun w hc => ?_
            refine cNil ?_
            refine xThenN ?_
            intro ds u hau
            refine ⟨θ, he.stay hi hau hf ⟨⟨rfl, rfl⟩, ⟨rfl, rfl⟩, ⟨rfl, rfl⟩, ⟨rfl, rfl⟩, ⟨rfl, rfl⟩, ⟨rfl, rfl⟩, ⟨rfl, rfl⟩, trivial⟩, ?_⟩
            show Ctx G ((bif true then .box (θ 24).b [.int .i64 e_1.X.Lo, .int .i64 e_1.X.Hi, .int .i64 e_1.Y.Lo, .int .i64 e_1.Y.Hi, .int .i64 e_1.Depth.Lo, .int .i64 e_1.Depth.Hi, .int .i64 e_1.East.Lo, .int .i64 e_1.East.Hi, .int .i64 e_1.North.Lo, .int .i64 e_1.North.Hi] 40 else bif E 3 then .box (θ 24).b [.int .i64 0, .int .i64 0, .int .i64 0, .int .i64 0, .int .i64 0, .int .i64 0, .int .i64 0, .int .i64 0, .int .i64 0, .int .i64 0] 40 else .row none 0 [] 0 0) :: (bif E 4 then .box (θ 16).b [.int .i64 e_1.X.Lo, .int .i64 e_1.X.Hi, .int .i64 e_1.Y.Lo, .int .i64 e_1.Y.Hi, .int .i64 e_1.Depth.Lo, .int .i64 e_1.Depth.Hi, .int .i64 e_1.East.Lo, .int .i64 e_1.East.Hi, .int .i64 e_1.North.Lo, .int .i64 e_1.North.Hi] 40 else bif E 2 then .box (θ 16).b [.int .i64 0, .int .i64 0, .int .i64 0, .int .i64 0, .int .i64 0, .int .i64 0, .int .i64 0, .int .i64 0, .int .i64 0, .int .i64 0] 40 else .row none 0 [] 0 0) :: .box b_2 [.slice errors_p errors.length errors_c, .int .i64 r_12.2.1, .int .i64 r_12.2.2] 104 :: .box b_6 [.int .i64 e_1.X.Lo, .int .i64 e_1.X.Hi, .int .i64 e_1.Y.Lo, .int .i64 e_1.Y.Hi, .int .i64 e_1.Depth.Lo, .int .i64 e_1.Depth.Hi, .int .i64 e_1.East.Lo, .int .i64 e_1.East.Hi, .int .i64 e_1.North.Lo, .int .i64 e_1.North.Hi] 40 :: .box b_5 [.int .i64 r_9.1.Lo, .int .i64 r_9.1.Hi] 24 :: .row p_5 c_5 (mixed.map enc_gauge_Leg) 40 10 :: .row p_6 c_6 (x_6.map encI_i64) 3 1 :: .box b_4 [.int .i64 r_7.1.Lo, .int .i64 r_7.1.Hi] 24 :: .row p_4 c_4 (rough_1.map enc_gauge_Leg) 40 10 :: .row (some ⟨g, 0, none⟩) c_1 (just.map enc_gauge_Leg) 40 10 :: Lf) w
            rw [e3]
            exact hc
          · intro E θ a w hall he hc
            have hf := he.h0
            have e2 := hall 2 rfl
            have e3 := hall 3 rfl
            have e4 := hall 4 rfl
            have e5 := hall 5 rfl
            replace hf := hf.more he 6 rfl (onP e3)
            replace hf := hf.more he 5 rfl (onP e2)
            replace hf := hf.more he 2 rfl (onT)
            replace hf := hf.more he 1 rfl (onT)
            replace hf := hf.more he 0 rfl (onT)
            replace hc : Ctx G ((bif E 5 then .box (θ 24).b [.int .i64 e_1.X.Lo, .int .i64 e_1.X.Hi, .int .i64 e_1.Y.Lo, .int .i64 e_1.Y.Hi, .int .i64 e_1.Depth.Lo, .int .i64 e_1.Depth.Hi, .int .i64 e_1.East.Lo, .int .i64 e_1.East.Hi, .int .i64 e_1.North.Lo, .int .i64 e_1.North.Hi] 40 else bif E 3 then .box (θ 24).b [.int .i64 0, .int .i64 0, .int .i64 0, .int .i64 0, .int .i64 0, .int .i64 0, .int .i64 0, .int .i64 0, .int .i64 0, .int .i64 0] 40 else .row none 0 [] 0 0) :: (bif E 4 then .box (θ 16).b [.int .i64 e_1.X.Lo, .int .i64 e_1.X.Hi, .int .i64 e_1.Y.Lo, .int .i64 e_1.Y.Hi, .int .i64 e_1.Depth.Lo, .int .i64 e_1.Depth.Hi, .int .i64 e_1.East.Lo, .int .i64 e_1.East.Hi, .int .i64 e_1.North.Lo, .int .i64 e_1.North.Hi] 40 else bif E 2 then .box (θ 16).b [.int .i64 0, .int .i64 0, .int .i64 0, .int .i64 0, .int .i64 0, .int .i64 0, .int .i64 0, .int .i64 0, .int .i64 0, .int .i64 0] 40 else .row none 0 [] 0 0) :: .box b_2 [.slice errors_p errors.length errors_c, .int .i64 r_12.2.1, .int .i64 r_12.2.2] 104 :: .box b_6 [.int .i64 e_1.X.Lo, .int .i64 e_1.X.Hi, .int .i64 e_1.Y.Lo, .int .i64 e_1.Y.Hi, .int .i64 e_1.Depth.Lo, .int .i64 e_1.Depth.Hi, .int .i64 e_1.East.Lo, .int .i64 e_1.East.Hi, .int .i64 e_1.North.Lo, .int .i64 e_1.North.Hi] 40 :: .box b_5 [.int .i64 r_9.1.Lo, .int .i64 r_9.1.Hi] 24 :: .row p_5 c_5 (mixed.map enc_gauge_Leg) 40 10 :: .row p_6 c_6 (x_6.map encI_i64) 3 1 :: .box b_4 [.int .i64 r_7.1.Lo, .int .i64 r_7.1.Hi] 24 :: .row p_4 c_4 (rough_1.map enc_gauge_Leg) 40 10 :: .row (some ⟨g, 0, none⟩) c_1 (just.map enc_gauge_Leg) 40 10 :: Lf) w := hc
            rw [e2, e3, e4, e5] at hc
            exact ⟨(θ 16).b, (θ 24).b, hf.keep ⟨rfl, rfl, rfl, rfl, rfl, trivial⟩, hc⟩
          rintro a w ⟨b_9, b_10, hf, hc⟩
          refine h26 _ _ ?_
          refine wp_seq_k fun K27 h27 => ?_
          refine cReg ?_
          refine stP hf rfl rfl rfl (pM rfl) fun a hf => ?_
          refine stP hf rfl rfl rfl (pM rfl) fun a hf => ?_
          obtain ⟨r_13, hr_13, hF⟩ := bnd_some hF
          refine stE hf hc rfl rfl rfl (eC (v := .agg #[.int .i64 r_13.Lo, .int .i64 r_13.Hi]) (vs := [.int .i64 r_11.1, .int .i64 r_11.1]) (caps := []) en_14 rfl rfl rfl rfl (fun w hc => law03_span_ok r_11.1 r_11.1 hc hr_13)) fun a w hf hc => ?_
          refine stP hf rfl rfl rfl (pM rfl) fun a hf => ?_
          refine stP hf rfl rfl rfl (pM rfl) fun a hf => ?_
          obtain ⟨r_14, hr_14, hF⟩ := bnd_some hF
          refine stE hf hc rfl rfl rfl (eC (v := .agg #[.int .i64 r_14.Lo, .int .i64 r_14.Hi]) (vs := [.int .i64 r_12.1, .int .i64 r_12.1]) (caps := []) en_14 rfl rfl rfl rfl (fun w hc => law03_span_ok r_12.1 r_12.1 hc hr_14)) fun a w hf hc => ?_
          refine stP hf rfl rfl rfl (pFA fa_40_0 rfl) fun a hf => ?_
          refine stSt (vs := [.int .i64 r_13.Lo, .int .i64 r_13.Hi]) hf hc rfl rfl rfl rfl sz_24 rfl rfl u1 fun w hc => ?_
          refine stP hf rfl rfl rfl (pFA fa_40_1 rfl) fun a hf => ?_
          refine stSt (vs := [.int .i64 r_14.Lo, .int .i64 r_14.Hi]) hf hc rfl rfl rfl rfl sz_24 rfl rfl u1 fun w hc => ?_
          refine cNil ?_
          refine h27 _ _ ?_
          refine wp_seq_k fun K28 h28 => ?_
          obtain ⟨r_15, hr_15, hF⟩ := bnd_some hF
          obtain ⟨r_16, hr_16, hF⟩ := bnd_some hF
          refine regionE (fun θ => [⟨none, none, 27, .pointer (some ⟨b_6, 0, none⟩)⟩, ⟨none, none, 28, .int .i64 r_11.1⟩, ⟨none, none, 29, .int .i64 r_12.1⟩, ⟨none, none, 30, .pointer (some ⟨b_9, 0, none⟩)⟩, ⟨none, none, 31, .pointer (some ⟨b_10, 0, none⟩)⟩, ⟨some 0, none, 189, .pointer (some ⟨b_6, 0, none⟩)⟩, ⟨some 1, none, 190, .pointer (some ⟨b_6, 0, none⟩)⟩, ⟨some 2, none, 191, .int .i64 e_1.X.Lo⟩, ⟨some 3, none, 192, .int .i64 r_11.1⟩, ⟨some 4, none, 193, .int .i64 (W (e_1.X.Lo - r_11.1))⟩, ⟨some 5, none, 194, .pointer (some ⟨b_6, 0, none⟩)⟩, ⟨some 6, none, 195, .pointer (some ⟨b_6, 0, none⟩)⟩, ⟨some 7, none, 196, .int .i64 e_1.X.Lo⟩, ⟨some 8, none, 197, .int .i64 r_11.1⟩, ⟨some 9, none, 198, .int .i64 (W (e_1.X.Lo - r_11.1))⟩, ⟨some 10, none, 199, .agg #[.int .i64 r_15.Lo, .int .i64 r_15.Hi]⟩, ⟨some 11, none, 200, .pointer (some ⟨b_6, 2, none⟩)⟩, ⟨some 12, none, 201, .pointer (some ⟨b_6, 2, none⟩)⟩, ⟨some 13, none, 202, .int .i64 e_1.Y.Lo⟩, ⟨some 14, none, 203, .int .i64 r_12.1⟩, ⟨some 15, none, 204, .int .i64 (W (e_1.Y.Lo - r_12.1))⟩, ⟨some 16, none, 205, .pointer (some ⟨b_6, 2, none⟩)⟩, ⟨some 17, none, 206, .pointer (some ⟨b_6, 2, none⟩)⟩, ⟨some 18, none, 207, .int .i64 e_1.Y.Lo⟩, ⟨some 19, none, 208, .int .i64 r_12.1⟩, ⟨some 20, none, 209, .int .i64 (W (e_1.Y.Lo - r_12.1))⟩, ⟨some 21, none, 210, .agg #[.int .i64 r_16.Lo, .int .i64 r_16.Hi]⟩, ⟨some 22, none, 211, .pointer (some ⟨b_10, 0, none⟩)⟩, ⟨some 24, none, 212, .pointer (some ⟨b_10, 2, none⟩)⟩]) (fun E θ => (bif E 25 then .box b_10 [.int .i64 r_15.Lo, .int .i64 r_15.Hi, .int .i64 r_16.Lo, .int .i64 r_16.Hi, .int .i64 e_1.Depth.Lo, .int .i64 e_1.Depth.Hi, .int .i64 e_1.East.Lo, .int .i64 e_1.East.Hi, .int .i64 e_1.North.Lo, .int .i64 e_1.North.Hi] 40 else bif E 23 then .box b_10 [.int .i64 r_15.Lo, .int .i64 r_15.Hi, .int .i64 e_1.Y.Lo, .int .i64 e_1.Y.Hi, .int .i64 e_1.Depth.Lo, .int .i64 e_1.Depth.Hi, .int .i64 e_1.East.Lo, .int .i64 e_1.East.Hi, .int .i64 e_1.North.Lo, .int .i64 e_1.North.Hi] 40 else .box b_10 [.int .i64 e_1.X.Lo, .int .i64 e_1.X.Hi, .int .i64 e_1.Y.Lo, .int .i64 e_1.Y.Hi, .int .i64 e_1.Depth.Lo, .int .i64 e_1.Depth.Hi, .int .i64 e_1.East.Lo, .int .i64 e_1.East.Hi, .int .i64 e_1.North.Lo, .int .i64 e_1.North.Hi] 40) :: .box b_9 [.int .i64 r_13.Lo, .int .i64 r_13.Hi, .int .i64 r_14.Lo, .int .i64 r_14.Hi, .int .i64 e_1.Depth.Lo, .int .i64 e_1.Depth.Hi, .int .i64 e_1.East.Lo, .int .i64 e_1.East.Hi, .int .i64 e_1.North.Lo, .int .i64 e_1.North.Hi] 40 :: .box b_2 [.slice errors_p errors.length errors_c, .int .i64 r_12.2.1, .int .i64 r_12.2.2] 104 :: .box b_6 [.int .i64 e_1.X.Lo, .int .i64 e_1.X.Hi, .int .i64 e_1.Y.Lo, .int .i64 e_1.Y.Hi, .int .i64 e_1.Depth.Lo, .int .i64 e_1.Depth.Hi, .int .i64 e_1.East.Lo, .int .i64 e_1.East.Hi, .int .i64 e_1.North.Lo, .int .i64 e_1.North.Hi] 40 :: .box b_5 [.int .i64 r_9.1.Lo, .int .i64 r_9.1.Hi] 24 :: .row p_5 c_5 (mixed.map enc_gauge_Leg) 40 10 :: .row p_6 c_6 (x_6.map encI_i64) 3 1 :: .box b_4 [.int .i64 r_7.1.Lo, .int .i64 r_7.1.Hi] 24 :: .row p_4 c_4 (rough_1.map enc_gauge_Leg) 40 10 :: .row (some ⟨g, 0, none⟩) c_1 (just.map enc_gauge_Leg) 40 10 :: Lf) [(25, 23)] (fun a w => Has 240 a [(27, .pointer (some ⟨b_6, 0, none⟩)), (30, .pointer (some ⟨b_9, 0, none⟩)), (31, .pointer (some ⟨b_10, 0, none⟩))] ∧ Ctx G (.box b_10 [.int .i64 r_15.Lo, .int .i64 r_15.Hi, .int .i64 r_16.Lo, .int .i64 r_16.Hi, .int .i64 e_1.Depth.Lo, .int .i64 e_1.Depth.Hi, .int .i64 e_1.East.Lo, .int .i64 e_1.East.Hi, .int .i64 e_1.North.Lo, .int .i64 e_1.North.Hi] 40 :: .box b_9 [.int .i64 r_13.Lo, .int .i64 r_13.Hi, .int .i64 r_14.Lo, .int .i64 r_14.Hi, .int .i64 e_1.Depth.Lo, .int .i64 e_1.Depth.Hi, .int .i64 e_1.East.Lo, .int .i64 e_1.East.Hi, .int .i64 e_1.North.Lo, .int .i64 e_1.North.Hi] 40 :: .box b_2 [.slice errors_p errors.length errors_c, .int .i64 r_12.2.1, .int .i64 r_12.2.2] 104 :: .box b_6 [.int .i64 e_1.X.Lo, .int .i64 e_1.X.Hi, .int .i64 e_1.Y.Lo, .int .i64 e_1.Y.Hi, .int .i64 e_1.Depth.Lo, .int .i64 e_1.Depth.Hi, .int .i64 e_1.East.Lo, .int .i64 e_1.East.Hi, .int .i64 e_1.North.Lo, .int .i64 e_1.North.Hi] 40 :: .box b_5 [.int .i64 r_9.1.Lo, .int .i64 r_9.1.Hi] 24 :: .row p_5 c_5 (mixed.map enc_gauge_Leg) 40 10 :: .row p_6 c_6 (x_6.map encI_i64) 3 1 :: .box b_4 [.int .i64 r_7.1.Lo, .int .i64 r_7.1.Hi] 24 :: .row p_4 c_4 (rough_1.map enc_gauge_Leg) 40 10 :: .row (some ⟨g, 0, none⟩) c_1 (just.map enc_gauge_Leg) 40 10 :: Lf) w) follows_mx (by kernel_rfl) (by kernel_rfl) (HasE.of hf ⟨rfl, rfl, rfl, rfl, rfl, trivial, trivial, trivial, trivial, trivial, trivial, trivial, trivial, trivial, trivial, trivial, trivial, trivial, trivial, trivial, trivial, trivial, trivial, trivial, trivial, trivial, trivial, trivial, trivial, trivial⟩) hc ⟨?_, ?_, ?_, ?_, ?_, ?_, ?_, ?_, ?_, ?_, ?_, ?_, ?_, ?_, ?_, ?_, ?_, ?_, ?_, ?_, ?_, ?_, ?_, ?_, ?_, ?_, trivial⟩ ?_ ?_
          · intro E θ a w hD hi hp he hc
            have hf := he.h0
            replace hf := hf.more he 0 rfl (onT)
            refine stP hf rfl rfl rfl (pFA fa_40_0 rfl) fun a hf => ?_
            refine cNil ?_
            refine xThenN ?_
            intro ds u hau
            refine ⟨θ, he.put hi hau hf rfl [] trivial ⟨⟨rfl, rfl⟩, ⟨rfl, rfl⟩, ⟨rfl, rfl⟩, ⟨rfl, rfl⟩, ⟨rfl, rfl⟩, ⟨rfl, rfl⟩, ⟨rfl, rfl⟩, ⟨rfl, rfl⟩, ⟨rfl, rfl⟩, ⟨rfl, rfl⟩, ⟨rfl, rfl⟩, ⟨rfl, rfl⟩, ⟨rfl, rfl⟩, ⟨rfl, rfl⟩, ⟨rfl, rfl⟩, ⟨rfl, rfl⟩, ⟨rfl, rfl⟩, ⟨rfl, rfl⟩, ⟨rfl, rfl⟩, ⟨rfl, rfl⟩, ⟨rfl, rfl⟩, ⟨rfl, rfl⟩, ⟨rfl, rfl⟩, ⟨rfl, rfl⟩, ⟨rfl, rfl⟩, ⟨rfl, rfl⟩, ⟨rfl, rfl⟩, ⟨rfl, rfl⟩, ⟨rfl, rfl⟩, trivial⟩, ?_⟩
            exact hc
          · intro E θ a w hD hi hp he hc
            have e0 := hp.of (k := 0) rfl
            have hf := he.h0
            replace hf := hf.more he 5 rfl (onP e0)
            refine stP hf rfl rfl rfl (pFA fa_24_0 rfl) fun a hf => ?_
            refine cNil ?_
            refine xThenN ?_
            intro ds u hau
            refine ⟨θ, he.put hi hau hf rfl [] trivial ⟨⟨rfl, rfl⟩, ⟨rfl, rfl⟩, ⟨rfl, rfl⟩, ⟨rfl, rfl⟩, ⟨rfl, rfl⟩, ⟨rfl, rfl⟩, ⟨rfl, rfl⟩, ⟨rfl, rfl⟩, ⟨rfl, rfl⟩, ⟨rfl, rfl⟩, ⟨rfl, rfl⟩, ⟨rfl, rfl⟩, ⟨rfl, rfl⟩, ⟨rfl, rfl⟩, ⟨rfl, rfl⟩, ⟨rfl, rfl⟩, ⟨rfl, rfl⟩, ⟨rfl, rfl⟩, ⟨rfl, rfl⟩, ⟨rfl, rfl⟩, ⟨rfl, rfl⟩, ⟨rfl, rfl⟩, ⟨rfl, rfl⟩, ⟨rfl, rfl⟩, ⟨rfl, rfl⟩, ⟨rfl, rfl⟩, ⟨rfl, rfl⟩, ⟨rfl, rfl⟩, ⟨rfl, rfl⟩, trivial⟩, ?_⟩
            exact hc
          · intro E θ a w hD hi hp he hc
            have e1 := hp.of (k := 1) rfl
            have hf := he.h0
            replace hf := hf.more he 6 rfl (onP e1)
            refine stE hf hc rfl rfl rfl (eLd1 sc_3 rfl (cell_box m3 rfl)) fun a w hf hc => ?_
            refine cNil ?_
            refine xThenN ?_
            intro ds u hau
            refine ⟨θ, he.put hi hau hf rfl [] trivial ⟨⟨rfl, rfl⟩, ⟨rfl, rfl⟩, ⟨rfl, rfl⟩, ⟨rfl, rfl⟩, ⟨rfl, rfl⟩, ⟨rfl, rfl⟩, ⟨rfl, rfl⟩, ⟨rfl, rfl⟩, ⟨rfl, rfl⟩, ⟨rfl, rfl⟩, ⟨rfl, rfl⟩, ⟨rfl, rfl⟩, ⟨rfl, rfl⟩, ⟨rfl, rfl⟩, ⟨rfl, rfl⟩, ⟨rfl, rfl⟩, ⟨rfl, rfl⟩, ⟨rfl, rfl⟩, ⟨rfl, rfl⟩, ⟨rfl, rfl⟩, ⟨rfl, rfl⟩, ⟨rfl, rfl⟩, ⟨rfl, rfl⟩, ⟨rfl, rfl⟩, ⟨rfl, rfl⟩, ⟨rfl, rfl⟩, ⟨rfl, rfl⟩, ⟨rfl, rfl⟩, ⟨rfl, rfl⟩, trivial⟩, ?_⟩
            exact hc
          · intro E θ a w hD hi hp he hc
            have hf := he.h0
            replace hf := hf.more he 1 rfl (onT)
            refine stP hf rfl rfl rfl (pM rfl) fun a hf => ?_
            refine cNil ?_
            refine xThenN ?_
            intro ds u hau
            refine ⟨θ, he.put hi hau hf rfl [] trivial ⟨⟨rfl, rfl⟩, ⟨rfl, rfl⟩, ⟨rfl, rfl⟩, ⟨rfl, rfl⟩, ⟨rfl, rfl⟩, ⟨rfl, rfl⟩, ⟨rfl, rfl⟩, ⟨rfl, rfl⟩, ⟨rfl, rfl⟩, ⟨rfl, rfl⟩, ⟨rfl, rfl⟩, ⟨rfl, rfl⟩, ⟨rfl, rfl⟩, ⟨rfl, rfl⟩, ⟨rfl, rfl⟩, ⟨rfl, rfl⟩, ⟨rfl, rfl⟩, ⟨rfl, rfl⟩, ⟨rfl, rfl⟩, ⟨rfl, rfl⟩, ⟨rfl, rfl⟩, ⟨rfl, rfl⟩, ⟨rfl, rfl⟩, ⟨rfl, rfl⟩, ⟨rfl, rfl⟩, ⟨rfl, rfl⟩, ⟨rfl, rfl⟩, ⟨rfl, rfl⟩, ⟨rfl, rfl⟩, trivial⟩, ?_⟩
            exact hc
          · intro E θ a w hD hi hp he hc
            have e2 := hp.of (k := 2) rfl
            have e3 := hp.of (k := 3) rfl
            have hf := he.h0
            replace hf := hf.more he 7 rfl (onP e2)
            replace hf := hf.more he 8 rfl (onP e3)
            refine stP hf rfl rfl rfl (pSub rfl rfl) fun a hf => ?_
            refine cNil ?_
            refine xThenN ?_
            intro ds u hau
            refine ⟨θ, he.put hi hau hf rfl [] trivial ⟨⟨rfl, rfl⟩, ⟨rfl, rfl⟩, ⟨rfl, rfl⟩, ⟨rfl, rfl⟩, ⟨rfl, rfl⟩, ⟨rfl, rfl⟩, ⟨rfl, rfl⟩, ⟨rfl, rfl⟩, ⟨rfl, rfl⟩, ⟨rfl, rfl⟩, ⟨rfl, rfl⟩, ⟨rfl, rfl⟩, ⟨rfl, rfl⟩, ⟨rfl, rfl⟩, ⟨rfl, rfl⟩, ⟨rfl, rfl⟩, ⟨rfl, rfl⟩, ⟨rfl, rfl⟩, ⟨rfl, rfl⟩, ⟨rfl, rfl⟩, ⟨rfl, rfl⟩, ⟨rfl, rfl⟩, ⟨rfl, rfl⟩, ⟨rfl, rfl⟩, ⟨rfl, rfl⟩, ⟨rfl, rfl⟩, ⟨rfl, rfl⟩, ⟨rfl, rfl⟩, ⟨rfl, rfl⟩, trivial⟩, ?_⟩
            exact hc
          · intro E θ a w hD hi hp he hc
            have hf := he.h0
            replace hf := hf.more he 0 rfl (onT)
            refine stP hf rfl rfl rfl (pFA fa_40_0 rfl) fun a hf => ?_
            refine cNil ?_
            refine xThenN ?_
            intro ds u hau
            refine ⟨θ, he.put hi hau hf rfl [] trivial ⟨⟨rfl, rfl⟩, ⟨rfl, rfl⟩, ⟨rfl, rfl⟩, ⟨rfl, rfl⟩, ⟨rfl, rfl⟩, ⟨rfl, rfl⟩, ⟨rfl, rfl⟩, ⟨rfl, rfl⟩, ⟨rfl, rfl⟩, ⟨rfl, rfl⟩, ⟨rfl, rfl⟩, ⟨rfl, rfl⟩, ⟨rfl, rfl⟩, ⟨rfl, rfl⟩, ⟨rfl, rfl⟩, ⟨rfl, rfl⟩, ⟨rfl, rfl⟩, ⟨rfl, rfl⟩, ⟨rfl, rfl⟩, ⟨rfl, rfl⟩, ⟨rfl, rfl⟩, ⟨rfl, rfl⟩, ⟨rfl, rfl⟩, ⟨rfl, rfl⟩, ⟨rfl, rfl⟩, ⟨rfl, rfl⟩, ⟨rfl, rfl⟩, ⟨rfl, rfl⟩, ⟨rfl, rfl⟩, trivial⟩, ?_⟩
            exact hc
          · intro E θ a w hD hi hp he hc
            have e5 := hp.of (k := 5) rfl
            have hf := he.h0
            replace hf := hf.more he 10 rfl (onP e5)
            refine stP hf rfl rfl rfl (pFA fa_24_0 rfl) fun a hf => ?_
            refine cNil ?_
            refine xThenN ?_
            intro ds u hau
            refine ⟨θ, he.put hi hau hf rfl [] trivial ⟨⟨rfl, rfl⟩, ⟨rfl, rfl⟩, ⟨rfl, rfl⟩, ⟨rfl, rfl⟩, ⟨rfl, rfl⟩, ⟨rfl, rfl⟩, ⟨rfl, rfl⟩, ⟨rfl, rfl⟩, ⟨rfl, rfl⟩, ⟨rfl, rfl⟩, ⟨rfl, rfl⟩, ⟨rfl, rfl⟩, ⟨rfl, rfl⟩, ⟨rfl, rfl⟩, ⟨rfl, rfl⟩, ⟨rfl, rfl⟩, ⟨rfl, rfl⟩, ⟨rfl, rfl⟩, ⟨rfl, rfl⟩, ⟨rfl, rfl⟩, ⟨rfl, rfl⟩, ⟨rfl, rfl⟩, ⟨rfl, rfl⟩, ⟨rfl, rfl⟩, ⟨rfl, rfl⟩, ⟨rfl, rfl⟩, ⟨rfl, rfl⟩, ⟨rfl, rfl⟩, ⟨rfl, rfl⟩, trivial⟩, ?_⟩
            exact hc
          · intro E θ a w hD hi hp he hc
            have e6 := hp.of (k := 6) rfl
            have hf := he.h0
            replace hf := hf.more he 11 rfl (onP e6)
            refine stE hf hc rfl rfl rfl (eLd1 sc_3 rfl (cell_box m3 rfl)) fun a w hf hc => ?_
            refine cNil ?_
            refine xThenN ?_
            intro ds u hau
            refine ⟨θ, he.put hi hau hf rfl [] trivial ⟨⟨rfl, rfl⟩, ⟨rfl, rfl⟩, ⟨rfl, rfl⟩, ⟨rfl, rfl⟩, ⟨rfl, rfl⟩, ⟨rfl, rfl⟩, ⟨rfl, rfl⟩, ⟨rfl, rfl⟩, ⟨rfl, rfl⟩, ⟨rfl, rfl⟩, ⟨rfl, rfl⟩, ⟨rfl, rfl⟩, ⟨rfl, rfl⟩, ⟨rfl, rfl⟩, ⟨rfl, rfl⟩, ⟨rfl, rfl⟩, ⟨rfl, rfl⟩, ⟨rfl, rfl⟩, ⟨rfl, rfl⟩, ⟨rfl, rfl⟩, ⟨rfl, rfl⟩, ⟨rfl, rfl⟩, ⟨rfl, rfl⟩, ⟨rfl, rfl⟩, ⟨rfl, rfl⟩, ⟨rfl, rfl⟩, ⟨rfl, rfl⟩, ⟨rfl, rfl⟩, ⟨rfl, rfl⟩, trivial⟩, ?_⟩
            exact hc
          · intro E θ a w hD hi hp he hc
            have hf := he.h0
            replace hf := hf.more he 1 rfl (onT)
            refine stP hf rfl rfl rfl (pM rfl) fun a hf => ?_
            refine cNil ?_
            refine xThenN ?_
            intro ds u hau
            refine ⟨θ, he.put hi hau hf rfl [] trivial ⟨⟨rfl, rfl⟩, ⟨rfl, rfl⟩, ⟨rfl, rfl⟩, ⟨rfl, rfl⟩, ⟨rfl, rfl⟩, ⟨rfl, rfl⟩, ⟨rfl, rfl⟩, ⟨rfl, rfl⟩, ⟨rfl, rfl⟩, ⟨rfl, rfl⟩, ⟨rfl, rfl⟩, ⟨rfl, rfl⟩, ⟨rfl, rfl⟩, ⟨rfl, rfl⟩, ⟨rfl, rfl⟩, ⟨rfl, rfl⟩, ⟨rfl, rfl⟩, ⟨rfl, rfl⟩, ⟨rfl, rfl⟩, ⟨rfl, rfl⟩, ⟨rfl, rfl⟩, ⟨rfl, rfl⟩, ⟨rfl, rfl⟩, ⟨rfl, rfl⟩, ⟨rfl, rfl⟩, ⟨rfl, rfl⟩, ⟨rfl, rfl⟩, ⟨rfl, rfl⟩, ⟨rfl, rfl⟩, trivial⟩, ?_⟩
            exact hc
          · intro E θ a w hD hi hp he hc
            have e7 := hp.of (k := 7) rfl
            have e8 := hp.of (k := 8) rfl
            have hf := he.h0
            replace hf := hf.more he 12 rfl (onP e7)
            replace hf := hf.more he 13 rfl (onP e8)
            refine stP hf rfl rfl rfl (pSub rfl rfl) fun a hf => ?_
            refine cNil ?_
            refine xThenN ?_
            intro ds u hau
            refine ⟨θ, he.put hi hau hf rfl [] trivial ⟨⟨rfl, rfl⟩, ⟨rfl, rfl⟩, ⟨rfl, rfl⟩, ⟨rfl, rfl⟩, ⟨rfl, rfl⟩, ⟨rfl, rfl⟩, ⟨rfl, rfl⟩, ⟨rfl, rfl⟩, ⟨rfl, rfl⟩, ⟨rfl, rfl⟩, ⟨rfl, rfl⟩, ⟨rfl, rfl⟩, ⟨rfl, rfl⟩, ⟨rfl, rfl⟩, ⟨rfl, rfl⟩, ⟨rfl, rfl⟩, ⟨rfl, rfl⟩, ⟨rfl, rfl⟩, ⟨rfl, rfl⟩, ⟨rfl, rfl⟩, ⟨rfl, rfl⟩, ⟨rfl, rfl⟩, ⟨rfl, rfl⟩, ⟨rfl, rfl⟩, ⟨rfl, rfl⟩, ⟨rfl, rfl⟩, ⟨rfl, rfl⟩, ⟨rfl, rfl⟩, ⟨rfl, rfl⟩, trivial⟩, ?_⟩
            exact hc
          · intro E θ a w hD hi hp he hc
            have e4 := hp.of (k := 4) rfl
            have e9 := hp.of (k := 9) rfl
            have hf := he.h0
            replace hf := hf.more he 9 rfl (onP e4)
            replace hf := hf.more he 14 rfl (onP e9)
            refine stE hf hc rfl rfl rfl (eC (v := .agg #[.int .i64 r_15.Lo, .int .i64 r_15.Hi]) (vs := [.int .i64 (W (e_1.X.Lo - r_11.1)), .int .i64 (W (e_1.X.Lo - r_11.1))]) (caps := []) en_14 rfl rfl rfl rfl (fun w hc => law03_span_ok (W (e_1.X.Lo - r_11.1)) (W (e_1.X.Lo - r_11.1)) hc hr_15)) fun a w hf hc => ?_
            refine cNil ?_
            refine xThenN ?_
            intro ds u hau
            refine ⟨θ, he.put hi hau hf rfl [] trivial ⟨⟨rfl, rfl⟩, ⟨rfl, rfl⟩, ⟨rfl, rfl⟩, ⟨rfl, rfl⟩, ⟨rfl, rfl⟩, ⟨rfl, rfl⟩, ⟨rfl, rfl⟩, ⟨rfl, rfl⟩, ⟨rfl, rfl⟩, ⟨rfl, rfl⟩, ⟨rfl, rfl⟩, ⟨rfl, rfl⟩, ⟨rfl, rfl⟩, ⟨rfl, rfl⟩, ⟨rfl, rfl⟩, ⟨rfl, rfl⟩, ⟨rfl, rfl⟩, ⟨rfl, rfl⟩, ⟨rfl, rfl⟩, ⟨rfl, rfl⟩, ⟨rfl, rfl⟩, ⟨rfl, rfl⟩, ⟨rfl, rfl⟩, ⟨rfl, rfl⟩, ⟨rfl, rfl⟩, ⟨rfl, rfl⟩, ⟨rfl, rfl⟩, ⟨rfl, rfl⟩, ⟨rfl, rfl⟩, trivial⟩, ?_⟩
            exact hc
          · intro E θ a w hD hi hp he hc
            have hf := he.h0
            replace hf := hf.more he 0 rfl (onT)
            refine stP hf rfl rfl rfl (pFA fa_40_1 rfl) fun a hf => ?_
            refine cNil ?_
            refine xThenN ?_
            intro ds u hau
            refine ⟨θ, he.put hi hau hf rfl [] trivial ⟨⟨rfl, rfl⟩, ⟨rfl, rfl⟩, ⟨rfl, rfl⟩, ⟨rfl, rfl⟩, ⟨rfl, rfl⟩, ⟨rfl, rfl⟩, ⟨rfl, rfl⟩, ⟨rfl, rfl⟩, ⟨rfl, rfl⟩, ⟨rfl, rfl⟩, ⟨rfl, rfl⟩, ⟨rfl, rfl⟩, ⟨rfl, rfl⟩, ⟨rfl, rfl⟩, ⟨rfl, rfl⟩, ⟨rfl, rfl⟩, ⟨rfl, rfl⟩, ⟨rfl, rfl⟩, ⟨rfl, rfl⟩, ⟨rfl, rfl⟩, ⟨rfl, rfl⟩, ⟨rfl, rfl⟩, ⟨rfl, rfl⟩, ⟨rfl, rfl⟩, ⟨rfl, rfl⟩, ⟨rfl, rfl⟩, ⟨rfl, rfl⟩, ⟨rfl, rfl⟩, ⟨rfl, rfl⟩, trivial⟩, ?_⟩
            exact hc
          · intro E θ a w hD hi hp he hc
            have e11 := hp.of (k := 11) rfl
            have hf := he.h0
            replace hf := hf.more he 16 rfl (onP e11)
            refine stP hf rfl rfl rfl (pFA fa_24_0 rfl) fun a hf => ?_
            refine cNil ?_
            refine xThenN ?_
            intro ds u hau
            refine ⟨θ, he.put hi hau hf rfl [] trivial ⟨⟨rfl, rfl⟩, ⟨rfl, rfl⟩, ⟨rfl, rfl⟩, ⟨rfl, rfl⟩, ⟨rfl, rfl⟩, ⟨rfl, rfl⟩, ⟨rfl, rfl⟩, ⟨rfl, rfl⟩, ⟨rfl, rfl⟩, ⟨rfl, rfl⟩, ⟨rfl, rfl⟩, ⟨rfl, rfl⟩, ⟨rfl, rfl⟩, ⟨rfl, rfl⟩, ⟨rfl, rfl⟩, ⟨rfl, rfl⟩, ⟨rfl, rfl⟩, ⟨rfl, rfl⟩, ⟨rfl, rfl⟩, ⟨rfl, rfl⟩, ⟨rfl, rfl⟩, ⟨rfl, rfl⟩, ⟨rfl, rfl⟩, ⟨rfl, rfl⟩, ⟨rfl, rfl⟩, ⟨rfl, rfl⟩, ⟨rfl, rfl⟩, ⟨rfl, rfl⟩, ⟨rfl, rfl⟩, trivial⟩, ?_⟩
            exact hc
          · intro E θ a w hD hi hp he hc
            have e12 := hp.of (k := 12) rfl
            have hf := he.h0
            replace hf := hf.more he 17 rfl (onP e12)
            refine stE hf hc rfl rfl rfl (eLd1 sc_3 rfl (cell_box m3 rfl)) fun a w hf hc => ?_
            refine cNil ?_
            refine xThenN ?_
            intro ds u hau
            refine ⟨θ, he.put hi hau hf rfl [] trivial ⟨⟨rfl, rfl⟩, ⟨rfl, rfl⟩, ⟨rfl, rfl⟩, ⟨rfl, rfl⟩, ⟨rfl, rfl⟩, ⟨rfl, rfl⟩, ⟨rfl, rfl⟩, ⟨rfl, rfl⟩, ⟨rfl, rfl⟩, ⟨rfl, rfl⟩, ⟨rfl, rfl⟩, ⟨rfl, rfl⟩, ⟨rfl, rfl⟩, ⟨rfl, rfl⟩, ⟨rfl, rfl⟩, ⟨rfl, rfl⟩, ⟨rfl, rfl⟩, ⟨rfl, rfl⟩, ⟨rfl, rfl⟩, ⟨rfl, rfl⟩, ⟨rfl, rfl⟩, ⟨rfl, rfl⟩, ⟨rfl, rfl⟩, ⟨rfl, rfl⟩, ⟨rfl, rfl⟩, ⟨rfl, rfl⟩, ⟨rfl, rfl⟩, ⟨rfl, rfl⟩, ⟨rfl, rfl⟩, trivial⟩, ?_⟩
            exact hc
          · intro E θ a w hD hi hp he hc
            have hf := he.h0
            replace hf := hf.more he 2 rfl (onT)
            refine stP hf rfl rfl rfl (pM rfl) fun a hf => ?_
            refine cNil ?_
            refine xThenN ?_
            intro ds u hau
            refine ⟨θ, he.put hi hau hf rfl [] trivial ⟨⟨rfl, rfl⟩, ⟨rfl, rfl⟩, ⟨rfl, rfl⟩, ⟨rfl, rfl⟩, ⟨rfl, rfl⟩, ⟨rfl, rfl⟩, ⟨rfl, rfl⟩, ⟨rfl, rfl⟩, ⟨rfl, rfl⟩, ⟨rfl, rfl⟩, ⟨rfl, rfl⟩, ⟨rfl, rfl⟩, ⟨rfl, rfl⟩, ⟨rfl, rfl⟩, ⟨rfl, rfl⟩, ⟨rfl, rfl⟩, ⟨rfl, rfl⟩, ⟨rfl, rfl⟩, ⟨rfl, rfl⟩, ⟨rfl, rfl⟩, ⟨rfl, rfl⟩, ⟨rfl, rfl⟩, ⟨rfl, rfl⟩, ⟨rfl, rfl⟩, ⟨rfl, rfl⟩, ⟨rfl, rfl⟩, ⟨rfl, rfl⟩, ⟨rfl, rfl⟩, ⟨rfl, rfl⟩, trivial⟩, ?_⟩
            exact hc
          · intro E θ a w hD hi hp he hc
            have e13 := hp.of (k := 13) rfl
            have e14 := hp.of (k := 14) rfl
            have hf := he.h0
            replace hf := hf.more he 18 rfl (onP e13)
            replace hf := hf.more he 19 rfl (onP e14)
            refine stP hf rfl rfl rfl (pSub rfl rfl) fun a hf => ?_
            refine cNil ?_
            refine xThenN ?_
            intro ds u hau
            refine ⟨θ, he.put hi hau hf rfl [] trivial ⟨⟨rfl, rfl⟩, ⟨rfl, rfl⟩, ⟨rfl, rfl⟩, ⟨rfl, rfl⟩, ⟨rfl, rfl⟩, ⟨rfl, rfl⟩, ⟨rfl, rfl⟩, ⟨rfl, rfl⟩, ⟨rfl, rfl⟩, ⟨rfl, rfl⟩, ⟨rfl, rfl⟩, ⟨rfl, rfl⟩, ⟨rfl, rfl⟩, ⟨rfl, rfl⟩, ⟨rfl, rfl⟩, ⟨rfl, rfl⟩, ⟨rfl, rfl⟩, ⟨rfl, rfl⟩, ⟨rfl, rfl⟩, ⟨rfl, rfl⟩, ⟨rfl, rfl⟩, ⟨rfl, rfl⟩, ⟨rfl, rfl⟩, ⟨rfl, rfl⟩, ⟨rfl, rfl⟩, ⟨rfl, rfl⟩, ⟨rfl, rfl⟩, ⟨rfl, rfl⟩, ⟨rfl, rfl⟩, trivial⟩, ?_⟩
            exact hc
          · intro E θ a w hD hi hp he hc
            have hf := he.h0
            replace hf := hf.more he 0 rfl (onT)
            refine stP hf rfl rfl rfl (pFA fa_40_1 rfl) fun a hf => ?_
            refine cNil ?_
            refine xThenN ?_
            intro ds u hau
            refine ⟨θ, he.put hi hau hf rfl [] trivial ⟨⟨rfl, rfl⟩, ⟨rfl, rfl⟩, ⟨rfl, rfl⟩, ⟨rfl, rfl⟩, ⟨rfl, rfl⟩, ⟨rfl, rfl⟩, ⟨rfl, rfl⟩, ⟨rfl, rfl⟩, ⟨rfl, rfl⟩, ⟨rfl, rfl⟩, ⟨rfl, rfl⟩, ⟨rfl, rfl⟩, ⟨rfl, rfl⟩, ⟨rfl, rfl⟩, ⟨rfl, rfl⟩, ⟨rfl, rfl⟩, ⟨rfl, rfl⟩, ⟨rfl, rfl⟩, ⟨rfl, rfl⟩, ⟨rfl, rfl⟩, ⟨rfl, rfl⟩, ⟨rfl, rfl⟩, ⟨rfl, rfl⟩, ⟨rfl, rfl⟩, ⟨rfl, rfl⟩, ⟨rfl, rfl⟩, ⟨rfl, rfl⟩, ⟨rfl, rfl⟩, ⟨rfl, rfl⟩, trivial⟩, ?_⟩
            exact hc
          · intro E θ a w hD hi hp he hc
            have e16 := hp.of (k := 16) rfl
            have hf := he.h0
            replace hf := hf.more he 21 rfl (onP e16)
            refine stP hf rfl rfl rfl (pFA fa_24_0 rfl) fun a hf => ?_
            refine cNil ?_
            refine xThenN ?_
            intro ds u hau
            refine ⟨θ, he.put hi hau hf rfl [] trivial ⟨⟨rfl, rfl⟩, ⟨rfl, rfl⟩, ⟨rfl, rfl⟩, ⟨rfl, rfl⟩, ⟨rfl, rfl⟩, ⟨rfl, rfl⟩, ⟨rfl, rfl⟩, ⟨rfl, rfl⟩, ⟨rfl, rfl⟩, ⟨rfl, rfl⟩, ⟨rfl, rfl⟩, ⟨rfl, rfl⟩, ⟨rfl, rfl⟩, ⟨rfl, rfl⟩, ⟨rfl, rfl⟩, ⟨rfl, rfl⟩, ⟨rfl, rfl⟩, ⟨rfl, rfl⟩, ⟨rfl, rfl⟩, ⟨rfl, rfl⟩, ⟨rfl, rfl⟩, ⟨rfl, rfl⟩, ⟨rfl, rfl⟩, ⟨rfl, rfl⟩, ⟨rfl, rfl⟩, ⟨rfl, rfl⟩, ⟨rfl, rfl⟩, ⟨rfl, rfl⟩, ⟨rfl, rfl⟩, trivial⟩, ?_⟩
            exact hc
          · intro E θ a w hD hi hp he hc
            have e17 := hp.of (k := 17) rfl
            have hf := he.h0
            replace hf := hf.more he 22 rfl (onP e17)
            refine stE hf hc rfl rfl rfl (eLd1 sc_3 rfl (cell_box m3 rfl)) fun a w hf hc => ?_
            refine cNil ?_
            refine xThenN ?_
            intro ds u hau
            refine ⟨θ, he.put hi hau hf rfl [] trivial ⟨⟨rfl, rfl⟩, ⟨rfl, rfl⟩, ⟨rfl, rfl⟩, ⟨rfl, rfl⟩, ⟨rfl, rfl⟩, ⟨rfl, rfl⟩, ⟨rfl, rfl⟩, ⟨rfl, rfl⟩, ⟨rfl, rfl⟩, ⟨rfl, rfl⟩, ⟨rfl, rfl⟩, ⟨rfl, rfl⟩, ⟨rfl, rfl⟩, ⟨rfl, rfl⟩, ⟨rfl, rfl⟩, ⟨rfl, rfl⟩, ⟨rfl, rfl⟩, ⟨rfl, rfl⟩, ⟨rfl, rfl⟩, ⟨rfl, rfl⟩, ⟨rfl, rfl⟩, ⟨rfl, rfl⟩, ⟨rfl, rfl⟩, ⟨rfl, rfl⟩, ⟨rfl, rfl⟩, ⟨rfl, rfl⟩, ⟨rfl, rfl⟩, ⟨rfl, rfl⟩, ⟨rfl, rfl⟩, trivial⟩, ?_⟩
            exact hc
          · intro E θ a w hD hi hp he hc
            have hf := he.h0
            replace hf := hf.more he 2 rfl (onT)
            refine stP hf rfl rfl rfl (pM rfl) fun a hf => ?_
            refine cNil ?_
            refine xThenN ?_
            intro ds u hau
            refine ⟨θ, he.put hi hau hf rfl [] trivial ⟨⟨rfl, rfl⟩, ⟨rfl, rfl⟩, ⟨rfl, rfl⟩, ⟨rfl, rfl⟩, ⟨rfl, rfl⟩, ⟨rfl, rfl⟩, ⟨rfl, rfl⟩, ⟨rfl, rfl⟩, ⟨rfl, rfl⟩, ⟨rfl, rfl⟩, ⟨rfl, rfl⟩, ⟨rfl, rfl⟩, ⟨rfl, rfl⟩, ⟨rfl, rfl⟩, ⟨rfl, rfl⟩, ⟨rfl, rfl⟩, ⟨rfl, rfl⟩, ⟨rfl, rfl⟩, ⟨rfl, rfl⟩, ⟨rfl, rfl⟩, ⟨rfl, rfl⟩, ⟨rfl, rfl⟩, ⟨rfl, rfl⟩, ⟨rfl, rfl⟩, ⟨rfl, rfl⟩, ⟨rfl, rfl⟩, ⟨rfl, rfl⟩, ⟨rfl, rfl⟩, ⟨rfl, rfl⟩, trivial⟩, ?_⟩
            exact hc
          · intro E θ a w hD hi hp he hc
            have e18 := hp.of (k := 18) rfl
            have e19 := hp.of (k := 19) rfl
            have hf := he.h0
            replace hf := hf.more he 23 rfl (onP e18)
            replace hf := hf.more he 24 rfl (onP e19)
            refine stP hf rfl rfl rfl (pSub rfl rfl) fun a hf => ?_
            refine cNil ?_
            refine xThenN ?_
            intro ds u hau
            refine ⟨θ, he.put hi hau hf rfl [] trivial ⟨⟨rfl, rfl⟩, ⟨rfl, rfl⟩, ⟨rfl, rfl⟩, ⟨rfl, rfl⟩, ⟨rfl, rfl⟩, ⟨rfl, rfl⟩, ⟨rfl, rfl⟩, ⟨rfl, rfl⟩, ⟨rfl, rfl⟩, ⟨rfl, rfl⟩, ⟨rfl, rfl⟩, ⟨rfl, rfl⟩, ⟨rfl, rfl⟩, ⟨rfl, rfl⟩, ⟨rfl, rfl⟩, ⟨rfl, rfl⟩, ⟨rfl, rfl⟩, ⟨rfl, rfl⟩, ⟨rfl, rfl⟩, ⟨rfl, rfl⟩, ⟨rfl, rfl⟩, ⟨rfl, rfl⟩, ⟨rfl, rfl⟩, ⟨rfl, rfl⟩, ⟨rfl, rfl⟩, ⟨rfl, rfl⟩, ⟨rfl, rfl⟩, ⟨rfl, rfl⟩, ⟨rfl, rfl⟩, trivial⟩, ?_⟩
            exact hc
          · intro E θ a w hD hi hp he hc
            have e15 := hp.of (k := 15) rfl
            have e20 := hp.of (k := 20) rfl
            have hf := he.h0
            replace hf := hf.more he 20 rfl (onP e15)
            replace hf := hf.more he 25 rfl (onP e20)
            refine stE hf hc rfl rfl rfl (eC (v := .agg #[.int .i64 r_16.Lo, .int .i64 r_16.Hi]) (vs := [.int .i64 (W (e_1.Y.Lo - r_12.1)), .int .i64 (W (e_1.Y.Lo - r_12.1))]) (caps := []) en_14 rfl rfl rfl rfl (fun w hc => law03_span_ok (W (e_1.Y.Lo - r_12.1)) (W (e_1.Y.Lo - r_12.1)) hc hr_16)) fun a w hf hc => ?_
            refine cNil ?_
            refine xThenN ?_
            intro ds u hau
            refine ⟨θ, he.put hi hau hf rfl [] trivial ⟨⟨rfl, rfl⟩, ⟨rfl, rfl⟩, ⟨rfl, rfl⟩, ⟨rfl, rfl⟩, ⟨rfl, rfl⟩, ⟨rfl, rfl⟩, ⟨rfl, rfl⟩, ⟨rfl, rfl⟩, ⟨rfl, rfl⟩, ⟨rfl, rfl⟩, ⟨rfl, rfl⟩, ⟨rfl, rfl⟩, ⟨rfl, rfl⟩, ⟨rfl, rfl⟩, ⟨rfl, rfl⟩, ⟨rfl, rfl⟩, ⟨rfl, rfl⟩, ⟨rfl, rfl⟩, ⟨rfl, rfl⟩, ⟨rfl, rfl⟩, ⟨rfl, rfl⟩, ⟨rfl, rfl⟩, ⟨rfl, rfl⟩, ⟨rfl, rfl⟩, ⟨rfl, rfl⟩, ⟨rfl, rfl⟩, ⟨rfl, rfl⟩, ⟨rfl, rfl⟩, ⟨rfl, rfl⟩, trivial⟩, ?_⟩
            exact hc
          · intro E θ a w hD hi hp he hc
            have hf := he.h0
            replace hf := hf.more he 4 rfl (onT)
            refine stP hf rfl rfl rfl (pFA fa_40_0 rfl) fun a hf => ?_
            refine cNil ?_
            refine xThenN ?_
            intro ds u hau
            refine ⟨θ, he.put hi hau hf rfl [] trivial ⟨⟨rfl, rfl⟩, ⟨rfl, rfl⟩, ⟨rfl, rfl⟩, ⟨rfl, rfl⟩, ⟨rfl, rfl⟩, ⟨rfl, rfl⟩, ⟨rfl, rfl⟩, ⟨rfl, rfl⟩, ⟨rfl, rfl⟩, ⟨rfl, rfl⟩, ⟨rfl, rfl⟩, ⟨rfl, rfl⟩, ⟨rfl, rfl⟩, ⟨rfl, rfl⟩, ⟨rfl, rfl⟩, ⟨rfl, rfl⟩, ⟨rfl, rfl⟩, ⟨rfl, rfl⟩, ⟨rfl, rfl⟩, ⟨rfl, rfl⟩, ⟨rfl, rfl⟩, ⟨rfl, rfl⟩, ⟨rfl, rfl⟩, ⟨rfl, rfl⟩, ⟨rfl, rfl⟩, ⟨rfl, rfl⟩, ⟨rfl, rfl⟩, ⟨rfl, rfl⟩, ⟨rfl, rfl⟩, trivial⟩, ?_⟩
            exact hc
          · intro E θ a w hD hi hp he hc
            have e10 := hp.of (k := 10) rfl
            have e22 := hp.of (k := 22) rfl
            have e25 := hD.f 0 rfl hi
            replace hc : Ctx G ((bif E 25 then .box b_10 [.int .i64 r_15.Lo, .int .i64 r_15.Hi, .int .i64 r_16.Lo, .int .i64 r_16.Hi, .int .i64 e_1.Depth.Lo, .int .i64 e_1.Depth.Hi, .int .i64 e_1.East.Lo, .int .i64 e_1.East.Hi, .int .i64 e_1.North.Lo, .int .i64 e_1.North.Hi] 40 else bif E 23 then .box b_10 [.int .i64 r_15.Lo, .int .i64 r_15.Hi, .int .i64 e_1.Y.Lo, .int .i64 e_1.Y.Hi, .int .i64 e_1.Depth.Lo, .int .i64 e_1.Depth.Hi, .int .i64 e_1.East.Lo, .int .i64 e_1.East.Hi, .int .i64 e_1.North.Lo, .int .i64 e_1.North.Hi] 40 else .box b_10 [.int .i64 e_1.X.Lo, .int .i64 e_1.X.Hi, .int .i64 e_1.Y.Lo, .int .i64 e_1.Y.Hi, .int .i64 e_1.Depth.Lo, .int .i64 e_1.Depth.Hi, .int .i64 e_1.East.Lo, .int .i64 e_1.East.Hi, .int .i64 e_1.North.Lo, .int .i64 e_1.North.Hi] 40) :: .box b_9 [.int .i64 r_13.Lo, .int .i64 r_13.Hi, .int .i64 r_14.Lo, .int .i64 r_14.Hi, .int .i64 e_1.Depth.Lo, .int .i64 e_1.Depth.Hi, .int .i64 e_1.East.Lo, .int .i64 e_1.East.Hi, .int .i64 e_1.North.Lo, .int .i64 e_1.North.Hi] 40 :: .box b_2 [.slice errors_p errors.length errors_c, .int .i64 r_12.2.1, .int .i64 r_12.2.2] 104 :: .box b_6 [.int .i64 e_1.X.Lo, .int .i64 e_1.X.Hi, .int .i64 e_1.Y.Lo, .int .i64 e_1.Y.Hi, .int .i64 e_1.Depth.Lo, .int .i64 e_1.Depth.Hi, .int .i64 e_1.East.Lo, .int .i64 e_1.East.Hi, .int .i64 e_1.North.Lo, .int .i64 e_1.North.Hi] 40 :: .box b_5 [.int .i64 r_9.1.Lo, .int .i64 r_9.1.Hi] 24 :: .row p_5 c_5 (mixed.map enc_gauge_Leg) 40 10 :: .row p_6 c_6 (x_6.map encI_i64) 3 1 :: .box b_4 [.int .i64 r_7.1.Lo, .int .i64 r_7.1.Hi] 24 :: .row p_4 c_4 (rough_1.map enc_gauge_Leg) 40 10 :: .row (some ⟨g, 0, none⟩) c_1 (just.map enc_gauge_Leg) 40 10 :: Lf) w := hc
            rw [hi, e25] at hc
            replace hc : Ctx G (.box b_10 [.int .i64 e_1.X.Lo, .int .i64 e_1.X.Hi, .int .i64 e_1.Y.Lo, .int .i64 e_1.Y.Hi, .int .i64 e_1.Depth.Lo, .int .i64 e_1.Depth.Hi, .int .i64 e_1.East.Lo, .int .i64 e_1.East.Hi, .int .i64 e_1.North.Lo, .int .i64 e_1.North.Hi] 40 :: .box b_9 [.int .i64 r_13.Lo, .int .i64 r_13.Hi, .int .i64 r_14.Lo, .int .i64 r_14.Hi, .int .i64 e_1.Depth.Lo, .int .i64 e_1.Depth.Hi, .int .i64 e_1.East.Lo, .int .i64 e_1.East.Hi, .int .i64 e_1.North.Lo, .int .i64 e_1.North.Hi] 40 :: .box b_2 [.slice errors_p errors.length errors_c, .int .i64 r_12.2.1, .int .i64 r_12.2.2] 104 :: .box b_6 [.int .i64 e_1.X.Lo, .int .i64 e_1.X.Hi, .int .i64 e_1.Y.Lo, .int .i64 e_1.Y.Hi, .int .i64 e_1.Depth.Lo, .int .i64 e_1.Depth.Hi, .int .i64 e_1.East.Lo, .int .i64 e_1.East.Hi, .int .i64 e_1.North.Lo, .int .i64 e_1.North.Hi] 40 :: .box b_5 [.int .i64 r_9.1.Lo, .int .i64 r_9.1.Hi] 24 :: .row p_5 c_5 (mixed.map enc_gauge_Leg) 40 10 :: .row p_6 c_6 (x_6.map encI_i64) 3 1 :: .box b_4 [.int .i64 r_7.1.Lo, .int .i64 r_7.1.Hi] 24 :: .row p_4 c_4 (rough_1.map enc_gauge_Leg) 40 10 :: .row (some ⟨g, 0, none⟩) c_1 (just.map enc_gauge_Leg) 40 10 :: Lf) w := hc
            have hf := he.h0
            replace hf := hf.more he 15 rfl (onP e10)
            replace hf := hf.more he 27 rfl (onP e22)
            refine stSt (vs := [.int .i64 r_15.Lo, .int .i64 r_15.Hi]) hf hc rfl rfl rfl rfl sz_24 rfl rfl u0 fun w hc => ?_
            refine cNil ?_
            refine xThenN ?_
            intro ds u hau
            refine ⟨θ, he.stay hi hau hf ⟨⟨rfl, rfl⟩, ⟨rfl, rfl⟩, ⟨rfl, rfl⟩, ⟨rfl, rfl⟩, ⟨rfl, rfl⟩, ⟨rfl, rfl⟩, ⟨rfl, rfl⟩, ⟨rfl, rfl⟩, ⟨rfl, rfl⟩, ⟨rfl, rfl⟩, ⟨rfl, rfl⟩, ⟨rfl, rfl⟩, ⟨rfl, rfl⟩, ⟨rfl, rfl⟩, ⟨rfl, rfl⟩, ⟨rfl, rfl⟩, ⟨rfl, rfl⟩, ⟨rfl, rfl⟩, ⟨rfl, rfl⟩, ⟨rfl, rfl⟩, ⟨rfl, rfl⟩, ⟨rfl, rfl⟩, ⟨rfl, rfl⟩, ⟨rfl, rfl⟩, ⟨rfl, rfl⟩, ⟨rfl, rfl⟩, ⟨rfl, rfl⟩, ⟨rfl, rfl⟩, ⟨rfl, rfl⟩, trivial⟩, ?_⟩
            show Ctx G ((bif E 25 then .box b_10 [.int .i64 r_15.Lo, .int .i64 r_15.Hi, .int .i64 r_16.Lo, .int .i64 r_16.Hi, .int .i64 e_1.Depth.Lo, .int .i64 e_1.Depth.Hi, .int .i64 e_1.East.Lo, .int .i64 e_1.East.Hi, .int .i64 e_1.North.Lo, .int .i64 e_1.North.Hi] 40 else bif true then .box b_10 [.int .i64 r_15.Lo, .int .i64 r_15.Hi, .int .i64 e_1.Y.Lo, .int .i64 e_1.Y.Hi, .int .i64 e_1.Depth.Lo, .int .i64 e_1.Depth.Hi, .int .i64 e_1.East.Lo, .int .i64 e_1.East.Hi, .int .i64 e_1.North.Lo, .int .i64 e_1.North.Hi] 40 else .box b_10 [.int .i64 e_1.X.Lo, .int .i64 e_1.X.Hi, .int .i64 e_1.Y.Lo, .int .i64 e_1.Y.Hi, .int .i64 e_1.Depth.Lo, .int .i64 e_1.Depth.Hi, .int .i64 e_1.East.Lo, .int .i64 e_1.East.Hi, .int .i64 e_1.North.Lo, .int .i64 e_1.North.Hi] 40) :: .box b_9 [.int .i64 r_13.Lo, .int .i64 r_13.Hi, .int .i64 r_14.Lo, .int .i64 r_14.Hi, .int .i64 e_1.Depth.Lo, .int .i64 e_1.Depth.Hi, .int .i64 e_1.East.Lo, .int .i64 e_1.East.Hi, .int .i64 e_1.North.Lo, .int .i64 e_1.North.Hi] 40 :: .box b_2 [.slice errors_p errors.length errors_c, .int .i64 r_12.2.1, .int .i64 r_12.2.2] 104 :: .box b_6 [.int .i64 e_1.X.Lo, .int .i64 e_1.X.Hi, .int .i64 e_1.Y.Lo, .int .i64 e_1.Y.Hi, .int .i64 e_1.Depth.Lo, .int .i64 e_1.Depth.Hi, .int .i64 e_1.East.Lo, .int .i64 e_1.East.Hi, .int .i64 e_1.North.Lo, .int .i64 e_1.North.Hi] 40 :: .box b_5 [.int .i64 r_9.1.Lo, .int .i64 r_9.1.Hi] 24 :: .row p_5 c_5 (mixed.map enc_gauge_Leg) 40 10 :: .row p_6 c_6 (x_6.map encI_i64) 3 1 :: .box b_4 [.int .i64 r_7.1.Lo, .int .i64 r_7.1.Hi] 24 :: .row p_4 c_4 (rough_1.map enc_gauge_Leg) 40 10 :: .row (some ⟨g, 0, none⟩) c_1 (just.map enc_gauge_Leg) 40 10 :: Lf) w
            rw [e25]
            exact hc
          · intro E θ a w hD hi hp he hc
            have hf := he.h0
            replace hf := hf.more he 4 rfl (onT)
            refine stP hf rfl rfl rfl (pFA fa_40_1 rfl) fun a hf => ?_
            refine cNil ?_
            refine xThenN ?_
            intro ds u hau
            refine ⟨θ, he.put hi hau hf rfl [] trivial ⟨⟨rfl, rfl⟩, ⟨rfl, rfl⟩, ⟨rfl, rfl⟩, ⟨rfl, rfl⟩, ⟨rfl, rfl⟩, ⟨rfl, rfl⟩, ⟨rfl, rfl⟩, ⟨rfl, rfl⟩, ⟨rfl, rfl⟩, ⟨rfl, rfl⟩, ⟨rfl, rfl⟩, ⟨rfl, rfl⟩, ⟨rfl, rfl⟩, ⟨rfl, rfl⟩, ⟨rfl, rfl⟩, ⟨rfl, rfl⟩, ⟨rfl, rfl⟩, ⟨rfl, rfl⟩, ⟨rfl, rfl⟩, ⟨rfl, rfl⟩, ⟨rfl, rfl⟩, ⟨rfl, rfl⟩, ⟨rfl, rfl⟩, ⟨rfl, rfl⟩, ⟨rfl, rfl⟩, ⟨rfl, rfl⟩, ⟨rfl, rfl⟩, ⟨rfl, rfl⟩, ⟨rfl, rfl⟩, trivial⟩, ?_⟩
            exact hc
          · intro E θ a w hD hi hp he hc
            have e21 := hp.of (k := 21) rfl
            have e24 := hp.of (k := 24) rfl
            have e23 := hp.of (k := 23) rfl
            replace hc : Ctx G ((bif E 25 then .box b_10 [.int .i64 r_15.Lo, .int .i64 r_15.Hi, .int .i64 r_16.Lo, .int .i64 r_16.Hi, .int .i64 e_1.Depth.Lo, .int .i64 e_1.Depth.Hi, .int .i64 e_1.East.Lo, .int .i64 e_1.East.Hi, .int .i64 e_1.North.Lo, .int .i64 e_1.North.Hi] 40 else bif E 23 then .box b_10 [.int .i64 r_15.Lo, .int .i64 r_15.Hi, .int .i64 e_1.Y.Lo, .int .i64 e_1.Y.Hi, .int .i64 e_1.Depth.Lo, .int .i64 e_1.Depth.Hi, .int .i64 e_1.East.Lo, .int .i64 e_1.East.Hi, .int .i64 e_1.North.Lo, .int .i64 e_1.North.Hi] 40 else .box b_10 [.int .i64 e_1.X.Lo, .int .i64 e_1.X.Hi, .int .i64 e_1.Y.Lo, .int .i64 e_1.Y.Hi, .int .i64 e_1.Depth.Lo, .int .i64 e_1.Depth.Hi, .int .i64 e_1.East.Lo, .int .i64 e_1.East.Hi, .int .i64 e_1.North.Lo, .int .i64 e_1.North.Hi] 40) :: .box b_9 [.int .i64 r_13.Lo, .int .i64 r_13.Hi, .int .i64 r_14.Lo, .int .i64 r_14.Hi, .int .i64 e_1.Depth.Lo, .int .i64 e_1.Depth.Hi, .int .i64 e_1.East.Lo, .int .i64 e_1.East.Hi, .int .i64 e_1.North.Lo, .int .i64 e_1.North.Hi] 40 :: .box b_2 [.slice errors_p errors.length errors_c, .int .i64 r_12.2.1, .int .i64 r_12.2.2] 104 :: .box b_6 [.int .i64 e_1.X.Lo, .int .i64 e_1.X.Hi, .int .i64 e_1.Y.Lo, .int .i64 e_1.Y.Hi, .int .i64 e_1.Depth.Lo, .int .i64 e_1.Depth.Hi, .int .i64 e_1.East.Lo, .int .i64 e_1.East.Hi, .int .i64 e_1.North.Lo, .int .i64 e_1.North.Hi] 40 :: .box b_5 [.int .i64 r_9.1.Lo, .int .i64 r_9.1.Hi] 24 :: .row p_5 c_5 (mixed.map enc_gauge_Leg) 40 10 :: .row p_6 c_6 (x_6.map encI_i64) 3 1 :: .box b_4 [.int .i64 r_7.1.Lo, .int .i64 r_7.1.Hi] 24 :: .row p_4 c_4 (rough_1.map enc_gauge_Leg) 40 10 :: .row (some ⟨g, 0, none⟩) c_1 (just.map enc_gauge_Leg) 40 10 :: Lf) w := hc
            rw [e23, hi] at hc
            replace hc : Ctx G (.box b_10 [.int .i64 r_15.Lo, .int .i64 r_15.Hi, .int .i64 e_1.Y.Lo, .int .i64 e_1.Y.Hi, .int .i64 e_1.Depth.Lo, .int .i64 e_1.Depth.Hi, .int .i64 e_1.East.Lo, .int .i64 e_1.East.Hi, .int .i64 e_1.North.Lo, .int .i64 e_1.North.Hi] 40 :: .box b_9 [.int .i64 r_13.Lo, .int .i64 r_13.Hi, .int .i64 r_14.Lo, .int .i64 r_14.Hi, .int .i64 e_1.Depth.Lo, .int .i64 e_1.Depth.Hi, .int .i64 e_1.East.Lo, .int .i64 e_1.East.Hi, .int .i64 e_1.North.Lo, .int .i64 e_1.North.Hi] 40 :: .box b_2 [.slice errors_p errors.length errors_c, .int .i64 r_12.2.1, .int .i64 r_12.2.2] 104 :: .box b_6 [.int .i64 e_1.X.Lo, .int .i64 e_1.X.Hi, .int .i64 e_1.Y.Lo, .int .i64 e_1.Y.Hi, .int .i64 e_1.Depth.Lo, .int .i64 e_1.Depth.Hi, .int .i64 e_1.East.Lo, .int .i64 e_1.East.Hi, .int .i64 e_1.North.Lo, .int .i64 e_1.North.Hi] 40 :: .box b_5 [.int .i64 r_9.1.Lo, .int .i64 r_9.1.Hi] 24 :: .row p_5 c_5 (mixed.map enc_gauge_Leg) 40 10 :: .row p_6 c_6 (x_6.map encI_i64) 3 1 :: .box b_4 [.int .i64 r_7.1.Lo, .int .i64 r_7.1.Hi] 24 :: .row p_4 c_4 (rough_1.map enc_gauge_Leg) 40 10 :: .row (some ⟨g, 0, none⟩) c_1 (just.map enc_gauge_Leg) 40 10 :: Lf) w := hc
            have hf := he.h0
            replace hf := hf.more he 26 rfl (onP e21)
            replace hf := hf.more he 28 rfl (onP e24)
            refine stSt (vs := [.int .i64 r_16.Lo, .int .i64 r_16.Hi]) hf hc rfl rfl rfl rfl sz_24 rfl rfl u0 fun w hc => ?_
            refine cNil ?_
            refine xThenN ?_
            intro ds u hau
            refine ⟨θ, he.stay hi hau hf ⟨⟨rfl, rfl⟩, ⟨rfl, rfl⟩, ⟨rfl, rfl⟩, ⟨rfl, rfl⟩, ⟨rfl, rfl⟩, ⟨rfl, rfl⟩, ⟨rfl, rfl⟩, ⟨rfl, rfl⟩, ⟨rfl, rfl⟩, ⟨rfl, rfl⟩, ⟨rfl, rfl⟩, ⟨rfl, rfl⟩, ⟨rfl, rfl⟩, ⟨rfl, rfl⟩, ⟨rfl, rfl⟩, ⟨rfl, rfl⟩, ⟨rfl, rfl⟩, ⟨rfl, rfl⟩, ⟨rfl, rfl⟩, ⟨rfl, rfl⟩, ⟨rfl, rfl⟩, ⟨rfl, rfl⟩, ⟨rfl, rfl⟩, ⟨rfl, rfl⟩, ⟨rfl, rfl⟩, ⟨rfl, rfl⟩, ⟨rfl, rfl⟩, ⟨rfl, rfl⟩, ⟨rfl, rfl⟩, trivial⟩, ?_⟩
            show Ctx G ((bif true then .box b_10 [.int .i64 r_15.Lo, .int .i64 r_15.Hi, .int .i64 r_16.Lo, .int .i64 r_16.Hi, .int .i64 e_1.Depth.Lo, .int .i64 e_1.Depth.Hi, .int .i64 e_1.East.Lo, .int .i64 e_1.East.Hi, .int .i64 e_1.North.Lo, .int .i64 e_1.North.Hi] 40 else bif E 23 then .box b_10 [.int .i64 r_15.Lo, .int .i64 r_15.Hi, .int .i64 e_1.Y.Lo, .int .i64 e_1.Y.Hi, .int .i64 e_1.Depth.Lo, .int .i64 e_1.Depth.Hi, .int .i64 e_1.East.Lo, .int .i64 e_1.East.Hi, .int .i64 e_1.North.Lo, .int .i64 e_1.North.Hi] 40 else .box b_10 [.int .i64 e_1.X.Lo, .int .i64 e_1.X.Hi, .int .i64 e_1.Y.Lo, .int .i64 e_1.Y.Hi, .int .i64 e_1.Depth.Lo, .int .i64 e_1.Depth.Hi, .int .i64 e_1.East.Lo, .int .i64 e_1.East.Hi, .int .i64 e_1.North.Lo, .int .i64 e_1.North.Hi] 40) :: .box b_9 [.int .i64 r_13.Lo, .int .i64 r_13.Hi, .int .i64 r_14.Lo, .int .i64 r_14.Hi, .int .i64 e_1.Depth.Lo, .int .i64 e_1.Depth.Hi, .int .i64 e_1.East.Lo, .int .i64 e_1.East.Hi, .int .i64 e_1.North.Lo, .int .i64 e_1.North.Hi] 40 :: .box b_2 [.slice errors_p errors.length errors_c, .int .i64 r_12.2.1, .int .i64 r_12.2.2] 104 :: .box b_6 [.int .i64 e_1.X.Lo, .int .i64 e_1.X.Hi, .int .i64 e_1.Y.Lo, .int .i64 e_1.Y.Hi, .int .i64 e_1.Depth.Lo, .int .i64 e_1.Depth.Hi, .int .i64 e_1.East.Lo, .int .i64 e_1.East.Hi, .int .i64 e_1.North.Lo, .int .i64 e_1.North.Hi] 40 :: .box b_5 [.int .i64 r_9.1.Lo, .int .i64 r_9.1.Hi] 24 :: .row p_5 c_5 (mixed.map enc_gauge_Leg) 40 10 :: .row p_6 c_6 (x_6.map encI_i64) 3 1 :: .box b_4 [.int .i64 r_7.1.Lo, .int .i64 r_7.1.Hi] 24 :: .row p_4 c_4 (rough_1.map enc_gauge_Leg) 40 10 :: .row (some ⟨g, 0, none⟩) c_1 (just.map enc_gauge_Leg) 40 10 :: Lf) w
            rw [e23]
            exact hc
          · intro E θ a w hall he hc
            have hf := he.h0
            have e23 := hall 23 rfl
            have e25 := hall 25 rfl
            replace hf := hf.more he 4 rfl (onT)
            replace hf := hf.more he 3 rfl (onT)
            replace hf := hf.more he 0 rfl (onT)
            replace hc : Ctx G ((bif E 25 then .box b_10 [.int .i64 r_15.Lo, .int .i64 r_15.Hi, .int .i64 r_16.Lo, .int .i64 r_16.Hi, .int .i64 e_1.Depth.Lo, .int .i64 e_1.Depth.Hi, .int .i64 e_1.East.Lo, .int .i64 e_1.East.Hi, .int .i64 e_1.North.Lo, .int .i64 e_1.North.Hi] 40 else bif E 23 then .box b_10 [.int .i64 r_15.Lo, .int .i64 r_15.Hi, .int .i64 e_1.Y.Lo, .int .i64 e_1.Y.Hi, .int .i64 e_1.Depth.Lo, .int .i64 e_1.Depth.Hi, .int .i64 e_1.East.Lo, .int .i64 e_1.East.Hi, .int .i64 e_1.North.Lo, .int .i64 e_1.North.Hi] 40 else .box b_10 [.int .i64 e_1.X.Lo, .int .i64 e_1.X.Hi, .int .i64 e_1.Y.Lo, .int .i64 e_1.Y.Hi, .int .i64 e_1.Depth.Lo, .int .i64 e_1.Depth.Hi, .int .i64 e_1.East.Lo, .int .i64 e_1.East.Hi, .int .i64 e_1.North.Lo, .int .i64 e_1.North.Hi] 40) :: .box b_9 [.int .i64 r_13.Lo, .int .i64 r_13.Hi, .int .i64 r_14.Lo, .int .i64 r_14.Hi, .int .i64 e_1.Depth.Lo, .int .i64 e_1.Depth.Hi, .int .i64 e_1.East.Lo, .int .i64 e_1.East.Hi, .int .i64 e_1.North.Lo, .int .i64 e_1.North.Hi] 40 :: .box b_2 [.slice errors_p errors.length errors_c, .int .i64 r_12.2.1, .int .i64 r_12.2.2] 104 :: .box b_6 [.int .i64 e_1.X.Lo, .int .i64 e_1.X.Hi, .int .i64 e_1.Y.Lo, .int .i64 e_1.Y.Hi, .int .i64 e_1.Depth.Lo, .int .i64 e_1.Depth.Hi, .int .i64 e_1.East.Lo, .int .i64 e_1.East.Hi, .int .i64 e_1.North.Lo, .int .i64 e_1.North.Hi] 40 :: .box b_5 [.int .i64 r_9.1.Lo, .int .i64 r_9.1.Hi] 24 :: .row p_5 c_5 (mixed.map enc_gauge_Leg) 40 10 :: .row p_6 c_6 (x_6.map encI_i64) 3 1 :: .box b_4 [.int .i64 r_7.1.Lo, .int .i64 r_7.1.Hi] 24 :: .row p_4 c_4 (rough_1.map enc_gauge_Leg) 40 10 :: .row (some ⟨g, 0, none⟩) c_1 (just.map enc_gauge_Leg) 40 10 :: Lf) w := hc
            rw [e23, e25] at hc
            exact ⟨hf.keep ⟨rfl, rfl, rfl, trivial⟩, hc⟩
          rintro a w ⟨hf, hc⟩
          refine h28 _ _ ?_
          refine wp_seq_k fun K29 h29 => ?_
          refine cReg ?_
          refine stE hf hc rfl rfl rfl (eLdN (vs := [.int .i64 e_1.X.Lo, .int .i64 e_1.X.Hi, .int .i64 e_1.Y.Lo, .int .i64 e_1.Y.Hi, .int .i64 e_1.Depth.Lo, .int .i64 e_1.Depth.Hi, .int .i64 e_1.East.Lo, .int .i64 e_1.East.Hi, .int .i64 e_1.North.Lo, .int .i64 e_1.North.Hi]) ag_40 rfl rfl (cells_box (n := 10) m3 rfl)) fun a w hf hc => ?_
          refine stBS (rows := ([e_1] : List gauge_Leg).map enc_gauge_Leg) (vs := [(0, .agg #[.int .i64 e_1.X.Lo, .int .i64 e_1.X.Hi, .int .i64 e_1.Y.Lo, .int .i64 e_1.Y.Hi, .int .i64 e_1.Depth.Lo, .int .i64 e_1.Depth.Hi, .int .i64 e_1.East.Lo, .int .i64 e_1.East.Hi, .int .i64 e_1.North.Lo, .int .i64 e_1.North.Hi])]) hf hc rfl rfl sl_38 rfl ⟨rfl, rfl, rfl, trivial⟩ rfl rfl fun b_11 a w hf hc => ?_
          obtain ⟨r_17, hr_17, hF⟩ := bnd_some hF
          refine stE hf hc rfl rfl rfl (eC (v := .tuple #[.agg #[.int .i64 r_17.1.Lo, .int .i64 r_17.1.Hi], .int .i64 r_17.2]) (vs := [.slice (some ⟨b_11, 0, none⟩) 1 1]) (caps := []) en_18 rfl rfl rfl rfl (fun w hc => by obtain ⟨G1, hle1, hrd1, hc, hth1⟩ := lend hc k0; exact (gauge_Cross_ok ([e_1] : List gauge_Leg) hrd1 hc hr_17).mono fun e w h => ⟨h.1, ((hth1 _ _ h.2).unpick k0)⟩)) fun a w hf hc => ?_
          refine stP hf rfl rfl rfl (pM rfl) fun a hf => ?_
          refine stP hf rfl rfl rfl (pX rfl rfl) fun a hf => ?_
          refine stP hf rfl rfl rfl (pX rfl rfl) fun a hf => ?_
          refine stAl (cs := [.int .i64 0, .int .i64 0]) hf hc rfl rfl zr_24 rfl fun b_12 a w hf hc => ?_
          refine stSt (vs := [.int .i64 r_17.1.Lo, .int .i64 r_17.1.Hi]) hf hc rfl rfl rfl rfl sz_24 rfl rfl u0 fun w hc => ?_
          refine stP hf rfl rfl rfl (pA rfl) fun a hf => ?_
          refine cNil ?_
          refine h29 _ _ ?_
          refine wp_seq_k fun K30 h30 => ?_
          refine cReg ?_
          refine stE hf hc rfl rfl rfl (eLdN (vs := [.int .i64 r_13.Lo, .int .i64 r_13.Hi, .int .i64 r_14.Lo, .int .i64 r_14.Hi, .int .i64 e_1.Depth.Lo, .int .i64 e_1.Depth.Hi, .int .i64 e_1.East.Lo, .int .i64 e_1.East.Hi, .int .i64 e_1.North.Lo, .int .i64 e_1.North.Hi]) ag_40 rfl rfl (cells_box (n := 10) m3 rfl)) fun a w hf hc => ?_
          refine stE hf hc rfl rfl rfl (eLdN (vs := [.int .i64 r_15.Lo, .int .i64 r_15.Hi, .int .i64 r_16.Lo, .int .i64 r_16.Hi, .int .i64 e_1.Depth.Lo, .int .i64 e_1.Depth.Hi, .int .i64 e_1.East.Lo, .int .i64 e_1.East.Hi, .int .i64 e_1.North.Lo, .int .i64 e_1.North.Hi]) ag_40 rfl rfl (cells_box (n := 10) m2 rfl)) fun a w hf hc => ?_
          refine stBS (rows := ([(⟨r_13, r_14, e_1.Depth, e_1.East, e_1.North⟩ : gauge_Leg), (⟨r_15, r_16, e_1.Depth, e_1.East, e_1.North⟩ : gauge_Leg)] : List gauge_Leg).map enc_gauge_Leg) (vs := [(0, .agg #[.int .i64 r_13.Lo, .int .i64 r_13.Hi, .int .i64 r_14.Lo, .int .i64 r_14.Hi, .int .i64 e_1.Depth.Lo, .int .i64 e_1.Depth.Hi, .int .i64 e_1.East.Lo, .int .i64 e_1.East.Hi, .int .i64 e_1.North.Lo, .int .i64 e_1.North.Hi]), (1, .agg #[.int .i64 r_15.Lo, .int .i64 r_15.Hi, .int .i64 r_16.Lo, .int .i64 r_16.Hi, .int .i64 e_1.Depth.Lo, .int .i64 e_1.Depth.Hi, .int .i64 e_1.East.Lo, .int .i64 e_1.East.Hi, .int .i64 e_1.North.Lo, .int .i64 e_1.North.Hi])]) hf hc rfl rfl sl_38 rfl ⟨rfl, rfl, rfl, rfl, rfl, rfl, trivial⟩ rfl rfl fun b_13 a w hf hc => ?_
          obtain ⟨r_18, hr_18, hF⟩ := bnd_some hF
          refine stE hf hc rfl rfl rfl (eC (v := .tuple #[.agg #[.int .i64 r_18.1.Lo, .int .i64 r_18.1.Hi], .int .i64 r_18.2]) (vs := [.slice (some ⟨b_13, 0, none⟩) 2 2]) (caps := []) en_18 rfl rfl rfl rfl (fun w hc => by obtain ⟨G1, hle1, hrd1, hc, hth1⟩ := lend hc k0; exact (gauge_Cross_ok ([(⟨r_13, r_14, e_1.Depth, e_1.East, e_1.North⟩ : gauge_Leg), (⟨r_15, r_16, e_1.Depth, e_1.East, e_1.North⟩ : gauge_Leg)] : List gauge_Leg) hrd1 hc hr_18).mono fun e w h => ⟨h.1, ((hth1 _ _ h.2).unpick k0)⟩)) fun a w hf hc => ?_
          refine stP hf rfl rfl rfl (pM rfl) fun a hf => ?_
          refine stP hf rfl rfl rfl (pX rfl rfl) fun a hf => ?_
          refine stP hf rfl rfl rfl (pX rfl rfl) fun a hf => ?_
          refine stAl (cs := [.int .i64 0, .int .i64 0]) hf hc rfl rfl zr_24 rfl fun b_14 a w hf hc => ?_
          refine stSt (vs := [.int .i64 r_18.1.Lo, .int .i64 r_18.1.Hi]) hf hc rfl rfl rfl rfl sz_24 rfl rfl u0 fun w hc => ?_
          refine stP hf rfl rfl rfl (pA rfl) fun a hf => ?_
          refine cNil ?_
          refine h30 _ _ ?_
          refine wp_seq_k fun K31 h31 => ?_
          refine cReg ?_
          refine stP hf rfl rfl rfl (pM rfl) fun a hf => ?_
          refine stP hf rfl rfl rfl (pEq rfl rfl) fun a hf => ?_
          refine stP hf rfl rfl rfl (pM rfl) fun a hf => ?_
          refine stCut 3 (fun a w => Has 240 a [(32, .pointer (some ⟨b_12, 0, none⟩)), (19, .int .i64 r_17.2), (33, .pointer (some ⟨b_14, 0, none⟩)), (21, .int .i64 r_18.2), (226, .int .i64 r_17.2), (227, .bool (r_17.2 == 0)), (228, .bool (r_17.2 == 0)), (231, .bool ((r_17.2 == 0) && (r_18.2 == 0)))] ∧ Ctx G (.box b_14 [.int .i64 r_18.1.Lo, .int .i64 r_18.1.Hi] 24 :: .row (some ⟨b_13, 0, none⟩) 2 (([(⟨r_13, r_14, e_1.Depth, e_1.East, e_1.North⟩ : gauge_Leg), (⟨r_15, r_16, e_1.Depth, e_1.East, e_1.North⟩ : gauge_Leg)] : List gauge_Leg).map enc_gauge_Leg) 40 10 :: .box b_12 [.int .i64 r_17.1.Lo, .int .i64 r_17.1.Hi] 24 :: .row (some ⟨b_11, 0, none⟩) 1 (([e_1] : List gauge_Leg).map enc_gauge_Leg) 40 10 :: .box b_10 [.int .i64 r_15.Lo, .int .i64 r_15.Hi, .int .i64 r_16.Lo, .int .i64 r_16.Hi, .int .i64 e_1.Depth.Lo, .int .i64 e_1.Depth.Hi, .int .i64 e_1.East.Lo, .int .i64 e_1.East.Hi, .int .i64 e_1.North.Lo, .int .i64 e_1.North.Hi] 40 :: .box b_9 [.int .i64 r_13.Lo, .int .i64 r_13.Hi, .int .i64 r_14.Lo, .int .i64 r_14.Hi, .int .i64 e_1.Depth.Lo, .int .i64 e_1.Depth.Hi, .int .i64 e_1.East.Lo, .int .i64 e_1.East.Hi, .int .i64 e_1.North.Lo, .int .i64 e_1.North.Hi] 40 :: .box b_2 [.slice errors_p errors.length errors_c, .int .i64 r_12.2.1, .int .i64 r_12.2.2] 104 :: .box b_6 [.int .i64 e_1.X.Lo, .int .i64 e_1.X.Hi, .int .i64 e_1.Y.Lo, .int .i64 e_1.Y.Hi, .int .i64 e_1.Depth.Lo, .int .i64 e_1.Depth.Hi, .int .i64 e_1.East.Lo, .int .i64 e_1.East.Hi, .int .i64 e_1.North.Lo, .int .i64 e_1.North.Hi] 40 :: .box b_5 [.int .i64 r_9.1.Lo, .int .i64 r_9.1.Hi] 24 :: .row p_5 c_5 (mixed.map enc_gauge_Leg) 40 10 :: .row p_6 c_6 (x_6.map encI_i64) 3 1 :: .box b_4 [.int .i64 r_7.1.Lo, .int .i64 r_7.1.Hi] 24 :: .row p_4 c_4 (rough_1.map enc_gauge_Leg) 40 10 :: .row (some ⟨g, 0, none⟩) c_1 (just.map enc_gauge_Leg) 40 10 :: Lf) w) ?_ ?_
          · cases hb : (r_17.2 == 0)
            · rw [hb] at hf
              refine stS hf rfl rfl rfl fun a hf => ?_
              refine stS hf rfl rfl rfl fun a hf => ?_
              refine stP hf rfl rfl rfl (pPf rfl rfl) fun a hf => ?_
              exact cNil ⟨hf.keep ⟨rfl, rfl, rfl, rfl, rfl, rfl, rfl, rfl, trivial⟩, hc⟩
            · rw [hb] at hf
              refine stP hf rfl rfl rfl (pM rfl) fun a hf => ?_
              refine stP hf rfl rfl rfl (pEq rfl rfl) fun a hf => ?_
              refine stP hf rfl rfl rfl (pPt rfl rfl) fun a hf => ?_
              exact cNil ⟨hf.keep ⟨rfl, rfl, rfl, rfl, rfl, rfl, rfl, rfl, trivial⟩, hc⟩
          intro a w ⟨hf, hc⟩
          refine stP hf rfl rfl rfl (pM rfl) fun a hf => ?_
          refine stCut 4 (fun a w => Has 240 a [(32, .pointer (some ⟨b_12, 0, none⟩)), (19, .int .i64 r_17.2), (33, .pointer (some ⟨b_14, 0, none⟩)), (21, .int .i64 r_18.2), (226, .int .i64 r_17.2), (227, .bool (r_17.2 == 0)), (228, .bool (r_17.2 == 0)), (231, .bool ((r_17.2 == 0) && (r_18.2 == 0))), (232, .bool ((r_17.2 == 0) && (r_18.2 == 0))), (236, .bool (((r_17.2 == 0) && (r_18.2 == 0)) && (r_17.1.Lo == r_18.1.Lo && r_17.1.Hi == r_18.1.Hi)))] ∧ Ctx G (.box b_14 [.int .i64 r_18.1.Lo, .int .i64 r_18.1.Hi] 24 :: .row (some ⟨b_13, 0, none⟩) 2 (([(⟨r_13, r_14, e_1.Depth, e_1.East, e_1.North⟩ : gauge_Leg), (⟨r_15, r_16, e_1.Depth, e_1.East, e_1.North⟩ : gauge_Leg)] : List gauge_Leg).map enc_gauge_Leg) 40 10 :: .box b_12 [.int .i64 r_17.1.Lo, .int .i64 r_17.1.Hi] 24 :: .row (some ⟨b_11, 0, none⟩) 1 (([e_1] : List gauge_Leg).map enc_gauge_Leg) 40 10 :: .box b_10 [.int .i64 r_15.Lo, .int .i64 r_15.Hi, .int .i64 r_16.Lo, .int .i64 r_16.Hi, .int .i64 e_1.Depth.Lo, .int .i64 e_1.Depth.Hi, .int .i64 e_1.East.Lo, .int .i64 e_1.East.Hi, .int .i64 e_1.North.Lo, .int .i64 e_1.North.Hi] 40 :: .box b_9 [.int .i64 r_13.Lo, .int .i64 r_13.Hi, .int .i64 r_14.Lo, .int .i64 r_14.Hi, .int .i64 e_1.Depth.Lo, .int .i64 e_1.Depth.Hi, .int .i64 e_1.East.Lo, .int .i64 e_1.East.Hi, .int .i64 e_1.North.Lo, .int .i64 e_1.North.Hi] 40 :: .box b_2 [.slice errors_p errors.length errors_c, .int .i64 r_12.2.1, .int .i64 r_12.2.2] 104 :: .box b_6 [.int .i64 e_1.X.Lo, .int .i64 e_1.X.Hi, .int .i64 e_1.Y.Lo, .int .i64 e_1.Y.Hi, .int .i64 e_1.Depth.Lo, .int .i64 e_1.Depth.Hi, .int .i64 e_1.East.Lo, .int .i64 e_1.East.Hi, .int .i64 e_1.North.Lo, .int .i64 e_1.North.Hi] 40 :: .box b_5 [.int .i64 r_9.1.Lo, .int .i64 r_9.1.Hi] 24 :: .row p_5 c_5 (mixed.map enc_gauge_Leg) 40 10 :: .row p_6 c_6 (x_6.map encI_i64) 3 1 :: .box b_4 [.int .i64 r_7.1.Lo, .int .i64 r_7.1.Hi] 24 :: .row p_4 c_4 (rough_1.map enc_gauge_Leg) 40 10 :: .row (some ⟨g, 0, none⟩) c_1 (just.map enc_gauge_Leg) 40 10 :: Lf) w) ?_ ?_
          · cases hb : ((r_17.2 == 0) && (r_18.2 == 0))
            · rw [hb] at hf
              refine stS hf rfl rfl rfl fun a hf => ?_
              refine stS hf rfl rfl rfl fun a hf => ?_
              refine stS hf rfl rfl rfl fun a hf => ?_
              refine stP hf rfl rfl rfl (pPf rfl rfl) fun a hf => ?_
              exact cNil ⟨hf.keep ⟨rfl, rfl, rfl, rfl, rfl, rfl, rfl, rfl, rfl, rfl, trivial⟩, hc⟩
            · rw [hb] at hf
              refine stE hf hc rfl rfl rfl (eLdN (vs := [.int .i64 r_17.1.Lo, .int .i64 r_17.1.Hi]) ag_24 rfl rfl (cells_box (n := 2) m2 rfl)) fun a w hf hc => ?_
              refine stE hf hc rfl rfl rfl (eLdN (vs := [.int .i64 r_18.1.Lo, .int .i64 r_18.1.Hi]) ag_24 rfl rfl (cells_box (n := 2) m0 rfl)) fun a w hf hc => ?_
              refine stP hf rfl rfl rfl (pEqA ge_24 rfl rfl (eqs_24 _ _ _ _)) fun a hf => ?_
              refine stP hf rfl rfl rfl (pPt rfl rfl) fun a hf => ?_
              exact cNil ⟨hf.keep ⟨rfl, rfl, rfl, rfl, rfl, rfl, rfl, rfl, rfl, rfl, trivial⟩, hc⟩
          intro a w ⟨hf, hc⟩
          refine stP hf rfl rfl rfl (pM rfl) fun a hf => ?_
          obtain ⟨t_1, ht_1, hF⟩ := bnd_some hF
          refine stCut 2 (fun a w => Has 240 a [(32, .pointer (some ⟨b_12, 0, none⟩)), (19, .int .i64 r_17.2), (33, .pointer (some ⟨b_14, 0, none⟩)), (21, .int .i64 r_18.2), (226, .int .i64 r_17.2), (227, .bool (r_17.2 == 0)), (228, .bool (r_17.2 == 0)), (231, .bool ((r_17.2 == 0) && (r_18.2 == 0))), (232, .bool ((r_17.2 == 0) && (r_18.2 == 0))), (236, .bool (((r_17.2 == 0) && (r_18.2 == 0)) && (r_17.1.Lo == r_18.1.Lo && r_17.1.Hi == r_18.1.Hi))), (237, .bool (((r_17.2 == 0) && (r_18.2 == 0)) && (r_17.1.Lo == r_18.1.Lo && r_17.1.Hi == r_18.1.Hi))), (239, .bool t_1)] ∧ Ctx G (.box b_14 [.int .i64 r_18.1.Lo, .int .i64 r_18.1.Hi] 24 :: .row (some ⟨b_13, 0, none⟩) 2 (([(⟨r_13, r_14, e_1.Depth, e_1.East, e_1.North⟩ : gauge_Leg), (⟨r_15, r_16, e_1.Depth, e_1.East, e_1.North⟩ : gauge_Leg)] : List gauge_Leg).map enc_gauge_Leg) 40 10 :: .box b_12 [.int .i64 r_17.1.Lo, .int .i64 r_17.1.Hi] 24 :: .row (some ⟨b_11, 0, none⟩) 1 (([e_1] : List gauge_Leg).map enc_gauge_Leg) 40 10 :: .box b_10 [.int .i64 r_15.Lo, .int .i64 r_15.Hi, .int .i64 r_16.Lo, .int .i64 r_16.Hi, .int .i64 e_1.Depth.Lo, .int .i64 e_1.Depth.Hi, .int .i64 e_1.East.Lo, .int .i64 e_1.East.Hi, .int .i64 e_1.North.Lo, .int .i64 e_1.North.Hi] 40 :: .box b_9 [.int .i64 r_13.Lo, .int .i64 r_13.Hi, .int .i64 r_14.Lo, .int .i64 r_14.Hi, .int .i64 e_1.Depth.Lo, .int .i64 e_1.Depth.Hi, .int .i64 e_1.East.Lo, .int .i64 e_1.East.Hi, .int .i64 e_1.North.Lo, .int .i64 e_1.North.Hi] 40 :: .box b_2 [.slice errors_p errors.length errors_c, .int .i64 r_12.2.1, .int .i64 r_12.2.2] 104 :: .box b_6 [.int .i64 e_1.X.Lo, .int .i64 e_1.X.Hi, .int .i64 e_1.Y.Lo, .int .i64 e_1.Y.Hi, .int .i64 e_1.Depth.Lo, .int .i64 e_1.Depth.Hi, .int .i64 e_1.East.Lo, .int .i64 e_1.East.Hi, .int .i64 e_1.North.Lo, .int .i64 e_1.North.Hi] 40 :: .box b_5 [.int .i64 r_9.1.Lo, .int .i64 r_9.1.Hi] 24 :: .row p_5 c_5 (mixed.map enc_gauge_Leg) 40 10 :: .row p_6 c_6 (x_6.map encI_i64) 3 1 :: .box b_4 [.int .i64 r_7.1.Lo, .int .i64 r_7.1.Hi] 24 :: .row p_4 c_4 (rough_1.map enc_gauge_Leg) 40 10 :: .row (some ⟨g, 0, none⟩) c_1 (just.map enc_gauge_Leg) 40 10 :: Lf) w) ?_ ?_
          · cases hb : (((r_17.2 == 0) && (r_18.2 == 0)) && (r_17.1.Lo == r_18.1.Lo && r_17.1.Hi == r_18.1.Hi))
            · rw [hb] at hf
              have hF := condF hb ht_1
              obtain rfl := Option.some.inj hF
              refine stS hf rfl rfl rfl fun a hf => ?_
              refine stP hf rfl rfl rfl (pPf rfl rfl) fun a hf => ?_
              exact cNil ⟨hf.keep ⟨rfl, rfl, rfl, rfl, rfl, rfl, rfl, rfl, rfl, rfl, rfl, rfl, trivial⟩, hc⟩
            · rw [hb] at hf
              have hF := condT hb ht_1
              obtain ⟨r_19, hr_19, hF⟩ := bnd_some hF
              refine stE hf hc rfl rfl rfl (eC (v := .bool r_19) (vs := []) (caps := []) en_15 rfl rfl rfl rfl (fun w hc => law03_awake_ok hc hr_19)) fun a w hf hc => ?_
              refine stP hf rfl rfl rfl (pPt rfl rfl) fun a hf => ?_
              obtain rfl := Option.some.inj hF
              exact cNil ⟨hf.keep ⟨rfl, rfl, rfl, rfl, rfl, rfl, rfl, rfl, rfl, rfl, rfl, rfl, trivial⟩, hc⟩
          intro a w ⟨hf, hc⟩
          refine stP hf rfl rfl rfl (pA rfl) fun a hf => ?_
          refine cNil ?_
          refine h31 _ _ ?_
          refine wp_ret ?_
          obtain rfl := Option.some.inj hF
          replace hc := hc.drop k13
          replace hc := hc.drop k12
          replace hc := hc.drop k11
          replace hc := hc.drop k10
          replace hc := hc.drop k9
          replace hc := hc.drop k8
          replace hc := hc.drop k7
          replace hc := hc.drop k6
          replace hc := hc.drop k5
          replace hc := hc.drop k4
          replace hc := hc.drop k3
          replace hc := hc.drop k2
          replace hc := hc.drop k1
          replace hc := hc.drop k0
          exact fnOut1 (by simp) rfl Try.results4 hf hc (show look _ 4 = _ from rfl) ⟨rfl, hc⟩
      have ho18 : ∀ r, x18 = .out r → r = res := by
        rintro r rfl
        exact Option.some.inj hF
      replace hc := hc.nilRow 40 10
      replace hc := hc.drop k7
      replace hc := hc.drop k4
      refine cLoop N (loopW (S := S18) (x := x18) ?_ N (rough, ([] : List gauge_Leg), r_8.1, 0) _ _ ⟨p_2, c_2, none, 0, p_3, c_3, hf.keep ⟨rfl, rfl, rfl, rfl, rfl, rfl, rfl, rfl, trivial⟩, hc⟩ hx18)
      clear hF hf hc
      rintro ⟨rough_1, mixed, x_6, x_7⟩ st18 a w KB18 ⟨p_4, c_4, p_5, c_5, p_6, c_6, hf, hc⟩ hF hfin18 hK18
      unfold law03_GaugeTrack_b18 at hF
      refine wp_seq_k fun K32 h32 => ?_
      refine cReg ?_
      refine stP hf rfl rfl rfl (pLt rfl rfl) fun a hf => ?_
      refine cNil ?_
      refine h32 _ _ ?_
      refine wp_seq_k fun K33 h33 => ?_
      refine cCond (b := (decide (x_7 < ((r_8.1.length : Nat) : Int)))) hf rfl (fun hb => ?_) (fun hb => ?_)
      · replace hF := condT hb hF
        clear hb
        refine wp_skip ?_
        refine h33 _ _ ?_
        refine wp_seq_k fun K34 h34 => ?_
        refine wp_block ?_
        refine wp_seq_k fun K35 h35 => ?_
        refine cReg ?_
        obtain ⟨e_2, he_2, hF⟩ := bnd_some hF
        obtain ⟨g_1, rfl, ha_1, hr_1⟩ := row_atm hc m1 he_2
        refine stP hf rfl rfl rfl (pIA Try.underlying43 sz_3 rfl rfl ha_1) fun a hf => ?_
        refine stE hf hc rfl rfl rfl (eLd1 sc_3 rfl (cell_row (j := 0) m1 hr_1 rfl)) fun a w hf hc => ?_
        refine stP hf rfl rfl rfl (pA rfl) fun a hf => ?_
        refine cNil ?_
        refine h35 _ _ ?_
        refine cReg ?_
        refine stP hf rfl rfl rfl (pM rfl) fun a hf => ?_
        refine stP hf rfl rfl rfl (pM rfl) fun a hf => ?_
        refine stP hf rfl rfl rfl (pM rfl) fun a hf => ?_
        obtain ⟨e_3, he_3, hF⟩ := bnd_some hF
        obtain ⟨g_2, rfl, ha_2, hr_2⟩ := row_atm hc m4 he_3
        refine stP hf rfl rfl rfl (pIA Try.underlying38 sz_40 rfl rfl ha_2) fun a hf => ?_
        refine stE hf hc rfl rfl rfl (eLdN (vs := [.int .i64 e_3.X.Lo, .int .i64 e_3.X.Hi, .int .i64 e_3.Y.Lo, .int .i64 e_3.Y.Hi, .int .i64 e_3.Depth.Lo, .int .i64 e_3.Depth.Hi, .int .i64 e_3.East.Lo, .int .i64 e_3.East.Hi, .int .i64 e_3.North.Lo, .int .i64 e_3.North.Hi]) ag_40 rfl rfl (cells_rw m4 hr_2 (n := 10) (o' := 0) rfl)) fun a w hf hc => ?_
        refine stBS (rows := ([e_3] : List gauge_Leg).map enc_gauge_Leg) (vs := [(0, .agg #[.int .i64 e_3.X.Lo, .int .i64 e_3.X.Hi, .int .i64 e_3.Y.Lo, .int .i64 e_3.Y.Hi, .int .i64 e_3.Depth.Lo, .int .i64 e_3.Depth.Hi, .int .i64 e_3.East.Lo, .int .i64 e_3.East.Hi, .int .i64 e_3.North.Lo, .int .i64 e_3.North.Hi])]) hf hc rfl rfl sl_38 rfl ⟨rfl, rfl, rfl, trivial⟩ rfl rfl fun b_15 a w hf hc => ?_
        obtain ⟨un, hun, hF⟩ := bnd_some hF
        refine stApm (xs := mixed) (ys := ([e_3] : List gauge_Leg)) hf hc rfl rfl sl_38 rfl rfl rfl rfl rfl one_enc_gauge_Leg (src_row hc m0) (fun _ _ => u1) (by simpa using room_spec hun) fun p_7 c_7 a w hf hc => ?_
        refine stP hf rfl rfl rfl (pA rfl) fun a hf => ?_
        refine cNil ?_
        refine h34 _ _ ?_
        refine cReg ?_
        refine stP hf rfl rfl rfl (pAdd rfl rfl) fun a hf => ?_
        refine stP hf rfl rfl rfl (pM rfl) fun a hf => ?_
        refine cNil ?_
        replace hc := hc.drop k0
        exact hK18 (rough_1, (mixed ++ [e_3]), x_6, W (x_7 + 1)) _ _ (Option.some.inj hF).symm ⟨(some ⟨g_2, 0, none⟩), c_4, p_7, c_7, (some ⟨g_1, 0, none⟩), c_6, hf.keep ⟨rfl, rfl, rfl, rfl, rfl, rfl, rfl, rfl, trivial⟩, hc⟩
      · replace hF := condF hb hF
        clear hb
        refine wp_exit ?_
        refine xThen ?_
        refine xThen ?_
        have he := Option.some.inj hF
        rw [← he] at hfin18
        refine cHit ?_
        exact hr18 _ _ _ hfin18 ⟨p_4, c_4, p_5, c_5, p_6, c_6, hf.keep ⟨rfl, rfl, rfl, rfl, rfl, rfl, rfl, rfl, trivial⟩, hc⟩
  have ho9 : ∀ r, x9 = .out r → r = res := by
    rintro r rfl
    exact Option.some.inj hF
  replace hc := hc.nilRow 40 10
  replace hc := hc.nilRow 40 10
  refine cLoop N (loopW (S := S9) (x := x9) ?_ N (0, 0, ([] : List gauge_Leg), ([] : List gauge_Leg), 0, r_5.2.1, r_5.2.2, r_1.1, r_1.2) _ _ ⟨none, 0, none, 0, hf.keep ⟨rfl, rfl, rfl, rfl, rfl, rfl, rfl, rfl, rfl, rfl, rfl, rfl, trivial⟩, hc⟩ hx9)
  clear hF hf hc
  rintro ⟨x, y, just, rough, x_1, x_2, x_3, x_4, x_5⟩ st9 a w KB9 ⟨p_1, c_1, p_2, c_2, hf, hc⟩ hF hfin9 hK9
  unfold law03_GaugeTrack_b9 at hF
  refine wp_seq_k fun K36 h36 => ?_
  refine cReg ?_
  refine stP hf rfl rfl rfl (pLt rfl rfl) fun a hf => ?_
  refine cNil ?_
  refine h36 _ _ ?_
  refine wp_seq_k fun K37 h37 => ?_
  refine cCond (b := (decide (x_1 < r_5.1))) hf rfl (fun hb => ?_) (fun hb => ?_)
  · replace hF := condT hb hF
    clear hb
    refine wp_skip ?_
    refine h37 _ _ ?_
    refine wp_seq_k fun K38 h38 => ?_
    refine wp_block ?_
    refine wp_seq_k fun K39 h39 => ?_
    refine cReg ?_
    refine stP hf rfl rfl rfl (pM rfl) fun a hf => ?_
    refine stP hf rfl rfl rfl (pA rfl) fun a hf => ?_
    refine cNil ?_
    refine h39 _ _ ?_
    refine wp_seq_k fun K40 h40 => ?_
    refine cReg ?_
    refine stP hf rfl rfl rfl (pM rfl) fun a hf => ?_
    obtain ⟨r_20, hr_20, hF⟩ := bnd_some hF
    refine stC (vs := [.pointer (some ⟨b_1, 0, none⟩), .int .i64 (-90), .int .i64 90]) (caps := []) hf rfl rfl rfl en_12 rfl rfl rfl rfl (kit_Stream_Within_ok (⟨numbers, x_2, x_3⟩ : kit_Stream) (-90) 90 h_numbers (hc.pick k2) hr_20) ?_
    rintro _ w ⟨rfl, hc⟩
    refine ⟨_, rfl, fun a hf => ?_⟩
    refine stP hf rfl rfl rfl (pM rfl) fun a hf => ?_
    obtain ⟨r_21, hr_21, hF⟩ := bnd_some hF
    refine stC (vs := [.pointer (some ⟨b_1, 0, none⟩), .int .i64 (-90), .int .i64 90]) (caps := []) hf rfl rfl rfl en_12 rfl rfl rfl rfl (kit_Stream_Within_ok (⟨numbers, r_20.2.1, r_20.2.2⟩ : kit_Stream) (-90) 90 h_numbers (hc.pick k0) hr_21) ?_
    rintro _ w ⟨rfl, hc⟩
    refine ⟨_, rfl, fun a hf => ?_⟩
    refine stP hf rfl rfl rfl (pA rfl) fun a hf => ?_
    refine stP hf rfl rfl rfl (pA rfl) fun a hf => ?_
    refine cNil ?_
    refine h40 _ _ ?_
    refine wp_seq_k fun K41 h41 => ?_
    have hj41 : ∀ (dx : Int) (dy : Int) a w, Has 240 a [(5, .pointer (some ⟨b_1, 0, none⟩)), (6, .pointer (some ⟨b_2, 0, none⟩)), (7, .int .i64 r_2.1), (8, .int .i64 r_3.1), (9, .int .i64 r_4.1), (10, .int .i64 x), (11, .int .i64 y), (12, .slice p_1 just.length c_1), (13, .slice p_2 rough.length c_2), (14, .int .i64 r_5.1), (16, .int .i64 dx), (17, .int .i64 dy), (46, .int .i64 r_5.1), (47, .int .i64 x_1)] → Ctx G (.box b_1 [.slice numbers_p numbers.length numbers_c, .int .i64 r_21.2.1, .int .i64 r_21.2.2] 104 :: .row p_2 c_2 (rough.map enc_gauge_Leg) 40 10 :: .row p_1 c_1 (just.map enc_gauge_Leg) 40 10 :: .box b_2 [.slice errors_p errors.length errors_c, .int .i64 x_4, .int .i64 x_5] 104 :: Lf) w → law03_GaugeTrack_j41 N errors r_2 r_3 r_4 x y just rough x_1 x_4 x_5 r_21 dx dy = some st9 → K41 a w := by
      intro dx dy a w hf hc hF
      unfold law03_GaugeTrack_j41 at hF
      refine h41 _ _ ?_
      refine wp_seq_k fun K42 h42 => ?_
      refine cReg ?_
      refine stP hf rfl rfl rfl (pM rfl) fun a hf => ?_
      refine stP hf rfl rfl rfl (pM rfl) fun a hf => ?_
      refine stP hf rfl rfl rfl (pAdd rfl rfl) fun a hf => ?_
      refine stP hf rfl rfl rfl (pM rfl) fun a hf => ?_
      refine stP hf rfl rfl rfl (pM rfl) fun a hf => ?_
      refine stP hf rfl rfl rfl (pAdd rfl rfl) fun a hf => ?_
      refine stP hf rfl rfl rfl (pA rfl) fun a hf => ?_
      refine stP hf rfl rfl rfl (pA rfl) fun a hf => ?_
      refine cNil ?_
      refine h42 _ _ ?_
      refine wp_seq_k fun K43 h43 => ?_
      refine cReg ?_
      refine stP hf rfl rfl rfl (pM rfl) fun a hf => ?_
      refine stP hf rfl rfl rfl (pM rfl) fun a hf => ?_
      refine stP hf rfl rfl rfl (pM rfl) fun a hf => ?_
      obtain ⟨r_22, hr_22, hF⟩ := bnd_some hF
      refine stE hf hc rfl rfl rfl (eC (v := .agg #[.int .i64 r_22.Lo, .int .i64 r_22.Hi]) (vs := [.int .i64 dx, .int .i64 dx]) (caps := []) en_14 rfl rfl rfl rfl (fun w hc => law03_span_ok dx dx hc hr_22)) fun a w hf hc => ?_
      refine stP hf rfl rfl rfl (pM rfl) fun a hf => ?_
      refine stP hf rfl rfl rfl (pM rfl) fun a hf => ?_
      obtain ⟨r_23, hr_23, hF⟩ := bnd_some hF
      refine stE hf hc rfl rfl rfl (eC (v := .agg #[.int .i64 r_23.Lo, .int .i64 r_23.Hi]) (vs := [.int .i64 dy, .int .i64 dy]) (caps := []) en_14 rfl rfl rfl rfl (fun w hc => law03_span_ok dy dy hc hr_23)) fun a w hf hc => ?_
      refine stP hf rfl rfl rfl (pM rfl) fun a hf => ?_
      refine stP hf rfl rfl rfl (pM rfl) fun a hf => ?_
      obtain ⟨r_24, hr_24, hF⟩ := bnd_some hF
      refine stE hf hc rfl rfl rfl (eC (v := .agg #[.int .i64 r_24.Lo, .int .i64 r_24.Hi]) (vs := [.int .i64 r_2.1, .int .i64 r_2.1]) (caps := []) en_14 rfl rfl rfl rfl (fun w hc => law03_span_ok r_2.1 r_2.1 hc hr_24)) fun a w hf hc => ?_
      refine stP hf rfl rfl rfl (pM rfl) fun a hf => ?_
      refine stP hf rfl rfl rfl (pM rfl) fun a hf => ?_
      obtain ⟨r_25, hr_25, hF⟩ := bnd_some hF
      refine stE hf hc rfl rfl rfl (eC (v := .agg #[.int .i64 r_25.Lo, .int .i64 r_25.Hi]) (vs := [.int .i64 r_3.1, .int .i64 r_3.1]) (caps := []) en_14 rfl rfl rfl rfl (fun w hc => law03_span_ok r_3.1 r_3.1 hc hr_25)) fun a w hf hc => ?_
      refine stP hf rfl rfl rfl (pM rfl) fun a hf => ?_
      refine stP hf rfl rfl rfl (pM rfl) fun a hf => ?_
      obtain ⟨r_26, hr_26, hF⟩ := bnd_some hF
      refine stE hf hc rfl rfl rfl (eC (v := .agg #[.int .i64 r_26.Lo, .int .i64 r_26.Hi]) (vs := [.int .i64 r_4.1, .int .i64 r_4.1]) (caps := []) en_14 rfl rfl rfl rfl (fun w hc => law03_span_ok r_4.1 r_4.1 hc hr_26)) fun a w hf hc => ?_
      refine stP hf rfl rfl rfl (pBuildS (cells := [.int .i64 r_22.Lo, .int .i64 r_22.Hi, .int .i64 r_23.Lo, .int .i64 r_23.Hi, .int .i64 r_24.Lo, .int .i64 r_24.Hi, .int .i64 r_25.Lo, .int .i64 r_25.Hi, .int .i64 r_26.Lo, .int .i64 r_26.Hi]) bt_40 rfl rfl) fun a hf => ?_
      refine stBS (rows := ([(⟨r_22, r_23, r_24, r_25, r_26⟩ : gauge_Leg)] : List gauge_Leg).map enc_gauge_Leg) (vs := [(0, .agg #[.int .i64 r_22.Lo, .int .i64 r_22.Hi, .int .i64 r_23.Lo, .int .i64 r_23.Hi, .int .i64 r_24.Lo, .int .i64 r_24.Hi, .int .i64 r_25.Lo, .int .i64 r_25.Hi, .int .i64 r_26.Lo, .int .i64 r_26.Hi])]) hf hc rfl rfl sl_38 rfl ⟨rfl, rfl, rfl, trivial⟩ rfl rfl fun b_16 a w hf hc => ?_
      obtain ⟨un_1, hun_1, hF⟩ := bnd_some hF
      refine stApm (xs := just) (ys := ([(⟨r_22, r_23, r_24, r_25, r_26⟩ : gauge_Leg)] : List gauge_Leg)) hf hc rfl rfl sl_38 rfl rfl rfl rfl rfl one_enc_gauge_Leg (src_row hc m0) (fun _ _ => u3) (by simpa using room_spec hun_1) fun p_8 c_8 a w hf hc => ?_
      refine stP hf rfl rfl rfl (pA rfl) fun a hf => ?_
      refine cNil ?_
      refine h43 _ _ ?_
      refine cReg ?_
      refine stP hf rfl rfl rfl (pM rfl) fun a hf => ?_
      refine stP hf rfl rfl rfl (pM rfl) fun a hf => ?_
      refine stP hf rfl rfl rfl (pM rfl) fun a hf => ?_
      obtain ⟨r_27, hr_27, hF⟩ := bnd_some hF
      refine stC (vs := [.pointer (some ⟨b_2, 0, none⟩), .int .i64 dx, .int .i64 (-10000), .int .i64 10000, .int .i64 3]) (caps := []) hf rfl rfl rfl en_17 rfl rfl rfl rfl (law03_Around_ok (⟨errors, x_4, x_5⟩ : kit_Stream) dx (-10000) 10000 3 h_errors (hc.pick k4) hr_27) ?_
      rintro _ w ⟨rfl, hc⟩
      refine ⟨_, rfl, fun a hf => ?_⟩
      refine stP hf rfl rfl rfl (pM rfl) fun a hf => ?_
      refine stP hf rfl rfl rfl (pM rfl) fun a hf => ?_
      obtain ⟨r_28, hr_28, hF⟩ := bnd_some hF
      refine stC (vs := [.pointer (some ⟨b_2, 0, none⟩), .int .i64 dy, .int .i64 (-10000), .int .i64 10000, .int .i64 3]) (caps := []) hf rfl rfl rfl en_17 rfl rfl rfl rfl (law03_Around_ok (⟨errors, r_27.2.1, r_27.2.2⟩ : kit_Stream) dy (-10000) 10000 3 h_errors (hc.pick k0) hr_28) ?_
      rintro _ w ⟨rfl, hc⟩
      refine ⟨_, rfl, fun a hf => ?_⟩
      refine stP hf rfl rfl rfl (pM rfl) fun a hf => ?_
      refine stP hf rfl rfl rfl (pM rfl) fun a hf => ?_
      obtain ⟨r_29, hr_29, hF⟩ := bnd_some hF
      refine stC (vs := [.pointer (some ⟨b_2, 0, none⟩), .int .i64 r_2.1, .int .i64 0, .int .i64 400, .int .i64 9]) (caps := []) hf rfl rfl rfl en_17 rfl rfl rfl rfl (law03_Around_ok (⟨errors, r_28.2.1, r_28.2.2⟩ : kit_Stream) r_2.1 0 400 9 h_errors (hc.pick k0) hr_29) ?_
      rintro _ w ⟨rfl, hc⟩
      refine ⟨_, rfl, fun a hf => ?_⟩
      refine stP hf rfl rfl rfl (pM rfl) fun a hf => ?_
      refine stP hf rfl rfl rfl (pM rfl) fun a hf => ?_
      obtain ⟨r_30, hr_30, hF⟩ := bnd_some hF
      refine stC (vs := [.pointer (some ⟨b_2, 0, none⟩), .int .i64 r_3.1, .int .i64 (-400), .int .i64 400, .int .i64 9]) (caps := []) hf rfl rfl rfl en_17 rfl rfl rfl rfl (law03_Around_ok (⟨errors, r_29.2.1, r_29.2.2⟩ : kit_Stream) r_3.1 (-400) 400 9 h_errors (hc.pick k0) hr_30) ?_
      rintro _ w ⟨rfl, hc⟩
      refine ⟨_, rfl, fun a hf => ?_⟩
      refine stP hf rfl rfl rfl (pM rfl) fun a hf => ?_
      refine stP hf rfl rfl rfl (pM rfl) fun a hf => ?_
      obtain ⟨r_31, hr_31, hF⟩ := bnd_some hF
      refine stC (vs := [.pointer (some ⟨b_2, 0, none⟩), .int .i64 r_4.1, .int .i64 (-400), .int .i64 400, .int .i64 9]) (caps := []) hf rfl rfl rfl en_17 rfl rfl rfl rfl (law03_Around_ok (⟨errors, r_30.2.1, r_30.2.2⟩ : kit_Stream) r_4.1 (-400) 400 9 h_errors (hc.pick k0) hr_31) ?_
      rintro _ w ⟨rfl, hc⟩
      refine ⟨_, rfl, fun a hf => ?_⟩
      refine stP hf rfl rfl rfl (pBuildS (cells := [.int .i64 r_27.1.Lo, .int .i64 r_27.1.Hi, .int .i64 r_28.1.Lo, .int .i64 r_28.1.Hi, .int .i64 r_29.1.Lo, .int .i64 r_29.1.Hi, .int .i64 r_30.1.Lo, .int .i64 r_30.1.Hi, .int .i64 r_31.1.Lo, .int .i64 r_31.1.Hi]) bt_40 rfl rfl) fun a hf => ?_
      refine stBS (rows := ([(⟨r_27.1, r_28.1, r_29.1, r_30.1, r_31.1⟩ : gauge_Leg)] : List gauge_Leg).map enc_gauge_Leg) (vs := [(0, .agg #[.int .i64 r_27.1.Lo, .int .i64 r_27.1.Hi, .int .i64 r_28.1.Lo, .int .i64 r_28.1.Hi, .int .i64 r_29.1.Lo, .int .i64 r_29.1.Hi, .int .i64 r_30.1.Lo, .int .i64 r_30.1.Hi, .int .i64 r_31.1.Lo, .int .i64 r_31.1.Hi])]) hf hc rfl rfl sl_38 rfl ⟨rfl, rfl, rfl, trivial⟩ rfl rfl fun b_17 a w hf hc => ?_
      obtain ⟨un_2, hun_2, hF⟩ := bnd_some hF
      refine stApm (xs := rough) (ys := ([(⟨r_27.1, r_28.1, r_29.1, r_30.1, r_31.1⟩ : gauge_Leg)] : List gauge_Leg)) hf hc rfl rfl sl_38 rfl rfl rfl rfl rfl one_enc_gauge_Leg (src_row hc m0) (fun _ _ => u4) (by simpa using room_spec hun_2) fun p_9 c_9 a w hf hc => ?_
      refine stP hf rfl rfl rfl (pA rfl) fun a hf => ?_
      refine cNil ?_
      refine h38 _ _ ?_
      refine cReg ?_
      refine stP hf rfl rfl rfl (pAdd rfl rfl) fun a hf => ?_
      refine stP hf rfl rfl rfl (pM rfl) fun a hf => ?_
      refine cNil ?_
      replace hc := hc.drop k2
      replace hc := hc.drop k0
      replace hc := hc.pick k0
      replace hc := hc.pick k1
      replace hc := hc.pick k3
      replace hc := hc.pick k3
      exact hK9 (W (x + dx), W (y + dy), (just ++ [(⟨r_22, r_23, r_24, r_25, r_26⟩ : gauge_Leg)]), (rough ++ [(⟨r_27.1, r_28.1, r_29.1, r_30.1, r_31.1⟩ : gauge_Leg)]), W (x_1 + 1), r_21.2.1, r_21.2.2, r_31.2.1, r_31.2.2) _ _ (Option.some.inj hF).symm ⟨p_8, c_8, p_9, c_9, hf.keep ⟨rfl, rfl, rfl, rfl, rfl, rfl, rfl, rfl, rfl, rfl, rfl, rfl, trivial⟩, hc⟩
    refine wp_seq_k fun K44 h44 => ?_
    refine cReg ?_
    refine stP hf rfl rfl rfl (pM rfl) fun a hf => ?_
    refine stP hf rfl rfl rfl (pM rfl) fun a hf => ?_
    refine stP hf rfl rfl rfl (pSub rfl rfl) fun a hf => ?_
    refine stP hf rfl rfl rfl (pEq rfl rfl) fun a hf => ?_
    refine cNil ?_
    refine h44 _ _ ?_
    refine cCond (b := (x_1 == (W (r_5.1 - 1)))) hf rfl (fun hb => ?_) (fun hb => ?_)
    · replace hF := condT hb hF
      clear hb
      refine cReg ?_
      refine stP hf rfl rfl rfl (pM rfl) fun a hf => ?_
      refine stP hf rfl rfl rfl (pNeg rfl) fun a hf => ?_
      refine stP hf rfl rfl rfl (pM rfl) fun a hf => ?_
      refine stP hf rfl rfl rfl (pNeg rfl) fun a hf => ?_
      refine stP hf rfl rfl rfl (pA rfl) fun a hf => ?_
      refine stP hf rfl rfl rfl (pA rfl) fun a hf => ?_
      refine cNil ?_
      exact hj41 (W (0 - x)) (W (0 - y)) _ _  (hf.keep ⟨rfl, rfl, rfl, rfl, rfl, rfl, rfl, rfl, rfl, rfl, rfl, rfl, rfl, rfl, trivial⟩) hc hF
    · replace hF := condF hb hF
      clear hb
      refine wp_skip ?_
      exact hj41 r_20.1 r_21.1 _ _  (hf.keep ⟨rfl, rfl, rfl, rfl, rfl, rfl, rfl, rfl, rfl, rfl, rfl, rfl, rfl, rfl, trivial⟩) hc hF
  · replace hF := condF hb hF
    clear hb
    refine wp_exit ?_
    refine xThen ?_
    refine xThen ?_
    have he := Option.some.inj hF
    rw [← he] at hfin9
    refine cHit ?_
    exact hr9 _ _ _ hfin9 ⟨p_1, c_1, p_2, c_2, hf.keep ⟨rfl, rfl, rfl, rfl, rfl, rfl, rfl, rfl, rfl, rfl, rfl, rfl, trivial⟩, hc⟩

end Go.Nilo
