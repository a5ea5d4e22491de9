/-
  What functions of the Go text compute, as plain functions, and that they do, part 4 of 4. Conditions: what each theorem names.
-/
import Derived.Test.YtepopogbmjfpeaaMo3
import Derived.Test.YtepopogbmjfpeaaProg
set_option linter.unusedVariables false
set_option maxRecDepth 100000
set_option maxHeartbeats 4000000
namespace Go.Nilo
open Go.Proofs


def law05_ShiftMore_j48 (N : Nat) (r_17 : (List api_Span) × Int) (x_6 : Int) (x_7 : Int) (x_8 : Int) : Option (Step (Int) (Bool)) :=
  Option.bind (getI r_17.1 x_6) fun e_2 =>
  Option.bind (cond (decide (x_7 < e_2.Lo)) (some true) (Option.bind (getI r_17.1 x_6) fun e_3 =>
  some (decide (e_3.Hi < x_8)))) fun t_3 =>
  cond t_3
  (some (.ret false))
  (some (.cont (W (x_6 + 1))))
def law05_ShiftMore_b41 (N : Nat) (which : Int) (r_1 : shift_Record × (List Int) × Int × Int) (r_4 : (List api_Span) × Int) (r_17 : (List api_Span) × Int) (x_6 : Int) : Option (Step (Int) (Bool)) :=
  cond (decide (x_6 < ((r_17.1.length : Nat) : Int)))
  (Option.bind (getI r_4.1 x_6) fun e_1 =>
  cond (decide (((W (which)).tmod ((r_1.1.Gaugings.length : Nat) : Int)) ≤ x_6))
  (Option.bind (getI r_4.1 (W (x_6 + 1))) fun e_4 =>
  law05_ShiftMore_j48 N r_17 x_6 e_4.Lo e_4.Hi)
  (law05_ShiftMore_j48 N r_17 x_6 e_1.Lo e_1.Hi))
  (some (.brk x_6))
def law05_ShiftMore_b18 (N : Nat) (r_7 : (List shift_Gauging)) (x_4 : Int) (x_5 : List shift_Gauging) : Option (Step (Int × (List shift_Gauging)) (Bool)) :=
  cond (decide (x_4 < ((r_7.length : Nat) : Int)))
  (Option.bind (getI x_5 x_4) fun e_5 =>
  some (.cont (W (x_4 + 1), (x_5.set x_4.toNat (⟨x_4, e_5.Stage, e_5.Flow⟩ : shift_Gauging)))))
  (some (.brk (x_4, x_5)))
def law05_ShiftMore_b14 (N : Nat) (days : List Int) (r_5 : shift_Record) (day : Int) (x : Int) (x_1 : Int) (x_2 : Int) (x_3 : List shift_Gauging) : Option (Step (Int × Int × Int × Int × (List shift_Gauging)) (Bool)) :=
  cond (decide (x < ((r_5.Gaugings.length : Nat) : Int)))
  (Option.bind (getI x_3 x) fun e_6 =>
  Option.bind (kit_Stream_Within N (⟨days, x_1, x_2⟩ : kit_Stream) 1 30) fun r_19 =>
  some (.cont (W (day + r_19.1), W (x + 1), r_19.2.1, r_19.2.2, (x_3.set x.toNat (⟨day, e_6.Stage, e_6.Flow⟩ : shift_Gauging)))))
  (some (.brk (day, x, x_1, x_2, x_3)))
def law05_ShiftMore (N : Nat) (numbers : List Int) (days : List Int) (which : Int) (more : Int) : Option (Bool) :=
  Option.bind (kit_New N numbers) fun r =>
  Option.bind (law05_Gauged N (⟨numbers, r.1, r.2⟩ : kit_Stream) 10) fun r_1 =>
  Option.bind (kit_New N days) fun r_2 =>
  Option.bind (shift_Least N r_1.1) fun r_3 =>
  cond ((r_3.2.2 != 0) || (decide (r_3.2.1 < 0)))
  (some false)
  (Option.bind (shift_Can N r_1.1 (min 18000 (W (r_3.2.1 + ((W (more)).tmod 20))))) fun r_4 =>
  Option.bind (law05_CopyRecord N r_1.1) fun r_5 =>
  Option.bind (law05_CopyRecord N r_1.1) fun r_6 =>
  Option.bind (loopO (fun s14 => law05_ShiftMore_b14 N days r_5 s14.1 s14.2.1 s14.2.2.1 s14.2.2.2.1 s14.2.2.2.2) N (0, 0, r_2.1, r_2.2, r_5.Gaugings)) fun x14 =>
  exK x14 (fun s14 => Option.bind (slices_Reverse_Lshift_Gauging_shift_Gauging N r_6.Gaugings) fun r_7 =>
  Option.bind (loopO (fun s18 => law05_ShiftMore_b18 N r_7 s18.1 s18.2) N (0, r_7)) fun x18 =>
  exK x18 (fun s18 => Option.bind (shift_Can N (⟨r_5.Rating, s14.2.2.2.2⟩ : shift_Record) (min 18000 (W (r_3.2.1 + ((W (more)).tmod 20))))) fun r_8 =>
  Option.bind (shift_Can N (⟨r_6.Rating, s18.2⟩ : shift_Record) (min 18000 (W (r_3.2.1 + ((W (more)).tmod 20))))) fun r_9 =>
  Option.bind (cond (((r_4.2 != 0) || (r_8.2 != 0)) || (r_9.2 != 0)) (some true) (Option.bind (kit_Same_api_Span N r_4.1 r_8.1) fun r_10 =>
  some (!r_10))) fun t_1 =>
  cond t_1
  (some false)
  (Option.bind (slices_Reverse_Lapi_Span_api_Span N r_9.1) fun r_11 =>
  Option.bind (kit_Same_api_Span N r_4.1 r_11) fun r_12 =>
  cond (!r_12)
  (some false)
  (cond (((r_1.1.Gaugings.length : Nat) : Int) == 1)
  (Option.bind (cond (r_3.2.1 == 0) (Option.bind (law05_awake N) fun r_13 =>
  some r_13) (some false)) fun t_2 =>
  some t_2)
  (Option.bind (nz ((r_1.1.Gaugings.length : Nat) : Int)) fun un =>
  Option.bind (law05_CopyRecord N r_1.1) fun r_14 =>
  Option.bind (slices_Delete_Lshift_Gauging_shift_Gauging N r_14.Gaugings ((W (which)).tmod ((r_1.1.Gaugings.length : Nat) : Int)) (W (((W (which)).tmod ((r_1.1.Gaugings.length : Nat) : Int)) + 1))) fun r_15 =>
  Option.bind (shift_Least N (⟨r_14.Rating, r_15⟩ : shift_Record)) fun r_16 =>
  Option.bind (shift_Can N (⟨r_14.Rating, r_15⟩ : shift_Record) (min 18000 (W (r_3.2.1 + ((W (more)).tmod 20))))) fun r_17 =>
  cond ((((r_16.2.2 != 0) || (r_17.2 != 0)) || (decide (r_3.2.1 < r_16.2.1))) || (((r_17.1.length : Nat) : Int) != (W (((r_4.1.length : Nat) : Int) - 1))))
  (some false)
  (Option.bind (loopO (fun s41 => law05_ShiftMore_b41 N which r_1 r_4 r_17 s41) N 0) fun x41 =>
  exK x41 (fun s41 => Option.bind (law05_awake N) fun r_18 =>
  some r_18) some))))) some) some)
theorem law05_ShiftMore_ok {N : Nat} {G : Pers} {Lf : List Ent} {w : World} (numbers : List Int) (days : List Int) (which : Int) (more : Int) {numbers_p : Option Addr} {numbers_c : Nat} {days_p : Option Addr} {days_c : Nat} (h_numbers : Rd G 1 numbers_p numbers_c (numbers.map encI_u8)) (h_days : Rd G 1 days_p days_c (days.map encI_u8)) (hc : Ctx G (Lf) w) {res : Bool} (hF : law05_ShiftMore N numbers days which more = some res) : Calls Try.prog 8 #[.slice numbers_p numbers.length numbers_c, .slice days_p days.length days_c, .int .u8 which, .int .u8 more] w (fun e w => e = .returned (.bool res) ∧ Ctx G (Lf) w) := by
  unfold law05_ShiftMore at hF
  refine fnIn (args := [.slice numbers_p numbers.length numbers_c, .slice days_p days.length days_c, .int .u8 which, .int .u8 more]) Try.func8 rfl Try.ntmps8 rfl fun a hf => ?_
  refine wp_seq_k fun K1 h1 => ?_
  refine cReg ?_
  refine stP hf rfl rfl rfl (pA rfl) fun a hf => ?_
  refine cNil ?_
  refine h1 _ _ ?_
  refine wp_seq_k fun K2 h2 => ?_
  refine cReg ?_
  refine stP hf rfl rfl rfl (pM rfl) fun a hf => ?_
  obtain ⟨r, hr, hF⟩ := bnd_some hF
  refine stC (vs := [.slice numbers_p numbers.length numbers_c]) (caps := []) hf rfl rfl rfl en_32 rfl rfl rfl rfl (kit_New_ok numbers h_numbers hc hr) ?_
  rintro _ w ⟨b_1, rfl, hc⟩
  refine ⟨_, rfl, fun a hf => ?_⟩
  obtain ⟨r_1, hr_1, hF⟩ := bnd_some hF
  refine stC (vs := [.pointer (some ⟨b_1, 0, none⟩), .int .i64 10]) (caps := []) hf rfl rfl rfl en_31 rfl rfl rfl rfl (law05_Gauged_ok (⟨numbers, r.1, r.2⟩ : kit_Stream) 10 h_numbers (hc.pick k0) hr_1) ?_
  rintro _ w ⟨p_1, c_1, p_2, c_2, p_3, c_3, rfl, hc⟩
  refine ⟨_, rfl, fun a hf => ?_⟩
  refine stP hf rfl rfl rfl (pM rfl) fun a hf => ?_
  refine stP hf rfl rfl rfl (pX rfl rfl) fun a hf => ?_
  refine stP hf rfl rfl rfl (pX rfl rfl) fun a hf => ?_
  refine stAl (cs := [.slice none 0 0, .slice none 0 0]) hf hc rfl rfl zr_25 rfl fun b_2 a w hf hc => ?_
  refine stSt (vs := [.slice p_1 r_1.1.Rating.length c_1, .slice p_2 r_1.1.Gaugings.length c_2]) hf hc rfl rfl rfl rfl sz_25 rfl rfl u0 fun w hc => ?_
  refine stP hf rfl rfl rfl (pA rfl) fun a hf => ?_
  refine cNil ?_
  refine h2 _ _ ?_
  refine wp_seq_k fun K3 h3 => ?_
  refine cReg ?_
  refine stP hf rfl rfl rfl (pM rfl) fun a hf => ?_
  obtain ⟨r_2, hr_2, hF⟩ := bnd_some hF
  refine stC (vs := [.slice days_p days.length days_c]) (caps := []) hf rfl rfl rfl en_32 rfl rfl rfl rfl (kit_New_ok days h_days hc hr_2) ?_
  rintro _ w ⟨b_3, rfl, hc⟩
  refine ⟨_, rfl, fun a hf => ?_⟩
  refine stP hf rfl rfl rfl (pA rfl) fun a hf => ?_
  refine cNil ?_
  refine h3 _ _ ?_
  refine wp_seq_k fun K4 h4 => ?_
  refine cReg ?_
  refine stE hf hc rfl rfl rfl (eLdN (vs := [.slice p_1 r_1.1.Rating.length c_1, .slice p_2 r_1.1.Gaugings.length c_2]) ag_25 rfl rfl (cells_box (n := 2) m1 rfl)) fun a w hf hc => ?_
  obtain ⟨r_3, hr_3, hF⟩ := bnd_some hF
  obtain ⟨G1, hle1, hrd1, hc, hth1⟩ := lend hc k2
  obtain ⟨G2, hle2, hrd2, hc, hth2⟩ := lend hc k2
  refine stC (vs := [.agg #[.slice p_1 r_1.1.Rating.length c_1, .slice p_2 r_1.1.Gaugings.length c_2]]) (caps := []) hf rfl rfl rfl en_33 rfl rfl rfl rfl (shift_Least_ok r_1.1 (hrd1.mono hle2) hrd2 hc hr_3) ?_
  rintro _ w ⟨p_4, c_4, rfl, hc⟩
  refine ⟨_, rfl, fun a hf => ?_⟩
  replace hc := hth2 _ _ hc
  replace hc := hth1 _ _ hc
  refine stP hf rfl rfl rfl (pM rfl) fun a hf => ?_
  refine stP hf rfl rfl rfl (pX rfl rfl) fun a hf => ?_
  refine stP hf rfl rfl rfl (pX rfl rfl) fun a hf => ?_
  refine stP hf rfl rfl rfl (pX rfl rfl) fun a hf => ?_
  refine stP hf rfl rfl rfl (pA rfl) fun a hf => ?_
  refine stP hf rfl rfl rfl (pA rfl) fun a hf => ?_
  refine stP hf rfl rfl rfl (pA rfl) fun a hf => ?_
  refine cNil ?_
  refine h4 _ _ ?_
  refine wp_seq_k fun K5 h5 => ?_
  refine wp_seq_k fun K6 h6 => ?_
  refine cReg ?_
  refine stP hf rfl rfl rfl (pM rfl) fun a hf => ?_
  refine stP hf rfl rfl rfl (pNe rfl rfl) fun a hf => ?_
  refine stP hf rfl rfl rfl (pM rfl) fun a hf => ?_
  refine stCut 3 (fun a w => Has 228 a [(2, .int .u8 which), (3, .int .u8 more), (9, .pointer (some ⟨b_2, 0, none⟩)), (11, .pointer (some ⟨b_3, 0, none⟩)), (13, .int .i64 r_3.2.1), (14, .int .i64 r_3.2.2), (47, .int .i64 r_3.2.2), (48, .bool (r_3.2.2 != 0)), (49, .bool (r_3.2.2 != 0)), (52, .bool ((r_3.2.2 != 0) || (decide (r_3.2.1 < 0))))] ∧ Ctx G (.row p_1 c_1 (r_1.1.Rating.map enc_shift_Mark) 77 2 :: .row p_2 c_2 (r_1.1.Gaugings.map enc_shift_Gauging) 71 4 :: .row p_4 c_4 (r_3.1.map encI_i64) 3 1 :: .box b_3 [.slice days_p days.length days_c, .int .i64 r_2.1, .int .i64 r_2.2] 151 :: .box b_2 [.slice p_1 r_1.1.Rating.length c_1, .slice p_2 r_1.1.Gaugings.length c_2] 25 :: .row p_3 c_3 (r_1.2.1.map encI_i64) 3 1 :: .box b_1 [.slice numbers_p numbers.length numbers_c, .int .i64 r_1.2.2.1, .int .i64 r_1.2.2.2] 151 :: Lf) w) ?_ ?_
  · cases hb : (r_3.2.2 != 0)
    · rw [hb] at hf
      refine stP hf rfl rfl rfl (pM rfl) fun a hf => ?_
      refine stP hf rfl rfl rfl (pLt rfl rfl) fun a hf => ?_
      refine stP hf rfl rfl rfl (pPf rfl rfl) fun a hf => ?_
      exact cNil ⟨hf.keep ⟨rfl, rfl, rfl, rfl, rfl, rfl, rfl, rfl, rfl, rfl, trivial⟩, hc⟩
    · rw [hb] at hf
      refine stS hf rfl rfl rfl fun a hf => ?_
      refine stS hf rfl rfl rfl fun a hf => ?_
      refine stP hf rfl rfl rfl (pPt rfl rfl) fun a hf => ?_
      exact cNil ⟨hf.keep ⟨rfl, rfl, rfl, rfl, rfl, rfl, rfl, rfl, rfl, rfl, trivial⟩, hc⟩
  intro a w ⟨hf, hc⟩
  refine cNil ?_
  refine h6 _ _ ?_
  refine cCond (b := ((r_3.2.2 != 0) || (decide (r_3.2.1 < 0)))) hf rfl (fun hb => ?_) (fun hb => ?_)
  · replace hF := condT hb hF
    clear hb
    refine wp_seq_k fun K7 h7 => ?_
    refine cReg ?_
    refine stP hf rfl rfl rfl (pA rfl) fun a hf => ?_
    refine cNil ?_
    refine h7 _ _ ?_
    refine wp_ret ?_
    refine xThenR ?_
    obtain rfl := Option.some.inj hF
    replace hc := hc.drop k6
    replace hc := hc.drop k5
    replace hc := hc.drop k4
    replace hc := hc.drop k3
    replace hc := hc.drop k2
    replace hc := hc.drop k1
    replace hc := hc.drop k0
    exact fnOut1 (by simp) rfl Try.results8 hf hc (show look _ 8 = _ from rfl) ⟨rfl, hc⟩
  · replace hF := condF hb hF
    clear hb
    refine wp_skip ?_
    refine h5 _ _ ?_
    refine wp_seq_k fun K8 h8 => ?_
    refine cReg ?_
    refine stP hf rfl rfl rfl (pM rfl) fun a hf => ?_
    refine stP hf rfl rfl rfl (pM rfl) fun a hf => ?_
    refine stP hf rfl rfl rfl (pCv Try.underlying5 Try.underlying3 rfl) fun a hf => ?_
    refine stP hf rfl rfl rfl (pRem rfl rfl (by decide)) fun a hf => ?_
    refine stP hf rfl rfl rfl (pAdd rfl rfl) fun a hf => ?_
    refine stP hf rfl rfl rfl (pMin2 rfl rfl) fun a hf => ?_
    refine stP hf rfl rfl rfl (pA rfl) fun a hf => ?_
    refine cNil ?_
    refine h8 _ _ ?_
    refine wp_seq_k fun K9 h9 => ?_
    refine cReg ?_
    refine stE hf hc rfl rfl rfl (eLdN (vs := [.slice p_1 r_1.1.Rating.length c_1, .slice p_2 r_1.1.Gaugings.length c_2]) ag_25 rfl rfl (cells_box (n := 2) m4 rfl)) fun a w hf hc => ?_
    refine stP hf rfl rfl rfl (pM rfl) fun a hf => ?_
    obtain ⟨r_4, hr_4, hF⟩ := bnd_some hF
    obtain ⟨G1, hle1, hrd1, hc, hth1⟩ := lend hc k0
    obtain ⟨G2, hle2, hrd2, hc, hth2⟩ := lend hc k0
    refine stC (vs := [.agg #[.slice p_1 r_1.1.Rating.length c_1, .slice p_2 r_1.1.Gaugings.length c_2], .int .i64 (min 18000 (W (r_3.2.1 + ((W (more)).tmod 20))))]) (caps := []) hf rfl rfl rfl en_27 rfl rfl rfl rfl (shift_Can_ok r_1.1 (min 18000 (W (r_3.2.1 + ((W (more)).tmod 20)))) (hrd1.mono hle2) hrd2 hc hr_4) ?_
    rintro _ w ⟨p_5, c_5, rfl, hc⟩
    refine ⟨_, rfl, fun a hf => ?_⟩
    replace hc := hth2 _ _ hc
    replace hc := hth1 _ _ hc
    refine stP hf rfl rfl rfl (pM rfl) fun a hf => ?_
    refine stP hf rfl rfl rfl (pX rfl rfl) fun a hf => ?_
    refine stP hf rfl rfl rfl (pX rfl rfl) fun a hf => ?_
    refine stP hf rfl rfl rfl (pA rfl) fun a hf => ?_
    refine stP hf rfl rfl rfl (pA rfl) fun a hf => ?_
    refine cNil ?_
    refine h9 _ _ ?_
    refine wp_seq_k fun K10 h10 => ?_
    obtain ⟨r_5, hr_5, hF⟩ := bnd_some hF
    obtain ⟨r_6, hr_6, hF⟩ := bnd_some hF
    replace hc := hc.nilRow 0 0
    replace hc := hc.nilRow 0 0
    replace hc := hc.nilRow 0 0
    replace hc := hc.nilRow 0 0
    replace hc := hc.nilRow 0 0
    replace hc := hc.nilRow 0 0
    refine regionE (fun θ => [⟨none, none, 2, .int .u8 which⟩, ⟨none, none, 9, .pointer (some ⟨b_2, 0, none⟩)⟩, ⟨none, none, 11, .pointer (some ⟨b_3, 0, none⟩)⟩, ⟨none, none, 13, .int .i64 r_3.2.1⟩, ⟨none, none, 14, .int .i64 r_4.2⟩, ⟨none, none, 15, .int .i64 (min 18000 (W (r_3.2.1 + ((W (more)).tmod 20))))⟩, ⟨none, none, 16, .slice p_5 r_4.1.length c_5⟩, ⟨some 0, none, 65, .agg #[.slice p_1 r_1.1.Rating.length c_1, .slice p_2 r_1.1.Gaugings.length c_2]⟩, ⟨some 1, none, 66, .agg #[.slice ((θ 8).p) r_5.Rating.length ((θ 8).c), .slice ((θ 9).p) r_5.Gaugings.length ((θ 9).c)]⟩, ⟨some 2, none, 67, .agg #[.slice p_1 r_1.1.Rating.length c_1, .slice p_2 r_1.1.Gaugings.length c_2]⟩, ⟨some 3, none, 68, .agg #[.slice ((θ 24).p) r_6.Rating.length ((θ 24).c), .slice ((θ 25).p) r_6.Gaugings.length ((θ 25).c)]⟩, ⟨some 4, none, 17, .pointer (some ⟨(θ 32).b, 0, none⟩)⟩, ⟨some 5, none, 18, .pointer (some ⟨(θ 40).b, 0, none⟩)⟩]) (fun E θ => (bif E 7 then .box (θ 40).b [.slice ((θ 24).p) r_6.Rating.length ((θ 24).c), .slice ((θ 25).p) r_6.Gaugings.length ((θ 25).c)] 25 else bif E 5 then .box (θ 40).b [.slice none 0 0, .slice none 0 0] 25 else .row none 0 [] 0 0) :: (bif E 6 then .box (θ 32).b [.slice ((θ 8).p) r_5.Rating.length ((θ 8).c), .slice ((θ 9).p) r_5.Gaugings.length ((θ 9).c)] 25 else bif E 4 then .box (θ 32).b [.slice none 0 0, .slice none 0 0] 25 else .row none 0 [] 0 0) :: (bif E 3 then .row ((θ 25).p) ((θ 25).c) (r_6.Gaugings.map enc_shift_Gauging) 71 4 else .row none 0 [] 0 0) :: (bif E 3 then .row ((θ 24).p) ((θ 24).c) (r_6.Rating.map enc_shift_Mark) 77 2 else .row none 0 [] 0 0) :: (bif E 1 then .row ((θ 9).p) ((θ 9).c) (r_5.Gaugings.map enc_shift_Gauging) 71 4 else .row none 0 [] 0 0) :: (bif E 1 then .row ((θ 8).p) ((θ 8).c) (r_5.Rating.map enc_shift_Mark) 77 2 else .row none 0 [] 0 0) :: .row p_1 c_1 (r_1.1.Rating.map enc_shift_Mark) 77 2 :: .row p_2 c_2 (r_1.1.Gaugings.map enc_shift_Gauging) 71 4 :: .row p_5 c_5 (r_4.1.map enc_api_Span) 50 2 :: .row p_4 c_4 (r_3.1.map encI_i64) 3 1 :: .box b_3 [.slice days_p days.length days_c, .int .i64 r_2.1, .int .i64 r_2.2] 151 :: .box b_2 [.slice p_1 r_1.1.Rating.length c_1, .slice p_2 r_1.1.Gaugings.length c_2] 25 :: .row p_3 c_3 (r_1.2.1.map encI_i64) 3 1 :: .box b_1 [.slice numbers_p numbers.length numbers_c, .int .i64 r_1.2.2.1, .int .i64 r_1.2.2.2] 151 :: Lf) [(6, 1), (7, 3), (6, 4), (7, 5)] (fun a w => ∃ (b_6 : Nat) (b_7 : Nat) (p_10 : Option Addr) (c_10 : Nat) (p_11 : Option Addr) (c_11 : Nat) (p_12 : Option Addr) (c_12 : Nat) (p_13 : Option Addr) (c_13 : Nat), Has 228 a [(2, .int .u8 which), (9, .pointer (some ⟨b_2, 0, none⟩)), (11, .pointer (some ⟨b_3, 0, none⟩)), (13, .int .i64 r_3.2.1), (14, .int .i64 r_4.2), (15, .int .i64 (min 18000 (W (r_3.2.1 + ((W (more)).tmod 20))))), (16, .slice p_5 r_4.1.length c_5), (17, .pointer (some ⟨b_6, 0, none⟩)), (18, .pointer (some ⟨b_7, 0, none⟩))] ∧ Ctx G (.box b_7 [.slice p_10 r_6.Rating.length c_10, .slice p_11 r_6.Gaugings.length c_11] 25 :: .box b_6 [.slice p_12 r_5.Rating.length c_12, .slice p_13 r_5.Gaugings.length c_13] 25 :: .row p_11 c_11 (r_6.Gaugings.map enc_shift_Gauging) 71 4 :: .row p_10 c_10 (r_6.Rating.map enc_shift_Mark) 77 2 :: .row p_13 c_13 (r_5.Gaugings.map enc_shift_Gauging) 71 4 :: .row p_12 c_12 (r_5.Rating.map enc_shift_Mark) 77 2 :: .row p_1 c_1 (r_1.1.Rating.map enc_shift_Mark) 77 2 :: .row p_2 c_2 (r_1.1.Gaugings.map enc_shift_Gauging) 71 4 :: .row p_5 c_5 (r_4.1.map enc_api_Span) 50 2 :: .row p_4 c_4 (r_3.1.map encI_i64) 3 1 :: .box b_3 [.slice days_p days.length days_c, .int .i64 r_2.1, .int .i64 r_2.2] 151 :: .box b_2 [.slice p_1 r_1.1.Rating.length c_1, .slice p_2 r_1.1.Gaugings.length c_2] 25 :: .row p_3 c_3 (r_1.2.1.map encI_i64) 3 1 :: .box b_1 [.slice numbers_p numbers.length numbers_c, .int .i64 r_1.2.2.1, .int .i64 r_1.2.2.2] 151 :: Lf) w) follows_mx (by kernel_rfl) (by kernel_rfl) (HasE.of hf ⟨rfl, rfl, rfl, rfl, rfl, rfl, rfl, trivial, trivial, trivial, trivial, trivial, trivial, trivial⟩) hc ⟨?_, ?_, ?_, ?_, ?_, ?_, ?_, ?_, trivial⟩ ?_ ?_
    · intro E θ a w hD hi hp he hc
      have hf := he.h0
      replace hf := hf.more he 1 rfl onT
      refine stE hf hc rfl rfl rfl (eLdN (vs := [.slice p_1 r_1.1.Rating.length c_1, .slice p_2 r_1.1.Gaugings.length c_2]) ag_25 rfl rfl (cells_box (n := 2) m11 rfl)) fun a w hf hc => ?_
      refine cNil ?_
      refine xThenN ?_
      intro ds u hau
      refine ⟨θ, he.put0 hi hau hf rfl 7 rfl rfl, ?_⟩
      exact hc
    · intro E θ a w hD hi hp he hc
      have e0 := hp.of (k := 0) rfl
      have e6 := hD.f 0 rfl hi
      try dsimp only at hc
      rw [hi, e6] at hc
      have hf := he.h0
      replace hf := hf.more he 7 rfl (onP e0)
      obtain ⟨G1, hle1, hrd1, hc, hth1⟩ := lend hc k6
      obtain ⟨G2, hle2, hrd2, hc, hth2⟩ := lend hc k6
      refine stC (vs := [.agg #[.slice p_1 r_1.1.Rating.length c_1, .slice p_2 r_1.1.Gaugings.length c_2]]) (caps := []) hf rfl rfl rfl en_13 rfl rfl rfl rfl (law05_CopyRecord_ok r_1.1 (hrd1.mono hle2) hrd2 hc hr_5) ?_
      rintro _ w ⟨p_6, c_6, p_7, c_7, rfl, hc⟩
      refine ⟨_, rfl, fun a hf => ?_⟩
      replace hc := hth2 _ _ hc
      replace hc := hth1 _ _ hc
      refine cNil ?_
      refine xThenN ?_
      intro ds u hau
      replace hc := hc.drop k9
      replace hc := hc.drop k8
      replace hc := hc.pick k1
      replace hc := hc.pick k1
      replace hc := hc.pick k2
      replace hc := hc.pick k3
      replace hc := hc.pick k7
      replace hc := hc.pick k7
      replace hc := hc.pick k7
      replace hc := hc.pick k7
      refine ⟨(setT (setT θ 8 ⟨0, p_6, c_6⟩) 9 ⟨0, p_7, c_7⟩), he.put hi hau hf rfl [] trivial ⟨qq, qq, qq, qq, qq, qq, qq, qq, qq, qq, qq, qq, qq, trivial⟩, ?_⟩
      try dsimp only
      rw [updE_self E 1, updE_fls 1 e6 rfl]
      exact hc
    · intro E θ a w hD hi hp he hc
      have hf := he.h0
      replace hf := hf.more he 1 rfl onT
      refine stE hf hc rfl rfl rfl (eLdN (vs := [.slice p_1 r_1.1.Rating.length c_1, .slice p_2 r_1.1.Gaugings.length c_2]) ag_25 rfl rfl (cells_box (n := 2) m11 rfl)) fun a w hf hc => ?_
      refine cNil ?_
      refine xThenN ?_
      intro ds u hau
      refine ⟨θ, he.put0 hi hau hf rfl 9 rfl rfl, ?_⟩
      exact hc
    · intro E θ a w hD hi hp he hc
      have e2 := hp.of (k := 2) rfl
      have e7 := hD.f 1 rfl hi
      try dsimp only at hc
      rw [hi, e7] at hc
      have hf := he.h0
      replace hf := hf.more he 9 rfl (onP e2)
      obtain ⟨G1, hle1, hrd1, hc, hth1⟩ := lend hc k6
      obtain ⟨G2, hle2, hrd2, hc, hth2⟩ := lend hc k6
      refine stC (vs := [.agg #[.slice p_1 r_1.1.Rating.length c_1, .slice p_2 r_1.1.Gaugings.length c_2]]) (caps := []) hf rfl rfl rfl en_13 rfl rfl rfl rfl (law05_CopyRecord_ok r_1.1 (hrd1.mono hle2) hrd2 hc hr_6) ?_
      rintro _ w ⟨p_8, c_8, p_9, c_9, rfl, hc⟩
      refine ⟨_, rfl, fun a hf => ?_⟩
      replace hc := hth2 _ _ hc
      replace hc := hth1 _ _ hc
      refine cNil ?_
      refine xThenN ?_
      intro ds u hau
      replace hc := hc.drop k7
      replace hc := hc.drop k6
      replace hc := hc.pick k1
      replace hc := hc.pick k1
      replace hc := hc.pick k7
      replace hc := hc.pick k7
      replace hc := hc.pick k4
      replace hc := hc.pick k5
      replace hc := hc.pick k7
      replace hc := hc.pick k7
      refine ⟨(setT (setT θ 24 ⟨0, p_8, c_8⟩) 25 ⟨0, p_9, c_9⟩), he.put hi hau hf rfl [] trivial ⟨qq, qq, qq, qq, qq, qq, qq, qq, qq, qq, qq, qq, qq, trivial⟩, ?_⟩
      try dsimp only
      rw [updE_self E 3, updE_fls 3 e7 rfl]
      exact hc
    · intro E θ a w hD hi hp he hc
      have e6 := hD.f 2 rfl hi
      try dsimp only at hc
      rw [hi, e6] at hc
      have hf := he.h0
      refine stAl (cs := [.slice none 0 0, .slice none 0 0]) hf hc rfl rfl zr_25 rfl fun b_4 a w hf hc => ?_
      refine cNil ?_
      refine xThenN ?_
      intro ds u hau
      replace hc := hc.drop k2
      replace hc := hc.pick k0
      replace hc := hc.pick k1
      refine ⟨(setT θ 32 ⟨b_4, none, 0⟩), he.put hi hau hf rfl [] trivial ⟨qq, qq, qq, qq, qq, qq, qq, qq, qq, qq, qq, qq, qq, trivial⟩, ?_⟩
      try dsimp only
      rw [updE_self E 4, updE_fls 4 e6 rfl]
      exact hc
    · intro E θ a w hD hi hp he hc
      have e7 := hD.f 3 rfl hi
      try dsimp only at hc
      rw [hi, e7] at hc
      have hf := he.h0
      refine stAl (cs := [.slice none 0 0, .slice none 0 0]) hf hc rfl rfl zr_25 rfl fun b_5 a w hf hc => ?_
      refine cNil ?_
      refine xThenN ?_
      intro ds u hau
      replace hc := hc.drop k1
      refine ⟨(setT θ 40 ⟨b_5, none, 0⟩), he.put hi hau hf rfl [] trivial ⟨qq, qq, qq, qq, qq, qq, qq, qq, qq, qq, qq, qq, qq, trivial⟩, ?_⟩
      try dsimp only
      rw [updE_self E 5, updE_fls 5 e7 rfl]
      exact hc
    · intro E θ a w hD hi hp he hc
      have e1 := hp.of (k := 1) rfl
      have e4 := hp.of (k := 4) rfl
      try dsimp only at hc
      rw [e4, hi] at hc
      have hf := he.h0
      replace hf := hf.more he 8 rfl (onP e1)
      replace hf := hf.more he 11 rfl (onP e4)
      refine stSt (vs := [.slice ((θ 8).p) r_5.Rating.length ((θ 8).c), .slice ((θ 9).p) r_5.Gaugings.length ((θ 9).c)]) hf hc rfl rfl rfl rfl sz_25 rfl rfl u1 fun w hc => ?_
      refine cNil ?_
      refine xThenN ?_
      intro ds u hau
      refine ⟨θ, he.stay0 hi hau hf rfl, ?_⟩
      try dsimp only
      rw [updE_tru 6 e4, updE_self E 6]
      exact hc
    · intro E θ a w hD hi hp he hc
      have e3 := hp.of (k := 3) rfl
      have e5 := hp.of (k := 5) rfl
      try dsimp only at hc
      rw [e5, hi] at hc
      have hf := he.h0
      replace hf := hf.more he 10 rfl (onP e3)
      replace hf := hf.more he 12 rfl (onP e5)
      refine stSt (vs := [.slice ((θ 24).p) r_6.Rating.length ((θ 24).c), .slice ((θ 25).p) r_6.Gaugings.length ((θ 25).c)]) hf hc rfl rfl rfl rfl sz_25 rfl rfl u0 fun w hc => ?_
      refine cNil ?_
      refine xThenN ?_
      intro ds u hau
      refine ⟨θ, he.stay0 hi hau hf rfl, ?_⟩
      try dsimp only
      rw [updE_tru 7 e5, updE_self E 7]
      exact hc
    · intro E θ a w hall he hc
      have hf := he.h0
      have e1 := hall 1 rfl
      have e3 := hall 3 rfl
      have e4 := hall 4 rfl
      have e5 := hall 5 rfl
      have e6 := hall 6 rfl
      have e7 := hall 7 rfl
      replace hf := hf.more he 12 rfl (onP e5)
      replace hf := hf.more he 11 rfl (onP e4)
      replace hf := hf.more he 6 rfl (onT)
      replace hf := hf.more he 5 rfl (onT)
      replace hf := hf.more he 4 rfl (onT)
      replace hf := hf.more he 3 rfl (onT)
      replace hf := hf.more he 2 rfl (onT)
      replace hf := hf.more he 1 rfl (onT)
      replace hf := hf.more he 0 rfl (onT)
      try dsimp only at hc
      rw [e1, e3, e4, e5, e6, e7] at hc
      exact ⟨(θ 32).b, (θ 40).b, (θ 24).p, (θ 24).c, (θ 25).p, (θ 25).c, (θ 8).p, (θ 8).c, (θ 9).p, (θ 9).c, hf.keep ⟨rfl, rfl, rfl, rfl, rfl, rfl, rfl, rfl, rfl, trivial⟩, hc⟩
    rintro a w ⟨b_6, b_7, p_10, c_10, p_11, c_11, p_12, c_12, p_13, c_13, hf, hc⟩
    refine h10 _ _ ?_
    refine wp_seq_k fun K11 h11 => ?_
    refine cReg ?_
    refine stP hf rfl rfl rfl (pA rfl) fun a hf => ?_
    refine cNil ?_
    refine h11 _ _ ?_
    refine wp_seq_k fun K12 h12 => ?_
    refine wp_seq_k fun K13 h13 => ?_
    refine cReg ?_
    refine stP hf rfl rfl rfl (pFA fa_25_1 rfl) fun a hf => ?_
    refine stE hf hc rfl rfl rfl (eLd1 sc_23 rfl (cell_box m1 rfl)) fun a w hf hc => ?_
    refine stP hf rfl rfl rfl (pLenS Try.underlying23 rfl) fun a hf => ?_
    refine stP hf rfl rfl rfl (pM rfl) fun a hf => ?_
    refine cNil ?_
    refine h13 _ _ ?_
    refine wp_block ?_
    obtain ⟨x14, hx14, hF⟩ := bnd_some hF
    let S14 : (Int × Int × Int × Int × (List shift_Gauging)) → Act → World → Prop := (fun (zz : Int × Int × Int × Int × (List shift_Gauging)) a w => ∃ (p_14 : Option Addr) (c_14 : Nat), Has 228 a [(2, .int .u8 which), (9, .pointer (some ⟨b_2, 0, none⟩)), (11, .pointer (some ⟨b_3, 0, none⟩)), (13, .int .i64 r_3.2.1), (14, .int .i64 r_4.2), (15, .int .i64 (min 18000 (W (r_3.2.1 + ((W (more)).tmod 20))))), (16, .slice p_5 r_4.1.length c_5), (17, .pointer (some ⟨b_6, 0, none⟩)), (18, .pointer (some ⟨b_7, 0, none⟩)), (19, .int .i64 zz.1), (71, .int .i64 ((r_5.Gaugings.length : Nat) : Int)), (72, .int .i64 zz.2.1)] ∧ Ctx G (.box b_7 [.slice p_10 r_6.Rating.length c_10, .slice p_11 r_6.Gaugings.length c_11] 25 :: .box b_6 [.slice p_12 r_5.Rating.length c_12, .slice p_14 zz.2.2.2.2.length c_14] 25 :: .row p_11 c_11 (r_6.Gaugings.map enc_shift_Gauging) 71 4 :: .row p_10 c_10 (r_6.Rating.map enc_shift_Mark) 77 2 :: .row p_14 c_14 (zz.2.2.2.2.map enc_shift_Gauging) 71 4 :: .row p_12 c_12 (r_5.Rating.map enc_shift_Mark) 77 2 :: .row p_1 c_1 (r_1.1.Rating.map enc_shift_Mark) 77 2 :: .row p_2 c_2 (r_1.1.Gaugings.map enc_shift_Gauging) 71 4 :: .row p_5 c_5 (r_4.1.map enc_api_Span) 50 2 :: .box b_3 [.slice days_p days.length days_c, .int .i64 zz.2.2.1, .int .i64 zz.2.2.2.1] 151 :: .box b_2 [.slice p_1 r_1.1.Rating.length c_1, .slice p_2 r_1.1.Gaugings.length c_2] 25 :: Lf) w)
    have hr14 : ∀ (zz : Int × Int × Int × Int × (List shift_Gauging)) a w, x14 = .go zz → S14 zz a w → K12 a w := by
      rintro ⟨day, x, x_1, x_2, x_3⟩ a w rfl ⟨p_14, c_14, hf, hc⟩
      replace hF : _ = some res := hF
      refine h12 _ _ ?_
      refine wp_seq_k fun K15 h15 => ?_
      refine cReg ?_
      refine stP hf rfl rfl rfl (pFA fa_25_1 rfl) fun a hf => ?_
      refine stE hf hc rfl rfl rfl (eLd1 sc_23 rfl (cell_box m0 rfl)) fun a w hf hc => ?_
      obtain ⟨r_7, hr_7, hF⟩ := bnd_some hF
      refine stC (vs := [.slice p_11 r_6.Gaugings.length c_11]) (caps := []) hf rfl rfl rfl en_42 rfl rfl rfl rfl (slices_Reverse_Lshift_Gauging_shift_Gauging_ok r_6.Gaugings (hc.pick k2) hr_7) ?_
      rintro _ w ⟨rfl, hl, hc⟩
      refine ⟨_, rfl, fun a hf => ?_⟩
      try rw [← hl] at hf
      try rw [← hl] at hc
      refine cNil ?_
      refine h15 _ _ ?_
      refine wp_seq_k fun K16 h16 => ?_
      refine wp_seq_k fun K17 h17 => ?_
      refine cReg ?_
      refine stP hf rfl rfl rfl (pFA fa_25_1 rfl) fun a hf => ?_
      refine stE hf hc rfl rfl rfl (eLd1 sc_23 rfl (cell_box m1 rfl)) fun a w hf hc => ?_
      refine stP hf rfl rfl rfl (pLenS Try.underlying23 rfl) fun a hf => ?_
      refine stP hf rfl rfl rfl (pM rfl) fun a hf => ?_
      refine cNil ?_
      refine h17 _ _ ?_
      refine wp_block ?_
      obtain ⟨x18, hx18, hF⟩ := bnd_some hF
      let S18 : (Int × (List shift_Gauging)) → Act → World → Prop := (fun (zz : Int × (List shift_Gauging)) a w => ∃ (p_15 : Option Addr) (c_15 : Nat), Has 228 a [(2, .int .u8 which), (9, .pointer (some ⟨b_2, 0, none⟩)), (13, .int .i64 r_3.2.1), (14, .int .i64 r_4.2), (15, .int .i64 (min 18000 (W (r_3.2.1 + ((W (more)).tmod 20))))), (16, .slice p_5 r_4.1.length c_5), (17, .pointer (some ⟨b_6, 0, none⟩)), (18, .pointer (some ⟨b_7, 0, none⟩)), (91, .int .i64 ((r_7.length : Nat) : Int)), (92, .int .i64 zz.1)] ∧ Ctx G (.row p_15 c_15 (zz.2.map enc_shift_Gauging) 71 4 :: .box b_7 [.slice p_10 r_6.Rating.length c_10, .slice p_15 zz.2.length c_15] 25 :: .box b_6 [.slice p_12 r_5.Rating.length c_12, .slice p_14 x_3.length c_14] 25 :: .row p_10 c_10 (r_6.Rating.map enc_shift_Mark) 77 2 :: .row p_14 c_14 (x_3.map enc_shift_Gauging) 71 4 :: .row p_12 c_12 (r_5.Rating.map enc_shift_Mark) 77 2 :: .row p_1 c_1 (r_1.1.Rating.map enc_shift_Mark) 77 2 :: .row p_2 c_2 (r_1.1.Gaugings.map enc_shift_Gauging) 71 4 :: .row p_5 c_5 (r_4.1.map enc_api_Span) 50 2 :: .box b_2 [.slice p_1 r_1.1.Rating.length c_1, .slice p_2 r_1.1.Gaugings.length c_2] 25 :: Lf) w)
      have hr18 : ∀ (zz : Int × (List shift_Gauging)) a w, x18 = .go zz → S18 zz a w → K16 a w := by
        rintro ⟨x_4, x_5⟩ a w rfl ⟨p_15, c_15, hf, hc⟩
        replace hF : _ = some res := hF
        refine h16 _ _ ?_
        refine wp_seq_k fun K19 h19 => ?_
        refine cReg ?_
        refine stE hf hc rfl rfl rfl (eLdN (vs := [.slice p_12 r_5.Rating.length c_12, .slice p_14 x_3.length c_14]) ag_25 rfl rfl (cells_box (n := 2) m2 rfl)) fun a w hf hc => ?_
        refine stP hf rfl rfl rfl (pM rfl) fun a hf => ?_
        obtain ⟨r_8, hr_8, hF⟩ := bnd_some hF
        obtain ⟨G1, hle1, hrd1, hc, hth1⟩ := lend hc k5
        obtain ⟨G2, hle2, hrd2, hc, hth2⟩ := lend hc k4
        refine stC (vs := [.agg #[.slice p_12 r_5.Rating.length c_12, .slice p_14 x_3.length c_14], .int .i64 (min 18000 (W (r_3.2.1 + ((W (more)).tmod 20))))]) (caps := []) hf rfl rfl rfl en_27 rfl rfl rfl rfl (shift_Can_ok (⟨r_5.Rating, x_3⟩ : shift_Record) (min 18000 (W (r_3.2.1 + ((W (more)).tmod 20)))) (hrd1.mono hle2) hrd2 hc hr_8) ?_
        rintro _ w ⟨p_16, c_16, rfl, hc⟩
        refine ⟨_, rfl, fun a hf => ?_⟩
        replace hc := hth2 _ _ hc
        replace hc := hth1 _ _ hc
        refine stP hf rfl rfl rfl (pM rfl) fun a hf => ?_
        refine stP hf rfl rfl rfl (pX rfl rfl) fun a hf => ?_
        refine stP hf rfl rfl rfl (pX rfl rfl) fun a hf => ?_
        refine stP hf rfl rfl rfl (pA rfl) fun a hf => ?_
        refine stP hf rfl rfl rfl (pA rfl) fun a hf => ?_
        refine cNil ?_
        refine h19 _ _ ?_
        refine wp_seq_k fun K20 h20 => ?_
        refine cReg ?_
        refine stE hf hc rfl rfl rfl (eLdN (vs := [.slice p_10 r_6.Rating.length c_10, .slice p_15 x_5.length c_15]) ag_25 rfl rfl (cells_box (n := 2) m4 rfl)) fun a w hf hc => ?_
        refine stP hf rfl rfl rfl (pM rfl) fun a hf => ?_
        obtain ⟨r_9, hr_9, hF⟩ := bnd_some hF
        obtain ⟨G1, hle1, hrd1, hc, hth1⟩ := lend hc k6
        obtain ⟨G2, hle2, hrd2, hc, hth2⟩ := lend hc k3
        refine stC (vs := [.agg #[.slice p_10 r_6.Rating.length c_10, .slice p_15 x_5.length c_15], .int .i64 (min 18000 (W (r_3.2.1 + ((W (more)).tmod 20))))]) (caps := []) hf rfl rfl rfl en_27 rfl rfl rfl rfl (shift_Can_ok (⟨r_6.Rating, x_5⟩ : shift_Record) (min 18000 (W (r_3.2.1 + ((W (more)).tmod 20)))) (hrd1.mono hle2) hrd2 hc hr_9) ?_
        rintro _ w ⟨p_17, c_17, rfl, hc⟩
        refine ⟨_, rfl, fun a hf => ?_⟩
        replace hc := hth2 _ _ hc
        replace hc := hth1 _ _ hc
        refine stP hf rfl rfl rfl (pM rfl) fun a hf => ?_
        refine stP hf rfl rfl rfl (pX rfl rfl) fun a hf => ?_
        refine stP hf rfl rfl rfl (pX rfl rfl) fun a hf => ?_
        refine stP hf rfl rfl rfl (pA rfl) fun a hf => ?_
        refine stP hf rfl rfl rfl (pA rfl) fun a hf => ?_
        refine cNil ?_
        refine h20 _ _ ?_
        refine wp_seq_k fun K21 h21 => ?_
        refine wp_seq_k fun K22 h22 => ?_
        refine cReg ?_
        refine stP hf rfl rfl rfl (pM rfl) fun a hf => ?_
        refine stP hf rfl rfl rfl (pNe rfl rfl) fun a hf => ?_
        refine stP hf rfl rfl rfl (pM rfl) fun a hf => ?_
        refine stCut 3 (fun a w => Has 228 a [(2, .int .u8 which), (9, .pointer (some ⟨b_2, 0, none⟩)), (13, .int .i64 r_3.2.1), (14, .int .i64 r_4.2), (15, .int .i64 (min 18000 (W (r_3.2.1 + ((W (more)).tmod 20))))), (16, .slice p_5 r_4.1.length c_5), (22, .slice p_16 r_8.1.length c_16), (23, .int .i64 r_8.2), (24, .slice p_17 r_9.1.length c_17), (25, .int .i64 r_9.2), (114, .int .i64 r_4.2), (115, .bool (r_4.2 != 0)), (116, .bool (r_4.2 != 0)), (119, .bool ((r_4.2 != 0) || (r_8.2 != 0)))] ∧ Ctx G (.row p_10 c_10 (r_6.Rating.map enc_shift_Mark) 77 2 :: .row p_15 c_15 (x_5.map enc_shift_Gauging) 71 4 :: .row p_17 c_17 (r_9.1.map enc_api_Span) 50 2 :: .row p_12 c_12 (r_5.Rating.map enc_shift_Mark) 77 2 :: .row p_14 c_14 (x_3.map enc_shift_Gauging) 71 4 :: .row p_16 c_16 (r_8.1.map enc_api_Span) 50 2 :: .box b_7 [.slice p_10 r_6.Rating.length c_10, .slice p_15 x_5.length c_15] 25 :: .box b_6 [.slice p_12 r_5.Rating.length c_12, .slice p_14 x_3.length c_14] 25 :: .row p_1 c_1 (r_1.1.Rating.map enc_shift_Mark) 77 2 :: .row p_2 c_2 (r_1.1.Gaugings.map enc_shift_Gauging) 71 4 :: .row p_5 c_5 (r_4.1.map enc_api_Span) 50 2 :: .box b_2 [.slice p_1 r_1.1.Rating.length c_1, .slice p_2 r_1.1.Gaugings.length c_2] 25 :: Lf) w) ?_ ?_
        · cases hb : (r_4.2 != 0)
          · rw [hb] at hf
            refine stP hf rfl rfl rfl (pM rfl) fun a hf => ?_
            refine stP hf rfl rfl rfl (pNe rfl rfl) fun a hf => ?_
            refine stP hf rfl rfl rfl (pPf rfl rfl) fun a hf => ?_
            exact cNil ⟨hf.keep ⟨rfl, rfl, rfl, rfl, rfl, rfl, rfl, rfl, rfl, rfl, rfl, rfl, rfl, rfl, trivial⟩, hc⟩
          · rw [hb] at hf
            refine stS hf rfl rfl rfl fun a hf => ?_
            refine stS hf rfl rfl rfl fun a hf => ?_
            refine stP hf rfl rfl rfl (pPt rfl rfl) fun a hf => ?_
            exact cNil ⟨hf.keep ⟨rfl, rfl, rfl, rfl, rfl, rfl, rfl, rfl, rfl, rfl, rfl, rfl, rfl, rfl, trivial⟩, hc⟩
        intro a w ⟨hf, hc⟩
        refine stP hf rfl rfl rfl (pM rfl) fun a hf => ?_
        refine stCut 3 (fun a w => Has 228 a [(2, .int .u8 which), (9, .pointer (some ⟨b_2, 0, none⟩)), (13, .int .i64 r_3.2.1), (14, .int .i64 r_4.2), (15, .int .i64 (min 18000 (W (r_3.2.1 + ((W (more)).tmod 20))))), (16, .slice p_5 r_4.1.length c_5), (22, .slice p_16 r_8.1.length c_16), (23, .int .i64 r_8.2), (24, .slice p_17 r_9.1.length c_17), (25, .int .i64 r_9.2), (114, .int .i64 r_4.2), (115, .bool (r_4.2 != 0)), (116, .bool (r_4.2 != 0)), (119, .bool ((r_4.2 != 0) || (r_8.2 != 0))), (120, .bool ((r_4.2 != 0) || (r_8.2 != 0))), (123, .bool (((r_4.2 != 0) || (r_8.2 != 0)) || (r_9.2 != 0)))] ∧ Ctx G (.row p_10 c_10 (r_6.Rating.map enc_shift_Mark) 77 2 :: .row p_15 c_15 (x_5.map enc_shift_Gauging) 71 4 :: .row p_17 c_17 (r_9.1.map enc_api_Span) 50 2 :: .row p_12 c_12 (r_5.Rating.map enc_shift_Mark) 77 2 :: .row p_14 c_14 (x_3.map enc_shift_Gauging) 71 4 :: .row p_16 c_16 (r_8.1.map enc_api_Span) 50 2 :: .box b_7 [.slice p_10 r_6.Rating.length c_10, .slice p_15 x_5.length c_15] 25 :: .box b_6 [.slice p_12 r_5.Rating.length c_12, .slice p_14 x_3.length c_14] 25 :: .row p_1 c_1 (r_1.1.Rating.map enc_shift_Mark) 77 2 :: .row p_2 c_2 (r_1.1.Gaugings.map enc_shift_Gauging) 71 4 :: .row p_5 c_5 (r_4.1.map enc_api_Span) 50 2 :: .box b_2 [.slice p_1 r_1.1.Rating.length c_1, .slice p_2 r_1.1.Gaugings.length c_2] 25 :: Lf) w) ?_ ?_
        · cases hb : ((r_4.2 != 0) || (r_8.2 != 0))
          · rw [hb] at hf
            refine stP hf rfl rfl rfl (pM rfl) fun a hf => ?_
            refine stP hf rfl rfl rfl (pNe rfl rfl) fun a hf => ?_
            refine stP hf rfl rfl rfl (pPf rfl rfl) fun a hf => ?_
            exact cNil ⟨hf.keep ⟨rfl, rfl, rfl, rfl, rfl, rfl, rfl, rfl, rfl, rfl, rfl, rfl, rfl, rfl, rfl, rfl, trivial⟩, hc⟩
          · rw [hb] at hf
            refine stS hf rfl rfl rfl fun a hf => ?_
            refine stS hf rfl rfl rfl fun a hf => ?_
            refine stP hf rfl rfl rfl (pPt rfl rfl) fun a hf => ?_
            exact cNil ⟨hf.keep ⟨rfl, rfl, rfl, rfl, rfl, rfl, rfl, rfl, rfl, rfl, rfl, rfl, rfl, rfl, rfl, rfl, trivial⟩, hc⟩
        intro a w ⟨hf, hc⟩
        refine stP hf rfl rfl rfl (pM rfl) fun a hf => ?_
        obtain ⟨t_1, ht_1, hF⟩ := bnd_some hF
        refine stCut 5 (fun a w => Has 228 a [(2, .int .u8 which), (9, .pointer (some ⟨b_2, 0, none⟩)), (13, .int .i64 r_3.2.1), (14, .int .i64 r_4.2), (15, .int .i64 (min 18000 (W (r_3.2.1 + ((W (more)).tmod 20))))), (16, .slice p_5 r_4.1.length c_5), (22, .slice p_16 r_8.1.length c_16), (23, .int .i64 r_8.2), (24, .slice p_17 r_9.1.length c_17), (25, .int .i64 r_9.2), (114, .int .i64 r_4.2), (115, .bool (r_4.2 != 0)), (116, .bool (r_4.2 != 0)), (119, .bool ((r_4.2 != 0) || (r_8.2 != 0))), (120, .bool ((r_4.2 != 0) || (r_8.2 != 0))), (123, .bool (((r_4.2 != 0) || (r_8.2 != 0)) || (r_9.2 != 0))), (124, .bool (((r_4.2 != 0) || (r_8.2 != 0)) || (r_9.2 != 0))), (129, .bool t_1)] ∧ Ctx G (.row p_10 c_10 (r_6.Rating.map enc_shift_Mark) 77 2 :: .row p_15 c_15 (x_5.map enc_shift_Gauging) 71 4 :: .row p_17 c_17 (r_9.1.map enc_api_Span) 50 2 :: .row p_12 c_12 (r_5.Rating.map enc_shift_Mark) 77 2 :: .row p_14 c_14 (x_3.map enc_shift_Gauging) 71 4 :: .row p_16 c_16 (r_8.1.map enc_api_Span) 50 2 :: .box b_7 [.slice p_10 r_6.Rating.length c_10, .slice p_15 x_5.length c_15] 25 :: .box b_6 [.slice p_12 r_5.Rating.length c_12, .slice p_14 x_3.length c_14] 25 :: .row p_1 c_1 (r_1.1.Rating.map enc_shift_Mark) 77 2 :: .row p_2 c_2 (r_1.1.Gaugings.map enc_shift_Gauging) 71 4 :: .row p_5 c_5 (r_4.1.map enc_api_Span) 50 2 :: .box b_2 [.slice p_1 r_1.1.Rating.length c_1, .slice p_2 r_1.1.Gaugings.length c_2] 25 :: Lf) w) ?_ ?_
        · cases hb : (((r_4.2 != 0) || (r_8.2 != 0)) || (r_9.2 != 0))
          · rw [hb] at hf
            have hF := condF hb ht_1
            refine stP hf rfl rfl rfl (pM rfl) fun a hf => ?_
            refine stP hf rfl rfl rfl (pM rfl) fun a hf => ?_
            obtain ⟨r_10, hr_10, hF⟩ := bnd_some hF
            refine stE hf hc rfl rfl rfl (eC (v := .bool r_10) (vs := [.slice p_5 r_4.1.length c_5, .slice p_16 r_8.1.length c_16]) (caps := []) en_24 rfl rfl rfl rfl (fun w hc => by obtain ⟨G1, hle1, hrd1, hc, hth1⟩ := lend hc k10; obtain ⟨G2, hle2, hrd2, hc, hth2⟩ := lend hc k5; exact (kit_Same_api_Span_ok r_4.1 r_8.1 (hrd1.mono hle2) hrd2 hc hr_10).mono fun e w h => ⟨h.1, ((hth1 _ _ ((hth2 _ _ h.2).unpick k5)).unpick k10)⟩)) fun a w hf hc => ?_
            refine stP hf rfl rfl rfl (pNot rfl) fun a hf => ?_
            refine stP hf rfl rfl rfl (pPf rfl rfl) fun a hf => ?_
            obtain rfl := Option.some.inj hF
            exact cNil ⟨hf.keep ⟨rfl, rfl, rfl, rfl, rfl, rfl, rfl, rfl, rfl, rfl, rfl, rfl, rfl, rfl, rfl, rfl, rfl, rfl, trivial⟩, hc⟩
          · rw [hb] at hf
            have hF := condT hb ht_1
            obtain rfl := Option.some.inj hF
            refine stS hf rfl rfl rfl fun a hf => ?_
            refine stS hf rfl rfl rfl fun a hf => ?_
            refine stS hf rfl rfl rfl fun a hf => ?_
            refine stS hf rfl rfl rfl fun a hf => ?_
            refine stP hf rfl rfl rfl (pPt rfl rfl) fun a hf => ?_
            exact cNil ⟨hf.keep ⟨rfl, rfl, rfl, rfl, rfl, rfl, rfl, rfl, rfl, rfl, rfl, rfl, rfl, rfl, rfl, rfl, rfl, rfl, trivial⟩, hc⟩
        intro a w ⟨hf, hc⟩
        refine cNil ?_
        refine h22 _ _ ?_
        refine cCond (b := t_1) hf rfl (fun hb => ?_) (fun hb => ?_)
        · replace hF := condT hb hF
          clear hb
          refine wp_seq_k fun K23 h23 => ?_
          refine cReg ?_
          refine stP hf rfl rfl rfl (pA rfl) fun a hf => ?_
          refine cNil ?_
          refine h23 _ _ ?_
          refine wp_ret ?_
          refine xThenR ?_
          obtain rfl := Option.some.inj hF
          replace hc := hc.drop k11
          replace hc := hc.drop k10
          replace hc := hc.drop k9
          replace hc := hc.drop k8
          replace hc := hc.drop k7
          replace hc := hc.drop k6
          replace hc := hc.drop k5
          replace hc := hc.drop k4
          replace hc := hc.drop k3
          replace hc := hc.drop k2
          replace hc := hc.drop k1
          replace hc := hc.drop k0
          exact fnOut1 (by simp) rfl Try.results8 hf hc (show look _ 8 = _ from rfl) ⟨rfl, hc⟩
        · replace hF := condF hb hF
          clear hb
          refine wp_skip ?_
          refine h21 _ _ ?_
          refine wp_seq_k fun K24 h24 => ?_
          refine cReg ?_
          refine stP hf rfl rfl rfl (pM rfl) fun a hf => ?_
          obtain ⟨r_11, hr_11, hF⟩ := bnd_some hF
          refine stC (vs := [.slice p_17 r_9.1.length c_17]) (caps := []) hf rfl rfl rfl en_43 rfl rfl rfl rfl (slices_Reverse_Lapi_Span_api_Span_ok r_9.1 (hc.pick k2) hr_11) ?_
          rintro _ w ⟨rfl, hl_1, hc⟩
          refine ⟨_, rfl, fun a hf => ?_⟩
          try rw [← hl_1] at hf
          try rw [← hl_1] at hc
          refine cNil ?_
          refine h24 _ _ ?_
          refine wp_seq_k fun K25 h25 => ?_
          refine wp_seq_k fun K26 h26 => ?_
          refine cReg ?_
          refine stP hf rfl rfl rfl (pM rfl) fun a hf => ?_
          refine stP hf rfl rfl rfl (pM rfl) fun a hf => ?_
          obtain ⟨r_12, hr_12, hF⟩ := bnd_some hF
          refine stE hf hc rfl rfl rfl (eC (v := .bool r_12) (vs := [.slice p_5 r_4.1.length c_5, .slice p_17 r_11.length c_17]) (caps := []) en_24 rfl rfl rfl rfl (fun w hc => by obtain ⟨G1, hle1, hrd1, hc, hth1⟩ := lend hc k10; obtain ⟨G2, hle2, hrd2, hc, hth2⟩ := lend hc k0; exact (kit_Same_api_Span_ok r_4.1 r_11 (hrd1.mono hle2) hrd2 hc hr_12).mono fun e w h => ⟨h.1, ((hth1 _ _ ((hth2 _ _ h.2).unpick k0)).unpick k10)⟩)) fun a w hf hc => ?_
          refine stP hf rfl rfl rfl (pNot rfl) fun a hf => ?_
          refine cNil ?_
          refine h26 _ _ ?_
          refine cCond (b := (!r_12)) hf rfl (fun hb => ?_) (fun hb => ?_)
          · replace hF := condT hb hF
            clear hb
            refine wp_seq_k fun K27 h27 => ?_
            refine cReg ?_
            refine stP hf rfl rfl rfl (pA rfl) fun a hf => ?_
            refine cNil ?_
            refine h27 _ _ ?_
            refine wp_ret ?_
            refine xThenR ?_
            obtain rfl := Option.some.inj hF
            replace hc := hc.drop k11
            replace hc := hc.drop k10
            replace hc := hc.drop k9
            replace hc := hc.drop k8
            replace hc := hc.drop k7
            replace hc := hc.drop k6
            replace hc := hc.drop k5
            replace hc := hc.drop k4
            replace hc := hc.drop k3
            replace hc := hc.drop k2
            replace hc := hc.drop k1
            replace hc := hc.drop k0
            exact fnOut1 (by simp) rfl Try.results8 hf hc (show look _ 8 = _ from rfl) ⟨rfl, hc⟩
          · replace hF := condF hb hF
            clear hb
            refine wp_skip ?_
            refine h25 _ _ ?_
            refine wp_seq_k fun K28 h28 => ?_
            refine wp_seq_k fun K29 h29 => ?_
            refine cReg ?_
            refine stP hf rfl rfl rfl (pFA fa_25_1 rfl) fun a hf => ?_
            refine stE hf hc rfl rfl rfl (eLd1 sc_23 rfl (cell_box m11 rfl)) fun a w hf hc => ?_
            refine stP hf rfl rfl rfl (pLenS Try.underlying23 rfl) fun a hf => ?_
            refine stP hf rfl rfl rfl (pEq rfl rfl) fun a hf => ?_
            refine cNil ?_
            refine h29 _ _ ?_
            refine cCond (b := (((r_1.1.Gaugings.length : Nat) : Int) == 1)) hf rfl (fun hb => ?_) (fun hb => ?_)
            · replace hF := condT hb hF
              clear hb
              refine wp_seq_k fun K30 h30 => ?_
              refine cReg ?_
              refine stP hf rfl rfl rfl (pM rfl) fun a hf => ?_
              refine stP hf rfl rfl rfl (pEq rfl rfl) fun a hf => ?_
              refine stP hf rfl rfl rfl (pM rfl) fun a hf => ?_
              obtain ⟨t_2, ht_2, hF⟩ := bnd_some hF
              refine stCut 2 (fun a w => Has 228 a [(13, .int .i64 r_3.2.1), (140, .int .i64 r_3.2.1), (141, .bool (r_3.2.1 == 0)), (142, .bool (r_3.2.1 == 0)), (144, .bool t_2)] ∧ Ctx G (.row p_17 c_17 (r_11.map enc_api_Span) 50 2 :: .row p_10 c_10 (r_6.Rating.map enc_shift_Mark) 77 2 :: .row p_15 c_15 (x_5.map enc_shift_Gauging) 71 4 :: .row p_12 c_12 (r_5.Rating.map enc_shift_Mark) 77 2 :: .row p_14 c_14 (x_3.map enc_shift_Gauging) 71 4 :: .row p_16 c_16 (r_8.1.map enc_api_Span) 50 2 :: .box b_7 [.slice p_10 r_6.Rating.length c_10, .slice p_15 x_5.length c_15] 25 :: .box b_6 [.slice p_12 r_5.Rating.length c_12, .slice p_14 x_3.length c_14] 25 :: .row p_1 c_1 (r_1.1.Rating.map enc_shift_Mark) 77 2 :: .row p_2 c_2 (r_1.1.Gaugings.map enc_shift_Gauging) 71 4 :: .row p_5 c_5 (r_4.1.map enc_api_Span) 50 2 :: .box b_2 [.slice p_1 r_1.1.Rating.length c_1, .slice p_2 r_1.1.Gaugings.length c_2] 25 :: Lf) w) ?_ ?_
              · cases hb : (r_3.2.1 == 0)
                · rw [hb] at hf
                  have hF := condF hb ht_2
                  obtain rfl := Option.some.inj hF
                  refine stS hf rfl rfl rfl fun a hf => ?_
                  refine stP hf rfl rfl rfl (pPf rfl rfl) fun a hf => ?_
                  exact cNil ⟨hf.keep ⟨rfl, rfl, rfl, rfl, rfl, trivial⟩, hc⟩
                · rw [hb] at hf
                  have hF := condT hb ht_2
                  obtain ⟨r_13, hr_13, hF⟩ := bnd_some hF
                  refine stE hf hc rfl rfl rfl (eC (v := .bool r_13) (vs := []) (caps := []) en_12 rfl rfl rfl rfl (fun w hc => law05_awake_ok hc hr_13)) fun a w hf hc => ?_
                  refine stP hf rfl rfl rfl (pPt rfl rfl) fun a hf => ?_
                  obtain rfl := Option.some.inj hF
                  exact cNil ⟨hf.keep ⟨rfl, rfl, rfl, rfl, rfl, trivial⟩, hc⟩
              intro a w ⟨hf, hc⟩
              refine stP hf rfl rfl rfl (pA rfl) fun a hf => ?_
              refine cNil ?_
              refine h30 _ _ ?_
              refine wp_ret ?_
              refine xThenR ?_
              obtain rfl := Option.some.inj hF
              replace hc := hc.drop k11
              replace hc := hc.drop k10
              replace hc := hc.drop k9
              replace hc := hc.drop k8
              replace hc := hc.drop k7
              replace hc := hc.drop k6
              replace hc := hc.drop k5
              replace hc := hc.drop k4
              replace hc := hc.drop k3
              replace hc := hc.drop k2
              replace hc := hc.drop k1
              replace hc := hc.drop k0
              exact fnOut1 (by simp) rfl Try.results8 hf hc (show look _ 8 = _ from rfl) ⟨rfl, hc⟩
            · replace hF := condF hb hF
              clear hb
              refine wp_skip ?_
              refine h28 _ _ ?_
              refine wp_seq_k fun K31 h31 => ?_
              refine cReg ?_
              refine stP hf rfl rfl rfl (pM rfl) fun a hf => ?_
              refine stP hf rfl rfl rfl (pCv Try.underlying5 Try.underlying3 rfl) fun a hf => ?_
              refine stP hf rfl rfl rfl (pFA fa_25_1 rfl) fun a hf => ?_
              refine stE hf hc rfl rfl rfl (eLd1 sc_23 rfl (cell_box m11 rfl)) fun a w hf hc => ?_
              refine stP hf rfl rfl rfl (pLenS Try.underlying23 rfl) fun a hf => ?_
              obtain ⟨un, hun, hF⟩ := bnd_some hF
              refine stP hf rfl rfl rfl (pRem rfl rfl (nz_spec hun)) fun a hf => ?_
              refine stP hf rfl rfl rfl (pA rfl) fun a hf => ?_
              refine cNil ?_
              refine h31 _ _ ?_
              refine wp_seq_k fun K32 h32 => ?_
              refine cReg ?_
              refine stE hf hc rfl rfl rfl (eLdN (vs := [.slice p_1 r_1.1.Rating.length c_1, .slice p_2 r_1.1.Gaugings.length c_2]) ag_25 rfl rfl (cells_box (n := 2) m11 rfl)) fun a w hf hc => ?_
              obtain ⟨r_14, hr_14, hF⟩ := bnd_some hF
              obtain ⟨G1, hle1, hrd1, hc, hth1⟩ := lend hc k8
              obtain ⟨G2, hle2, hrd2, hc, hth2⟩ := lend hc k8
              refine stC (vs := [.agg #[.slice p_1 r_1.1.Rating.length c_1, .slice p_2 r_1.1.Gaugings.length c_2]]) (caps := []) hf rfl rfl rfl en_13 rfl rfl rfl rfl (law05_CopyRecord_ok r_1.1 (hrd1.mono hle2) hrd2 hc hr_14) ?_
              rintro _ w ⟨p_18, c_18, p_19, c_19, rfl, hc⟩
              refine ⟨_, rfl, fun a hf => ?_⟩
              replace hc := hth2 _ _ hc
              replace hc := hth1 _ _ hc
              refine stAl (cs := [.slice none 0 0, .slice none 0 0]) hf hc rfl rfl zr_25 rfl fun b_8 a w hf hc => ?_
              refine stSt (vs := [.slice p_18 r_14.Rating.length c_18, .slice p_19 r_14.Gaugings.length c_19]) hf hc rfl rfl rfl rfl sz_25 rfl rfl u0 fun w hc => ?_
              refine cNil ?_
              refine h32 _ _ ?_
              refine wp_seq_k fun K33 h33 => ?_
              refine cReg ?_
              refine stP hf rfl rfl rfl (pFA fa_25_1 rfl) fun a hf => ?_
              refine stE hf hc rfl rfl rfl (eLd1 sc_23 rfl (cell_box m0 rfl)) fun a w hf hc => ?_
              refine stP hf rfl rfl rfl (pM rfl) fun a hf => ?_
              refine stP hf rfl rfl rfl (pM rfl) fun a hf => ?_
              refine stP hf rfl rfl rfl (pAdd rfl rfl) fun a hf => ?_
              obtain ⟨r_15, hr_15, hF⟩ := bnd_some hF
              refine stC (vs := [.slice p_19 r_14.Gaugings.length c_19, .int .i64 ((W (which)).tmod ((r_1.1.Gaugings.length : Nat) : Int)), .int .i64 (W (((W (which)).tmod ((r_1.1.Gaugings.length : Nat) : Int)) + 1))]) (caps := []) hf rfl rfl rfl en_44 rfl rfl rfl rfl (slices_Delete_Lshift_Gauging_shift_Gauging_ok r_14.Gaugings ((W (which)).tmod ((r_1.1.Gaugings.length : Nat) : Int)) (W (((W (which)).tmod ((r_1.1.Gaugings.length : Nat) : Int)) + 1)) (hc.pick k4) hr_15) ?_
              rintro _ w ⟨p_20, c_20, rfl, hc⟩
              refine ⟨_, rfl, fun a hf => ?_⟩
              refine stP hf rfl rfl rfl (pFA fa_25_1 rfl) fun a hf => ?_
              refine stSt (vs := [.slice p_20 r_15.length c_20]) hf hc rfl rfl rfl rfl sz_23 rfl rfl u1 fun w hc => ?_
              refine cNil ?_
              refine h33 _ _ ?_
              refine wp_seq_k fun K34 h34 => ?_
              refine cReg ?_
              refine stE hf hc rfl rfl rfl (eLdN (vs := [.slice p_18 r_14.Rating.length c_18, .slice p_20 r_15.length c_20]) ag_25 rfl rfl (cells_box (n := 2) m1 rfl)) fun a w hf hc => ?_
              obtain ⟨r_16, hr_16, hF⟩ := bnd_some hF
              obtain ⟨G1, hle1, hrd1, hc, hth1⟩ := lend hc k4
              obtain ⟨G2, hle2, hrd2, hc, hth2⟩ := lend hc k0
              refine stC (vs := [.agg #[.slice p_18 r_14.Rating.length c_18, .slice p_20 r_15.length c_20]]) (caps := []) hf rfl rfl rfl en_33 rfl rfl rfl rfl (shift_Least_ok (⟨r_14.Rating, r_15⟩ : shift_Record) (hrd1.mono hle2) hrd2 hc hr_16) ?_
              rintro _ w ⟨p_21, c_21, rfl, hc⟩
              refine ⟨_, rfl, fun a hf => ?_⟩
              replace hc := hth2 _ _ hc
              replace hc := hth1 _ _ hc
              refine stP hf rfl rfl rfl (pM rfl) fun a hf => ?_
              refine stP hf rfl rfl rfl (pX rfl rfl) fun a hf => ?_
              refine stP hf rfl rfl rfl (pX rfl rfl) fun a hf => ?_
              refine stP hf rfl rfl rfl (pX rfl rfl) fun a hf => ?_
              refine stP hf rfl rfl rfl (pA rfl) fun a hf => ?_
              refine stP hf rfl rfl rfl (pA rfl) fun a hf => ?_
              refine stP hf rfl rfl rfl (pA rfl) fun a hf => ?_
              refine cNil ?_
              refine h34 _ _ ?_
              refine wp_seq_k fun K35 h35 => ?_
              refine cReg ?_
              refine stE hf hc rfl rfl rfl (eLdN (vs := [.slice p_18 r_14.Rating.length c_18, .slice p_20 r_15.length c_20]) ag_25 rfl rfl (cells_box (n := 2) m3 rfl)) fun a w hf hc => ?_
              refine stP hf rfl rfl rfl (pM rfl) fun a hf => ?_
              obtain ⟨r_17, hr_17, hF⟩ := bnd_some hF
              obtain ⟨G1, hle1, hrd1, hc, hth1⟩ := lend hc k0
              obtain ⟨G2, hle2, hrd2, hc, hth2⟩ := lend hc k0
              refine stC (vs := [.agg #[.slice p_18 r_14.Rating.length c_18, .slice p_20 r_15.length c_20], .int .i64 (min 18000 (W (r_3.2.1 + ((W (more)).tmod 20))))]) (caps := []) hf rfl rfl rfl en_27 rfl rfl rfl rfl (shift_Can_ok (⟨r_14.Rating, r_15⟩ : shift_Record) (min 18000 (W (r_3.2.1 + ((W (more)).tmod 20)))) (hrd1.mono hle2) hrd2 hc hr_17) ?_
              rintro _ w ⟨p_22, c_22, rfl, hc⟩
              refine ⟨_, rfl, fun a hf => ?_⟩
              replace hc := hth2 _ _ hc
              replace hc := hth1 _ _ hc
              refine stP hf rfl rfl rfl (pM rfl) fun a hf => ?_
              refine stP hf rfl rfl rfl (pX rfl rfl) fun a hf => ?_
              refine stP hf rfl rfl rfl (pX rfl rfl) fun a hf => ?_
              refine stP hf rfl rfl rfl (pA rfl) fun a hf => ?_
              refine stP hf rfl rfl rfl (pA rfl) fun a hf => ?_
              refine cNil ?_
              refine h35 _ _ ?_
              refine wp_seq_k fun K36 h36 => ?_
              refine wp_seq_k fun K37 h37 => ?_
              refine cReg ?_
              refine stP hf rfl rfl rfl (pM rfl) fun a hf => ?_
              refine stP hf rfl rfl rfl (pNe rfl rfl) fun a hf => ?_
              refine stP hf rfl rfl rfl (pM rfl) fun a hf => ?_
              refine stCut 3 (fun a w => Has 228 a [(13, .int .i64 r_3.2.1), (14, .int .i64 r_16.2.2), (16, .slice p_5 r_4.1.length c_5), (23, .int .i64 r_17.2), (26, .int .i64 ((W (which)).tmod ((r_1.1.Gaugings.length : Nat) : Int))), (29, .int .i64 r_16.2.1), (30, .slice p_22 r_17.1.length c_22), (172, .int .i64 r_16.2.2), (173, .bool (r_16.2.2 != 0)), (174, .bool (r_16.2.2 != 0)), (177, .bool ((r_16.2.2 != 0) || (r_17.2 != 0)))] ∧ Ctx G (.row p_18 c_18 (r_14.Rating.map enc_shift_Mark) 77 2 :: .row p_20 c_20 (r_15.map enc_shift_Gauging) 71 4 :: .row p_22 c_22 (r_17.1.map enc_api_Span) 50 2 :: .row p_21 c_21 (r_16.1.map encI_i64) 3 1 :: .box b_8 [.slice p_18 r_14.Rating.length c_18, .slice p_20 r_15.length c_20] 25 :: .row p_1 c_1 (r_1.1.Rating.map enc_shift_Mark) 77 2 :: .row p_2 c_2 (r_1.1.Gaugings.map enc_shift_Gauging) 71 4 :: .row p_17 c_17 (r_11.map enc_api_Span) 50 2 :: .row p_10 c_10 (r_6.Rating.map enc_shift_Mark) 77 2 :: .row p_15 c_15 (x_5.map enc_shift_Gauging) 71 4 :: .row p_12 c_12 (r_5.Rating.map enc_shift_Mark) 77 2 :: .row p_14 c_14 (x_3.map enc_shift_Gauging) 71 4 :: .row p_16 c_16 (r_8.1.map enc_api_Span) 50 2 :: .box b_7 [.slice p_10 r_6.Rating.length c_10, .slice p_15 x_5.length c_15] 25 :: .box b_6 [.slice p_12 r_5.Rating.length c_12, .slice p_14 x_3.length c_14] 25 :: .row p_5 c_5 (r_4.1.map enc_api_Span) 50 2 :: .box b_2 [.slice p_1 r_1.1.Rating.length c_1, .slice p_2 r_1.1.Gaugings.length c_2] 25 :: Lf) w) ?_ ?_
              · cases hb : (r_16.2.2 != 0)
                · rw [hb] at hf
                  refine stP hf rfl rfl rfl (pM rfl) fun a hf => ?_
                  refine stP hf rfl rfl rfl (pNe rfl rfl) fun a hf => ?_
                  refine stP hf rfl rfl rfl (pPf rfl rfl) fun a hf => ?_
                  exact cNil ⟨hf.keep ⟨rfl, rfl, rfl, rfl, rfl, rfl, rfl, rfl, rfl, rfl, rfl, trivial⟩, hc⟩
                · rw [hb] at hf
                  refine stS hf rfl rfl rfl fun a hf => ?_
                  refine stS hf rfl rfl rfl fun a hf => ?_
                  refine stP hf rfl rfl rfl (pPt rfl rfl) fun a hf => ?_
                  exact cNil ⟨hf.keep ⟨rfl, rfl, rfl, rfl, rfl, rfl, rfl, rfl, rfl, rfl, rfl, trivial⟩, hc⟩
              intro a w ⟨hf, hc⟩
              refine stP hf rfl rfl rfl (pM rfl) fun a hf => ?_
              refine stCut 4 (fun a w => Has 228 a [(13, .int .i64 r_3.2.1), (14, .int .i64 r_16.2.2), (16, .slice p_5 r_4.1.length c_5), (23, .int .i64 r_17.2), (26, .int .i64 ((W (which)).tmod ((r_1.1.Gaugings.length : Nat) : Int))), (29, .int .i64 r_16.2.1), (30, .slice p_22 r_17.1.length c_22), (172, .int .i64 r_16.2.2), (173, .bool (r_16.2.2 != 0)), (174, .bool (r_16.2.2 != 0)), (177, .bool ((r_16.2.2 != 0) || (r_17.2 != 0))), (178, .bool ((r_16.2.2 != 0) || (r_17.2 != 0))), (182, .bool (((r_16.2.2 != 0) || (r_17.2 != 0)) || (decide (r_3.2.1 < r_16.2.1))))] ∧ Ctx G (.row p_18 c_18 (r_14.Rating.map enc_shift_Mark) 77 2 :: .row p_20 c_20 (r_15.map enc_shift_Gauging) 71 4 :: .row p_22 c_22 (r_17.1.map enc_api_Span) 50 2 :: .row p_21 c_21 (r_16.1.map encI_i64) 3 1 :: .box b_8 [.slice p_18 r_14.Rating.length c_18, .slice p_20 r_15.length c_20] 25 :: .row p_1 c_1 (r_1.1.Rating.map enc_shift_Mark) 77 2 :: .row p_2 c_2 (r_1.1.Gaugings.map enc_shift_Gauging) 71 4 :: .row p_17 c_17 (r_11.map enc_api_Span) 50 2 :: .row p_10 c_10 (r_6.Rating.map enc_shift_Mark) 77 2 :: .row p_15 c_15 (x_5.map enc_shift_Gauging) 71 4 :: .row p_12 c_12 (r_5.Rating.map enc_shift_Mark) 77 2 :: .row p_14 c_14 (x_3.map enc_shift_Gauging) 71 4 :: .row p_16 c_16 (r_8.1.map enc_api_Span) 50 2 :: .box b_7 [.slice p_10 r_6.Rating.length c_10, .slice p_15 x_5.length c_15] 25 :: .box b_6 [.slice p_12 r_5.Rating.length c_12, .slice p_14 x_3.length c_14] 25 :: .row p_5 c_5 (r_4.1.map enc_api_Span) 50 2 :: .box b_2 [.slice p_1 r_1.1.Rating.length c_1, .slice p_2 r_1.1.Gaugings.length c_2] 25 :: Lf) w) ?_ ?_
              · cases hb : ((r_16.2.2 != 0) || (r_17.2 != 0))
                · rw [hb] at hf
                  refine stP hf rfl rfl rfl (pM rfl) fun a hf => ?_
                  refine stP hf rfl rfl rfl (pM rfl) fun a hf => ?_
                  refine stP hf rfl rfl rfl (pGt rfl rfl) fun a hf => ?_
                  refine stP hf rfl rfl rfl (pPf rfl rfl) fun a hf => ?_
                  exact cNil ⟨hf.keep ⟨rfl, rfl, rfl, rfl, rfl, rfl, rfl, rfl, rfl, rfl, rfl, rfl, rfl, trivial⟩, hc⟩
                · rw [hb] at hf
                  refine stS hf rfl rfl rfl fun a hf => ?_
                  refine stS hf rfl rfl rfl fun a hf => ?_
                  refine stS hf rfl rfl rfl fun a hf => ?_
                  refine stP hf rfl rfl rfl (pPt rfl rfl) fun a hf => ?_
                  exact cNil ⟨hf.keep ⟨rfl, rfl, rfl, rfl, rfl, rfl, rfl, rfl, rfl, rfl, rfl, rfl, rfl, trivial⟩, hc⟩
              intro a w ⟨hf, hc⟩
              refine stP hf rfl rfl rfl (pM rfl) fun a hf => ?_
              refine stCut 7 (fun a w => Has 228 a [(13, .int .i64 r_3.2.1), (14, .int .i64 r_16.2.2), (16, .slice p_5 r_4.1.length c_5), (23, .int .i64 r_17.2), (26, .int .i64 ((W (which)).tmod ((r_1.1.Gaugings.length : Nat) : Int))), (29, .int .i64 r_16.2.1), (30, .slice p_22 r_17.1.length c_22), (172, .int .i64 r_16.2.2), (173, .bool (r_16.2.2 != 0)), (174, .bool (r_16.2.2 != 0)), (177, .bool ((r_16.2.2 != 0) || (r_17.2 != 0))), (178, .bool ((r_16.2.2 != 0) || (r_17.2 != 0))), (182, .bool (((r_16.2.2 != 0) || (r_17.2 != 0)) || (decide (r_3.2.1 < r_16.2.1)))), (183, .bool (((r_16.2.2 != 0) || (r_17.2 != 0)) || (decide (r_3.2.1 < r_16.2.1)))), (190, .bool ((((r_16.2.2 != 0) || (r_17.2 != 0)) || (decide (r_3.2.1 < r_16.2.1))) || (((r_17.1.length : Nat) : Int) != (W (((r_4.1.length : Nat) : Int) - 1)))))] ∧ Ctx G (.row p_18 c_18 (r_14.Rating.map enc_shift_Mark) 77 2 :: .row p_20 c_20 (r_15.map enc_shift_Gauging) 71 4 :: .row p_22 c_22 (r_17.1.map enc_api_Span) 50 2 :: .row p_21 c_21 (r_16.1.map encI_i64) 3 1 :: .box b_8 [.slice p_18 r_14.Rating.length c_18, .slice p_20 r_15.length c_20] 25 :: .row p_1 c_1 (r_1.1.Rating.map enc_shift_Mark) 77 2 :: .row p_2 c_2 (r_1.1.Gaugings.map enc_shift_Gauging) 71 4 :: .row p_17 c_17 (r_11.map enc_api_Span) 50 2 :: .row p_10 c_10 (r_6.Rating.map enc_shift_Mark) 77 2 :: .row p_15 c_15 (x_5.map enc_shift_Gauging) 71 4 :: .row p_12 c_12 (r_5.Rating.map enc_shift_Mark) 77 2 :: .row p_14 c_14 (x_3.map enc_shift_Gauging) 71 4 :: .row p_16 c_16 (r_8.1.map enc_api_Span) 50 2 :: .box b_7 [.slice p_10 r_6.Rating.length c_10, .slice p_15 x_5.length c_15] 25 :: .box b_6 [.slice p_12 r_5.Rating.length c_12, .slice p_14 x_3.length c_14] 25 :: .row p_5 c_5 (r_4.1.map enc_api_Span) 50 2 :: .box b_2 [.slice p_1 r_1.1.Rating.length c_1, .slice p_2 r_1.1.Gaugings.length c_2] 25 :: Lf) w) ?_ ?_
              · cases hb : (((r_16.2.2 != 0) || (r_17.2 != 0)) || (decide (r_3.2.1 < r_16.2.1)))
                · rw [hb] at hf
                  refine stP hf rfl rfl rfl (pM rfl) fun a hf => ?_
                  refine stP hf rfl rfl rfl (pLenS Try.underlying44 rfl) fun a hf => ?_
                  refine stP hf rfl rfl rfl (pM rfl) fun a hf => ?_
                  refine stP hf rfl rfl rfl (pLenS Try.underlying44 rfl) fun a hf => ?_
                  refine stP hf rfl rfl rfl (pSub rfl rfl) fun a hf => ?_
                  refine stP hf rfl rfl rfl (pNe rfl rfl) fun a hf => ?_
                  refine stP hf rfl rfl rfl (pPf rfl rfl) fun a hf => ?_
                  exact cNil ⟨hf.keep ⟨rfl, rfl, rfl, rfl, rfl, rfl, rfl, rfl, rfl, rfl, rfl, rfl, rfl, rfl, rfl, trivial⟩, hc⟩
                · rw [hb] at hf
                  refine stS hf rfl rfl rfl fun a hf => ?_
                  refine stS hf rfl rfl rfl fun a hf => ?_
                  refine stS hf rfl rfl rfl fun a hf => ?_
                  refine stS hf rfl rfl rfl fun a hf => ?_
                  refine stS hf rfl rfl rfl fun a hf => ?_
                  refine stS hf rfl rfl rfl fun a hf => ?_
                  refine stP hf rfl rfl rfl (pPt rfl rfl) fun a hf => ?_
                  exact cNil ⟨hf.keep ⟨rfl, rfl, rfl, rfl, rfl, rfl, rfl, rfl, rfl, rfl, rfl, rfl, rfl, rfl, rfl, trivial⟩, hc⟩
              intro a w ⟨hf, hc⟩
              refine cNil ?_
              refine h37 _ _ ?_
              refine cCond (b := ((((r_16.2.2 != 0) || (r_17.2 != 0)) || (decide (r_3.2.1 < r_16.2.1))) || (((r_17.1.length : Nat) : Int) != (W (((r_4.1.length : Nat) : Int) - 1))))) hf rfl (fun hb => ?_) (fun hb => ?_)
              · replace hF := condT hb hF
                clear hb
                refine wp_seq_k fun K38 h38 => ?_
                refine cReg ?_
                refine stP hf rfl rfl rfl (pA rfl) fun a hf => ?_
                refine cNil ?_
                refine h38 _ _ ?_
                refine wp_ret ?_
                refine xThenR ?_
                obtain rfl := Option.some.inj hF
                replace hc := hc.drop k16
                replace hc := hc.drop k15
                replace hc := hc.drop k14
                replace hc := hc.drop k13
                replace hc := hc.drop k12
                replace hc := hc.drop k11
                replace hc := hc.drop k10
                replace hc := hc.drop k9
                replace hc := hc.drop k8
                replace hc := hc.drop k7
                replace hc := hc.drop k6
                replace hc := hc.drop k5
                replace hc := hc.drop k4
                replace hc := hc.drop k3
                replace hc := hc.drop k2
                replace hc := hc.drop k1
                replace hc := hc.drop k0
                exact fnOut1 (by simp) rfl Try.results8 hf hc (show look _ 8 = _ from rfl) ⟨rfl, hc⟩
              · replace hF := condF hb hF
                clear hb
                refine wp_skip ?_
                refine h36 _ _ ?_
                refine wp_seq_k fun K39 h39 => ?_
                refine wp_seq_k fun K40 h40 => ?_
                refine cReg ?_
                refine stP hf rfl rfl rfl (pM rfl) fun a hf => ?_
                refine stP hf rfl rfl rfl (pLenS Try.underlying44 rfl) fun a hf => ?_
                refine stP hf rfl rfl rfl (pM rfl) fun a hf => ?_
                refine cNil ?_
                refine h40 _ _ ?_
                refine wp_block ?_
                obtain ⟨x41, hx41, hF⟩ := bnd_some hF
                let S41 : Int → Act → World → Prop := (fun (zz : Int) a w => ∃ (p_23 : Option Addr) (c_23 : Nat) (p_24 : Option Addr) (c_24 : Nat), Has 228 a [(16, .slice p_23 r_4.1.length c_23), (26, .int .i64 ((W (which)).tmod ((r_1.1.Gaugings.length : Nat) : Int))), (30, .slice p_24 r_17.1.length c_24), (192, .int .i64 ((r_17.1.length : Nat) : Int)), (193, .int .i64 zz)] ∧ Ctx G (.row p_24 c_24 (r_17.1.map enc_api_Span) 50 2 :: .row p_23 c_23 (r_4.1.map enc_api_Span) 50 2 :: Lf) w)
                have hr41 : ∀ (zz : Int) a w, x41 = .go zz → S41 zz a w → K39 a w := by
                  rintro x_6 a w rfl ⟨p_23, c_23, p_24, c_24, hf, hc⟩
                  replace hF : _ = some res := hF
                  refine h39 _ _ ?_
                  refine wp_seq_k fun K42 h42 => ?_
                  refine cReg ?_
                  obtain ⟨r_18, hr_18, hF⟩ := bnd_some hF
                  refine stE hf hc rfl rfl rfl (eC (v := .bool r_18) (vs := []) (caps := []) en_12 rfl rfl rfl rfl (fun w hc => law05_awake_ok hc hr_18)) fun a w hf hc => ?_
                  refine stP hf rfl rfl rfl (pA rfl) fun a hf => ?_
                  refine cNil ?_
                  refine h42 _ _ ?_
                  refine wp_ret ?_
                  obtain rfl := Option.some.inj hF
                  replace hc := hc.drop k1
                  replace hc := hc.drop k0
                  exact fnOut1 (by simp) rfl Try.results8 hf hc (show look _ 8 = _ from rfl) ⟨rfl, hc⟩
                have ho41 : ∀ r, x41 = .out r → r = res := by
                  rintro r rfl
                  exact Option.some.inj hF
                replace hc := hc.drop k16
                replace hc := hc.drop k14
                replace hc := hc.drop k13
                replace hc := hc.drop k12
                replace hc := hc.drop k11
                replace hc := hc.drop k10
                replace hc := hc.drop k9
                replace hc := hc.drop k8
                replace hc := hc.drop k7
                replace hc := hc.drop k6
                replace hc := hc.drop k5
                replace hc := hc.drop k4
                replace hc := hc.drop k3
                replace hc := hc.drop k1
                replace hc := hc.drop k0
                refine cLoop N (loopW (S := S41) (x := x41) ?_ N 0 _ _ ⟨p_5, c_5, p_22, c_22, hf.keep ⟨rfl, rfl, rfl, rfl, rfl, trivial⟩, hc⟩ hx41)
                clear hF hf hc
                rintro x_6 st41 a w KB41 ⟨p_23, c_23, p_24, c_24, hf, hc⟩ hF hfin41 hK41
                unfold law05_ShiftMore_b41 at hF
                refine wp_seq_k fun K43 h43 => ?_
                refine cReg ?_
                refine stP hf rfl rfl rfl (pLt rfl rfl) fun a hf => ?_
                refine cNil ?_
                refine h43 _ _ ?_
                refine wp_seq_k fun K44 h44 => ?_
                refine cCond (b := (decide (x_6 < ((r_17.1.length : Nat) : Int)))) hf rfl (fun hb => ?_) (fun hb => ?_)
                · replace hF := condT hb hF
                  clear hb
                  refine wp_skip ?_
                  refine h44 _ _ ?_
                  refine wp_seq_k fun K45 h45 => ?_
                  refine wp_block ?_
                  refine wp_seq_k fun K46 h46 => ?_
                  refine cReg ?_
                  refine stP hf rfl rfl rfl (pM rfl) fun a hf => ?_
                  refine stP hf rfl rfl rfl (pA rfl) fun a hf => ?_
                  refine cNil ?_
                  refine h46 _ _ ?_
                  refine wp_seq_k fun K47 h47 => ?_
                  refine cReg ?_
                  refine stP hf rfl rfl rfl (pM rfl) fun a hf => ?_
                  refine stP hf rfl rfl rfl (pM rfl) fun a hf => ?_
                  obtain ⟨e_1, he_1, hF⟩ := bnd_some hF
                  obtain ⟨g, rfl, qa, qr⟩ := row_atm hc m1 he_1
                  refine stP hf rfl rfl rfl (pIA Try.underlying44 sz_50 rfl rfl qa) fun a hf => ?_
                  refine stE hf hc rfl rfl rfl (eLdN (vs := [.int .i64 e_1.Lo, .int .i64 e_1.Hi]) ag_50 rfl rfl (cells_rw (sz := 2) (i := x_6.toNat) m1 qr (n := 2) (o' := 0) rfl)) fun a w hf hc => ?_
                  refine stAl (cs := [.int .i64 0, .int .i64 0]) hf hc rfl rfl zr_50 rfl fun b_9 a w hf hc => ?_
                  refine stSt (vs := [.int .i64 e_1.Lo, .int .i64 e_1.Hi]) hf hc rfl rfl rfl rfl sz_50 rfl rfl u0 fun w hc => ?_
                  refine cNil ?_
                  refine h47 _ _ ?_
                  refine wp_seq_k fun K48 h48 => ?_
                  have hj48 : ∀ (x_7 : Int) (x_8 : Int) a w, Has 228 a [(16, .slice (some ⟨g, 0, none⟩) r_4.1.length c_23), (26, .int .i64 ((W (which)).tmod ((r_1.1.Gaugings.length : Nat) : Int))), (30, .slice p_24 r_17.1.length c_24), (31, .int .i64 x_6), (32, .pointer (some ⟨b_9, 0, none⟩)), (192, .int .i64 ((r_17.1.length : Nat) : Int)), (193, .int .i64 x_6)] → Ctx G (.box b_9 [.int .i64 x_7, .int .i64 x_8] 50 :: .row p_24 c_24 (r_17.1.map enc_api_Span) 50 2 :: .row (some ⟨g, 0, none⟩) c_23 (r_4.1.map enc_api_Span) 50 2 :: Lf) w → law05_ShiftMore_j48 N r_17 x_6 x_7 x_8 = some st41 → K48 a w := by
                    intro x_7 x_8 a w hf hc hF
                    unfold law05_ShiftMore_j48 at hF
                    refine h48 _ _ ?_
                    refine wp_seq_k fun K49 h49 => ?_
                    obtain ⟨e_2, he_2, hF⟩ := bnd_some hF
                    obtain ⟨g_1, rfl, qa_1, qr_1⟩ := row_atm hc m1 he_2
                    obtain ⟨t_3, ht_3, hF⟩ := bnd_some hF
                    refine cQ hc follows_mx (by kernel_rfl) ?_
                    refine qE hf rfl rfl rfl (Pu.ev (pM rfl)) fun a hf => ?_
                    refine qE hf rfl rfl rfl (Pu.ev (pM rfl)) fun a hf => ?_
                    refine qE hf rfl rfl rfl (Pu.ev (pIA Try.underlying44 sz_50 rfl rfl qa_1)) fun a hf => ?_
                    refine qE hf rfl rfl rfl (Pu.ev (pFA fa_50_0 rfl)) fun a hf => ?_
                    refine qE hf rfl rfl rfl (eLd1 sc_3 rfl (cell_row (sz := 2) (i := x_6.toNat) (j := 0) m1 qr_1 rfl)) fun a hf => ?_
                    refine qE hf rfl rfl rfl (Pu.ev (pFA fa_50_0 rfl)) fun a hf => ?_
                    refine qE hf rfl rfl rfl (eLd1 sc_3 rfl (cell_box m0 rfl)) fun a hf => ?_
                    refine qE hf rfl rfl rfl (Pu.ev (pGt rfl rfl)) fun a hf => ?_
                    refine qE hf rfl rfl rfl (Pu.ev (pM rfl)) fun a hf => ?_
                    refine qCut 9 (fun a => Has 228 a [(16, .slice (some ⟨g, 0, none⟩) r_4.1.length c_23), (26, .int .i64 ((W (which)).tmod ((r_1.1.Gaugings.length : Nat) : Int))), (30, .slice (some ⟨g_1, 0, none⟩) r_17.1.length c_24), (31, .int .i64 x_6), (32, .pointer (some ⟨b_9, 0, none⟩)), (192, .int .i64 ((r_17.1.length : Nat) : Int)), (193, .int .i64 x_6), (208, .slice (some ⟨g_1, 0, none⟩) r_17.1.length c_24), (209, .int .i64 x_6), (210, .pointer (some ⟨g_1, x_6.toNat * 2, none⟩)), (211, .pointer (some ⟨g_1, x_6.toNat * 2 + 0, none⟩)), (212, .int .i64 e_2.Lo), (213, .pointer (some ⟨b_9, 0, none⟩)), (214, .int .i64 x_7), (215, .bool (decide (x_7 < e_2.Lo))), (216, .bool (decide (x_7 < e_2.Lo))), (225, .bool t_3)]) ?_ ?_
                    · cases hb : (decide (x_7 < e_2.Lo))
                      · rw [hb] at hf
                        have hF := condF hb ht_3
                        obtain ⟨e_3, he_3, hF⟩ := bnd_some hF
                        obtain ⟨qa_2, qr_2⟩ := row_atk hc m1 he_3
                        refine qE hf rfl rfl rfl (Pu.ev (pM rfl)) fun a hf => ?_
                        refine qE hf rfl rfl rfl (Pu.ev (pM rfl)) fun a hf => ?_
                        refine qE hf rfl rfl rfl (Pu.ev (pIA Try.underlying44 sz_50 rfl rfl qa_2)) fun a hf => ?_
                        refine qE hf rfl rfl rfl (Pu.ev (pFA fa_50_1 rfl)) fun a hf => ?_
                        refine qE hf rfl rfl rfl (eLd1 sc_3 rfl (cell_row (sz := 2) (i := x_6.toNat) (j := 1) m1 qr_2 rfl)) fun a hf => ?_
                        refine qE hf rfl rfl rfl (Pu.ev (pFA fa_50_1 rfl)) fun a hf => ?_
                        refine qE hf rfl rfl rfl (eLd1 sc_3 rfl (cell_box m0 rfl)) fun a hf => ?_
                        refine qE hf rfl rfl rfl (Pu.ev (pLt rfl rfl)) fun a hf => ?_
                        refine qE hf rfl rfl rfl (Pu.ev (pPf rfl rfl)) fun a hf => ?_
                        obtain rfl := Option.some.inj hF
                        exact qNil (hf.keep ⟨rfl, rfl, rfl, rfl, rfl, rfl, rfl, rfl, rfl, rfl, rfl, rfl, rfl, rfl, rfl, rfl, rfl, trivial⟩)
                      · rw [hb] at hf
                        have hF := condT hb ht_3
                        obtain rfl := Option.some.inj hF
                        refine qS hf rfl rfl rfl fun a hf => ?_
                        refine qS hf rfl rfl rfl fun a hf => ?_
                        refine qS hf rfl rfl rfl fun a hf => ?_
                        refine qS hf rfl rfl rfl fun a hf => ?_
                        refine qS hf rfl rfl rfl fun a hf => ?_
                        refine qS hf rfl rfl rfl fun a hf => ?_
                        refine qS hf rfl rfl rfl fun a hf => ?_
                        refine qS hf rfl rfl rfl fun a hf => ?_
                        refine qE hf rfl rfl rfl (Pu.ev (pPt rfl rfl)) fun a hf => ?_
                        exact qNil (hf.keep ⟨rfl, rfl, rfl, rfl, rfl, rfl, rfl, rfl, rfl, rfl, rfl, rfl, rfl, rfl, rfl, rfl, rfl, trivial⟩)
                    intro a hf
                    intro w hc
                    refine h49 _ _ ?_
                    refine cCond (b := t_3) hf rfl (fun hb => ?_) (fun hb => ?_)
                    · replace hF := condT hb hF
                      clear hb
                      refine wp_seq_k fun K50 h50 => ?_
                      refine cReg ?_
                      refine stP hf rfl rfl rfl (pA rfl) fun a hf => ?_
                      refine cNil ?_
                      refine h50 _ _ ?_
                      refine wp_ret ?_
                      refine xBlkR ?_
                      refine xThenR ?_
                      refine xThenR ?_
                      have he := Option.some.inj hF
                      rw [← he] at hfin41
                      replace hF := ho41 _ hfin41
                      refine xBlkR ?_
                      refine xThenR ?_
                      obtain rfl := hF
                      replace hc := hc.drop k2
                      replace hc := hc.drop k1
                      replace hc := hc.drop k0
                      exact fnOut1 (by simp) rfl Try.results8 hf hc (show look _ 8 = _ from rfl) ⟨rfl, hc⟩
                    · replace hF := condF hb hF
                      clear hb
                      refine wp_skip ?_
                      refine h45 _ _ ?_
                      refine cReg ?_
                      refine stP hf rfl rfl rfl (pAdd rfl rfl) fun a hf => ?_
                      refine stP hf rfl rfl rfl (pM rfl) fun a hf => ?_
                      refine cNil ?_
                      replace hc := hc.drop k0
                      exact hK41 (W (x_6 + 1)) _ _ (Option.some.inj hF).symm ⟨(some ⟨g, 0, none⟩), c_23, (some ⟨g_1, 0, none⟩), c_24, hf.keep ⟨rfl, rfl, rfl, rfl, rfl, trivial⟩, hc⟩
                  refine wp_seq_k fun K51 h51 => ?_
                  refine cReg ?_
                  refine stP hf rfl rfl rfl (pM rfl) fun a hf => ?_
                  refine stP hf rfl rfl rfl (pM rfl) fun a hf => ?_
                  refine stP hf rfl rfl rfl (pGe rfl rfl) fun a hf => ?_
                  refine cNil ?_
                  refine h51 _ _ ?_
                  refine cCond (b := (decide (((W (which)).tmod ((r_1.1.Gaugings.length : Nat) : Int)) ≤ x_6))) hf rfl (fun hb => ?_) (fun hb => ?_)
                  · replace hF := condT hb hF
                    clear hb
                    refine cReg ?_
                    refine stP hf rfl rfl rfl (pM rfl) fun a hf => ?_
                    refine stP hf rfl rfl rfl (pM rfl) fun a hf => ?_
                    refine stP hf rfl rfl rfl (pAdd rfl rfl) fun a hf => ?_
                    obtain ⟨e_4, he_4, hF⟩ := bnd_some hF
                    obtain ⟨qa_3, qr_3⟩ := row_atk hc m2 he_4
                    refine stP hf rfl rfl rfl (pIA Try.underlying44 sz_50 rfl rfl qa_3) fun a hf => ?_
                    refine stE hf hc rfl rfl rfl (eLdN (vs := [.int .i64 e_4.Lo, .int .i64 e_4.Hi]) ag_50 rfl rfl (cells_rw (sz := 2) (i := (W (x_6 + 1)).toNat) m2 qr_3 (n := 2) (o' := 0) rfl)) fun a w hf hc => ?_
                    refine stSt (vs := [.int .i64 e_4.Lo, .int .i64 e_4.Hi]) hf hc rfl rfl rfl rfl sz_50 rfl rfl u0 fun w hc => ?_
                    refine cNil ?_
                    exact hj48 e_4.Lo e_4.Hi _ _  (hf.keep ⟨rfl, rfl, rfl, rfl, rfl, rfl, rfl, trivial⟩) hc hF
                  · replace hF := condF hb hF
                    clear hb
                    refine wp_skip ?_
                    exact hj48 e_1.Lo e_1.Hi _ _  (hf.keep ⟨rfl, rfl, rfl, rfl, rfl, rfl, rfl, trivial⟩) hc hF
                · replace hF := condF hb hF
                  clear hb
                  refine wp_exit ?_
                  refine xThen ?_
                  refine xThen ?_
                  have he := Option.some.inj hF
                  rw [← he] at hfin41
                  refine cHit ?_
                  exact hr41 _ _ _ hfin41 ⟨p_23, c_23, p_24, c_24, hf.keep ⟨rfl, rfl, rfl, rfl, rfl, trivial⟩, hc⟩
      have ho18 : ∀ r, x18 = .out r → r = res := by
        rintro r rfl
        exact Option.some.inj hF
      replace hc := hc.drop k9
      refine cLoop N (loopW (S := S18) (x := x18) ?_ N (0, r_7) _ _ ⟨p_11, c_11, hf.keep ⟨rfl, rfl, rfl, rfl, rfl, rfl, rfl, rfl, rfl, rfl, trivial⟩, hc⟩ hx18)
      clear hF hf hc
      rintro ⟨x_4, x_5⟩ st18 a w KB18 ⟨p_15, c_15, hf, hc⟩ hF hfin18 hK18
      unfold law05_ShiftMore_b18 at hF
      refine wp_seq_k fun K52 h52 => ?_
      refine cReg ?_
      refine stP hf rfl rfl rfl (pLt rfl rfl) fun a hf => ?_
      refine cNil ?_
      refine h52 _ _ ?_
      refine wp_seq_k fun K53 h53 => ?_
      refine cCond (b := (decide (x_4 < ((r_7.length : Nat) : Int)))) hf rfl (fun hb => ?_) (fun hb => ?_)
      · replace hF := condT hb hF
        clear hb
        refine wp_skip ?_
        refine h53 _ _ ?_
        refine wp_seq_k fun K54 h54 => ?_
        refine wp_block ?_
        refine wp_seq_k fun K55 h55 => ?_
        refine cReg ?_
        refine stP hf rfl rfl rfl (pM rfl) fun a hf => ?_
        refine stP hf rfl rfl rfl (pA rfl) fun a hf => ?_
        refine cNil ?_
        refine h55 _ _ ?_
        refine cReg ?_
        refine stP hf rfl rfl rfl (pFA fa_25_1 rfl) fun a hf => ?_
        refine stE hf hc rfl rfl rfl (eLd1 sc_23 rfl (cell_box m1 rfl)) fun a w hf hc => ?_
        refine stP hf rfl rfl rfl (pM rfl) fun a hf => ?_
        refine stP hf rfl rfl rfl (pM rfl) fun a hf => ?_
        obtain ⟨e_5, he_5, hF⟩ := bnd_some hF
        obtain ⟨g_2, rfl, qa_4, qr_4⟩ := row_atm hc m0 he_5
        refine stP hf rfl rfl rfl (pIA Try.underlying23 sz_71 rfl rfl qa_4) fun a hf => ?_
        refine stP hf rfl rfl rfl (pFA fa_71_0 rfl) fun a hf => ?_
        refine stRw (vs := [.int .i64 x_4]) (o' := 0) (z := (⟨x_4, e_5.Stage, e_5.Flow⟩ : shift_Gauging)) (xs := x_5) hf hc rfl rfl rfl rfl sz_3 rfl (fun x => (one_enc_shift_Gauging x).1) (getI_lt he_5) (fun e' he' => by cases (he'.symm.trans (getI_spec he_5).2); rfl) rfl u0 fun w hc => ?_
        refine cNil ?_
        refine h54 _ _ ?_
        refine cReg ?_
        refine stP hf rfl rfl rfl (pAdd rfl rfl) fun a hf => ?_
        refine stP hf rfl rfl rfl (pM rfl) fun a hf => ?_
        refine cNil ?_
        rw [(by simp : x_5.length = (x_5.set x_4.toNat (⟨x_4, e_5.Stage, e_5.Flow⟩ : shift_Gauging)).length)] at hc
        exact hK18 (W (x_4 + 1), (x_5.set x_4.toNat (⟨x_4, e_5.Stage, e_5.Flow⟩ : shift_Gauging))) _ _ (Option.some.inj hF).symm ⟨(some ⟨g_2, 0, none⟩), c_15, hf.keep ⟨rfl, rfl, rfl, rfl, rfl, rfl, rfl, rfl, rfl, rfl, trivial⟩, hc⟩
      · replace hF := condF hb hF
        clear hb
        refine wp_exit ?_
        refine xThen ?_
        refine xThen ?_
        have he := Option.some.inj hF
        rw [← he] at hfin18
        refine cHit ?_
        exact hr18 _ _ _ hfin18 ⟨p_15, c_15, hf.keep ⟨rfl, rfl, rfl, rfl, rfl, rfl, rfl, rfl, rfl, rfl, trivial⟩, hc⟩
    have ho14 : ∀ r, x14 = .out r → r = res := by
      rintro r rfl
      exact Option.some.inj hF
    replace hc := hc.drop k13
    replace hc := hc.drop k12
    replace hc := hc.drop k9
    refine cLoop N (loopW (S := S14) (x := x14) ?_ N (0, 0, r_2.1, r_2.2, r_5.Gaugings) _ _ ⟨p_13, c_13, hf.keep ⟨rfl, rfl, rfl, rfl, rfl, rfl, rfl, rfl, rfl, rfl, rfl, rfl, trivial⟩, hc⟩ hx14)
    clear hF hf hc
    rintro ⟨day, x, x_1, x_2, x_3⟩ st14 a w KB14 ⟨p_14, c_14, hf, hc⟩ hF hfin14 hK14
    unfold law05_ShiftMore_b14 at hF
    refine wp_seq_k fun K56 h56 => ?_
    refine cReg ?_
    refine stP hf rfl rfl rfl (pLt rfl rfl) fun a hf => ?_
    refine cNil ?_
    refine h56 _ _ ?_
    refine wp_seq_k fun K57 h57 => ?_
    refine cCond (b := (decide (x < ((r_5.Gaugings.length : Nat) : Int)))) hf rfl (fun hb => ?_) (fun hb => ?_)
    · replace hF := condT hb hF
      clear hb
      refine wp_skip ?_
      refine h57 _ _ ?_
      refine wp_seq_k fun K58 h58 => ?_
      refine wp_block ?_
      refine wp_seq_k fun K59 h59 => ?_
      refine cReg ?_
      refine stP hf rfl rfl rfl (pM rfl) fun a hf => ?_
      refine stP hf rfl rfl rfl (pA rfl) fun a hf => ?_
      refine cNil ?_
      refine h59 _ _ ?_
      refine wp_seq_k fun K60 h60 => ?_
      refine cReg ?_
      refine stP hf rfl rfl rfl (pFA fa_25_1 rfl) fun a hf => ?_
      refine stE hf hc rfl rfl rfl (eLd1 sc_23 rfl (cell_box m1 rfl)) fun a w hf hc => ?_
      refine stP hf rfl rfl rfl (pM rfl) fun a hf => ?_
      refine stP hf rfl rfl rfl (pM rfl) fun a hf => ?_
      obtain ⟨e_6, he_6, hF⟩ := bnd_some hF
      obtain ⟨g_3, rfl, qa_5, qr_5⟩ := row_atm hc m4 he_6
      refine stP hf rfl rfl rfl (pIA Try.underlying23 sz_71 rfl rfl qa_5) fun a hf => ?_
      refine stP hf rfl rfl rfl (pFA fa_71_0 rfl) fun a hf => ?_
      refine stRw (vs := [.int .i64 day]) (o' := 0) (z := (⟨day, e_6.Stage, e_6.Flow⟩ : shift_Gauging)) (xs := x_3) hf hc rfl rfl rfl rfl sz_3 rfl (fun x => (one_enc_shift_Gauging x).1) (getI_lt he_6) (fun e' he' => by cases (he'.symm.trans (getI_spec he_6).2); rfl) rfl u4 fun w hc => ?_
      refine cNil ?_
      refine h60 _ _ ?_
      refine cReg ?_
      refine stP hf rfl rfl rfl (pM rfl) fun a hf => ?_
      refine stP hf rfl rfl rfl (pM rfl) fun a hf => ?_
      obtain ⟨r_19, hr_19, hF⟩ := bnd_some hF
      refine stC (vs := [.pointer (some ⟨b_3, 0, none⟩), .int .i64 1, .int .i64 30]) (caps := []) hf rfl rfl rfl en_41 rfl rfl rfl rfl (kit_Stream_Within_ok (⟨days, x_1, x_2⟩ : kit_Stream) 1 30 h_days (hc.pick k9) hr_19) ?_
      rintro _ w ⟨rfl, hc⟩
      refine ⟨_, rfl, fun a hf => ?_⟩
      refine stP hf rfl rfl rfl (pAdd rfl rfl) fun a hf => ?_
      refine stP hf rfl rfl rfl (pA rfl) fun a hf => ?_
      refine cNil ?_
      refine h58 _ _ ?_
      refine cReg ?_
      refine stP hf rfl rfl rfl (pAdd rfl rfl) fun a hf => ?_
      refine stP hf rfl rfl rfl (pM rfl) fun a hf => ?_
      refine cNil ?_
      rw [(by simp : x_3.length = (x_3.set x.toNat (⟨day, e_6.Stage, e_6.Flow⟩ : shift_Gauging)).length)] at hc
      replace hc := hc.pick k0
      replace hc := hc.pick k9
      replace hc := hc.pick k9
      replace hc := hc.pick k9
      replace hc := hc.pick k9
      replace hc := hc.pick k9
      replace hc := hc.pick k9
      replace hc := hc.pick k9
      replace hc := hc.pick k9
      replace hc := hc.pick k9
      exact hK14 (W (day + r_19.1), W (x + 1), r_19.2.1, r_19.2.2, (x_3.set x.toNat (⟨day, e_6.Stage, e_6.Flow⟩ : shift_Gauging))) _ _ (Option.some.inj hF).symm ⟨(some ⟨g_3, 0, none⟩), c_14, hf.keep ⟨rfl, rfl, rfl, rfl, rfl, rfl, rfl, rfl, rfl, rfl, rfl, rfl, trivial⟩, hc⟩
    · replace hF := condF hb hF
      clear hb
      refine wp_exit ?_
      refine xThen ?_
      refine xThen ?_
      have he := Option.some.inj hF
      rw [← he] at hfin14
      refine cHit ?_
      exact hr14 _ _ _ hfin14 ⟨p_14, c_14, hf.keep ⟨rfl, rfl, rfl, rfl, rfl, rfl, rfl, rfl, rfl, rfl, rfl, rfl, trivial⟩, hc⟩

end Go.Nilo
