/-
  What functions of the Go text compute, as plain functions, and that they do, part 4 of 4. Conditions: what each theorem names.
-/
import Derived.Test.YtepopogbmjfpeaaMe3
import Derived.Test.YtepopogbmjfpeaaProg
set_option linter.unusedVariables false
set_option maxRecDepth 100000
set_option maxHeartbeats 4000000
namespace Go.Nilo
open Go.Proofs


def law05_ShiftMeant_b31 (N : Nat) (stage : Int) (by_ : Int) (r_1 : (List shift_Mark) × Int × Int) (r_2 : api_Ratio × Int) (n : Int) (e_2 : shift_Mark) (e_3 : shift_Mark) (z_1 : Int) : Option (Step (Int) (Step (Int) (Bool))) :=
  cond (decide (z_1 < e_3.Stage))
  (Option.bind (shift_Means N r_1.1 z_1 0) fun r_10 =>
  cond (r_10.2 != 0)
  (some (.ret (.ret false)))
  (cond (((r_10.1.D == 1) && (decide (e_2.Flow < r_10.1.N))) && (decide (r_10.1.N < e_3.Flow)))
  (Option.bind (kit_Copy_shift_Mark N r_1.1) fun r_11 =>
  Option.bind (slices_Insert_Lshift_Mark_shift_Mark N r_11 n ([(⟨z_1, r_10.1.N⟩ : shift_Mark)] : List shift_Mark)) fun r_12 =>
  Option.bind (shift_Means N r_12 (W (((W (stage)).tmod 200) - 60)) (W (((W (by_)).tmod 100) - 50))) fun r_13 =>
  Option.bind (cond ((r_13.2 == 0) && (r_13.1.N == r_2.1.N && r_13.1.D == r_2.1.D)) (Option.bind (law05_awake N) fun r_14 =>
  some r_14) (some false)) fun t_1 =>
  some (.ret (.ret t_1)))
  (some (.cont (W (z_1 + 1))))))
  (some (.brk z_1))
def law05_ShiftMeant_b23 (N : Nat) (stage : Int) (by_ : Int) (r_1 : (List shift_Mark) × Int × Int) (r_2 : api_Ratio × Int) (n : Int) : Option (Step (Int) (Bool)) :=
  cond (decide (n < ((r_1.1.length : Nat) : Int)))
  (Option.bind (getI r_1.1 (W (n - 1))) fun e_2 =>
  Option.bind (getI r_1.1 n) fun e_3 =>
  Option.bind (loopO (fun s31 => law05_ShiftMeant_b31 N stage by_ r_1 r_2 n e_2 e_3 s31) N (W (e_2.Stage + 1))) fun x31 =>
  exK x31 (fun s31 => some (.cont (W (n + 1)))) some)
  (some (.brk n))
def law05_ShiftMeant (N : Nat) (numbers : List Int) (stage : Int) (by_ : Int) (more : Int) (rise : Int) (per : Int) : Option (Bool) :=
  Option.bind (kit_New N numbers) fun r =>
  Option.bind (law05_Rated N (⟨numbers, r.1, r.2⟩ : kit_Stream)) fun r_1 =>
  Option.bind (shift_Means N r_1.1 (W (((W (stage)).tmod 200) - 60)) (W (((W (by_)).tmod 100) - 50))) fun r_2 =>
  Option.bind (shift_Means N r_1.1 (W (((W (stage)).tmod 200) - 60)) (W ((W (((W (by_)).tmod 100) - 50)) + ((W (more)).tmod 20)))) fun r_3 =>
  Option.bind (shift_Means N r_1.1 (W ((W (((W (stage)).tmod 200) - 60)) + ((W (more)).tmod 20))) (W ((W (((W (by_)).tmod 100) - 50)) + ((W (more)).tmod 20)))) fun r_4 =>
  cond (((((((r_2.2 != 0) || (r_3.2 != 0)) || (r_4.2 != 0)) || (decide (r_2.1.D < 1))) || (decide (r_3.1.D < 1))) || (!(r_4.1.N == r_2.1.N && r_4.1.D == r_2.1.D))) || (decide ((W (r_2.1.N * r_3.1.D)) < (W (r_3.1.N * r_2.1.D)))))
  (some false)
  (Option.bind (kit_Stream_Next N (⟨numbers, r_1.2.1, r_1.2.2⟩ : kit_Stream) ((r_1.1.length : Nat) : Int)) fun r_5 =>
  Option.bind (getI r_1.1 r_5.1) fun e_1 =>
  Option.bind (shift_Means N r_1.1 (W (e_1.Stage + (W (((W (by_)).tmod 100) - 50)))) (W (((W (by_)).tmod 100) - 50))) fun r_6 =>
  cond ((r_6.2 != 0) || (!(r_6.1.N == e_1.Flow && r_6.1.D == 1)))
  (some false)
  (Option.bind (shift_Rising N r_1.1 (W (((W (stage)).tmod 200) - 60)) (W (((W (by_)).tmod 100) - 50)) (W (rise)) (W (per))) fun r_7 =>
  Option.bind (shift_Rising N r_1.1 (W (((W (stage)).tmod 200) - 60)) (W (((W (by_)).tmod 100) - 50)) (W (0 - (W (rise)))) (W (per))) fun r_8 =>
  cond (((((((r_7.2 != 0) || (r_8.2 != 0)) || (decide (r_7.1.D < 1))) || (decide (r_8.1.D < 1))) || (decide (r_8.1.N < 0))) || (decide ((W (r_7.1.N * r_2.1.D)) < (W (r_2.1.N * r_7.1.D))))) || (decide ((W (r_2.1.N * r_8.1.D)) < (W (r_8.1.N * r_2.1.D)))))
  (some false)
  (Option.bind (loopO (fun s23 => law05_ShiftMeant_b23 N stage by_ r_1 r_2 s23) N 1) fun x23 =>
  exK x23 (fun s23 => Option.bind (law05_awake N) fun r_9 =>
  some r_9) some)))
theorem law05_ShiftMeant_ok {N : Nat} {G : Pers} {Lf : List Ent} {w : World} (numbers : List Int) (stage : Int) (by_ : Int) (more : Int) (rise : Int) (per : Int) {numbers_p : Option Addr} {numbers_c : Nat} (h_numbers : Rd G 1 numbers_p numbers_c (numbers.map encI_u8)) (hc : Ctx G (Lf) w) {res : Bool} (hF : law05_ShiftMeant N numbers stage by_ more rise per = some res) : Calls Try.prog 7 #[.slice numbers_p numbers.length numbers_c, .int .u8 stage, .int .u8 by_, .int .u8 more, .int .u8 rise, .int .u8 per] w (fun e w => e = .returned (.bool res) ∧ Ctx G (Lf) w) := by
  unfold law05_ShiftMeant at hF
  refine fnIn (args := [.slice numbers_p numbers.length numbers_c, .int .u8 stage, .int .u8 by_, .int .u8 more, .int .u8 rise, .int .u8 per]) Try.func7 rfl Try.ntmps7 rfl fun a hf => ?_
  refine wp_seq_k fun K1 h1 => ?_
  refine cReg ?_
  refine stP hf rfl rfl rfl (pA rfl) fun a hf => ?_
  refine cNil ?_
  refine h1 _ _ ?_
  refine wp_seq_k fun K2 h2 => ?_
  refine cReg ?_
  refine stP hf rfl rfl rfl (pM rfl) fun a hf => ?_
  obtain ⟨r, hr, hF⟩ := bnd_some hF
  refine stC (vs := [.slice numbers_p numbers.length numbers_c]) (caps := []) hf rfl rfl rfl en_32 rfl rfl rfl rfl (kit_New_ok numbers h_numbers hc hr) ?_
  rintro _ w ⟨b_1, rfl, hc⟩
  refine ⟨_, rfl, fun a hf => ?_⟩
  refine stP hf rfl rfl rfl (pA rfl) fun a hf => ?_
  refine cNil ?_
  refine h2 _ _ ?_
  refine wp_seq_k fun K3 h3 => ?_
  refine cReg ?_
  refine stP hf rfl rfl rfl (pM rfl) fun a hf => ?_
  obtain ⟨r_1, hr_1, hF⟩ := bnd_some hF
  refine stC (vs := [.pointer (some ⟨b_1, 0, none⟩)]) (caps := []) hf rfl rfl rfl en_37 rfl rfl rfl rfl (law05_Rated_ok (⟨numbers, r.1, r.2⟩ : kit_Stream) h_numbers (hc.pick k0) hr_1) ?_
  rintro _ w ⟨p_1, c_1, rfl, hc⟩
  refine ⟨_, rfl, fun a hf => ?_⟩
  refine stP hf rfl rfl rfl (pA rfl) fun a hf => ?_
  refine cNil ?_
  refine h3 _ _ ?_
  refine wp_seq_k fun K4 h4 => ?_
  refine cReg ?_
  refine stP hf rfl rfl rfl (pM rfl) fun a hf => ?_
  refine stP hf rfl rfl rfl (pCv Try.underlying5 Try.underlying3 rfl) fun a hf => ?_
  refine stP hf rfl rfl rfl (pRem rfl rfl (by decide)) fun a hf => ?_
  refine stP hf rfl rfl rfl (pSub rfl rfl) fun a hf => ?_
  refine stP hf rfl rfl rfl (pM rfl) fun a hf => ?_
  refine stP hf rfl rfl rfl (pCv Try.underlying5 Try.underlying3 rfl) fun a hf => ?_
  refine stP hf rfl rfl rfl (pRem rfl rfl (by decide)) fun a hf => ?_
  refine stP hf rfl rfl rfl (pSub rfl rfl) fun a hf => ?_
  refine stP hf rfl rfl rfl (pM rfl) fun a hf => ?_
  refine stP hf rfl rfl rfl (pCv Try.underlying5 Try.underlying3 rfl) fun a hf => ?_
  refine stP hf rfl rfl rfl (pRem rfl rfl (by decide)) fun a hf => ?_
  refine stP hf rfl rfl rfl (pA rfl) fun a hf => ?_
  refine stP hf rfl rfl rfl (pA rfl) fun a hf => ?_
  refine stP hf rfl rfl rfl (pA rfl) fun a hf => ?_
  refine cNil ?_
  refine h4 _ _ ?_
  refine wp_seq_k fun K5 h5 => ?_
  refine cReg ?_
  refine stP hf rfl rfl rfl (pM rfl) fun a hf => ?_
  refine stP hf rfl rfl rfl (pM rfl) fun a hf => ?_
  refine stP hf rfl rfl rfl (pM rfl) fun a hf => ?_
  obtain ⟨r_2, hr_2, hF⟩ := bnd_some hF
  refine stE hf hc rfl rfl rfl (eC (v := .tuple #[.agg #[.int .i64 r_2.1.N, .int .i64 r_2.1.D], .int .i64 r_2.2]) (vs := [.slice p_1 r_1.1.length c_1, .int .i64 (W (((W (stage)).tmod 200) - 60)), .int .i64 (W (((W (by_)).tmod 100) - 50))]) (caps := []) en_17 rfl rfl rfl rfl (fun w hc => by obtain ⟨G1, hle1, hrd1, hc, hth1⟩ := lend hc k0; exact (shift_Means_ok r_1.1 (W (((W (stage)).tmod 200) - 60)) (W (((W (by_)).tmod 100) - 50)) hrd1 hc hr_2).mono fun e w h => ⟨h.1, ((hth1 _ _ h.2).unpick k0)⟩)) fun a w hf hc => ?_
  refine stP hf rfl rfl rfl (pM rfl) fun a hf => ?_
  refine stP hf rfl rfl rfl (pX rfl rfl) fun a hf => ?_
  refine stP hf rfl rfl rfl (pX rfl rfl) fun a hf => ?_
  refine stAl (cs := [.int .i64 0, .int .i64 0]) hf hc rfl rfl zr_37 rfl fun b_2 a w hf hc => ?_
  refine stSt (vs := [.int .i64 r_2.1.N, .int .i64 r_2.1.D]) hf hc rfl rfl rfl rfl sz_37 rfl rfl u0 fun w hc => ?_
  refine stP hf rfl rfl rfl (pA rfl) fun a hf => ?_
  refine cNil ?_
  refine h5 _ _ ?_
  refine wp_seq_k fun K6 h6 => ?_
  refine cReg ?_
  refine stP hf rfl rfl rfl (pM rfl) fun a hf => ?_
  refine stP hf rfl rfl rfl (pM rfl) fun a hf => ?_
  refine stP hf rfl rfl rfl (pM rfl) fun a hf => ?_
  refine stP hf rfl rfl rfl (pM rfl) fun a hf => ?_
  refine stP hf rfl rfl rfl (pAdd rfl rfl) fun a hf => ?_
  obtain ⟨r_3, hr_3, hF⟩ := bnd_some hF
  refine stE hf hc rfl rfl rfl (eC (v := .tuple #[.agg #[.int .i64 r_3.1.N, .int .i64 r_3.1.D], .int .i64 r_3.2]) (vs := [.slice p_1 r_1.1.length c_1, .int .i64 (W (((W (stage)).tmod 200) - 60)), .int .i64 (W ((W (((W (by_)).tmod 100) - 50)) + ((W (more)).tmod 20)))]) (caps := []) en_17 rfl rfl rfl rfl (fun w hc => by obtain ⟨G1, hle1, hrd1, hc, hth1⟩ := lend hc k1; exact (shift_Means_ok r_1.1 (W (((W (stage)).tmod 200) - 60)) (W ((W (((W (by_)).tmod 100) - 50)) + ((W (more)).tmod 20))) hrd1 hc hr_3).mono fun e w h => ⟨h.1, ((hth1 _ _ h.2).unpick k1)⟩)) fun a w hf hc => ?_
  refine stP hf rfl rfl rfl (pM rfl) fun a hf => ?_
  refine stP hf rfl rfl rfl (pX rfl rfl) fun a hf => ?_
  refine stP hf rfl rfl rfl (pX rfl rfl) fun a hf => ?_
  refine stAl (cs := [.int .i64 0, .int .i64 0]) hf hc rfl rfl zr_37 rfl fun b_3 a w hf hc => ?_
  refine stSt (vs := [.int .i64 r_3.1.N, .int .i64 r_3.1.D]) hf hc rfl rfl rfl rfl sz_37 rfl rfl u0 fun w hc => ?_
  refine stP hf rfl rfl rfl (pA rfl) fun a hf => ?_
  refine cNil ?_
  refine h6 _ _ ?_
  refine wp_seq_k fun K7 h7 => ?_
  refine cReg ?_
  refine stP hf rfl rfl rfl (pM rfl) fun a hf => ?_
  refine stP hf rfl rfl rfl (pM rfl) fun a hf => ?_
  refine stP hf rfl rfl rfl (pM rfl) fun a hf => ?_
  refine stP hf rfl rfl rfl (pAdd rfl rfl) fun a hf => ?_
  refine stP hf rfl rfl rfl (pM rfl) fun a hf => ?_
  refine stP hf rfl rfl rfl (pM rfl) fun a hf => ?_
  refine stP hf rfl rfl rfl (pAdd rfl rfl) fun a hf => ?_
  obtain ⟨r_4, hr_4, hF⟩ := bnd_some hF
  refine stE hf hc rfl rfl rfl (eC (v := .tuple #[.agg #[.int .i64 r_4.1.N, .int .i64 r_4.1.D], .int .i64 r_4.2]) (vs := [.slice p_1 r_1.1.length c_1, .int .i64 (W ((W (((W (stage)).tmod 200) - 60)) + ((W (more)).tmod 20))), .int .i64 (W ((W (((W (by_)).tmod 100) - 50)) + ((W (more)).tmod 20)))]) (caps := []) en_17 rfl rfl rfl rfl (fun w hc => by obtain ⟨G1, hle1, hrd1, hc, hth1⟩ := lend hc k2; exact (shift_Means_ok r_1.1 (W ((W (((W (stage)).tmod 200) - 60)) + ((W (more)).tmod 20))) (W ((W (((W (by_)).tmod 100) - 50)) + ((W (more)).tmod 20))) hrd1 hc hr_4).mono fun e w h => ⟨h.1, ((hth1 _ _ h.2).unpick k2)⟩)) fun a w hf hc => ?_
  refine stP hf rfl rfl rfl (pM rfl) fun a hf => ?_
  refine stP hf rfl rfl rfl (pX rfl rfl) fun a hf => ?_
  refine stP hf rfl rfl rfl (pX rfl rfl) fun a hf => ?_
  refine stAl (cs := [.int .i64 0, .int .i64 0]) hf hc rfl rfl zr_37 rfl fun b_4 a w hf hc => ?_
  refine stSt (vs := [.int .i64 r_4.1.N, .int .i64 r_4.1.D]) hf hc rfl rfl rfl rfl sz_37 rfl rfl u0 fun w hc => ?_
  refine stP hf rfl rfl rfl (pA rfl) fun a hf => ?_
  refine cNil ?_
  refine h7 _ _ ?_
  refine wp_seq_k fun K8 h8 => ?_
  refine wp_seq_k fun K9 h9 => ?_
  refine cReg ?_
  refine stP hf rfl rfl rfl (pM rfl) fun a hf => ?_
  refine stP hf rfl rfl rfl (pNe rfl rfl) fun a hf => ?_
  refine stP hf rfl rfl rfl (pM rfl) fun a hf => ?_
  refine stCut 3 (fun a w => Has 289 a [(4, .int .u8 rise), (5, .int .u8 per), (13, .pointer (some ⟨b_1, 0, none⟩)), (14, .slice p_1 r_1.1.length c_1), (15, .int .i64 (W (((W (stage)).tmod 200) - 60))), (16, .int .i64 (W (((W (by_)).tmod 100) - 50))), (18, .pointer (some ⟨b_2, 0, none⟩)), (19, .int .i64 r_2.2), (20, .pointer (some ⟨b_3, 0, none⟩)), (21, .int .i64 r_3.2), (22, .pointer (some ⟨b_4, 0, none⟩)), (23, .int .i64 r_4.2), (79, .int .i64 r_2.2), (80, .bool (r_2.2 != 0)), (81, .bool (r_2.2 != 0)), (84, .bool ((r_2.2 != 0) || (r_3.2 != 0)))] ∧ Ctx G (.box b_4 [.int .i64 r_4.1.N, .int .i64 r_4.1.D] 37 :: .box b_3 [.int .i64 r_3.1.N, .int .i64 r_3.1.D] 37 :: .box b_2 [.int .i64 r_2.1.N, .int .i64 r_2.1.D] 37 :: .row p_1 c_1 (r_1.1.map enc_shift_Mark) 77 2 :: .box b_1 [.slice numbers_p numbers.length numbers_c, .int .i64 r_1.2.1, .int .i64 r_1.2.2] 151 :: Lf) w) ?_ ?_
  · cases hb : (r_2.2 != 0)
    · rw [hb] at hf
      refine stP hf rfl rfl rfl (pM rfl) fun a hf => ?_
      refine stP hf rfl rfl rfl (pNe rfl rfl) fun a hf => ?_
      refine stP hf rfl rfl rfl (pPf rfl rfl) fun a hf => ?_
      exact cNil ⟨hf.keep ⟨rfl, rfl, rfl, rfl, rfl, rfl, rfl, rfl, rfl, rfl, rfl, rfl, rfl, rfl, rfl, rfl, trivial⟩, hc⟩
    · rw [hb] at hf
      refine stS hf rfl rfl rfl fun a hf => ?_
      refine stS hf rfl rfl rfl fun a hf => ?_
      refine stP hf rfl rfl rfl (pPt rfl rfl) fun a hf => ?_
      exact cNil ⟨hf.keep ⟨rfl, rfl, rfl, rfl, rfl, rfl, rfl, rfl, rfl, rfl, rfl, rfl, rfl, rfl, rfl, rfl, trivial⟩, hc⟩
  intro a w ⟨hf, hc⟩
  refine stP hf rfl rfl rfl (pM rfl) fun a hf => ?_
  refine stCut 3 (fun a w => Has 289 a [(4, .int .u8 rise), (5, .int .u8 per), (13, .pointer (some ⟨b_1, 0, none⟩)), (14, .slice p_1 r_1.1.length c_1), (15, .int .i64 (W (((W (stage)).tmod 200) - 60))), (16, .int .i64 (W (((W (by_)).tmod 100) - 50))), (18, .pointer (some ⟨b_2, 0, none⟩)), (19, .int .i64 r_2.2), (20, .pointer (some ⟨b_3, 0, none⟩)), (21, .int .i64 r_3.2), (22, .pointer (some ⟨b_4, 0, none⟩)), (23, .int .i64 r_4.2), (79, .int .i64 r_2.2), (80, .bool (r_2.2 != 0)), (81, .bool (r_2.2 != 0)), (84, .bool ((r_2.2 != 0) || (r_3.2 != 0))), (85, .bool ((r_2.2 != 0) || (r_3.2 != 0))), (88, .bool (((r_2.2 != 0) || (r_3.2 != 0)) || (r_4.2 != 0)))] ∧ Ctx G (.box b_4 [.int .i64 r_4.1.N, .int .i64 r_4.1.D] 37 :: .box b_3 [.int .i64 r_3.1.N, .int .i64 r_3.1.D] 37 :: .box b_2 [.int .i64 r_2.1.N, .int .i64 r_2.1.D] 37 :: .row p_1 c_1 (r_1.1.map enc_shift_Mark) 77 2 :: .box b_1 [.slice numbers_p numbers.length numbers_c, .int .i64 r_1.2.1, .int .i64 r_1.2.2] 151 :: Lf) w) ?_ ?_
  · cases hb : ((r_2.2 != 0) || (r_3.2 != 0))
    · rw [hb] at hf
      refine stP hf rfl rfl rfl (pM rfl) fun a hf => ?_
      refine stP hf rfl rfl rfl (pNe rfl rfl) fun a hf => ?_
      refine stP hf rfl rfl rfl (pPf rfl rfl) fun a hf => ?_
      exact cNil ⟨hf.keep ⟨rfl, rfl, rfl, rfl, rfl, rfl, rfl, rfl, rfl, rfl, rfl, rfl, rfl, rfl, rfl, rfl, rfl, rfl, trivial⟩, hc⟩
    · rw [hb] at hf
      refine stS hf rfl rfl rfl fun a hf => ?_
      refine stS hf rfl rfl rfl fun a hf => ?_
      refine stP hf rfl rfl rfl (pPt rfl rfl) fun a hf => ?_
      exact cNil ⟨hf.keep ⟨rfl, rfl, rfl, rfl, rfl, rfl, rfl, rfl, rfl, rfl, rfl, rfl, rfl, rfl, rfl, rfl, rfl, rfl, trivial⟩, hc⟩
  intro a w ⟨hf, hc⟩
  refine stP hf rfl rfl rfl (pM rfl) fun a hf => ?_
  refine stCut 4 (fun a w => Has 289 a [(4, .int .u8 rise), (5, .int .u8 per), (13, .pointer (some ⟨b_1, 0, none⟩)), (14, .slice p_1 r_1.1.length c_1), (15, .int .i64 (W (((W (stage)).tmod 200) - 60))), (16, .int .i64 (W (((W (by_)).tmod 100) - 50))), (18, .pointer (some ⟨b_2, 0, none⟩)), (19, .int .i64 r_2.2), (20, .pointer (some ⟨b_3, 0, none⟩)), (21, .int .i64 r_3.2), (22, .pointer (some ⟨b_4, 0, none⟩)), (23, .int .i64 r_4.2), (79, .int .i64 r_2.2), (80, .bool (r_2.2 != 0)), (81, .bool (r_2.2 != 0)), (84, .bool ((r_2.2 != 0) || (r_3.2 != 0))), (85, .bool ((r_2.2 != 0) || (r_3.2 != 0))), (88, .bool (((r_2.2 != 0) || (r_3.2 != 0)) || (r_4.2 != 0))), (89, .bool (((r_2.2 != 0) || (r_3.2 != 0)) || (r_4.2 != 0))), (93, .bool ((((r_2.2 != 0) || (r_3.2 != 0)) || (r_4.2 != 0)) || (decide (r_2.1.D < 1))))] ∧ Ctx G (.box b_4 [.int .i64 r_4.1.N, .int .i64 r_4.1.D] 37 :: .box b_3 [.int .i64 r_3.1.N, .int .i64 r_3.1.D] 37 :: .box b_2 [.int .i64 r_2.1.N, .int .i64 r_2.1.D] 37 :: .row p_1 c_1 (r_1.1.map enc_shift_Mark) 77 2 :: .box b_1 [.slice numbers_p numbers.length numbers_c, .int .i64 r_1.2.1, .int .i64 r_1.2.2] 151 :: Lf) w) ?_ ?_
  · cases hb : (((r_2.2 != 0) || (r_3.2 != 0)) || (r_4.2 != 0))
    · rw [hb] at hf
      refine stP hf rfl rfl rfl (pFA fa_37_1 rfl) fun a hf => ?_
      refine stE hf hc rfl rfl rfl (eLd1 sc_3 rfl (cell_box m2 rfl)) fun a w hf hc => ?_
      refine stP hf rfl rfl rfl (pLt rfl rfl) fun a hf => ?_
      refine stP hf rfl rfl rfl (pPf rfl rfl) fun a hf => ?_
      exact cNil ⟨hf.keep ⟨rfl, rfl, rfl, rfl, rfl, rfl, rfl, rfl, rfl, rfl, rfl, rfl, rfl, rfl, rfl, rfl, rfl, rfl, rfl, rfl, trivial⟩, hc⟩
    · rw [hb] at hf
      refine stS hf rfl rfl rfl fun a hf => ?_
      refine stS hf rfl rfl rfl fun a hf => ?_
      refine stS hf rfl rfl rfl fun a hf => ?_
      refine stP hf rfl rfl rfl (pPt rfl rfl) fun a hf => ?_
      exact cNil ⟨hf.keep ⟨rfl, rfl, rfl, rfl, rfl, rfl, rfl, rfl, rfl, rfl, rfl, rfl, rfl, rfl, rfl, rfl, rfl, rfl, rfl, rfl, trivial⟩, hc⟩
  intro a w ⟨hf, hc⟩
  refine stP hf rfl rfl rfl (pM rfl) fun a hf => ?_
  refine stCut 4 (fun a w => Has 289 a [(4, .int .u8 rise), (5, .int .u8 per), (13, .pointer (some ⟨b_1, 0, none⟩)), (14, .slice p_1 r_1.1.length c_1), (15, .int .i64 (W (((W (stage)).tmod 200) - 60))), (16, .int .i64 (W (((W (by_)).tmod 100) - 50))), (18, .pointer (some ⟨b_2, 0, none⟩)), (19, .int .i64 r_2.2), (20, .pointer (some ⟨b_3, 0, none⟩)), (21, .int .i64 r_3.2), (22, .pointer (some ⟨b_4, 0, none⟩)), (23, .int .i64 r_4.2), (79, .int .i64 r_2.2), (80, .bool (r_2.2 != 0)), (81, .bool (r_2.2 != 0)), (84, .bool ((r_2.2 != 0) || (r_3.2 != 0))), (85, .bool ((r_2.2 != 0) || (r_3.2 != 0))), (88, .bool (((r_2.2 != 0) || (r_3.2 != 0)) || (r_4.2 != 0))), (89, .bool (((r_2.2 != 0) || (r_3.2 != 0)) || (r_4.2 != 0))), (93, .bool ((((r_2.2 != 0) || (r_3.2 != 0)) || (r_4.2 != 0)) || (decide (r_2.1.D < 1)))), (94, .bool ((((r_2.2 != 0) || (r_3.2 != 0)) || (r_4.2 != 0)) || (decide (r_2.1.D < 1)))), (98, .bool (((((r_2.2 != 0) || (r_3.2 != 0)) || (r_4.2 != 0)) || (decide (r_2.1.D < 1))) || (decide (r_3.1.D < 1))))] ∧ Ctx G (.box b_4 [.int .i64 r_4.1.N, .int .i64 r_4.1.D] 37 :: .box b_3 [.int .i64 r_3.1.N, .int .i64 r_3.1.D] 37 :: .box b_2 [.int .i64 r_2.1.N, .int .i64 r_2.1.D] 37 :: .row p_1 c_1 (r_1.1.map enc_shift_Mark) 77 2 :: .box b_1 [.slice numbers_p numbers.length numbers_c, .int .i64 r_1.2.1, .int .i64 r_1.2.2] 151 :: Lf) w) ?_ ?_
  · cases hb : ((((r_2.2 != 0) || (r_3.2 != 0)) || (r_4.2 != 0)) || (decide (r_2.1.D < 1)))
    · rw [hb] at hf
      refine stP hf rfl rfl rfl (pFA fa_37_1 rfl) fun a hf => ?_
      refine stE hf hc rfl rfl rfl (eLd1 sc_3 rfl (cell_box m1 rfl)) fun a w hf hc => ?_
      refine stP hf rfl rfl rfl (pLt rfl rfl) fun a hf => ?_
      refine stP hf rfl rfl rfl (pPf rfl rfl) fun a hf => ?_
      exact cNil ⟨hf.keep ⟨rfl, rfl, rfl, rfl, rfl, rfl, rfl, rfl, rfl, rfl, rfl, rfl, rfl, rfl, rfl, rfl, rfl, rfl, rfl, rfl, rfl, rfl, trivial⟩, hc⟩
    · rw [hb] at hf
      refine stS hf rfl rfl rfl fun a hf => ?_
      refine stS hf rfl rfl rfl fun a hf => ?_
      refine stS hf rfl rfl rfl fun a hf => ?_
      refine stP hf rfl rfl rfl (pPt rfl rfl) fun a hf => ?_
      exact cNil ⟨hf.keep ⟨rfl, rfl, rfl, rfl, rfl, rfl, rfl, rfl, rfl, rfl, rfl, rfl, rfl, rfl, rfl, rfl, rfl, rfl, rfl, rfl, rfl, rfl, trivial⟩, hc⟩
  intro a w ⟨hf, hc⟩
  refine stP hf rfl rfl rfl (pM rfl) fun a hf => ?_
  refine stCut 4 (fun a w => Has 289 a [(4, .int .u8 rise), (5, .int .u8 per), (13, .pointer (some ⟨b_1, 0, none⟩)), (14, .slice p_1 r_1.1.length c_1), (15, .int .i64 (W (((W (stage)).tmod 200) - 60))), (16, .int .i64 (W (((W (by_)).tmod 100) - 50))), (18, .pointer (some ⟨b_2, 0, none⟩)), (19, .int .i64 r_2.2), (20, .pointer (some ⟨b_3, 0, none⟩)), (21, .int .i64 r_3.2), (22, .pointer (some ⟨b_4, 0, none⟩)), (23, .int .i64 r_4.2), (79, .int .i64 r_2.2), (80, .bool (r_2.2 != 0)), (81, .bool (r_2.2 != 0)), (84, .bool ((r_2.2 != 0) || (r_3.2 != 0))), (85, .bool ((r_2.2 != 0) || (r_3.2 != 0))), (88, .bool (((r_2.2 != 0) || (r_3.2 != 0)) || (r_4.2 != 0))), (89, .bool (((r_2.2 != 0) || (r_3.2 != 0)) || (r_4.2 != 0))), (93, .bool ((((r_2.2 != 0) || (r_3.2 != 0)) || (r_4.2 != 0)) || (decide (r_2.1.D < 1)))), (94, .bool ((((r_2.2 != 0) || (r_3.2 != 0)) || (r_4.2 != 0)) || (decide (r_2.1.D < 1)))), (98, .bool (((((r_2.2 != 0) || (r_3.2 != 0)) || (r_4.2 != 0)) || (decide (r_2.1.D < 1))) || (decide (r_3.1.D < 1)))), (99, .bool (((((r_2.2 != 0) || (r_3.2 != 0)) || (r_4.2 != 0)) || (decide (r_2.1.D < 1))) || (decide (r_3.1.D < 1)))), (103, .bool ((((((r_2.2 != 0) || (r_3.2 != 0)) || (r_4.2 != 0)) || (decide (r_2.1.D < 1))) || (decide (r_3.1.D < 1))) || (!(r_4.1.N == r_2.1.N && r_4.1.D == r_2.1.D))))] ∧ Ctx G (.box b_4 [.int .i64 r_4.1.N, .int .i64 r_4.1.D] 37 :: .box b_3 [.int .i64 r_3.1.N, .int .i64 r_3.1.D] 37 :: .box b_2 [.int .i64 r_2.1.N, .int .i64 r_2.1.D] 37 :: .row p_1 c_1 (r_1.1.map enc_shift_Mark) 77 2 :: .box b_1 [.slice numbers_p numbers.length numbers_c, .int .i64 r_1.2.1, .int .i64 r_1.2.2] 151 :: Lf) w) ?_ ?_
  · cases hb : (((((r_2.2 != 0) || (r_3.2 != 0)) || (r_4.2 != 0)) || (decide (r_2.1.D < 1))) || (decide (r_3.1.D < 1)))
    · rw [hb] at hf
      refine stE hf hc rfl rfl rfl (eLdN (vs := [.int .i64 r_4.1.N, .int .i64 r_4.1.D]) ag_37 rfl rfl (cells_box (n := 2) m0 rfl)) fun a w hf hc => ?_
      refine stE hf hc rfl rfl rfl (eLdN (vs := [.int .i64 r_2.1.N, .int .i64 r_2.1.D]) ag_37 rfl rfl (cells_box (n := 2) m2 rfl)) fun a w hf hc => ?_
      refine stP hf rfl rfl rfl (pNeA ge_37 rfl rfl (eqs_37 _ _ _ _)) fun a hf => ?_
      refine stP hf rfl rfl rfl (pPf rfl rfl) fun a hf => ?_
      exact cNil ⟨hf.keep ⟨rfl, rfl, rfl, rfl, rfl, rfl, rfl, rfl, rfl, rfl, rfl, rfl, rfl, rfl, rfl, rfl, rfl, rfl, rfl, rfl, rfl, rfl, rfl, rfl, trivial⟩, hc⟩
    · rw [hb] at hf
      refine stS hf rfl rfl rfl fun a hf => ?_
      refine stS hf rfl rfl rfl fun a hf => ?_
      refine stS hf rfl rfl rfl fun a hf => ?_
      refine stP hf rfl rfl rfl (pPt rfl rfl) fun a hf => ?_
      exact cNil ⟨hf.keep ⟨rfl, rfl, rfl, rfl, rfl, rfl, rfl, rfl, rfl, rfl, rfl, rfl, rfl, rfl, rfl, rfl, rfl, rfl, rfl, rfl, rfl, rfl, rfl, rfl, trivial⟩, hc⟩
  intro a w ⟨hf, hc⟩
  refine stP hf rfl rfl rfl (pM rfl) fun a hf => ?_
  refine stCut 12 (fun a w => Has 289 a [(4, .int .u8 rise), (5, .int .u8 per), (13, .pointer (some ⟨b_1, 0, none⟩)), (14, .slice p_1 r_1.1.length c_1), (15, .int .i64 (W (((W (stage)).tmod 200) - 60))), (16, .int .i64 (W (((W (by_)).tmod 100) - 50))), (18, .pointer (some ⟨b_2, 0, none⟩)), (19, .int .i64 r_2.2), (20, .pointer (some ⟨b_3, 0, none⟩)), (21, .int .i64 r_3.2), (22, .pointer (some ⟨b_4, 0, none⟩)), (23, .int .i64 r_4.2), (79, .int .i64 r_2.2), (80, .bool (r_2.2 != 0)), (81, .bool (r_2.2 != 0)), (84, .bool ((r_2.2 != 0) || (r_3.2 != 0))), (85, .bool ((r_2.2 != 0) || (r_3.2 != 0))), (88, .bool (((r_2.2 != 0) || (r_3.2 != 0)) || (r_4.2 != 0))), (89, .bool (((r_2.2 != 0) || (r_3.2 != 0)) || (r_4.2 != 0))), (93, .bool ((((r_2.2 != 0) || (r_3.2 != 0)) || (r_4.2 != 0)) || (decide (r_2.1.D < 1)))), (94, .bool ((((r_2.2 != 0) || (r_3.2 != 0)) || (r_4.2 != 0)) || (decide (r_2.1.D < 1)))), (98, .bool (((((r_2.2 != 0) || (r_3.2 != 0)) || (r_4.2 != 0)) || (decide (r_2.1.D < 1))) || (decide (r_3.1.D < 1)))), (99, .bool (((((r_2.2 != 0) || (r_3.2 != 0)) || (r_4.2 != 0)) || (decide (r_2.1.D < 1))) || (decide (r_3.1.D < 1)))), (103, .bool ((((((r_2.2 != 0) || (r_3.2 != 0)) || (r_4.2 != 0)) || (decide (r_2.1.D < 1))) || (decide (r_3.1.D < 1))) || (!(r_4.1.N == r_2.1.N && r_4.1.D == r_2.1.D)))), (104, .bool ((((((r_2.2 != 0) || (r_3.2 != 0)) || (r_4.2 != 0)) || (decide (r_2.1.D < 1))) || (decide (r_3.1.D < 1))) || (!(r_4.1.N == r_2.1.N && r_4.1.D == r_2.1.D)))), (116, .bool (((((((r_2.2 != 0) || (r_3.2 != 0)) || (r_4.2 != 0)) || (decide (r_2.1.D < 1))) || (decide (r_3.1.D < 1))) || (!(r_4.1.N == r_2.1.N && r_4.1.D == r_2.1.D))) || (decide ((W (r_2.1.N * r_3.1.D)) < (W (r_3.1.N * r_2.1.D))))))] ∧ Ctx G (.box b_4 [.int .i64 r_4.1.N, .int .i64 r_4.1.D] 37 :: .box b_3 [.int .i64 r_3.1.N, .int .i64 r_3.1.D] 37 :: .box b_2 [.int .i64 r_2.1.N, .int .i64 r_2.1.D] 37 :: .row p_1 c_1 (r_1.1.map enc_shift_Mark) 77 2 :: .box b_1 [.slice numbers_p numbers.length numbers_c, .int .i64 r_1.2.1, .int .i64 r_1.2.2] 151 :: Lf) w) ?_ ?_
  · cases hb : ((((((r_2.2 != 0) || (r_3.2 != 0)) || (r_4.2 != 0)) || (decide (r_2.1.D < 1))) || (decide (r_3.1.D < 1))) || (!(r_4.1.N == r_2.1.N && r_4.1.D == r_2.1.D)))
    · rw [hb] at hf
      refine stP hf rfl rfl rfl (pFA fa_37_0 rfl) fun a hf => ?_
      refine stE hf hc rfl rfl rfl (eLd1 sc_3 rfl (cell_box m1 rfl)) fun a w hf hc => ?_
      refine stP hf rfl rfl rfl (pFA fa_37_1 rfl) fun a hf => ?_
      refine stE hf hc rfl rfl rfl (eLd1 sc_3 rfl (cell_box m2 rfl)) fun a w hf hc => ?_
      refine stP hf rfl rfl rfl (pMul rfl rfl) fun a hf => ?_
      refine stP hf rfl rfl rfl (pFA fa_37_0 rfl) fun a hf => ?_
      refine stE hf hc rfl rfl rfl (eLd1 sc_3 rfl (cell_box m2 rfl)) fun a w hf hc => ?_
      refine stP hf rfl rfl rfl (pFA fa_37_1 rfl) fun a hf => ?_
      refine stE hf hc rfl rfl rfl (eLd1 sc_3 rfl (cell_box m1 rfl)) fun a w hf hc => ?_
      refine stP hf rfl rfl rfl (pMul rfl rfl) fun a hf => ?_
      refine stP hf rfl rfl rfl (pGt rfl rfl) fun a hf => ?_
      refine stP hf rfl rfl rfl (pPf rfl rfl) fun a hf => ?_
      exact cNil ⟨hf.keep ⟨rfl, rfl, rfl, rfl, rfl, rfl, rfl, rfl, rfl, rfl, rfl, rfl, rfl, rfl, rfl, rfl, rfl, rfl, rfl, rfl, rfl, rfl, rfl, rfl, rfl, rfl, trivial⟩, hc⟩
    · rw [hb] at hf
      refine stS hf rfl rfl rfl fun a hf => ?_
      refine stS hf rfl rfl rfl fun a hf => ?_
      refine stS hf rfl rfl rfl fun a hf => ?_
      refine stS hf rfl rfl rfl fun a hf => ?_
      refine stS hf rfl rfl rfl fun a hf => ?_
      refine stS hf rfl rfl rfl fun a hf => ?_
      refine stS hf rfl rfl rfl fun a hf => ?_
      refine stS hf rfl rfl rfl fun a hf => ?_
      refine stS hf rfl rfl rfl fun a hf => ?_
      refine stS hf rfl rfl rfl fun a hf => ?_
      refine stS hf rfl rfl rfl fun a hf => ?_
      refine stP hf rfl rfl rfl (pPt rfl rfl) fun a hf => ?_
      exact cNil ⟨hf.keep ⟨rfl, rfl, rfl, rfl, rfl, rfl, rfl, rfl, rfl, rfl, rfl, rfl, rfl, rfl, rfl, rfl, rfl, rfl, rfl, rfl, rfl, rfl, rfl, rfl, rfl, rfl, trivial⟩, hc⟩
  intro a w ⟨hf, hc⟩
  refine cNil ?_
  refine h9 _ _ ?_
  refine cCond (b := (((((((r_2.2 != 0) || (r_3.2 != 0)) || (r_4.2 != 0)) || (decide (r_2.1.D < 1))) || (decide (r_3.1.D < 1))) || (!(r_4.1.N == r_2.1.N && r_4.1.D == r_2.1.D))) || (decide ((W (r_2.1.N * r_3.1.D)) < (W (r_3.1.N * r_2.1.D)))))) hf rfl (fun hb => ?_) (fun hb => ?_)
  · replace hF := condT hb hF
    clear hb
    refine wp_seq_k fun K10 h10 => ?_
    refine cReg ?_
    refine stP hf rfl rfl rfl (pA rfl) fun a hf => ?_
    refine cNil ?_
    refine h10 _ _ ?_
    refine wp_ret ?_
    refine xThenR ?_
    obtain rfl := Option.some.inj hF
    replace hc := hc.drop k4
    replace hc := hc.drop k3
    replace hc := hc.drop k2
    replace hc := hc.drop k1
    replace hc := hc.drop k0
    exact fnOut1 (by simp) rfl Try.results7 hf hc (show look _ 12 = _ from rfl) ⟨rfl, hc⟩
  · replace hF := condF hb hF
    clear hb
    refine wp_skip ?_
    refine h8 _ _ ?_
    refine wp_seq_k fun K11 h11 => ?_
    refine cReg ?_
    refine stP hf rfl rfl rfl (pM rfl) fun a hf => ?_
    refine stP hf rfl rfl rfl (pM rfl) fun a hf => ?_
    refine stP hf rfl rfl rfl (pM rfl) fun a hf => ?_
    refine stP hf rfl rfl rfl (pLenS Try.underlying22 rfl) fun a hf => ?_
    obtain ⟨r_5, hr_5, hF⟩ := bnd_some hF
    refine stC (vs := [.pointer (some ⟨b_1, 0, none⟩), .int .i64 ((r_1.1.length : Nat) : Int)]) (caps := []) hf rfl rfl rfl en_38 rfl rfl rfl rfl (kit_Stream_Next_ok (⟨numbers, r_1.2.1, r_1.2.2⟩ : kit_Stream) ((r_1.1.length : Nat) : Int) h_numbers (hc.pick k4) hr_5) ?_
    rintro _ w ⟨rfl, hc⟩
    refine ⟨_, rfl, fun a hf => ?_⟩
    obtain ⟨e_1, he_1, hF⟩ := bnd_some hF
    obtain ⟨g, rfl, qa, qr⟩ := row_atm hc m4 he_1
    refine stP hf rfl rfl rfl (pIA Try.underlying22 sz_77 rfl rfl qa) fun a hf => ?_
    refine stE hf hc rfl rfl rfl (eLdN (vs := [.int .i64 e_1.Stage, .int .i64 e_1.Flow]) ag_77 rfl rfl (cells_rw (sz := 2) (i := r_5.1.toNat) m4 qr (n := 2) (o' := 0) rfl)) fun a w hf hc => ?_
    refine stAl (cs := [.int .i64 0, .int .i64 0]) hf hc rfl rfl zr_77 rfl fun b_5 a w hf hc => ?_
    refine stSt (vs := [.int .i64 e_1.Stage, .int .i64 e_1.Flow]) hf hc rfl rfl rfl rfl sz_77 rfl rfl u0 fun w hc => ?_
    refine cNil ?_
    refine h11 _ _ ?_
    refine wp_seq_k fun K12 h12 => ?_
    refine cReg ?_
    refine stP hf rfl rfl rfl (pM rfl) fun a hf => ?_
    refine stP hf rfl rfl rfl (pFA fa_77_0 rfl) fun a hf => ?_
    refine stE hf hc rfl rfl rfl (eLd1 sc_3 rfl (cell_box m0 rfl)) fun a w hf hc => ?_
    refine stP hf rfl rfl rfl (pM rfl) fun a hf => ?_
    refine stP hf rfl rfl rfl (pAdd rfl rfl) fun a hf => ?_
    refine stP hf rfl rfl rfl (pM rfl) fun a hf => ?_
    obtain ⟨r_6, hr_6, hF⟩ := bnd_some hF
    refine stE hf hc rfl rfl rfl (eC (v := .tuple #[.agg #[.int .i64 r_6.1.N, .int .i64 r_6.1.D], .int .i64 r_6.2]) (vs := [.slice (some ⟨g, 0, none⟩) r_1.1.length c_1, .int .i64 (W (e_1.Stage + (W (((W (by_)).tmod 100) - 50)))), .int .i64 (W (((W (by_)).tmod 100) - 50))]) (caps := []) en_17 rfl rfl rfl rfl (fun w hc => by obtain ⟨G1, hle1, hrd1, hc, hth1⟩ := lend hc k5; exact (shift_Means_ok r_1.1 (W (e_1.Stage + (W (((W (by_)).tmod 100) - 50)))) (W (((W (by_)).tmod 100) - 50)) hrd1 hc hr_6).mono fun e w h => ⟨h.1, ((hth1 _ _ h.2).unpick k5)⟩)) fun a w hf hc => ?_
    refine stP hf rfl rfl rfl (pM rfl) fun a hf => ?_
    refine stP hf rfl rfl rfl (pX rfl rfl) fun a hf => ?_
    refine stP hf rfl rfl rfl (pX rfl rfl) fun a hf => ?_
    refine stAl (cs := [.int .i64 0, .int .i64 0]) hf hc rfl rfl zr_37 rfl fun b_6 a w hf hc => ?_
    refine stSt (vs := [.int .i64 r_6.1.N, .int .i64 r_6.1.D]) hf hc rfl rfl rfl rfl sz_37 rfl rfl u0 fun w hc => ?_
    refine stP hf rfl rfl rfl (pA rfl) fun a hf => ?_
    refine cNil ?_
    refine h12 _ _ ?_
    refine wp_seq_k fun K13 h13 => ?_
    refine wp_seq_k fun K14 h14 => ?_
    refine cReg ?_
    refine stP hf rfl rfl rfl (pM rfl) fun a hf => ?_
    refine stP hf rfl rfl rfl (pNe rfl rfl) fun a hf => ?_
    refine stP hf rfl rfl rfl (pM rfl) fun a hf => ?_
    refine stCut 6 (fun a w => Has 289 a [(4, .int .u8 rise), (5, .int .u8 per), (14, .slice (some ⟨g, 0, none⟩) r_1.1.length c_1), (15, .int .i64 (W (((W (stage)).tmod 200) - 60))), (16, .int .i64 (W (((W (by_)).tmod 100) - 50))), (18, .pointer (some ⟨b_2, 0, none⟩)), (19, .int .i64 r_6.2), (24, .pointer (some ⟨b_5, 0, none⟩)), (25, .pointer (some ⟨b_6, 0, none⟩)), (134, .int .i64 r_6.2), (135, .bool (r_6.2 != 0)), (136, .bool (r_6.2 != 0)), (142, .bool ((r_6.2 != 0) || (!(r_6.1.N == e_1.Flow && r_6.1.D == 1))))] ∧ Ctx G (.box b_6 [.int .i64 r_6.1.N, .int .i64 r_6.1.D] 37 :: .box b_5 [.int .i64 e_1.Stage, .int .i64 e_1.Flow] 77 :: .box b_1 [.slice numbers_p numbers.length numbers_c, .int .i64 r_5.2.1, .int .i64 r_5.2.2] 151 :: .box b_4 [.int .i64 r_4.1.N, .int .i64 r_4.1.D] 37 :: .box b_3 [.int .i64 r_3.1.N, .int .i64 r_3.1.D] 37 :: .box b_2 [.int .i64 r_2.1.N, .int .i64 r_2.1.D] 37 :: .row (some ⟨g, 0, none⟩) c_1 (r_1.1.map enc_shift_Mark) 77 2 :: Lf) w) ?_ ?_
    · cases hb : (r_6.2 != 0)
      · rw [hb] at hf
        refine stE hf hc rfl rfl rfl (eLdN (vs := [.int .i64 r_6.1.N, .int .i64 r_6.1.D]) ag_37 rfl rfl (cells_box (n := 2) m0 rfl)) fun a w hf hc => ?_
        refine stP hf rfl rfl rfl (pFA fa_77_1 rfl) fun a hf => ?_
        refine stE hf hc rfl rfl rfl (eLd1 sc_3 rfl (cell_box m1 rfl)) fun a w hf hc => ?_
        refine stP hf rfl rfl rfl (pBuildS (cells := [.int .i64 e_1.Flow, .int .i64 1]) bt_37 rfl rfl) fun a hf => ?_
        refine stP hf rfl rfl rfl (pNeA ge_37 rfl rfl (eqs_37 _ _ _ _)) fun a hf => ?_
        refine stP hf rfl rfl rfl (pPf rfl rfl) fun a hf => ?_
        exact cNil ⟨hf.keep ⟨rfl, rfl, rfl, rfl, rfl, rfl, rfl, rfl, rfl, rfl, rfl, rfl, rfl, trivial⟩, hc⟩
      · rw [hb] at hf
        refine stS hf rfl rfl rfl fun a hf => ?_
        refine stS hf rfl rfl rfl fun a hf => ?_
        refine stS hf rfl rfl rfl fun a hf => ?_
        refine stS hf rfl rfl rfl fun a hf => ?_
        refine stS hf rfl rfl rfl fun a hf => ?_
        refine stP hf rfl rfl rfl (pPt rfl rfl) fun a hf => ?_
        exact cNil ⟨hf.keep ⟨rfl, rfl, rfl, rfl, rfl, rfl, rfl, rfl, rfl, rfl, rfl, rfl, rfl, trivial⟩, hc⟩
    intro a w ⟨hf, hc⟩
    refine cNil ?_
    refine h14 _ _ ?_
    refine cCond (b := ((r_6.2 != 0) || (!(r_6.1.N == e_1.Flow && r_6.1.D == 1)))) hf rfl (fun hb => ?_) (fun hb => ?_)
    · replace hF := condT hb hF
      clear hb
      refine wp_seq_k fun K15 h15 => ?_
      refine cReg ?_
      refine stP hf rfl rfl rfl (pA rfl) fun a hf => ?_
      refine cNil ?_
      refine h15 _ _ ?_
      refine wp_ret ?_
      refine xThenR ?_
      obtain rfl := Option.some.inj hF
      replace hc := hc.drop k6
      replace hc := hc.drop k5
      replace hc := hc.drop k4
      replace hc := hc.drop k3
      replace hc := hc.drop k2
      replace hc := hc.drop k1
      replace hc := hc.drop k0
      exact fnOut1 (by simp) rfl Try.results7 hf hc (show look _ 12 = _ from rfl) ⟨rfl, hc⟩
    · replace hF := condF hb hF
      clear hb
      refine wp_skip ?_
      refine h13 _ _ ?_
      refine wp_seq_k fun K16 h16 => ?_
      refine cReg ?_
      refine stP hf rfl rfl rfl (pM rfl) fun a hf => ?_
      refine stP hf rfl rfl rfl (pM rfl) fun a hf => ?_
      refine stP hf rfl rfl rfl (pM rfl) fun a hf => ?_
      refine stP hf rfl rfl rfl (pM rfl) fun a hf => ?_
      refine stP hf rfl rfl rfl (pCv Try.underlying5 Try.underlying3 rfl) fun a hf => ?_
      refine stP hf rfl rfl rfl (pM rfl) fun a hf => ?_
      refine stP hf rfl rfl rfl (pCv Try.underlying5 Try.underlying3 rfl) fun a hf => ?_
      obtain ⟨r_7, hr_7, hF⟩ := bnd_some hF
      refine stE hf hc rfl rfl rfl (eC (v := .tuple #[.agg #[.int .i64 r_7.1.N, .int .i64 r_7.1.D], .int .i64 r_7.2]) (vs := [.slice (some ⟨g, 0, none⟩) r_1.1.length c_1, .int .i64 (W (((W (stage)).tmod 200) - 60)), .int .i64 (W (((W (by_)).tmod 100) - 50)), .int .i64 (W (rise)), .int .i64 (W (per))]) (caps := []) en_20 rfl rfl rfl rfl (fun w hc => by obtain ⟨G1, hle1, hrd1, hc, hth1⟩ := lend hc k6; exact (shift_Rising_ok r_1.1 (W (((W (stage)).tmod 200) - 60)) (W (((W (by_)).tmod 100) - 50)) (W (rise)) (W (per)) hrd1 hc hr_7).mono fun e w h => ⟨h.1, ((hth1 _ _ h.2).unpick k6)⟩)) fun a w hf hc => ?_
      refine stP hf rfl rfl rfl (pM rfl) fun a hf => ?_
      refine stP hf rfl rfl rfl (pX rfl rfl) fun a hf => ?_
      refine stP hf rfl rfl rfl (pX rfl rfl) fun a hf => ?_
      refine stAl (cs := [.int .i64 0, .int .i64 0]) hf hc rfl rfl zr_37 rfl fun b_7 a w hf hc => ?_
      refine stSt (vs := [.int .i64 r_7.1.N, .int .i64 r_7.1.D]) hf hc rfl rfl rfl rfl sz_37 rfl rfl u0 fun w hc => ?_
      refine stP hf rfl rfl rfl (pA rfl) fun a hf => ?_
      refine cNil ?_
      refine h16 _ _ ?_
      refine wp_seq_k fun K17 h17 => ?_
      refine cReg ?_
      refine stP hf rfl rfl rfl (pM rfl) fun a hf => ?_
      refine stP hf rfl rfl rfl (pM rfl) fun a hf => ?_
      refine stP hf rfl rfl rfl (pM rfl) fun a hf => ?_
      refine stP hf rfl rfl rfl (pM rfl) fun a hf => ?_
      refine stP hf rfl rfl rfl (pCv Try.underlying5 Try.underlying3 rfl) fun a hf => ?_
      refine stP hf rfl rfl rfl (pNeg rfl) fun a hf => ?_
      refine stP hf rfl rfl rfl (pM rfl) fun a hf => ?_
      refine stP hf rfl rfl rfl (pCv Try.underlying5 Try.underlying3 rfl) fun a hf => ?_
      obtain ⟨r_8, hr_8, hF⟩ := bnd_some hF
      refine stE hf hc rfl rfl rfl (eC (v := .tuple #[.agg #[.int .i64 r_8.1.N, .int .i64 r_8.1.D], .int .i64 r_8.2]) (vs := [.slice (some ⟨g, 0, none⟩) r_1.1.length c_1, .int .i64 (W (((W (stage)).tmod 200) - 60)), .int .i64 (W (((W (by_)).tmod 100) - 50)), .int .i64 (W (0 - (W (rise)))), .int .i64 (W (per))]) (caps := []) en_20 rfl rfl rfl rfl (fun w hc => by obtain ⟨G1, hle1, hrd1, hc, hth1⟩ := lend hc k7; exact (shift_Rising_ok r_1.1 (W (((W (stage)).tmod 200) - 60)) (W (((W (by_)).tmod 100) - 50)) (W (0 - (W (rise)))) (W (per)) hrd1 hc hr_8).mono fun e w h => ⟨h.1, ((hth1 _ _ h.2).unpick k7)⟩)) fun a w hf hc => ?_
      refine stP hf rfl rfl rfl (pM rfl) fun a hf => ?_
      refine stP hf rfl rfl rfl (pX rfl rfl) fun a hf => ?_
      refine stP hf rfl rfl rfl (pX rfl rfl) fun a hf => ?_
      refine stAl (cs := [.int .i64 0, .int .i64 0]) hf hc rfl rfl zr_37 rfl fun b_8 a w hf hc => ?_
      refine stSt (vs := [.int .i64 r_8.1.N, .int .i64 r_8.1.D]) hf hc rfl rfl rfl rfl sz_37 rfl rfl u0 fun w hc => ?_
      refine stP hf rfl rfl rfl (pA rfl) fun a hf => ?_
      refine cNil ?_
      refine h17 _ _ ?_
      refine wp_seq_k fun K18 h18 => ?_
      refine wp_seq_k fun K19 h19 => ?_
      refine cReg ?_
      refine stP hf rfl rfl rfl (pM rfl) fun a hf => ?_
      refine stP hf rfl rfl rfl (pNe rfl rfl) fun a hf => ?_
      refine stP hf rfl rfl rfl (pM rfl) fun a hf => ?_
      refine stCut 3 (fun a w => Has 289 a [(14, .slice (some ⟨g, 0, none⟩) r_1.1.length c_1), (15, .int .i64 (W (((W (stage)).tmod 200) - 60))), (16, .int .i64 (W (((W (by_)).tmod 100) - 50))), (18, .pointer (some ⟨b_2, 0, none⟩)), (19, .int .i64 r_7.2), (26, .pointer (some ⟨b_7, 0, none⟩)), (27, .pointer (some ⟨b_8, 0, none⟩)), (21, .int .i64 r_8.2), (166, .int .i64 r_7.2), (167, .bool (r_7.2 != 0)), (168, .bool (r_7.2 != 0)), (171, .bool ((r_7.2 != 0) || (r_8.2 != 0)))] ∧ Ctx G (.box b_8 [.int .i64 r_8.1.N, .int .i64 r_8.1.D] 37 :: .box b_7 [.int .i64 r_7.1.N, .int .i64 r_7.1.D] 37 :: .box b_6 [.int .i64 r_6.1.N, .int .i64 r_6.1.D] 37 :: .box b_5 [.int .i64 e_1.Stage, .int .i64 e_1.Flow] 77 :: .box b_1 [.slice numbers_p numbers.length numbers_c, .int .i64 r_5.2.1, .int .i64 r_5.2.2] 151 :: .box b_4 [.int .i64 r_4.1.N, .int .i64 r_4.1.D] 37 :: .box b_3 [.int .i64 r_3.1.N, .int .i64 r_3.1.D] 37 :: .box b_2 [.int .i64 r_2.1.N, .int .i64 r_2.1.D] 37 :: .row (some ⟨g, 0, none⟩) c_1 (r_1.1.map enc_shift_Mark) 77 2 :: Lf) w) ?_ ?_
      · cases hb : (r_7.2 != 0)
        · rw [hb] at hf
          refine stP hf rfl rfl rfl (pM rfl) fun a hf => ?_
          refine stP hf rfl rfl rfl (pNe rfl rfl) fun a hf => ?_
          refine stP hf rfl rfl rfl (pPf rfl rfl) fun a hf => ?_
          exact cNil ⟨hf.keep ⟨rfl, rfl, rfl, rfl, rfl, rfl, rfl, rfl, rfl, rfl, rfl, rfl, trivial⟩, hc⟩
        · rw [hb] at hf
          refine stS hf rfl rfl rfl fun a hf => ?_
          refine stS hf rfl rfl rfl fun a hf => ?_
          refine stP hf rfl rfl rfl (pPt rfl rfl) fun a hf => ?_
          exact cNil ⟨hf.keep ⟨rfl, rfl, rfl, rfl, rfl, rfl, rfl, rfl, rfl, rfl, rfl, rfl, trivial⟩, hc⟩
      intro a w ⟨hf, hc⟩
      refine stP hf rfl rfl rfl (pM rfl) fun a hf => ?_
      refine stCut 4 (fun a w => Has 289 a [(14, .slice (some ⟨g, 0, none⟩) r_1.1.length c_1), (15, .int .i64 (W (((W (stage)).tmod 200) - 60))), (16, .int .i64 (W (((W (by_)).tmod 100) - 50))), (18, .pointer (some ⟨b_2, 0, none⟩)), (19, .int .i64 r_7.2), (26, .pointer (some ⟨b_7, 0, none⟩)), (27, .pointer (some ⟨b_8, 0, none⟩)), (21, .int .i64 r_8.2), (166, .int .i64 r_7.2), (167, .bool (r_7.2 != 0)), (168, .bool (r_7.2 != 0)), (171, .bool ((r_7.2 != 0) || (r_8.2 != 0))), (172, .bool ((r_7.2 != 0) || (r_8.2 != 0))), (176, .bool (((r_7.2 != 0) || (r_8.2 != 0)) || (decide (r_7.1.D < 1))))] ∧ Ctx G (.box b_8 [.int .i64 r_8.1.N, .int .i64 r_8.1.D] 37 :: .box b_7 [.int .i64 r_7.1.N, .int .i64 r_7.1.D] 37 :: .box b_6 [.int .i64 r_6.1.N, .int .i64 r_6.1.D] 37 :: .box b_5 [.int .i64 e_1.Stage, .int .i64 e_1.Flow] 77 :: .box b_1 [.slice numbers_p numbers.length numbers_c, .int .i64 r_5.2.1, .int .i64 r_5.2.2] 151 :: .box b_4 [.int .i64 r_4.1.N, .int .i64 r_4.1.D] 37 :: .box b_3 [.int .i64 r_3.1.N, .int .i64 r_3.1.D] 37 :: .box b_2 [.int .i64 r_2.1.N, .int .i64 r_2.1.D] 37 :: .row (some ⟨g, 0, none⟩) c_1 (r_1.1.map enc_shift_Mark) 77 2 :: Lf) w) ?_ ?_
      · cases hb : ((r_7.2 != 0) || (r_8.2 != 0))
        · rw [hb] at hf
          refine stP hf rfl rfl rfl (pFA fa_37_1 rfl) fun a hf => ?_
          refine stE hf hc rfl rfl rfl (eLd1 sc_3 rfl (cell_box m1 rfl)) fun a w hf hc => ?_
          refine stP hf rfl rfl rfl (pLt rfl rfl) fun a hf => ?_
          refine stP hf rfl rfl rfl (pPf rfl rfl) fun a hf => ?_
          exact cNil ⟨hf.keep ⟨rfl, rfl, rfl, rfl, rfl, rfl, rfl, rfl, rfl, rfl, rfl, rfl, rfl, rfl, trivial⟩, hc⟩
        · rw [hb] at hf
          refine stS hf rfl rfl rfl fun a hf => ?_
          refine stS hf rfl rfl rfl fun a hf => ?_
          refine stS hf rfl rfl rfl fun a hf => ?_
          refine stP hf rfl rfl rfl (pPt rfl rfl) fun a hf => ?_
          exact cNil ⟨hf.keep ⟨rfl, rfl, rfl, rfl, rfl, rfl, rfl, rfl, rfl, rfl, rfl, rfl, rfl, rfl, trivial⟩, hc⟩
      intro a w ⟨hf, hc⟩
      refine stP hf rfl rfl rfl (pM rfl) fun a hf => ?_
      refine stCut 4 (fun a w => Has 289 a [(14, .slice (some ⟨g, 0, none⟩) r_1.1.length c_1), (15, .int .i64 (W (((W (stage)).tmod 200) - 60))), (16, .int .i64 (W (((W (by_)).tmod 100) - 50))), (18, .pointer (some ⟨b_2, 0, none⟩)), (19, .int .i64 r_7.2), (26, .pointer (some ⟨b_7, 0, none⟩)), (27, .pointer (some ⟨b_8, 0, none⟩)), (21, .int .i64 r_8.2), (166, .int .i64 r_7.2), (167, .bool (r_7.2 != 0)), (168, .bool (r_7.2 != 0)), (171, .bool ((r_7.2 != 0) || (r_8.2 != 0))), (172, .bool ((r_7.2 != 0) || (r_8.2 != 0))), (176, .bool (((r_7.2 != 0) || (r_8.2 != 0)) || (decide (r_7.1.D < 1)))), (177, .bool (((r_7.2 != 0) || (r_8.2 != 0)) || (decide (r_7.1.D < 1)))), (181, .bool ((((r_7.2 != 0) || (r_8.2 != 0)) || (decide (r_7.1.D < 1))) || (decide (r_8.1.D < 1))))] ∧ Ctx G (.box b_8 [.int .i64 r_8.1.N, .int .i64 r_8.1.D] 37 :: .box b_7 [.int .i64 r_7.1.N, .int .i64 r_7.1.D] 37 :: .box b_6 [.int .i64 r_6.1.N, .int .i64 r_6.1.D] 37 :: .box b_5 [.int .i64 e_1.Stage, .int .i64 e_1.Flow] 77 :: .box b_1 [.slice numbers_p numbers.length numbers_c, .int .i64 r_5.2.1, .int .i64 r_5.2.2] 151 :: .box b_4 [.int .i64 r_4.1.N, .int .i64 r_4.1.D] 37 :: .box b_3 [.int .i64 r_3.1.N, .int .i64 r_3.1.D] 37 :: .box b_2 [.int .i64 r_2.1.N, .int .i64 r_2.1.D] 37 :: .row (some ⟨g, 0, none⟩) c_1 (r_1.1.map enc_shift_Mark) 77 2 :: Lf) w) ?_ ?_
      · cases hb : (((r_7.2 != 0) || (r_8.2 != 0)) || (decide (r_7.1.D < 1)))
        · rw [hb] at hf
          refine stP hf rfl rfl rfl (pFA fa_37_1 rfl) fun a hf => ?_
          refine stE hf hc rfl rfl rfl (eLd1 sc_3 rfl (cell_box m0 rfl)) fun a w hf hc => ?_
          refine stP hf rfl rfl rfl (pLt rfl rfl) fun a hf => ?_
          refine stP hf rfl rfl rfl (pPf rfl rfl) fun a hf => ?_
          exact cNil ⟨hf.keep ⟨rfl, rfl, rfl, rfl, rfl, rfl, rfl, rfl, rfl, rfl, rfl, rfl, rfl, rfl, rfl, rfl, trivial⟩, hc⟩
        · rw [hb] at hf
          refine stS hf rfl rfl rfl fun a hf => ?_
          refine stS hf rfl rfl rfl fun a hf => ?_
          refine stS hf rfl rfl rfl fun a hf => ?_
          refine stP hf rfl rfl rfl (pPt rfl rfl) fun a hf => ?_
          exact cNil ⟨hf.keep ⟨rfl, rfl, rfl, rfl, rfl, rfl, rfl, rfl, rfl, rfl, rfl, rfl, rfl, rfl, rfl, rfl, trivial⟩, hc⟩
      intro a w ⟨hf, hc⟩
      refine stP hf rfl rfl rfl (pM rfl) fun a hf => ?_
      refine stCut 4 (fun a w => Has 289 a [(14, .slice (some ⟨g, 0, none⟩) r_1.1.length c_1), (15, .int .i64 (W (((W (stage)).tmod 200) - 60))), (16, .int .i64 (W (((W (by_)).tmod 100) - 50))), (18, .pointer (some ⟨b_2, 0, none⟩)), (19, .int .i64 r_7.2), (26, .pointer (some ⟨b_7, 0, none⟩)), (27, .pointer (some ⟨b_8, 0, none⟩)), (21, .int .i64 r_8.2), (166, .int .i64 r_7.2), (167, .bool (r_7.2 != 0)), (168, .bool (r_7.2 != 0)), (171, .bool ((r_7.2 != 0) || (r_8.2 != 0))), (172, .bool ((r_7.2 != 0) || (r_8.2 != 0))), (176, .bool (((r_7.2 != 0) || (r_8.2 != 0)) || (decide (r_7.1.D < 1)))), (177, .bool (((r_7.2 != 0) || (r_8.2 != 0)) || (decide (r_7.1.D < 1)))), (181, .bool ((((r_7.2 != 0) || (r_8.2 != 0)) || (decide (r_7.1.D < 1))) || (decide (r_8.1.D < 1)))), (182, .bool ((((r_7.2 != 0) || (r_8.2 != 0)) || (decide (r_7.1.D < 1))) || (decide (r_8.1.D < 1)))), (186, .bool (((((r_7.2 != 0) || (r_8.2 != 0)) || (decide (r_7.1.D < 1))) || (decide (r_8.1.D < 1))) || (decide (r_8.1.N < 0))))] ∧ Ctx G (.box b_8 [.int .i64 r_8.1.N, .int .i64 r_8.1.D] 37 :: .box b_7 [.int .i64 r_7.1.N, .int .i64 r_7.1.D] 37 :: .box b_6 [.int .i64 r_6.1.N, .int .i64 r_6.1.D] 37 :: .box b_5 [.int .i64 e_1.Stage, .int .i64 e_1.Flow] 77 :: .box b_1 [.slice numbers_p numbers.length numbers_c, .int .i64 r_5.2.1, .int .i64 r_5.2.2] 151 :: .box b_4 [.int .i64 r_4.1.N, .int .i64 r_4.1.D] 37 :: .box b_3 [.int .i64 r_3.1.N, .int .i64 r_3.1.D] 37 :: .box b_2 [.int .i64 r_2.1.N, .int .i64 r_2.1.D] 37 :: .row (some ⟨g, 0, none⟩) c_1 (r_1.1.map enc_shift_Mark) 77 2 :: Lf) w) ?_ ?_
      · cases hb : ((((r_7.2 != 0) || (r_8.2 != 0)) || (decide (r_7.1.D < 1))) || (decide (r_8.1.D < 1)))
        · rw [hb] at hf
          refine stP hf rfl rfl rfl (pFA fa_37_0 rfl) fun a hf => ?_
          refine stE hf hc rfl rfl rfl (eLd1 sc_3 rfl (cell_box m0 rfl)) fun a w hf hc => ?_
          refine stP hf rfl rfl rfl (pLt rfl rfl) fun a hf => ?_
          refine stP hf rfl rfl rfl (pPf rfl rfl) fun a hf => ?_
          exact cNil ⟨hf.keep ⟨rfl, rfl, rfl, rfl, rfl, rfl, rfl, rfl, rfl, rfl, rfl, rfl, rfl, rfl, rfl, rfl, rfl, rfl, trivial⟩, hc⟩
        · rw [hb] at hf
          refine stS hf rfl rfl rfl fun a hf => ?_
          refine stS hf rfl rfl rfl fun a hf => ?_
          refine stS hf rfl rfl rfl fun a hf => ?_
          refine stP hf rfl rfl rfl (pPt rfl rfl) fun a hf => ?_
          exact cNil ⟨hf.keep ⟨rfl, rfl, rfl, rfl, rfl, rfl, rfl, rfl, rfl, rfl, rfl, rfl, rfl, rfl, rfl, rfl, rfl, rfl, trivial⟩, hc⟩
      intro a w ⟨hf, hc⟩
      refine stP hf rfl rfl rfl (pM rfl) fun a hf => ?_
      refine stCut 12 (fun a w => Has 289 a [(14, .slice (some ⟨g, 0, none⟩) r_1.1.length c_1), (15, .int .i64 (W (((W (stage)).tmod 200) - 60))), (16, .int .i64 (W (((W (by_)).tmod 100) - 50))), (18, .pointer (some ⟨b_2, 0, none⟩)), (19, .int .i64 r_7.2), (26, .pointer (some ⟨b_7, 0, none⟩)), (27, .pointer (some ⟨b_8, 0, none⟩)), (21, .int .i64 r_8.2), (166, .int .i64 r_7.2), (167, .bool (r_7.2 != 0)), (168, .bool (r_7.2 != 0)), (171, .bool ((r_7.2 != 0) || (r_8.2 != 0))), (172, .bool ((r_7.2 != 0) || (r_8.2 != 0))), (176, .bool (((r_7.2 != 0) || (r_8.2 != 0)) || (decide (r_7.1.D < 1)))), (177, .bool (((r_7.2 != 0) || (r_8.2 != 0)) || (decide (r_7.1.D < 1)))), (181, .bool ((((r_7.2 != 0) || (r_8.2 != 0)) || (decide (r_7.1.D < 1))) || (decide (r_8.1.D < 1)))), (182, .bool ((((r_7.2 != 0) || (r_8.2 != 0)) || (decide (r_7.1.D < 1))) || (decide (r_8.1.D < 1)))), (186, .bool (((((r_7.2 != 0) || (r_8.2 != 0)) || (decide (r_7.1.D < 1))) || (decide (r_8.1.D < 1))) || (decide (r_8.1.N < 0)))), (187, .bool (((((r_7.2 != 0) || (r_8.2 != 0)) || (decide (r_7.1.D < 1))) || (decide (r_8.1.D < 1))) || (decide (r_8.1.N < 0)))), (199, .bool ((((((r_7.2 != 0) || (r_8.2 != 0)) || (decide (r_7.1.D < 1))) || (decide (r_8.1.D < 1))) || (decide (r_8.1.N < 0))) || (decide ((W (r_7.1.N * r_2.1.D)) < (W (r_2.1.N * r_7.1.D))))))] ∧ Ctx G (.box b_8 [.int .i64 r_8.1.N, .int .i64 r_8.1.D] 37 :: .box b_7 [.int .i64 r_7.1.N, .int .i64 r_7.1.D] 37 :: .box b_6 [.int .i64 r_6.1.N, .int .i64 r_6.1.D] 37 :: .box b_5 [.int .i64 e_1.Stage, .int .i64 e_1.Flow] 77 :: .box b_1 [.slice numbers_p numbers.length numbers_c, .int .i64 r_5.2.1, .int .i64 r_5.2.2] 151 :: .box b_4 [.int .i64 r_4.1.N, .int .i64 r_4.1.D] 37 :: .box b_3 [.int .i64 r_3.1.N, .int .i64 r_3.1.D] 37 :: .box b_2 [.int .i64 r_2.1.N, .int .i64 r_2.1.D] 37 :: .row (some ⟨g, 0, none⟩) c_1 (r_1.1.map enc_shift_Mark) 77 2 :: Lf) w) ?_ ?_
      · cases hb : (((((r_7.2 != 0) || (r_8.2 != 0)) || (decide (r_7.1.D < 1))) || (decide (r_8.1.D < 1))) || (decide (r_8.1.N < 0)))
        · rw [hb] at hf
          refine stP hf rfl rfl rfl (pFA fa_37_0 rfl) fun a hf => ?_
          refine stE hf hc rfl rfl rfl (eLd1 sc_3 rfl (cell_box m1 rfl)) fun a w hf hc => ?_
          refine stP hf rfl rfl rfl (pFA fa_37_1 rfl) fun a hf => ?_
          refine stE hf hc rfl rfl rfl (eLd1 sc_3 rfl (cell_box m7 rfl)) fun a w hf hc => ?_
          refine stP hf rfl rfl rfl (pMul rfl rfl) fun a hf => ?_
          refine stP hf rfl rfl rfl (pFA fa_37_0 rfl) fun a hf => ?_
          refine stE hf hc rfl rfl rfl (eLd1 sc_3 rfl (cell_box m7 rfl)) fun a w hf hc => ?_
          refine stP hf rfl rfl rfl (pFA fa_37_1 rfl) fun a hf => ?_
          refine stE hf hc rfl rfl rfl (eLd1 sc_3 rfl (cell_box m1 rfl)) fun a w hf hc => ?_
          refine stP hf rfl rfl rfl (pMul rfl rfl) fun a hf => ?_
          refine stP hf rfl rfl rfl (pLt rfl rfl) fun a hf => ?_
          refine stP hf rfl rfl rfl (pPf rfl rfl) fun a hf => ?_
          exact cNil ⟨hf.keep ⟨rfl, rfl, rfl, rfl, rfl, rfl, rfl, rfl, rfl, rfl, rfl, rfl, rfl, rfl, rfl, rfl, rfl, rfl, rfl, rfl, trivial⟩, hc⟩
        · rw [hb] at hf
          refine stS hf rfl rfl rfl fun a hf => ?_
          refine stS hf rfl rfl rfl fun a hf => ?_
          refine stS hf rfl rfl rfl fun a hf => ?_
          refine stS hf rfl rfl rfl fun a hf => ?_
          refine stS hf rfl rfl rfl fun a hf => ?_
          refine stS hf rfl rfl rfl fun a hf => ?_
          refine stS hf rfl rfl rfl fun a hf => ?_
          refine stS hf rfl rfl rfl fun a hf => ?_
          refine stS hf rfl rfl rfl fun a hf => ?_
          refine stS hf rfl rfl rfl fun a hf => ?_
          refine stS hf rfl rfl rfl fun a hf => ?_
          refine stP hf rfl rfl rfl (pPt rfl rfl) fun a hf => ?_
          exact cNil ⟨hf.keep ⟨rfl, rfl, rfl, rfl, rfl, rfl, rfl, rfl, rfl, rfl, rfl, rfl, rfl, rfl, rfl, rfl, rfl, rfl, rfl, rfl, trivial⟩, hc⟩
      intro a w ⟨hf, hc⟩
      refine stP hf rfl rfl rfl (pM rfl) fun a hf => ?_
      refine stCut 12 (fun a w => Has 289 a [(14, .slice (some ⟨g, 0, none⟩) r_1.1.length c_1), (15, .int .i64 (W (((W (stage)).tmod 200) - 60))), (16, .int .i64 (W (((W (by_)).tmod 100) - 50))), (18, .pointer (some ⟨b_2, 0, none⟩)), (19, .int .i64 r_7.2), (26, .pointer (some ⟨b_7, 0, none⟩)), (27, .pointer (some ⟨b_8, 0, none⟩)), (21, .int .i64 r_8.2), (166, .int .i64 r_7.2), (167, .bool (r_7.2 != 0)), (168, .bool (r_7.2 != 0)), (171, .bool ((r_7.2 != 0) || (r_8.2 != 0))), (172, .bool ((r_7.2 != 0) || (r_8.2 != 0))), (176, .bool (((r_7.2 != 0) || (r_8.2 != 0)) || (decide (r_7.1.D < 1)))), (177, .bool (((r_7.2 != 0) || (r_8.2 != 0)) || (decide (r_7.1.D < 1)))), (181, .bool ((((r_7.2 != 0) || (r_8.2 != 0)) || (decide (r_7.1.D < 1))) || (decide (r_8.1.D < 1)))), (182, .bool ((((r_7.2 != 0) || (r_8.2 != 0)) || (decide (r_7.1.D < 1))) || (decide (r_8.1.D < 1)))), (186, .bool (((((r_7.2 != 0) || (r_8.2 != 0)) || (decide (r_7.1.D < 1))) || (decide (r_8.1.D < 1))) || (decide (r_8.1.N < 0)))), (187, .bool (((((r_7.2 != 0) || (r_8.2 != 0)) || (decide (r_7.1.D < 1))) || (decide (r_8.1.D < 1))) || (decide (r_8.1.N < 0)))), (199, .bool ((((((r_7.2 != 0) || (r_8.2 != 0)) || (decide (r_7.1.D < 1))) || (decide (r_8.1.D < 1))) || (decide (r_8.1.N < 0))) || (decide ((W (r_7.1.N * r_2.1.D)) < (W (r_2.1.N * r_7.1.D)))))), (200, .bool ((((((r_7.2 != 0) || (r_8.2 != 0)) || (decide (r_7.1.D < 1))) || (decide (r_8.1.D < 1))) || (decide (r_8.1.N < 0))) || (decide ((W (r_7.1.N * r_2.1.D)) < (W (r_2.1.N * r_7.1.D)))))), (212, .bool (((((((r_7.2 != 0) || (r_8.2 != 0)) || (decide (r_7.1.D < 1))) || (decide (r_8.1.D < 1))) || (decide (r_8.1.N < 0))) || (decide ((W (r_7.1.N * r_2.1.D)) < (W (r_2.1.N * r_7.1.D))))) || (decide ((W (r_2.1.N * r_8.1.D)) < (W (r_8.1.N * r_2.1.D))))))] ∧ Ctx G (.box b_8 [.int .i64 r_8.1.N, .int .i64 r_8.1.D] 37 :: .box b_7 [.int .i64 r_7.1.N, .int .i64 r_7.1.D] 37 :: .box b_6 [.int .i64 r_6.1.N, .int .i64 r_6.1.D] 37 :: .box b_5 [.int .i64 e_1.Stage, .int .i64 e_1.Flow] 77 :: .box b_1 [.slice numbers_p numbers.length numbers_c, .int .i64 r_5.2.1, .int .i64 r_5.2.2] 151 :: .box b_4 [.int .i64 r_4.1.N, .int .i64 r_4.1.D] 37 :: .box b_3 [.int .i64 r_3.1.N, .int .i64 r_3.1.D] 37 :: .box b_2 [.int .i64 r_2.1.N, .int .i64 r_2.1.D] 37 :: .row (some ⟨g, 0, none⟩) c_1 (r_1.1.map enc_shift_Mark) 77 2 :: Lf) w) ?_ ?_
      · cases hb : ((((((r_7.2 != 0) || (r_8.2 != 0)) || (decide (r_7.1.D < 1))) || (decide (r_8.1.D < 1))) || (decide (r_8.1.N < 0))) || (decide ((W (r_7.1.N * r_2.1.D)) < (W (r_2.1.N * r_7.1.D)))))
        · rw [hb] at hf
          refine stP hf rfl rfl rfl (pFA fa_37_0 rfl) fun a hf => ?_
          refine stE hf hc rfl rfl rfl (eLd1 sc_3 rfl (cell_box m0 rfl)) fun a w hf hc => ?_
          refine stP hf rfl rfl rfl (pFA fa_37_1 rfl) fun a hf => ?_
          refine stE hf hc rfl rfl rfl (eLd1 sc_3 rfl (cell_box m7 rfl)) fun a w hf hc => ?_
          refine stP hf rfl rfl rfl (pMul rfl rfl) fun a hf => ?_
          refine stP hf rfl rfl rfl (pFA fa_37_0 rfl) fun a hf => ?_
          refine stE hf hc rfl rfl rfl (eLd1 sc_3 rfl (cell_box m7 rfl)) fun a w hf hc => ?_
          refine stP hf rfl rfl rfl (pFA fa_37_1 rfl) fun a hf => ?_
          refine stE hf hc rfl rfl rfl (eLd1 sc_3 rfl (cell_box m0 rfl)) fun a w hf hc => ?_
          refine stP hf rfl rfl rfl (pMul rfl rfl) fun a hf => ?_
          refine stP hf rfl rfl rfl (pGt rfl rfl) fun a hf => ?_
          refine stP hf rfl rfl rfl (pPf rfl rfl) fun a hf => ?_
          exact cNil ⟨hf.keep ⟨rfl, rfl, rfl, rfl, rfl, rfl, rfl, rfl, rfl, rfl, rfl, rfl, rfl, rfl, rfl, rfl, rfl, rfl, rfl, rfl, rfl, rfl, trivial⟩, hc⟩
        · rw [hb] at hf
          refine stS hf rfl rfl rfl fun a hf => ?_
          refine stS hf rfl rfl rfl fun a hf => ?_
          refine stS hf rfl rfl rfl fun a hf => ?_
          refine stS hf rfl rfl rfl fun a hf => ?_
          refine stS hf rfl rfl rfl fun a hf => ?_
          refine stS hf rfl rfl rfl fun a hf => ?_
          refine stS hf rfl rfl rfl fun a hf => ?_
          refine stS hf rfl rfl rfl fun a hf => ?_
          refine stS hf rfl rfl rfl fun a hf => ?_
          refine stS hf rfl rfl rfl fun a hf => ?_
          refine stS hf rfl rfl rfl fun a hf => ?_
          refine stP hf rfl rfl rfl (pPt rfl rfl) fun a hf => ?_
          exact cNil ⟨hf.keep ⟨rfl, rfl, rfl, rfl, rfl, rfl, rfl, rfl, rfl, rfl, rfl, rfl, rfl, rfl, rfl, rfl, rfl, rfl, rfl, rfl, rfl, rfl, trivial⟩, hc⟩
      intro a w ⟨hf, hc⟩
      refine cNil ?_
      refine h19 _ _ ?_
      refine cCond (b := (((((((r_7.2 != 0) || (r_8.2 != 0)) || (decide (r_7.1.D < 1))) || (decide (r_8.1.D < 1))) || (decide (r_8.1.N < 0))) || (decide ((W (r_7.1.N * r_2.1.D)) < (W (r_2.1.N * r_7.1.D))))) || (decide ((W (r_2.1.N * r_8.1.D)) < (W (r_8.1.N * r_2.1.D)))))) hf rfl (fun hb => ?_) (fun hb => ?_)
      · replace hF := condT hb hF
        clear hb
        refine wp_seq_k fun K20 h20 => ?_
        refine cReg ?_
        refine stP hf rfl rfl rfl (pA rfl) fun a hf => ?_
        refine cNil ?_
        refine h20 _ _ ?_
        refine wp_ret ?_
        refine xThenR ?_
        obtain rfl := Option.some.inj hF
        replace hc := hc.drop k8
        replace hc := hc.drop k7
        replace hc := hc.drop k6
        replace hc := hc.drop k5
        replace hc := hc.drop k4
        replace hc := hc.drop k3
        replace hc := hc.drop k2
        replace hc := hc.drop k1
        replace hc := hc.drop k0
        exact fnOut1 (by simp) rfl Try.results7 hf hc (show look _ 12 = _ from rfl) ⟨rfl, hc⟩
      · replace hF := condF hb hF
        clear hb
        refine wp_skip ?_
        refine h18 _ _ ?_
        refine wp_seq_k fun K21 h21 => ?_
        refine wp_seq_k fun K22 h22 => ?_
        refine cReg ?_
        refine stP hf rfl rfl rfl (pA rfl) fun a hf => ?_
        refine cNil ?_
        refine h22 _ _ ?_
        refine wp_block ?_
        obtain ⟨x23, hx23, hF⟩ := bnd_some hF
        let S23 : Int → Act → World → Prop := (fun (zz : Int) a w => Has 289 a [(14, .slice (some ⟨g, 0, none⟩) r_1.1.length c_1), (15, .int .i64 (W (((W (stage)).tmod 200) - 60))), (16, .int .i64 (W (((W (by_)).tmod 100) - 50))), (18, .pointer (some ⟨b_2, 0, none⟩)), (28, .int .i64 zz)] ∧ Ctx G (.box b_2 [.int .i64 r_2.1.N, .int .i64 r_2.1.D] 37 :: .row (some ⟨g, 0, none⟩) c_1 (r_1.1.map enc_shift_Mark) 77 2 :: Lf) w)
        have hr23 : ∀ (zz : Int) a w, x23 = .go zz → S23 zz a w → K21 a w := by
          rintro n a w rfl ⟨hf, hc⟩
          replace hF : _ = some res := hF
          refine h21 _ _ ?_
          refine wp_seq_k fun K24 h24 => ?_
          refine cReg ?_
          obtain ⟨r_9, hr_9, hF⟩ := bnd_some hF
          refine stE hf hc rfl rfl rfl (eC (v := .bool r_9) (vs := []) (caps := []) en_12 rfl rfl rfl rfl (fun w hc => law05_awake_ok hc hr_9)) fun a w hf hc => ?_
          refine stP hf rfl rfl rfl (pA rfl) fun a hf => ?_
          refine cNil ?_
          refine h24 _ _ ?_
          refine wp_ret ?_
          obtain rfl := Option.some.inj hF
          replace hc := hc.drop k1
          replace hc := hc.drop k0
          exact fnOut1 (by simp) rfl Try.results7 hf hc (show look _ 12 = _ from rfl) ⟨rfl, hc⟩
        have ho23 : ∀ r, x23 = .out r → r = res := by
          rintro r rfl
          exact Option.some.inj hF
        replace hc := hc.drop k6
        replace hc := hc.drop k5
        replace hc := hc.drop k4
        replace hc := hc.drop k3
        replace hc := hc.drop k2
        replace hc := hc.drop k1
        replace hc := hc.drop k0
        refine cLoop N (loopW (S := S23) (x := x23) ?_ N 1 _ _ ⟨hf.keep ⟨rfl, rfl, rfl, rfl, rfl, trivial⟩, hc⟩ hx23)
        clear hF hf hc
        rintro n st23 a w KB23 ⟨hf, hc⟩ hF hfin23 hK23
        unfold law05_ShiftMeant_b23 at hF
        refine wp_seq_k fun K25 h25 => ?_
        refine wp_seq_k fun K26 h26 => ?_
        refine cReg ?_
        refine stP hf rfl rfl rfl (pM rfl) fun a hf => ?_
        refine stP hf rfl rfl rfl (pM rfl) fun a hf => ?_
        refine stP hf rfl rfl rfl (pLenS Try.underlying22 rfl) fun a hf => ?_
        refine stP hf rfl rfl rfl (pLt rfl rfl) fun a hf => ?_
        refine cNil ?_
        refine h26 _ _ ?_
        refine cCond (b := (decide (n < ((r_1.1.length : Nat) : Int)))) hf rfl (fun hb => ?_) (fun hb => ?_)
        · replace hF := condT hb hF
          clear hb
          refine wp_skip ?_
          refine h25 _ _ ?_
          refine wp_seq_k fun K27 h27 => ?_
          refine wp_block ?_
          refine wp_seq_k fun K28 h28 => ?_
          obtain ⟨e_2, he_2, hF⟩ := bnd_some hF
          obtain ⟨qa_1, qr_1⟩ := row_atk hc m1 he_2
          obtain ⟨e_3, he_3, hF⟩ := bnd_some hF
          obtain ⟨qa_2, qr_2⟩ := row_atk hc m1 he_3
          replace hc := hc.nilRow 0 0
          replace hc := hc.nilRow 0 0
          refine regionE (fun θ => [⟨none, none, 14, .slice (some ⟨g, 0, none⟩) r_1.1.length c_1⟩, ⟨none, none, 15, .int .i64 (W (((W (stage)).tmod 200) - 60))⟩, ⟨none, none, 16, .int .i64 (W (((W (by_)).tmod 100) - 50))⟩, ⟨none, none, 18, .pointer (some ⟨b_2, 0, none⟩)⟩, ⟨none, none, 28, .int .i64 n⟩, ⟨some 0, none, 219, .slice (some ⟨g, 0, none⟩) r_1.1.length c_1⟩, ⟨some 1, none, 220, .int .i64 n⟩, ⟨some 2, none, 221, .int .i64 (W (n - 1))⟩, ⟨some 3, none, 222, .pointer (some ⟨g, (W (n - 1)).toNat * 2, none⟩)⟩, ⟨some 4, none, 223, .agg #[.int .i64 e_2.Stage, .int .i64 e_2.Flow]⟩, ⟨some 5, none, 224, .slice (some ⟨g, 0, none⟩) r_1.1.length c_1⟩, ⟨some 6, none, 225, .int .i64 n⟩, ⟨some 7, none, 226, .pointer (some ⟨g, n.toNat * 2, none⟩)⟩, ⟨some 8, none, 227, .agg #[.int .i64 e_3.Stage, .int .i64 e_3.Flow]⟩, ⟨some 9, none, 29, .pointer (some ⟨(θ 72).b, 0, none⟩)⟩, ⟨some 10, none, 30, .pointer (some ⟨(θ 80).b, 0, none⟩)⟩]) (fun E θ => (bif E 12 then .box (θ 80).b [.int .i64 e_3.Stage, .int .i64 e_3.Flow] 77 else bif E 10 then .box (θ 80).b [.int .i64 0, .int .i64 0] 77 else .row none 0 [] 0 0) :: (bif E 11 then .box (θ 72).b [.int .i64 e_2.Stage, .int .i64 e_2.Flow] 77 else bif E 9 then .box (θ 72).b [.int .i64 0, .int .i64 0] 77 else .row none 0 [] 0 0) :: .box b_2 [.int .i64 r_2.1.N, .int .i64 r_2.1.D] 37 :: .row (some ⟨g, 0, none⟩) c_1 (r_1.1.map enc_shift_Mark) 77 2 :: Lf) [(11, 9), (12, 10)] (fun a w => ∃ (b_11 : Nat) (b_12 : Nat), Has 289 a [(14, .slice (some ⟨g, 0, none⟩) r_1.1.length c_1), (15, .int .i64 (W (((W (stage)).tmod 200) - 60))), (16, .int .i64 (W (((W (by_)).tmod 100) - 50))), (18, .pointer (some ⟨b_2, 0, none⟩)), (28, .int .i64 n), (29, .pointer (some ⟨b_11, 0, none⟩)), (30, .pointer (some ⟨b_12, 0, none⟩))] ∧ Ctx G (.box b_12 [.int .i64 e_3.Stage, .int .i64 e_3.Flow] 77 :: .box b_11 [.int .i64 e_2.Stage, .int .i64 e_2.Flow] 77 :: .box b_2 [.int .i64 r_2.1.N, .int .i64 r_2.1.D] 37 :: .row (some ⟨g, 0, none⟩) c_1 (r_1.1.map enc_shift_Mark) 77 2 :: Lf) w) follows_mx (by kernel_rfl) (by kernel_rfl) (HasE.of hf ⟨rfl, rfl, rfl, rfl, rfl, trivial, trivial, trivial, trivial, trivial, trivial, trivial, trivial, trivial, trivial, trivial, trivial⟩) hc ⟨?_, ?_, ?_, ?_, ?_, ?_, ?_, ?_, ?_, ?_, ?_, ?_, ?_, trivial⟩ ?_ ?_
          · intro E θ a w hD hi hp he hc
            have hf := he.h0
            replace hf := hf.more he 0 rfl onT
            refine stP hf rfl rfl rfl (pM rfl) fun a hf => ?_
            refine cNil ?_
            refine xThenN ?_
            intro ds u hau
            refine ⟨θ, he.put0 hi hau hf rfl 5 rfl rfl, ?_⟩
            exact hc
          · intro E θ a w hD hi hp he hc
            have hf := he.h0
            replace hf := hf.more he 4 rfl onT
            refine stP hf rfl rfl rfl (pM rfl) fun a hf => ?_
            refine cNil ?_
            refine xThenN ?_
            intro ds u hau
            refine ⟨θ, he.put0 hi hau hf rfl 6 rfl rfl, ?_⟩
            exact hc
          · intro E θ a w hD hi hp he hc
            have e1 := hp.of (k := 1) rfl
            have hf := he.h0
            replace hf := hf.more he 6 rfl (onP e1)
            refine stP hf rfl rfl rfl (pSub rfl rfl) fun a hf => ?_
            refine cNil ?_
            refine xThenN ?_
            intro ds u hau
            refine ⟨θ, he.put0 hi hau hf rfl 7 rfl rfl, ?_⟩
            exact hc
          · intro E θ a w hD hi hp he hc
            have e0 := hp.of (k := 0) rfl
            have e2 := hp.of (k := 2) rfl
            have hf := he.h0
            replace hf := hf.more he 5 rfl (onP e0)
            replace hf := hf.more he 7 rfl (onP e2)
            refine stP hf rfl rfl rfl (pIA Try.underlying22 sz_77 rfl rfl qa_1) fun a hf => ?_
            refine cNil ?_
            refine xThenN ?_
            intro ds u hau
            refine ⟨θ, he.put0 hi hau hf rfl 8 rfl rfl, ?_⟩
            exact hc
          · intro E θ a w hD hi hp he hc
            have e3 := hp.of (k := 3) rfl
            have hf := he.h0
            replace hf := hf.more he 8 rfl (onP e3)
            refine stE hf hc rfl rfl rfl (eLdN (vs := [.int .i64 e_2.Stage, .int .i64 e_2.Flow]) ag_77 rfl rfl (cells_rw (sz := 2) (i := (W (n - 1)).toNat) m3 qr_1 (n := 2) (o' := 0) rfl)) fun a w hf hc => ?_
            refine cNil ?_
            refine xThenN ?_
            intro ds u hau
            refine ⟨θ, he.put0 hi hau hf rfl 9 rfl rfl, ?_⟩
            exact hc
          · intro E θ a w hD hi hp he hc
            have hf := he.h0
            replace hf := hf.more he 0 rfl onT
            refine stP hf rfl rfl rfl (pM rfl) fun a hf => ?_
            refine cNil ?_
            refine xThenN ?_
            intro ds u hau
            refine ⟨θ, he.put0 hi hau hf rfl 10 rfl rfl, ?_⟩
            exact hc
          · intro E θ a w hD hi hp he hc
            have hf := he.h0
            replace hf := hf.more he 4 rfl onT
            refine stP hf rfl rfl rfl (pM rfl) fun a hf => ?_
            refine cNil ?_
            refine xThenN ?_
            intro ds u hau
            refine ⟨θ, he.put0 hi hau hf rfl 11 rfl rfl, ?_⟩
            exact hc
          · intro E θ a w hD hi hp he hc
            have e5 := hp.of (k := 5) rfl
            have e6 := hp.of (k := 6) rfl
            have hf := he.h0
            replace hf := hf.more he 10 rfl (onP e5)
            replace hf := hf.more he 11 rfl (onP e6)
            refine stP hf rfl rfl rfl (pIA Try.underlying22 sz_77 rfl rfl qa_2) fun a hf => ?_
            refine cNil ?_
            refine xThenN ?_
            intro ds u hau
            refine ⟨θ, he.put0 hi hau hf rfl 12 rfl rfl, ?_⟩
            exact hc
          · intro E θ a w hD hi hp he hc
            have e7 := hp.of (k := 7) rfl
            have hf := he.h0
            replace hf := hf.more he 12 rfl (onP e7)
            refine stE hf hc rfl rfl rfl (eLdN (vs := [.int .i64 e_3.Stage, .int .i64 e_3.Flow]) ag_77 rfl rfl (cells_rw (sz := 2) (i := n.toNat) m3 qr_2 (n := 2) (o' := 0) rfl)) fun a w hf hc => ?_
            refine cNil ?_
            refine xThenN ?_
            intro ds u hau
            refine ⟨θ, he.put0 hi hau hf rfl 13 rfl rfl, ?_⟩
            exact hc
          · intro E θ a w hD hi hp he hc
            have e11 := hD.f 0 rfl hi
            try dsimp only at hc
            rw [hi, e11] at hc
            have hf := he.h0
            refine stAl (cs := [.int .i64 0, .int .i64 0]) hf hc rfl rfl zr_77 rfl fun b_9 a w hf hc => ?_
            refine cNil ?_
            refine xThenN ?_
            intro ds u hau
            replace hc := hc.drop k2
            replace hc := hc.pick k0
            replace hc := hc.pick k1
            refine ⟨(setT θ 72 ⟨b_9, none, 0⟩), he.put hi hau hf rfl [] trivial ⟨qq, qq, qq, qq, qq, qq, qq, qq, qq, qq, qq, qq, qq, qq, qq, qq, trivial⟩, ?_⟩
            try dsimp only
            rw [updE_self E 9, updE_fls 9 e11 rfl]
            exact hc
          · intro E θ a w hD hi hp he hc
            have e12 := hD.f 1 rfl hi
            try dsimp only at hc
            rw [hi, e12] at hc
            have hf := he.h0
            refine stAl (cs := [.int .i64 0, .int .i64 0]) hf hc rfl rfl zr_77 rfl fun b_10 a w hf hc => ?_
            refine cNil ?_
            refine xThenN ?_
            intro ds u hau
            replace hc := hc.drop k1
            refine ⟨(setT θ 80 ⟨b_10, none, 0⟩), he.put hi hau hf rfl [] trivial ⟨qq, qq, qq, qq, qq, qq, qq, qq, qq, qq, qq, qq, qq, qq, qq, qq, trivial⟩, ?_⟩
            try dsimp only
            rw [updE_self E 10, updE_fls 10 e12 rfl]
            exact hc
          · intro E θ a w hD hi hp he hc
            have e4 := hp.of (k := 4) rfl
            have e9 := hp.of (k := 9) rfl
            try dsimp only at hc
            rw [e9, hi] at hc
            have hf := he.h0
            replace hf := hf.more he 9 rfl (onP e4)
            replace hf := hf.more he 14 rfl (onP e9)
            refine stSt (vs := [.int .i64 e_2.Stage, .int .i64 e_2.Flow]) hf hc rfl rfl rfl rfl sz_77 rfl rfl u1 fun w hc => ?_
            refine cNil ?_
            refine xThenN ?_
            intro ds u hau
            refine ⟨θ, he.stay0 hi hau hf rfl, ?_⟩
            try dsimp only
            rw [updE_tru 11 e9, updE_self E 11]
            exact hc
          · intro E θ a w hD hi hp he hc
            have e8 := hp.of (k := 8) rfl
            have e10 := hp.of (k := 10) rfl
            try dsimp only at hc
            rw [e10, hi] at hc
            have hf := he.h0
            replace hf := hf.more he 13 rfl (onP e8)
            replace hf := hf.more he 15 rfl (onP e10)
            refine stSt (vs := [.int .i64 e_3.Stage, .int .i64 e_3.Flow]) hf hc rfl rfl rfl rfl sz_77 rfl rfl u0 fun w hc => ?_
            refine cNil ?_
            refine xThenN ?_
            intro ds u hau
            refine ⟨θ, he.stay0 hi hau hf rfl, ?_⟩
            try dsimp only
            rw [updE_tru 12 e10, updE_self E 12]
            exact hc
          · intro E θ a w hall he hc
            have hf := he.h0
            have e9 := hall 9 rfl
            have e10 := hall 10 rfl
            have e11 := hall 11 rfl
            have e12 := hall 12 rfl
            replace hf := hf.more he 15 rfl (onP e10)
            replace hf := hf.more he 14 rfl (onP e9)
            replace hf := hf.more he 4 rfl (onT)
            replace hf := hf.more he 3 rfl (onT)
            replace hf := hf.more he 2 rfl (onT)
            replace hf := hf.more he 1 rfl (onT)
            replace hf := hf.more he 0 rfl (onT)
            try dsimp only at hc
            rw [e9, e10, e11, e12] at hc
            exact ⟨(θ 72).b, (θ 80).b, hf.keep ⟨rfl, rfl, rfl, rfl, rfl, rfl, rfl, trivial⟩, hc⟩
          rintro a w ⟨b_11, b_12, hf, hc⟩
          refine h28 _ _ ?_
          refine wp_seq_k fun K29 h29 => ?_
          refine cReg ?_
          refine stP hf rfl rfl rfl (pFA fa_77_0 rfl) fun a hf => ?_
          refine stE hf hc rfl rfl rfl (eLd1 sc_3 rfl (cell_box m1 rfl)) fun a w hf hc => ?_
          refine stP hf rfl rfl rfl (pAdd rfl rfl) fun a hf => ?_
          refine stP hf rfl rfl rfl (pA rfl) fun a hf => ?_
          refine cNil ?_
          refine h29 _ _ ?_
          refine wp_thenK fun K30 h30 => ?_
          refine wp_block ?_
          obtain ⟨x31, hx31, hF⟩ := bnd_some hF
          let S31 : Int → Act → World → Prop := (fun (zz : Int) a w => Has 289 a [(14, .slice (some ⟨g, 0, none⟩) r_1.1.length c_1), (15, .int .i64 (W (((W (stage)).tmod 200) - 60))), (16, .int .i64 (W (((W (by_)).tmod 100) - 50))), (18, .pointer (some ⟨b_2, 0, none⟩)), (28, .int .i64 n), (29, .pointer (some ⟨b_11, 0, none⟩)), (30, .pointer (some ⟨b_12, 0, none⟩)), (31, .int .i64 zz)] ∧ Ctx G (.box b_12 [.int .i64 e_3.Stage, .int .i64 e_3.Flow] 77 :: .box b_11 [.int .i64 e_2.Stage, .int .i64 e_2.Flow] 77 :: .box b_2 [.int .i64 r_2.1.N, .int .i64 r_2.1.D] 37 :: .row (some ⟨g, 0, none⟩) c_1 (r_1.1.map enc_shift_Mark) 77 2 :: Lf) w)
          have hr31 : ∀ (zz : Int) a w, x31 = .go zz → S31 zz a w → K30 a w := by
            rintro z_1 a w rfl ⟨hf, hc⟩
            replace hF : _ = some st23 := hF
            refine h30 _ _ ?_
            refine h27 _ _ ?_
            refine cReg ?_
            refine stP hf rfl rfl rfl (pM rfl) fun a hf => ?_
            refine stP hf rfl rfl rfl (pAdd rfl rfl) fun a hf => ?_
            refine stP hf rfl rfl rfl (pA rfl) fun a hf => ?_
            refine cNil ?_
            replace hc := hc.drop k1
            replace hc := hc.drop k0
            exact hK23 (W (n + 1)) _ _ (Option.some.inj hF).symm ⟨hf.keep ⟨rfl, rfl, rfl, rfl, rfl, trivial⟩, hc⟩
          have ho31 : ∀ r, x31 = .out r → r = st23 := by
            rintro r rfl
            exact Option.some.inj hF
          refine cLoop N (loopW (S := S31) (x := x31) ?_ N (W (e_2.Stage + 1)) _ _ ⟨hf.keep ⟨rfl, rfl, rfl, rfl, rfl, rfl, rfl, rfl, trivial⟩, hc⟩ hx31)
          clear hF hf hc
          rintro z_1 st31 a w KB31 ⟨hf, hc⟩ hF hfin31 hK31
          unfold law05_ShiftMeant_b31 at hF
          refine wp_seq_k fun K32 h32 => ?_
          refine wp_seq_k fun K33 h33 => ?_
          refine cReg ?_
          refine stP hf rfl rfl rfl (pM rfl) fun a hf => ?_
          refine stP hf rfl rfl rfl (pFA fa_77_0 rfl) fun a hf => ?_
          refine stE hf hc rfl rfl rfl (eLd1 sc_3 rfl (cell_box m0 rfl)) fun a w hf hc => ?_
          refine stP hf rfl rfl rfl (pLt rfl rfl) fun a hf => ?_
          refine cNil ?_
          refine h33 _ _ ?_
          refine cCond (b := (decide (z_1 < e_3.Stage))) hf rfl (fun hb => ?_) (fun hb => ?_)
          · replace hF := condT hb hF
            clear hb
            refine wp_skip ?_
            refine h32 _ _ ?_
            refine wp_seq_k fun K34 h34 => ?_
            refine wp_block ?_
            refine wp_seq_k fun K35 h35 => ?_
            refine cReg ?_
            refine stP hf rfl rfl rfl (pM rfl) fun a hf => ?_
            refine stP hf rfl rfl rfl (pM rfl) fun a hf => ?_
            obtain ⟨r_10, hr_10, hF⟩ := bnd_some hF
            refine stE hf hc rfl rfl rfl (eC (v := .tuple #[.agg #[.int .i64 r_10.1.N, .int .i64 r_10.1.D], .int .i64 r_10.2]) (vs := [.slice (some ⟨g, 0, none⟩) r_1.1.length c_1, .int .i64 z_1, .int .i64 0]) (caps := []) en_17 rfl rfl rfl rfl (fun w hc => by obtain ⟨G1, hle1, hrd1, hc, hth1⟩ := lend hc k3; exact (shift_Means_ok r_1.1 z_1 0 hrd1 hc hr_10).mono fun e w h => ⟨h.1, ((hth1 _ _ h.2).unpick k3)⟩)) fun a w hf hc => ?_
            refine stP hf rfl rfl rfl (pM rfl) fun a hf => ?_
            refine stP hf rfl rfl rfl (pX rfl rfl) fun a hf => ?_
            refine stP hf rfl rfl rfl (pX rfl rfl) fun a hf => ?_
            refine stAl (cs := [.int .i64 0, .int .i64 0]) hf hc rfl rfl zr_37 rfl fun b_13 a w hf hc => ?_
            refine stSt (vs := [.int .i64 r_10.1.N, .int .i64 r_10.1.D]) hf hc rfl rfl rfl rfl sz_37 rfl rfl u0 fun w hc => ?_
            refine stP hf rfl rfl rfl (pA rfl) fun a hf => ?_
            refine cNil ?_
            refine h35 _ _ ?_
            refine wp_seq_k fun K36 h36 => ?_
            refine wp_seq_k fun K37 h37 => ?_
            refine cReg ?_
            refine stP hf rfl rfl rfl (pM rfl) fun a hf => ?_
            refine stP hf rfl rfl rfl (pNe rfl rfl) fun a hf => ?_
            refine cNil ?_
            refine h37 _ _ ?_
            refine cCond (b := (r_10.2 != 0)) hf rfl (fun hb => ?_) (fun hb => ?_)
            · replace hF := condT hb hF
              clear hb
              refine wp_seq_k fun K38 h38 => ?_
              refine cReg ?_
              refine stP hf rfl rfl rfl (pA rfl) fun a hf => ?_
              refine cNil ?_
              refine h38 _ _ ?_
              refine wp_ret ?_
              refine xThenR ?_
              refine xBlkR ?_
              refine xThenR ?_
              refine xThenR ?_
              have he := Option.some.inj hF
              rw [← he] at hfin31
              replace hF := ho31 _ hfin31
              refine xBlkR ?_
              refine xThenR ?_
              refine xBlkR ?_
              refine xThenR ?_
              refine xThenR ?_
              have he := hF
              rw [← he] at hfin23
              replace hF := ho23 _ hfin23
              refine xBlkR ?_
              refine xThenR ?_
              obtain rfl := hF
              replace hc := hc.drop k4
              replace hc := hc.drop k3
              replace hc := hc.drop k2
              replace hc := hc.drop k1
              replace hc := hc.drop k0
              exact fnOut1 (by simp) rfl Try.results7 hf hc (show look _ 12 = _ from rfl) ⟨rfl, hc⟩
            · replace hF := condF hb hF
              clear hb
              refine wp_skip ?_
              refine h36 _ _ ?_
              refine wp_seq_k fun K39 h39 => ?_
              refine cReg ?_
              refine stP hf rfl rfl rfl (pFA fa_37_1 rfl) fun a hf => ?_
              refine stE hf hc rfl rfl rfl (eLd1 sc_3 rfl (cell_box m0 rfl)) fun a w hf hc => ?_
              refine stP hf rfl rfl rfl (pEq rfl rfl) fun a hf => ?_
              refine stP hf rfl rfl rfl (pM rfl) fun a hf => ?_
              refine stCut 6 (fun a w => Has 289 a [(14, .slice (some ⟨g, 0, none⟩) r_1.1.length c_1), (15, .int .i64 (W (((W (stage)).tmod 200) - 60))), (16, .int .i64 (W (((W (by_)).tmod 100) - 50))), (18, .pointer (some ⟨b_2, 0, none⟩)), (28, .int .i64 n), (29, .pointer (some ⟨b_11, 0, none⟩)), (30, .pointer (some ⟨b_12, 0, none⟩)), (31, .int .i64 z_1), (32, .pointer (some ⟨b_13, 0, none⟩)), (245, .pointer (some ⟨b_13, 1, none⟩)), (246, .int .i64 r_10.1.D), (247, .bool (r_10.1.D == 1)), (248, .bool (r_10.1.D == 1)), (254, .bool ((r_10.1.D == 1) && (decide (e_2.Flow < r_10.1.N))))] ∧ Ctx G (.box b_13 [.int .i64 r_10.1.N, .int .i64 r_10.1.D] 37 :: .box b_12 [.int .i64 e_3.Stage, .int .i64 e_3.Flow] 77 :: .box b_11 [.int .i64 e_2.Stage, .int .i64 e_2.Flow] 77 :: .box b_2 [.int .i64 r_2.1.N, .int .i64 r_2.1.D] 37 :: .row (some ⟨g, 0, none⟩) c_1 (r_1.1.map enc_shift_Mark) 77 2 :: Lf) w) ?_ ?_
              · cases hb : (r_10.1.D == 1)
                · rw [hb] at hf
                  refine stS hf rfl rfl rfl fun a hf => ?_
                  refine stS hf rfl rfl rfl fun a hf => ?_
                  refine stS hf rfl rfl rfl fun a hf => ?_
                  refine stS hf rfl rfl rfl fun a hf => ?_
                  refine stS hf rfl rfl rfl fun a hf => ?_
                  refine stP hf rfl rfl rfl (pPf rfl rfl) fun a hf => ?_
                  exact cNil ⟨hf.keep ⟨rfl, rfl, rfl, rfl, rfl, rfl, rfl, rfl, rfl, rfl, rfl, rfl, rfl, rfl, trivial⟩, hc⟩
                · rw [hb] at hf
                  refine stP hf rfl rfl rfl (pFA fa_37_0 rfl) fun a hf => ?_
                  refine stE hf hc rfl rfl rfl (eLd1 sc_3 rfl (cell_box m0 rfl)) fun a w hf hc => ?_
                  refine stP hf rfl rfl rfl (pFA fa_77_1 rfl) fun a hf => ?_
                  refine stE hf hc rfl rfl rfl (eLd1 sc_3 rfl (cell_box m2 rfl)) fun a w hf hc => ?_
                  refine stP hf rfl rfl rfl (pGt rfl rfl) fun a hf => ?_
                  refine stP hf rfl rfl rfl (pPt rfl rfl) fun a hf => ?_
                  exact cNil ⟨hf.keep ⟨rfl, rfl, rfl, rfl, rfl, rfl, rfl, rfl, rfl, rfl, rfl, rfl, rfl, rfl, trivial⟩, hc⟩
              intro a w ⟨hf, hc⟩
              refine stP hf rfl rfl rfl (pM rfl) fun a hf => ?_
              refine stCut 6 (fun a w => Has 289 a [(14, .slice (some ⟨g, 0, none⟩) r_1.1.length c_1), (15, .int .i64 (W (((W (stage)).tmod 200) - 60))), (16, .int .i64 (W (((W (by_)).tmod 100) - 50))), (18, .pointer (some ⟨b_2, 0, none⟩)), (28, .int .i64 n), (29, .pointer (some ⟨b_11, 0, none⟩)), (30, .pointer (some ⟨b_12, 0, none⟩)), (31, .int .i64 z_1), (32, .pointer (some ⟨b_13, 0, none⟩)), (245, .pointer (some ⟨b_13, 1, none⟩)), (246, .int .i64 r_10.1.D), (247, .bool (r_10.1.D == 1)), (248, .bool (r_10.1.D == 1)), (254, .bool ((r_10.1.D == 1) && (decide (e_2.Flow < r_10.1.N)))), (255, .bool ((r_10.1.D == 1) && (decide (e_2.Flow < r_10.1.N)))), (261, .bool (((r_10.1.D == 1) && (decide (e_2.Flow < r_10.1.N))) && (decide (r_10.1.N < e_3.Flow))))] ∧ Ctx G (.box b_13 [.int .i64 r_10.1.N, .int .i64 r_10.1.D] 37 :: .box b_12 [.int .i64 e_3.Stage, .int .i64 e_3.Flow] 77 :: .box b_11 [.int .i64 e_2.Stage, .int .i64 e_2.Flow] 77 :: .box b_2 [.int .i64 r_2.1.N, .int .i64 r_2.1.D] 37 :: .row (some ⟨g, 0, none⟩) c_1 (r_1.1.map enc_shift_Mark) 77 2 :: Lf) w) ?_ ?_
              · cases hb : ((r_10.1.D == 1) && (decide (e_2.Flow < r_10.1.N)))
                · rw [hb] at hf
                  refine stS hf rfl rfl rfl fun a hf => ?_
                  refine stS hf rfl rfl rfl fun a hf => ?_
                  refine stS hf rfl rfl rfl fun a hf => ?_
                  refine stS hf rfl rfl rfl fun a hf => ?_
                  refine stS hf rfl rfl rfl fun a hf => ?_
                  refine stP hf rfl rfl rfl (pPf rfl rfl) fun a hf => ?_
                  exact cNil ⟨hf.keep ⟨rfl, rfl, rfl, rfl, rfl, rfl, rfl, rfl, rfl, rfl, rfl, rfl, rfl, rfl, rfl, rfl, trivial⟩, hc⟩
                · rw [hb] at hf
                  refine stP hf rfl rfl rfl (pFA fa_37_0 rfl) fun a hf => ?_
                  refine stE hf hc rfl rfl rfl (eLd1 sc_3 rfl (cell_box m0 rfl)) fun a w hf hc => ?_
                  refine stP hf rfl rfl rfl (pFA fa_77_1 rfl) fun a hf => ?_
                  refine stE hf hc rfl rfl rfl (eLd1 sc_3 rfl (cell_box m1 rfl)) fun a w hf hc => ?_
                  refine stP hf rfl rfl rfl (pLt rfl rfl) fun a hf => ?_
                  refine stP hf rfl rfl rfl (pPt rfl rfl) fun a hf => ?_
                  exact cNil ⟨hf.keep ⟨rfl, rfl, rfl, rfl, rfl, rfl, rfl, rfl, rfl, rfl, rfl, rfl, rfl, rfl, rfl, rfl, trivial⟩, hc⟩
              intro a w ⟨hf, hc⟩
              refine cNil ?_
              refine h39 _ _ ?_
              refine cCond (b := (((r_10.1.D == 1) && (decide (e_2.Flow < r_10.1.N))) && (decide (r_10.1.N < e_3.Flow)))) hf rfl (fun hb => ?_) (fun hb => ?_)
              · replace hF := condT hb hF
                clear hb
                refine wp_seq_k fun K40 h40 => ?_
                obtain ⟨r_11, hr_11, hF⟩ := bnd_some hF
                obtain ⟨r_12, hr_12, hF⟩ := bnd_some hF
                replace hc := hc.nilRow 0 0
                replace hc := hc.nilRow 0 0
                refine regionE (fun θ => [⟨none, none, 14, .slice (some ⟨g, 0, none⟩) r_1.1.length c_1⟩, ⟨none, none, 15, .int .i64 (W (((W (stage)).tmod 200) - 60))⟩, ⟨none, none, 16, .int .i64 (W (((W (by_)).tmod 100) - 50))⟩, ⟨none, none, 18, .pointer (some ⟨b_2, 0, none⟩)⟩, ⟨none, none, 28, .int .i64 n⟩, ⟨none, none, 31, .int .i64 z_1⟩, ⟨none, none, 32, .pointer (some ⟨b_13, 0, none⟩)⟩, ⟨some 0, none, 262, .slice (some ⟨g, 0, none⟩) r_1.1.length c_1⟩, ⟨some 1, none, 263, .slice ((θ 8).p) r_11.length ((θ 8).c)⟩, ⟨some 2, none, 264, .int .i64 n⟩, ⟨some 3, none, 265, .int .i64 z_1⟩, ⟨some 4, none, 266, .pointer (some ⟨b_13, 0, none⟩)⟩, ⟨some 5, none, 267, .int .i64 r_10.1.N⟩, ⟨some 6, none, 268, .agg #[.int .i64 z_1, .int .i64 r_10.1.N]⟩, ⟨some 7, none, 269, .slice (some ⟨(θ 56).b, 0, none⟩) 1 1⟩, ⟨some 8, none, 270, .slice ((θ 64).p) r_12.length ((θ 64).c)⟩, ⟨some 9, none, 34, .slice ((θ 64).p) r_12.length ((θ 64).c)⟩]) (fun E θ => (bif E 7 then .row (some ⟨(θ 56).b, 0, none⟩) 1 (([(⟨z_1, r_10.1.N⟩ : shift_Mark)] : List shift_Mark).map enc_shift_Mark) 77 2 else .row none 0 [] 0 0) :: (bif E 8 then .row ((θ 64).p) ((θ 64).c) (r_12.map enc_shift_Mark) 77 2 else bif E 1 then .row ((θ 8).p) ((θ 8).c) (r_11.map enc_shift_Mark) 77 2 else .row none 0 [] 0 0) :: .box b_13 [.int .i64 r_10.1.N, .int .i64 r_10.1.D] 37 :: .box b_12 [.int .i64 e_3.Stage, .int .i64 e_3.Flow] 77 :: .box b_11 [.int .i64 e_2.Stage, .int .i64 e_2.Flow] 77 :: .box b_2 [.int .i64 r_2.1.N, .int .i64 r_2.1.D] 37 :: .row (some ⟨g, 0, none⟩) c_1 (r_1.1.map enc_shift_Mark) 77 2 :: Lf) [(8, 1), (9, 8)] (fun a w => ∃ (p_4 : Option Addr) (c_4 : Nat) (b_15 : Nat), Has 289 a [(15, .int .i64 (W (((W (stage)).tmod 200) - 60))), (16, .int .i64 (W (((W (by_)).tmod 100) - 50))), (18, .pointer (some ⟨b_2, 0, none⟩)), (34, .slice p_4 r_12.length c_4)] ∧ Ctx G (.row (some ⟨b_15, 0, none⟩) 1 (([(⟨z_1, r_10.1.N⟩ : shift_Mark)] : List shift_Mark).map enc_shift_Mark) 77 2 :: .row p_4 c_4 (r_12.map enc_shift_Mark) 77 2 :: .box b_13 [.int .i64 r_10.1.N, .int .i64 r_10.1.D] 37 :: .box b_12 [.int .i64 e_3.Stage, .int .i64 e_3.Flow] 77 :: .box b_11 [.int .i64 e_2.Stage, .int .i64 e_2.Flow] 77 :: .box b_2 [.int .i64 r_2.1.N, .int .i64 r_2.1.D] 37 :: .row (some ⟨g, 0, none⟩) c_1 (r_1.1.map enc_shift_Mark) 77 2 :: Lf) w) follows_mx (by kernel_rfl) (by kernel_rfl) (HasE.of hf ⟨rfl, rfl, rfl, rfl, rfl, rfl, rfl, trivial, trivial, trivial, trivial, trivial, trivial, trivial, trivial, trivial, trivial, trivial⟩) hc ⟨?_, ?_, ?_, ?_, ?_, ?_, ?_, ?_, ?_, ?_, trivial⟩ ?_ ?_
                · intro E θ a w hD hi hp he hc
                  have hf := he.h0
                  replace hf := hf.more he 0 rfl onT
                  refine stP hf rfl rfl rfl (pM rfl) fun a hf => ?_
                  refine cNil ?_
                  refine xThenN ?_
                  intro ds u hau
                  refine ⟨θ, he.put0 hi hau hf rfl 7 rfl rfl, ?_⟩
                  exact hc
                · intro E θ a w hD hi hp he hc
                  have e0 := hp.of (k := 0) rfl
                  have e8 := hD.f 0 rfl hi
                  try dsimp only at hc
                  rw [hi, e8] at hc
                  have hf := he.h0
                  replace hf := hf.more he 7 rfl (onP e0)
                  obtain ⟨G1, hle1, hrd1, hc, hth1⟩ := lend hc k6
                  refine stC (vs := [.slice (some ⟨g, 0, none⟩) r_1.1.length c_1]) (caps := []) hf rfl rfl rfl en_40 rfl rfl rfl rfl (kit_Copy_shift_Mark_ok r_1.1 hrd1 hc hr_11) ?_
                  rintro _ w ⟨p_2, c_2, rfl, hc⟩
                  refine ⟨_, rfl, fun a hf => ?_⟩
                  replace hc := hth1 _ _ hc
                  refine cNil ?_
                  refine xThenN ?_
                  intro ds u hau
                  replace hc := hc.drop k3
                  replace hc := hc.pick k0
                  replace hc := hc.pick k6
                  replace hc := hc.pick k6
                  replace hc := hc.pick k6
                  replace hc := hc.pick k6
                  replace hc := hc.pick k5
                  replace hc := hc.pick k6
                  refine ⟨(setT θ 8 ⟨0, p_2, c_2⟩), he.put hi hau hf rfl [] trivial ⟨qq, qq, qq, qq, qq, qq, qq, qq, qq, qq, qq, qq, qq, qq, qq, qq, qq, trivial⟩, ?_⟩
                  try dsimp only
                  rw [updE_self E 1, updE_fls 1 e8 rfl]
                  exact hc
                · intro E θ a w hD hi hp he hc
                  have hf := he.h0
                  replace hf := hf.more he 4 rfl onT
                  refine stP hf rfl rfl rfl (pM rfl) fun a hf => ?_
                  refine cNil ?_
                  refine xThenN ?_
                  intro ds u hau
                  refine ⟨θ, he.put0 hi hau hf rfl 9 rfl rfl, ?_⟩
                  exact hc
                · intro E θ a w hD hi hp he hc
                  have hf := he.h0
                  replace hf := hf.more he 5 rfl onT
                  refine stP hf rfl rfl rfl (pM rfl) fun a hf => ?_
                  refine cNil ?_
                  refine xThenN ?_
                  intro ds u hau
                  refine ⟨θ, he.put0 hi hau hf rfl 10 rfl rfl, ?_⟩
                  exact hc
                · intro E θ a w hD hi hp he hc
                  have hf := he.h0
                  replace hf := hf.more he 6 rfl onT
                  refine stP hf rfl rfl rfl (pFA fa_37_0 rfl) fun a hf => ?_
                  refine cNil ?_
                  refine xThenN ?_
                  intro ds u hau
                  refine ⟨θ, he.put0 hi hau hf rfl 11 rfl rfl, ?_⟩
                  exact hc
                · intro E θ a w hD hi hp he hc
                  have e4 := hp.of (k := 4) rfl
                  have hf := he.h0
                  replace hf := hf.more he 11 rfl (onP e4)
                  refine stE hf hc rfl rfl rfl (eLd1 sc_3 rfl (cell_box m2 rfl)) fun a w hf hc => ?_
                  refine cNil ?_
                  refine xThenN ?_
                  intro ds u hau
                  refine ⟨θ, he.put0 hi hau hf rfl 12 rfl rfl, ?_⟩
                  exact hc
                · intro E θ a w hD hi hp he hc
                  have e3 := hp.of (k := 3) rfl
                  have e5 := hp.of (k := 5) rfl
                  have hf := he.h0
                  replace hf := hf.more he 10 rfl (onP e3)
                  replace hf := hf.more he 12 rfl (onP e5)
                  refine stP hf rfl rfl rfl (pBuildS (cells := [.int .i64 z_1, .int .i64 r_10.1.N]) bt_77 rfl rfl) fun a hf => ?_
                  refine cNil ?_
                  refine xThenN ?_
                  intro ds u hau
                  refine ⟨θ, he.put0 hi hau hf rfl 13 rfl rfl, ?_⟩
                  exact hc
                · intro E θ a w hD hi hp he hc
                  have e6 := hp.of (k := 6) rfl
                  try dsimp only at hc
                  rw [hi] at hc
                  have hf := he.h0
                  replace hf := hf.more he 13 rfl (onP e6)
                  refine stBS (rows := ([(⟨z_1, r_10.1.N⟩ : shift_Mark)] : List shift_Mark).map enc_shift_Mark) (vs := [(0, .agg #[.int .i64 z_1, .int .i64 r_10.1.N])]) hf hc rfl rfl sl_22 rfl ⟨rfl, rfl, rfl, trivial⟩ rfl rfl fun b_14 a w hf hc => ?_
                  refine cNil ?_
                  refine xThenN ?_
                  intro ds u hau
                  replace hc := hc.drop k1
                  refine ⟨(setT θ 56 ⟨b_14, none, 0⟩), he.put hi hau hf rfl [] trivial ⟨qq, qq, qq, qq, qq, qq, qq, qq, qq, qq, qq, qq, qq, qq, qq, qq, qq, trivial⟩, ?_⟩
                  try dsimp only
                  rw [updE_self E 7]
                  exact hc
                · intro E θ a w hD hi hp he hc
                  have e1 := hp.of (k := 1) rfl
                  have e2 := hp.of (k := 2) rfl
                  have e7 := hp.of (k := 7) rfl
                  have e9 := hD.f 1 rfl hi
                  try dsimp only at hc
                  rw [e7, e1, hi] at hc
                  have hf := he.h0
                  replace hf := hf.more he 8 rfl (onP e1)
                  replace hf := hf.more he 9 rfl (onP e2)
                  replace hf := hf.more he 14 rfl (onP e7)
                  refine stC (vs := [.slice ((θ 8).p) r_11.length ((θ 8).c), .int .i64 n, .slice (some ⟨(θ 56).b, 0, none⟩) 1 1]) (caps := []) hf rfl rfl rfl en_39 rfl rfl rfl rfl (slices_Insert_Lshift_Mark_shift_Mark_ok r_11 n ([(⟨z_1, r_10.1.N⟩ : shift_Mark)] : List shift_Mark) ((hc.pick k0).pick k1) hr_12) ?_
                  rintro _ w ⟨p_3, c_3, rfl, hc⟩
                  refine ⟨_, rfl, fun a hf => ?_⟩
                  refine cNil ?_
                  refine xThenN ?_
                  intro ds u hau
                  replace hc := hc.pick k0
                  replace hc := hc.pick k1
                  refine ⟨(setT θ 64 ⟨0, p_3, c_3⟩), he.put hi hau hf rfl [9] ⟨⟨e9, rfl⟩, trivial⟩ ⟨qq, qq, qq, qq, qq, qq, qq, qq, qq, qq, qq, qq, qq, qq, qq, qq, trivial, trivial⟩, ?_⟩
                  try dsimp only
                  rw [updE_tru 8 e7, updE_tru 8 e1, updE_self E 8]
                  exact hc
                · intro E θ a w hD hi hp he hc
                  have e8 := hp.of (k := 8) rfl
                  have hf := he.h0
                  replace hf := hf.more he 15 rfl (onP e8)
                  refine stP hf rfl rfl rfl (pA rfl) fun a hf => ?_
                  refine cNil ?_
                  refine xThenN ?_
                  intro ds u hau
                  refine ⟨θ, he.put0 hi hau hf rfl 16 rfl rfl, ?_⟩
                  exact hc
                · intro E θ a w hall he hc
                  have hf := he.h0
                  have e1 := hall 1 rfl
                  have e7 := hall 7 rfl
                  have e8 := hall 8 rfl
                  have e9 := hall 9 rfl
                  replace hf := hf.more he 16 rfl (onP e9)
                  replace hf := hf.more he 3 rfl (onT)
                  replace hf := hf.more he 2 rfl (onT)
                  replace hf := hf.more he 1 rfl (onT)
                  try dsimp only at hc
                  rw [e1, e7, e8] at hc
                  exact ⟨(θ 64).p, (θ 64).c, (θ 56).b, hf.keep ⟨rfl, rfl, rfl, rfl, trivial⟩, hc⟩
                rintro a w ⟨p_4, c_4, b_15, hf, hc⟩
                refine h40 _ _ ?_
                refine wp_seq_k fun K41 h41 => ?_
                refine cReg ?_
                refine stP hf rfl rfl rfl (pM rfl) fun a hf => ?_
                refine stP hf rfl rfl rfl (pM rfl) fun a hf => ?_
                refine stP hf rfl rfl rfl (pM rfl) fun a hf => ?_
                obtain ⟨r_13, hr_13, hF⟩ := bnd_some hF
                refine stE hf hc rfl rfl rfl (eC (v := .tuple #[.agg #[.int .i64 r_13.1.N, .int .i64 r_13.1.D], .int .i64 r_13.2]) (vs := [.slice p_4 r_12.length c_4, .int .i64 (W (((W (stage)).tmod 200) - 60)), .int .i64 (W (((W (by_)).tmod 100) - 50))]) (caps := []) en_17 rfl rfl rfl rfl (fun w hc => by obtain ⟨G1, hle1, hrd1, hc, hth1⟩ := lend hc k1; exact (shift_Means_ok r_12 (W (((W (stage)).tmod 200) - 60)) (W (((W (by_)).tmod 100) - 50)) hrd1 hc hr_13).mono fun e w h => ⟨h.1, ((hth1 _ _ h.2).unpick k1)⟩)) fun a w hf hc => ?_
                refine stP hf rfl rfl rfl (pM rfl) fun a hf => ?_
                refine stP hf rfl rfl rfl (pX rfl rfl) fun a hf => ?_
                refine stP hf rfl rfl rfl (pX rfl rfl) fun a hf => ?_
                refine stAl (cs := [.int .i64 0, .int .i64 0]) hf hc rfl rfl zr_37 rfl fun b_16 a w hf hc => ?_
                refine stSt (vs := [.int .i64 r_13.1.N, .int .i64 r_13.1.D]) hf hc rfl rfl rfl rfl sz_37 rfl rfl u0 fun w hc => ?_
                refine stP hf rfl rfl rfl (pA rfl) fun a hf => ?_
                refine cNil ?_
                refine h41 _ _ ?_
                refine wp_seq_k fun K42 h42 => ?_
                refine cReg ?_
                refine stP hf rfl rfl rfl (pM rfl) fun a hf => ?_
                refine stP hf rfl rfl rfl (pEq rfl rfl) fun a hf => ?_
                refine stP hf rfl rfl rfl (pM rfl) fun a hf => ?_
                refine stCut 4 (fun a w => Has 289 a [(18, .pointer (some ⟨b_2, 0, none⟩)), (35, .pointer (some ⟨b_16, 0, none⟩)), (36, .int .i64 r_13.2), (278, .int .i64 r_13.2), (279, .bool (r_13.2 == 0)), (280, .bool (r_13.2 == 0)), (284, .bool ((r_13.2 == 0) && (r_13.1.N == r_2.1.N && r_13.1.D == r_2.1.D)))] ∧ Ctx G (.box b_16 [.int .i64 r_13.1.N, .int .i64 r_13.1.D] 37 :: .row (some ⟨b_15, 0, none⟩) 1 (([(⟨z_1, r_10.1.N⟩ : shift_Mark)] : List shift_Mark).map enc_shift_Mark) 77 2 :: .row p_4 c_4 (r_12.map enc_shift_Mark) 77 2 :: .box b_13 [.int .i64 r_10.1.N, .int .i64 r_10.1.D] 37 :: .box b_12 [.int .i64 e_3.Stage, .int .i64 e_3.Flow] 77 :: .box b_11 [.int .i64 e_2.Stage, .int .i64 e_2.Flow] 77 :: .box b_2 [.int .i64 r_2.1.N, .int .i64 r_2.1.D] 37 :: .row (some ⟨g, 0, none⟩) c_1 (r_1.1.map enc_shift_Mark) 77 2 :: Lf) w) ?_ ?_
                · cases hb : (r_13.2 == 0)
                  · rw [hb] at hf
                    refine stS hf rfl rfl rfl fun a hf => ?_
                    refine stS hf rfl rfl rfl fun a hf => ?_
                    refine stS hf rfl rfl rfl fun a hf => ?_
                    refine stP hf rfl rfl rfl (pPf rfl rfl) fun a hf => ?_
                    exact cNil ⟨hf.keep ⟨rfl, rfl, rfl, rfl, rfl, rfl, rfl, trivial⟩, hc⟩
                  · rw [hb] at hf
                    refine stE hf hc rfl rfl rfl (eLdN (vs := [.int .i64 r_13.1.N, .int .i64 r_13.1.D]) ag_37 rfl rfl (cells_box (n := 2) m0 rfl)) fun a w hf hc => ?_
                    refine stE hf hc rfl rfl rfl (eLdN (vs := [.int .i64 r_2.1.N, .int .i64 r_2.1.D]) ag_37 rfl rfl (cells_box (n := 2) m6 rfl)) fun a w hf hc => ?_
                    refine stP hf rfl rfl rfl (pEqA ge_37 rfl rfl (eqs_37 _ _ _ _)) fun a hf => ?_
                    refine stP hf rfl rfl rfl (pPt rfl rfl) fun a hf => ?_
                    exact cNil ⟨hf.keep ⟨rfl, rfl, rfl, rfl, rfl, rfl, rfl, trivial⟩, hc⟩
                intro a w ⟨hf, hc⟩
                refine stP hf rfl rfl rfl (pM rfl) fun a hf => ?_
                obtain ⟨t_1, ht_1, hF⟩ := bnd_some hF
                refine stCut 2 (fun a w => Has 289 a [(18, .pointer (some ⟨b_2, 0, none⟩)), (35, .pointer (some ⟨b_16, 0, none⟩)), (36, .int .i64 r_13.2), (278, .int .i64 r_13.2), (279, .bool (r_13.2 == 0)), (280, .bool (r_13.2 == 0)), (284, .bool ((r_13.2 == 0) && (r_13.1.N == r_2.1.N && r_13.1.D == r_2.1.D))), (285, .bool ((r_13.2 == 0) && (r_13.1.N == r_2.1.N && r_13.1.D == r_2.1.D))), (287, .bool t_1)] ∧ Ctx G (.box b_16 [.int .i64 r_13.1.N, .int .i64 r_13.1.D] 37 :: .row (some ⟨b_15, 0, none⟩) 1 (([(⟨z_1, r_10.1.N⟩ : shift_Mark)] : List shift_Mark).map enc_shift_Mark) 77 2 :: .row p_4 c_4 (r_12.map enc_shift_Mark) 77 2 :: .box b_13 [.int .i64 r_10.1.N, .int .i64 r_10.1.D] 37 :: .box b_12 [.int .i64 e_3.Stage, .int .i64 e_3.Flow] 77 :: .box b_11 [.int .i64 e_2.Stage, .int .i64 e_2.Flow] 77 :: .box b_2 [.int .i64 r_2.1.N, .int .i64 r_2.1.D] 37 :: .row (some ⟨g, 0, none⟩) c_1 (r_1.1.map enc_shift_Mark) 77 2 :: Lf) w) ?_ ?_
                · cases hb : ((r_13.2 == 0) && (r_13.1.N == r_2.1.N && r_13.1.D == r_2.1.D))
                  · rw [hb] at hf
                    have hF := condF hb ht_1
                    obtain rfl := Option.some.inj hF
                    refine stS hf rfl rfl rfl fun a hf => ?_
                    refine stP hf rfl rfl rfl (pPf rfl rfl) fun a hf => ?_
                    exact cNil ⟨hf.keep ⟨rfl, rfl, rfl, rfl, rfl, rfl, rfl, rfl, rfl, trivial⟩, hc⟩
                  · rw [hb] at hf
                    have hF := condT hb ht_1
                    obtain ⟨r_14, hr_14, hF⟩ := bnd_some hF
                    refine stE hf hc rfl rfl rfl (eC (v := .bool r_14) (vs := []) (caps := []) en_12 rfl rfl rfl rfl (fun w hc => law05_awake_ok hc hr_14)) fun a w hf hc => ?_
                    refine stP hf rfl rfl rfl (pPt rfl rfl) fun a hf => ?_
                    obtain rfl := Option.some.inj hF
                    exact cNil ⟨hf.keep ⟨rfl, rfl, rfl, rfl, rfl, rfl, rfl, rfl, rfl, trivial⟩, hc⟩
                intro a w ⟨hf, hc⟩
                refine stP hf rfl rfl rfl (pA rfl) fun a hf => ?_
                refine cNil ?_
                refine h42 _ _ ?_
                refine wp_ret ?_
                refine xBlkR ?_
                refine xThenR ?_
                refine xThenR ?_
                have he := Option.some.inj hF
                rw [← he] at hfin31
                replace hF := ho31 _ hfin31
                refine xBlkR ?_
                refine xThenR ?_
                refine xBlkR ?_
                refine xThenR ?_
                refine xThenR ?_
                have he := hF
                rw [← he] at hfin23
                replace hF := ho23 _ hfin23
                refine xBlkR ?_
                refine xThenR ?_
                obtain rfl := hF
                replace hc := hc.drop k7
                replace hc := hc.drop k6
                replace hc := hc.drop k5
                replace hc := hc.drop k4
                replace hc := hc.drop k3
                replace hc := hc.drop k2
                replace hc := hc.drop k1
                replace hc := hc.drop k0
                exact fnOut1 (by simp) rfl Try.results7 hf hc (show look _ 12 = _ from rfl) ⟨rfl, hc⟩
              · replace hF := condF hb hF
                clear hb
                refine wp_skip ?_
                refine h34 _ _ ?_
                refine cReg ?_
                refine stP hf rfl rfl rfl (pM rfl) fun a hf => ?_
                refine stP hf rfl rfl rfl (pAdd rfl rfl) fun a hf => ?_
                refine stP hf rfl rfl rfl (pA rfl) fun a hf => ?_
                refine cNil ?_
                replace hc := hc.drop k0
                exact hK31 (W (z_1 + 1)) _ _ (Option.some.inj hF).symm ⟨hf.keep ⟨rfl, rfl, rfl, rfl, rfl, rfl, rfl, rfl, trivial⟩, hc⟩
          · replace hF := condF hb hF
            clear hb
            refine wp_exit ?_
            refine xThen ?_
            refine xThen ?_
            have he := Option.some.inj hF
            rw [← he] at hfin31
            refine cHit ?_
            exact hr31 _ _ _ hfin31 ⟨hf.keep ⟨rfl, rfl, rfl, rfl, rfl, rfl, rfl, rfl, trivial⟩, hc⟩
        · replace hF := condF hb hF
          clear hb
          refine wp_exit ?_
          refine xThen ?_
          refine xThen ?_
          have he := Option.some.inj hF
          rw [← he] at hfin23
          refine cHit ?_
          exact hr23 _ _ _ hfin23 ⟨hf.keep ⟨rfl, rfl, rfl, rfl, rfl, trivial⟩, hc⟩

end Go.Nilo
