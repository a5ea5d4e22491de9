/-
  What functions of the Go text compute, as plain functions, and that they do, part 4 of 4. Conditions: what each theorem names.
-/
import Derived.Test.YtepopogbmjfpeaaDy3
import Derived.Test.YtepopogbmjfpeaaProg
set_option linter.unusedVariables false
set_option linter.unusedSimpArgs false
set_option maxRecDepth 100000
set_option maxHeartbeats 4000000
namespace Go.Nilo
open Go.Proofs


def law05_ShiftDays_b38 (N : Nat) (ends : List api_Span) (low : Int) (high : Int) (x : Int) : Option (Step (Int × Int × Int) (Bool)) :=
  cond (decide (x < ((ends.length : Nat) : Int)))
  (Option.bind (getI ends x) fun e_5 =>
  some (.cont (min low e_5.Lo, max high e_5.Hi, W (x + 1))))
  (some (.brk (low, high, x)))
def law05_ShiftDays_j34 (N : Nat) (stage : Int) (r_1 : shift_Record × (List Int) × Int × Int) (r_10 : api_Span × Int) (ends : List api_Span) : Option (Bool) :=
  Option.bind (getI ends 0) fun e_3 =>
  Option.bind (getI ends 0) fun e_4 =>
  Option.bind (loopO (fun s38 => law05_ShiftDays_b38 N ends s38.1 s38.2.1 s38.2.2) N (e_3.Lo, e_4.Hi, 0)) fun x38 =>
  exK x38 (fun s38 => Option.bind (shift_Means N r_1.1.Rating (W (((W (stage)).tmod 120) - 40)) s38.2.1) fun r_11 =>
  Option.bind (shift_Means N r_1.1.Rating (W (((W (stage)).tmod 120) - 40)) s38.1) fun r_12 =>
  cond ((((r_11.2 != 0) || (r_12.2 != 0)) || (decide (r_11.1.D < 1))) || (decide (r_12.1.D < 1)))
  (some false)
  (Option.bind (nz r_11.1.D) fun un_1 =>
  Option.bind (cond (decide ((W (r_11.1.N.tdiv r_11.1.D)) ≤ r_10.1.Lo)) (Option.bind (nz r_12.1.D) fun un_2 =>
  some (decide (r_10.1.Hi ≤ (W ((W ((W (r_12.1.N + r_12.1.D)) - 1)).tdiv r_12.1.D))))) (some false)) fun t_2 =>
  Option.bind (cond t_2 (Option.bind (law05_awake N) fun r_13 =>
  some r_13) (some false)) fun t_3 =>
  some t_3)) some
def law05_ShiftDays_j12 (N : Nat) (day : Int) (stage : Int) (more : Int) (r_1 : shift_Record × (List Int) × Int × Int) (e_1 : shift_Gauging) (i_1 : Int) (t_1 : Bool) (now_1 : Int) (all_1 : List Int) : Option (Bool) :=
  Option.bind (shift_Least N r_1.1) fun r_4 =>
  cond ((r_4.2.2 != 0) || (decide (r_4.2.1 < 0)))
  (some false)
  (Option.bind (law05_moves N all_1) fun r_5 =>
  Option.bind (shift_Between N r_1.1 (min 18000 (max r_4.2.1 (W (r_5 + ((W (more)).tmod 5))))) ((W (day)).tmod (W (e_1.Day + 9))) (W (((W (stage)).tmod 120) - 40))) fun r_6 =>
  Option.bind (shift_Means N r_1.1.Rating (W (((W (stage)).tmod 120) - 40)) now_1) fun r_7 =>
  cond ((((r_6.2 != 0) || (r_7.2 != 0)) || (decide (r_7.1.N < (W (r_6.1.Lo * r_7.1.D))))) || (decide ((W (r_6.1.Hi * r_7.1.D)) < r_7.1.N)))
  (some false)
  (Option.bind (shift_Between N r_1.1 (min 18000 (max r_4.2.1 (W (r_5 + ((W (more)).tmod 5))))) ((W (day)).tmod (W (e_1.Day + 9))) (min (W ((W (((W (stage)).tmod 120) - 40)) + ((W (more)).tmod 9))) 2000)) fun r_8 =>
  cond (((r_8.2 != 0) || (decide (r_8.1.Lo < r_6.1.Lo))) || (decide (r_8.1.Hi < r_6.1.Hi)))
  (some false)
  (Option.bind (shift_Can N r_1.1 r_4.2.1) fun r_9 =>
  Option.bind (shift_Between N r_1.1 r_4.2.1 ((W (day)).tmod (W (e_1.Day + 9))) (W (((W (stage)).tmod 120) - 40))) fun r_10 =>
  cond (((r_9.2 != 0) || (r_10.2 != 0)) || (((r_9.1.length : Nat) : Int) != ((r_1.2.1.length : Nat) : Int)))
  (some false)
  (cond t_1
  (Option.bind (subO r_9.1 i_1 (W (i_1 + 1))) fun sub =>
  law05_ShiftDays_j34 N stage r_1 r_10 sub)
  (cond ((decide (0 < i_1)) && (decide (i_1 < ((r_9.1.length : Nat) : Int))))
  (Option.bind (subO r_9.1 (W (i_1 - 1)) (W (i_1 + 1))) fun sub_1 =>
  law05_ShiftDays_j34 N stage r_1 r_10 sub_1)
  (cond (decide (0 < i_1))
  (Option.bind (subO r_9.1 (W (i_1 - 1)) i_1) fun sub_2 =>
  law05_ShiftDays_j34 N stage r_1 r_10 sub_2)
  (Option.bind (subO r_9.1 0 1) fun sub_3 =>
  law05_ShiftDays_j34 N stage r_1 r_10 sub_3)))))))
def law05_ShiftDays_b8 (N : Nat) (day : Int) (r_1 : shift_Record × (List Int) × Int × Int) (e_1 : shift_Gauging) (i_1 : Int) : Option (Step (Int) (Bool)) :=
  Option.bind (cond (decide (i_1 < ((r_1.1.Gaugings.length : Nat) : Int))) (Option.bind (getI r_1.1.Gaugings i_1) fun e_7 =>
  some (decide (e_7.Day < ((W (day)).tmod (W (e_1.Day + 9)))))) (some false)) fun t_4 =>
  cond t_4
  (some (.cont (W (i_1 + 1))))
  (some (.brk i_1))
def law05_ShiftDays (N : Nat) (numbers : List Int) (day : Int) (by_ : Int) (stage : Int) (more : Int) : Option (Bool) :=
  Option.bind (kit_New N numbers) fun r =>
  Option.bind (law05_Gauged N (⟨numbers, r.1, r.2⟩ : kit_Stream) 8) fun r_1 =>
  Option.bind (getI r_1.1.Gaugings (W (((r_1.1.Gaugings.length : Nat) : Int) - 1))) fun e_1 =>
  Option.bind (nz (W (e_1.Day + 9))) fun un =>
  Option.bind (loopO (fun s8 => law05_ShiftDays_b8 N day r_1 e_1 s8) N 0) fun x8 =>
  exK x8 (fun s8 => Option.bind (cond (decide (s8 < ((r_1.1.Gaugings.length : Nat) : Int))) (Option.bind (getI r_1.1.Gaugings s8) fun e_2 =>
  some (e_2.Day == ((W (day)).tmod (W (e_1.Day + 9))))) (some false)) fun t_1 =>
  Option.bind (kit_Copy_int N r_1.2.1) fun r_2 =>
  Option.bind (slices_Insert_Lint_int N r_2 s8 ([W (((W (by_)).tmod 30) - 15)] : List Int)) fun r_3 =>
  cond t_1
  (Option.bind (getI r_1.2.1 s8) fun e_6 =>
  law05_ShiftDays_j12 N day stage more r_1 e_1 s8 t_1 e_6 r_1.2.1)
  (law05_ShiftDays_j12 N day stage more r_1 e_1 s8 t_1 (W (((W (by_)).tmod 30) - 15)) r_3)) some
theorem law05_ShiftDays_ok {N : Nat} {G : Pers} {Lf : List Ent} {w : World} (numbers : List Int) (day : Int) (by_ : Int) (stage : Int) (more : Int) {numbers_p : Option Addr} {numbers_c : Nat} (h_numbers : Rd G 1 numbers_p numbers_c (numbers.map encI_u8)) (hc : Ctx G (Lf) w) {res : Bool} (hF : law05_ShiftDays N numbers day by_ stage more = some res) : Calls Try.prog 6 #[.slice numbers_p numbers.length numbers_c, .int .u8 day, .int .u8 by_, .int .u8 stage, .int .u8 more] w (fun e w => e = .returned (.bool res) ∧ Ctx G (Lf) w) := by
  unfold law05_ShiftDays at hF
  refine fnIn (args := [.slice numbers_p numbers.length numbers_c, .int .u8 day, .int .u8 by_, .int .u8 stage, .int .u8 more]) Try.func6 rfl Try.ntmps6 rfl fun a hf => ?_
  refine wp_seq_k fun K1 h1 => ?_
  refine cReg ?_
  refine stP hf rfl rfl rfl (pA rfl) fun a hf => ?_
  refine cNil ?_
  refine h1 _ _ ?_
  refine wp_seq_k fun K2 h2 => ?_
  refine cReg ?_
  refine stP hf rfl rfl rfl (pM rfl) fun a hf => ?_
  obtain ⟨r, hr, hF⟩ := bnd_some hF
  refine stC (vs := [.slice numbers_p numbers.length numbers_c]) (caps := []) hf rfl rfl rfl en_32 rfl rfl rfl rfl (kit_New_ok numbers h_numbers hc hr) ?_
  rintro _ w ⟨b_1, rfl, hc⟩
  refine ⟨_, rfl, fun a hf => ?_⟩
  obtain ⟨r_1, hr_1, hF⟩ := bnd_some hF
  refine stC (vs := [.pointer (some ⟨b_1, 0, none⟩), .int .i64 8]) (caps := []) hf rfl rfl rfl en_31 rfl rfl rfl rfl (law05_Gauged_ok (⟨numbers, r.1, r.2⟩ : kit_Stream) 8 h_numbers (hc.pick k0) hr_1) ?_
  rintro _ w ⟨p_1, c_1, p_2, c_2, p_3, c_3, rfl, hc⟩
  refine ⟨_, rfl, fun a hf => ?_⟩
  refine stP hf rfl rfl rfl (pM rfl) fun a hf => ?_
  refine stP hf rfl rfl rfl (pX rfl rfl) fun a hf => ?_
  refine stP hf rfl rfl rfl (pX rfl rfl) fun a hf => ?_
  refine stAl (cs := [.slice none 0 0, .slice none 0 0]) hf hc rfl rfl zr_25 rfl fun b_2 a w hf hc => ?_
  refine stSt (vs := [.slice p_1 r_1.1.Rating.length c_1, .slice p_2 r_1.1.Gaugings.length c_2]) hf hc rfl rfl rfl rfl sz_25 rfl rfl u0 fun w hc => ?_
  refine stP hf rfl rfl rfl (pA rfl) fun a hf => ?_
  refine cNil ?_
  refine h2 _ _ ?_
  refine wp_seq_k fun K3 h3 => ?_
  refine cReg ?_
  refine stP hf rfl rfl rfl (pM rfl) fun a hf => ?_
  refine stP hf rfl rfl rfl (pCv Try.underlying5 Try.underlying3 rfl) fun a hf => ?_
  refine stP hf rfl rfl rfl (pRem rfl rfl (by decide)) fun a hf => ?_
  refine stP hf rfl rfl rfl (pSub rfl rfl) fun a hf => ?_
  refine stP hf rfl rfl rfl (pA rfl) fun a hf => ?_
  refine cNil ?_
  refine h3 _ _ ?_
  refine wp_seq_k fun K4 h4 => ?_
  refine cReg ?_
  refine stP hf rfl rfl rfl (pM rfl) fun a hf => ?_
  refine stP hf rfl rfl rfl (pCv Try.underlying5 Try.underlying3 rfl) fun a hf => ?_
  refine stP hf rfl rfl rfl (pFA fa_25_1 rfl) fun a hf => ?_
  refine stE hf hc rfl rfl rfl (eLd1 sc_23 rfl (cell_box m0 rfl)) fun a w hf hc => ?_
  refine stP hf rfl rfl rfl (pFA fa_25_1 rfl) fun a hf => ?_
  refine stE hf hc rfl rfl rfl (eLd1 sc_23 rfl (cell_box m0 rfl)) fun a w hf hc => ?_
  refine stP hf rfl rfl rfl (pLenS Try.underlying23 rfl) fun a hf => ?_
  refine stP hf rfl rfl rfl (pSub rfl rfl) fun a hf => ?_
  obtain ⟨e_1, he_1, hF⟩ := bnd_some hF
  obtain ⟨g, rfl, qa, qr⟩ := row_atm hc m2 he_1
  refine stP hf rfl rfl rfl (pIA Try.underlying23 sz_71 rfl rfl qa) fun a hf => ?_
  refine stP hf rfl rfl rfl (pFA fa_71_0 rfl) fun a hf => ?_
  refine stE hf hc rfl rfl rfl (eLd1 sc_3 rfl (cell_row (sz := 4) (i := (W (((r_1.1.Gaugings.length : Nat) : Int) - 1)).toNat) (j := 0) m2 qr rfl)) fun a w hf hc => ?_
  refine stP hf rfl rfl rfl (pAdd rfl rfl) fun a hf => ?_
  obtain ⟨un, hun, hF⟩ := bnd_some hF
  refine stP hf rfl rfl rfl (pRem rfl rfl (nz_spec hun)) fun a hf => ?_
  refine stP hf rfl rfl rfl (pA rfl) fun a hf => ?_
  refine cNil ?_
  refine h4 _ _ ?_
  refine wp_seq_k fun K5 h5 => ?_
  refine cReg ?_
  refine stP hf rfl rfl rfl (pM rfl) fun a hf => ?_
  refine stP hf rfl rfl rfl (pCv Try.underlying5 Try.underlying3 rfl) fun a hf => ?_
  refine stP hf rfl rfl rfl (pRem rfl rfl (by decide)) fun a hf => ?_
  refine stP hf rfl rfl rfl (pSub rfl rfl) fun a hf => ?_
  refine stP hf rfl rfl rfl (pA rfl) fun a hf => ?_
  refine cNil ?_
  refine h5 _ _ ?_
  refine wp_seq_k fun K6 h6 => ?_
  refine cReg ?_
  refine stP hf rfl rfl rfl (pA rfl) fun a hf => ?_
  refine cNil ?_
  refine h6 _ _ ?_
  refine wp_seq_k fun K7 h7 => ?_
  refine wp_block ?_
  obtain ⟨x8, hx8, hF⟩ := bnd_some hF
  let S8 : Int → Act → World → Prop := (fun (zz : Int) a w => Has 339 a [(4, .int .u8 more), (11, .pointer (some ⟨b_2, 0, none⟩)), (12, .slice p_3 r_1.2.1.length c_3), (13, .int .i64 (W (((W (stage)).tmod 120) - 40))), (14, .int .i64 ((W (day)).tmod (W (e_1.Day + 9)))), (15, .int .i64 (W (((W (by_)).tmod 30) - 15))), (16, .int .i64 zz)] ∧ Ctx G (.box b_2 [.slice p_1 r_1.1.Rating.length c_1, .slice (some ⟨g, 0, none⟩) r_1.1.Gaugings.length c_2] 25 :: .row p_1 c_1 (r_1.1.Rating.map enc_shift_Mark) 77 2 :: .row (some ⟨g, 0, none⟩) c_2 (r_1.1.Gaugings.map enc_shift_Gauging) 71 4 :: .row p_3 c_3 (r_1.2.1.map encI_i64) 3 1 :: Lf) w)
  have hr8 : ∀ (zz : Int) a w, x8 = .go zz → S8 zz a w → K7 a w := by
    rintro i_1 a w rfl ⟨hf, hc⟩
    replace hF := exK_go hF
    refine h7 _ _ ?_
    refine wp_seq_k fun K9 h9 => ?_
    refine cReg ?_
    refine stP hf rfl rfl rfl (pM rfl) fun a hf => ?_
    refine stP hf rfl rfl rfl (pFA fa_25_1 rfl) fun a hf => ?_
    refine stE hf hc rfl rfl rfl (eLd1 sc_23 rfl (cell_box m0 rfl)) fun a w hf hc => ?_
    refine stP hf rfl rfl rfl (pLenS Try.underlying23 rfl) fun a hf => ?_
    refine stP hf rfl rfl rfl (pLt rfl rfl) fun a hf => ?_
    refine stP hf rfl rfl rfl (pM rfl) fun a hf => ?_
    obtain ⟨t_1, ht_1, hF⟩ := bnd_some hF
    refine stCut 9 (fun a w => Has 339 a [(4, .int .u8 more), (11, .pointer (some ⟨b_2, 0, none⟩)), (12, .slice p_3 r_1.2.1.length c_3), (13, .int .i64 (W (((W (stage)).tmod 120) - 40))), (14, .int .i64 ((W (day)).tmod (W (e_1.Day + 9)))), (15, .int .i64 (W (((W (by_)).tmod 30) - 15))), (16, .int .i64 i_1), (81, .int .i64 i_1), (82, .pointer (some ⟨b_2, 1, none⟩)), (83, .slice (some ⟨g, 0, none⟩) r_1.1.Gaugings.length c_2), (84, .int .i64 ((r_1.1.Gaugings.length : Nat) : Int)), (85, .bool (decide (i_1 < ((r_1.1.Gaugings.length : Nat) : Int)))), (86, .bool (decide (i_1 < ((r_1.1.Gaugings.length : Nat) : Int)))), (95, .bool t_1)] ∧ Ctx G (.box b_2 [.slice p_1 r_1.1.Rating.length c_1, .slice (some ⟨g, 0, none⟩) r_1.1.Gaugings.length c_2] 25 :: .row p_1 c_1 (r_1.1.Rating.map enc_shift_Mark) 77 2 :: .row (some ⟨g, 0, none⟩) c_2 (r_1.1.Gaugings.map enc_shift_Gauging) 71 4 :: .row p_3 c_3 (r_1.2.1.map encI_i64) 3 1 :: Lf) w) ?_ ?_
    · cases hb : (decide (i_1 < ((r_1.1.Gaugings.length : Nat) : Int)))
      · rw [hb] at hf
        have hF := condF hb ht_1
        obtain rfl := Option.some.inj hF
        refine stS hf rfl rfl rfl fun a hf => ?_
        refine stS hf rfl rfl rfl fun a hf => ?_
        refine stS hf rfl rfl rfl fun a hf => ?_
        refine stS hf rfl rfl rfl fun a hf => ?_
        refine stS hf rfl rfl rfl fun a hf => ?_
        refine stS hf rfl rfl rfl fun a hf => ?_
        refine stS hf rfl rfl rfl fun a hf => ?_
        refine stS hf rfl rfl rfl fun a hf => ?_
        refine stP hf rfl rfl rfl (pPf rfl rfl) fun a hf => ?_
        exact cNil ⟨hf.keep ⟨rfl, rfl, rfl, rfl, rfl, rfl, rfl, rfl, rfl, rfl, rfl, rfl, rfl, rfl, trivial⟩, hc⟩
      · rw [hb] at hf
        have hF := condT hb ht_1
        refine stP hf rfl rfl rfl (pFA fa_25_1 rfl) fun a hf => ?_
        refine stE hf hc rfl rfl rfl (eLd1 sc_23 rfl (cell_box m0 rfl)) fun a w hf hc => ?_
        refine stP hf rfl rfl rfl (pM rfl) fun a hf => ?_
        obtain ⟨e_2, he_2, hF⟩ := bnd_some hF
        obtain ⟨qa_1, qr_1⟩ := row_atk hc m2 he_2
        refine stP hf rfl rfl rfl (pIA Try.underlying23 sz_71 rfl rfl qa_1) fun a hf => ?_
        refine stP hf rfl rfl rfl (pFA fa_71_0 rfl) fun a hf => ?_
        refine stE hf hc rfl rfl rfl (eLd1 sc_3 rfl (cell_row (sz := 4) (i := i_1.toNat) (j := 0) m2 qr_1 rfl)) fun a w hf hc => ?_
        refine stP hf rfl rfl rfl (pM rfl) fun a hf => ?_
        refine stP hf rfl rfl rfl (pEq rfl rfl) fun a hf => ?_
        refine stP hf rfl rfl rfl (pPt rfl rfl) fun a hf => ?_
        obtain rfl := Option.some.inj hF
        exact cNil ⟨hf.keep ⟨rfl, rfl, rfl, rfl, rfl, rfl, rfl, rfl, rfl, rfl, rfl, rfl, rfl, rfl, trivial⟩, hc⟩
    intro a w ⟨hf, hc⟩
    refine stP hf rfl rfl rfl (pA rfl) fun a hf => ?_
    refine cNil ?_
    refine h9 _ _ ?_
    refine wp_seq_k fun K10 h10 => ?_
    refine cReg ?_
    refine stP hf rfl rfl rfl (pM rfl) fun a hf => ?_
    obtain ⟨r_2, hr_2, hF⟩ := bnd_some hF
    obtain ⟨G1, hle1, hrd1, hc, hth1⟩ := lend hc k3
    refine stC (vs := [.slice p_3 r_1.2.1.length c_3]) (caps := []) hf rfl rfl rfl en_36 rfl rfl rfl rfl (kit_Copy_int_ok r_1.2.1 hrd1 hc hr_2) ?_
    rintro _ w ⟨p_4, c_4, rfl, hc⟩
    refine ⟨_, rfl, fun a hf => ?_⟩
    replace hc := hth1 _ _ hc
    refine stP hf rfl rfl rfl (pM rfl) fun a hf => ?_
    refine stP hf rfl rfl rfl (pM rfl) fun a hf => ?_
    refine stBS (rows := ([W (((W (by_)).tmod 30) - 15)] : List Int).map encI_i64) (vs := [(0, .int .i64 (W (((W (by_)).tmod 30) - 15)))]) hf hc rfl rfl sl_61 rfl ⟨rfl, rfl, rfl, trivial⟩ rfl rfl fun b_3 a w hf hc => ?_
    obtain ⟨r_3, hr_3, hF⟩ := bnd_some hF
    refine stC (vs := [.slice p_4 r_2.length c_4, .int .i64 i_1, .slice (some ⟨b_3, 0, none⟩) 1 1]) (caps := []) hf rfl rfl rfl en_35 rfl rfl rfl rfl (slices_Insert_Lint_int_ok r_2 i_1 ([W (((W (by_)).tmod 30) - 15)] : List Int) ((hc.pick k0).pick k2) hr_3) ?_
    rintro _ w ⟨p_5, c_5, rfl, hc⟩
    refine ⟨_, rfl, fun a hf => ?_⟩
    refine stP hf rfl rfl rfl (pA rfl) fun a hf => ?_
    refine cNil ?_
    refine h10 _ _ ?_
    obtain ⟨G, hle_fz, rd_fz, hc, -⟩ := lend hc k0
    obtain ⟨G, hle_fz_1, rd_fz_1, hc, -⟩ := lend hc k1
    refine wp_seq_k fun K12 h12 => ?_
    have hj12 : ∀ (now_1 : Int) (all_1 : List Int) (p_8 : Option Addr) (c_8 : Nat) a w, Rd G 1 p_8 c_8 (all_1.map encI_i64) → Has 339 a [(4, .int .u8 more), (11, .pointer (some ⟨b_2, 0, none⟩)), (12, .slice p_3 r_1.2.1.length c_3), (13, .int .i64 (W (((W (stage)).tmod 120) - 40))), (14, .int .i64 ((W (day)).tmod (W (e_1.Day + 9)))), (15, .int .i64 now_1), (16, .int .i64 i_1), (17, .bool t_1), (18, .slice p_8 all_1.length c_8)] → Ctx G (.box b_2 [.slice p_1 r_1.1.Rating.length c_1, .slice (some ⟨g, 0, none⟩) r_1.1.Gaugings.length c_2] 25 :: .row p_1 c_1 (r_1.1.Rating.map enc_shift_Mark) 77 2 :: .row (some ⟨g, 0, none⟩) c_2 (r_1.1.Gaugings.map enc_shift_Gauging) 71 4 :: Lf) w → law05_ShiftDays_j12 N day stage more r_1 e_1 i_1 t_1 now_1 all_1 = some res → K12 a w := by
      repeat (clear hF)
      repeat (clear hc)
      repeat (clear hf)
      intro now_1 all_1 p_8 c_8 a w qr_2 hf hc hF
      unfold law05_ShiftDays_j12 at hF
      refine h12 _ _ ?_
      refine wp_seq_k fun K13 h13 => ?_
      refine cReg ?_
      refine stE hf hc rfl rfl rfl (eLdN (vs := [.slice p_1 r_1.1.Rating.length c_1, .slice (some ⟨g, 0, none⟩) r_1.1.Gaugings.length c_2]) ag_25 rfl rfl (cells_box (n := 2) m0 rfl)) fun a w hf hc => ?_
      obtain ⟨r_4, hr_4, hF⟩ := bnd_some hF
      obtain ⟨G1, hle1, hrd1, hc, hth1⟩ := lend hc k1
      obtain ⟨G2, hle2, hrd2, hc, hth2⟩ := lend hc k1
      refine stC (vs := [.agg #[.slice p_1 r_1.1.Rating.length c_1, .slice (some ⟨g, 0, none⟩) r_1.1.Gaugings.length c_2]]) (caps := []) hf rfl rfl rfl en_33 rfl rfl rfl rfl (shift_Least_ok r_1.1 (hrd1.mono hle2) hrd2 hc hr_4) ?_
      rintro _ w ⟨p_9, c_9, rfl, hc⟩
      refine ⟨_, rfl, fun a hf => ?_⟩
      replace hc := hth2 _ _ hc
      replace hc := hth1 _ _ hc
      refine stP hf rfl rfl rfl (pM rfl) fun a hf => ?_
      refine stP hf rfl rfl rfl (pX rfl rfl) fun a hf => ?_
      refine stP hf rfl rfl rfl (pX rfl rfl) fun a hf => ?_
      refine stP hf rfl rfl rfl (pX rfl rfl) fun a hf => ?_
      refine stP hf rfl rfl rfl (pA rfl) fun a hf => ?_
      refine stP hf rfl rfl rfl (pA rfl) fun a hf => ?_
      refine stP hf rfl rfl rfl (pA rfl) fun a hf => ?_
      refine cNil ?_
      refine h13 _ _ ?_
      refine wp_seq_k fun K14 h14 => ?_
      refine wp_seq_k fun K15 h15 => ?_
      refine cReg ?_
      refine stP hf rfl rfl rfl (pM rfl) fun a hf => ?_
      refine stP hf rfl rfl rfl (pNe rfl rfl) fun a hf => ?_
      refine stP hf rfl rfl rfl (pM rfl) fun a hf => ?_
      refine stCut 3 (fun a w => Has 339 a [(4, .int .u8 more), (11, .pointer (some ⟨b_2, 0, none⟩)), (12, .slice p_3 r_1.2.1.length c_3), (13, .int .i64 (W (((W (stage)).tmod 120) - 40))), (14, .int .i64 ((W (day)).tmod (W (e_1.Day + 9)))), (15, .int .i64 now_1), (16, .int .i64 i_1), (17, .bool t_1), (18, .slice p_8 all_1.length c_8), (20, .int .i64 r_4.2.1), (21, .int .i64 r_4.2.2), (114, .int .i64 r_4.2.2), (115, .bool (r_4.2.2 != 0)), (116, .bool (r_4.2.2 != 0)), (119, .bool ((r_4.2.2 != 0) || (decide (r_4.2.1 < 0))))] ∧ Ctx G (.row p_1 c_1 (r_1.1.Rating.map enc_shift_Mark) 77 2 :: .row (some ⟨g, 0, none⟩) c_2 (r_1.1.Gaugings.map enc_shift_Gauging) 71 4 :: .row p_9 c_9 (r_4.1.map encI_i64) 3 1 :: .box b_2 [.slice p_1 r_1.1.Rating.length c_1, .slice (some ⟨g, 0, none⟩) r_1.1.Gaugings.length c_2] 25 :: Lf) w) ?_ ?_
      · cases hb : (r_4.2.2 != 0)
        · rw [hb] at hf
          refine stP hf rfl rfl rfl (pM rfl) fun a hf => ?_
          refine stP hf rfl rfl rfl (pLt rfl rfl) fun a hf => ?_
          refine stP hf rfl rfl rfl (pPf rfl rfl) fun a hf => ?_
          exact cNil ⟨hf.keep ⟨rfl, rfl, rfl, rfl, rfl, rfl, rfl, rfl, rfl, rfl, rfl, rfl, rfl, rfl, rfl, trivial⟩, hc⟩
        · rw [hb] at hf
          refine stS hf rfl rfl rfl fun a hf => ?_
          refine stS hf rfl rfl rfl fun a hf => ?_
          refine stP hf rfl rfl rfl (pPt rfl rfl) fun a hf => ?_
          exact cNil ⟨hf.keep ⟨rfl, rfl, rfl, rfl, rfl, rfl, rfl, rfl, rfl, rfl, rfl, rfl, rfl, rfl, rfl, trivial⟩, hc⟩
      intro a w ⟨hf, hc⟩
      refine cNil ?_
      refine h15 _ _ ?_
      refine cCond (b := ((r_4.2.2 != 0) || (decide (r_4.2.1 < 0)))) hf rfl (fun hb => ?_) (fun hb => ?_)
      · replace hF := condT hb hF
        clear hb
        refine wp_seq_k fun K16 h16 => ?_
        refine cReg ?_
        refine stP hf rfl rfl rfl (pA rfl) fun a hf => ?_
        refine cNil ?_
        refine h16 _ _ ?_
        refine wp_ret ?_
        refine xThenR ?_
        obtain rfl := Option.some.inj hF
        replace hc := hc.down hle_fz_1
        replace hc := hc.down hle_fz
        replace hc := hc.drop k3
        replace hc := hc.drop k2
        replace hc := hc.drop k1
        replace hc := hc.drop k0
        exact fnOut1 (by simp) rfl Try.results6 hf hc (show look _ 10 = _ from rfl) ⟨rfl, hc⟩
      · replace hF := condF hb hF
        clear hb
        refine wp_skip ?_
        refine h14 _ _ ?_
        refine wp_seq_k fun K17 h17 => ?_
        refine cReg ?_
        refine stP hf rfl rfl rfl (pM rfl) fun a hf => ?_
        refine stP hf rfl rfl rfl (pM rfl) fun a hf => ?_
        obtain ⟨r_5, hr_5, hF⟩ := bnd_some hF
        refine stE hf hc rfl rfl rfl (eC (v := .int .i64 r_5) (vs := [.slice p_8 all_1.length c_8]) (caps := []) en_34 rfl rfl rfl rfl (fun w hc => law05_moves_ok all_1 qr_2 hc hr_5)) fun a w hf hc => ?_
        refine stP hf rfl rfl rfl (pM rfl) fun a hf => ?_
        refine stP hf rfl rfl rfl (pCv Try.underlying5 Try.underlying3 rfl) fun a hf => ?_
        refine stP hf rfl rfl rfl (pRem rfl rfl (by decide)) fun a hf => ?_
        refine stP hf rfl rfl rfl (pAdd rfl rfl) fun a hf => ?_
        refine stP hf rfl rfl rfl (pMax2 rfl rfl) fun a hf => ?_
        refine stP hf rfl rfl rfl (pMin2 rfl rfl) fun a hf => ?_
        refine stP hf rfl rfl rfl (pA rfl) fun a hf => ?_
        refine cNil ?_
        refine h17 _ _ ?_
        refine wp_seq_k fun K18 h18 => ?_
        refine cReg ?_
        refine stE hf hc rfl rfl rfl (eLdN (vs := [.slice p_1 r_1.1.Rating.length c_1, .slice (some ⟨g, 0, none⟩) r_1.1.Gaugings.length c_2]) ag_25 rfl rfl (cells_box (n := 2) m3 rfl)) fun a w hf hc => ?_
        refine stP hf rfl rfl rfl (pM rfl) fun a hf => ?_
        refine stP hf rfl rfl rfl (pM rfl) fun a hf => ?_
        refine stP hf rfl rfl rfl (pM rfl) fun a hf => ?_
        obtain ⟨r_6, hr_6, hF⟩ := bnd_some hF
        refine stE hf hc rfl rfl rfl (eC (v := .tuple #[.agg #[.int .i64 r_6.1.Lo, .int .i64 r_6.1.Hi], .int .i64 r_6.2]) (vs := [.agg #[.slice p_1 r_1.1.Rating.length c_1, .slice (some ⟨g, 0, none⟩) r_1.1.Gaugings.length c_2], .int .i64 (min 18000 (max r_4.2.1 (W (r_5 + ((W (more)).tmod 5))))), .int .i64 ((W (day)).tmod (W (e_1.Day + 9))), .int .i64 (W (((W (stage)).tmod 120) - 40))]) (caps := []) en_29 rfl rfl rfl rfl (fun w hc => by obtain ⟨G1, hle1, hrd1, hc, hth1⟩ := lend hc k0; obtain ⟨G2, hle2, hrd2, hc, hth2⟩ := lend hc k0; exact (shift_Between_ok r_1.1 (min 18000 (max r_4.2.1 (W (r_5 + ((W (more)).tmod 5))))) ((W (day)).tmod (W (e_1.Day + 9))) (W (((W (stage)).tmod 120) - 40)) (hrd1.mono hle2) hrd2 hc hr_6).mono fun e w h => ⟨h.1, ((hth1 _ _ ((hth2 _ _ h.2).unpick k0)).unpick k0)⟩)) fun a w hf hc => ?_
        refine stP hf rfl rfl rfl (pM rfl) fun a hf => ?_
        refine stP hf rfl rfl rfl (pX rfl rfl) fun a hf => ?_
        refine stP hf rfl rfl rfl (pX rfl rfl) fun a hf => ?_
        refine stAl (cs := [.int .i64 0, .int .i64 0]) hf hc rfl rfl zr_50 rfl fun b_4 a w hf hc => ?_
        refine stSt (vs := [.int .i64 r_6.1.Lo, .int .i64 r_6.1.Hi]) hf hc rfl rfl rfl rfl sz_50 rfl rfl u0 fun w hc => ?_
        refine stP hf rfl rfl rfl (pA rfl) fun a hf => ?_
        refine cNil ?_
        refine h18 _ _ ?_
        refine wp_seq_k fun K19 h19 => ?_
        refine cReg ?_
        refine stP hf rfl rfl rfl (pFA fa_25_0 rfl) fun a hf => ?_
        refine stE hf hc rfl rfl rfl (eLd1 sc_22 rfl (cell_box m4 rfl)) fun a w hf hc => ?_
        refine stP hf rfl rfl rfl (pM rfl) fun a hf => ?_
        refine stP hf rfl rfl rfl (pM rfl) fun a hf => ?_
        obtain ⟨r_7, hr_7, hF⟩ := bnd_some hF
        refine stE hf hc rfl rfl rfl (eC (v := .tuple #[.agg #[.int .i64 r_7.1.N, .int .i64 r_7.1.D], .int .i64 r_7.2]) (vs := [.slice p_1 r_1.1.Rating.length c_1, .int .i64 (W (((W (stage)).tmod 120) - 40)), .int .i64 now_1]) (caps := []) en_17 rfl rfl rfl rfl (fun w hc => by obtain ⟨G1, hle1, hrd1, hc, hth1⟩ := lend hc k1; exact (shift_Means_ok r_1.1.Rating (W (((W (stage)).tmod 120) - 40)) now_1 hrd1 hc hr_7).mono fun e w h => ⟨h.1, ((hth1 _ _ h.2).unpick k1)⟩)) fun a w hf hc => ?_
        refine stP hf rfl rfl rfl (pM rfl) fun a hf => ?_
        refine stP hf rfl rfl rfl (pX rfl rfl) fun a hf => ?_
        refine stP hf rfl rfl rfl (pX rfl rfl) fun a hf => ?_
        refine stAl (cs := [.int .i64 0, .int .i64 0]) hf hc rfl rfl zr_37 rfl fun b_5 a w hf hc => ?_
        refine stSt (vs := [.int .i64 r_7.1.N, .int .i64 r_7.1.D]) hf hc rfl rfl rfl rfl sz_37 rfl rfl u0 fun w hc => ?_
        refine stP hf rfl rfl rfl (pA rfl) fun a hf => ?_
        refine cNil ?_
        refine h19 _ _ ?_
        refine wp_seq_k fun K20 h20 => ?_
        refine wp_seq_k fun K21 h21 => ?_
        refine cReg ?_
        refine stP hf rfl rfl rfl (pM rfl) fun a hf => ?_
        refine stP hf rfl rfl rfl (pNe rfl rfl) fun a hf => ?_
        refine stP hf rfl rfl rfl (pM rfl) fun a hf => ?_
        refine stCut 3 (fun a w => Has 339 a [(4, .int .u8 more), (11, .pointer (some ⟨b_2, 0, none⟩)), (12, .slice p_3 r_1.2.1.length c_3), (13, .int .i64 (W (((W (stage)).tmod 120) - 40))), (14, .int .i64 ((W (day)).tmod (W (e_1.Day + 9)))), (16, .int .i64 i_1), (17, .bool t_1), (20, .int .i64 r_4.2.1), (21, .int .i64 r_6.2), (22, .int .i64 (min 18000 (max r_4.2.1 (W (r_5 + ((W (more)).tmod 5)))))), (23, .pointer (some ⟨b_4, 0, none⟩)), (24, .pointer (some ⟨b_5, 0, none⟩)), (25, .int .i64 r_7.2), (145, .int .i64 r_6.2), (146, .bool (r_6.2 != 0)), (147, .bool (r_6.2 != 0)), (150, .bool ((r_6.2 != 0) || (r_7.2 != 0)))] ∧ Ctx G (.box b_5 [.int .i64 r_7.1.N, .int .i64 r_7.1.D] 37 :: .box b_4 [.int .i64 r_6.1.Lo, .int .i64 r_6.1.Hi] 50 :: .row p_1 c_1 (r_1.1.Rating.map enc_shift_Mark) 77 2 :: .row (some ⟨g, 0, none⟩) c_2 (r_1.1.Gaugings.map enc_shift_Gauging) 71 4 :: .row p_9 c_9 (r_4.1.map encI_i64) 3 1 :: .box b_2 [.slice p_1 r_1.1.Rating.length c_1, .slice (some ⟨g, 0, none⟩) r_1.1.Gaugings.length c_2] 25 :: Lf) w) ?_ ?_
        · cases hb : (r_6.2 != 0)
          · rw [hb] at hf
            refine stP hf rfl rfl rfl (pM rfl) fun a hf => ?_
            refine stP hf rfl rfl rfl (pNe rfl rfl) fun a hf => ?_
            refine stP hf rfl rfl rfl (pPf rfl rfl) fun a hf => ?_
            exact cNil ⟨hf.keep ⟨rfl, rfl, rfl, rfl, rfl, rfl, rfl, rfl, rfl, rfl, rfl, rfl, rfl, rfl, rfl, rfl, rfl, trivial⟩, hc⟩
          · rw [hb] at hf
            refine stS hf rfl rfl rfl fun a hf => ?_
            refine stS hf rfl rfl rfl fun a hf => ?_
            refine stP hf rfl rfl rfl (pPt rfl rfl) fun a hf => ?_
            exact cNil ⟨hf.keep ⟨rfl, rfl, rfl, rfl, rfl, rfl, rfl, rfl, rfl, rfl, rfl, rfl, rfl, rfl, rfl, rfl, rfl, trivial⟩, hc⟩
        intro a w ⟨hf, hc⟩
        refine stP hf rfl rfl rfl (pM rfl) fun a hf => ?_
        refine stCut 9 (fun a w => Has 339 a [(4, .int .u8 more), (11, .pointer (some ⟨b_2, 0, none⟩)), (12, .slice p_3 r_1.2.1.length c_3), (13, .int .i64 (W (((W (stage)).tmod 120) - 40))), (14, .int .i64 ((W (day)).tmod (W (e_1.Day + 9)))), (16, .int .i64 i_1), (17, .bool t_1), (20, .int .i64 r_4.2.1), (21, .int .i64 r_6.2), (22, .int .i64 (min 18000 (max r_4.2.1 (W (r_5 + ((W (more)).tmod 5)))))), (23, .pointer (some ⟨b_4, 0, none⟩)), (24, .pointer (some ⟨b_5, 0, none⟩)), (25, .int .i64 r_7.2), (145, .int .i64 r_6.2), (146, .bool (r_6.2 != 0)), (147, .bool (r_6.2 != 0)), (150, .bool ((r_6.2 != 0) || (r_7.2 != 0))), (151, .bool ((r_6.2 != 0) || (r_7.2 != 0))), (160, .bool (((r_6.2 != 0) || (r_7.2 != 0)) || (decide (r_7.1.N < (W (r_6.1.Lo * r_7.1.D))))))] ∧ Ctx G (.box b_5 [.int .i64 r_7.1.N, .int .i64 r_7.1.D] 37 :: .box b_4 [.int .i64 r_6.1.Lo, .int .i64 r_6.1.Hi] 50 :: .row p_1 c_1 (r_1.1.Rating.map enc_shift_Mark) 77 2 :: .row (some ⟨g, 0, none⟩) c_2 (r_1.1.Gaugings.map enc_shift_Gauging) 71 4 :: .row p_9 c_9 (r_4.1.map encI_i64) 3 1 :: .box b_2 [.slice p_1 r_1.1.Rating.length c_1, .slice (some ⟨g, 0, none⟩) r_1.1.Gaugings.length c_2] 25 :: Lf) w) ?_ ?_
        · cases hb : ((r_6.2 != 0) || (r_7.2 != 0))
          · rw [hb] at hf
            refine stP hf rfl rfl rfl (pFA fa_50_0 rfl) fun a hf => ?_
            refine stE hf hc rfl rfl rfl (eLd1 sc_3 rfl (cell_box m1 rfl)) fun a w hf hc => ?_
            refine stP hf rfl rfl rfl (pFA fa_37_1 rfl) fun a hf => ?_
            refine stE hf hc rfl rfl rfl (eLd1 sc_3 rfl (cell_box m0 rfl)) fun a w hf hc => ?_
            refine stP hf rfl rfl rfl (pMul rfl rfl) fun a hf => ?_
            refine stP hf rfl rfl rfl (pFA fa_37_0 rfl) fun a hf => ?_
            refine stE hf hc rfl rfl rfl (eLd1 sc_3 rfl (cell_box m0 rfl)) fun a w hf hc => ?_
            refine stP hf rfl rfl rfl (pGt rfl rfl) fun a hf => ?_
            refine stP hf rfl rfl rfl (pPf rfl rfl) fun a hf => ?_
            exact cNil ⟨hf.keep ⟨rfl, rfl, rfl, rfl, rfl, rfl, rfl, rfl, rfl, rfl, rfl, rfl, rfl, rfl, rfl, rfl, rfl, rfl, rfl, trivial⟩, hc⟩
          · rw [hb] at hf
            refine stS hf rfl rfl rfl fun a hf => ?_
            refine stS hf rfl rfl rfl fun a hf => ?_
            refine stS hf rfl rfl rfl fun a hf => ?_
            refine stS hf rfl rfl rfl fun a hf => ?_
            refine stS hf rfl rfl rfl fun a hf => ?_
            refine stS hf rfl rfl rfl fun a hf => ?_
            refine stS hf rfl rfl rfl fun a hf => ?_
            refine stS hf rfl rfl rfl fun a hf => ?_
            refine stP hf rfl rfl rfl (pPt rfl rfl) fun a hf => ?_
            exact cNil ⟨hf.keep ⟨rfl, rfl, rfl, rfl, rfl, rfl, rfl, rfl, rfl, rfl, rfl, rfl, rfl, rfl, rfl, rfl, rfl, rfl, rfl, trivial⟩, hc⟩
        intro a w ⟨hf, hc⟩
        refine stP hf rfl rfl rfl (pM rfl) fun a hf => ?_
        refine stCut 9 (fun a w => Has 339 a [(4, .int .u8 more), (11, .pointer (some ⟨b_2, 0, none⟩)), (12, .slice p_3 r_1.2.1.length c_3), (13, .int .i64 (W (((W (stage)).tmod 120) - 40))), (14, .int .i64 ((W (day)).tmod (W (e_1.Day + 9)))), (16, .int .i64 i_1), (17, .bool t_1), (20, .int .i64 r_4.2.1), (21, .int .i64 r_6.2), (22, .int .i64 (min 18000 (max r_4.2.1 (W (r_5 + ((W (more)).tmod 5)))))), (23, .pointer (some ⟨b_4, 0, none⟩)), (24, .pointer (some ⟨b_5, 0, none⟩)), (25, .int .i64 r_7.2), (145, .int .i64 r_6.2), (146, .bool (r_6.2 != 0)), (147, .bool (r_6.2 != 0)), (150, .bool ((r_6.2 != 0) || (r_7.2 != 0))), (151, .bool ((r_6.2 != 0) || (r_7.2 != 0))), (160, .bool (((r_6.2 != 0) || (r_7.2 != 0)) || (decide (r_7.1.N < (W (r_6.1.Lo * r_7.1.D)))))), (161, .bool (((r_6.2 != 0) || (r_7.2 != 0)) || (decide (r_7.1.N < (W (r_6.1.Lo * r_7.1.D)))))), (170, .bool ((((r_6.2 != 0) || (r_7.2 != 0)) || (decide (r_7.1.N < (W (r_6.1.Lo * r_7.1.D))))) || (decide ((W (r_6.1.Hi * r_7.1.D)) < r_7.1.N))))] ∧ Ctx G (.box b_5 [.int .i64 r_7.1.N, .int .i64 r_7.1.D] 37 :: .box b_4 [.int .i64 r_6.1.Lo, .int .i64 r_6.1.Hi] 50 :: .row p_1 c_1 (r_1.1.Rating.map enc_shift_Mark) 77 2 :: .row (some ⟨g, 0, none⟩) c_2 (r_1.1.Gaugings.map enc_shift_Gauging) 71 4 :: .row p_9 c_9 (r_4.1.map encI_i64) 3 1 :: .box b_2 [.slice p_1 r_1.1.Rating.length c_1, .slice (some ⟨g, 0, none⟩) r_1.1.Gaugings.length c_2] 25 :: Lf) w) ?_ ?_
        · cases hb : (((r_6.2 != 0) || (r_7.2 != 0)) || (decide (r_7.1.N < (W (r_6.1.Lo * r_7.1.D)))))
          · rw [hb] at hf
            refine stP hf rfl rfl rfl (pFA fa_50_1 rfl) fun a hf => ?_
            refine stE hf hc rfl rfl rfl (eLd1 sc_3 rfl (cell_box m1 rfl)) fun a w hf hc => ?_
            refine stP hf rfl rfl rfl (pFA fa_37_1 rfl) fun a hf => ?_
            refine stE hf hc rfl rfl rfl (eLd1 sc_3 rfl (cell_box m0 rfl)) fun a w hf hc => ?_
            refine stP hf rfl rfl rfl (pMul rfl rfl) fun a hf => ?_
            refine stP hf rfl rfl rfl (pFA fa_37_0 rfl) fun a hf => ?_
            refine stE hf hc rfl rfl rfl (eLd1 sc_3 rfl (cell_box m0 rfl)) fun a w hf hc => ?_
            refine stP hf rfl rfl rfl (pLt rfl rfl) fun a hf => ?_
            refine stP hf rfl rfl rfl (pPf rfl rfl) fun a hf => ?_
            exact cNil ⟨hf.keep ⟨rfl, rfl, rfl, rfl, rfl, rfl, rfl, rfl, rfl, rfl, rfl, rfl, rfl, rfl, rfl, rfl, rfl, rfl, rfl, rfl, rfl, trivial⟩, hc⟩
          · rw [hb] at hf
            refine stS hf rfl rfl rfl fun a hf => ?_
            refine stS hf rfl rfl rfl fun a hf => ?_
            refine stS hf rfl rfl rfl fun a hf => ?_
            refine stS hf rfl rfl rfl fun a hf => ?_
            refine stS hf rfl rfl rfl fun a hf => ?_
            refine stS hf rfl rfl rfl fun a hf => ?_
            refine stS hf rfl rfl rfl fun a hf => ?_
            refine stS hf rfl rfl rfl fun a hf => ?_
            refine stP hf rfl rfl rfl (pPt rfl rfl) fun a hf => ?_
            exact cNil ⟨hf.keep ⟨rfl, rfl, rfl, rfl, rfl, rfl, rfl, rfl, rfl, rfl, rfl, rfl, rfl, rfl, rfl, rfl, rfl, rfl, rfl, rfl, rfl, trivial⟩, hc⟩
        intro a w ⟨hf, hc⟩
        refine cNil ?_
        refine h21 _ _ ?_
        refine cCond (b := ((((r_6.2 != 0) || (r_7.2 != 0)) || (decide (r_7.1.N < (W (r_6.1.Lo * r_7.1.D))))) || (decide ((W (r_6.1.Hi * r_7.1.D)) < r_7.1.N)))) hf rfl (fun hb => ?_) (fun hb => ?_)
        · replace hF := condT hb hF
          clear hb
          refine wp_seq_k fun K22 h22 => ?_
          refine cReg ?_
          refine stP hf rfl rfl rfl (pA rfl) fun a hf => ?_
          refine cNil ?_
          refine h22 _ _ ?_
          refine wp_ret ?_
          refine xThenR ?_
          obtain rfl := Option.some.inj hF
          replace hc := hc.down hle_fz_1
          replace hc := hc.down hle_fz
          replace hc := hc.drop k5
          replace hc := hc.drop k4
          replace hc := hc.drop k3
          replace hc := hc.drop k2
          replace hc := hc.drop k1
          replace hc := hc.drop k0
          exact fnOut1 (by simp) rfl Try.results6 hf hc (show look _ 10 = _ from rfl) ⟨rfl, hc⟩
        · replace hF := condF hb hF
          clear hb
          refine wp_skip ?_
          refine h20 _ _ ?_
          refine wp_seq_k fun K23 h23 => ?_
          refine cReg ?_
          refine stE hf hc rfl rfl rfl (eLdN (vs := [.slice p_1 r_1.1.Rating.length c_1, .slice (some ⟨g, 0, none⟩) r_1.1.Gaugings.length c_2]) ag_25 rfl rfl (cells_box (n := 2) m5 rfl)) fun a w hf hc => ?_
          refine stP hf rfl rfl rfl (pM rfl) fun a hf => ?_
          refine stP hf rfl rfl rfl (pM rfl) fun a hf => ?_
          refine stP hf rfl rfl rfl (pM rfl) fun a hf => ?_
          refine stP hf rfl rfl rfl (pM rfl) fun a hf => ?_
          refine stP hf rfl rfl rfl (pCv Try.underlying5 Try.underlying3 rfl) fun a hf => ?_
          refine stP hf rfl rfl rfl (pRem rfl rfl (by decide)) fun a hf => ?_
          refine stP hf rfl rfl rfl (pAdd rfl rfl) fun a hf => ?_
          refine stP hf rfl rfl rfl (pMin2 rfl rfl) fun a hf => ?_
          obtain ⟨r_8, hr_8, hF⟩ := bnd_some hF
          refine stE hf hc rfl rfl rfl (eC (v := .tuple #[.agg #[.int .i64 r_8.1.Lo, .int .i64 r_8.1.Hi], .int .i64 r_8.2]) (vs := [.agg #[.slice p_1 r_1.1.Rating.length c_1, .slice (some ⟨g, 0, none⟩) r_1.1.Gaugings.length c_2], .int .i64 (min 18000 (max r_4.2.1 (W (r_5 + ((W (more)).tmod 5))))), .int .i64 ((W (day)).tmod (W (e_1.Day + 9))), .int .i64 (min (W ((W (((W (stage)).tmod 120) - 40)) + ((W (more)).tmod 9))) 2000)]) (caps := []) en_29 rfl rfl rfl rfl (fun w hc => by obtain ⟨G1, hle1, hrd1, hc, hth1⟩ := lend hc k2; obtain ⟨G2, hle2, hrd2, hc, hth2⟩ := lend hc k2; exact (shift_Between_ok r_1.1 (min 18000 (max r_4.2.1 (W (r_5 + ((W (more)).tmod 5))))) ((W (day)).tmod (W (e_1.Day + 9))) (min (W ((W (((W (stage)).tmod 120) - 40)) + ((W (more)).tmod 9))) 2000) (hrd1.mono hle2) hrd2 hc hr_8).mono fun e w h => ⟨h.1, ((hth1 _ _ ((hth2 _ _ h.2).unpick k2)).unpick k2)⟩)) fun a w hf hc => ?_
          refine stP hf rfl rfl rfl (pM rfl) fun a hf => ?_
          refine stP hf rfl rfl rfl (pX rfl rfl) fun a hf => ?_
          refine stP hf rfl rfl rfl (pX rfl rfl) fun a hf => ?_
          refine stAl (cs := [.int .i64 0, .int .i64 0]) hf hc rfl rfl zr_50 rfl fun b_6 a w hf hc => ?_
          refine stSt (vs := [.int .i64 r_8.1.Lo, .int .i64 r_8.1.Hi]) hf hc rfl rfl rfl rfl sz_50 rfl rfl u0 fun w hc => ?_
          refine stP hf rfl rfl rfl (pA rfl) fun a hf => ?_
          refine cNil ?_
          refine h23 _ _ ?_
          refine wp_seq_k fun K24 h24 => ?_
          refine wp_seq_k fun K25 h25 => ?_
          refine cReg ?_
          refine stP hf rfl rfl rfl (pM rfl) fun a hf => ?_
          refine stP hf rfl rfl rfl (pNe rfl rfl) fun a hf => ?_
          refine stP hf rfl rfl rfl (pM rfl) fun a hf => ?_
          refine stCut 6 (fun a w => Has 339 a [(11, .pointer (some ⟨b_2, 0, none⟩)), (12, .slice p_3 r_1.2.1.length c_3), (13, .int .i64 (W (((W (stage)).tmod 120) - 40))), (14, .int .i64 ((W (day)).tmod (W (e_1.Day + 9)))), (16, .int .i64 i_1), (17, .bool t_1), (20, .int .i64 r_4.2.1), (21, .int .i64 r_8.2), (23, .pointer (some ⟨b_4, 0, none⟩)), (26, .pointer (some ⟨b_6, 0, none⟩)), (184, .int .i64 r_8.2), (185, .bool (r_8.2 != 0)), (186, .bool (r_8.2 != 0)), (192, .bool ((r_8.2 != 0) || (decide (r_8.1.Lo < r_6.1.Lo))))] ∧ Ctx G (.box b_6 [.int .i64 r_8.1.Lo, .int .i64 r_8.1.Hi] 50 :: .box b_5 [.int .i64 r_7.1.N, .int .i64 r_7.1.D] 37 :: .box b_4 [.int .i64 r_6.1.Lo, .int .i64 r_6.1.Hi] 50 :: .row p_1 c_1 (r_1.1.Rating.map enc_shift_Mark) 77 2 :: .row (some ⟨g, 0, none⟩) c_2 (r_1.1.Gaugings.map enc_shift_Gauging) 71 4 :: .row p_9 c_9 (r_4.1.map encI_i64) 3 1 :: .box b_2 [.slice p_1 r_1.1.Rating.length c_1, .slice (some ⟨g, 0, none⟩) r_1.1.Gaugings.length c_2] 25 :: Lf) w) ?_ ?_
          · cases hb : (r_8.2 != 0)
            · rw [hb] at hf
              refine stP hf rfl rfl rfl (pFA fa_50_0 rfl) fun a hf => ?_
              refine stE hf hc rfl rfl rfl (eLd1 sc_3 rfl (cell_box m0 rfl)) fun a w hf hc => ?_
              refine stP hf rfl rfl rfl (pFA fa_50_0 rfl) fun a hf => ?_
              refine stE hf hc rfl rfl rfl (eLd1 sc_3 rfl (cell_box m2 rfl)) fun a w hf hc => ?_
              refine stP hf rfl rfl rfl (pLt rfl rfl) fun a hf => ?_
              refine stP hf rfl rfl rfl (pPf rfl rfl) fun a hf => ?_
              exact cNil ⟨hf.keep ⟨rfl, rfl, rfl, rfl, rfl, rfl, rfl, rfl, rfl, rfl, rfl, rfl, rfl, rfl, trivial⟩, hc⟩
            · rw [hb] at hf
              refine stS hf rfl rfl rfl fun a hf => ?_
              refine stS hf rfl rfl rfl fun a hf => ?_
              refine stS hf rfl rfl rfl fun a hf => ?_
              refine stS hf rfl rfl rfl fun a hf => ?_
              refine stS hf rfl rfl rfl fun a hf => ?_
              refine stP hf rfl rfl rfl (pPt rfl rfl) fun a hf => ?_
              exact cNil ⟨hf.keep ⟨rfl, rfl, rfl, rfl, rfl, rfl, rfl, rfl, rfl, rfl, rfl, rfl, rfl, rfl, trivial⟩, hc⟩
          intro a w ⟨hf, hc⟩
          refine stP hf rfl rfl rfl (pM rfl) fun a hf => ?_
          refine stCut 6 (fun a w => Has 339 a [(11, .pointer (some ⟨b_2, 0, none⟩)), (12, .slice p_3 r_1.2.1.length c_3), (13, .int .i64 (W (((W (stage)).tmod 120) - 40))), (14, .int .i64 ((W (day)).tmod (W (e_1.Day + 9)))), (16, .int .i64 i_1), (17, .bool t_1), (20, .int .i64 r_4.2.1), (21, .int .i64 r_8.2), (23, .pointer (some ⟨b_4, 0, none⟩)), (26, .pointer (some ⟨b_6, 0, none⟩)), (184, .int .i64 r_8.2), (185, .bool (r_8.2 != 0)), (186, .bool (r_8.2 != 0)), (192, .bool ((r_8.2 != 0) || (decide (r_8.1.Lo < r_6.1.Lo)))), (193, .bool ((r_8.2 != 0) || (decide (r_8.1.Lo < r_6.1.Lo)))), (199, .bool (((r_8.2 != 0) || (decide (r_8.1.Lo < r_6.1.Lo))) || (decide (r_8.1.Hi < r_6.1.Hi))))] ∧ Ctx G (.box b_6 [.int .i64 r_8.1.Lo, .int .i64 r_8.1.Hi] 50 :: .box b_5 [.int .i64 r_7.1.N, .int .i64 r_7.1.D] 37 :: .box b_4 [.int .i64 r_6.1.Lo, .int .i64 r_6.1.Hi] 50 :: .row p_1 c_1 (r_1.1.Rating.map enc_shift_Mark) 77 2 :: .row (some ⟨g, 0, none⟩) c_2 (r_1.1.Gaugings.map enc_shift_Gauging) 71 4 :: .row p_9 c_9 (r_4.1.map encI_i64) 3 1 :: .box b_2 [.slice p_1 r_1.1.Rating.length c_1, .slice (some ⟨g, 0, none⟩) r_1.1.Gaugings.length c_2] 25 :: Lf) w) ?_ ?_
          · cases hb : ((r_8.2 != 0) || (decide (r_8.1.Lo < r_6.1.Lo)))
            · rw [hb] at hf
              refine stP hf rfl rfl rfl (pFA fa_50_1 rfl) fun a hf => ?_
              refine stE hf hc rfl rfl rfl (eLd1 sc_3 rfl (cell_box m0 rfl)) fun a w hf hc => ?_
              refine stP hf rfl rfl rfl (pFA fa_50_1 rfl) fun a hf => ?_
              refine stE hf hc rfl rfl rfl (eLd1 sc_3 rfl (cell_box m2 rfl)) fun a w hf hc => ?_
              refine stP hf rfl rfl rfl (pLt rfl rfl) fun a hf => ?_
              refine stP hf rfl rfl rfl (pPf rfl rfl) fun a hf => ?_
              exact cNil ⟨hf.keep ⟨rfl, rfl, rfl, rfl, rfl, rfl, rfl, rfl, rfl, rfl, rfl, rfl, rfl, rfl, rfl, rfl, trivial⟩, hc⟩
            · rw [hb] at hf
              refine stS hf rfl rfl rfl fun a hf => ?_
              refine stS hf rfl rfl rfl fun a hf => ?_
              refine stS hf rfl rfl rfl fun a hf => ?_
              refine stS hf rfl rfl rfl fun a hf => ?_
              refine stS hf rfl rfl rfl fun a hf => ?_
              refine stP hf rfl rfl rfl (pPt rfl rfl) fun a hf => ?_
              exact cNil ⟨hf.keep ⟨rfl, rfl, rfl, rfl, rfl, rfl, rfl, rfl, rfl, rfl, rfl, rfl, rfl, rfl, rfl, rfl, trivial⟩, hc⟩
          intro a w ⟨hf, hc⟩
          refine cNil ?_
          refine h25 _ _ ?_
          refine cCond (b := (((r_8.2 != 0) || (decide (r_8.1.Lo < r_6.1.Lo))) || (decide (r_8.1.Hi < r_6.1.Hi)))) hf rfl (fun hb => ?_) (fun hb => ?_)
          · replace hF := condT hb hF
            clear hb
            refine wp_seq_k fun K26 h26 => ?_
            refine cReg ?_
            refine stP hf rfl rfl rfl (pA rfl) fun a hf => ?_
            refine cNil ?_
            refine h26 _ _ ?_
            refine wp_ret ?_
            refine xThenR ?_
            obtain rfl := Option.some.inj hF
            replace hc := hc.down hle_fz_1
            replace hc := hc.down hle_fz
            replace hc := hc.drop k6
            replace hc := hc.drop k5
            replace hc := hc.drop k4
            replace hc := hc.drop k3
            replace hc := hc.drop k2
            replace hc := hc.drop k1
            replace hc := hc.drop k0
            exact fnOut1 (by simp) rfl Try.results6 hf hc (show look _ 10 = _ from rfl) ⟨rfl, hc⟩
          · replace hF := condF hb hF
            clear hb
            refine wp_skip ?_
            refine h24 _ _ ?_
            refine wp_seq_k fun K27 h27 => ?_
            refine cReg ?_
            refine stE hf hc rfl rfl rfl (eLdN (vs := [.slice p_1 r_1.1.Rating.length c_1, .slice (some ⟨g, 0, none⟩) r_1.1.Gaugings.length c_2]) ag_25 rfl rfl (cells_box (n := 2) m6 rfl)) fun a w hf hc => ?_
            refine stP hf rfl rfl rfl (pM rfl) fun a hf => ?_
            obtain ⟨r_9, hr_9, hF⟩ := bnd_some hF
            obtain ⟨G1, hle1, hrd1, hc, hth1⟩ := lend hc k3
            obtain ⟨G2, hle2, hrd2, hc, hth2⟩ := lend hc k3
            refine stC (vs := [.agg #[.slice p_1 r_1.1.Rating.length c_1, .slice (some ⟨g, 0, none⟩) r_1.1.Gaugings.length c_2], .int .i64 r_4.2.1]) (caps := []) hf rfl rfl rfl en_27 rfl rfl rfl rfl (shift_Can_ok r_1.1 r_4.2.1 (hrd1.mono hle2) hrd2 hc hr_9) ?_
            rintro _ w ⟨p_10, c_10, rfl, hc⟩
            refine ⟨_, rfl, fun a hf => ?_⟩
            replace hc := hth2 _ _ hc
            replace hc := hth1 _ _ hc
            refine stP hf rfl rfl rfl (pM rfl) fun a hf => ?_
            refine stP hf rfl rfl rfl (pX rfl rfl) fun a hf => ?_
            refine stP hf rfl rfl rfl (pX rfl rfl) fun a hf => ?_
            refine stP hf rfl rfl rfl (pA rfl) fun a hf => ?_
            refine stP hf rfl rfl rfl (pA rfl) fun a hf => ?_
            refine cNil ?_
            refine h27 _ _ ?_
            refine wp_seq_k fun K28 h28 => ?_
            refine cReg ?_
            refine stE hf hc rfl rfl rfl (eLdN (vs := [.slice p_1 r_1.1.Rating.length c_1, .slice (some ⟨g, 0, none⟩) r_1.1.Gaugings.length c_2]) ag_25 rfl rfl (cells_box (n := 2) m7 rfl)) fun a w hf hc => ?_
            refine stP hf rfl rfl rfl (pM rfl) fun a hf => ?_
            refine stP hf rfl rfl rfl (pM rfl) fun a hf => ?_
            refine stP hf rfl rfl rfl (pM rfl) fun a hf => ?_
            obtain ⟨r_10, hr_10, hF⟩ := bnd_some hF
            refine stE hf hc rfl rfl rfl (eC (v := .tuple #[.agg #[.int .i64 r_10.1.Lo, .int .i64 r_10.1.Hi], .int .i64 r_10.2]) (vs := [.agg #[.slice p_1 r_1.1.Rating.length c_1, .slice (some ⟨g, 0, none⟩) r_1.1.Gaugings.length c_2], .int .i64 r_4.2.1, .int .i64 ((W (day)).tmod (W (e_1.Day + 9))), .int .i64 (W (((W (stage)).tmod 120) - 40))]) (caps := []) en_29 rfl rfl rfl rfl (fun w hc => by obtain ⟨G1, hle1, hrd1, hc, hth1⟩ := lend hc k0; obtain ⟨G2, hle2, hrd2, hc, hth2⟩ := lend hc k0; exact (shift_Between_ok r_1.1 r_4.2.1 ((W (day)).tmod (W (e_1.Day + 9))) (W (((W (stage)).tmod 120) - 40)) (hrd1.mono hle2) hrd2 hc hr_10).mono fun e w h => ⟨h.1, ((hth1 _ _ ((hth2 _ _ h.2).unpick k0)).unpick k0)⟩)) fun a w hf hc => ?_
            refine stP hf rfl rfl rfl (pM rfl) fun a hf => ?_
            refine stP hf rfl rfl rfl (pX rfl rfl) fun a hf => ?_
            refine stP hf rfl rfl rfl (pX rfl rfl) fun a hf => ?_
            refine stAl (cs := [.int .i64 0, .int .i64 0]) hf hc rfl rfl zr_50 rfl fun b_7 a w hf hc => ?_
            refine stSt (vs := [.int .i64 r_10.1.Lo, .int .i64 r_10.1.Hi]) hf hc rfl rfl rfl rfl sz_50 rfl rfl u0 fun w hc => ?_
            refine stP hf rfl rfl rfl (pA rfl) fun a hf => ?_
            refine cNil ?_
            refine h28 _ _ ?_
            refine wp_seq_k fun K29 h29 => ?_
            refine wp_seq_k fun K30 h30 => ?_
            refine cReg ?_
            refine stP hf rfl rfl rfl (pM rfl) fun a hf => ?_
            refine stP hf rfl rfl rfl (pNe rfl rfl) fun a hf => ?_
            refine stP hf rfl rfl rfl (pM rfl) fun a hf => ?_
            refine stCut 3 (fun a w => Has 339 a [(11, .pointer (some ⟨b_2, 0, none⟩)), (12, .slice p_3 r_1.2.1.length c_3), (13, .int .i64 (W (((W (stage)).tmod 120) - 40))), (16, .int .i64 i_1), (17, .bool t_1), (21, .int .i64 r_9.2), (27, .slice p_10 r_9.1.length c_10), (28, .pointer (some ⟨b_7, 0, none⟩)), (29, .int .i64 r_10.2), (214, .int .i64 r_9.2), (215, .bool (r_9.2 != 0)), (216, .bool (r_9.2 != 0)), (219, .bool ((r_9.2 != 0) || (r_10.2 != 0)))] ∧ Ctx G (.box b_7 [.int .i64 r_10.1.Lo, .int .i64 r_10.1.Hi] 50 :: .row p_1 c_1 (r_1.1.Rating.map enc_shift_Mark) 77 2 :: .row (some ⟨g, 0, none⟩) c_2 (r_1.1.Gaugings.map enc_shift_Gauging) 71 4 :: .row p_10 c_10 (r_9.1.map enc_api_Span) 50 2 :: .box b_6 [.int .i64 r_8.1.Lo, .int .i64 r_8.1.Hi] 50 :: .box b_5 [.int .i64 r_7.1.N, .int .i64 r_7.1.D] 37 :: .box b_4 [.int .i64 r_6.1.Lo, .int .i64 r_6.1.Hi] 50 :: .row p_9 c_9 (r_4.1.map encI_i64) 3 1 :: .box b_2 [.slice p_1 r_1.1.Rating.length c_1, .slice (some ⟨g, 0, none⟩) r_1.1.Gaugings.length c_2] 25 :: Lf) w) ?_ ?_
            · cases hb : (r_9.2 != 0)
              · rw [hb] at hf
                refine stP hf rfl rfl rfl (pM rfl) fun a hf => ?_
                refine stP hf rfl rfl rfl (pNe rfl rfl) fun a hf => ?_
                refine stP hf rfl rfl rfl (pPf rfl rfl) fun a hf => ?_
                exact cNil ⟨hf.keep ⟨rfl, rfl, rfl, rfl, rfl, rfl, rfl, rfl, rfl, rfl, rfl, rfl, rfl, trivial⟩, hc⟩
              · rw [hb] at hf
                refine stS hf rfl rfl rfl fun a hf => ?_
                refine stS hf rfl rfl rfl fun a hf => ?_
                refine stP hf rfl rfl rfl (pPt rfl rfl) fun a hf => ?_
                exact cNil ⟨hf.keep ⟨rfl, rfl, rfl, rfl, rfl, rfl, rfl, rfl, rfl, rfl, rfl, rfl, rfl, trivial⟩, hc⟩
            intro a w ⟨hf, hc⟩
            refine stP hf rfl rfl rfl (pM rfl) fun a hf => ?_
            refine stCut 6 (fun a w => Has 339 a [(11, .pointer (some ⟨b_2, 0, none⟩)), (12, .slice p_3 r_1.2.1.length c_3), (13, .int .i64 (W (((W (stage)).tmod 120) - 40))), (16, .int .i64 i_1), (17, .bool t_1), (21, .int .i64 r_9.2), (27, .slice p_10 r_9.1.length c_10), (28, .pointer (some ⟨b_7, 0, none⟩)), (29, .int .i64 r_10.2), (214, .int .i64 r_9.2), (215, .bool (r_9.2 != 0)), (216, .bool (r_9.2 != 0)), (219, .bool ((r_9.2 != 0) || (r_10.2 != 0))), (220, .bool ((r_9.2 != 0) || (r_10.2 != 0))), (226, .bool (((r_9.2 != 0) || (r_10.2 != 0)) || (((r_9.1.length : Nat) : Int) != ((r_1.2.1.length : Nat) : Int))))] ∧ Ctx G (.box b_7 [.int .i64 r_10.1.Lo, .int .i64 r_10.1.Hi] 50 :: .row p_1 c_1 (r_1.1.Rating.map enc_shift_Mark) 77 2 :: .row (some ⟨g, 0, none⟩) c_2 (r_1.1.Gaugings.map enc_shift_Gauging) 71 4 :: .row p_10 c_10 (r_9.1.map enc_api_Span) 50 2 :: .box b_6 [.int .i64 r_8.1.Lo, .int .i64 r_8.1.Hi] 50 :: .box b_5 [.int .i64 r_7.1.N, .int .i64 r_7.1.D] 37 :: .box b_4 [.int .i64 r_6.1.Lo, .int .i64 r_6.1.Hi] 50 :: .row p_9 c_9 (r_4.1.map encI_i64) 3 1 :: .box b_2 [.slice p_1 r_1.1.Rating.length c_1, .slice (some ⟨g, 0, none⟩) r_1.1.Gaugings.length c_2] 25 :: Lf) w) ?_ ?_
            · cases hb : ((r_9.2 != 0) || (r_10.2 != 0))
              · rw [hb] at hf
                refine stP hf rfl rfl rfl (pM rfl) fun a hf => ?_
                refine stP hf rfl rfl rfl (pLenS Try.underlying44 rfl) fun a hf => ?_
                refine stP hf rfl rfl rfl (pM rfl) fun a hf => ?_
                refine stP hf rfl rfl rfl (pLenS Try.underlying61 rfl) fun a hf => ?_
                refine stP hf rfl rfl rfl (pNe rfl rfl) fun a hf => ?_
                refine stP hf rfl rfl rfl (pPf rfl rfl) fun a hf => ?_
                exact cNil ⟨hf.keep ⟨rfl, rfl, rfl, rfl, rfl, rfl, rfl, rfl, rfl, rfl, rfl, rfl, rfl, rfl, rfl, trivial⟩, hc⟩
              · rw [hb] at hf
                refine stS hf rfl rfl rfl fun a hf => ?_
                refine stS hf rfl rfl rfl fun a hf => ?_
                refine stS hf rfl rfl rfl fun a hf => ?_
                refine stS hf rfl rfl rfl fun a hf => ?_
                refine stS hf rfl rfl rfl fun a hf => ?_
                refine stP hf rfl rfl rfl (pPt rfl rfl) fun a hf => ?_
                exact cNil ⟨hf.keep ⟨rfl, rfl, rfl, rfl, rfl, rfl, rfl, rfl, rfl, rfl, rfl, rfl, rfl, rfl, rfl, trivial⟩, hc⟩
            intro a w ⟨hf, hc⟩
            refine cNil ?_
            refine h30 _ _ ?_
            refine cCond (b := (((r_9.2 != 0) || (r_10.2 != 0)) || (((r_9.1.length : Nat) : Int) != ((r_1.2.1.length : Nat) : Int)))) hf rfl (fun hb => ?_) (fun hb => ?_)
            · replace hF := condT hb hF
              clear hb
              refine wp_seq_k fun K31 h31 => ?_
              refine cReg ?_
              refine stP hf rfl rfl rfl (pA rfl) fun a hf => ?_
              refine cNil ?_
              refine h31 _ _ ?_
              refine wp_ret ?_
              refine xThenR ?_
              obtain rfl := Option.some.inj hF
              replace hc := hc.down hle_fz_1
              replace hc := hc.down hle_fz
              replace hc := hc.drop k8
              replace hc := hc.drop k7
              replace hc := hc.drop k6
              replace hc := hc.drop k5
              replace hc := hc.drop k4
              replace hc := hc.drop k3
              replace hc := hc.drop k2
              replace hc := hc.drop k1
              replace hc := hc.drop k0
              exact fnOut1 (by simp) rfl Try.results6 hf hc (show look _ 10 = _ from rfl) ⟨rfl, hc⟩
            · replace hF := condF hb hF
              clear hb
              refine wp_skip ?_
              refine h29 _ _ ?_
              refine wp_seq_k fun K32 h32 => ?_
              refine cReg ?_
              refine stP hf rfl rfl rfl (pA rfl) fun a hf => ?_
              refine cNil ?_
              refine h32 _ _ ?_
              obtain ⟨G, hle_fz_2, rd_fz_2, hc, -⟩ := lend hc k3
              refine wp_seq_k fun K34 h34 => ?_
              have hj34 : ∀ (ends : List api_Span) (p_11 : Option Addr) (c_11 : Nat) a w, Rd G 2 p_11 c_11 (ends.map enc_api_Span) → Has 339 a [(11, .pointer (some ⟨b_2, 0, none⟩)), (13, .int .i64 (W (((W (stage)).tmod 120) - 40))), (28, .pointer (some ⟨b_7, 0, none⟩)), (30, .slice p_11 ends.length c_11)] → Ctx G (.box b_7 [.int .i64 r_10.1.Lo, .int .i64 r_10.1.Hi] 50 :: .row p_1 c_1 (r_1.1.Rating.map enc_shift_Mark) 77 2 :: .row (some ⟨g, 0, none⟩) c_2 (r_1.1.Gaugings.map enc_shift_Gauging) 71 4 :: .box b_2 [.slice p_1 r_1.1.Rating.length c_1, .slice (some ⟨g, 0, none⟩) r_1.1.Gaugings.length c_2] 25 :: Lf) w → law05_ShiftDays_j34 N stage r_1 r_10 ends = some res → K34 a w := by
                repeat (clear hF)
                repeat (clear hc)
                repeat (clear hf)
                intro ends p_11 c_11 a w qr_3 hf hc hF
                unfold law05_ShiftDays_j34 at hF
                refine h34 _ _ ?_
                refine wp_seq_k fun K35 h35 => ?_
                obtain ⟨e_3, he_3, hF⟩ := bnd_some hF
                obtain ⟨b_8, o, qa_2, qp⟩ := qr_3.atm he_3
                obtain ⟨e_4, he_4, hF⟩ := bnd_some hF
                obtain ⟨b_9, o_1, qa_3, qp_1⟩ := qr_3.atm he_4
                refine cQ hc follows_mx (by kernel_rfl) ?_
                refine qE hf rfl rfl rfl (Pu.ev (pM rfl)) fun a hf => ?_
                refine qE hf rfl rfl rfl (Pu.ev (pIA Try.underlying44 sz_50 rfl rfl qa_2)) fun a hf => ?_
                refine qE hf rfl rfl rfl (Pu.ev (pFA fa_50_0 rfl)) fun a hf => ?_
                refine qE hf rfl rfl rfl (eLd1 sc_3 rfl (cell_pc (j := 0) qp rfl)) fun a hf => ?_
                refine qE hf rfl rfl rfl (Pu.ev (pM rfl)) fun a hf => ?_
                refine qE hf rfl rfl rfl (Pu.ev (pIA Try.underlying44 sz_50 rfl rfl qa_3)) fun a hf => ?_
                refine qE hf rfl rfl rfl (Pu.ev (pFA fa_50_1 rfl)) fun a hf => ?_
                refine qE hf rfl rfl rfl (eLd1 sc_3 rfl (cell_pc (j := 1) qp_1 rfl)) fun a hf => ?_
                refine qE hf rfl rfl rfl (Pu.ev (pA rfl)) fun a hf => ?_
                refine qE hf rfl rfl rfl (Pu.ev (pA rfl)) fun a hf => ?_
                intro w hc
                refine h35 _ _ ?_
                refine wp_seq_k fun K36 h36 => ?_
                refine wp_seq_k fun K37 h37 => ?_
                refine cReg ?_
                refine stP hf rfl rfl rfl (pM rfl) fun a hf => ?_
                refine stP hf rfl rfl rfl (pLenS Try.underlying44 rfl) fun a hf => ?_
                refine stP hf rfl rfl rfl (pM rfl) fun a hf => ?_
                refine cNil ?_
                refine h37 _ _ ?_
                refine wp_block ?_
                obtain ⟨x38, hx38, hF⟩ := bnd_some hF
                let S38 : (Int × Int × Int) → Act → World → Prop := (fun (zz : Int × Int × Int) a w => Has 339 a [(11, .pointer (some ⟨b_2, 0, none⟩)), (13, .int .i64 (W (((W (stage)).tmod 120) - 40))), (28, .pointer (some ⟨b_7, 0, none⟩)), (31, .int .i64 zz.1), (32, .int .i64 zz.2.1), (267, .slice p_11 ends.length c_11), (268, .int .i64 ((ends.length : Nat) : Int)), (269, .int .i64 zz.2.2)] ∧ Ctx G (.box b_7 [.int .i64 r_10.1.Lo, .int .i64 r_10.1.Hi] 50 :: .row p_1 c_1 (r_1.1.Rating.map enc_shift_Mark) 77 2 :: .row (some ⟨g, 0, none⟩) c_2 (r_1.1.Gaugings.map enc_shift_Gauging) 71 4 :: .box b_2 [.slice p_1 r_1.1.Rating.length c_1, .slice (some ⟨g, 0, none⟩) r_1.1.Gaugings.length c_2] 25 :: Lf) w)
                have hr38 : ∀ (zz : Int × Int × Int) a w, x38 = .go zz → S38 zz a w → K36 a w := by
                  rintro ⟨low, high, x⟩ a w rfl ⟨hf, hc⟩
                  replace hF := exK_go hF
                  refine h36 _ _ ?_
                  refine wp_seq_k fun K39 h39 => ?_
                  refine cReg ?_
                  refine stP hf rfl rfl rfl (pFA fa_25_0 rfl) fun a hf => ?_
                  refine stE hf hc rfl rfl rfl (eLd1 sc_22 rfl (cell_box m3 rfl)) fun a w hf hc => ?_
                  refine stP hf rfl rfl rfl (pM rfl) fun a hf => ?_
                  refine stP hf rfl rfl rfl (pM rfl) fun a hf => ?_
                  obtain ⟨r_11, hr_11, hF⟩ := bnd_some hF
                  refine stE hf hc rfl rfl rfl (eC (v := .tuple #[.agg #[.int .i64 r_11.1.N, .int .i64 r_11.1.D], .int .i64 r_11.2]) (vs := [.slice p_1 r_1.1.Rating.length c_1, .int .i64 (W (((W (stage)).tmod 120) - 40)), .int .i64 high]) (caps := []) en_17 rfl rfl rfl rfl (fun w hc => by obtain ⟨G1, hle1, hrd1, hc, hth1⟩ := lend hc k1; exact (shift_Means_ok r_1.1.Rating (W (((W (stage)).tmod 120) - 40)) high hrd1 hc hr_11).mono fun e w h => ⟨h.1, ((hth1 _ _ h.2).unpick k1)⟩)) fun a w hf hc => ?_
                  refine stP hf rfl rfl rfl (pM rfl) fun a hf => ?_
                  refine stP hf rfl rfl rfl (pX rfl rfl) fun a hf => ?_
                  refine stP hf rfl rfl rfl (pX rfl rfl) fun a hf => ?_
                  refine stAl (cs := [.int .i64 0, .int .i64 0]) hf hc rfl rfl zr_37 rfl fun b_10 a w hf hc => ?_
                  refine stSt (vs := [.int .i64 r_11.1.N, .int .i64 r_11.1.D]) hf hc rfl rfl rfl rfl sz_37 rfl rfl u0 fun w hc => ?_
                  refine stP hf rfl rfl rfl (pA rfl) fun a hf => ?_
                  refine cNil ?_
                  refine h39 _ _ ?_
                  refine wp_seq_k fun K40 h40 => ?_
                  refine cReg ?_
                  refine stP hf rfl rfl rfl (pFA fa_25_0 rfl) fun a hf => ?_
                  refine stE hf hc rfl rfl rfl (eLd1 sc_22 rfl (cell_box m4 rfl)) fun a w hf hc => ?_
                  refine stP hf rfl rfl rfl (pM rfl) fun a hf => ?_
                  refine stP hf rfl rfl rfl (pM rfl) fun a hf => ?_
                  obtain ⟨r_12, hr_12, hF⟩ := bnd_some hF
                  refine stE hf hc rfl rfl rfl (eC (v := .tuple #[.agg #[.int .i64 r_12.1.N, .int .i64 r_12.1.D], .int .i64 r_12.2]) (vs := [.slice p_1 r_1.1.Rating.length c_1, .int .i64 (W (((W (stage)).tmod 120) - 40)), .int .i64 low]) (caps := []) en_17 rfl rfl rfl rfl (fun w hc => by obtain ⟨G1, hle1, hrd1, hc, hth1⟩ := lend hc k2; exact (shift_Means_ok r_1.1.Rating (W (((W (stage)).tmod 120) - 40)) low hrd1 hc hr_12).mono fun e w h => ⟨h.1, ((hth1 _ _ h.2).unpick k2)⟩)) fun a w hf hc => ?_
                  refine stP hf rfl rfl rfl (pM rfl) fun a hf => ?_
                  refine stP hf rfl rfl rfl (pX rfl rfl) fun a hf => ?_
                  refine stP hf rfl rfl rfl (pX rfl rfl) fun a hf => ?_
                  refine stAl (cs := [.int .i64 0, .int .i64 0]) hf hc rfl rfl zr_37 rfl fun b_11 a w hf hc => ?_
                  refine stSt (vs := [.int .i64 r_12.1.N, .int .i64 r_12.1.D]) hf hc rfl rfl rfl rfl sz_37 rfl rfl u0 fun w hc => ?_
                  refine stP hf rfl rfl rfl (pA rfl) fun a hf => ?_
                  refine cNil ?_
                  refine h40 _ _ ?_
                  refine wp_seq_k fun K41 h41 => ?_
                  refine wp_seq_k fun K42 h42 => ?_
                  refine cReg ?_
                  refine stP hf rfl rfl rfl (pM rfl) fun a hf => ?_
                  refine stP hf rfl rfl rfl (pNe rfl rfl) fun a hf => ?_
                  refine stP hf rfl rfl rfl (pM rfl) fun a hf => ?_
                  refine stCut 3 (fun a w => Has 339 a [(28, .pointer (some ⟨b_7, 0, none⟩)), (35, .pointer (some ⟨b_10, 0, none⟩)), (21, .int .i64 r_11.2), (36, .pointer (some ⟨b_11, 0, none⟩)), (25, .int .i64 r_12.2), (298, .int .i64 r_11.2), (299, .bool (r_11.2 != 0)), (300, .bool (r_11.2 != 0)), (303, .bool ((r_11.2 != 0) || (r_12.2 != 0)))] ∧ Ctx G (.box b_11 [.int .i64 r_12.1.N, .int .i64 r_12.1.D] 37 :: .box b_10 [.int .i64 r_11.1.N, .int .i64 r_11.1.D] 37 :: .box b_7 [.int .i64 r_10.1.Lo, .int .i64 r_10.1.Hi] 50 :: .row p_1 c_1 (r_1.1.Rating.map enc_shift_Mark) 77 2 :: .row (some ⟨g, 0, none⟩) c_2 (r_1.1.Gaugings.map enc_shift_Gauging) 71 4 :: .box b_2 [.slice p_1 r_1.1.Rating.length c_1, .slice (some ⟨g, 0, none⟩) r_1.1.Gaugings.length c_2] 25 :: Lf) w) ?_ ?_
                  · cases hb : (r_11.2 != 0)
                    · rw [hb] at hf
                      refine stP hf rfl rfl rfl (pM rfl) fun a hf => ?_
                      refine stP hf rfl rfl rfl (pNe rfl rfl) fun a hf => ?_
                      refine stP hf rfl rfl rfl (pPf rfl rfl) fun a hf => ?_
                      exact cNil ⟨hf.keep ⟨rfl, rfl, rfl, rfl, rfl, rfl, rfl, rfl, rfl, trivial⟩, hc⟩
                    · rw [hb] at hf
                      refine stS hf rfl rfl rfl fun a hf => ?_
                      refine stS hf rfl rfl rfl fun a hf => ?_
                      refine stP hf rfl rfl rfl (pPt rfl rfl) fun a hf => ?_
                      exact cNil ⟨hf.keep ⟨rfl, rfl, rfl, rfl, rfl, rfl, rfl, rfl, rfl, trivial⟩, hc⟩
                  intro a w ⟨hf, hc⟩
                  refine stP hf rfl rfl rfl (pM rfl) fun a hf => ?_
                  refine stCut 4 (fun a w => Has 339 a [(28, .pointer (some ⟨b_7, 0, none⟩)), (35, .pointer (some ⟨b_10, 0, none⟩)), (21, .int .i64 r_11.2), (36, .pointer (some ⟨b_11, 0, none⟩)), (25, .int .i64 r_12.2), (298, .int .i64 r_11.2), (299, .bool (r_11.2 != 0)), (300, .bool (r_11.2 != 0)), (303, .bool ((r_11.2 != 0) || (r_12.2 != 0))), (304, .bool ((r_11.2 != 0) || (r_12.2 != 0))), (308, .bool (((r_11.2 != 0) || (r_12.2 != 0)) || (decide (r_11.1.D < 1))))] ∧ Ctx G (.box b_11 [.int .i64 r_12.1.N, .int .i64 r_12.1.D] 37 :: .box b_10 [.int .i64 r_11.1.N, .int .i64 r_11.1.D] 37 :: .box b_7 [.int .i64 r_10.1.Lo, .int .i64 r_10.1.Hi] 50 :: .row p_1 c_1 (r_1.1.Rating.map enc_shift_Mark) 77 2 :: .row (some ⟨g, 0, none⟩) c_2 (r_1.1.Gaugings.map enc_shift_Gauging) 71 4 :: .box b_2 [.slice p_1 r_1.1.Rating.length c_1, .slice (some ⟨g, 0, none⟩) r_1.1.Gaugings.length c_2] 25 :: Lf) w) ?_ ?_
                  · cases hb : ((r_11.2 != 0) || (r_12.2 != 0))
                    · rw [hb] at hf
                      refine stP hf rfl rfl rfl (pFA fa_37_1 rfl) fun a hf => ?_
                      refine stE hf hc rfl rfl rfl (eLd1 sc_3 rfl (cell_box m1 rfl)) fun a w hf hc => ?_
                      refine stP hf rfl rfl rfl (pLt rfl rfl) fun a hf => ?_
                      refine stP hf rfl rfl rfl (pPf rfl rfl) fun a hf => ?_
                      exact cNil ⟨hf.keep ⟨rfl, rfl, rfl, rfl, rfl, rfl, rfl, rfl, rfl, rfl, rfl, trivial⟩, hc⟩
                    · rw [hb] at hf
                      refine stS hf rfl rfl rfl fun a hf => ?_
                      refine stS hf rfl rfl rfl fun a hf => ?_
                      refine stS hf rfl rfl rfl fun a hf => ?_
                      refine stP hf rfl rfl rfl (pPt rfl rfl) fun a hf => ?_
                      exact cNil ⟨hf.keep ⟨rfl, rfl, rfl, rfl, rfl, rfl, rfl, rfl, rfl, rfl, rfl, trivial⟩, hc⟩
                  intro a w ⟨hf, hc⟩
                  refine stP hf rfl rfl rfl (pM rfl) fun a hf => ?_
                  refine stCut 4 (fun a w => Has 339 a [(28, .pointer (some ⟨b_7, 0, none⟩)), (35, .pointer (some ⟨b_10, 0, none⟩)), (21, .int .i64 r_11.2), (36, .pointer (some ⟨b_11, 0, none⟩)), (25, .int .i64 r_12.2), (298, .int .i64 r_11.2), (299, .bool (r_11.2 != 0)), (300, .bool (r_11.2 != 0)), (303, .bool ((r_11.2 != 0) || (r_12.2 != 0))), (304, .bool ((r_11.2 != 0) || (r_12.2 != 0))), (308, .bool (((r_11.2 != 0) || (r_12.2 != 0)) || (decide (r_11.1.D < 1)))), (309, .bool (((r_11.2 != 0) || (r_12.2 != 0)) || (decide (r_11.1.D < 1)))), (313, .bool ((((r_11.2 != 0) || (r_12.2 != 0)) || (decide (r_11.1.D < 1))) || (decide (r_12.1.D < 1))))] ∧ Ctx G (.box b_11 [.int .i64 r_12.1.N, .int .i64 r_12.1.D] 37 :: .box b_10 [.int .i64 r_11.1.N, .int .i64 r_11.1.D] 37 :: .box b_7 [.int .i64 r_10.1.Lo, .int .i64 r_10.1.Hi] 50 :: .row p_1 c_1 (r_1.1.Rating.map enc_shift_Mark) 77 2 :: .row (some ⟨g, 0, none⟩) c_2 (r_1.1.Gaugings.map enc_shift_Gauging) 71 4 :: .box b_2 [.slice p_1 r_1.1.Rating.length c_1, .slice (some ⟨g, 0, none⟩) r_1.1.Gaugings.length c_2] 25 :: Lf) w) ?_ ?_
                  · cases hb : (((r_11.2 != 0) || (r_12.2 != 0)) || (decide (r_11.1.D < 1)))
                    · rw [hb] at hf
                      refine stP hf rfl rfl rfl (pFA fa_37_1 rfl) fun a hf => ?_
                      refine stE hf hc rfl rfl rfl (eLd1 sc_3 rfl (cell_box m0 rfl)) fun a w hf hc => ?_
                      refine stP hf rfl rfl rfl (pLt rfl rfl) fun a hf => ?_
                      refine stP hf rfl rfl rfl (pPf rfl rfl) fun a hf => ?_
                      exact cNil ⟨hf.keep ⟨rfl, rfl, rfl, rfl, rfl, rfl, rfl, rfl, rfl, rfl, rfl, rfl, rfl, trivial⟩, hc⟩
                    · rw [hb] at hf
                      refine stS hf rfl rfl rfl fun a hf => ?_
                      refine stS hf rfl rfl rfl fun a hf => ?_
                      refine stS hf rfl rfl rfl fun a hf => ?_
                      refine stP hf rfl rfl rfl (pPt rfl rfl) fun a hf => ?_
                      exact cNil ⟨hf.keep ⟨rfl, rfl, rfl, rfl, rfl, rfl, rfl, rfl, rfl, rfl, rfl, rfl, rfl, trivial⟩, hc⟩
                  intro a w ⟨hf, hc⟩
                  refine cNil ?_
                  refine h42 _ _ ?_
                  refine cCond (b := ((((r_11.2 != 0) || (r_12.2 != 0)) || (decide (r_11.1.D < 1))) || (decide (r_12.1.D < 1)))) hf rfl (fun hb => ?_) (fun hb => ?_)
                  · replace hF := condT hb hF
                    clear hb
                    refine wp_seq_k fun K43 h43 => ?_
                    refine cReg ?_
                    refine stP hf rfl rfl rfl (pA rfl) fun a hf => ?_
                    refine cNil ?_
                    refine h43 _ _ ?_
                    refine wp_ret ?_
                    refine xThenR ?_
                    obtain rfl := Option.some.inj hF
                    replace hc := hc.down hle_fz_2
                    replace hc := hc.down hle_fz_1
                    replace hc := hc.down hle_fz
                    replace hc := hc.drop k5
                    replace hc := hc.drop k4
                    replace hc := hc.drop k3
                    replace hc := hc.drop k2
                    replace hc := hc.drop k1
                    replace hc := hc.drop k0
                    exact fnOut1 (by simp) rfl Try.results6 hf hc (show look _ 10 = _ from rfl) ⟨rfl, hc⟩
                  · replace hF := condF hb hF
                    clear hb
                    refine wp_skip ?_
                    refine h41 _ _ ?_
                    refine wp_seq_k fun K44 h44 => ?_
                    obtain ⟨un_1, hun_1, hF⟩ := bnd_some hF
                    obtain ⟨t_2, ht_2, hF⟩ := bnd_some hF
                    obtain ⟨t_3, ht_3, hF⟩ := bnd_some hF
                    refine cQ hc follows_mx (by kernel_rfl) ?_
                    refine qE hf rfl rfl rfl (Pu.ev (pFA fa_50_0 rfl)) fun a hf => ?_
                    refine qE hf rfl rfl rfl (eLd1 sc_3 rfl (cell_box m2 rfl)) fun a hf => ?_
                    refine qE hf rfl rfl rfl (Pu.ev (pFA fa_37_0 rfl)) fun a hf => ?_
                    refine qE hf rfl rfl rfl (eLd1 sc_3 rfl (cell_box m1 rfl)) fun a hf => ?_
                    refine qE hf rfl rfl rfl (Pu.ev (pFA fa_37_1 rfl)) fun a hf => ?_
                    refine qE hf rfl rfl rfl (eLd1 sc_3 rfl (cell_box m1 rfl)) fun a hf => ?_
                    refine qE hf rfl rfl rfl (Pu.ev (pQuo rfl rfl (nz_spec hun_1))) fun a hf => ?_
                    refine qE hf rfl rfl rfl (Pu.ev (pGe rfl rfl)) fun a hf => ?_
                    refine qE hf rfl rfl rfl (Pu.ev (pM rfl)) fun a hf => ?_
                    refine qCut 13 (fun a => Has 339 a [(28, .pointer (some ⟨b_7, 0, none⟩)), (35, .pointer (some ⟨b_10, 0, none⟩)), (36, .pointer (some ⟨b_11, 0, none⟩)), (314, .pointer (some ⟨b_7, 0, none⟩)), (315, .int .i64 r_10.1.Lo), (316, .pointer (some ⟨b_10, 0, none⟩)), (317, .int .i64 r_11.1.N), (318, .pointer (some ⟨b_10, 1, none⟩)), (319, .int .i64 r_11.1.D), (320, .int .i64 (W (r_11.1.N.tdiv r_11.1.D))), (321, .bool (decide ((W (r_11.1.N.tdiv r_11.1.D)) ≤ r_10.1.Lo))), (322, .bool (decide ((W (r_11.1.N.tdiv r_11.1.D)) ≤ r_10.1.Lo))), (335, .bool t_2)]) ?_ ?_
                    · cases hb : (decide ((W (r_11.1.N.tdiv r_11.1.D)) ≤ r_10.1.Lo))
                      · rw [hb] at hf
                        have hF := condF hb ht_2
                        obtain rfl := Option.some.inj hF
                        refine qS hf rfl rfl rfl fun a hf => ?_
                        refine qS hf rfl rfl rfl fun a hf => ?_
                        refine qS hf rfl rfl rfl fun a hf => ?_
                        refine qS hf rfl rfl rfl fun a hf => ?_
                        refine qS hf rfl rfl rfl fun a hf => ?_
                        refine qS hf rfl rfl rfl fun a hf => ?_
                        refine qS hf rfl rfl rfl fun a hf => ?_
                        refine qS hf rfl rfl rfl fun a hf => ?_
                        refine qS hf rfl rfl rfl fun a hf => ?_
                        refine qS hf rfl rfl rfl fun a hf => ?_
                        refine qS hf rfl rfl rfl fun a hf => ?_
                        refine qS hf rfl rfl rfl fun a hf => ?_
                        refine qE hf rfl rfl rfl (Pu.ev (pPf rfl rfl)) fun a hf => ?_
                        exact qNil (hf.keep ⟨rfl, rfl, rfl, rfl, rfl, rfl, rfl, rfl, rfl, rfl, rfl, rfl, rfl, trivial⟩)
                      · rw [hb] at hf
                        have hF := condT hb ht_2
                        obtain ⟨un_2, hun_2, hF⟩ := bnd_some hF
                        refine qE hf rfl rfl rfl (Pu.ev (pFA fa_50_1 rfl)) fun a hf => ?_
                        refine qE hf rfl rfl rfl (eLd1 sc_3 rfl (cell_box m2 rfl)) fun a hf => ?_
                        refine qE hf rfl rfl rfl (Pu.ev (pFA fa_37_0 rfl)) fun a hf => ?_
                        refine qE hf rfl rfl rfl (eLd1 sc_3 rfl (cell_box m0 rfl)) fun a hf => ?_
                        refine qE hf rfl rfl rfl (Pu.ev (pFA fa_37_1 rfl)) fun a hf => ?_
                        refine qE hf rfl rfl rfl (eLd1 sc_3 rfl (cell_box m0 rfl)) fun a hf => ?_
                        refine qE hf rfl rfl rfl (Pu.ev (pAdd rfl rfl)) fun a hf => ?_
                        refine qE hf rfl rfl rfl (Pu.ev (pSub rfl rfl)) fun a hf => ?_
                        refine qE hf rfl rfl rfl (Pu.ev (pFA fa_37_1 rfl)) fun a hf => ?_
                        refine qE hf rfl rfl rfl (eLd1 sc_3 rfl (cell_box m0 rfl)) fun a hf => ?_
                        refine qE hf rfl rfl rfl (Pu.ev (pQuo rfl rfl (nz_spec hun_2))) fun a hf => ?_
                        refine qE hf rfl rfl rfl (Pu.ev (pLe rfl rfl)) fun a hf => ?_
                        refine qE hf rfl rfl rfl (Pu.ev (pPt rfl rfl)) fun a hf => ?_
                        obtain rfl := Option.some.inj hF
                        exact qNil (hf.keep ⟨rfl, rfl, rfl, rfl, rfl, rfl, rfl, rfl, rfl, rfl, rfl, rfl, rfl, trivial⟩)
                    intro a hf
                    refine qE hf rfl rfl rfl (Pu.ev (pM rfl)) fun a hf => ?_
                    refine qCut 2 (fun a => Has 339 a [(28, .pointer (some ⟨b_7, 0, none⟩)), (35, .pointer (some ⟨b_10, 0, none⟩)), (36, .pointer (some ⟨b_11, 0, none⟩)), (314, .pointer (some ⟨b_7, 0, none⟩)), (315, .int .i64 r_10.1.Lo), (316, .pointer (some ⟨b_10, 0, none⟩)), (317, .int .i64 r_11.1.N), (318, .pointer (some ⟨b_10, 1, none⟩)), (319, .int .i64 r_11.1.D), (320, .int .i64 (W (r_11.1.N.tdiv r_11.1.D))), (321, .bool (decide ((W (r_11.1.N.tdiv r_11.1.D)) ≤ r_10.1.Lo))), (322, .bool (decide ((W (r_11.1.N.tdiv r_11.1.D)) ≤ r_10.1.Lo))), (335, .bool t_2), (336, .bool t_2), (338, .bool t_3)]) ?_ ?_
                    · cases hb : t_2
                      · rw [hb] at hf
                        have hF := condF hb ht_3
                        obtain rfl := Option.some.inj hF
                        refine qS hf rfl rfl rfl fun a hf => ?_
                        refine qE hf rfl rfl rfl (Pu.ev (pPf rfl rfl)) fun a hf => ?_
                        exact qNil (hf.keep ⟨rfl, rfl, rfl, rfl, rfl, rfl, rfl, rfl, rfl, rfl, rfl, rfl, rfl, rfl, rfl, trivial⟩)
                      · rw [hb] at hf
                        have hF := condT hb ht_3
                        obtain ⟨r_13, hr_13, hF⟩ := bnd_some hF
                        refine qE hf rfl rfl rfl (eC (v := .bool r_13) (vs := []) (caps := []) en_12 rfl rfl rfl rfl (fun w hc => law05_awake_ok hc hr_13)) fun a hf => ?_
                        refine qE hf rfl rfl rfl (Pu.ev (pPt rfl rfl)) fun a hf => ?_
                        obtain rfl := Option.some.inj hF
                        exact qNil (hf.keep ⟨rfl, rfl, rfl, rfl, rfl, rfl, rfl, rfl, rfl, rfl, rfl, rfl, rfl, rfl, rfl, trivial⟩)
                    intro a hf
                    refine qE hf rfl rfl rfl (Pu.ev (pA rfl)) fun a hf => ?_
                    intro w hc
                    refine h44 _ _ ?_
                    refine wp_ret ?_
                    obtain rfl := Option.some.inj hF
                    replace hc := hc.down hle_fz_2
                    replace hc := hc.down hle_fz_1
                    replace hc := hc.down hle_fz
                    replace hc := hc.drop k5
                    replace hc := hc.drop k4
                    replace hc := hc.drop k3
                    replace hc := hc.drop k2
                    replace hc := hc.drop k1
                    replace hc := hc.drop k0
                    exact fnOut1 (by simp) rfl Try.results6 hf hc (show look _ 10 = _ from rfl) ⟨rfl, hc⟩
                have ho38 : ∀ r, x38 = .out r → r = res := by
                  rintro r rfl
                  exact Option.some.inj hF
                refine cLoop N (loopW (S := S38) (x := x38) ?_ N (e_3.Lo, e_4.Hi, 0) _ _ ⟨hf.keep ⟨rfl, rfl, rfl, rfl, rfl, rfl, rfl, rfl, trivial⟩, hc⟩ hx38)
                clear hF hf hc
                rintro ⟨low, high, x⟩ st38 a w KB38 ⟨hf, hc⟩ hF hfin38 hK38
                unfold law05_ShiftDays_b38 at hF
                refine wp_seq_k fun K45 h45 => ?_
                refine cReg ?_
                refine stP hf rfl rfl rfl (pLt rfl rfl) fun a hf => ?_
                refine cNil ?_
                refine h45 _ _ ?_
                refine wp_seq_k fun K46 h46 => ?_
                refine cCond (b := (decide (x < ((ends.length : Nat) : Int)))) hf rfl (fun hb => ?_) (fun hb => ?_)
                · replace hF := condT hb hF
                  clear hb
                  refine wp_skip ?_
                  refine h46 _ _ ?_
                  refine wp_seq_k fun K47 h47 => ?_
                  refine wp_block ?_
                  refine wp_seq_k fun K48 h48 => ?_
                  refine cReg ?_
                  obtain ⟨e_5, he_5, hF⟩ := bnd_some hF
                  obtain ⟨b_12, o_2, qa_4, qp_2⟩ := qr_3.atm he_5
                  refine stP hf rfl rfl rfl (pIA Try.underlying44 sz_50 rfl rfl qa_4) fun a hf => ?_
                  refine stE hf hc rfl rfl rfl (eLdN (vs := [.int .i64 e_5.Lo, .int .i64 e_5.Hi]) ag_50 rfl rfl (cells_pc qp_2 (n := 2) (o' := 0) rfl)) fun a w hf hc => ?_
                  refine stAl (cs := [.int .i64 0, .int .i64 0]) hf hc rfl rfl zr_50 rfl fun b_13 a w hf hc => ?_
                  refine stSt (vs := [.int .i64 e_5.Lo, .int .i64 e_5.Hi]) hf hc rfl rfl rfl rfl sz_50 rfl rfl u0 fun w hc => ?_
                  refine cNil ?_
                  refine h48 _ _ ?_
                  refine cQ hc follows_mx (by kernel_rfl) ?_
                  refine qE hf rfl rfl rfl (Pu.ev (pM rfl)) fun a hf => ?_
                  refine qE hf rfl rfl rfl (Pu.ev (pFA fa_50_0 rfl)) fun a hf => ?_
                  refine qE hf rfl rfl rfl (eLd1 sc_3 rfl (cell_box m0 rfl)) fun a hf => ?_
                  refine qE hf rfl rfl rfl (Pu.ev (pMin2 rfl rfl)) fun a hf => ?_
                  refine qE hf rfl rfl rfl (Pu.ev (pM rfl)) fun a hf => ?_
                  refine qE hf rfl rfl rfl (Pu.ev (pFA fa_50_1 rfl)) fun a hf => ?_
                  refine qE hf rfl rfl rfl (eLd1 sc_3 rfl (cell_box m0 rfl)) fun a hf => ?_
                  refine qE hf rfl rfl rfl (Pu.ev (pMax2 rfl rfl)) fun a hf => ?_
                  refine qE hf rfl rfl rfl (Pu.ev (pA rfl)) fun a hf => ?_
                  refine qE hf rfl rfl rfl (Pu.ev (pA rfl)) fun a hf => ?_
                  intro w hc
                  refine h47 _ _ ?_
                  refine cReg ?_
                  refine stP hf rfl rfl rfl (pAdd rfl rfl) fun a hf => ?_
                  refine stP hf rfl rfl rfl (pM rfl) fun a hf => ?_
                  refine cNil ?_
                  replace hc := hc.drop k0
                  exact hK38 (min low e_5.Lo, max high e_5.Hi, W (x + 1)) _ _ (Option.some.inj hF).symm ⟨hf.keep ⟨rfl, rfl, rfl, rfl, rfl, rfl, rfl, rfl, trivial⟩, hc⟩
                · replace hF := condF hb hF
                  clear hb
                  refine wp_exit ?_
                  refine xThen ?_
                  refine xThen ?_
                  have he := Option.some.inj hF
                  rw [← he] at hfin38
                  refine cHit ?_
                  exact hr38 _ _ _ hfin38 ⟨hf.keep ⟨rfl, rfl, rfl, rfl, rfl, rfl, rfl, rfl, trivial⟩, hc⟩
              refine wp_block ?_
              refine wp_seq_k fun K49 h49 => ?_
              refine cReg ?_
              refine stP hf rfl rfl rfl (pM rfl) fun a hf => ?_
              refine stP hf rfl rfl rfl (pA rfl) fun a hf => ?_
              refine cNil ?_
              refine h49 _ _ ?_
              refine cCond (b := t_1) hf rfl (fun hb => ?_) (fun hb => ?_)
              · replace hF := condT hb hF
                clear hb
                refine cReg ?_
                refine stP hf rfl rfl rfl (pM rfl) fun a hf => ?_
                refine stP hf rfl rfl rfl (pM rfl) fun a hf => ?_
                refine stP hf rfl rfl rfl (pM rfl) fun a hf => ?_
                refine stP hf rfl rfl rfl (pAdd rfl rfl) fun a hf => ?_
                obtain ⟨sub, hsub, hF⟩ := bnd_some hF
                have qs := Rd.sub rd_fz_2 hsub
                refine stP hf rfl rfl rfl (pSl Try.underlying44 sz_50 rfl rfl (by simpa using rd_fz_2.1) rfl rfl hsub) fun a hf => ?_
                refine stP hf rfl rfl rfl (pA rfl) fun a hf => ?_
                refine cNil ?_
                replace hc := hc.drop k6
                replace hc := hc.drop k5
                replace hc := hc.drop k4
                replace hc := hc.drop k3
                exact hj34 sub (subP p_10 c_10 i_1.toNat 2) (c_10 - i_1.toNat) _ _ qs (hf.keep ⟨rfl, rfl, rfl, rfl, trivial⟩) hc hF
              · replace hF := condF hb hF
                clear hb
                refine wp_seq_k fun K50 h50 => ?_
                refine cReg ?_
                refine stP hf rfl rfl rfl (pM rfl) fun a hf => ?_
                refine stP hf rfl rfl rfl (pGt rfl rfl) fun a hf => ?_
                refine stP hf rfl rfl rfl (pM rfl) fun a hf => ?_
                refine stCut 5 (fun a w => Has 339 a [(11, .pointer (some ⟨b_2, 0, none⟩)), (13, .int .i64 (W (((W (stage)).tmod 120) - 40))), (16, .int .i64 i_1), (27, .slice p_10 r_9.1.length c_10), (28, .pointer (some ⟨b_7, 0, none⟩)), (237, .int .i64 i_1), (238, .bool (decide (0 < i_1))), (239, .bool (decide (0 < i_1))), (244, .bool ((decide (0 < i_1)) && (decide (i_1 < ((r_9.1.length : Nat) : Int)))))] ∧ Ctx G (.box b_7 [.int .i64 r_10.1.Lo, .int .i64 r_10.1.Hi] 50 :: .row p_1 c_1 (r_1.1.Rating.map enc_shift_Mark) 77 2 :: .row (some ⟨g, 0, none⟩) c_2 (r_1.1.Gaugings.map enc_shift_Gauging) 71 4 :: .box b_6 [.int .i64 r_8.1.Lo, .int .i64 r_8.1.Hi] 50 :: .box b_5 [.int .i64 r_7.1.N, .int .i64 r_7.1.D] 37 :: .box b_4 [.int .i64 r_6.1.Lo, .int .i64 r_6.1.Hi] 50 :: .row p_9 c_9 (r_4.1.map encI_i64) 3 1 :: .box b_2 [.slice p_1 r_1.1.Rating.length c_1, .slice (some ⟨g, 0, none⟩) r_1.1.Gaugings.length c_2] 25 :: Lf) w) ?_ ?_
                · cases hb : (decide (0 < i_1))
                  · rw [hb] at hf
                    refine stS hf rfl rfl rfl fun a hf => ?_
                    refine stS hf rfl rfl rfl fun a hf => ?_
                    refine stS hf rfl rfl rfl fun a hf => ?_
                    refine stS hf rfl rfl rfl fun a hf => ?_
                    refine stP hf rfl rfl rfl (pPf rfl rfl) fun a hf => ?_
                    exact cNil ⟨hf.keep ⟨rfl, rfl, rfl, rfl, rfl, rfl, rfl, rfl, rfl, trivial⟩, hc⟩
                  · rw [hb] at hf
                    refine stP hf rfl rfl rfl (pM rfl) fun a hf => ?_
                    refine stP hf rfl rfl rfl (pM rfl) fun a hf => ?_
                    refine stP hf rfl rfl rfl (pLenS Try.underlying44 rfl) fun a hf => ?_
                    refine stP hf rfl rfl rfl (pLt rfl rfl) fun a hf => ?_
                    refine stP hf rfl rfl rfl (pPt rfl rfl) fun a hf => ?_
                    exact cNil ⟨hf.keep ⟨rfl, rfl, rfl, rfl, rfl, rfl, rfl, rfl, rfl, trivial⟩, hc⟩
                intro a w ⟨hf, hc⟩
                refine stP hf rfl rfl rfl (pA rfl) fun a hf => ?_
                refine cNil ?_
                refine h50 _ _ ?_
                refine cCond (b := ((decide (0 < i_1)) && (decide (i_1 < ((r_9.1.length : Nat) : Int))))) hf rfl (fun hb => ?_) (fun hb => ?_)
                · replace hF := condT hb hF
                  clear hb
                  refine cReg ?_
                  refine stP hf rfl rfl rfl (pM rfl) fun a hf => ?_
                  refine stP hf rfl rfl rfl (pM rfl) fun a hf => ?_
                  refine stP hf rfl rfl rfl (pSub rfl rfl) fun a hf => ?_
                  refine stP hf rfl rfl rfl (pM rfl) fun a hf => ?_
                  refine stP hf rfl rfl rfl (pAdd rfl rfl) fun a hf => ?_
                  obtain ⟨sub_1, hsub_1, hF⟩ := bnd_some hF
                  have qs_1 := Rd.sub rd_fz_2 hsub_1
                  refine stP hf rfl rfl rfl (pSl Try.underlying44 sz_50 rfl rfl (by simpa using rd_fz_2.1) rfl rfl hsub_1) fun a hf => ?_
                  refine stP hf rfl rfl rfl (pA rfl) fun a hf => ?_
                  refine cNil ?_
                  replace hc := hc.drop k6
                  replace hc := hc.drop k5
                  replace hc := hc.drop k4
                  replace hc := hc.drop k3
                  exact hj34 sub_1 (subP p_10 c_10 (W (i_1 - 1)).toNat 2) (c_10 - (W (i_1 - 1)).toNat) _ _ qs_1 (hf.keep ⟨rfl, rfl, rfl, rfl, trivial⟩) hc hF
                · replace hF := condF hb hF
                  clear hb
                  refine wp_seq_k fun K51 h51 => ?_
                  refine cReg ?_
                  refine stP hf rfl rfl rfl (pM rfl) fun a hf => ?_
                  refine stP hf rfl rfl rfl (pGt rfl rfl) fun a hf => ?_
                  refine stP hf rfl rfl rfl (pA rfl) fun a hf => ?_
                  refine cNil ?_
                  refine h51 _ _ ?_
                  refine cCond (b := (decide (0 < i_1))) hf rfl (fun hb => ?_) (fun hb => ?_)
                  · replace hF := condT hb hF
                    clear hb
                    refine cReg ?_
                    refine stP hf rfl rfl rfl (pM rfl) fun a hf => ?_
                    refine stP hf rfl rfl rfl (pM rfl) fun a hf => ?_
                    refine stP hf rfl rfl rfl (pSub rfl rfl) fun a hf => ?_
                    refine stP hf rfl rfl rfl (pM rfl) fun a hf => ?_
                    obtain ⟨sub_2, hsub_2, hF⟩ := bnd_some hF
                    have qs_2 := Rd.sub rd_fz_2 hsub_2
                    refine stP hf rfl rfl rfl (pSl Try.underlying44 sz_50 rfl rfl (by simpa using rd_fz_2.1) rfl rfl hsub_2) fun a hf => ?_
                    refine stP hf rfl rfl rfl (pA rfl) fun a hf => ?_
                    refine cNil ?_
                    replace hc := hc.drop k6
                    replace hc := hc.drop k5
                    replace hc := hc.drop k4
                    replace hc := hc.drop k3
                    exact hj34 sub_2 (subP p_10 c_10 (W (i_1 - 1)).toNat 2) (c_10 - (W (i_1 - 1)).toNat) _ _ qs_2 (hf.keep ⟨rfl, rfl, rfl, rfl, trivial⟩) hc hF
                  · replace hF := condF hb hF
                    clear hb
                    refine cReg ?_
                    refine stP hf rfl rfl rfl (pM rfl) fun a hf => ?_
                    obtain ⟨sub_3, hsub_3, hF⟩ := bnd_some hF
                    have qs_3 := Rd.sub rd_fz_2 hsub_3
                    refine stP hf rfl rfl rfl (pSl Try.underlying44 sz_50 rfl rfl (by simpa using rd_fz_2.1) rfl rfl hsub_3) fun a hf => ?_
                    refine stP hf rfl rfl rfl (pA rfl) fun a hf => ?_
                    refine cNil ?_
                    replace hc := hc.drop k6
                    replace hc := hc.drop k5
                    replace hc := hc.drop k4
                    replace hc := hc.drop k3
                    exact hj34 sub_3 (subP p_10 c_10 (0 : Int).toNat 2) (c_10 - (0 : Int).toNat) _ _ qs_3 (hf.keep ⟨rfl, rfl, rfl, rfl, trivial⟩) hc hF
    refine wp_seq_k fun K52 h52 => ?_
    refine cReg ?_
    refine stP hf rfl rfl rfl (pM rfl) fun a hf => ?_
    refine cNil ?_
    refine h52 _ _ ?_
    refine cCond (b := t_1) hf rfl (fun hb => ?_) (fun hb => ?_)
    · replace hF := condT hb hF
      clear hb
      obtain ⟨e_6, he_6, hF⟩ := bnd_some hF
      obtain ⟨b_14, o_3, qa_5, qp_3⟩ := rd_fz_1.atm he_6
      refine cQ hc follows_mx (by kernel_rfl) ?_
      refine qE hf rfl rfl rfl (Pu.ev (pM rfl)) fun a hf => ?_
      refine qE hf rfl rfl rfl (Pu.ev (pM rfl)) fun a hf => ?_
      refine qE hf rfl rfl rfl (Pu.ev (pM rfl)) fun a hf => ?_
      refine qE hf rfl rfl rfl (Pu.ev (pIA Try.underlying61 sz_3 rfl rfl qa_5)) fun a hf => ?_
      refine qE hf rfl rfl rfl (eLd1 sc_3 rfl (cell_pc (j := 0) qp_3 rfl)) fun a hf => ?_
      refine qE hf rfl rfl rfl (Pu.ev (pA rfl)) fun a hf => ?_
      refine qE hf rfl rfl rfl (Pu.ev (pA rfl)) fun a hf => ?_
      intro w hc
      replace hc := hc.drop k0
      exact hj12 e_6 r_1.2.1 p_3 c_3 _ _ rd_fz_1 (hf.keep ⟨rfl, rfl, rfl, rfl, rfl, rfl, rfl, rfl, rfl, trivial⟩) hc hF
    · replace hF := condF hb hF
      clear hb
      refine wp_skip ?_
      replace hc := hc.drop k0
      exact hj12 (W (((W (by_)).tmod 30) - 15)) r_3 p_5 c_5 _ _ (rd_fz.mono hle_fz_1) (hf.keep ⟨rfl, rfl, rfl, rfl, rfl, rfl, rfl, rfl, rfl, trivial⟩) hc hF
  have ho8 : ∀ r, x8 = .out r → r = res := by
    rintro r rfl
    exact Option.some.inj hF
  replace hc := hc.drop k4
  refine cLoop N (loopW (S := S8) (x := x8) ?_ N 0 _ _ ⟨hf.keep ⟨rfl, rfl, rfl, rfl, rfl, rfl, rfl, trivial⟩, hc⟩ hx8)
  clear hF hf hc
  rintro i_1 st8 a w KB8 ⟨hf, hc⟩ hF hfin8 hK8
  unfold law05_ShiftDays_b8 at hF
  refine wp_seq_k fun K53 h53 => ?_
  refine wp_seq_k fun K54 h54 => ?_
  refine cReg ?_
  refine stP hf rfl rfl rfl (pM rfl) fun a hf => ?_
  refine stP hf rfl rfl rfl (pFA fa_25_1 rfl) fun a hf => ?_
  refine stE hf hc rfl rfl rfl (eLd1 sc_23 rfl (cell_box m0 rfl)) fun a w hf hc => ?_
  refine stP hf rfl rfl rfl (pLenS Try.underlying23 rfl) fun a hf => ?_
  refine stP hf rfl rfl rfl (pLt rfl rfl) fun a hf => ?_
  refine stP hf rfl rfl rfl (pM rfl) fun a hf => ?_
  obtain ⟨t_4, ht_4, hF⟩ := bnd_some hF
  refine stCut 9 (fun a w => Has 339 a [(4, .int .u8 more), (11, .pointer (some ⟨b_2, 0, none⟩)), (12, .slice p_3 r_1.2.1.length c_3), (13, .int .i64 (W (((W (stage)).tmod 120) - 40))), (14, .int .i64 ((W (day)).tmod (W (e_1.Day + 9)))), (15, .int .i64 (W (((W (by_)).tmod 30) - 15))), (16, .int .i64 i_1), (64, .int .i64 i_1), (65, .pointer (some ⟨b_2, 1, none⟩)), (66, .slice (some ⟨g, 0, none⟩) r_1.1.Gaugings.length c_2), (67, .int .i64 ((r_1.1.Gaugings.length : Nat) : Int)), (68, .bool (decide (i_1 < ((r_1.1.Gaugings.length : Nat) : Int)))), (69, .bool (decide (i_1 < ((r_1.1.Gaugings.length : Nat) : Int)))), (78, .bool t_4)] ∧ Ctx G (.box b_2 [.slice p_1 r_1.1.Rating.length c_1, .slice (some ⟨g, 0, none⟩) r_1.1.Gaugings.length c_2] 25 :: .row p_1 c_1 (r_1.1.Rating.map enc_shift_Mark) 77 2 :: .row (some ⟨g, 0, none⟩) c_2 (r_1.1.Gaugings.map enc_shift_Gauging) 71 4 :: .row p_3 c_3 (r_1.2.1.map encI_i64) 3 1 :: Lf) w) ?_ ?_
  · cases hb : (decide (i_1 < ((r_1.1.Gaugings.length : Nat) : Int)))
    · rw [hb] at hf
      have hF := condF hb ht_4
      obtain rfl := Option.some.inj hF
      refine stS hf rfl rfl rfl fun a hf => ?_
      refine stS hf rfl rfl rfl fun a hf => ?_
      refine stS hf rfl rfl rfl fun a hf => ?_
      refine stS hf rfl rfl rfl fun a hf => ?_
      refine stS hf rfl rfl rfl fun a hf => ?_
      refine stS hf rfl rfl rfl fun a hf => ?_
      refine stS hf rfl rfl rfl fun a hf => ?_
      refine stS hf rfl rfl rfl fun a hf => ?_
      refine stP hf rfl rfl rfl (pPf rfl rfl) fun a hf => ?_
      exact cNil ⟨hf.keep ⟨rfl, rfl, rfl, rfl, rfl, rfl, rfl, rfl, rfl, rfl, rfl, rfl, rfl, rfl, trivial⟩, hc⟩
    · rw [hb] at hf
      have hF := condT hb ht_4
      refine stP hf rfl rfl rfl (pFA fa_25_1 rfl) fun a hf => ?_
      refine stE hf hc rfl rfl rfl (eLd1 sc_23 rfl (cell_box m0 rfl)) fun a w hf hc => ?_
      refine stP hf rfl rfl rfl (pM rfl) fun a hf => ?_
      obtain ⟨e_7, he_7, hF⟩ := bnd_some hF
      obtain ⟨qa_6, qr_4⟩ := row_atk hc m2 he_7
      refine stP hf rfl rfl rfl (pIA Try.underlying23 sz_71 rfl rfl qa_6) fun a hf => ?_
      refine stP hf rfl rfl rfl (pFA fa_71_0 rfl) fun a hf => ?_
      refine stE hf hc rfl rfl rfl (eLd1 sc_3 rfl (cell_row (sz := 4) (i := i_1.toNat) (j := 0) m2 qr_4 rfl)) fun a w hf hc => ?_
      refine stP hf rfl rfl rfl (pM rfl) fun a hf => ?_
      refine stP hf rfl rfl rfl (pLt rfl rfl) fun a hf => ?_
      refine stP hf rfl rfl rfl (pPt rfl rfl) fun a hf => ?_
      obtain rfl := Option.some.inj hF
      exact cNil ⟨hf.keep ⟨rfl, rfl, rfl, rfl, rfl, rfl, rfl, rfl, rfl, rfl, rfl, rfl, rfl, rfl, trivial⟩, hc⟩
  intro a w ⟨hf, hc⟩
  refine cNil ?_
  refine h54 _ _ ?_
  refine cCond (b := t_4) hf rfl (fun hb => ?_) (fun hb => ?_)
  · replace hF := condT hb hF
    clear hb
    refine wp_skip ?_
    refine h53 _ _ ?_
    refine wp_thenK fun K55 h55 => ?_
    refine wp_block ?_
    refine cReg ?_
    refine stP hf rfl rfl rfl (pM rfl) fun a hf => ?_
    refine stP hf rfl rfl rfl (pAdd rfl rfl) fun a hf => ?_
    refine stP hf rfl rfl rfl (pA rfl) fun a hf => ?_
    refine cNil ?_
    refine h55 _ _ ?_
    exact hK8 (W (i_1 + 1)) _ _ (Option.some.inj hF).symm ⟨hf.keep ⟨rfl, rfl, rfl, rfl, rfl, rfl, rfl, trivial⟩, hc⟩
  · replace hF := condF hb hF
    clear hb
    refine wp_exit ?_
    refine xThen ?_
    refine xThen ?_
    have he := Option.some.inj hF
    rw [← he] at hfin8
    refine cHit ?_
    exact hr8 _ _ _ hfin8 ⟨hf.keep ⟨rfl, rfl, rfl, rfl, rfl, rfl, rfl, trivial⟩, hc⟩

end Go.Nilo
