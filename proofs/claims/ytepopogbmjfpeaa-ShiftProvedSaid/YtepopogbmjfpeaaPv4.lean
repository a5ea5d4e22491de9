/-
  What functions of the Go text compute, as plain functions, and that they do, part 4 of 4. Conditions: what each theorem names.
-/
import Derived.Test.YtepopogbmjfpeaaPv3
import Derived.Test.YtepopogbmjfpeaaProg
set_option linter.unusedVariables false
set_option linter.unusedSimpArgs false
set_option maxRecDepth 100000
set_option maxHeartbeats 4000000
namespace Go.Nilo
open Go.Proofs


def law05_ShiftProved_b16 (N : Nat) (x_3 : List Int) (r_6 : shift_Record) (x_4 : List shift_Gauging) (x_5 : Int) (x_6 : Int) (x_7 : Int) : Option (Step ((List shift_Gauging) × Int × Int × Int) (Bool)) :=
  cond (decide (x_5 < ((r_6.Gaugings.length : Nat) : Int)))
  (Option.bind (getI x_4 x_5) fun e_1 =>
  Option.bind (kit_Stream_Next N (⟨x_3, x_6, x_7⟩ : kit_Stream) 2) fun r_9 =>
  Option.bind (kit_Stream_Next N (⟨x_3, r_9.2.1, r_9.2.2⟩ : kit_Stream) 60) fun r_10 =>
  Option.bind (kit_Stream_Next N (⟨x_3, r_10.2.1, r_10.2.2⟩ : kit_Stream) 2) fun r_11 =>
  Option.bind (kit_Stream_Next N (⟨x_3, r_11.2.1, r_11.2.2⟩ : kit_Stream) 60) fun r_12 =>
  Option.bind (law05_span N (max 0 (W (e_1.Flow.Lo - (W (r_9.1 * r_10.1))))) (min 1000000000 (W (e_1.Flow.Hi + (W (r_11.1 * r_12.1)))))) fun r_13 =>
  Option.bind (getI x_4 x_5) fun e_2 =>
  some (.cont ((x_4.set x_5.toNat (⟨e_2.Day, e_2.Stage, r_13⟩ : shift_Gauging)), W (x_5 + 1), r_12.2.1, r_12.2.2)))
  (some (.brk (x_4, x_5, x_6, x_7)))
def law05_ShiftProved_j12 (N : Nat) (r_1 : shift_Record × (List Int) × Int × Int) (r_3 : Int × Int) (r_4 : (List Int) × Int × Int) (x_3 : List Int) : Option (Bool) :=
  Option.bind (law05_CopyRecord N r_1.1) fun r_6 =>
  Option.bind (loopO (fun s16 => law05_ShiftProved_b16 N x_3 r_6 s16.1 s16.2.1 s16.2.2.1 s16.2.2.2) N (r_6.Gaugings, 0, r_3.1, r_3.2)) fun x16 =>
  exK x16 (fun s16 => Option.bind (shift_Least N (⟨r_6.Rating, s16.1⟩ : shift_Record)) fun r_7 =>
  Option.bind (cond ((r_7.2.2 == 0) && (decide (r_7.2.1 ≤ r_4.2.1))) (Option.bind (law05_awake N) fun r_8 =>
  some r_8) (some false)) fun t_1 =>
  some t_1) some
def law05_ShiftProved_b26 (N : Nat) (r_1 : shift_Record × (List Int) × Int × Int) (r_4 : (List Int) × Int × Int) (sub : List shift_Turn) (sub_1 : List shift_Turn) (x_8 : Int) : Option (Step (Int) (Bool)) :=
  cond (decide (x_8 < (2 : Int)))
  (Option.bind (getI ([sub, sub_1] : List (List shift_Turn)) x_8) fun e_3 =>
  Option.bind (shift_Proves N r_1.1 e_3) fun r_15 =>
  cond ((r_15.2 != 0) || (decide (r_4.2.1 < r_15.1)))
  (some (.ret false))
  (some (.cont (W (x_8 + 1)))))
  (some (.brk x_8))
def law05_ShiftProved_j47 (N : Nat) (x_9 : Int) (mine_1 : List shift_Turn) (up_1 : Bool) (x_12 : Int) (x_13 : Int) : Option (Step ((List shift_Turn) × Bool × Int × Int × Int) (Step (Int × Int × Int) (Bool))) :=
  some (.cont (mine_1, up_1, W (x_9 + 1), x_12, x_13))
def law05_ShiftProved_b41 (N : Nat) (tries : List Int) (r_1 : shift_Record × (List Int) × Int × Int) (mine : List shift_Turn) (up : Bool) (x_9 : Int) (x_10 : Int) (x_11 : Int) : Option (Step ((List shift_Turn) × Bool × Int × Int × Int) (Step (Int × Int × Int) (Bool))) :=
  cond (decide (x_9 < ((r_1.1.Gaugings.length : Nat) : Int)))
  (Option.bind (kit_Stream_Next N (⟨tries, x_10, x_11⟩ : kit_Stream) 3) fun r_18 =>
  cond (r_18.1 == 0)
  (Option.bind (room ((mine ++ [(⟨x_9, up⟩ : shift_Turn)])).length) fun un =>
  law05_ShiftProved_j47 N x_9 (mine ++ [(⟨x_9, up⟩ : shift_Turn)]) (!up) r_18.2.1 r_18.2.2)
  (law05_ShiftProved_j47 N x_9 mine up r_18.2.1 r_18.2.2))
  (some (.brk (mine, up, x_9, x_10, x_11)))
def law05_ShiftProved_b11 (N : Nat) (tries : List Int) (r_1 : shift_Record × (List Int) × Int × Int) (r_4 : (List Int) × Int × Int) (x : Int) (x_1 : Int) (x_2 : Int) : Option (Step (Int × Int × Int) (Bool)) :=
  cond (decide (x < 6))
  (Option.bind (kit_Stream_Next N (⟨tries, x_1, x_2⟩ : kit_Stream) 2) fun r_16 =>
  Option.bind (loopO (fun s41 => law05_ShiftProved_b41 N tries r_1 s41.1 s41.2.1 s41.2.2.1 s41.2.2.2.1 s41.2.2.2.2) N (([] : List shift_Turn), (r_16.1 == 0), 0, r_16.2.1, r_16.2.2)) fun x41 =>
  exK x41 (fun s41 => Option.bind (shift_Proves N r_1.1 s41.1) fun r_17 =>
  cond ((r_17.2 != 0) || (decide (r_4.2.1 < r_17.1)))
  (some (.ret false))
  (some (.cont (W (x + 1), s41.2.2.2.1, s41.2.2.2.2)))) some)
  (some (.brk (x, x_1, x_2)))
def law05_ShiftProved (N : Nat) (numbers : List Int) (tries : List Int) (wider : List Int) : Option (Bool) :=
  Option.bind (kit_New N numbers) fun r =>
  Option.bind (law05_Gauged N (⟨numbers, r.1, r.2⟩ : kit_Stream) 12) fun r_1 =>
  Option.bind (kit_New N tries) fun r_2 =>
  Option.bind (kit_New N wider) fun r_3 =>
  Option.bind (shift_Least N r_1.1) fun r_4 =>
  Option.bind (shift_Zigzag N r_1.1) fun r_5 =>
  cond ((r_4.2.2 != 0) || (r_5.2 != 0))
  (some false)
  (Option.bind (loopO (fun s11 => law05_ShiftProved_b11 N tries r_1 r_4 s11.1 s11.2.1 s11.2.2) N (0, r_2.1, r_2.2)) fun x11 =>
  exK x11 (fun s11 => cond (decide (0 < ((r_5.1.length : Nat) : Int)))
  (Option.bind (kit_Stream_Next N (⟨tries, s11.2.1, s11.2.2⟩ : kit_Stream) ((r_5.1.length : Nat) : Int)) fun r_14 =>
  Option.bind (subO r_5.1 0 r_14.1) fun sub =>
  Option.bind (subO r_5.1 r_14.1 ((r_5.1.length : Nat) : Int)) fun sub_1 =>
  Option.bind (loopO (fun s26 => law05_ShiftProved_b26 N r_1 r_4 sub sub_1 s26) N 0) fun x26 =>
  exK x26 (fun s26 => law05_ShiftProved_j12 N r_1 r_3 r_4 wider) some)
  (law05_ShiftProved_j12 N r_1 r_3 r_4 wider)) some)
theorem law05_ShiftProved_ok {N : Nat} {G : Pers} {Lf : List Ent} {w : World} (numbers : List Int) (tries : List Int) (wider : List Int) {numbers_p : Option Addr} {numbers_c : Nat} {tries_p : Option Addr} {tries_c : Nat} {wider_p : Option Addr} {wider_c : Nat} (h_numbers : Rd G 1 numbers_p numbers_c (numbers.map encI_u8)) (h_tries : Rd G 1 tries_p tries_c (tries.map encI_u8)) (h_wider : Rd G 1 wider_p wider_c (wider.map encI_u8)) (hc : Ctx G (Lf) w) {res : Bool} (hF : law05_ShiftProved N numbers tries wider = some res) : Calls Try.prog 9 #[.slice numbers_p numbers.length numbers_c, .slice tries_p tries.length tries_c, .slice wider_p wider.length wider_c] w (fun e w => e = .returned (.bool res) ∧ Ctx G (Lf) w) := by
  unfold law05_ShiftProved at hF
  refine fnIn (args := [.slice numbers_p numbers.length numbers_c, .slice tries_p tries.length tries_c, .slice wider_p wider.length wider_c]) Try.func9 rfl Try.ntmps9 rfl fun a hf => ?_
  refine wp_seq_k fun K1 h1 => ?_
  refine cReg ?_
  refine stP hf rfl rfl rfl (pA rfl) fun a hf => ?_
  refine cNil ?_
  refine h1 _ _ ?_
  refine wp_seq_k fun K2 h2 => ?_
  refine cReg ?_
  refine stP hf rfl rfl rfl (pM rfl) fun a hf => ?_
  obtain ⟨r, hr, hF⟩ := bnd_some hF
  refine stC (vs := [.slice numbers_p numbers.length numbers_c]) (caps := []) hf rfl rfl rfl en_32 rfl rfl rfl rfl (kit_New_ok numbers h_numbers hc hr) ?_
  rintro _ w ⟨b_1, rfl, hc⟩
  refine ⟨_, rfl, fun a hf => ?_⟩
  obtain ⟨r_1, hr_1, hF⟩ := bnd_some hF
  refine stC (vs := [.pointer (some ⟨b_1, 0, none⟩), .int .i64 12]) (caps := []) hf rfl rfl rfl en_31 rfl rfl rfl rfl (law05_Gauged_ok (⟨numbers, r.1, r.2⟩ : kit_Stream) 12 h_numbers (hc.pick k0) hr_1) ?_
  rintro _ w ⟨p_1, c_1, p_2, c_2, p_3, c_3, rfl, hc⟩
  refine ⟨_, rfl, fun a hf => ?_⟩
  refine stP hf rfl rfl rfl (pM rfl) fun a hf => ?_
  refine stP hf rfl rfl rfl (pX rfl rfl) fun a hf => ?_
  refine stP hf rfl rfl rfl (pX rfl rfl) fun a hf => ?_
  refine stAl (cs := [.slice none 0 0, .slice none 0 0]) hf hc rfl rfl zr_25 rfl fun b_2 a w hf hc => ?_
  refine stSt (vs := [.slice p_1 r_1.1.Rating.length c_1, .slice p_2 r_1.1.Gaugings.length c_2]) hf hc rfl rfl rfl rfl sz_25 rfl rfl u0 fun w hc => ?_
  refine stP hf rfl rfl rfl (pA rfl) fun a hf => ?_
  refine cNil ?_
  refine h2 _ _ ?_
  refine wp_seq_k fun K3 h3 => ?_
  refine cReg ?_
  refine stP hf rfl rfl rfl (pM rfl) fun a hf => ?_
  obtain ⟨r_2, hr_2, hF⟩ := bnd_some hF
  refine stC (vs := [.slice tries_p tries.length tries_c]) (caps := []) hf rfl rfl rfl en_32 rfl rfl rfl rfl (kit_New_ok tries h_tries hc hr_2) ?_
  rintro _ w ⟨b_3, rfl, hc⟩
  refine ⟨_, rfl, fun a hf => ?_⟩
  refine stP hf rfl rfl rfl (pM rfl) fun a hf => ?_
  obtain ⟨r_3, hr_3, hF⟩ := bnd_some hF
  refine stC (vs := [.slice wider_p wider.length wider_c]) (caps := []) hf rfl rfl rfl en_32 rfl rfl rfl rfl (kit_New_ok wider h_wider hc hr_3) ?_
  rintro _ w ⟨b_4, rfl, hc⟩
  refine ⟨_, rfl, fun a hf => ?_⟩
  refine stP hf rfl rfl rfl (pA rfl) fun a hf => ?_
  refine stP hf rfl rfl rfl (pA rfl) fun a hf => ?_
  refine cNil ?_
  refine h3 _ _ ?_
  refine wp_seq_k fun K4 h4 => ?_
  refine cReg ?_
  refine stE hf hc rfl rfl rfl (eLdN (vs := [.slice p_1 r_1.1.Rating.length c_1, .slice p_2 r_1.1.Gaugings.length c_2]) ag_25 rfl rfl (cells_box (n := 2) m2 rfl)) fun a w hf hc => ?_
  obtain ⟨r_4, hr_4, hF⟩ := bnd_some hF
  obtain ⟨G1, hle1, hrd1, hc, hth1⟩ := lend hc k3
  obtain ⟨G2, hle2, hrd2, hc, hth2⟩ := lend hc k3
  refine stC (vs := [.agg #[.slice p_1 r_1.1.Rating.length c_1, .slice p_2 r_1.1.Gaugings.length c_2]]) (caps := []) hf rfl rfl rfl en_33 rfl rfl rfl rfl (shift_Least_ok r_1.1 (hrd1.mono hle2) hrd2 hc hr_4) ?_
  rintro _ w ⟨p_4, c_4, rfl, hc⟩
  refine ⟨_, rfl, fun a hf => ?_⟩
  replace hc := hth2 _ _ hc
  replace hc := hth1 _ _ hc
  refine stP hf rfl rfl rfl (pM rfl) fun a hf => ?_
  refine stP hf rfl rfl rfl (pX rfl rfl) fun a hf => ?_
  refine stP hf rfl rfl rfl (pX rfl rfl) fun a hf => ?_
  refine stP hf rfl rfl rfl (pX rfl rfl) fun a hf => ?_
  refine stP hf rfl rfl rfl (pA rfl) fun a hf => ?_
  refine stP hf rfl rfl rfl (pA rfl) fun a hf => ?_
  refine stP hf rfl rfl rfl (pA rfl) fun a hf => ?_
  refine cNil ?_
  refine h4 _ _ ?_
  refine wp_seq_k fun K5 h5 => ?_
  refine cReg ?_
  refine stE hf hc rfl rfl rfl (eLdN (vs := [.slice p_1 r_1.1.Rating.length c_1, .slice p_2 r_1.1.Gaugings.length c_2]) ag_25 rfl rfl (cells_box (n := 2) m5 rfl)) fun a w hf hc => ?_
  obtain ⟨r_5, hr_5, hF⟩ := bnd_some hF
  obtain ⟨G1, hle1, hrd1, hc, hth1⟩ := lend hc k0
  obtain ⟨G2, hle2, hrd2, hc, hth2⟩ := lend hc k0
  refine stC (vs := [.agg #[.slice p_1 r_1.1.Rating.length c_1, .slice p_2 r_1.1.Gaugings.length c_2]]) (caps := []) hf rfl rfl rfl en_45 rfl rfl rfl rfl (shift_Zigzag_ok r_1.1 (hrd1.mono hle2) hrd2 hc hr_5) ?_
  rintro _ w ⟨p_5, c_5, rfl, hc⟩
  refine ⟨_, rfl, fun a hf => ?_⟩
  replace hc := hth2 _ _ hc
  replace hc := hth1 _ _ hc
  refine stP hf rfl rfl rfl (pM rfl) fun a hf => ?_
  refine stP hf rfl rfl rfl (pX rfl rfl) fun a hf => ?_
  refine stP hf rfl rfl rfl (pX rfl rfl) fun a hf => ?_
  refine stP hf rfl rfl rfl (pA rfl) fun a hf => ?_
  refine stP hf rfl rfl rfl (pA rfl) fun a hf => ?_
  refine cNil ?_
  refine h5 _ _ ?_
  refine wp_seq_k fun K6 h6 => ?_
  refine wp_seq_k fun K7 h7 => ?_
  refine cReg ?_
  refine stP hf rfl rfl rfl (pM rfl) fun a hf => ?_
  refine stP hf rfl rfl rfl (pNe rfl rfl) fun a hf => ?_
  refine stP hf rfl rfl rfl (pM rfl) fun a hf => ?_
  refine stCut 3 (fun a w => Has 181 a [(7, .pointer (some ⟨b_2, 0, none⟩)), (9, .pointer (some ⟨b_3, 0, none⟩)), (10, .pointer (some ⟨b_4, 0, none⟩)), (12, .int .i64 r_4.2.1), (13, .int .i64 r_4.2.2), (14, .slice p_5 r_5.1.length c_5), (15, .int .i64 r_5.2), (52, .int .i64 r_4.2.2), (53, .bool (r_4.2.2 != 0)), (54, .bool (r_4.2.2 != 0)), (57, .bool ((r_4.2.2 != 0) || (r_5.2 != 0)))] ∧ Ctx G (.row p_1 c_1 (r_1.1.Rating.map enc_shift_Mark) 77 2 :: .row p_2 c_2 (r_1.1.Gaugings.map enc_shift_Gauging) 71 4 :: .row p_5 c_5 (r_5.1.map enc_shift_Turn) 91 2 :: .row p_4 c_4 (r_4.1.map encI_i64) 3 1 :: .box b_4 [.slice wider_p wider.length wider_c, .int .i64 r_3.1, .int .i64 r_3.2] 151 :: .box b_3 [.slice tries_p tries.length tries_c, .int .i64 r_2.1, .int .i64 r_2.2] 151 :: .box b_2 [.slice p_1 r_1.1.Rating.length c_1, .slice p_2 r_1.1.Gaugings.length c_2] 25 :: .row p_3 c_3 (r_1.2.1.map encI_i64) 3 1 :: .box b_1 [.slice numbers_p numbers.length numbers_c, .int .i64 r_1.2.2.1, .int .i64 r_1.2.2.2] 151 :: Lf) w) ?_ ?_
  · cases hb : (r_4.2.2 != 0)
    · rw [hb] at hf
      refine stP hf rfl rfl rfl (pM rfl) fun a hf => ?_
      refine stP hf rfl rfl rfl (pNe rfl rfl) fun a hf => ?_
      refine stP hf rfl rfl rfl (pPf rfl rfl) fun a hf => ?_
      exact cNil ⟨hf.keep ⟨rfl, rfl, rfl, rfl, rfl, rfl, rfl, rfl, rfl, rfl, rfl, trivial⟩, hc⟩
    · rw [hb] at hf
      refine stS hf rfl rfl rfl fun a hf => ?_
      refine stS hf rfl rfl rfl fun a hf => ?_
      refine stP hf rfl rfl rfl (pPt rfl rfl) fun a hf => ?_
      exact cNil ⟨hf.keep ⟨rfl, rfl, rfl, rfl, rfl, rfl, rfl, rfl, rfl, rfl, rfl, trivial⟩, hc⟩
  intro a w ⟨hf, hc⟩
  refine cNil ?_
  refine h7 _ _ ?_
  refine cCond (b := ((r_4.2.2 != 0) || (r_5.2 != 0))) hf rfl (fun hb => ?_) (fun hb => ?_)
  · replace hF := condT hb hF
    clear hb
    refine wp_seq_k fun K8 h8 => ?_
    refine cReg ?_
    refine stP hf rfl rfl rfl (pA rfl) fun a hf => ?_
    refine cNil ?_
    refine h8 _ _ ?_
    refine wp_ret ?_
    refine xThenR ?_
    obtain rfl := Option.some.inj hF
    replace hc := hc.drop k8
    replace hc := hc.drop k7
    replace hc := hc.drop k6
    replace hc := hc.drop k5
    replace hc := hc.drop k4
    replace hc := hc.drop k3
    replace hc := hc.drop k2
    replace hc := hc.drop k1
    replace hc := hc.drop k0
    exact fnOut1 (by simp) rfl Try.results9 hf hc (show look _ 6 = _ from rfl) ⟨rfl, hc⟩
  · replace hF := condF hb hF
    clear hb
    refine wp_skip ?_
    refine h6 _ _ ?_
    refine wp_seq_k fun K9 h9 => ?_
    refine wp_seq_k fun K10 h10 => ?_
    refine cReg ?_
    refine stP hf rfl rfl rfl (pM rfl) fun a hf => ?_
    refine cNil ?_
    refine h10 _ _ ?_
    refine wp_block ?_
    obtain ⟨x11, hx11, hF⟩ := bnd_some hF
    let S11 : (Int × Int × Int) → Act → World → Prop := (fun (zz : Int × Int × Int) a w => Has 181 a [(7, .pointer (some ⟨b_2, 0, none⟩)), (9, .pointer (some ⟨b_3, 0, none⟩)), (10, .pointer (some ⟨b_4, 0, none⟩)), (12, .int .i64 r_4.2.1), (14, .slice p_5 r_5.1.length c_5), (58, .int .i64 zz.1)] ∧ Ctx G (.row p_1 c_1 (r_1.1.Rating.map enc_shift_Mark) 77 2 :: .row p_2 c_2 (r_1.1.Gaugings.map enc_shift_Gauging) 71 4 :: .row p_5 c_5 (r_5.1.map enc_shift_Turn) 91 2 :: .box b_4 [.slice wider_p wider.length wider_c, .int .i64 r_3.1, .int .i64 r_3.2] 151 :: .box b_3 [.slice tries_p tries.length tries_c, .int .i64 zz.2.1, .int .i64 zz.2.2] 151 :: .box b_2 [.slice p_1 r_1.1.Rating.length c_1, .slice p_2 r_1.1.Gaugings.length c_2] 25 :: Lf) w)
    have hr11 : ∀ (zz : Int × Int × Int) a w, x11 = .go zz → S11 zz a w → K9 a w := by
      rintro ⟨x, x_1, x_2⟩ a w rfl ⟨hf, hc⟩
      replace hF := exK_go hF
      refine h9 _ _ ?_
      refine wp_seq_k fun K12 h12 => ?_
      have hj12 : ∀ (x_3 : List Int) (p_6 : Option Addr) (c_6 : Nat) a w, Rd G 1 p_6 c_6 (x_3.map encI_u8) → Has 181 a [(7, .pointer (some ⟨b_2, 0, none⟩)), (10, .pointer (some ⟨b_4, 0, none⟩)), (12, .int .i64 r_4.2.1)] → Ctx G (.row p_1 c_1 (r_1.1.Rating.map enc_shift_Mark) 77 2 :: .row p_2 c_2 (r_1.1.Gaugings.map enc_shift_Gauging) 71 4 :: .box b_4 [.slice p_6 x_3.length c_6, .int .i64 r_3.1, .int .i64 r_3.2] 151 :: .box b_2 [.slice p_1 r_1.1.Rating.length c_1, .slice p_2 r_1.1.Gaugings.length c_2] 25 :: Lf) w → law05_ShiftProved_j12 N r_1 r_3 r_4 x_3 = some res → K12 a w := by
        repeat (clear hF)
        repeat (clear hc)
        repeat (clear hf)
        intro x_3 p_6 c_6 a w qr hf hc hF
        unfold law05_ShiftProved_j12 at hF
        refine h12 _ _ ?_
        refine wp_seq_k fun K13 h13 => ?_
        refine cReg ?_
        refine stE hf hc rfl rfl rfl (eLdN (vs := [.slice p_1 r_1.1.Rating.length c_1, .slice p_2 r_1.1.Gaugings.length c_2]) ag_25 rfl rfl (cells_box (n := 2) m3 rfl)) fun a w hf hc => ?_
        obtain ⟨r_6, hr_6, hF⟩ := bnd_some hF
        obtain ⟨G1, hle1, hrd1, hc, hth1⟩ := lend hc k0
        obtain ⟨G2, hle2, hrd2, hc, hth2⟩ := lend hc k0
        refine stC (vs := [.agg #[.slice p_1 r_1.1.Rating.length c_1, .slice p_2 r_1.1.Gaugings.length c_2]]) (caps := []) hf rfl rfl rfl en_13 rfl rfl rfl rfl (law05_CopyRecord_ok r_1.1 (hrd1.mono hle2) hrd2 hc hr_6) ?_
        rintro _ w ⟨p_7, c_7, p_8, c_8, rfl, hc⟩
        refine ⟨_, rfl, fun a hf => ?_⟩
        replace hc := hth2 _ _ hc
        replace hc := hth1 _ _ hc
        refine stAl (cs := [.slice none 0 0, .slice none 0 0]) hf hc rfl rfl zr_25 rfl fun b_5 a w hf hc => ?_
        refine stSt (vs := [.slice p_7 r_6.Rating.length c_7, .slice p_8 r_6.Gaugings.length c_8]) hf hc rfl rfl rfl rfl sz_25 rfl rfl u0 fun w hc => ?_
        refine cNil ?_
        refine h13 _ _ ?_
        refine wp_seq_k fun K14 h14 => ?_
        refine wp_seq_k fun K15 h15 => ?_
        refine cReg ?_
        refine stP hf rfl rfl rfl (pFA fa_25_1 rfl) fun a hf => ?_
        refine stE hf hc rfl rfl rfl (eLd1 sc_23 rfl (cell_box m0 rfl)) fun a w hf hc => ?_
        refine stP hf rfl rfl rfl (pLenS Try.underlying23 rfl) fun a hf => ?_
        refine stP hf rfl rfl rfl (pM rfl) fun a hf => ?_
        refine cNil ?_
        refine h15 _ _ ?_
        refine wp_block ?_
        obtain ⟨x16, hx16, hF⟩ := bnd_some hF
        let S16 : ((List shift_Gauging) × Int × Int × Int) → Act → World → Prop := (fun (zz : (List shift_Gauging) × Int × Int × Int) a w => ∃ (p_9 : Option Addr) (c_9 : Nat), Has 181 a [(10, .pointer (some ⟨b_4, 0, none⟩)), (12, .int .i64 r_4.2.1), (26, .pointer (some ⟨b_5, 0, none⟩)), (131, .slice p_9 zz.1.length c_9), (132, .int .i64 ((r_6.Gaugings.length : Nat) : Int)), (133, .int .i64 zz.2.1)] ∧ Ctx G (.box b_5 [.slice p_7 r_6.Rating.length c_7, .slice p_9 zz.1.length c_9] 25 :: .row p_7 c_7 (r_6.Rating.map enc_shift_Mark) 77 2 :: .row p_9 c_9 (zz.1.map enc_shift_Gauging) 71 4 :: .box b_4 [.slice p_6 x_3.length c_6, .int .i64 zz.2.2.1, .int .i64 zz.2.2.2] 151 :: Lf) w)
        have hr16 : ∀ (zz : (List shift_Gauging) × Int × Int × Int) a w, x16 = .go zz → S16 zz a w → K14 a w := by
          rintro ⟨x_4, x_5, x_6, x_7⟩ a w rfl ⟨p_9, c_9, hf, hc⟩
          replace hF := exK_go hF
          refine h14 _ _ ?_
          refine wp_seq_k fun K17 h17 => ?_
          refine cReg ?_
          refine stE hf hc rfl rfl rfl (eLdN (vs := [.slice p_7 r_6.Rating.length c_7, .slice p_9 x_4.length c_9]) ag_25 rfl rfl (cells_box (n := 2) m0 rfl)) fun a w hf hc => ?_
          obtain ⟨r_7, hr_7, hF⟩ := bnd_some hF
          obtain ⟨G1, hle1, hrd1, hc, hth1⟩ := lend hc k1
          obtain ⟨G2, hle2, hrd2, hc, hth2⟩ := lend hc k1
          refine stC (vs := [.agg #[.slice p_7 r_6.Rating.length c_7, .slice p_9 x_4.length c_9]]) (caps := []) hf rfl rfl rfl en_33 rfl rfl rfl rfl (shift_Least_ok (⟨r_6.Rating, x_4⟩ : shift_Record) (hrd1.mono hle2) hrd2 hc hr_7) ?_
          rintro _ w ⟨p_10, c_10, rfl, hc⟩
          refine ⟨_, rfl, fun a hf => ?_⟩
          replace hc := hth2 _ _ hc
          replace hc := hth1 _ _ hc
          refine stP hf rfl rfl rfl (pM rfl) fun a hf => ?_
          refine stP hf rfl rfl rfl (pX rfl rfl) fun a hf => ?_
          refine stP hf rfl rfl rfl (pX rfl rfl) fun a hf => ?_
          refine stP hf rfl rfl rfl (pX rfl rfl) fun a hf => ?_
          refine stP hf rfl rfl rfl (pA rfl) fun a hf => ?_
          refine stP hf rfl rfl rfl (pA rfl) fun a hf => ?_
          refine stP hf rfl rfl rfl (pA rfl) fun a hf => ?_
          refine cNil ?_
          refine h17 _ _ ?_
          refine wp_seq_k fun K18 h18 => ?_
          refine cReg ?_
          refine stP hf rfl rfl rfl (pM rfl) fun a hf => ?_
          refine stP hf rfl rfl rfl (pEq rfl rfl) fun a hf => ?_
          refine stP hf rfl rfl rfl (pM rfl) fun a hf => ?_
          refine stCut 4 (fun a w => Has 181 a [(12, .int .i64 r_4.2.1), (30, .int .i64 r_7.2.1), (13, .int .i64 r_7.2.2), (171, .int .i64 r_7.2.2), (172, .bool (r_7.2.2 == 0)), (173, .bool (r_7.2.2 == 0)), (177, .bool ((r_7.2.2 == 0) && (decide (r_7.2.1 ≤ r_4.2.1))))] ∧ Ctx G (.row p_7 c_7 (r_6.Rating.map enc_shift_Mark) 77 2 :: .row p_9 c_9 (x_4.map enc_shift_Gauging) 71 4 :: .row p_10 c_10 (r_7.1.map encI_i64) 3 1 :: .box b_5 [.slice p_7 r_6.Rating.length c_7, .slice p_9 x_4.length c_9] 25 :: .box b_4 [.slice p_6 x_3.length c_6, .int .i64 x_6, .int .i64 x_7] 151 :: Lf) w) ?_ ?_
          · cases hb : (r_7.2.2 == 0)
            · rw [hb] at hf
              refine stS hf rfl rfl rfl fun a hf => ?_
              refine stS hf rfl rfl rfl fun a hf => ?_
              refine stS hf rfl rfl rfl fun a hf => ?_
              refine stP hf rfl rfl rfl (pPf rfl rfl) fun a hf => ?_
              exact cNil ⟨hf.keep ⟨rfl, rfl, rfl, rfl, rfl, rfl, rfl, trivial⟩, hc⟩
            · rw [hb] at hf
              refine stP hf rfl rfl rfl (pM rfl) fun a hf => ?_
              refine stP hf rfl rfl rfl (pM rfl) fun a hf => ?_
              refine stP hf rfl rfl rfl (pLe rfl rfl) fun a hf => ?_
              refine stP hf rfl rfl rfl (pPt rfl rfl) fun a hf => ?_
              exact cNil ⟨hf.keep ⟨rfl, rfl, rfl, rfl, rfl, rfl, rfl, trivial⟩, hc⟩
          intro a w ⟨hf, hc⟩
          refine stP hf rfl rfl rfl (pM rfl) fun a hf => ?_
          obtain ⟨t_1, ht_1, hF⟩ := bnd_some hF
          refine stCut 2 (fun a w => Has 181 a [(12, .int .i64 r_4.2.1), (30, .int .i64 r_7.2.1), (13, .int .i64 r_7.2.2), (171, .int .i64 r_7.2.2), (172, .bool (r_7.2.2 == 0)), (173, .bool (r_7.2.2 == 0)), (177, .bool ((r_7.2.2 == 0) && (decide (r_7.2.1 ≤ r_4.2.1)))), (178, .bool ((r_7.2.2 == 0) && (decide (r_7.2.1 ≤ r_4.2.1)))), (180, .bool t_1)] ∧ Ctx G (.row p_7 c_7 (r_6.Rating.map enc_shift_Mark) 77 2 :: .row p_9 c_9 (x_4.map enc_shift_Gauging) 71 4 :: .row p_10 c_10 (r_7.1.map encI_i64) 3 1 :: .box b_5 [.slice p_7 r_6.Rating.length c_7, .slice p_9 x_4.length c_9] 25 :: .box b_4 [.slice p_6 x_3.length c_6, .int .i64 x_6, .int .i64 x_7] 151 :: Lf) w) ?_ ?_
          · cases hb : ((r_7.2.2 == 0) && (decide (r_7.2.1 ≤ r_4.2.1)))
            · rw [hb] at hf
              have hF := condF hb ht_1
              obtain rfl := Option.some.inj hF
              refine stS hf rfl rfl rfl fun a hf => ?_
              refine stP hf rfl rfl rfl (pPf rfl rfl) fun a hf => ?_
              exact cNil ⟨hf.keep ⟨rfl, rfl, rfl, rfl, rfl, rfl, rfl, rfl, rfl, trivial⟩, hc⟩
            · rw [hb] at hf
              have hF := condT hb ht_1
              obtain ⟨r_8, hr_8, hF⟩ := bnd_some hF
              refine stE hf hc rfl rfl rfl (eC (v := .bool r_8) (vs := []) (caps := []) en_12 rfl rfl rfl rfl (fun w hc => law05_awake_ok hc hr_8)) fun a w hf hc => ?_
              refine stP hf rfl rfl rfl (pPt rfl rfl) fun a hf => ?_
              obtain rfl := Option.some.inj hF
              exact cNil ⟨hf.keep ⟨rfl, rfl, rfl, rfl, rfl, rfl, rfl, rfl, rfl, trivial⟩, hc⟩
          intro a w ⟨hf, hc⟩
          refine stP hf rfl rfl rfl (pA rfl) fun a hf => ?_
          refine cNil ?_
          refine h18 _ _ ?_
          refine wp_ret ?_
          obtain rfl := Option.some.inj hF
          replace hc := hc.drop k4
          replace hc := hc.drop k3
          replace hc := hc.drop k2
          replace hc := hc.drop k1
          replace hc := hc.drop k0
          exact fnOut1 (by simp) rfl Try.results9 hf hc (show look _ 6 = _ from rfl) ⟨rfl, hc⟩
        have ho16 : ∀ r, x16 = .out r → r = res := by
          rintro r rfl
          exact Option.some.inj hF
        replace hc := hc.drop k6
        replace hc := hc.drop k2
        replace hc := hc.drop k1
        refine cLoop N (loopW (S := S16) (x := x16) ?_ N (r_6.Gaugings, 0, r_3.1, r_3.2) _ _ ⟨p_8, c_8, hf.keep ⟨rfl, rfl, rfl, rfl, rfl, rfl, trivial⟩, hc⟩ hx16)
        clear hF hf hc
        rintro ⟨x_4, x_5, x_6, x_7⟩ st16 a w KB16 ⟨p_9, c_9, hf, hc⟩ hF hfin16 hK16
        unfold law05_ShiftProved_b16 at hF
        refine wp_seq_k fun K19 h19 => ?_
        refine cReg ?_
        refine stP hf rfl rfl rfl (pLt rfl rfl) fun a hf => ?_
        refine cNil ?_
        refine h19 _ _ ?_
        refine wp_seq_k fun K20 h20 => ?_
        refine cCond (b := (decide (x_5 < ((r_6.Gaugings.length : Nat) : Int)))) hf rfl (fun hb => ?_) (fun hb => ?_)
        · replace hF := condT hb hF
          clear hb
          refine wp_skip ?_
          refine h20 _ _ ?_
          refine wp_seq_k fun K21 h21 => ?_
          refine wp_block ?_
          refine wp_seq_k fun K22 h22 => ?_
          refine cReg ?_
          refine stP hf rfl rfl rfl (pM rfl) fun a hf => ?_
          obtain ⟨e_1, he_1, hF⟩ := bnd_some hF
          obtain ⟨g, rfl, qa, qr_1⟩ := row_atm hc m2 he_1
          refine stP hf rfl rfl rfl (pIA Try.underlying23 sz_71 rfl rfl qa) fun a hf => ?_
          refine stE hf hc rfl rfl rfl (eLdN (vs := [.int .i64 e_1.Day, .int .i64 e_1.Stage, .int .i64 e_1.Flow.Lo, .int .i64 e_1.Flow.Hi]) ag_71 rfl rfl (cells_rw (sz := 4) (i := x_5.toNat) m2 qr_1 (n := 4) (o' := 0) rfl)) fun a w hf hc => ?_
          refine stAl (cs := [.int .i64 0, .int .i64 0, .int .i64 0, .int .i64 0]) hf hc rfl rfl zr_71 rfl fun b_6 a w hf hc => ?_
          refine stP hf rfl rfl rfl (pA rfl) fun a hf => ?_
          refine stSt (vs := [.int .i64 e_1.Day, .int .i64 e_1.Stage, .int .i64 e_1.Flow.Lo, .int .i64 e_1.Flow.Hi]) hf hc rfl rfl rfl rfl sz_71 rfl rfl u0 fun w hc => ?_
          refine cNil ?_
          refine h22 _ _ ?_
          obtain ⟨r_9, hr_9, hF⟩ := bnd_some hF
          obtain ⟨r_10, hr_10, hF⟩ := bnd_some hF
          obtain ⟨r_11, hr_11, hF⟩ := bnd_some hF
          obtain ⟨r_12, hr_12, hF⟩ := bnd_some hF
          obtain ⟨r_13, hr_13, hF⟩ := bnd_some hF
          obtain ⟨e_2, he_2, hF⟩ := bnd_some hF
          obtain ⟨qa_1, qr_2⟩ := row_atk hc m3 he_2
          refine regionE (fun θ => (⟨none, none, 10, .pointer (some ⟨b_4, 0, none⟩)⟩ :: ⟨none, none, 12, .int .i64 r_4.2.1⟩ :: ⟨none, none, 26, .pointer (some ⟨b_5, 0, none⟩)⟩ :: ⟨none, none, 27, .int .i64 x_5⟩ :: ⟨none, none, 28, .pointer (some ⟨b_6, 0, none⟩)⟩ :: ⟨none, none, 131, .slice (some ⟨g, 0, none⟩) x_4.length c_9⟩ :: ⟨none, none, 132, .int .i64 ((r_6.Gaugings.length : Nat) : Int)⟩ :: ⟨none, none, 133, .int .i64 x_5⟩ :: ⟨some 0, none, 138, .pointer (some ⟨b_5, 1, none⟩)⟩ :: ⟨some 1, none, 139, .slice (some ⟨g, 0, none⟩) x_4.length c_9⟩ :: ⟨some 2, none, 140, .int .i64 x_5⟩ :: ⟨some 3, none, 141, .pointer (some ⟨b_6, 2, none⟩)⟩ :: ⟨some 4, none, 142, .pointer (some ⟨b_6, 2, none⟩)⟩ :: ⟨some 5, none, 143, .int .i64 e_1.Flow.Lo⟩ :: ⟨some 6, none, 144, .pointer (some ⟨b_4, 0, none⟩)⟩ :: ⟨some 7, none, 145, .int .i64 r_9.1⟩ :: ⟨some 8, none, 146, .pointer (some ⟨b_4, 0, none⟩)⟩ :: ⟨some 9, none, 147, .int .i64 r_10.1⟩ :: ⟨some 10, none, 148, .int .i64 (W (r_9.1 * r_10.1))⟩ :: ⟨some 11, none, 149, .int .i64 (W (e_1.Flow.Lo - (W (r_9.1 * r_10.1))))⟩ :: ⟨some 12, none, 150, .int .i64 (max 0 (W (e_1.Flow.Lo - (W (r_9.1 * r_10.1)))))⟩ :: ⟨some 13, none, 151, .pointer (some ⟨b_6, 2, none⟩)⟩ :: ⟨some 14, none, 152, .pointer (some ⟨b_6, 3, none⟩)⟩ :: ⟨some 15, none, 153, .int .i64 e_1.Flow.Hi⟩ :: ⟨some 16, none, 154, .pointer (some ⟨b_4, 0, none⟩)⟩ :: ⟨some 17, none, 155, .int .i64 r_11.1⟩ :: ⟨some 18, none, 156, .pointer (some ⟨b_4, 0, none⟩)⟩ :: ⟨some 19, none, 157, .int .i64 r_12.1⟩ :: ⟨some 20, none, 158, .int .i64 (W (r_11.1 * r_12.1))⟩ :: ⟨some 21, none, 159, .int .i64 (W (e_1.Flow.Hi + (W (r_11.1 * r_12.1))))⟩ :: ⟨some 22, none, 160, .int .i64 (min 1000000000 (W (e_1.Flow.Hi + (W (r_11.1 * r_12.1)))))⟩ :: ⟨some 23, none, 161, .agg #[.int .i64 r_13.Lo, .int .i64 r_13.Hi]⟩ :: ⟨some 24, none, 162, .pointer (some ⟨g, x_5.toNat * 4, none⟩)⟩ :: ⟨some 25, none, 163, .pointer (some ⟨g, x_5.toNat * 4 + 2, none⟩)⟩ :: [])) (fun E θ => .box b_6 [.int .i64 e_1.Day, .int .i64 e_1.Stage, .int .i64 e_1.Flow.Lo, .int .i64 e_1.Flow.Hi] 71 :: .box b_5 [.slice p_7 r_6.Rating.length c_7, .slice (some ⟨g, 0, none⟩) x_4.length c_9] 25 :: .row p_7 c_7 (r_6.Rating.map enc_shift_Mark) 77 2 :: (bif E 26 then .row (some ⟨g, 0, none⟩) c_9 ((x_4.set x_5.toNat (⟨e_2.Day, e_2.Stage, r_13⟩ : shift_Gauging)).map enc_shift_Gauging) 71 4 else .row (some ⟨g, 0, none⟩) c_9 (x_4.map enc_shift_Gauging) 71 4) :: (bif E 19 then .box b_4 [.slice p_6 x_3.length c_6, .int .i64 r_12.2.1, .int .i64 r_12.2.2] 151 else bif E 17 then .box b_4 [.slice p_6 x_3.length c_6, .int .i64 r_11.2.1, .int .i64 r_11.2.2] 151 else bif E 9 then .box b_4 [.slice p_6 x_3.length c_6, .int .i64 r_10.2.1, .int .i64 r_10.2.2] 151 else bif E 7 then .box b_4 [.slice p_6 x_3.length c_6, .int .i64 r_9.2.1, .int .i64 r_9.2.2] 151 else .box b_4 [.slice p_6 x_3.length c_6, .int .i64 x_6, .int .i64 x_7] 151) :: Lf) [(9, 7), (17, 9), (19, 17), (25, 24), (26, 25)] (fun a w => Has 181 a [(10, .pointer (some ⟨b_4, 0, none⟩)), (12, .int .i64 r_4.2.1), (26, .pointer (some ⟨b_5, 0, none⟩)), (131, .slice (some ⟨g, 0, none⟩) x_4.length c_9), (132, .int .i64 ((r_6.Gaugings.length : Nat) : Int)), (133, .int .i64 x_5)] ∧ Ctx G (.box b_6 [.int .i64 e_1.Day, .int .i64 e_1.Stage, .int .i64 e_1.Flow.Lo, .int .i64 e_1.Flow.Hi] 71 :: .box b_5 [.slice p_7 r_6.Rating.length c_7, .slice (some ⟨g, 0, none⟩) x_4.length c_9] 25 :: .row p_7 c_7 (r_6.Rating.map enc_shift_Mark) 77 2 :: .row (some ⟨g, 0, none⟩) c_9 ((x_4.set x_5.toNat (⟨e_2.Day, e_2.Stage, r_13⟩ : shift_Gauging)).map enc_shift_Gauging) 71 4 :: .box b_4 [.slice p_6 x_3.length c_6, .int .i64 r_12.2.1, .int .i64 r_12.2.2] 151 :: Lf) w) follows_mx (by kernel_rfl) (by kernel_rfl) (HasE.of hf ⟨rfl, rfl, rfl, rfl, rfl, rfl, rfl, rfl, trivial, trivial, trivial, trivial, trivial, trivial, trivial, trivial, trivial, trivial, trivial, trivial, trivial, trivial, trivial, trivial, trivial, trivial, trivial, trivial, trivial, trivial, trivial, trivial, trivial, trivial, trivial⟩) hc ⟨?_, ?_, ?_, ?_, ?_, ?_, ?_, ?_, ?_, ?_, ?_, ?_, ?_, ?_, ?_, ?_, ?_, ?_, ?_, ?_, ?_, ?_, ?_, ?_, ?_, ?_, ?_, trivial⟩ ?_ ?_
          · intro E θ a w hD hi hp he hc
            have hf := he.h0
            replace hf := hf.more he 2 rfl onT
            refine stP hf rfl rfl rfl (pFA fa_25_1 rfl) fun a hf => ?_
            refine cNil ?_
            refine xThenN ?_
            intro ds u hau
            refine ⟨θ, he.put0 hi hau hf rfl 8 rfl rfl, ?_⟩
            exact hc
          · intro E θ a w hD hi hp he hc
            have e0 := hp.of (k := 0) rfl
            have hf := he.h0
            replace hf := hf.more he 8 rfl (onP e0)
            refine stE hf hc rfl rfl rfl (eLd1 sc_23 rfl (cell_box m1 rfl)) fun a w hf hc => ?_
            refine cNil ?_
            refine xThenN ?_
            intro ds u hau
            refine ⟨θ, he.put0 hi hau hf rfl 9 rfl rfl, ?_⟩
            exact hc
          · intro E θ a w hD hi hp he hc
            have hf := he.h0
            replace hf := hf.more he 3 rfl onT
            refine stP hf rfl rfl rfl (pM rfl) fun a hf => ?_
            refine cNil ?_
            refine xThenN ?_
            intro ds u hau
            refine ⟨θ, he.put0 hi hau hf rfl 10 rfl rfl, ?_⟩
            exact hc
          · intro E θ a w hD hi hp he hc
            have hf := he.h0
            replace hf := hf.more he 4 rfl onT
            refine stP hf rfl rfl rfl (pFA fa_71_2 rfl) fun a hf => ?_
            refine cNil ?_
            refine xThenN ?_
            intro ds u hau
            refine ⟨θ, he.put0 hi hau hf rfl 11 rfl rfl, ?_⟩
            exact hc
          · intro E θ a w hD hi hp he hc
            have e3 := hp.of (k := 3) rfl
            have hf := he.h0
            replace hf := hf.more he 11 rfl (onP e3)
            refine stP hf rfl rfl rfl (pFA fa_50_0 rfl) fun a hf => ?_
            refine cNil ?_
            refine xThenN ?_
            intro ds u hau
            refine ⟨θ, he.put0 hi hau hf rfl 12 rfl rfl, ?_⟩
            exact hc
          · intro E θ a w hD hi hp he hc
            have e4 := hp.of (k := 4) rfl
            have hf := he.h0
            replace hf := hf.more he 12 rfl (onP e4)
            refine stE hf hc rfl rfl rfl (eLd1 sc_3 rfl (cell_box m0 rfl)) fun a w hf hc => ?_
            refine cNil ?_
            refine xThenN ?_
            intro ds u hau
            refine ⟨θ, he.put0 hi hau hf rfl 13 rfl rfl, ?_⟩
            exact hc
          · intro E θ a w hD hi hp he hc
            have hf := he.h0
            replace hf := hf.more he 0 rfl onT
            refine stP hf rfl rfl rfl (pM rfl) fun a hf => ?_
            refine cNil ?_
            refine xThenN ?_
            intro ds u hau
            refine ⟨θ, he.put0 hi hau hf rfl 14 rfl rfl, ?_⟩
            exact hc
          · intro E θ a w hD hi hp he hc
            have e6 := hp.of (k := 6) rfl
            have e9 := hD.f 0 rfl hi
            have e17 := hD.f 1 rfl e9
            have e19 := hD.f 2 rfl e17
            try dsimp only at hc
            rw [hi, e9, e17, e19] at hc
            have hf := he.h0
            replace hf := hf.more he 14 rfl (onP e6)
            refine stC (vs := [.pointer (some ⟨b_4, 0, none⟩), .int .i64 2]) (caps := []) hf rfl rfl rfl en_38 rfl rfl rfl rfl (kit_Stream_Next_ok (⟨x_3, x_6, x_7⟩ : kit_Stream) 2 qr (hc.pick k4) hr_9) ?_
            rintro _ w ⟨rfl, hc⟩
            refine ⟨_, rfl, fun a hf => ?_⟩
            refine cNil ?_
            refine xThenN ?_
            intro ds u hau
            replace hc := hc.pick k0
            replace hc := hc.pick k4
            replace hc := hc.pick k4
            replace hc := hc.pick k4
            replace hc := hc.pick k4
            refine ⟨θ, he.put0 hi hau hf rfl 15 rfl rfl, ?_⟩
            try dsimp only
            rw [updE_self E 7, updE_fls 7 e9 rfl, updE_fls 7 e17 rfl, updE_fls 7 e19 rfl]
            exact hc
          · intro E θ a w hD hi hp he hc
            have hf := he.h0
            replace hf := hf.more he 0 rfl onT
            refine stP hf rfl rfl rfl (pM rfl) fun a hf => ?_
            refine cNil ?_
            refine xThenN ?_
            intro ds u hau
            refine ⟨θ, he.put0 hi hau hf rfl 16 rfl rfl, ?_⟩
            exact hc
          · intro E θ a w hD hi hp he hc
            have e8 := hp.of (k := 8) rfl
            have e7 := hp.of (k := 7) rfl
            have e17 := hD.f 1 rfl hi
            have e19 := hD.f 2 rfl e17
            try dsimp only at hc
            rw [e7, hi, e17, e19] at hc
            have hf := he.h0
            replace hf := hf.more he 16 rfl (onP e8)
            refine stC (vs := [.pointer (some ⟨b_4, 0, none⟩), .int .i64 60]) (caps := []) hf rfl rfl rfl en_38 rfl rfl rfl rfl (kit_Stream_Next_ok (⟨x_3, r_9.2.1, r_9.2.2⟩ : kit_Stream) 60 qr (hc.pick k4) hr_10) ?_
            rintro _ w ⟨rfl, hc⟩
            refine ⟨_, rfl, fun a hf => ?_⟩
            refine cNil ?_
            refine xThenN ?_
            intro ds u hau
            replace hc := hc.pick k0
            replace hc := hc.pick k4
            replace hc := hc.pick k4
            replace hc := hc.pick k4
            replace hc := hc.pick k4
            refine ⟨θ, he.put0 hi hau hf rfl 17 rfl rfl, ?_⟩
            try dsimp only
            rw [updE_tru 9 e7, updE_self E 9, updE_fls 9 e17 rfl, updE_fls 9 e19 rfl]
            exact hc
          · intro E θ a w hD hi hp he hc
            have e7 := hp.of (k := 7) rfl
            have e9 := hp.of (k := 9) rfl
            have hf := he.h0
            replace hf := hf.more he 15 rfl (onP e7)
            replace hf := hf.more he 17 rfl (onP e9)
            refine stP hf rfl rfl rfl (pMul rfl rfl) fun a hf => ?_
            refine cNil ?_
            refine xThenN ?_
            intro ds u hau
            refine ⟨θ, he.put0 hi hau hf rfl 18 rfl rfl, ?_⟩
            exact hc
          · intro E θ a w hD hi hp he hc
            have e5 := hp.of (k := 5) rfl
            have e10 := hp.of (k := 10) rfl
            have hf := he.h0
            replace hf := hf.more he 13 rfl (onP e5)
            replace hf := hf.more he 18 rfl (onP e10)
            refine stP hf rfl rfl rfl (pSub rfl rfl) fun a hf => ?_
            refine cNil ?_
            refine xThenN ?_
            intro ds u hau
            refine ⟨θ, he.put0 hi hau hf rfl 19 rfl rfl, ?_⟩
            exact hc
          · intro E θ a w hD hi hp he hc
            have e11 := hp.of (k := 11) rfl
            have hf := he.h0
            replace hf := hf.more he 19 rfl (onP e11)
            refine stP hf rfl rfl rfl (pMax2 rfl rfl) fun a hf => ?_
            refine cNil ?_
            refine xThenN ?_
            intro ds u hau
            refine ⟨θ, he.put0 hi hau hf rfl 20 rfl rfl, ?_⟩
            exact hc
          · intro E θ a w hD hi hp he hc
            have hf := he.h0
            replace hf := hf.more he 4 rfl onT
            refine stP hf rfl rfl rfl (pFA fa_71_2 rfl) fun a hf => ?_
            refine cNil ?_
            refine xThenN ?_
            intro ds u hau
            refine ⟨θ, he.put0 hi hau hf rfl 21 rfl rfl, ?_⟩
            exact hc
          · intro E θ a w hD hi hp he hc
            have e13 := hp.of (k := 13) rfl
            have hf := he.h0
            replace hf := hf.more he 21 rfl (onP e13)
            refine stP hf rfl rfl rfl (pFA fa_50_1 rfl) fun a hf => ?_
            refine cNil ?_
            refine xThenN ?_
            intro ds u hau
            refine ⟨θ, he.put0 hi hau hf rfl 22 rfl rfl, ?_⟩
            exact hc
          · intro E θ a w hD hi hp he hc
            have e14 := hp.of (k := 14) rfl
            have hf := he.h0
            replace hf := hf.more he 22 rfl (onP e14)
            refine stE hf hc rfl rfl rfl (eLd1 sc_3 rfl (cell_box m0 rfl)) fun a w hf hc => ?_
            refine cNil ?_
            refine xThenN ?_
            intro ds u hau
            refine ⟨θ, he.put0 hi hau hf rfl 23 rfl rfl, ?_⟩
            exact hc
          · intro E θ a w hD hi hp he hc
            have hf := he.h0
            replace hf := hf.more he 0 rfl onT
            refine stP hf rfl rfl rfl (pM rfl) fun a hf => ?_
            refine cNil ?_
            refine xThenN ?_
            intro ds u hau
            refine ⟨θ, he.put0 hi hau hf rfl 24 rfl rfl, ?_⟩
            exact hc
          · intro E θ a w hD hi hp he hc
            have e16 := hp.of (k := 16) rfl
            have e9 := hp.of (k := 9) rfl
            have e7 := hD.t 0 rfl e9
            have e19 := hD.f 2 rfl hi
            try dsimp only at hc
            rw [e7, e9, hi, e19] at hc
            have hf := he.h0
            replace hf := hf.more he 24 rfl (onP e16)
            refine stC (vs := [.pointer (some ⟨b_4, 0, none⟩), .int .i64 2]) (caps := []) hf rfl rfl rfl en_38 rfl rfl rfl rfl (kit_Stream_Next_ok (⟨x_3, r_10.2.1, r_10.2.2⟩ : kit_Stream) 2 qr (hc.pick k4) hr_11) ?_
            rintro _ w ⟨rfl, hc⟩
            refine ⟨_, rfl, fun a hf => ?_⟩
            refine cNil ?_
            refine xThenN ?_
            intro ds u hau
            replace hc := hc.pick k0
            replace hc := hc.pick k4
            replace hc := hc.pick k4
            replace hc := hc.pick k4
            replace hc := hc.pick k4
            refine ⟨θ, he.put0 hi hau hf rfl 25 rfl rfl, ?_⟩
            try dsimp only
            rw [updE_tru 17 e7, updE_tru 17 e9, updE_self E 17, updE_fls 17 e19 rfl]
            exact hc
          · intro E θ a w hD hi hp he hc
            have hf := he.h0
            replace hf := hf.more he 0 rfl onT
            refine stP hf rfl rfl rfl (pM rfl) fun a hf => ?_
            refine cNil ?_
            refine xThenN ?_
            intro ds u hau
            refine ⟨θ, he.put0 hi hau hf rfl 26 rfl rfl, ?_⟩
            exact hc
          · intro E θ a w hD hi hp he hc
            have e18 := hp.of (k := 18) rfl
            have e17 := hp.of (k := 17) rfl
            have e9 := hD.t 1 rfl e17
            have e7 := hD.t 0 rfl e9
            try dsimp only at hc
            rw [e7, e9, e17, hi] at hc
            have hf := he.h0
            replace hf := hf.more he 26 rfl (onP e18)
            refine stC (vs := [.pointer (some ⟨b_4, 0, none⟩), .int .i64 60]) (caps := []) hf rfl rfl rfl en_38 rfl rfl rfl rfl (kit_Stream_Next_ok (⟨x_3, r_11.2.1, r_11.2.2⟩ : kit_Stream) 60 qr (hc.pick k4) hr_12) ?_
            rintro _ w ⟨rfl, hc⟩
            refine ⟨_, rfl, fun a hf => ?_⟩
            refine cNil ?_
            refine xThenN ?_
            intro ds u hau
            replace hc := hc.pick k0
            replace hc := hc.pick k4
            replace hc := hc.pick k4
            replace hc := hc.pick k4
            replace hc := hc.pick k4
            refine ⟨θ, he.put0 hi hau hf rfl 27 rfl rfl, ?_⟩
            try dsimp only
            rw [updE_tru 19 e7, updE_tru 19 e9, updE_tru 19 e17, updE_self E 19]
            exact hc
          · intro E θ a w hD hi hp he hc
            have e17 := hp.of (k := 17) rfl
            have e19 := hp.of (k := 19) rfl
            have hf := he.h0
            replace hf := hf.more he 25 rfl (onP e17)
            replace hf := hf.more he 27 rfl (onP e19)
            refine stP hf rfl rfl rfl (pMul rfl rfl) fun a hf => ?_
            refine cNil ?_
            refine xThenN ?_
            intro ds u hau
            refine ⟨θ, he.put0 hi hau hf rfl 28 rfl rfl, ?_⟩
            exact hc
          · intro E θ a w hD hi hp he hc
            have e15 := hp.of (k := 15) rfl
            have e20 := hp.of (k := 20) rfl
            have hf := he.h0
            replace hf := hf.more he 23 rfl (onP e15)
            replace hf := hf.more he 28 rfl (onP e20)
            refine stP hf rfl rfl rfl (pAdd rfl rfl) fun a hf => ?_
            refine cNil ?_
            refine xThenN ?_
            intro ds u hau
            refine ⟨θ, he.put0 hi hau hf rfl 29 rfl rfl, ?_⟩
            exact hc
          · intro E θ a w hD hi hp he hc
            have e21 := hp.of (k := 21) rfl
            have hf := he.h0
            replace hf := hf.more he 29 rfl (onP e21)
            refine stP hf rfl rfl rfl (pMin2 rfl rfl) fun a hf => ?_
            refine cNil ?_
            refine xThenN ?_
            intro ds u hau
            refine ⟨θ, he.put0 hi hau hf rfl 30 rfl rfl, ?_⟩
            exact hc
          · intro E θ a w hD hi hp he hc
            have e12 := hp.of (k := 12) rfl
            have e22 := hp.of (k := 22) rfl
            have hf := he.h0
            replace hf := hf.more he 20 rfl (onP e12)
            replace hf := hf.more he 30 rfl (onP e22)
            refine stE hf hc rfl rfl rfl (eC (v := .agg #[.int .i64 r_13.Lo, .int .i64 r_13.Hi]) (vs := [.int .i64 (max 0 (W (e_1.Flow.Lo - (W (r_9.1 * r_10.1))))), .int .i64 (min 1000000000 (W (e_1.Flow.Hi + (W (r_11.1 * r_12.1)))))]) (caps := []) en_47 rfl rfl rfl rfl (fun w hc => law05_span_ok (max 0 (W (e_1.Flow.Lo - (W (r_9.1 * r_10.1))))) (min 1000000000 (W (e_1.Flow.Hi + (W (r_11.1 * r_12.1))))) hc hr_13)) fun a w hf hc => ?_
            refine cNil ?_
            refine xThenN ?_
            intro ds u hau
            refine ⟨θ, he.put0 hi hau hf rfl 31 rfl rfl, ?_⟩
            exact hc
          · intro E θ a w hD hi hp he hc
            have e1 := hp.of (k := 1) rfl
            have e2 := hp.of (k := 2) rfl
            have e25 := hD.f 3 rfl hi
            have e26 := hD.f 4 rfl e25
            try dsimp only at hc
            rw [e26] at hc
            have hf := he.h0
            replace hf := hf.more he 9 rfl (onP e1)
            replace hf := hf.more he 10 rfl (onP e2)
            refine stP hf rfl rfl rfl (pIA Try.underlying23 sz_71 rfl rfl qa_1) fun a hf => ?_
            refine cNil ?_
            refine xThenN ?_
            intro ds u hau
            refine ⟨θ, he.put0 hi hau hf rfl 32 rfl rfl, ?_⟩
            try dsimp only
            rw [updE_fls 24 e26 rfl]
            exact hc
          · intro E θ a w hD hi hp he hc
            have e24 := hp.of (k := 24) rfl
            have hf := he.h0
            replace hf := hf.more he 32 rfl (onP e24)
            refine stP hf rfl rfl rfl (pFA fa_71_2 rfl) fun a hf => ?_
            refine cNil ?_
            refine xThenN ?_
            intro ds u hau
            refine ⟨θ, he.put0 hi hau hf rfl 33 rfl rfl, ?_⟩
            exact hc
          · intro E θ a w hD hi hp he hc
            have e23 := hp.of (k := 23) rfl
            have e25 := hp.of (k := 25) rfl
            try dsimp only at hc
            rw [hi] at hc
            have hf := he.h0
            replace hf := hf.more he 31 rfl (onP e23)
            replace hf := hf.more he 33 rfl (onP e25)
            refine stRw (vs := [.int .i64 r_13.Lo, .int .i64 r_13.Hi]) (o' := 2) (z := (⟨e_2.Day, e_2.Stage, r_13⟩ : shift_Gauging)) (xs := x_4) hf hc rfl rfl rfl rfl sz_50 rfl (fun x => (one_enc_shift_Gauging x).1) (getI_lt he_2) (fun e' he' => by cases (he'.symm.trans (getI_spec he_2).2); rfl) rfl u3 fun w hc => ?_
            refine cNil ?_
            refine xThenN ?_
            intro ds u hau
            refine ⟨θ, he.stay0 hi hau hf rfl, ?_⟩
            try dsimp only
            rw [updE_self E 26]
            exact hc
          · intro E θ a w hall he hc
            have hf := he.h0
            have e7 := hall 7 rfl
            have e9 := hall 9 rfl
            have e17 := hall 17 rfl
            have e19 := hall 19 rfl
            have e26 := hall 26 rfl
            replace hf := hf.more he 7 rfl (onT)
            replace hf := hf.more he 6 rfl (onT)
            replace hf := hf.more he 5 rfl (onT)
            replace hf := hf.more he 2 rfl (onT)
            replace hf := hf.more he 1 rfl (onT)
            replace hf := hf.more he 0 rfl (onT)
            try dsimp only at hc
            rw [e7, e9, e17, e19, e26] at hc
            exact ⟨hf.keep ⟨rfl, rfl, rfl, rfl, rfl, rfl, trivial⟩, hc⟩
          rintro a w ⟨hf, hc⟩
          refine h21 _ _ ?_
          refine cReg ?_
          refine stP hf rfl rfl rfl (pAdd rfl rfl) fun a hf => ?_
          refine stP hf rfl rfl rfl (pM rfl) fun a hf => ?_
          refine cNil ?_
          rw [(by simp : x_4.length = (x_4.set x_5.toNat (⟨e_2.Day, e_2.Stage, r_13⟩ : shift_Gauging)).length)] at hf
          rw [(by simp : x_4.length = (x_4.set x_5.toNat (⟨e_2.Day, e_2.Stage, r_13⟩ : shift_Gauging)).length)] at hc
          replace hc := hc.drop k0
          exact hK16 ((x_4.set x_5.toNat (⟨e_2.Day, e_2.Stage, r_13⟩ : shift_Gauging)), W (x_5 + 1), r_12.2.1, r_12.2.2) _ _ (Option.some.inj hF).symm ⟨(some ⟨g, 0, none⟩), c_9, hf.keep ⟨rfl, rfl, rfl, rfl, rfl, rfl, trivial⟩, hc⟩
        · replace hF := condF hb hF
          clear hb
          refine wp_exit ?_
          refine xThen ?_
          refine xThen ?_
          have he := Option.some.inj hF
          rw [← he] at hfin16
          refine cHit ?_
          exact hr16 _ _ _ hfin16 ⟨p_9, c_9, hf.keep ⟨rfl, rfl, rfl, rfl, rfl, rfl, trivial⟩, hc⟩
      refine wp_seq_k fun K23 h23 => ?_
      refine cReg ?_
      refine stP hf rfl rfl rfl (pM rfl) fun a hf => ?_
      refine stP hf rfl rfl rfl (pLenS Try.underlying87 rfl) fun a hf => ?_
      refine stP hf rfl rfl rfl (pGt rfl rfl) fun a hf => ?_
      refine cNil ?_
      refine h23 _ _ ?_
      refine cCond (b := (decide (0 < ((r_5.1.length : Nat) : Int)))) hf rfl (fun hb => ?_) (fun hb => ?_)
      · replace hF := condT hb hF
        clear hb
        refine wp_seq_k fun K24 h24 => ?_
        refine cReg ?_
        refine stP hf rfl rfl rfl (pM rfl) fun a hf => ?_
        refine stP hf rfl rfl rfl (pM rfl) fun a hf => ?_
        refine stP hf rfl rfl rfl (pLenS Try.underlying87 rfl) fun a hf => ?_
        obtain ⟨r_14, hr_14, hF⟩ := bnd_some hF
        refine stC (vs := [.pointer (some ⟨b_3, 0, none⟩), .int .i64 ((r_5.1.length : Nat) : Int)]) (caps := []) hf rfl rfl rfl en_38 rfl rfl rfl rfl (kit_Stream_Next_ok (⟨tries, x_1, x_2⟩ : kit_Stream) ((r_5.1.length : Nat) : Int) h_tries (hc.pick k4) hr_14) ?_
        rintro _ w ⟨rfl, hc⟩
        refine ⟨_, rfl, fun a hf => ?_⟩
        refine stP hf rfl rfl rfl (pA rfl) fun a hf => ?_
        refine cNil ?_
        refine h24 _ _ ?_
        refine wp_seq_k fun K25 h25 => ?_
        have qc := row_cap hc m3
        obtain ⟨sub, hsub, hF⟩ := bnd_some hF
        have qc_1 := row_cap hc m3
        obtain ⟨sub_1, hsub_1, hF⟩ := bnd_some hF
        replace hc := hc.nilRow 0 0
        refine regionE (fun θ => [⟨none, none, 7, .pointer (some ⟨b_2, 0, none⟩)⟩, ⟨none, none, 10, .pointer (some ⟨b_4, 0, none⟩)⟩, ⟨none, none, 12, .int .i64 r_4.2.1⟩, ⟨none, none, 14, .slice p_5 r_5.1.length c_5⟩, ⟨none, none, 21, .int .i64 r_14.1⟩, ⟨some 0, none, 102, .slice p_5 r_5.1.length c_5⟩, ⟨some 1, none, 103, .int .i64 r_14.1⟩, ⟨some 2, none, 104, .slice (subP p_5 c_5 (0 : Int).toNat 2) sub.length (c_5 - (0 : Int).toNat)⟩, ⟨some 3, none, 105, .slice p_5 r_5.1.length c_5⟩, ⟨some 4, none, 106, .int .i64 r_14.1⟩, ⟨some 5, none, 107, .slice (subP p_5 c_5 r_14.1.toNat 2) sub_1.length (c_5 - r_14.1.toNat)⟩, ⟨some 6, none, 108, .slice (some ⟨(θ 48).b, 0, none⟩) 2 2⟩, ⟨some 7, none, 109, .int .i64 (2 : Int)⟩, ⟨some 8, none, 110, .int .i64 0⟩]) (fun E θ => (bif E 6 then .row (some ⟨(θ 48).b, 0, none⟩) 2 (([((subP p_5 c_5 (0 : Int).toNat 2), sub.length, (c_5 - (0 : Int).toNat)), ((subP p_5 c_5 r_14.1.toNat 2), sub_1.length, (c_5 - r_14.1.toNat))] : List Hd).map encHd) 87 1 else .row none 0 [] 0 0) :: .box b_3 [.slice tries_p tries.length tries_c, .int .i64 r_14.2.1, .int .i64 r_14.2.2] 151 :: .row p_1 c_1 (r_1.1.Rating.map enc_shift_Mark) 77 2 :: .row p_2 c_2 (r_1.1.Gaugings.map enc_shift_Gauging) 71 4 :: .row p_5 c_5 (r_5.1.map enc_shift_Turn) 91 2 :: .box b_4 [.slice wider_p wider.length wider_c, .int .i64 r_3.1, .int .i64 r_3.2] 151 :: .box b_2 [.slice p_1 r_1.1.Rating.length c_1, .slice p_2 r_1.1.Gaugings.length c_2] 25 :: Lf) [] (fun a w => ∃ (b_8 : Nat), Has 181 a [(7, .pointer (some ⟨b_2, 0, none⟩)), (10, .pointer (some ⟨b_4, 0, none⟩)), (12, .int .i64 r_4.2.1), (108, .slice (some ⟨b_8, 0, none⟩) 2 2), (109, .int .i64 (2 : Int)), (110, .int .i64 0)] ∧ Ctx G (.row (some ⟨b_8, 0, none⟩) 2 (([((subP p_5 c_5 (0 : Int).toNat 2), sub.length, (c_5 - (0 : Int).toNat)), ((subP p_5 c_5 r_14.1.toNat 2), sub_1.length, (c_5 - r_14.1.toNat))] : List Hd).map encHd) 87 1 :: .box b_3 [.slice tries_p tries.length tries_c, .int .i64 r_14.2.1, .int .i64 r_14.2.2] 151 :: .row p_1 c_1 (r_1.1.Rating.map enc_shift_Mark) 77 2 :: .row p_2 c_2 (r_1.1.Gaugings.map enc_shift_Gauging) 71 4 :: .row p_5 c_5 (r_5.1.map enc_shift_Turn) 91 2 :: .box b_4 [.slice wider_p wider.length wider_c, .int .i64 r_3.1, .int .i64 r_3.2] 151 :: .box b_2 [.slice p_1 r_1.1.Rating.length c_1, .slice p_2 r_1.1.Gaugings.length c_2] 25 :: Lf) w) follows_mx (by kernel_rfl) (by kernel_rfl) (HasE.of hf ⟨rfl, rfl, rfl, rfl, rfl, trivial, trivial, trivial, trivial, trivial, trivial, trivial, trivial, trivial, trivial⟩) hc ⟨?_, ?_, ?_, ?_, ?_, ?_, ?_, ?_, ?_, trivial⟩ ?_ ?_
        · intro E θ a w hD hi hp he hc
          have hf := he.h0
          replace hf := hf.more he 3 rfl onT
          refine stP hf rfl rfl rfl (pM rfl) fun a hf => ?_
          refine cNil ?_
          refine xThenN ?_
          intro ds u hau
          refine ⟨θ, he.put0 hi hau hf rfl 5 rfl rfl, ?_⟩
          exact hc
        · intro E θ a w hD hi hp he hc
          have hf := he.h0
          replace hf := hf.more he 4 rfl onT
          refine stP hf rfl rfl rfl (pM rfl) fun a hf => ?_
          refine cNil ?_
          refine xThenN ?_
          intro ds u hau
          refine ⟨θ, he.put0 hi hau hf rfl 6 rfl rfl, ?_⟩
          exact hc
        · intro E θ a w hD hi hp he hc
          have e0 := hp.of (k := 0) rfl
          have e1 := hp.of (k := 1) rfl
          have hf := he.h0
          replace hf := hf.more he 5 rfl (onP e0)
          replace hf := hf.more he 6 rfl (onP e1)
          refine stP hf rfl rfl rfl (pSl Try.underlying87 sz_91 rfl rfl qc rfl rfl hsub) fun a hf => ?_
          refine cNil ?_
          refine xThenN ?_
          intro ds u hau
          refine ⟨θ, he.put0 hi hau hf rfl 7 rfl rfl, ?_⟩
          exact hc
        · intro E θ a w hD hi hp he hc
          have hf := he.h0
          replace hf := hf.more he 3 rfl onT
          refine stP hf rfl rfl rfl (pM rfl) fun a hf => ?_
          refine cNil ?_
          refine xThenN ?_
          intro ds u hau
          refine ⟨θ, he.put0 hi hau hf rfl 8 rfl rfl, ?_⟩
          exact hc
        · intro E θ a w hD hi hp he hc
          have hf := he.h0
          replace hf := hf.more he 4 rfl onT
          refine stP hf rfl rfl rfl (pM rfl) fun a hf => ?_
          refine cNil ?_
          refine xThenN ?_
          intro ds u hau
          refine ⟨θ, he.put0 hi hau hf rfl 9 rfl rfl, ?_⟩
          exact hc
        · intro E θ a w hD hi hp he hc
          have e3 := hp.of (k := 3) rfl
          have e4 := hp.of (k := 4) rfl
          have hf := he.h0
          replace hf := hf.more he 8 rfl (onP e3)
          replace hf := hf.more he 9 rfl (onP e4)
          refine stP hf rfl rfl rfl (pSl Try.underlying87 sz_91 rfl rfl qc_1 rfl rfl hsub_1) fun a hf => ?_
          refine cNil ?_
          refine xThenN ?_
          intro ds u hau
          refine ⟨θ, he.put0 hi hau hf rfl 10 rfl rfl, ?_⟩
          exact hc
        · intro E θ a w hD hi hp he hc
          have e2 := hp.of (k := 2) rfl
          have e5 := hp.of (k := 5) rfl
          try dsimp only at hc
          rw [hi] at hc
          have hf := he.h0
          replace hf := hf.more he 7 rfl (onP e2)
          replace hf := hf.more he 10 rfl (onP e5)
          refine stBS (rows := (([((subP p_5 c_5 (0 : Int).toNat 2), sub.length, (c_5 - (0 : Int).toNat)), ((subP p_5 c_5 r_14.1.toNat 2), sub_1.length, (c_5 - r_14.1.toNat))] : List Hd)).map encHd) (vs := [(0, .slice (subP p_5 c_5 (0 : Int).toNat 2) sub.length (c_5 - (0 : Int).toNat)), (1, .slice (subP p_5 c_5 r_14.1.toNat 2) sub_1.length (c_5 - r_14.1.toNat))]) hf hc rfl rfl sl_94 rfl ⟨rfl, rfl, rfl, rfl, rfl, rfl, trivial⟩ rfl rfl fun b_7 a w hf hc => ?_
          refine cNil ?_
          refine xThenN ?_
          intro ds u hau
          replace hc := hc.drop k1
          refine ⟨(setT θ 48 ⟨b_7, none, 0⟩), he.put hi hau hf rfl [] trivial ⟨qq, qq, qq, qq, qq, qq, qq, qq, qq, qq, qq, qq, qq, qq, trivial⟩, ?_⟩
          try dsimp only
          rw [updE_self E 6]
          exact hc
        · intro E θ a w hD hi hp he hc
          have e6 := hp.of (k := 6) rfl
          have hf := he.h0
          replace hf := hf.more he 11 rfl (onP e6)
          refine stP hf rfl rfl rfl (pLenS Try.underlying94 rfl) fun a hf => ?_
          refine cNil ?_
          refine xThenN ?_
          intro ds u hau
          refine ⟨θ, he.put0 hi hau hf rfl 12 rfl rfl, ?_⟩
          exact hc
        · intro E θ a w hD hi hp he hc
          have hf := he.h0
          refine stP hf rfl rfl rfl (pM rfl) fun a hf => ?_
          refine cNil ?_
          refine xThenN ?_
          intro ds u hau
          refine ⟨θ, he.put0 hi hau hf rfl 13 rfl rfl, ?_⟩
          exact hc
        · intro E θ a w hall he hc
          have hf := he.h0
          have e6 := hall 6 rfl
          have e7 := hall 7 rfl
          have e8 := hall 8 rfl
          replace hf := hf.more he 13 rfl (onP e8)
          replace hf := hf.more he 12 rfl (onP e7)
          replace hf := hf.more he 11 rfl (onP e6)
          replace hf := hf.more he 2 rfl (onT)
          replace hf := hf.more he 1 rfl (onT)
          replace hf := hf.more he 0 rfl (onT)
          try dsimp only at hc
          rw [e6] at hc
          exact ⟨(θ 48).b, hf.keep ⟨rfl, rfl, rfl, rfl, rfl, rfl, trivial⟩, hc⟩
        rintro a w ⟨b_8, hf, hc⟩
        obtain ⟨G, hle_fz, rd_fz, hc, -⟩ := lend hc k4
        obtain ⟨G, hle_fz_1, rd_fz_1, hc, -⟩ := lend hc k0
        have rdd : Rd2 G 2 enc_shift_Turn (some ⟨b_8, 0, none⟩) 2 ([sub, sub_1] : List (List shift_Turn)) := ⟨_, rd_fz_1, ⟨⟨_, _, rfl, ((rd_fz.sub hsub).mono hle_fz_1)⟩, ⟨⟨_, _, rfl, ((rd_fz.sub hsub_1).mono hle_fz_1)⟩, trivial⟩⟩⟩
        refine h25 _ _ ?_
        refine wp_block ?_
        obtain ⟨x26, hx26, hF⟩ := bnd_some hF
        let S26 : Int → Act → World → Prop := (fun (zz : Int) a w => Has 181 a [(7, .pointer (some ⟨b_2, 0, none⟩)), (10, .pointer (some ⟨b_4, 0, none⟩)), (12, .int .i64 r_4.2.1), (108, .slice (some ⟨b_8, 0, none⟩) 2 2), (109, .int .i64 (2 : Int)), (110, .int .i64 zz)] ∧ Ctx G (.row p_1 c_1 (r_1.1.Rating.map enc_shift_Mark) 77 2 :: .row p_2 c_2 (r_1.1.Gaugings.map enc_shift_Gauging) 71 4 :: .box b_4 [.slice wider_p wider.length wider_c, .int .i64 r_3.1, .int .i64 r_3.2] 151 :: .box b_2 [.slice p_1 r_1.1.Rating.length c_1, .slice p_2 r_1.1.Gaugings.length c_2] 25 :: Lf) w)
        have hr26 : ∀ (zz : Int) a w, x26 = .go zz → S26 zz a w → K12 a w := by
          rintro x_8 a w rfl ⟨hf, hc⟩
          replace hF := exK_go hF
          replace hc := hc.down hle_fz_1
          replace hc := hc.down hle_fz
          exact hj12 wider wider_p wider_c _ _ h_wider (hf.keep ⟨rfl, rfl, rfl, trivial⟩) hc hF
        have ho26 : ∀ r, x26 = .out r → r = res := by
          rintro r rfl
          exact Option.some.inj hF
        replace hc := hc.drop k0
        refine cLoop N (loopW (S := S26) (x := x26) ?_ N 0 _ _ ⟨hf.keep ⟨rfl, rfl, rfl, rfl, rfl, rfl, trivial⟩, hc⟩ hx26)
        clear hF hf hc
        rintro x_8 st26 a w KB26 ⟨hf, hc⟩ hF hfin26 hK26
        unfold law05_ShiftProved_b26 at hF
        refine wp_seq_k fun K27 h27 => ?_
        refine cReg ?_
        refine stP hf rfl rfl rfl (pLt rfl rfl) fun a hf => ?_
        refine cNil ?_
        refine h27 _ _ ?_
        refine wp_seq_k fun K28 h28 => ?_
        refine cCond (b := (decide (x_8 < (2 : Int)))) hf rfl (fun hb => ?_) (fun hb => ?_)
        · replace hF := condT hb hF
          clear hb
          refine wp_skip ?_
          refine h28 _ _ ?_
          refine wp_seq_k fun K29 h29 => ?_
          refine wp_block ?_
          refine wp_seq_k fun K30 h30 => ?_
          refine cReg ?_
          obtain ⟨e_3, he_3, hF⟩ := bnd_some hF
          obtain ⟨b_9, o, q2, c2, qa_2, qp, qr_3⟩ := rdd.atm he_3
          refine stP hf rfl rfl rfl (pIA Try.underlying94 sz_87 rfl rfl qa_2) fun a hf => ?_
          refine stE hf hc rfl rfl rfl (eLd1 sc_87 rfl (cell_pc (j := 0) qp rfl)) fun a w hf hc => ?_
          refine stP hf rfl rfl rfl (pA rfl) fun a hf => ?_
          refine cNil ?_
          refine h30 _ _ ?_
          refine wp_seq_k fun K31 h31 => ?_
          refine cReg ?_
          refine stE hf hc rfl rfl rfl (eLdN (vs := [.slice p_1 r_1.1.Rating.length c_1, .slice p_2 r_1.1.Gaugings.length c_2]) ag_25 rfl rfl (cells_box (n := 2) m3 rfl)) fun a w hf hc => ?_
          refine stP hf rfl rfl rfl (pM rfl) fun a hf => ?_
          obtain ⟨r_15, hr_15, hF⟩ := bnd_some hF
          refine stE hf hc rfl rfl rfl (eC (v := .tuple #[.int .i64 r_15.1, .int .i64 r_15.2]) (vs := [.agg #[.slice p_1 r_1.1.Rating.length c_1, .slice p_2 r_1.1.Gaugings.length c_2], .slice q2 e_3.length c2]) (caps := []) en_46 rfl rfl rfl rfl (fun w hc => by obtain ⟨G1, hle1, hrd1, hc, hth1⟩ := lend hc k0; obtain ⟨G2, hle2, hrd2, hc, hth2⟩ := lend hc k0; exact (shift_Proves_ok r_1.1 e_3 (hrd1.mono hle2) hrd2 ((qr_3.mono hle1).mono hle2) hc hr_15).mono fun e w h => ⟨h.1, ((hth1 _ _ ((hth2 _ _ h.2).unpick k0)).unpick k0)⟩)) fun a w hf hc => ?_
          refine stP hf rfl rfl rfl (pM rfl) fun a hf => ?_
          refine stP hf rfl rfl rfl (pX rfl rfl) fun a hf => ?_
          refine stP hf rfl rfl rfl (pX rfl rfl) fun a hf => ?_
          refine stP hf rfl rfl rfl (pA rfl) fun a hf => ?_
          refine stP hf rfl rfl rfl (pA rfl) fun a hf => ?_
          refine cNil ?_
          refine h31 _ _ ?_
          refine wp_seq_k fun K32 h32 => ?_
          refine cReg ?_
          refine stP hf rfl rfl rfl (pM rfl) fun a hf => ?_
          refine stP hf rfl rfl rfl (pNe rfl rfl) fun a hf => ?_
          refine stP hf rfl rfl rfl (pM rfl) fun a hf => ?_
          refine stCut 4 (fun a w => Has 181 a [(7, .pointer (some ⟨b_2, 0, none⟩)), (10, .pointer (some ⟨b_4, 0, none⟩)), (12, .int .i64 r_4.2.1), (108, .slice (some ⟨b_8, 0, none⟩) 2 2), (109, .int .i64 (2 : Int)), (110, .int .i64 x_8), (24, .int .i64 r_15.1), (25, .int .i64 r_15.2), (120, .int .i64 r_15.2), (121, .bool (r_15.2 != 0)), (122, .bool (r_15.2 != 0)), (126, .bool ((r_15.2 != 0) || (decide (r_4.2.1 < r_15.1))))] ∧ Ctx G (.row p_1 c_1 (r_1.1.Rating.map enc_shift_Mark) 77 2 :: .row p_2 c_2 (r_1.1.Gaugings.map enc_shift_Gauging) 71 4 :: .box b_4 [.slice wider_p wider.length wider_c, .int .i64 r_3.1, .int .i64 r_3.2] 151 :: .box b_2 [.slice p_1 r_1.1.Rating.length c_1, .slice p_2 r_1.1.Gaugings.length c_2] 25 :: Lf) w) ?_ ?_
          · cases hb : (r_15.2 != 0)
            · rw [hb] at hf
              refine stP hf rfl rfl rfl (pM rfl) fun a hf => ?_
              refine stP hf rfl rfl rfl (pM rfl) fun a hf => ?_
              refine stP hf rfl rfl rfl (pGt rfl rfl) fun a hf => ?_
              refine stP hf rfl rfl rfl (pPf rfl rfl) fun a hf => ?_
              exact cNil ⟨hf.keep ⟨rfl, rfl, rfl, rfl, rfl, rfl, rfl, rfl, rfl, rfl, rfl, rfl, trivial⟩, hc⟩
            · rw [hb] at hf
              refine stS hf rfl rfl rfl fun a hf => ?_
              refine stS hf rfl rfl rfl fun a hf => ?_
              refine stS hf rfl rfl rfl fun a hf => ?_
              refine stP hf rfl rfl rfl (pPt rfl rfl) fun a hf => ?_
              exact cNil ⟨hf.keep ⟨rfl, rfl, rfl, rfl, rfl, rfl, rfl, rfl, rfl, rfl, rfl, rfl, trivial⟩, hc⟩
          intro a w ⟨hf, hc⟩
          refine cNil ?_
          refine h32 _ _ ?_
          refine cCond (b := ((r_15.2 != 0) || (decide (r_4.2.1 < r_15.1)))) hf rfl (fun hb => ?_) (fun hb => ?_)
          · replace hF := condT hb hF
            clear hb
            refine wp_seq_k fun K33 h33 => ?_
            refine cReg ?_
            refine stP hf rfl rfl rfl (pA rfl) fun a hf => ?_
            refine cNil ?_
            refine h33 _ _ ?_
            refine wp_ret ?_
            refine xBlkR ?_
            refine xThenR ?_
            refine xThenR ?_
            have he := Option.some.inj hF
            rw [← he] at hfin26
            replace hF := ho26 _ hfin26
            refine xBlkR ?_
            refine xThenR ?_
            obtain rfl := hF
            replace hc := hc.down hle_fz_1
            replace hc := hc.down hle_fz
            replace hc := hc.drop k3
            replace hc := hc.drop k2
            replace hc := hc.drop k1
            replace hc := hc.drop k0
            exact fnOut1 (by simp) rfl Try.results9 hf hc (show look _ 6 = _ from rfl) ⟨rfl, hc⟩
          · replace hF := condF hb hF
            clear hb
            refine wp_skip ?_
            refine h29 _ _ ?_
            refine cReg ?_
            refine stP hf rfl rfl rfl (pAdd rfl rfl) fun a hf => ?_
            refine stP hf rfl rfl rfl (pM rfl) fun a hf => ?_
            refine cNil ?_
            exact hK26 (W (x_8 + 1)) _ _ (Option.some.inj hF).symm ⟨hf.keep ⟨rfl, rfl, rfl, rfl, rfl, rfl, trivial⟩, hc⟩
        · replace hF := condF hb hF
          clear hb
          refine wp_exit ?_
          refine xThen ?_
          refine xThen ?_
          have he := Option.some.inj hF
          rw [← he] at hfin26
          refine cHit ?_
          exact hr26 _ _ _ hfin26 ⟨hf.keep ⟨rfl, rfl, rfl, rfl, rfl, rfl, trivial⟩, hc⟩
      · replace hF := condF hb hF
        clear hb
        refine wp_skip ?_
        replace hc := hc.drop k4
        replace hc := hc.drop k2
        exact hj12 wider wider_p wider_c _ _ h_wider (hf.keep ⟨rfl, rfl, rfl, trivial⟩) hc hF
    have ho11 : ∀ r, x11 = .out r → r = res := by
      rintro r rfl
      exact Option.some.inj hF
    replace hc := hc.drop k8
    replace hc := hc.drop k7
    replace hc := hc.drop k3
    refine cLoop N (loopW (S := S11) (x := x11) ?_ N (0, r_2.1, r_2.2) _ _ ⟨hf.keep ⟨rfl, rfl, rfl, rfl, rfl, rfl, trivial⟩, hc⟩ hx11)
    clear hF hf hc
    rintro ⟨x, x_1, x_2⟩ st11 a w KB11 ⟨hf, hc⟩ hF hfin11 hK11
    unfold law05_ShiftProved_b11 at hF
    refine wp_seq_k fun K34 h34 => ?_
    refine cReg ?_
    refine stP hf rfl rfl rfl (pLt rfl rfl) fun a hf => ?_
    refine cNil ?_
    refine h34 _ _ ?_
    refine wp_seq_k fun K35 h35 => ?_
    refine cCond (b := (decide (x < 6))) hf rfl (fun hb => ?_) (fun hb => ?_)
    · replace hF := condT hb hF
      clear hb
      refine wp_skip ?_
      refine h35 _ _ ?_
      refine wp_seq_k fun K36 h36 => ?_
      refine wp_block ?_
      refine wp_seq_k fun K37 h37 => ?_
      refine cReg ?_
      refine stP hf rfl rfl rfl (pA rfl) fun a hf => ?_
      refine cNil ?_
      refine h37 _ _ ?_
      refine wp_seq_k fun K38 h38 => ?_
      refine cReg ?_
      refine stP hf rfl rfl rfl (pM rfl) fun a hf => ?_
      obtain ⟨r_16, hr_16, hF⟩ := bnd_some hF
      refine stC (vs := [.pointer (some ⟨b_3, 0, none⟩), .int .i64 2]) (caps := []) hf rfl rfl rfl en_38 rfl rfl rfl rfl (kit_Stream_Next_ok (⟨tries, x_1, x_2⟩ : kit_Stream) 2 h_tries (hc.pick k4) hr_16) ?_
      rintro _ w ⟨rfl, hc⟩
      refine ⟨_, rfl, fun a hf => ?_⟩
      refine stP hf rfl rfl rfl (pEq rfl rfl) fun a hf => ?_
      refine stP hf rfl rfl rfl (pA rfl) fun a hf => ?_
      refine cNil ?_
      refine h38 _ _ ?_
      refine wp_seq_k fun K39 h39 => ?_
      refine wp_seq_k fun K40 h40 => ?_
      refine cReg ?_
      refine stP hf rfl rfl rfl (pFA fa_25_1 rfl) fun a hf => ?_
      refine stE hf hc rfl rfl rfl (eLd1 sc_23 rfl (cell_box m5 rfl)) fun a w hf hc => ?_
      refine stP hf rfl rfl rfl (pLenS Try.underlying23 rfl) fun a hf => ?_
      refine stP hf rfl rfl rfl (pM rfl) fun a hf => ?_
      refine cNil ?_
      refine h40 _ _ ?_
      refine wp_block ?_
      obtain ⟨x41, hx41, hF⟩ := bnd_some hF
      let S41 : ((List shift_Turn) × Bool × Int × Int × Int) → Act → World → Prop := (fun (zz : (List shift_Turn) × Bool × Int × Int × Int) a w => ∃ (p_11 : Option Addr) (c_11 : Nat), Has 181 a [(7, .pointer (some ⟨b_2, 0, none⟩)), (9, .pointer (some ⟨b_3, 0, none⟩)), (10, .pointer (some ⟨b_4, 0, none⟩)), (12, .int .i64 r_4.2.1), (14, .slice p_5 r_5.1.length c_5), (16, .slice p_11 zz.1.length c_11), (17, .bool zz.2.1), (58, .int .i64 x), (65, .int .i64 ((r_1.1.Gaugings.length : Nat) : Int)), (66, .int .i64 zz.2.2.1)] ∧ Ctx G (.row p_11 c_11 (zz.1.map enc_shift_Turn) 91 2 :: .box b_3 [.slice tries_p tries.length tries_c, .int .i64 zz.2.2.2.1, .int .i64 zz.2.2.2.2] 151 :: .row p_1 c_1 (r_1.1.Rating.map enc_shift_Mark) 77 2 :: .row p_2 c_2 (r_1.1.Gaugings.map enc_shift_Gauging) 71 4 :: .row p_5 c_5 (r_5.1.map enc_shift_Turn) 91 2 :: .box b_4 [.slice wider_p wider.length wider_c, .int .i64 r_3.1, .int .i64 r_3.2] 151 :: .box b_2 [.slice p_1 r_1.1.Rating.length c_1, .slice p_2 r_1.1.Gaugings.length c_2] 25 :: Lf) w)
      have hr41 : ∀ (zz : (List shift_Turn) × Bool × Int × Int × Int) a w, x41 = .go zz → S41 zz a w → K39 a w := by
        rintro ⟨mine, up, x_9, x_10, x_11⟩ a w rfl ⟨p_11, c_11, hf, hc⟩
        replace hF := exK_go hF
        refine h39 _ _ ?_
        refine wp_seq_k fun K42 h42 => ?_
        refine cReg ?_
        refine stE hf hc rfl rfl rfl (eLdN (vs := [.slice p_1 r_1.1.Rating.length c_1, .slice p_2 r_1.1.Gaugings.length c_2]) ag_25 rfl rfl (cells_box (n := 2) m6 rfl)) fun a w hf hc => ?_
        refine stP hf rfl rfl rfl (pM rfl) fun a hf => ?_
        obtain ⟨r_17, hr_17, hF⟩ := bnd_some hF
        refine stE hf hc rfl rfl rfl (eC (v := .tuple #[.int .i64 r_17.1, .int .i64 r_17.2]) (vs := [.agg #[.slice p_1 r_1.1.Rating.length c_1, .slice p_2 r_1.1.Gaugings.length c_2], .slice p_11 mine.length c_11]) (caps := []) en_46 rfl rfl rfl rfl (fun w hc => by obtain ⟨G1, hle1, hrd1, hc, hth1⟩ := lend hc k2; obtain ⟨G2, hle2, hrd2, hc, hth2⟩ := lend hc k2; obtain ⟨G3, hle3, hrd3, hc, hth3⟩ := lend hc k0; exact (shift_Proves_ok r_1.1 mine ((hrd1.mono hle2).mono hle3) (hrd2.mono hle3) hrd3 hc hr_17).mono fun e w h => ⟨h.1, ((hth1 _ _ ((hth2 _ _ ((hth3 _ _ h.2).unpick k0)).unpick k2)).unpick k2)⟩)) fun a w hf hc => ?_
        refine stP hf rfl rfl rfl (pM rfl) fun a hf => ?_
        refine stP hf rfl rfl rfl (pX rfl rfl) fun a hf => ?_
        refine stP hf rfl rfl rfl (pX rfl rfl) fun a hf => ?_
        refine stP hf rfl rfl rfl (pA rfl) fun a hf => ?_
        refine stP hf rfl rfl rfl (pA rfl) fun a hf => ?_
        refine cNil ?_
        refine h42 _ _ ?_
        refine wp_seq_k fun K43 h43 => ?_
        refine cReg ?_
        refine stP hf rfl rfl rfl (pM rfl) fun a hf => ?_
        refine stP hf rfl rfl rfl (pNe rfl rfl) fun a hf => ?_
        refine stP hf rfl rfl rfl (pM rfl) fun a hf => ?_
        refine stCut 4 (fun a w => Has 181 a [(7, .pointer (some ⟨b_2, 0, none⟩)), (9, .pointer (some ⟨b_3, 0, none⟩)), (10, .pointer (some ⟨b_4, 0, none⟩)), (12, .int .i64 r_4.2.1), (14, .slice p_5 r_5.1.length c_5), (58, .int .i64 x), (19, .int .i64 r_17.1), (20, .int .i64 r_17.2), (87, .int .i64 r_17.2), (88, .bool (r_17.2 != 0)), (89, .bool (r_17.2 != 0)), (93, .bool ((r_17.2 != 0) || (decide (r_4.2.1 < r_17.1))))] ∧ Ctx G (.row p_11 c_11 (mine.map enc_shift_Turn) 91 2 :: .box b_3 [.slice tries_p tries.length tries_c, .int .i64 x_10, .int .i64 x_11] 151 :: .row p_1 c_1 (r_1.1.Rating.map enc_shift_Mark) 77 2 :: .row p_2 c_2 (r_1.1.Gaugings.map enc_shift_Gauging) 71 4 :: .row p_5 c_5 (r_5.1.map enc_shift_Turn) 91 2 :: .box b_4 [.slice wider_p wider.length wider_c, .int .i64 r_3.1, .int .i64 r_3.2] 151 :: .box b_2 [.slice p_1 r_1.1.Rating.length c_1, .slice p_2 r_1.1.Gaugings.length c_2] 25 :: Lf) w) ?_ ?_
        · cases hb : (r_17.2 != 0)
          · rw [hb] at hf
            refine stP hf rfl rfl rfl (pM rfl) fun a hf => ?_
            refine stP hf rfl rfl rfl (pM rfl) fun a hf => ?_
            refine stP hf rfl rfl rfl (pGt rfl rfl) fun a hf => ?_
            refine stP hf rfl rfl rfl (pPf rfl rfl) fun a hf => ?_
            exact cNil ⟨hf.keep ⟨rfl, rfl, rfl, rfl, rfl, rfl, rfl, rfl, rfl, rfl, rfl, rfl, trivial⟩, hc⟩
          · rw [hb] at hf
            refine stS hf rfl rfl rfl fun a hf => ?_
            refine stS hf rfl rfl rfl fun a hf => ?_
            refine stS hf rfl rfl rfl fun a hf => ?_
            refine stP hf rfl rfl rfl (pPt rfl rfl) fun a hf => ?_
            exact cNil ⟨hf.keep ⟨rfl, rfl, rfl, rfl, rfl, rfl, rfl, rfl, rfl, rfl, rfl, rfl, trivial⟩, hc⟩
        intro a w ⟨hf, hc⟩
        refine cNil ?_
        refine h43 _ _ ?_
        refine cCond (b := ((r_17.2 != 0) || (decide (r_4.2.1 < r_17.1)))) hf rfl (fun hb => ?_) (fun hb => ?_)
        · replace hF := condT hb hF
          clear hb
          refine wp_seq_k fun K44 h44 => ?_
          refine cReg ?_
          refine stP hf rfl rfl rfl (pA rfl) fun a hf => ?_
          refine cNil ?_
          refine h44 _ _ ?_
          refine wp_ret ?_
          refine xBlkR ?_
          refine xThenR ?_
          refine xThenR ?_
          have he := Option.some.inj hF
          rw [← he] at hfin11
          replace hF := ho11 _ hfin11
          refine xBlkR ?_
          refine xThenR ?_
          obtain rfl := hF
          replace hc := hc.drop k6
          replace hc := hc.drop k5
          replace hc := hc.drop k4
          replace hc := hc.drop k3
          replace hc := hc.drop k2
          replace hc := hc.drop k1
          replace hc := hc.drop k0
          exact fnOut1 (by simp) rfl Try.results9 hf hc (show look _ 6 = _ from rfl) ⟨rfl, hc⟩
        · replace hF := condF hb hF
          clear hb
          refine wp_skip ?_
          refine h36 _ _ ?_
          refine cReg ?_
          refine stP hf rfl rfl rfl (pAdd rfl rfl) fun a hf => ?_
          refine stP hf rfl rfl rfl (pM rfl) fun a hf => ?_
          refine cNil ?_
          replace hc := hc.drop k0
          replace hc := hc.pick k0
          replace hc := hc.pick k4
          replace hc := hc.pick k4
          replace hc := hc.pick k4
          replace hc := hc.pick k4
          exact hK11 (W (x + 1), x_10, x_11) _ _ (Option.some.inj hF).symm ⟨hf.keep ⟨rfl, rfl, rfl, rfl, rfl, rfl, trivial⟩, hc⟩
      have ho41 : ∀ r, x41 = .out r → r = st11 := by
        rintro r rfl
        exact Option.some.inj hF
      replace hc := hc.nilRow 91 2
      refine cLoop N (loopW (S := S41) (x := x41) ?_ N (([] : List shift_Turn), (r_16.1 == 0), 0, r_16.2.1, r_16.2.2) _ _ ⟨none, 0, hf.keep ⟨rfl, rfl, rfl, rfl, rfl, rfl, rfl, rfl, rfl, rfl, trivial⟩, hc⟩ hx41)
      clear hF hf hc
      rintro ⟨mine, up, x_9, x_10, x_11⟩ st41 a w KB41 ⟨p_11, c_11, hf, hc⟩ hF hfin41 hK41
      unfold law05_ShiftProved_b41 at hF
      refine wp_seq_k fun K45 h45 => ?_
      refine cReg ?_
      refine stP hf rfl rfl rfl (pLt rfl rfl) fun a hf => ?_
      refine cNil ?_
      refine h45 _ _ ?_
      refine wp_seq_k fun K46 h46 => ?_
      refine cCond (b := (decide (x_9 < ((r_1.1.Gaugings.length : Nat) : Int)))) hf rfl (fun hb => ?_) (fun hb => ?_)
      · replace hF := condT hb hF
        clear hb
        refine wp_skip ?_
        refine h46 _ _ ?_
        refine wp_seq_k fun K47 h47 => ?_
        have hj47 : ∀ (mine_1 : List shift_Turn) (up_1 : Bool) (x_12 : Int) (x_13 : Int) (p_12 : Option Addr) (c_12 : Nat) a w, Has 181 a [(7, .pointer (some ⟨b_2, 0, none⟩)), (9, .pointer (some ⟨b_3, 0, none⟩)), (10, .pointer (some ⟨b_4, 0, none⟩)), (12, .int .i64 r_4.2.1), (14, .slice p_5 r_5.1.length c_5), (16, .slice p_12 mine_1.length c_12), (17, .bool up_1), (58, .int .i64 x), (65, .int .i64 ((r_1.1.Gaugings.length : Nat) : Int)), (66, .int .i64 x_9)] → Ctx G (.box b_3 [.slice tries_p tries.length tries_c, .int .i64 x_12, .int .i64 x_13] 151 :: .row p_12 c_12 (mine_1.map enc_shift_Turn) 91 2 :: .row p_1 c_1 (r_1.1.Rating.map enc_shift_Mark) 77 2 :: .row p_2 c_2 (r_1.1.Gaugings.map enc_shift_Gauging) 71 4 :: .row p_5 c_5 (r_5.1.map enc_shift_Turn) 91 2 :: .box b_4 [.slice wider_p wider.length wider_c, .int .i64 r_3.1, .int .i64 r_3.2] 151 :: .box b_2 [.slice p_1 r_1.1.Rating.length c_1, .slice p_2 r_1.1.Gaugings.length c_2] 25 :: Lf) w → law05_ShiftProved_j47 N x_9 mine_1 up_1 x_12 x_13 = some st41 → K47 a w := by
          repeat (clear hF)
          repeat (clear hc)
          repeat (clear hf)
          intro mine_1 up_1 x_12 x_13 p_12 c_12 a w hf hc hF
          unfold law05_ShiftProved_j47 at hF
          refine h47 _ _ ?_
          refine cReg ?_
          refine stP hf rfl rfl rfl (pAdd rfl rfl) fun a hf => ?_
          refine stP hf rfl rfl rfl (pM rfl) fun a hf => ?_
          refine cNil ?_
          replace hc := hc.pick k0
          replace hc := hc.pick k1
          exact hK41 (mine_1, up_1, W (x_9 + 1), x_12, x_13) _ _ (Option.some.inj hF).symm ⟨p_12, c_12, hf.keep ⟨rfl, rfl, rfl, rfl, rfl, rfl, rfl, rfl, rfl, rfl, trivial⟩, hc⟩
        refine wp_block ?_
        refine wp_seq_k fun K48 h48 => ?_
        refine cReg ?_
        refine stP hf rfl rfl rfl (pM rfl) fun a hf => ?_
        refine stP hf rfl rfl rfl (pA rfl) fun a hf => ?_
        refine cNil ?_
        refine h48 _ _ ?_
        refine wp_seq_k fun K49 h49 => ?_
        refine cReg ?_
        refine stP hf rfl rfl rfl (pM rfl) fun a hf => ?_
        obtain ⟨r_18, hr_18, hF⟩ := bnd_some hF
        refine stC (vs := [.pointer (some ⟨b_3, 0, none⟩), .int .i64 3]) (caps := []) hf rfl rfl rfl en_38 rfl rfl rfl rfl (kit_Stream_Next_ok (⟨tries, x_10, x_11⟩ : kit_Stream) 3 h_tries (hc.pick k1) hr_18) ?_
        rintro _ w ⟨rfl, hc⟩
        refine ⟨_, rfl, fun a hf => ?_⟩
        refine stP hf rfl rfl rfl (pEq rfl rfl) fun a hf => ?_
        refine cNil ?_
        refine h49 _ _ ?_
        refine cCond (b := (r_18.1 == 0)) hf rfl (fun hb => ?_) (fun hb => ?_)
        · replace hF := condT hb hF
          clear hb
          refine wp_seq_k fun K50 h50 => ?_
          refine cReg ?_
          refine stP hf rfl rfl rfl (pM rfl) fun a hf => ?_
          refine stP hf rfl rfl rfl (pM rfl) fun a hf => ?_
          refine stP hf rfl rfl rfl (pM rfl) fun a hf => ?_
          refine stP hf rfl rfl rfl (pBuildS (cells := [.int .i64 x_9, .bool up]) bt_91 rfl rfl) fun a hf => ?_
          refine stBS (rows := ([(⟨x_9, up⟩ : shift_Turn)] : List shift_Turn).map enc_shift_Turn) (vs := [(0, .agg #[.int .i64 x_9, .bool up])]) hf hc rfl rfl sl_87 rfl ⟨rfl, rfl, rfl, trivial⟩ rfl rfl fun b_10 a w hf hc => ?_
          obtain ⟨un, hun, hF⟩ := bnd_some hF
          refine stApm (xs := mine) (ys := ([(⟨x_9, up⟩ : shift_Turn)] : List shift_Turn)) hf hc rfl rfl sl_87 rfl rfl rfl rfl rfl one_enc_shift_Turn (src_row hc m0) (fun _ _ => u2) (by simpa using room_spec hun) fun p_13 c_13 a w hf hc => ?_
          refine stP hf rfl rfl rfl (pA rfl) fun a hf => ?_
          refine cNil ?_
          refine h50 _ _ ?_
          refine cReg ?_
          refine stP hf rfl rfl rfl (pM rfl) fun a hf => ?_
          refine stP hf rfl rfl rfl (pNot rfl) fun a hf => ?_
          refine stP hf rfl rfl rfl (pA rfl) fun a hf => ?_
          refine cNil ?_
          replace hc := hc.drop k0
          exact hj47 (mine ++ [(⟨x_9, up⟩ : shift_Turn)]) (!up) r_18.2.1 r_18.2.2 p_13 c_13 _ _  (hf.keep ⟨rfl, rfl, rfl, rfl, rfl, rfl, rfl, rfl, rfl, rfl, trivial⟩) hc hF
        · replace hF := condF hb hF
          clear hb
          refine wp_skip ?_
          exact hj47 mine up r_18.2.1 r_18.2.2 p_11 c_11 _ _  (hf.keep ⟨rfl, rfl, rfl, rfl, rfl, rfl, rfl, rfl, rfl, rfl, trivial⟩) hc hF
      · replace hF := condF hb hF
        clear hb
        refine wp_exit ?_
        refine xThen ?_
        refine xThen ?_
        have he := Option.some.inj hF
        rw [← he] at hfin41
        refine cHit ?_
        exact hr41 _ _ _ hfin41 ⟨p_11, c_11, hf.keep ⟨rfl, rfl, rfl, rfl, rfl, rfl, rfl, rfl, rfl, rfl, trivial⟩, hc⟩
    · replace hF := condF hb hF
      clear hb
      refine wp_exit ?_
      refine xThen ?_
      refine xThen ?_
      have he := Option.some.inj hF
      rw [← he] at hfin11
      refine cHit ?_
      exact hr11 _ _ _ hfin11 ⟨hf.keep ⟨rfl, rfl, rfl, rfl, rfl, rfl, trivial⟩, hc⟩

end Go.Nilo
