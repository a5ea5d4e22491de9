/-
 What functions of the Go text compute, as plain functions, and that they do, part 5 of 5. Conditions: what each theorem names.
-/
import Derived.Test.YtepopogbmjfpeaaMe4
import Derived.Test.YtepopogbmjfpeaaProg
set_option linter.unusedVariables false
set_option linter.unusedSimpArgs false
set_option maxRecDepth 100000
set_option maxHeartbeats 4000000
namespace Go.Nilo
open Go.Proofs


def law05_ShiftMeasured_b25 (N : Nat) (by_ : Int) (stage : Int) (r_7 : api_Span × Int) (r_8 : api_Span × Int) (rating : List shift_Mark) (spans : List api_Span) (x_6 : Int) : Option (Step ((List api_Span) × Int) (Bool)) :=
 cond (decide (x_6 < (2 : Int)))
 (Option.bind (getI ([r_7.1,r_8.1] : List api_Span) x_6) fun e_5 =>
 Option.bind (law05_span N (max 0 e_5.Lo) (min e_5.Hi 1000000000)) fun r_10 =>
 Option.bind (shift_Passes N (⟨rating,([(⟨1,(W (stage)).tmod 60,r_10⟩ : shift_Gauging)] : List shift_Gauging)⟩ : shift_Record)) fun r_11 =>
 Option.bind (cond ((r_11.2 != 0) || (((r_11.1.length : Nat) : Int) != 1)) (some true) (Option.bind (getI r_11.1 0) fun e_6 =>
 some (decide ((W (((W (by_)).tmod 40) - 20)) < e_6.Lo)))) fun t_3 =>
 Option.bind (cond t_3 (some true) (Option.bind (getI r_11.1 0) fun e_7 =>
 some (decide (e_7.Hi < (W (((W (by_)).tmod 40) - 20)))))) fun t_4 =>
 cond t_4
 (some (.ret false))
 (Option.bind (getI r_11.1 0) fun e_8 =>
 Option.bind (room ((spans ++ [e_8])).length) fun un =>
 some (.cont ((spans ++ [e_8]),W (x_6 + 1)))))
 (some (.brk (spans,x_6)))
def law05_ShiftMeasured_j21 (N : Nat) (by_ : Int) (stage : Int) (r_7 : api_Span × Int) (r_8 : api_Span × Int) (rating : List shift_Mark) : Option (Bool) :=
 Option.bind (loopO (fun s25 => law05_ShiftMeasured_b25 N by_ stage r_7 r_8 rating s25.1 s25.2) N (([] : List api_Span),0)) fun x25 =>
 exK x25 (fun s25 => Option.bind (getI s25.1 1) fun e_1 =>
 Option.bind (getI s25.1 0) fun e_2 =>
 Option.bind (cond (decide (e_2.Lo ≤ e_1.Lo)) (Option.bind (getI s25.1 1) fun e_3 =>
 Option.bind (getI s25.1 0) fun e_4 =>
 some (decide (e_3.Hi ≤ e_4.Hi))) (some false)) fun t_1 =>
 Option.bind (cond t_1 (Option.bind (law05_awake N) fun r_9 =>
 some r_9) (some false)) fun t_2 =>
 some t_2) some
def law05_ShiftMeasured_j38 (N : Nat) (x_2 : Int) (x_7 : Int) (x_8 : Int) (x_9 : List gauge_Vertical) : Option (Step (Int × Int × Int × (List gauge_Vertical)) (Bool)) :=
 some (.cont (W (x_2 + 1),x_7,x_8,x_9))
def law05_ShiftMeasured_b12 (N : Nat) (better : List Int) (r_1 : law03_River × Int × Int) (r_5 : gauge_Gauging) (x_2 : Int) (x_3 : Int) (x_4 : Int) (x_5 : List gauge_Vertical) : Option (Step (Int × Int × Int × (List gauge_Vertical)) (Bool)) :=
 cond (decide (x_2 < ((r_5.Verticals.length : Nat) : Int)))
 (Option.bind (getI x_5 x_2) fun e_9 =>
 Option.bind (Option.bind (getI r_1.1.Depth x_2) fun e_10 =>
 cond (decide (e_9.Depth.Lo ≤ e_10))
 (cond (decide (e_10 ≤ e_9.Depth.Hi))
 (Option.bind (kit_Stream_Next N (⟨better,x_3,x_4⟩ : kit_Stream) 2) fun r_13 =>
 some ((r_13.1 == 0),r_13.2.1,r_13.2.2))
 (some (false,x_3,x_4)))
 (some (false,x_3,x_4))) fun rg =>
 cond rg.1
 (Option.bind (getI r_1.1.Depth x_2) fun e_11 =>
 Option.bind (getI r_1.1.Depth x_2) fun e_12 =>
 Option.bind (law05_span N e_11 e_12) fun r_14 =>
 law05_ShiftMeasured_j38 N x_2 rg.2.1 rg.2.2 (x_5.set x_2.toNat (⟨e_9.At,r_14,e_9.Speed⟩ : gauge_Vertical)))
 (law05_ShiftMeasured_j38 N x_2 rg.2.1 rg.2.2 x_5))
 (some (.brk (x_2,x_3,x_4,x_5)))
def law05_ShiftMeasured_b6 (N : Nat) (r_1 : law03_River × Int × Int) (x : Int) (x_1 : List Int) : Option (Step (Int × (List Int)) (Bool)) :=
 cond (decide (x < ((r_1.1.Speeds.length : Nat) : Int)))
 (Option.bind (getI x_1 x) fun e_13 =>
 Option.bind (getI x_1 x) fun e_14 =>
 some (.cont (W (x + 1),(x_1.set x.toNat (max 0 e_13)))))
 (some (.brk (x,x_1)))
def law05_ShiftMeasured (N : Nat) (numbers : List Int) (errors : List Int) (better : List Int) (by_ : Int) (stage : Int) : Option (Bool) :=
 Option.bind (kit_New N numbers) fun r =>
 Option.bind (law03_Section N (⟨numbers,r.1,r.2⟩ : kit_Stream) 6) fun r_1 =>
 Option.bind (kit_New N errors) fun r_2 =>
 Option.bind (loopO (fun s6 => law05_ShiftMeasured_b6 N r_1 s6.1 s6.2) N (0,r_1.1.Speeds)) fun x6 =>
 exK x6 (fun s6 => Option.bind (law03_Gauged N (⟨errors,r_2.1,r_2.2⟩ : kit_Stream) (⟨r_1.1.Left,r_1.1.Right,r_1.1.At,r_1.1.Depth,s6.2⟩ : law03_River)) fun r_3 =>
 Option.bind (kit_New N better) fun r_4 =>
 Option.bind (law03_CopyGauging N r_3.1) fun r_5 =>
 Option.bind (loopO (fun s12 => law05_ShiftMeasured_b12 N better r_1 r_5 s12.1 s12.2.1 s12.2.2.1 s12.2.2.2) N (0,r_4.1,r_4.2,r_5.Verticals)) fun x12 =>
 exK x12 (fun s12 => Option.bind (gauge_Real N r_3.1 r_1.1.Depth s6.2) fun r_6 =>
 Option.bind (gauge_Flow N r_3.1) fun r_7 =>
 Option.bind (gauge_Flow N (⟨r_5.Left,r_5.Right,s12.2.2.2⟩ : gauge_Gauging)) fun r_8 =>
 cond ((((((r_6.2 != 0) || (r_7.2 != 0)) || (r_8.2 != 0)) || (decide (r_6.1 < 0))) || (decide (r_7.1.Hi < r_7.1.Lo))) || (decide (r_8.1.Hi < r_8.1.Lo)))
 (some false)
 (cond (decide (0 < r_6.1))
 (Option.bind (slices_Insert_Lshift_Mark_shift_Mark N ([(⟨W (((W (stage)).tmod 60) - (W (((W (by_)).tmod 40) - 20))),r_6.1⟩ : shift_Mark),(⟨W ((W (((W (stage)).tmod 60) - (W (((W (by_)).tmod 40) - 20)))) + 50),W (r_6.1 + 100000)⟩ : shift_Mark)] : List shift_Mark) 0 ([(⟨W ((W (((W (stage)).tmod 60) - (W (((W (by_)).tmod 40) - 20)))) - 50),W (r_6.1 - (min r_6.1 100000))⟩ : shift_Mark)] : List shift_Mark)) fun r_12 =>
 law05_ShiftMeasured_j21 N by_ stage r_7 r_8 r_12)
 (law05_ShiftMeasured_j21 N by_ stage r_7 r_8 ([(⟨W (((W (stage)).tmod 60) - (W (((W (by_)).tmod 40) - 20))),r_6.1⟩ : shift_Mark),(⟨W ((W (((W (stage)).tmod 60) - (W (((W (by_)).tmod 40) - 20)))) + 50),W (r_6.1 + 100000)⟩ : shift_Mark)] : List shift_Mark)))) some) some
theorem law05_ShiftMeasured_ok {N : Nat} {G : Pers} {Lf : List Ent} {w : World} (numbers : List Int) (errors : List Int) (better : List Int) (by_ : Int) (stage : Int) {numbers_p : Option Addr} {numbers_c : Nat} {errors_p : Option Addr} {errors_c : Nat} {better_p : Option Addr} {better_c : Nat} (h_numbers : Rd G 1 numbers_p numbers_c (numbers.map encI_u8)) (h_errors : Rd G 1 errors_p errors_c (errors.map encI_u8)) (h_better : Rd G 1 better_p better_c (better.map encI_u8)) (hc : Ctx G (Lf) w) {res : Bool} (hF : law05_ShiftMeasured N numbers errors better by_ stage = some res) : Calls Try.prog 10 #[.slice numbers_p numbers.length numbers_c,.slice errors_p errors.length errors_c,.slice better_p better.length better_c,.int .u8 by_,.int .u8 stage] w (fun e w => e = .returned (.bool res) ∧ Ctx G (Lf) w) := by
 unfold law05_ShiftMeasured at hF
 refine fnIn (args := [.slice numbers_p numbers.length numbers_c,.slice errors_p errors.length errors_c,.slice better_p better.length better_c,.int .u8 by_,.int .u8 stage]) Try.func10 rfl Try.ntmps10 rfl fun a hf => wp_seq_k fun K1 h1 => cReg ?_
 refine stP hf rfl rfl rfl (pA rfl) fun a hf => cNil ?_
 refine h1 _ _ ?_
 refine wp_seq_k fun K2 h2 => cReg ?_
 refine stP hf rfl rfl rfl (pM rfl) fun a hf => ?_
 obtain ⟨r,hr,hF⟩ := bnd_some hF
 refine stC (vs := [.slice numbers_p numbers.length numbers_c]) (caps := []) hf rfl rfl rfl en_32 rfl rfl rfl rfl (kit_New_ok numbers h_numbers hc hr) ?_
 rintro _ w ⟨b_1,rfl,hc⟩
 refine ⟨_,rfl,fun a hf => ?_⟩
 obtain ⟨r_1,hr_1,hF⟩ := bnd_some hF
 refine stC (vs := [.pointer (some ⟨b_1,0,none⟩),.int .i64 6]) (caps := []) hf rfl rfl rfl en_48 rfl rfl rfl rfl (law03_Section_ok (⟨numbers,r.1,r.2⟩ : kit_Stream) 6 h_numbers (hc.pick k0) hr_1) ?_
 rintro _ w ⟨p_1,c_1,p_2,c_2,p_3,c_3,rfl,hc⟩
 refine ⟨_,rfl,fun a hf => ?_⟩
 refine stAl (cs := [.int .i64 0,.int .i64 0,.slice none 0 0,.slice none 0 0,.slice none 0 0]) hf hc rfl rfl zr_98 rfl fun b_2 a w hf hc => stSt (vs := [.int .i64 r_1.1.Left,.int .i64 r_1.1.Right,.slice p_1 r_1.1.At.length c_1,.slice p_2 r_1.1.Depth.length c_2,.slice p_3 r_1.1.Speeds.length c_3]) hf hc rfl rfl rfl rfl sz_98 rfl rfl u0 fun w hc => cNil ?_
 refine h2 _ _ ?_
 refine wp_seq_k fun K3 h3 => cReg ?_
 refine stP hf rfl rfl rfl (pM rfl) fun a hf => ?_
 obtain ⟨r_2,hr_2,hF⟩ := bnd_some hF
 refine stC (vs := [.slice errors_p errors.length errors_c]) (caps := []) hf rfl rfl rfl en_32 rfl rfl rfl rfl (kit_New_ok errors h_errors hc hr_2) ?_
 rintro _ w ⟨b_3,rfl,hc⟩
 refine ⟨_,rfl,fun a hf => ?_⟩
 refine stP hf rfl rfl rfl (pA rfl) fun a hf => cNil ?_
 refine h3 _ _ ?_
 refine wp_seq_k fun K4 h4 => wp_seq_k fun K5 h5 => cReg ?_
 refine stP hf rfl rfl rfl (pFA fa_98_4 rfl) fun a hf => stE hf hc rfl rfl rfl (eLd1 sc_61 rfl (cell_box m1 rfl)) fun a w hf hc => stP hf rfl rfl rfl (pLenS Try.underlying61 rfl) fun a hf => stP hf rfl rfl rfl (pM rfl) fun a hf => cNil ?_
 refine h5 _ _ ?_
 refine wp_block ?_
 obtain ⟨x6,hx6,hF⟩ := bnd_some hF
 let S6 : (Int × (List Int)) → Act → World → Prop := (fun (zz : Int × (List Int)) a w => ∃ (p_4 : Option Addr) (c_4 : Nat),Has 274 a [(2,.slice better_p better.length better_c),(3,.int .u8 by_),(4,.int .u8 stage),(11,.pointer (some ⟨b_2,0,none⟩)),(12,.pointer (some ⟨b_3,0,none⟩)),(40,.int .i64 ((r_1.1.Speeds.length : Nat) : Int)),(41,.int .i64 zz.1)] ∧ Ctx G (.box b_3 [.slice errors_p errors.length errors_c,.int .i64 r_2.1,.int .i64 r_2.2] 151::.box b_2 [.int .i64 r_1.1.Left,.int .i64 r_1.1.Right,.slice p_1 r_1.1.At.length c_1,.slice p_2 r_1.1.Depth.length c_2,.slice p_4 zz.2.length c_4] 98::.row p_1 c_1 (r_1.1.At.map encI_i64) 3 1::.row p_2 c_2 (r_1.1.Depth.map encI_i64) 3 1::.row p_4 c_4 (zz.2.map encI_i64) 3 1::Lf) w)
 have hr6 : ∀ (zz : Int × (List Int)) a w,x6 = .go zz → S6 zz a w → K4 a w := by
  rintro ⟨x,x_1⟩ a w rfl ⟨p_4,c_4,hf,hc⟩
  replace hF := exK_go hF
  refine h4 _ _ ?_
  refine wp_seq_k fun K7 h7 => cReg ?_
  refine stP hf rfl rfl rfl (pM rfl) fun a hf => stE hf hc rfl rfl rfl (eLdN (vs := [.int .i64 r_1.1.Left,.int .i64 r_1.1.Right,.slice p_1 r_1.1.At.length c_1,.slice p_2 r_1.1.Depth.length c_2,.slice p_4 x_1.length c_4]) ag_98 rfl rfl (cells_box (n := 5) m1 rfl)) fun a w hf hc => ?_
  obtain ⟨r_3,hr_3,hF⟩ := bnd_some hF
  obtain ⟨G1,hle1,hrd1,hc,hth1⟩ := lend hc k2
  obtain ⟨G2,hle2,hrd2,hc,hth2⟩ := lend hc k2
  obtain ⟨G3,hle3,hrd3,hc,hth3⟩ := lend hc k2
  refine stC (vs := [.pointer (some ⟨b_3,0,none⟩),.agg #[.int .i64 r_1.1.Left,.int .i64 r_1.1.Right,.slice p_1 r_1.1.At.length c_1,.slice p_2 r_1.1.Depth.length c_2,.slice p_4 x_1.length c_4]]) (caps := []) hf rfl rfl rfl en_49 rfl rfl rfl rfl (law03_Gauged_ok (⟨errors,r_2.1,r_2.2⟩ : kit_Stream) (⟨r_1.1.Left,r_1.1.Right,r_1.1.At,r_1.1.Depth,x_1⟩ : law03_River) (((h_errors.mono hle1).mono hle2).mono hle3) ((hrd1.mono hle2).mono hle3) (hrd2.mono hle3) hrd3 (hc.pick k0) hr_3) ?_
  rintro _ w ⟨p_5,c_5,rfl,hc⟩
  refine ⟨_,rfl,fun a hf => ?_⟩
  replace hc := hth3 _ _ hc
  replace hc := hth2 _ _ hc
  replace hc := hth1 _ _ hc
  refine stAl (cs := [.int .i64 0,.int .i64 0,.slice none 0 0]) hf hc rfl rfl zr_102 rfl fun b_4 a w hf hc => stSt (vs := [.int .i64 r_3.1.Left,.int .i64 r_3.1.Right,.slice p_5 r_3.1.Verticals.length c_5]) hf hc rfl rfl rfl rfl sz_102 rfl rfl u0 fun w hc => cNil ?_
  refine h7 _ _ ?_
  refine wp_seq_k fun K8 h8 => cReg ?_
  refine stP hf rfl rfl rfl (pM rfl) fun a hf => ?_
  obtain ⟨r_4,hr_4,hF⟩ := bnd_some hF
  refine stC (vs := [.slice better_p better.length better_c]) (caps := []) hf rfl rfl rfl en_32 rfl rfl rfl rfl (kit_New_ok better h_better hc hr_4) ?_
  rintro _ w ⟨b_5,rfl,hc⟩
  refine ⟨_,rfl,fun a hf => ?_⟩
  refine stP hf rfl rfl rfl (pA rfl) fun a hf => cNil ?_
  refine h8 _ _ ?_
  refine wp_seq_k fun K9 h9 => cReg ?_
  refine stE hf hc rfl rfl rfl (eLdN (vs := [.int .i64 r_3.1.Left,.int .i64 r_3.1.Right,.slice p_5 r_3.1.Verticals.length c_5]) ag_102 rfl rfl (cells_box (n := 3) m1 rfl)) fun a w hf hc => ?_
  obtain ⟨r_5,hr_5,hF⟩ := bnd_some hF
  obtain ⟨G1,hle1,hrd1,hc,hth1⟩ := lend hc k5
  refine stC (vs := [.agg #[.int .i64 r_3.1.Left,.int .i64 r_3.1.Right,.slice p_5 r_3.1.Verticals.length c_5]]) (caps := []) hf rfl rfl rfl en_50 rfl rfl rfl rfl (law03_CopyGauging_ok r_3.1 hrd1 hc hr_5) ?_
  rintro _ w ⟨p_6,c_6,rfl,hc⟩
  refine ⟨_,rfl,fun a hf => ?_⟩
  replace hc := hth1 _ _ hc
  refine stAl (cs := [.int .i64 0,.int .i64 0,.slice none 0 0]) hf hc rfl rfl zr_102 rfl fun b_6 a w hf hc => stSt (vs := [.int .i64 r_5.Left,.int .i64 r_5.Right,.slice p_6 r_5.Verticals.length c_6]) hf hc rfl rfl rfl rfl sz_102 rfl rfl u0 fun w hc => cNil ?_
  refine h9 _ _ ?_
  refine wp_seq_k fun K10 h10 => wp_seq_k fun K11 h11 => cReg ?_
  refine stP hf rfl rfl rfl (pFA fa_102_2 rfl) fun a hf => stE hf hc rfl rfl rfl (eLd1 sc_100 rfl (cell_box m0 rfl)) fun a w hf hc => stP hf rfl rfl rfl (pLenS Try.underlying100 rfl) fun a hf => stP hf rfl rfl rfl (pM rfl) fun a hf => cNil ?_
  refine h11 _ _ ?_
  refine wp_block ?_
  obtain ⟨x12,hx12,hF⟩ := bnd_some hF
  let S12 : (Int × Int × Int × (List gauge_Vertical)) → Act → World → Prop := (fun (zz : Int × Int × Int × (List gauge_Vertical)) a w => ∃ (p_7 : Option Addr) (c_7 : Nat) (p_8 : Option Addr) (c_8 : Nat),Has 274 a [(3,.int .u8 by_),(4,.int .u8 stage),(11,.pointer (some ⟨b_2,0,none⟩)),(14,.pointer (some ⟨b_4,0,none⟩)),(15,.pointer (some ⟨b_5,0,none⟩)),(16,.pointer (some ⟨b_6,0,none⟩)),(64,.int .i64 ((r_5.Verticals.length : Nat) : Int)),(65,.int .i64 zz.1)] ∧ Ctx G (.box b_6 [.int .i64 r_5.Left,.int .i64 r_5.Right,.slice p_8 zz.2.2.2.length c_8] 102::.row p_5 c_5 (r_3.1.Verticals.map enc_gauge_Vertical) 107 5::.row p_8 c_8 (zz.2.2.2.map enc_gauge_Vertical) 107 5::.box b_5 [.slice better_p better.length better_c,.int .i64 zz.2.1,.int .i64 zz.2.2.1] 151::.box b_4 [.int .i64 r_3.1.Left,.int .i64 r_3.1.Right,.slice p_5 r_3.1.Verticals.length c_5] 102::.row p_1 c_1 (r_1.1.At.map encI_i64) 3 1::.row p_7 c_7 (r_1.1.Depth.map encI_i64) 3 1::.row p_4 c_4 (x_1.map encI_i64) 3 1::.box b_2 [.int .i64 r_1.1.Left,.int .i64 r_1.1.Right,.slice p_1 r_1.1.At.length c_1,.slice p_7 r_1.1.Depth.length c_7,.slice p_4 x_1.length c_4] 98::Lf) w)
  have hr12 : ∀ (zz : Int × Int × Int × (List gauge_Vertical)) a w,x12 = .go zz → S12 zz a w → K10 a w := by
   rintro ⟨x_2,x_3,x_4,x_5⟩ a w rfl ⟨p_7,c_7,p_8,c_8,hf,hc⟩
   replace hF := exK_go hF
   refine h10 _ _ ?_
   refine wp_seq_k fun K13 h13 => cReg ?_
   refine stE hf hc rfl rfl rfl (eLdN (vs := [.int .i64 r_3.1.Left,.int .i64 r_3.1.Right,.slice p_5 r_3.1.Verticals.length c_5]) ag_102 rfl rfl (cells_box (n := 3) m4 rfl)) fun a w hf hc => stP hf rfl rfl rfl (pFA fa_98_3 rfl) fun a hf => stE hf hc rfl rfl rfl (eLd1 sc_61 rfl (cell_box m8 rfl)) fun a w hf hc => stP hf rfl rfl rfl (pFA fa_98_4 rfl) fun a hf => stE hf hc rfl rfl rfl (eLd1 sc_61 rfl (cell_box m8 rfl)) fun a w hf hc => ?_
   obtain ⟨r_6,hr_6,hF⟩ := bnd_some hF
   refine stE hf hc rfl rfl rfl (eC (v := .tuple #[.int .i64 r_6.1,.int .i64 r_6.2]) (vs := [.agg #[.int .i64 r_3.1.Left,.int .i64 r_3.1.Right,.slice p_5 r_3.1.Verticals.length c_5],.slice p_7 r_1.1.Depth.length c_7,.slice p_4 x_1.length c_4]) (caps := []) en_51 rfl rfl rfl rfl (fun w hc => by obtain ⟨G1,hle1,hrd1,hc,hth1⟩ := lend hc k1; obtain ⟨G2,hle2,hrd2,hc,hth2⟩ := lend hc k5; obtain ⟨G3,hle3,hrd3,hc,hth3⟩ := lend hc k5; exact (gauge_Real_ok r_3.1 r_1.1.Depth x_1 ((hrd1.mono hle2).mono hle3) (hrd2.mono hle3) hrd3 hc hr_6).mono fun e w h => ⟨h.1,((hth1 _ _ ((hth2 _ _ ((hth3 _ _ h.2).unpick k5)).unpick k5)).unpick k1)⟩)) fun a w hf hc => stP hf rfl rfl rfl (pM rfl) fun a hf => stP hf rfl rfl rfl (pX rfl rfl) fun a hf => stP hf rfl rfl rfl (pX rfl rfl) fun a hf => stP hf rfl rfl rfl (pA rfl) fun a hf => stP hf rfl rfl rfl (pA rfl) fun a hf => cNil ?_
   refine h13 _ _ ?_
   refine wp_seq_k fun K14 h14 => cReg ?_
   refine stE hf hc rfl rfl rfl (eLdN (vs := [.int .i64 r_3.1.Left,.int .i64 r_3.1.Right,.slice p_5 r_3.1.Verticals.length c_5]) ag_102 rfl rfl (cells_box (n := 3) m4 rfl)) fun a w hf hc => ?_
   obtain ⟨r_7,hr_7,hF⟩ := bnd_some hF
   refine stE hf hc rfl rfl rfl (eC (v := .tuple #[.agg #[.int .i64 r_7.1.Lo,.int .i64 r_7.1.Hi],.int .i64 r_7.2]) (vs := [.agg #[.int .i64 r_3.1.Left,.int .i64 r_3.1.Right,.slice p_5 r_3.1.Verticals.length c_5]]) (caps := []) en_52 rfl rfl rfl rfl (fun w hc => by obtain ⟨G1,hle1,hrd1,hc,hth1⟩ := lend hc k1; exact (gauge_Flow_ok r_3.1 hrd1 hc hr_7).mono fun e w h => ⟨h.1,((hth1 _ _ h.2).unpick k1)⟩)) fun a w hf hc => stP hf rfl rfl rfl (pM rfl) fun a hf => stP hf rfl rfl rfl (pX rfl rfl) fun a hf => stP hf rfl rfl rfl (pX rfl rfl) fun a hf => stAl (cs := [.int .i64 0,.int .i64 0]) hf hc rfl rfl zr_50 rfl fun b_7 a w hf hc => stSt (vs := [.int .i64 r_7.1.Lo,.int .i64 r_7.1.Hi]) hf hc rfl rfl rfl rfl sz_50 rfl rfl u0 fun w hc => stP hf rfl rfl rfl (pA rfl) fun a hf => cNil ?_
   refine h14 _ _ ?_
   refine wp_seq_k fun K15 h15 => cReg ?_
   refine stE hf hc rfl rfl rfl (eLdN (vs := [.int .i64 r_5.Left,.int .i64 r_5.Right,.slice p_8 x_5.length c_8]) ag_102 rfl rfl (cells_box (n := 3) m1 rfl)) fun a w hf hc => ?_
   obtain ⟨r_8,hr_8,hF⟩ := bnd_some hF
   refine stE hf hc rfl rfl rfl (eC (v := .tuple #[.agg #[.int .i64 r_8.1.Lo,.int .i64 r_8.1.Hi],.int .i64 r_8.2]) (vs := [.agg #[.int .i64 r_5.Left,.int .i64 r_5.Right,.slice p_8 x_5.length c_8]]) (caps := []) en_52 rfl rfl rfl rfl (fun w hc => by obtain ⟨G1,hle1,hrd1,hc,hth1⟩ := lend hc k3; exact (gauge_Flow_ok (⟨r_5.Left,r_5.Right,x_5⟩ : gauge_Gauging) hrd1 hc hr_8).mono fun e w h => ⟨h.1,((hth1 _ _ h.2).unpick k3)⟩)) fun a w hf hc => stP hf rfl rfl rfl (pM rfl) fun a hf => stP hf rfl rfl rfl (pX rfl rfl) fun a hf => stP hf rfl rfl rfl (pX rfl rfl) fun a hf => stAl (cs := [.int .i64 0,.int .i64 0]) hf hc rfl rfl zr_50 rfl fun b_8 a w hf hc => stSt (vs := [.int .i64 r_8.1.Lo,.int .i64 r_8.1.Hi]) hf hc rfl rfl rfl rfl sz_50 rfl rfl u0 fun w hc => stP hf rfl rfl rfl (pA rfl) fun a hf => cNil ?_
   refine h15 _ _ ?_
   refine wp_seq_k fun K16 h16 => wp_seq_k fun K17 h17 => cReg ?_
   refine stP hf rfl rfl rfl (pM rfl) fun a hf => stP hf rfl rfl rfl (pNe rfl rfl) fun a hf => stP hf rfl rfl rfl (pM rfl) fun a hf => stCut 3 (fun a w => Has 274 a [(3,.int .u8 by_),(4,.int .u8 stage),(19,.int .i64 r_6.1),(20,.int .i64 r_6.2),(21,.pointer (some ⟨b_7,0,none⟩)),(22,.int .i64 r_7.2),(23,.pointer (some ⟨b_8,0,none⟩)),(24,.int .i64 r_8.2),(135,.int .i64 r_6.2),(136,.bool (r_6.2 != 0)),(137,.bool (r_6.2 != 0)),(140,.bool ((r_6.2 != 0) || (r_7.2 != 0)))] ∧ Ctx G (.box b_8 [.int .i64 r_8.1.Lo,.int .i64 r_8.1.Hi] 50::.box b_7 [.int .i64 r_7.1.Lo,.int .i64 r_7.1.Hi] 50::.box b_6 [.int .i64 r_5.Left,.int .i64 r_5.Right,.slice p_8 x_5.length c_8] 102::.row p_5 c_5 (r_3.1.Verticals.map enc_gauge_Vertical) 107 5::.row p_8 c_8 (x_5.map enc_gauge_Vertical) 107 5::.box b_5 [.slice better_p better.length better_c,.int .i64 x_3,.int .i64 x_4] 151::.box b_4 [.int .i64 r_3.1.Left,.int .i64 r_3.1.Right,.slice p_5 r_3.1.Verticals.length c_5] 102::.row p_1 c_1 (r_1.1.At.map encI_i64) 3 1::.row p_7 c_7 (r_1.1.Depth.map encI_i64) 3 1::.row p_4 c_4 (x_1.map encI_i64) 3 1::.box b_2 [.int .i64 r_1.1.Left,.int .i64 r_1.1.Right,.slice p_1 r_1.1.At.length c_1,.slice p_7 r_1.1.Depth.length c_7,.slice p_4 x_1.length c_4] 98::Lf) w) ?_ ?_
   ·cases hb : (r_6.2 != 0)
    ·rw [hb] at hf
     refine stP hf rfl rfl rfl (pM rfl) fun a hf => stP hf rfl rfl rfl (pNe rfl rfl) fun a hf => stP hf rfl rfl rfl (pPf rfl rfl) fun a hf => cNil ⟨hf.keep ⟨rfl,rfl,rfl,rfl,rfl,rfl,rfl,rfl,rfl,rfl,rfl,rfl,trivial⟩,hc⟩
    ·rw [hb] at hf
     refine stS hf rfl rfl rfl fun a hf => stS hf rfl rfl rfl fun a hf => stP hf rfl rfl rfl (pPt rfl rfl) fun a hf => cNil ⟨hf.keep ⟨rfl,rfl,rfl,rfl,rfl,rfl,rfl,rfl,rfl,rfl,rfl,rfl,trivial⟩,hc⟩
   intro a w ⟨hf,hc⟩
   refine stP hf rfl rfl rfl (pM rfl) fun a hf => stCut 3 (fun a w => Has 274 a [(3,.int .u8 by_),(4,.int .u8 stage),(19,.int .i64 r_6.1),(20,.int .i64 r_6.2),(21,.pointer (some ⟨b_7,0,none⟩)),(22,.int .i64 r_7.2),(23,.pointer (some ⟨b_8,0,none⟩)),(24,.int .i64 r_8.2),(135,.int .i64 r_6.2),(136,.bool (r_6.2 != 0)),(137,.bool (r_6.2 != 0)),(140,.bool ((r_6.2 != 0) || (r_7.2 != 0))),(141,.bool ((r_6.2 != 0) || (r_7.2 != 0))),(144,.bool (((r_6.2 != 0) || (r_7.2 != 0)) || (r_8.2 != 0)))] ∧ Ctx G (.box b_8 [.int .i64 r_8.1.Lo,.int .i64 r_8.1.Hi] 50::.box b_7 [.int .i64 r_7.1.Lo,.int .i64 r_7.1.Hi] 50::.box b_6 [.int .i64 r_5.Left,.int .i64 r_5.Right,.slice p_8 x_5.length c_8] 102::.row p_5 c_5 (r_3.1.Verticals.map enc_gauge_Vertical) 107 5::.row p_8 c_8 (x_5.map enc_gauge_Vertical) 107 5::.box b_5 [.slice better_p better.length better_c,.int .i64 x_3,.int .i64 x_4] 151::.box b_4 [.int .i64 r_3.1.Left,.int .i64 r_3.1.Right,.slice p_5 r_3.1.Verticals.length c_5] 102::.row p_1 c_1 (r_1.1.At.map encI_i64) 3 1::.row p_7 c_7 (r_1.1.Depth.map encI_i64) 3 1::.row p_4 c_4 (x_1.map encI_i64) 3 1::.box b_2 [.int .i64 r_1.1.Left,.int .i64 r_1.1.Right,.slice p_1 r_1.1.At.length c_1,.slice p_7 r_1.1.Depth.length c_7,.slice p_4 x_1.length c_4] 98::Lf) w) ?_ ?_
   ·cases hb : ((r_6.2 != 0) || (r_7.2 != 0))
    ·rw [hb] at hf
     refine stP hf rfl rfl rfl (pM rfl) fun a hf => stP hf rfl rfl rfl (pNe rfl rfl) fun a hf => stP hf rfl rfl rfl (pPf rfl rfl) fun a hf => cNil ⟨hf.keep ⟨rfl,rfl,rfl,rfl,rfl,rfl,rfl,rfl,rfl,rfl,rfl,rfl,rfl,rfl,trivial⟩,hc⟩
    ·rw [hb] at hf
     refine stS hf rfl rfl rfl fun a hf => stS hf rfl rfl rfl fun a hf => stP hf rfl rfl rfl (pPt rfl rfl) fun a hf => cNil ⟨hf.keep ⟨rfl,rfl,rfl,rfl,rfl,rfl,rfl,rfl,rfl,rfl,rfl,rfl,rfl,rfl,trivial⟩,hc⟩
   intro a w ⟨hf,hc⟩
   refine stP hf rfl rfl rfl (pM rfl) fun a hf => stCut 3 (fun a w => Has 274 a [(3,.int .u8 by_),(4,.int .u8 stage),(19,.int .i64 r_6.1),(20,.int .i64 r_6.2),(21,.pointer (some ⟨b_7,0,none⟩)),(22,.int .i64 r_7.2),(23,.pointer (some ⟨b_8,0,none⟩)),(24,.int .i64 r_8.2),(135,.int .i64 r_6.2),(136,.bool (r_6.2 != 0)),(137,.bool (r_6.2 != 0)),(140,.bool ((r_6.2 != 0) || (r_7.2 != 0))),(141,.bool ((r_6.2 != 0) || (r_7.2 != 0))),(144,.bool (((r_6.2 != 0) || (r_7.2 != 0)) || (r_8.2 != 0))),(145,.bool (((r_6.2 != 0) || (r_7.2 != 0)) || (r_8.2 != 0))),(148,.bool ((((r_6.2 != 0) || (r_7.2 != 0)) || (r_8.2 != 0)) || (decide (r_6.1 < 0))))] ∧ Ctx G (.box b_8 [.int .i64 r_8.1.Lo,.int .i64 r_8.1.Hi] 50::.box b_7 [.int .i64 r_7.1.Lo,.int .i64 r_7.1.Hi] 50::.box b_6 [.int .i64 r_5.Left,.int .i64 r_5.Right,.slice p_8 x_5.length c_8] 102::.row p_5 c_5 (r_3.1.Verticals.map enc_gauge_Vertical) 107 5::.row p_8 c_8 (x_5.map enc_gauge_Vertical) 107 5::.box b_5 [.slice better_p better.length better_c,.int .i64 x_3,.int .i64 x_4] 151::.box b_4 [.int .i64 r_3.1.Left,.int .i64 r_3.1.Right,.slice p_5 r_3.1.Verticals.length c_5] 102::.row p_1 c_1 (r_1.1.At.map encI_i64) 3 1::.row p_7 c_7 (r_1.1.Depth.map encI_i64) 3 1::.row p_4 c_4 (x_1.map encI_i64) 3 1::.box b_2 [.int .i64 r_1.1.Left,.int .i64 r_1.1.Right,.slice p_1 r_1.1.At.length c_1,.slice p_7 r_1.1.Depth.length c_7,.slice p_4 x_1.length c_4] 98::Lf) w) ?_ ?_
   ·cases hb : (((r_6.2 != 0) || (r_7.2 != 0)) || (r_8.2 != 0))
    ·rw [hb] at hf
     refine stP hf rfl rfl rfl (pM rfl) fun a hf => stP hf rfl rfl rfl (pLt rfl rfl) fun a hf => stP hf rfl rfl rfl (pPf rfl rfl) fun a hf => cNil ⟨hf.keep ⟨rfl,rfl,rfl,rfl,rfl,rfl,rfl,rfl,rfl,rfl,rfl,rfl,rfl,rfl,rfl,rfl,trivial⟩,hc⟩
    ·rw [hb] at hf
     refine stS hf rfl rfl rfl fun a hf => stS hf rfl rfl rfl fun a hf => stP hf rfl rfl rfl (pPt rfl rfl) fun a hf => cNil ⟨hf.keep ⟨rfl,rfl,rfl,rfl,rfl,rfl,rfl,rfl,rfl,rfl,rfl,rfl,rfl,rfl,rfl,rfl,trivial⟩,hc⟩
   intro a w ⟨hf,hc⟩
   refine stP hf rfl rfl rfl (pM rfl) fun a hf => stCut 6 (fun a w => Has 274 a [(3,.int .u8 by_),(4,.int .u8 stage),(19,.int .i64 r_6.1),(20,.int .i64 r_6.2),(21,.pointer (some ⟨b_7,0,none⟩)),(22,.int .i64 r_7.2),(23,.pointer (some ⟨b_8,0,none⟩)),(24,.int .i64 r_8.2),(135,.int .i64 r_6.2),(136,.bool (r_6.2 != 0)),(137,.bool (r_6.2 != 0)),(140,.bool ((r_6.2 != 0) || (r_7.2 != 0))),(141,.bool ((r_6.2 != 0) || (r_7.2 != 0))),(144,.bool (((r_6.2 != 0) || (r_7.2 != 0)) || (r_8.2 != 0))),(145,.bool (((r_6.2 != 0) || (r_7.2 != 0)) || (r_8.2 != 0))),(148,.bool ((((r_6.2 != 0) || (r_7.2 != 0)) || (r_8.2 != 0)) || (decide (r_6.1 < 0)))),(149,.bool ((((r_6.2 != 0) || (r_7.2 != 0)) || (r_8.2 != 0)) || (decide (r_6.1 < 0)))),(155,.bool (((((r_6.2 != 0) || (r_7.2 != 0)) || (r_8.2 != 0)) || (decide (r_6.1 < 0))) || (decide (r_7.1.Hi < r_7.1.Lo))))] ∧ Ctx G (.box b_8 [.int .i64 r_8.1.Lo,.int .i64 r_8.1.Hi] 50::.box b_7 [.int .i64 r_7.1.Lo,.int .i64 r_7.1.Hi] 50::.box b_6 [.int .i64 r_5.Left,.int .i64 r_5.Right,.slice p_8 x_5.length c_8] 102::.row p_5 c_5 (r_3.1.Verticals.map enc_gauge_Vertical) 107 5::.row p_8 c_8 (x_5.map enc_gauge_Vertical) 107 5::.box b_5 [.slice better_p better.length better_c,.int .i64 x_3,.int .i64 x_4] 151::.box b_4 [.int .i64 r_3.1.Left,.int .i64 r_3.1.Right,.slice p_5 r_3.1.Verticals.length c_5] 102::.row p_1 c_1 (r_1.1.At.map encI_i64) 3 1::.row p_7 c_7 (r_1.1.Depth.map encI_i64) 3 1::.row p_4 c_4 (x_1.map encI_i64) 3 1::.box b_2 [.int .i64 r_1.1.Left,.int .i64 r_1.1.Right,.slice p_1 r_1.1.At.length c_1,.slice p_7 r_1.1.Depth.length c_7,.slice p_4 x_1.length c_4] 98::Lf) w) ?_ ?_
   ·cases hb : ((((r_6.2 != 0) || (r_7.2 != 0)) || (r_8.2 != 0)) || (decide (r_6.1 < 0)))
    ·rw [hb] at hf
     refine stP hf rfl rfl rfl (pFA fa_50_0 rfl) fun a hf => stE hf hc rfl rfl rfl (eLd1 sc_3 rfl (cell_box m1 rfl)) fun a w hf hc => stP hf rfl rfl rfl (pFA fa_50_1 rfl) fun a hf => stE hf hc rfl rfl rfl (eLd1 sc_3 rfl (cell_box m1 rfl)) fun a w hf hc => stP hf rfl rfl rfl (pGt rfl rfl) fun a hf => stP hf rfl rfl rfl (pPf rfl rfl) fun a hf => cNil ⟨hf.keep ⟨rfl,rfl,rfl,rfl,rfl,rfl,rfl,rfl,rfl,rfl,rfl,rfl,rfl,rfl,rfl,rfl,rfl,rfl,trivial⟩,hc⟩
    ·rw [hb] at hf
     refine stS hf rfl rfl rfl fun a hf => stS hf rfl rfl rfl fun a hf => stS hf rfl rfl rfl fun a hf => stS hf rfl rfl rfl fun a hf => stS hf rfl rfl rfl fun a hf => stP hf rfl rfl rfl (pPt rfl rfl) fun a hf => cNil ⟨hf.keep ⟨rfl,rfl,rfl,rfl,rfl,rfl,rfl,rfl,rfl,rfl,rfl,rfl,rfl,rfl,rfl,rfl,rfl,rfl,trivial⟩,hc⟩
   intro a w ⟨hf,hc⟩
   refine stP hf rfl rfl rfl (pM rfl) fun a hf => stCut 6 (fun a w => Has 274 a [(3,.int .u8 by_),(4,.int .u8 stage),(19,.int .i64 r_6.1),(20,.int .i64 r_6.2),(21,.pointer (some ⟨b_7,0,none⟩)),(22,.int .i64 r_7.2),(23,.pointer (some ⟨b_8,0,none⟩)),(24,.int .i64 r_8.2),(135,.int .i64 r_6.2),(136,.bool (r_6.2 != 0)),(137,.bool (r_6.2 != 0)),(140,.bool ((r_6.2 != 0) || (r_7.2 != 0))),(141,.bool ((r_6.2 != 0) || (r_7.2 != 0))),(144,.bool (((r_6.2 != 0) || (r_7.2 != 0)) || (r_8.2 != 0))),(145,.bool (((r_6.2 != 0) || (r_7.2 != 0)) || (r_8.2 != 0))),(148,.bool ((((r_6.2 != 0) || (r_7.2 != 0)) || (r_8.2 != 0)) || (decide (r_6.1 < 0)))),(149,.bool ((((r_6.2 != 0) || (r_7.2 != 0)) || (r_8.2 != 0)) || (decide (r_6.1 < 0)))),(155,.bool (((((r_6.2 != 0) || (r_7.2 != 0)) || (r_8.2 != 0)) || (decide (r_6.1 < 0))) || (decide (r_7.1.Hi < r_7.1.Lo)))),(156,.bool (((((r_6.2 != 0) || (r_7.2 != 0)) || (r_8.2 != 0)) || (decide (r_6.1 < 0))) || (decide (r_7.1.Hi < r_7.1.Lo)))),(162,.bool ((((((r_6.2 != 0) || (r_7.2 != 0)) || (r_8.2 != 0)) || (decide (r_6.1 < 0))) || (decide (r_7.1.Hi < r_7.1.Lo))) || (decide (r_8.1.Hi < r_8.1.Lo))))] ∧ Ctx G (.box b_8 [.int .i64 r_8.1.Lo,.int .i64 r_8.1.Hi] 50::.box b_7 [.int .i64 r_7.1.Lo,.int .i64 r_7.1.Hi] 50::.box b_6 [.int .i64 r_5.Left,.int .i64 r_5.Right,.slice p_8 x_5.length c_8] 102::.row p_5 c_5 (r_3.1.Verticals.map enc_gauge_Vertical) 107 5::.row p_8 c_8 (x_5.map enc_gauge_Vertical) 107 5::.box b_5 [.slice better_p better.length better_c,.int .i64 x_3,.int .i64 x_4] 151::.box b_4 [.int .i64 r_3.1.Left,.int .i64 r_3.1.Right,.slice p_5 r_3.1.Verticals.length c_5] 102::.row p_1 c_1 (r_1.1.At.map encI_i64) 3 1::.row p_7 c_7 (r_1.1.Depth.map encI_i64) 3 1::.row p_4 c_4 (x_1.map encI_i64) 3 1::.box b_2 [.int .i64 r_1.1.Left,.int .i64 r_1.1.Right,.slice p_1 r_1.1.At.length c_1,.slice p_7 r_1.1.Depth.length c_7,.slice p_4 x_1.length c_4] 98::Lf) w) ?_ ?_
   ·cases hb : (((((r_6.2 != 0) || (r_7.2 != 0)) || (r_8.2 != 0)) || (decide (r_6.1 < 0))) || (decide (r_7.1.Hi < r_7.1.Lo)))
    ·rw [hb] at hf
     refine stP hf rfl rfl rfl (pFA fa_50_0 rfl) fun a hf => stE hf hc rfl rfl rfl (eLd1 sc_3 rfl (cell_box m0 rfl)) fun a w hf hc => stP hf rfl rfl rfl (pFA fa_50_1 rfl) fun a hf => stE hf hc rfl rfl rfl (eLd1 sc_3 rfl (cell_box m0 rfl)) fun a w hf hc => stP hf rfl rfl rfl (pGt rfl rfl) fun a hf => stP hf rfl rfl rfl (pPf rfl rfl) fun a hf => cNil ⟨hf.keep ⟨rfl,rfl,rfl,rfl,rfl,rfl,rfl,rfl,rfl,rfl,rfl,rfl,rfl,rfl,rfl,rfl,rfl,rfl,rfl,rfl,trivial⟩,hc⟩
    ·rw [hb] at hf
     refine stS hf rfl rfl rfl fun a hf => stS hf rfl rfl rfl fun a hf => stS hf rfl rfl rfl fun a hf => stS hf rfl rfl rfl fun a hf => stS hf rfl rfl rfl fun a hf => stP hf rfl rfl rfl (pPt rfl rfl) fun a hf => cNil ⟨hf.keep ⟨rfl,rfl,rfl,rfl,rfl,rfl,rfl,rfl,rfl,rfl,rfl,rfl,rfl,rfl,rfl,rfl,rfl,rfl,rfl,rfl,trivial⟩,hc⟩
   intro a w ⟨hf,hc⟩
   refine cNil ?_
   refine h17 _ _ ?_
   refine cCond (b := ((((((r_6.2 != 0) || (r_7.2 != 0)) || (r_8.2 != 0)) || (decide (r_6.1 < 0))) || (decide (r_7.1.Hi < r_7.1.Lo))) || (decide (r_8.1.Hi < r_8.1.Lo)))) hf rfl (fun hb => ?_) (fun hb => ?_)
   ·replace hF := condT hb hF
    clear hb
    refine wp_seq_k fun K18 h18 => cReg ?_
    refine stP hf rfl rfl rfl (pA rfl) fun a hf => cNil ?_
    refine h18 _ _ ?_
    refine wp_ret ?_
    refine xThenR ?_
    obtain rfl := Option.some.inj hF
    replace hc := hc.drop k10
    replace hc := hc.drop k9
    replace hc := hc.drop k8
    replace hc := hc.drop k7
    replace hc := hc.drop k6
    replace hc := hc.drop k5
    replace hc := hc.drop k4
    replace hc := hc.drop k3
    replace hc := hc.drop k2
    replace hc := hc.drop k1
    replace hc := hc.drop k0
    exact fnOut1 (by simp) rfl Try.results10 hf hc (show look _ 10 = _ from rfl) ⟨rfl,hc⟩
   ·replace hF := condF hb hF
    clear hb
    refine wp_skip ?_
    refine h16 _ _ ?_
    refine wp_seq_k fun K19 h19 => cReg ?_
    refine stP hf rfl rfl rfl (pM rfl) fun a hf => stP hf rfl rfl rfl (pCv Try.underlying5 Try.underlying3 rfl) fun a hf => stP hf rfl rfl rfl (pRem rfl rfl (by decide)) fun a hf => stP hf rfl rfl rfl (pM rfl) fun a hf => stP hf rfl rfl rfl (pCv Try.underlying5 Try.underlying3 rfl) fun a hf => stP hf rfl rfl rfl (pRem rfl rfl (by decide)) fun a hf => stP hf rfl rfl rfl (pSub rfl rfl) fun a hf => stP hf rfl rfl rfl (pA rfl) fun a hf => stP hf rfl rfl rfl (pA rfl) fun a hf => cNil ?_
    refine h19 _ _ ?_
    refine wp_seq_k fun K20 h20 => cReg ?_
    refine stP hf rfl rfl rfl (pM rfl) fun a hf => stP hf rfl rfl rfl (pM rfl) fun a hf => stP hf rfl rfl rfl (pSub rfl rfl) fun a hf => stP hf rfl rfl rfl (pM rfl) fun a hf => stP hf rfl rfl rfl (pBuildS (cells := [.int .i64 (W (((W (stage)).tmod 60) - (W (((W (by_)).tmod 40) - 20)))),.int .i64 r_6.1]) bt_77 rfl rfl) fun a hf => stP hf rfl rfl rfl (pM rfl) fun a hf => stP hf rfl rfl rfl (pM rfl) fun a hf => stP hf rfl rfl rfl (pSub rfl rfl) fun a hf => stP hf rfl rfl rfl (pAdd rfl rfl) fun a hf => stP hf rfl rfl rfl (pM rfl) fun a hf => stP hf rfl rfl rfl (pAdd rfl rfl) fun a hf => stP hf rfl rfl rfl (pBuildS (cells := [.int .i64 (W ((W (((W (stage)).tmod 60) - (W (((W (by_)).tmod 40) - 20)))) + 50)),.int .i64 (W (r_6.1 + 100000))]) bt_77 rfl rfl) fun a hf => stBS (rows := ([(⟨W (((W (stage)).tmod 60) - (W (((W (by_)).tmod 40) - 20))),r_6.1⟩ : shift_Mark),(⟨W ((W (((W (stage)).tmod 60) - (W (((W (by_)).tmod 40) - 20)))) + 50),W (r_6.1 + 100000)⟩ : shift_Mark)] : List shift_Mark).map enc_shift_Mark) (vs := [(0,.agg #[.int .i64 (W (((W (stage)).tmod 60) - (W (((W (by_)).tmod 40) - 20)))),.int .i64 r_6.1]),(1,.agg #[.int .i64 (W ((W (((W (stage)).tmod 60) - (W (((W (by_)).tmod 40) - 20)))) + 50)),.int .i64 (W (r_6.1 + 100000))])]) hf hc rfl rfl sl_22 rfl ⟨rfl,rfl,rfl,rfl,rfl,rfl,trivial⟩ rfl rfl fun b_9 a w hf hc => ?_
    refine stP hf rfl rfl rfl (pA rfl) fun a hf => cNil ?_
    refine h20 _ _ ?_
    refine wp_seq_k fun K21 h21 => ?_
    have hj21 : ∀ (rating : List shift_Mark) (p_9 : Option Addr) (c_9 : Nat) a w,Has 274 a [(21,.pointer (some ⟨b_7,0,none⟩)),(23,.pointer (some ⟨b_8,0,none⟩)),(25,.int .i64 ((W (stage)).tmod 60)),(26,.int .i64 (W (((W (by_)).tmod 40) - 20))),(27,.slice p_9 rating.length c_9)] → Ctx G (.row p_9 c_9 (rating.map enc_shift_Mark) 77 2::.box b_8 [.int .i64 r_8.1.Lo,.int .i64 r_8.1.Hi] 50::.box b_7 [.int .i64 r_7.1.Lo,.int .i64 r_7.1.Hi] 50::Lf) w → law05_ShiftMeasured_j21 N by_ stage r_7 r_8 rating = some res → K21 a w := by
     repeat (clear hF)
     repeat (clear hc)
     repeat (clear hf)
     intro rating p_9 c_9 a w hf hc hF
     unfold law05_ShiftMeasured_j21 at hF
     refine h21 _ _ ?_
     refine wp_seq_k fun K22 h22 => cReg ?_
     refine stP hf rfl rfl rfl (pA rfl) fun a hf => cNil ?_
     refine h22 _ _ ?_
     refine wp_seq_k fun K23 h23 => wp_seq_k fun K24 h24 => cReg ?_
     refine stE hf hc rfl rfl rfl (eLdN (vs := [.int .i64 r_7.1.Lo,.int .i64 r_7.1.Hi]) ag_50 rfl rfl (cells_box (n := 2) m2 rfl)) fun a w hf hc => stE hf hc rfl rfl rfl (eLdN (vs := [.int .i64 r_8.1.Lo,.int .i64 r_8.1.Hi]) ag_50 rfl rfl (cells_box (n := 2) m1 rfl)) fun a w hf hc => stBS (rows := ([r_7.1,r_8.1] : List api_Span).map enc_api_Span) (vs := [(0,.agg #[.int .i64 r_7.1.Lo,.int .i64 r_7.1.Hi]),(1,.agg #[.int .i64 r_8.1.Lo,.int .i64 r_8.1.Hi])]) hf hc rfl rfl sl_44 rfl ⟨rfl,rfl,rfl,rfl,rfl,rfl,trivial⟩ rfl rfl fun b_10 a w hf hc => stP hf rfl rfl rfl (pLenS Try.underlying44 rfl) fun a hf => stP hf rfl rfl rfl (pM rfl) fun a hf => cNil ?_
     refine h24 _ _ ?_
     refine wp_block ?_
     obtain ⟨x25,hx25,hF⟩ := bnd_some hF
     let S25 : ((List api_Span) × Int) → Act → World → Prop := (fun (zz : (List api_Span) × Int) a w => ∃ (p_10 : Option Addr) (c_10 : Nat),Has 274 a [(25,.int .i64 ((W (stage)).tmod 60)),(26,.int .i64 (W (((W (by_)).tmod 40) - 20))),(27,.slice p_9 rating.length c_9),(28,.slice p_10 zz.1.length c_10),(199,.slice (some ⟨b_10,0,none⟩) 2 2),(200,.int .i64 (2 : Int)),(201,.int .i64 zz.2)] ∧ Ctx G (.row p_10 c_10 (zz.1.map enc_api_Span) 50 2::.row (some ⟨b_10,0,none⟩) 2 (([r_7.1,r_8.1] : List api_Span).map enc_api_Span) 50 2::.row p_9 c_9 (rating.map enc_shift_Mark) 77 2::Lf) w)
     have hr25 : ∀ (zz : (List api_Span) × Int) a w,x25 = .go zz → S25 zz a w → K23 a w := by
      rintro ⟨spans,x_6⟩ a w rfl ⟨p_10,c_10,hf,hc⟩
      replace hF := exK_go hF
      refine h23 _ _ ?_
      refine wp_seq_k fun K26 h26 => ?_
      obtain ⟨e_1,he_1,hF⟩ := bnd_some hF
      obtain ⟨g,rfl,qa,qr⟩ := row_atm hc m0 he_1
      obtain ⟨e_2,he_2,hF⟩ := bnd_some hF
      obtain ⟨qa_1,qr_1⟩ := row_atk hc m0 he_2
      obtain ⟨t_1,ht_1,hF⟩ := bnd_some hF
      obtain ⟨t_2,ht_2,hF⟩ := bnd_some hF
      refine cQ hc follows_mx (by kernel_rfl) ?_
      refine qE hf rfl rfl rfl (Pu.ev (pM rfl)) fun a hf => qE hf rfl rfl rfl (Pu.ev (pIA Try.underlying44 sz_50 rfl rfl qa)) fun a hf => qE hf rfl rfl rfl (Pu.ev (pFA fa_50_0 rfl)) fun a hf => qE hf rfl rfl rfl (eLd1 sc_3 rfl (cell_row (sz := 2) (i := (1 : Int).toNat) (j := 0) m0 qr rfl)) fun a hf => qE hf rfl rfl rfl (Pu.ev (pM rfl)) fun a hf => qE hf rfl rfl rfl (Pu.ev (pIA Try.underlying44 sz_50 rfl rfl qa_1)) fun a hf => qE hf rfl rfl rfl (Pu.ev (pFA fa_50_0 rfl)) fun a hf => qE hf rfl rfl rfl (eLd1 sc_3 rfl (cell_row (sz := 2) (i := (0 : Int).toNat) (j := 0) m0 qr_1 rfl)) fun a hf => qE hf rfl rfl rfl (Pu.ev (pGe rfl rfl)) fun a hf => qE hf rfl rfl rfl (Pu.ev (pM rfl)) fun a hf => qCut 10 (fun a => Has 274 a [(28,.slice (some ⟨g,0,none⟩) spans.length c_10),(251,.slice (some ⟨g,0,none⟩) spans.length c_10),(252,.pointer (some ⟨g,(1 : Int).toNat * 2,none⟩)),(253,.pointer (some ⟨g,(1 : Int).toNat * 2 + 0,none⟩)),(254,.int .i64 e_1.Lo),(255,.slice (some ⟨g,0,none⟩) spans.length c_10),(256,.pointer (some ⟨g,(0 : Int).toNat * 2,none⟩)),(257,.pointer (some ⟨g,(0 : Int).toNat * 2 + 0,none⟩)),(258,.int .i64 e_2.Lo),(259,.bool (decide (e_2.Lo ≤ e_1.Lo))),(260,.bool (decide (e_2.Lo ≤ e_1.Lo))),(270,.bool t_1)]) ?_ ?_
      ·cases hb : (decide (e_2.Lo ≤ e_1.Lo))
       ·rw [hb] at hf
        have hF := condF hb ht_1
        obtain rfl := Option.some.inj hF
        refine qS hf rfl rfl rfl fun a hf => qS hf rfl rfl rfl fun a hf => qS hf rfl rfl rfl fun a hf => qS hf rfl rfl rfl fun a hf => qS hf rfl rfl rfl fun a hf => qS hf rfl rfl rfl fun a hf => qS hf rfl rfl rfl fun a hf => qS hf rfl rfl rfl fun a hf => qS hf rfl rfl rfl fun a hf => qE hf rfl rfl rfl (Pu.ev (pPf rfl rfl)) fun a hf => qNil (hf.keep ⟨rfl,rfl,rfl,rfl,rfl,rfl,rfl,rfl,rfl,rfl,rfl,rfl,trivial⟩)
       ·rw [hb] at hf
        have hF := condT hb ht_1
        obtain ⟨e_3,he_3,hF⟩ := bnd_some hF
        obtain ⟨qa_2,qr_2⟩ := row_atk hc m0 he_3
        obtain ⟨e_4,he_4,hF⟩ := bnd_some hF
        obtain ⟨qa_3,qr_3⟩ := row_atk hc m0 he_4
        refine qE hf rfl rfl rfl (Pu.ev (pM rfl)) fun a hf => qE hf rfl rfl rfl (Pu.ev (pIA Try.underlying44 sz_50 rfl rfl qa_2)) fun a hf => qE hf rfl rfl rfl (Pu.ev (pFA fa_50_1 rfl)) fun a hf => qE hf rfl rfl rfl (eLd1 sc_3 rfl (cell_row (sz := 2) (i := (1 : Int).toNat) (j := 1) m0 qr_2 rfl)) fun a hf => qE hf rfl rfl rfl (Pu.ev (pM rfl)) fun a hf => qE hf rfl rfl rfl (Pu.ev (pIA Try.underlying44 sz_50 rfl rfl qa_3)) fun a hf => qE hf rfl rfl rfl (Pu.ev (pFA fa_50_1 rfl)) fun a hf => qE hf rfl rfl rfl (eLd1 sc_3 rfl (cell_row (sz := 2) (i := (0 : Int).toNat) (j := 1) m0 qr_3 rfl)) fun a hf => qE hf rfl rfl rfl (Pu.ev (pLe rfl rfl)) fun a hf => qE hf rfl rfl rfl (Pu.ev (pPt rfl rfl)) fun a hf => ?_
        obtain rfl := Option.some.inj hF
        exact qNil (hf.keep ⟨rfl,rfl,rfl,rfl,rfl,rfl,rfl,rfl,rfl,rfl,rfl,rfl,trivial⟩)
      intro a hf
      refine qE hf rfl rfl rfl (Pu.ev (pM rfl)) fun a hf => qCut 2 (fun a => Has 274 a [(28,.slice (some ⟨g,0,none⟩) spans.length c_10),(251,.slice (some ⟨g,0,none⟩) spans.length c_10),(252,.pointer (some ⟨g,(1 : Int).toNat * 2,none⟩)),(253,.pointer (some ⟨g,(1 : Int).toNat * 2 + 0,none⟩)),(254,.int .i64 e_1.Lo),(255,.slice (some ⟨g,0,none⟩) spans.length c_10),(256,.pointer (some ⟨g,(0 : Int).toNat * 2,none⟩)),(257,.pointer (some ⟨g,(0 : Int).toNat * 2 + 0,none⟩)),(258,.int .i64 e_2.Lo),(259,.bool (decide (e_2.Lo ≤ e_1.Lo))),(260,.bool (decide (e_2.Lo ≤ e_1.Lo))),(270,.bool t_1),(271,.bool t_1),(273,.bool t_2)]) ?_ ?_
      ·cases hb : t_1
       ·rw [hb] at hf
        have hF := condF hb ht_2
        obtain rfl := Option.some.inj hF
        refine qS hf rfl rfl rfl fun a hf => qE hf rfl rfl rfl (Pu.ev (pPf rfl rfl)) fun a hf => qNil (hf.keep ⟨rfl,rfl,rfl,rfl,rfl,rfl,rfl,rfl,rfl,rfl,rfl,rfl,rfl,rfl,trivial⟩)
       ·rw [hb] at hf
        have hF := condT hb ht_2
        obtain ⟨r_9,hr_9,hF⟩ := bnd_some hF
        refine qE hf rfl rfl rfl (eC (v := .bool r_9) (vs := []) (caps := []) en_12 rfl rfl rfl rfl (fun w hc => law05_awake_ok hc hr_9)) fun a hf => qE hf rfl rfl rfl (Pu.ev (pPt rfl rfl)) fun a hf => ?_
        obtain rfl := Option.some.inj hF
        exact qNil (hf.keep ⟨rfl,rfl,rfl,rfl,rfl,rfl,rfl,rfl,rfl,rfl,rfl,rfl,rfl,rfl,trivial⟩)
      intro a hf
      refine qE hf rfl rfl rfl (Pu.ev (pA rfl)) fun a hf => ?_
      intro w hc
      refine h26 _ _ ?_
      refine wp_ret ?_
      obtain rfl := Option.some.inj hF
      replace hc := hc.drop k2
      replace hc := hc.drop k1
      replace hc := hc.drop k0
      exact fnOut1 (by simp) rfl Try.results10 hf hc (show look _ 10 = _ from rfl) ⟨rfl,hc⟩
     have ho25 : ∀ r,x25 = .out r → r = res := by
      rintro r rfl
      exact Option.some.inj hF
     replace hc := hc.nilRow 50 2
     replace hc := hc.drop k4
     replace hc := hc.drop k3
     refine cLoop N (loopW (S := S25) (x := x25) ?_ N (([] : List api_Span),0) _ _ ⟨none,0,hf.keep ⟨rfl,rfl,rfl,rfl,rfl,rfl,rfl,trivial⟩,hc⟩ hx25)
     clear hF hf hc
     rintro ⟨spans,x_6⟩ st25 a w KB25 ⟨p_10,c_10,hf,hc⟩ hF hfin25 hK25
     unfold law05_ShiftMeasured_b25 at hF
     refine wp_seq_k fun K27 h27 => cReg ?_
     refine stP hf rfl rfl rfl (pLt rfl rfl) fun a hf => cNil ?_
     refine h27 _ _ ?_
     refine wp_seq_k fun K28 h28 => cCond (b := (decide (x_6 < (2 : Int)))) hf rfl (fun hb => ?_) (fun hb => ?_)
     ·replace hF := condT hb hF
      clear hb
      refine wp_skip ?_
      refine h28 _ _ ?_
      refine wp_seq_k fun K29 h29 => wp_block ?_
      refine wp_seq_k fun K30 h30 => cReg ?_
      obtain ⟨e_5,he_5,hF⟩ := bnd_some hF
      obtain ⟨qa_4,qr_4⟩ := row_atk hc m1 he_5
      refine stP hf rfl rfl rfl (pIA Try.underlying44 sz_50 rfl rfl qa_4) fun a hf => stE hf hc rfl rfl rfl (eLdN (vs := [.int .i64 e_5.Lo,.int .i64 e_5.Hi]) ag_50 rfl rfl (cells_rw (sz := 2) (i := x_6.toNat) m1 qr_4 (n := 2) (o' := 0) rfl)) fun a w hf hc => stAl (cs := [.int .i64 0,.int .i64 0]) hf hc rfl rfl zr_50 rfl fun b_11 a w hf hc => stSt (vs := [.int .i64 e_5.Lo,.int .i64 e_5.Hi]) hf hc rfl rfl rfl rfl sz_50 rfl rfl u0 fun w hc => cNil ?_
      refine h30 _ _ ?_
      refine wp_seq_k fun K31 h31 => cReg ?_
      refine stP hf rfl rfl rfl (pM rfl) fun a hf => stP hf rfl rfl rfl (pM rfl) fun a hf => stP hf rfl rfl rfl (pFA fa_50_0 rfl) fun a hf => stE hf hc rfl rfl rfl (eLd1 sc_3 rfl (cell_box m0 rfl)) fun a w hf hc => stP hf rfl rfl rfl (pMax2 rfl rfl) fun a hf => stP hf rfl rfl rfl (pFA fa_50_1 rfl) fun a hf => stE hf hc rfl rfl rfl (eLd1 sc_3 rfl (cell_box m0 rfl)) fun a w hf hc => stP hf rfl rfl rfl (pMin2 rfl rfl) fun a hf => ?_
      obtain ⟨r_10,hr_10,hF⟩ := bnd_some hF
      refine stE hf hc rfl rfl rfl (eC (v := .agg #[.int .i64 r_10.Lo,.int .i64 r_10.Hi]) (vs := [.int .i64 (max 0 e_5.Lo),.int .i64 (min e_5.Hi 1000000000)]) (caps := []) en_47 rfl rfl rfl rfl (fun w hc => law05_span_ok (max 0 e_5.Lo) (min e_5.Hi 1000000000) hc hr_10)) fun a w hf hc => stP hf rfl rfl rfl (pBuildS (cells := [.int .i64 1,.int .i64 ((W (stage)).tmod 60),.int .i64 r_10.Lo,.int .i64 r_10.Hi]) bt_71 rfl rfl) fun a hf => stBS (rows := ([(⟨1,(W (stage)).tmod 60,r_10⟩ : shift_Gauging)] : List shift_Gauging).map enc_shift_Gauging) (vs := [(0,.agg #[.int .i64 1,.int .i64 ((W (stage)).tmod 60),.int .i64 r_10.Lo,.int .i64 r_10.Hi])]) hf hc rfl rfl sl_23 rfl ⟨rfl,rfl,rfl,trivial⟩ rfl rfl fun b_12 a w hf hc => stP hf rfl rfl rfl (pBuildS (cells := [.slice p_9 rating.length c_9,.slice (some ⟨b_12,0,none⟩) 1 1]) bt_25 rfl rfl) fun a hf => ?_
      obtain ⟨r_11,hr_11,hF⟩ := bnd_some hF
      obtain ⟨G1,hle1,hrd1,hc,hth1⟩ := lend hc k4
      obtain ⟨G2,hle2,hrd2,hc,hth2⟩ := lend hc k0
      refine stC (vs := [.agg #[.slice p_9 rating.length c_9,.slice (some ⟨b_12,0,none⟩) 1 1]]) (caps := []) hf rfl rfl rfl en_22 rfl rfl rfl rfl (shift_Passes_ok (⟨rating,([(⟨1,(W (stage)).tmod 60,r_10⟩ : shift_Gauging)] : List shift_Gauging)⟩ : shift_Record) (hrd1.mono hle2) hrd2 hc hr_11) ?_
      rintro _ w ⟨p_11,c_11,rfl,hc⟩
      refine ⟨_,rfl,fun a hf => ?_⟩
      replace hc := hth2 _ _ hc
      replace hc := hth1 _ _ hc
      refine stP hf rfl rfl rfl (pM rfl) fun a hf => stP hf rfl rfl rfl (pX rfl rfl) fun a hf => stP hf rfl rfl rfl (pX rfl rfl) fun a hf => stP hf rfl rfl rfl (pA rfl) fun a hf => stP hf rfl rfl rfl (pA rfl) fun a hf => cNil ?_
      refine h31 _ _ ?_
      refine wp_seq_k fun K32 h32 => wp_seq_k fun K33 h33 => cReg ?_
      refine stP hf rfl rfl rfl (pM rfl) fun a hf => stP hf rfl rfl rfl (pNe rfl rfl) fun a hf => stP hf rfl rfl rfl (pM rfl) fun a hf => stCut 4 (fun a w => Has 274 a [(25,.int .i64 ((W (stage)).tmod 60)),(26,.int .i64 (W (((W (by_)).tmod 40) - 20))),(27,.slice p_9 rating.length c_9),(28,.slice p_10 spans.length c_10),(199,.slice (some ⟨b_10,0,none⟩) 2 2),(200,.int .i64 (2 : Int)),(201,.int .i64 x_6),(31,.slice p_11 r_11.1.length c_11),(32,.int .i64 r_11.2),(221,.int .i64 r_11.2),(222,.bool (r_11.2 != 0)),(223,.bool (r_11.2 != 0)),(227,.bool ((r_11.2 != 0) || (((r_11.1.length : Nat) : Int) != 1)))] ∧ Ctx G (.row p_9 c_9 (rating.map enc_shift_Mark) 77 2::.row (some ⟨b_12,0,none⟩) 1 (([(⟨1,(W (stage)).tmod 60,r_10⟩ : shift_Gauging)] : List shift_Gauging).map enc_shift_Gauging) 71 4::.row p_11 c_11 (r_11.1.map enc_api_Span) 50 2::.box b_11 [.int .i64 e_5.Lo,.int .i64 e_5.Hi] 50::.row p_10 c_10 (spans.map enc_api_Span) 50 2::.row (some ⟨b_10,0,none⟩) 2 (([r_7.1,r_8.1] : List api_Span).map enc_api_Span) 50 2::Lf) w) ?_ ?_
      ·cases hb : (r_11.2 != 0)
       ·rw [hb] at hf
        refine stP hf rfl rfl rfl (pM rfl) fun a hf => stP hf rfl rfl rfl (pLenS Try.underlying44 rfl) fun a hf => stP hf rfl rfl rfl (pNe rfl rfl) fun a hf => stP hf rfl rfl rfl (pPf rfl rfl) fun a hf => cNil ⟨hf.keep ⟨rfl,rfl,rfl,rfl,rfl,rfl,rfl,rfl,rfl,rfl,rfl,rfl,rfl,trivial⟩,hc⟩
       ·rw [hb] at hf
        refine stS hf rfl rfl rfl fun a hf => stS hf rfl rfl rfl fun a hf => stS hf rfl rfl rfl fun a hf => stP hf rfl rfl rfl (pPt rfl rfl) fun a hf => cNil ⟨hf.keep ⟨rfl,rfl,rfl,rfl,rfl,rfl,rfl,rfl,rfl,rfl,rfl,rfl,rfl,trivial⟩,hc⟩
      intro a w ⟨hf,hc⟩
      refine stP hf rfl rfl rfl (pM rfl) fun a hf => ?_
      obtain ⟨t_3,ht_3,hF⟩ := bnd_some hF
      refine stCut 7 (fun a w => Has 274 a [(25,.int .i64 ((W (stage)).tmod 60)),(26,.int .i64 (W (((W (by_)).tmod 40) - 20))),(27,.slice p_9 rating.length c_9),(28,.slice p_10 spans.length c_10),(199,.slice (some ⟨b_10,0,none⟩) 2 2),(200,.int .i64 (2 : Int)),(201,.int .i64 x_6),(31,.slice p_11 r_11.1.length c_11),(32,.int .i64 r_11.2),(221,.int .i64 r_11.2),(222,.bool (r_11.2 != 0)),(223,.bool (r_11.2 != 0)),(227,.bool ((r_11.2 != 0) || (((r_11.1.length : Nat) : Int) != 1))),(228,.bool ((r_11.2 != 0) || (((r_11.1.length : Nat) : Int) != 1))),(235,.bool t_3)] ∧ Ctx G (.row p_9 c_9 (rating.map enc_shift_Mark) 77 2::.row (some ⟨b_12,0,none⟩) 1 (([(⟨1,(W (stage)).tmod 60,r_10⟩ : shift_Gauging)] : List shift_Gauging).map enc_shift_Gauging) 71 4::.row p_11 c_11 (r_11.1.map enc_api_Span) 50 2::.box b_11 [.int .i64 e_5.Lo,.int .i64 e_5.Hi] 50::.row p_10 c_10 (spans.map enc_api_Span) 50 2::.row (some ⟨b_10,0,none⟩) 2 (([r_7.1,r_8.1] : List api_Span).map enc_api_Span) 50 2::Lf) w) ?_ ?_
      ·cases hb : ((r_11.2 != 0) || (((r_11.1.length : Nat) : Int) != 1))
       ·rw [hb] at hf
        have hF := condF hb ht_3
        refine stP hf rfl rfl rfl (pM rfl) fun a hf => stP hf rfl rfl rfl (pM rfl) fun a hf => ?_
        obtain ⟨e_6,he_6,hF⟩ := bnd_some hF
        obtain ⟨g_1,rfl,qa_5,qr_5⟩ := row_atm hc m2 he_6
        refine stP hf rfl rfl rfl (pIA Try.underlying44 sz_50 rfl rfl qa_5) fun a hf => stP hf rfl rfl rfl (pFA fa_50_0 rfl) fun a hf => stE hf hc rfl rfl rfl (eLd1 sc_3 rfl (cell_row (sz := 2) (i := (0 : Int).toNat) (j := 0) m2 qr_5 rfl)) fun a w hf hc => stP hf rfl rfl rfl (pLt rfl rfl) fun a hf => stP hf rfl rfl rfl (pPf rfl rfl) fun a hf => ?_
        obtain rfl := Option.some.inj hF
        exact cNil ⟨hf.keep ⟨rfl,rfl,rfl,rfl,rfl,rfl,rfl,rfl,rfl,rfl,rfl,rfl,rfl,rfl,rfl,trivial⟩,hc⟩
       ·rw [hb] at hf
        have hF := condT hb ht_3
        obtain rfl := Option.some.inj hF
        refine stS hf rfl rfl rfl fun a hf => stS hf rfl rfl rfl fun a hf => stS hf rfl rfl rfl fun a hf => stS hf rfl rfl rfl fun a hf => stS hf rfl rfl rfl fun a hf => stS hf rfl rfl rfl fun a hf => stP hf rfl rfl rfl (pPt rfl rfl) fun a hf => cNil ⟨hf.keep ⟨rfl,rfl,rfl,rfl,rfl,rfl,rfl,rfl,rfl,rfl,rfl,rfl,rfl,rfl,rfl,trivial⟩,hc⟩
      intro a w ⟨hf,hc⟩
      refine stP hf rfl rfl rfl (pM rfl) fun a hf => ?_
      obtain ⟨t_4,ht_4,hF⟩ := bnd_some hF
      refine stCut 7 (fun a w => Has 274 a [(25,.int .i64 ((W (stage)).tmod 60)),(26,.int .i64 (W (((W (by_)).tmod 40) - 20))),(27,.slice p_9 rating.length c_9),(28,.slice p_10 spans.length c_10),(199,.slice (some ⟨b_10,0,none⟩) 2 2),(200,.int .i64 (2 : Int)),(201,.int .i64 x_6),(31,.slice p_11 r_11.1.length c_11),(32,.int .i64 r_11.2),(221,.int .i64 r_11.2),(222,.bool (r_11.2 != 0)),(223,.bool (r_11.2 != 0)),(227,.bool ((r_11.2 != 0) || (((r_11.1.length : Nat) : Int) != 1))),(228,.bool ((r_11.2 != 0) || (((r_11.1.length : Nat) : Int) != 1))),(235,.bool t_3),(236,.bool t_3),(243,.bool t_4)] ∧ Ctx G (.row p_9 c_9 (rating.map enc_shift_Mark) 77 2::.row (some ⟨b_12,0,none⟩) 1 (([(⟨1,(W (stage)).tmod 60,r_10⟩ : shift_Gauging)] : List shift_Gauging).map enc_shift_Gauging) 71 4::.row p_11 c_11 (r_11.1.map enc_api_Span) 50 2::.box b_11 [.int .i64 e_5.Lo,.int .i64 e_5.Hi] 50::.row p_10 c_10 (spans.map enc_api_Span) 50 2::.row (some ⟨b_10,0,none⟩) 2 (([r_7.1,r_8.1] : List api_Span).map enc_api_Span) 50 2::Lf) w) ?_ ?_
      ·cases hb : t_3
       ·rw [hb] at hf
        have hF := condF hb ht_4
        refine stP hf rfl rfl rfl (pM rfl) fun a hf => stP hf rfl rfl rfl (pM rfl) fun a hf => ?_
        obtain ⟨e_7,he_7,hF⟩ := bnd_some hF
        obtain ⟨g_2,rfl,qa_6,qr_6⟩ := row_atm hc m2 he_7
        refine stP hf rfl rfl rfl (pIA Try.underlying44 sz_50 rfl rfl qa_6) fun a hf => stP hf rfl rfl rfl (pFA fa_50_1 rfl) fun a hf => stE hf hc rfl rfl rfl (eLd1 sc_3 rfl (cell_row (sz := 2) (i := (0 : Int).toNat) (j := 1) m2 qr_6 rfl)) fun a w hf hc => stP hf rfl rfl rfl (pGt rfl rfl) fun a hf => stP hf rfl rfl rfl (pPf rfl rfl) fun a hf => ?_
        obtain rfl := Option.some.inj hF
        exact cNil ⟨hf.keep ⟨rfl,rfl,rfl,rfl,rfl,rfl,rfl,rfl,rfl,rfl,rfl,rfl,rfl,rfl,rfl,rfl,rfl,trivial⟩,hc⟩
       ·rw [hb] at hf
        have hF := condT hb ht_4
        obtain rfl := Option.some.inj hF
        refine stS hf rfl rfl rfl fun a hf => stS hf rfl rfl rfl fun a hf => stS hf rfl rfl rfl fun a hf => stS hf rfl rfl rfl fun a hf => stS hf rfl rfl rfl fun a hf => stS hf rfl rfl rfl fun a hf => stP hf rfl rfl rfl (pPt rfl rfl) fun a hf => cNil ⟨hf.keep ⟨rfl,rfl,rfl,rfl,rfl,rfl,rfl,rfl,rfl,rfl,rfl,rfl,rfl,rfl,rfl,rfl,rfl,trivial⟩,hc⟩
      intro a w ⟨hf,hc⟩
      refine cNil ?_
      refine h33 _ _ ?_
      refine cCond (b := t_4) hf rfl (fun hb => ?_) (fun hb => ?_)
      ·replace hF := condT hb hF
       clear hb
       refine wp_seq_k fun K34 h34 => cReg ?_
       refine stP hf rfl rfl rfl (pA rfl) fun a hf => cNil ?_
       refine h34 _ _ ?_
       refine wp_ret ?_
       refine xThenR ?_
       refine xBlkR ?_
       refine xThenR ?_
       refine xThenR ?_
       have he := Option.some.inj hF
       rw [← he] at hfin25
       replace hF := ho25 _ hfin25
       refine xBlkR ?_
       refine xThenR ?_
       obtain rfl := hF
       replace hc := hc.drop k5
       replace hc := hc.drop k4
       replace hc := hc.drop k3
       replace hc := hc.drop k2
       replace hc := hc.drop k1
       replace hc := hc.drop k0
       exact fnOut1 (by simp) rfl Try.results10 hf hc (show look _ 10 = _ from rfl) ⟨rfl,hc⟩
      ·replace hF := condF hb hF
       clear hb
       refine wp_skip ?_
       refine h32 _ _ ?_
       refine cReg ?_
       refine stP hf rfl rfl rfl (pM rfl) fun a hf => stP hf rfl rfl rfl (pM rfl) fun a hf => ?_
       obtain ⟨e_8,he_8,hF⟩ := bnd_some hF
       obtain ⟨g_3,rfl,qa_7,qr_7⟩ := row_atm hc m2 he_8
       refine stP hf rfl rfl rfl (pIA Try.underlying44 sz_50 rfl rfl qa_7) fun a hf => stE hf hc rfl rfl rfl (eLdN (vs := [.int .i64 e_8.Lo,.int .i64 e_8.Hi]) ag_50 rfl rfl (cells_rw (sz := 2) (i := (0 : Int).toNat) m2 qr_7 (n := 2) (o' := 0) rfl)) fun a w hf hc => stBS (rows := ([e_8] : List api_Span).map enc_api_Span) (vs := [(0,.agg #[.int .i64 e_8.Lo,.int .i64 e_8.Hi])]) hf hc rfl rfl sl_44 rfl ⟨rfl,rfl,rfl,trivial⟩ rfl rfl fun b_13 a w hf hc => ?_
       obtain ⟨un,hun,hF⟩ := bnd_some hF
       refine stApm (xs := spans) (ys := ([e_8] : List api_Span)) hf hc rfl rfl sl_44 rfl rfl rfl rfl rfl one_enc_api_Span (src_row hc m0) (fun _ _ => u5) (by simpa using room_spec hun) fun p_12 c_12 a w hf hc => stP hf rfl rfl rfl (pA rfl) fun a hf => cNil ?_
       refine h29 _ _ ?_
       refine cReg ?_
       refine stP hf rfl rfl rfl (pAdd rfl rfl) fun a hf => stP hf rfl rfl rfl (pM rfl) fun a hf => cNil ?_
       replace hc := hc.drop k4
       replace hc := hc.drop k3
       replace hc := hc.drop k2
       replace hc := hc.drop k0
       replace hc := hc.pick k0
       replace hc := hc.pick k2
       replace hc := hc.pick k2
       exact hK25 ((spans ++ [e_8]),W (x_6 + 1)) _ _ (Option.some.inj hF).symm ⟨p_12,c_12,hf.keep ⟨rfl,rfl,rfl,rfl,rfl,rfl,rfl,trivial⟩,hc⟩
     ·replace hF := condF hb hF
      clear hb
      refine wp_exit ?_
      refine xThen ?_
      refine xThen ?_
      have he := Option.some.inj hF
      rw [← he] at hfin25
      refine cHit ?_
      exact hr25 _ _ _ hfin25 ⟨p_10,c_10,hf.keep ⟨rfl,rfl,rfl,rfl,rfl,rfl,rfl,trivial⟩,hc⟩
    refine wp_seq_k fun K35 h35 => cReg ?_
    refine stP hf rfl rfl rfl (pM rfl) fun a hf => stP hf rfl rfl rfl (pGt rfl rfl) fun a hf => cNil ?_
    refine h35 _ _ ?_
    refine cCond (b := (decide (0 < r_6.1))) hf rfl (fun hb => ?_) (fun hb => ?_)
    ·replace hF := condT hb hF
     clear hb
     refine cReg ?_
     refine stP hf rfl rfl rfl (pM rfl) fun a hf => stP hf rfl rfl rfl (pM rfl) fun a hf => stP hf rfl rfl rfl (pM rfl) fun a hf => stP hf rfl rfl rfl (pSub rfl rfl) fun a hf => stP hf rfl rfl rfl (pSub rfl rfl) fun a hf => stP hf rfl rfl rfl (pM rfl) fun a hf => stP hf rfl rfl rfl (pM rfl) fun a hf => stP hf rfl rfl rfl (pMin2 rfl rfl) fun a hf => stP hf rfl rfl rfl (pSub rfl rfl) fun a hf => stP hf rfl rfl rfl (pBuildS (cells := [.int .i64 (W ((W (((W (stage)).tmod 60) - (W (((W (by_)).tmod 40) - 20)))) - 50)),.int .i64 (W (r_6.1 - (min r_6.1 100000)))]) bt_77 rfl rfl) fun a hf => stBS (rows := ([(⟨W ((W (((W (stage)).tmod 60) - (W (((W (by_)).tmod 40) - 20)))) - 50),W (r_6.1 - (min r_6.1 100000))⟩ : shift_Mark)] : List shift_Mark).map enc_shift_Mark) (vs := [(0,.agg #[.int .i64 (W ((W (((W (stage)).tmod 60) - (W (((W (by_)).tmod 40) - 20)))) - 50)),.int .i64 (W (r_6.1 - (min r_6.1 100000)))])]) hf hc rfl rfl sl_22 rfl ⟨rfl,rfl,rfl,trivial⟩ rfl rfl fun b_14 a w hf hc => ?_
     obtain ⟨r_12,hr_12,hF⟩ := bnd_some hF
     refine stC (vs := [.slice (some ⟨b_9,0,none⟩) 2 2,.int .i64 0,.slice (some ⟨b_14,0,none⟩) 1 1]) (caps := []) hf rfl rfl rfl en_39 rfl rfl rfl rfl (slices_Insert_Lshift_Mark_shift_Mark_ok ([(⟨W (((W (stage)).tmod 60) - (W (((W (by_)).tmod 40) - 20))),r_6.1⟩ : shift_Mark),(⟨W ((W (((W (stage)).tmod 60) - (W (((W (by_)).tmod 40) - 20)))) + 50),W (r_6.1 + 100000)⟩ : shift_Mark)] : List shift_Mark) 0 ([(⟨W ((W (((W (stage)).tmod 60) - (W (((W (by_)).tmod 40) - 20)))) - 50),W (r_6.1 - (min r_6.1 100000))⟩ : shift_Mark)] : List shift_Mark) ((hc.pick k0).pick k1) hr_12) ?_
     rintro _ w ⟨p_13,c_13,rfl,hc⟩
     refine ⟨_,rfl,fun a hf => ?_⟩
     refine stP hf rfl rfl rfl (pA rfl) fun a hf => cNil ?_
     replace hc := hc.drop k12
     replace hc := hc.drop k11
     replace hc := hc.drop k10
     replace hc := hc.drop k9
     replace hc := hc.drop k8
     replace hc := hc.drop k7
     replace hc := hc.drop k6
     replace hc := hc.drop k5
     replace hc := hc.drop k4
     replace hc := hc.drop k1
     exact hj21 r_12 p_13 c_13 _ _  (hf.keep ⟨rfl,rfl,rfl,rfl,rfl,trivial⟩) hc hF
    ·replace hF := condF hb hF
     clear hb
     refine wp_skip ?_
     replace hc := hc.drop k11
     replace hc := hc.drop k10
     replace hc := hc.drop k9
     replace hc := hc.drop k8
     replace hc := hc.drop k7
     replace hc := hc.drop k6
     replace hc := hc.drop k5
     replace hc := hc.drop k4
     replace hc := hc.drop k3
     exact hj21 ([(⟨W (((W (stage)).tmod 60) - (W (((W (by_)).tmod 40) - 20))),r_6.1⟩ : shift_Mark),(⟨W ((W (((W (stage)).tmod 60) - (W (((W (by_)).tmod 40) - 20)))) + 50),W (r_6.1 + 100000)⟩ : shift_Mark)] : List shift_Mark) (some ⟨b_9,0,none⟩) 2 _ _  (hf.keep ⟨rfl,rfl,rfl,rfl,rfl,trivial⟩) hc hF
  have ho12 : ∀ r,x12 = .out r → r = res := by
   rintro r rfl
   exact Option.some.inj hF
  replace hc := hc.drop k8
  refine cLoop N (loopW (S := S12) (x := x12) ?_ N (0,r_4.1,r_4.2,r_5.Verticals) _ _ ⟨p_2,c_2,p_6,c_6,hf.keep ⟨rfl,rfl,rfl,rfl,rfl,rfl,rfl,rfl,trivial⟩,hc⟩ hx12)
  clear hF hf hc
  rintro ⟨x_2,x_3,x_4,x_5⟩ st12 a w KB12 ⟨p_7,c_7,p_8,c_8,hf,hc⟩ hF hfin12 hK12
  unfold law05_ShiftMeasured_b12 at hF
  refine wp_seq_k fun K36 h36 => cReg ?_
  refine stP hf rfl rfl rfl (pLt rfl rfl) fun a hf => cNil ?_
  refine h36 _ _ ?_
  refine wp_seq_k fun K37 h37 => cCond (b := (decide (x_2 < ((r_5.Verticals.length : Nat) : Int)))) hf rfl (fun hb => ?_) (fun hb => ?_)
  ·replace hF := condT hb hF
   clear hb
   refine wp_skip ?_
   refine h37 _ _ ?_
   refine wp_seq_k fun K38 h38 => ?_
   have hj38 : ∀ (x_7 : Int) (x_8 : Int) (x_9 : List gauge_Vertical) (p_14 : Option Addr) (c_14 : Nat) (p_15 : Option Addr) (c_15 : Nat) a w,Has 274 a [(3,.int .u8 by_),(4,.int .u8 stage),(11,.pointer (some ⟨b_2,0,none⟩)),(14,.pointer (some ⟨b_4,0,none⟩)),(15,.pointer (some ⟨b_5,0,none⟩)),(16,.pointer (some ⟨b_6,0,none⟩)),(64,.int .i64 ((r_5.Verticals.length : Nat) : Int)),(65,.int .i64 x_2)] → Ctx G (.box b_6 [.int .i64 r_5.Left,.int .i64 r_5.Right,.slice p_15 x_9.length c_15] 102::.row p_5 c_5 (r_3.1.Verticals.map enc_gauge_Vertical) 107 5::.row p_15 c_15 (x_9.map enc_gauge_Vertical) 107 5::.box b_5 [.slice better_p better.length better_c,.int .i64 x_7,.int .i64 x_8] 151::.box b_4 [.int .i64 r_3.1.Left,.int .i64 r_3.1.Right,.slice p_5 r_3.1.Verticals.length c_5] 102::.row p_1 c_1 (r_1.1.At.map encI_i64) 3 1::.row p_14 c_14 (r_1.1.Depth.map encI_i64) 3 1::.row p_4 c_4 (x_1.map encI_i64) 3 1::.box b_2 [.int .i64 r_1.1.Left,.int .i64 r_1.1.Right,.slice p_1 r_1.1.At.length c_1,.slice p_14 r_1.1.Depth.length c_14,.slice p_4 x_1.length c_4] 98::Lf) w → law05_ShiftMeasured_j38 N x_2 x_7 x_8 x_9 = some st12 → K38 a w := by
    repeat (clear hF)
    repeat (clear hc)
    repeat (clear hf)
    intro x_7 x_8 x_9 p_14 c_14 p_15 c_15 a w hf hc hF
    unfold law05_ShiftMeasured_j38 at hF
    refine h38 _ _ ?_
    refine cReg ?_
    refine stP hf rfl rfl rfl (pAdd rfl rfl) fun a hf => stP hf rfl rfl rfl (pM rfl) fun a hf => cNil ?_
    exact hK12 (W (x_2 + 1),x_7,x_8,x_9) _ _ (Option.some.inj hF).symm ⟨p_14,c_14,p_15,c_15,hf.keep ⟨rfl,rfl,rfl,rfl,rfl,rfl,rfl,rfl,trivial⟩,hc⟩
   refine wp_block ?_
   refine wp_seq_k fun K39 h39 => cReg ?_
   refine stP hf rfl rfl rfl (pM rfl) fun a hf => stP hf rfl rfl rfl (pA rfl) fun a hf => cNil ?_
   refine h39 _ _ ?_
   refine wp_seq_k fun K40 h40 => cReg ?_
   refine stP hf rfl rfl rfl (pFA fa_102_2 rfl) fun a hf => stE hf hc rfl rfl rfl (eLd1 sc_100 rfl (cell_box m0 rfl)) fun a w hf hc => stP hf rfl rfl rfl (pM rfl) fun a hf => ?_
   obtain ⟨e_9,he_9,hF⟩ := bnd_some hF
   obtain ⟨g_4,rfl,qa_8,qr_8⟩ := row_atm hc m2 he_9
   refine stP hf rfl rfl rfl (pIA Try.underlying100 sz_107 rfl rfl qa_8) fun a hf => stP hf rfl rfl rfl (pA rfl) fun a hf => cNil ?_
   refine h40 _ _ ?_
   refine wp_seq_k fun K41 h41 => ?_
   obtain ⟨rg,hrg,hF⟩ := bnd_some hF
   refine regCut (fun a w => ∃ (p_16 : Option Addr) (c_16 : Nat),Has 274 a [(3,.int .u8 by_),(4,.int .u8 stage),(11,.pointer (some ⟨b_2,0,none⟩)),(14,.pointer (some ⟨b_4,0,none⟩)),(15,.pointer (some ⟨b_5,0,none⟩)),(16,.pointer (some ⟨b_6,0,none⟩)),(17,.int .i64 x_2),(18,.pointer (some ⟨g_4,x_2.toNat * 5,none⟩)),(64,.int .i64 ((r_5.Verticals.length : Nat) : Int)),(65,.int .i64 x_2),(100,.bool rg.1)] ∧ Ctx G (.box b_6 [.int .i64 r_5.Left,.int .i64 r_5.Right,.slice (some ⟨g_4,0,none⟩) x_5.length c_8] 102::.row p_5 c_5 (r_3.1.Verticals.map enc_gauge_Vertical) 107 5::.row (some ⟨g_4,0,none⟩) c_8 (x_5.map enc_gauge_Vertical) 107 5::.box b_5 [.slice better_p better.length better_c,.int .i64 rg.2.1,.int .i64 rg.2.2] 151::.box b_4 [.int .i64 r_3.1.Left,.int .i64 r_3.1.Right,.slice p_5 r_3.1.Verticals.length c_5] 102::.row p_1 c_1 (r_1.1.At.map encI_i64) 3 1::.row p_16 c_16 (r_1.1.Depth.map encI_i64) 3 1::.row p_4 c_4 (x_1.map encI_i64) 3 1::.box b_2 [.int .i64 r_1.1.Left,.int .i64 r_1.1.Right,.slice p_1 r_1.1.At.length c_1,.slice p_16 r_1.1.Depth.length c_16,.slice p_4 x_1.length c_4] 98::Lf) w) ?_ ?_
   ·clear hF
    have hF := hrg
    clear hrg
    obtain ⟨e_10,he_10,hF⟩ := bnd_some hF
    obtain ⟨g_5,rfl,qa_9,qr_9⟩ := row_atm hc m6 he_10
    cases hb : (decide (e_9.Depth.Lo ≤ e_10))
    ·replace hF := condF hb hF
     try rw [hb] at hf
     try rw [hb] at hc
     have hb3 := hb
     clear hb
     refine regionE (fun θ => (⟨none,none,3,.int .u8 by_⟩::⟨none,none,4,.int .u8 stage⟩::⟨none,none,11,.pointer (some ⟨b_2,0,none⟩)⟩::⟨none,none,14,.pointer (some ⟨b_4,0,none⟩)⟩::⟨none,none,15,.pointer (some ⟨b_5,0,none⟩)⟩::⟨none,none,16,.pointer (some ⟨b_6,0,none⟩)⟩::⟨none,none,17,.int .i64 x_2⟩::⟨none,none,18,.pointer (some ⟨g_4,x_2.toNat * 5,none⟩)⟩::⟨none,none,64,.int .i64 ((r_5.Verticals.length : Nat) : Int)⟩::⟨none,none,65,.int .i64 x_2⟩::⟨some 0,none,72,.pointer (some ⟨g_4,x_2.toNat * 5,none⟩)⟩::⟨some 1,none,73,.pointer (some ⟨g_4,x_2.toNat * 5,none⟩)⟩::⟨some 2,none,74,.pointer (some ⟨g_4,x_2.toNat * 5 + 1,none⟩)⟩::⟨some 3,none,75,.pointer (some ⟨g_4,x_2.toNat * 5 + 1 + 0,none⟩)⟩::⟨some 4,none,76,.int .i64 e_9.Depth.Lo⟩::⟨some 5,none,77,.pointer (some ⟨b_2,3,none⟩)⟩::⟨some 6,none,78,.slice (some ⟨g_5,0,none⟩) r_1.1.Depth.length c_7⟩::⟨some 7,none,79,.int .i64 x_2⟩::⟨some 8,none,80,.pointer (some ⟨g_5,x_2.toNat * 1,none⟩)⟩::⟨some 9,none,81,.int .i64 e_10⟩::⟨some 10,none,82,.bool false⟩::⟨some 11,none,83,.bool false⟩::⟨some 12,none,84,undef⟩::⟨some 13,none,85,undef⟩::⟨some 14,none,86,undef⟩::⟨some 15,none,87,undef⟩::⟨some 16,none,88,undef⟩::⟨some 17,none,89,undef⟩::⟨some 18,none,90,undef⟩::⟨some 19,none,91,undef⟩::⟨some 20,none,92,undef⟩::⟨some 21,none,93,undef⟩::⟨some 22,none,94,undef⟩::⟨some 23,none,95,.bool false⟩::⟨some 24,none,96,.bool false⟩::⟨some 25,none,97,undef⟩::⟨some 26,none,98,undef⟩::⟨some 27,none,99,undef⟩::⟨some 28,none,100,.bool false⟩::[])) (fun E θ => .box b_6 [.int .i64 r_5.Left,.int .i64 r_5.Right,.slice (some ⟨g_4,0,none⟩) x_5.length c_8] 102::.row p_5 c_5 (r_3.1.Verticals.map enc_gauge_Vertical) 107 5::.row (some ⟨g_4,0,none⟩) c_8 (x_5.map enc_gauge_Vertical) 107 5::.box b_5 [.slice better_p better.length better_c,.int .i64 x_3,.int .i64 x_4] 151::.box b_4 [.int .i64 r_3.1.Left,.int .i64 r_3.1.Right,.slice p_5 r_3.1.Verticals.length c_5] 102::.row p_1 c_1 (r_1.1.At.map encI_i64) 3 1::.row (some ⟨g_5,0,none⟩) c_7 (r_1.1.Depth.map encI_i64) 3 1::.row p_4 c_4 (x_1.map encI_i64) 3 1::.box b_2 [.int .i64 r_1.1.Left,.int .i64 r_1.1.Right,.slice p_1 r_1.1.At.length c_1,.slice (some ⟨g_5,0,none⟩) r_1.1.Depth.length c_7,.slice p_4 x_1.length c_4] 98::Lf) [] (fun a w => Has 274 a [(3,.int .u8 by_),(4,.int .u8 stage),(11,.pointer (some ⟨b_2,0,none⟩)),(14,.pointer (some ⟨b_4,0,none⟩)),(15,.pointer (some ⟨b_5,0,none⟩)),(16,.pointer (some ⟨b_6,0,none⟩)),(17,.int .i64 x_2),(18,.pointer (some ⟨g_4,x_2.toNat * 5,none⟩)),(64,.int .i64 ((r_5.Verticals.length : Nat) : Int)),(65,.int .i64 x_2),(84,undef),(85,undef),(86,undef),(87,undef),(88,undef),(89,undef),(90,undef),(91,undef),(92,undef),(93,undef),(94,undef),(97,undef),(98,undef),(99,undef),(100,.bool false)] ∧ Ctx G (.box b_6 [.int .i64 r_5.Left,.int .i64 r_5.Right,.slice (some ⟨g_4,0,none⟩) x_5.length c_8] 102::.row p_5 c_5 (r_3.1.Verticals.map enc_gauge_Vertical) 107 5::.row (some ⟨g_4,0,none⟩) c_8 (x_5.map enc_gauge_Vertical) 107 5::.box b_5 [.slice better_p better.length better_c,.int .i64 x_3,.int .i64 x_4] 151::.box b_4 [.int .i64 r_3.1.Left,.int .i64 r_3.1.Right,.slice p_5 r_3.1.Verticals.length c_5] 102::.row p_1 c_1 (r_1.1.At.map encI_i64) 3 1::.row (some ⟨g_5,0,none⟩) c_7 (r_1.1.Depth.map encI_i64) 3 1::.row p_4 c_4 (x_1.map encI_i64) 3 1::.box b_2 [.int .i64 r_1.1.Left,.int .i64 r_1.1.Right,.slice p_1 r_1.1.At.length c_1,.slice (some ⟨g_5,0,none⟩) r_1.1.Depth.length c_7,.slice p_4 x_1.length c_4] 98::Lf) w) follows_mx (by kernel_rfl) (by kernel_rfl) (HasE.of hf ⟨rfl,rfl,rfl,rfl,rfl,rfl,rfl,rfl,rfl,rfl,trivial,trivial,trivial,trivial,trivial,trivial,trivial,trivial,trivial,trivial,trivial,trivial,trivial,trivial,trivial,trivial,trivial,trivial,trivial,trivial,trivial,trivial,trivial,trivial,trivial,trivial,trivial,trivial,trivial,trivial⟩) hc ⟨?_,?_,?_,?_,?_,?_,?_,?_,?_,?_,?_,?_,?_,?_,?_,?_,?_,?_,?_,?_,?_,?_,?_,?_,?_,?_,?_,?_,?_,trivial⟩ ?_ ?_
     ·intro E θ a w hD hi hp he hc
      have hf := he.h0
      replace hf := hf.more he 7 rfl onT
      refine stP hf rfl rfl rfl (pM rfl) fun a hf => cNil ?_
      refine xThenN ?_
      intro ds u hau
      refine ⟨θ,he.put0 hi hau hf rfl 10 rfl rfl,?_⟩
      exact hc
     ·intro E θ a w hD hi hp he hc
      have e0 := hp.of (k := 0) rfl
      have hf := he.h0
      replace hf := hf.more he 10 rfl (onP e0)
      refine stP hf rfl rfl rfl (pNC rfl) fun a hf => cNil ?_
      refine xThenN ?_
      intro ds u hau
      refine ⟨θ,he.put0 hi hau hf rfl 11 rfl rfl,?_⟩
      exact hc
     ·intro E θ a w hD hi hp he hc
      have e1 := hp.of (k := 1) rfl
      have hf := he.h0
      replace hf := hf.more he 11 rfl (onP e1)
      refine stP hf rfl rfl rfl (pFA fa_107_1 rfl) fun a hf => cNil ?_
      refine xThenN ?_
      intro ds u hau
      refine ⟨θ,he.put0 hi hau hf rfl 12 rfl rfl,?_⟩
      exact hc
     ·intro E θ a w hD hi hp he hc
      have e2 := hp.of (k := 2) rfl
      have hf := he.h0
      replace hf := hf.more he 12 rfl (onP e2)
      refine stP hf rfl rfl rfl (pFA fa_50_0 rfl) fun a hf => cNil ?_
      refine xThenN ?_
      intro ds u hau
      refine ⟨θ,he.put0 hi hau hf rfl 13 rfl rfl,?_⟩
      exact hc
     ·intro E θ a w hD hi hp he hc
      have e3 := hp.of (k := 3) rfl
      have hf := he.h0
      replace hf := hf.more he 13 rfl (onP e3)
      refine stE hf hc rfl rfl rfl (eLd1 sc_3 rfl (cell_row (sz := 5) (i := x_2.toNat) (j := 1) m2 qr_8 rfl)) fun a w hf hc => cNil ?_
      refine xThenN ?_
      intro ds u hau
      refine ⟨θ,he.put0 hi hau hf rfl 14 rfl rfl,?_⟩
      exact hc
     ·intro E θ a w hD hi hp he hc
      have hf := he.h0
      replace hf := hf.more he 2 rfl onT
      refine stP hf rfl rfl rfl (pFA fa_98_3 rfl) fun a hf => cNil ?_
      refine xThenN ?_
      intro ds u hau
      refine ⟨θ,he.put0 hi hau hf rfl 15 rfl rfl,?_⟩
      exact hc
     ·intro E θ a w hD hi hp he hc
      have e5 := hp.of (k := 5) rfl
      have hf := he.h0
      replace hf := hf.more he 15 rfl (onP e5)
      refine stE hf hc rfl rfl rfl (eLd1 sc_61 rfl (cell_box m8 rfl)) fun a w hf hc => cNil ?_
      refine xThenN ?_
      intro ds u hau
      refine ⟨θ,he.put0 hi hau hf rfl 16 rfl rfl,?_⟩
      exact hc
     ·intro E θ a w hD hi hp he hc
      have hf := he.h0
      replace hf := hf.more he 6 rfl onT
      refine stP hf rfl rfl rfl (pM rfl) fun a hf => cNil ?_
      refine xThenN ?_
      intro ds u hau
      refine ⟨θ,he.put0 hi hau hf rfl 17 rfl rfl,?_⟩
      exact hc
     ·intro E θ a w hD hi hp he hc
      have e6 := hp.of (k := 6) rfl
      have e7 := hp.of (k := 7) rfl
      have hf := he.h0
      replace hf := hf.more he 16 rfl (onP e6)
      replace hf := hf.more he 17 rfl (onP e7)
      refine stP hf rfl rfl rfl (pIA Try.underlying61 sz_3 rfl rfl qa_9) fun a hf => cNil ?_
      refine xThenN ?_
      intro ds u hau
      refine ⟨θ,he.put0 hi hau hf rfl 18 rfl rfl,?_⟩
      exact hc
     ·intro E θ a w hD hi hp he hc
      have e8 := hp.of (k := 8) rfl
      have hf := he.h0
      replace hf := hf.more he 18 rfl (onP e8)
      refine stE hf hc rfl rfl rfl (eLd1 sc_3 rfl (cell_row (sz := 1) (i := x_2.toNat) (j := 0) m6 qr_9 rfl)) fun a w hf hc => cNil ?_
      refine xThenN ?_
      intro ds u hau
      refine ⟨θ,he.put0 hi hau hf rfl 19 rfl rfl,?_⟩
      exact hc
     ·intro E θ a w hD hi hp he hc
      have e4 := hp.of (k := 4) rfl
      have e9 := hp.of (k := 9) rfl
      have hf := he.h0
      replace hf := hf.more he 14 rfl (onP e4)
      replace hf := hf.more he 19 rfl (onP e9)
      refine stP hf rfl rfl rfl (pLe rfl rfl) fun a hf => ?_
      rw [hb3] at hf
      refine cNil ?_
      refine xThenN ?_
      intro ds u hau
      refine ⟨θ,he.put0 hi hau hf rfl 20 rfl rfl,?_⟩
      exact hc
     ·intro E θ a w hD hi hp he hc
      have e10 := hp.of (k := 10) rfl
      have hf := he.h0
      replace hf := hf.more he 20 rfl (onP e10)
      refine stP hf rfl rfl rfl (pM rfl) fun a hf => cNil ?_
      refine xThenN ?_
      intro ds u hau
      refine ⟨θ,he.put0 hi hau hf rfl 21 rfl rfl,?_⟩
      exact hc
     ·intro E θ a w hD hi hp he hc
      have e11 := hp.of (k := 11) rfl
      have hf := he.h0
      replace hf := hf.more he 7 rfl onT
      replace hf := hf.more he 21 rfl (onP e11)
      refine stS hf rfl rfl rfl fun a hf => cNil ?_
      refine xThenN ?_
      intro ds u hau
      refine ⟨θ,he.put0 hi hau hf rfl 22 rfl rfl,?_⟩
      exact hc
     ·intro E θ a w hD hi hp he hc
      have e11 := hp.of (k := 11) rfl
      have e12 := hp.of (k := 12) rfl
      have hf := he.h0
      replace hf := hf.more he 21 rfl (onP e11)
      replace hf := hf.more he 22 rfl (onP e12)
      refine stS hf rfl rfl rfl fun a hf => cNil ?_
      refine xThenN ?_
      intro ds u hau
      refine ⟨θ,he.put0 hi hau hf rfl 23 rfl rfl,?_⟩
      exact hc
     ·intro E θ a w hD hi hp he hc
      have e11 := hp.of (k := 11) rfl
      have e13 := hp.of (k := 13) rfl
      have hf := he.h0
      replace hf := hf.more he 21 rfl (onP e11)
      replace hf := hf.more he 23 rfl (onP e13)
      refine stS hf rfl rfl rfl fun a hf => cNil ?_
      refine xThenN ?_
      intro ds u hau
      refine ⟨θ,he.put0 hi hau hf rfl 24 rfl rfl,?_⟩
      exact hc
     ·intro E θ a w hD hi hp he hc
      have e11 := hp.of (k := 11) rfl
      have e14 := hp.of (k := 14) rfl
      have hf := he.h0
      replace hf := hf.more he 21 rfl (onP e11)
      replace hf := hf.more he 24 rfl (onP e14)
      refine stS hf rfl rfl rfl fun a hf => cNil ?_
      refine xThenN ?_
      intro ds u hau
      refine ⟨θ,he.put0 hi hau hf rfl 25 rfl rfl,?_⟩
      exact hc
     ·intro E θ a w hD hi hp he hc
      have e11 := hp.of (k := 11) rfl
      have e15 := hp.of (k := 15) rfl
      have hf := he.h0
      replace hf := hf.more he 21 rfl (onP e11)
      replace hf := hf.more he 25 rfl (onP e15)
      refine stS hf rfl rfl rfl fun a hf => cNil ?_
      refine xThenN ?_
      intro ds u hau
      refine ⟨θ,he.put0 hi hau hf rfl 26 rfl rfl,?_⟩
      exact hc
     ·intro E θ a w hD hi hp he hc
      have e11 := hp.of (k := 11) rfl
      have hf := he.h0
      replace hf := hf.more he 2 rfl onT
      replace hf := hf.more he 21 rfl (onP e11)
      refine stS hf rfl rfl rfl fun a hf => cNil ?_
      refine xThenN ?_
      intro ds u hau
      refine ⟨θ,he.put0 hi hau hf rfl 27 rfl rfl,?_⟩
      exact hc
     ·intro E θ a w hD hi hp he hc
      have e11 := hp.of (k := 11) rfl
      have e17 := hp.of (k := 17) rfl
      have hf := he.h0
      replace hf := hf.more he 21 rfl (onP e11)
      replace hf := hf.more he 27 rfl (onP e17)
      refine stS hf rfl rfl rfl fun a hf => cNil ?_
      refine xThenN ?_
      intro ds u hau
      refine ⟨θ,he.put0 hi hau hf rfl 28 rfl rfl,?_⟩
      exact hc
     ·intro E θ a w hD hi hp he hc
      have e11 := hp.of (k := 11) rfl
      have hf := he.h0
      replace hf := hf.more he 6 rfl onT
      replace hf := hf.more he 21 rfl (onP e11)
      refine stS hf rfl rfl rfl fun a hf => cNil ?_
      refine xThenN ?_
      intro ds u hau
      refine ⟨θ,he.put0 hi hau hf rfl 29 rfl rfl,?_⟩
      exact hc
     ·intro E θ a w hD hi hp he hc
      have e11 := hp.of (k := 11) rfl
      have e18 := hp.of (k := 18) rfl
      have e19 := hp.of (k := 19) rfl
      have hf := he.h0
      replace hf := hf.more he 21 rfl (onP e11)
      replace hf := hf.more he 28 rfl (onP e18)
      replace hf := hf.more he 29 rfl (onP e19)
      refine stS hf rfl rfl rfl fun a hf => cNil ?_
      refine xThenN ?_
      intro ds u hau
      refine ⟨θ,he.put0 hi hau hf rfl 30 rfl rfl,?_⟩
      exact hc
     ·intro E θ a w hD hi hp he hc
      have e11 := hp.of (k := 11) rfl
      have e20 := hp.of (k := 20) rfl
      have hf := he.h0
      replace hf := hf.more he 21 rfl (onP e11)
      replace hf := hf.more he 30 rfl (onP e20)
      refine stS hf rfl rfl rfl fun a hf => cNil ?_
      refine xThenN ?_
      intro ds u hau
      refine ⟨θ,he.put0 hi hau hf rfl 31 rfl rfl,?_⟩
      exact hc
     ·intro E θ a w hD hi hp he hc
      have e11 := hp.of (k := 11) rfl
      have e16 := hp.of (k := 16) rfl
      have e21 := hp.of (k := 21) rfl
      have hf := he.h0
      replace hf := hf.more he 21 rfl (onP e11)
      replace hf := hf.more he 26 rfl (onP e16)
      replace hf := hf.more he 31 rfl (onP e21)
      refine stS hf rfl rfl rfl fun a hf => cNil ?_
      refine xThenN ?_
      intro ds u hau
      refine ⟨θ,he.put0 hi hau hf rfl 32 rfl rfl,?_⟩
      exact hc
     ·intro E θ a w hD hi hp he hc
      have e11 := hp.of (k := 11) rfl
      have e22 := hp.of (k := 22) rfl
      have hf := he.h0
      replace hf := hf.more he 21 rfl (onP e11)
      replace hf := hf.more he 32 rfl (onP e22)
      refine stP hf rfl rfl rfl (pPf rfl rfl) fun a hf => cNil ?_
      refine xThenN ?_
      intro ds u hau
      refine ⟨θ,he.put0 hi hau hf rfl 33 rfl rfl,?_⟩
      exact hc
     ·intro E θ a w hD hi hp he hc
      have e23 := hp.of (k := 23) rfl
      have hf := he.h0
      replace hf := hf.more he 33 rfl (onP e23)
      refine stP hf rfl rfl rfl (pM rfl) fun a hf => cNil ?_
      refine xThenN ?_
      intro ds u hau
      refine ⟨θ,he.put0 hi hau hf rfl 34 rfl rfl,?_⟩
      exact hc
     ·intro E θ a w hD hi hp he hc
      have e24 := hp.of (k := 24) rfl
      have hf := he.h0
      replace hf := hf.more he 4 rfl onT
      replace hf := hf.more he 34 rfl (onP e24)
      refine stS hf rfl rfl rfl fun a hf => cNil ?_
      refine xThenN ?_
      intro ds u hau
      refine ⟨θ,he.put0 hi hau hf rfl 35 rfl rfl,?_⟩
      exact hc
     ·intro E θ a w hD hi hp he hc
      have e24 := hp.of (k := 24) rfl
      have e25 := hp.of (k := 25) rfl
      have hf := he.h0
      replace hf := hf.more he 34 rfl (onP e24)
      replace hf := hf.more he 35 rfl (onP e25)
      refine stS hf rfl rfl rfl fun a hf => cNil ?_
      refine xThenN ?_
      intro ds u hau
      refine ⟨θ,he.put0 hi hau hf rfl 36 rfl rfl,?_⟩
      exact hc
     ·intro E θ a w hD hi hp he hc
      have e24 := hp.of (k := 24) rfl
      have e26 := hp.of (k := 26) rfl
      have hf := he.h0
      replace hf := hf.more he 34 rfl (onP e24)
      replace hf := hf.more he 36 rfl (onP e26)
      refine stS hf rfl rfl rfl fun a hf => cNil ?_
      refine xThenN ?_
      intro ds u hau
      refine ⟨θ,he.put0 hi hau hf rfl 37 rfl rfl,?_⟩
      exact hc
     ·intro E θ a w hD hi hp he hc
      have e24 := hp.of (k := 24) rfl
      have e27 := hp.of (k := 27) rfl
      have hf := he.h0
      replace hf := hf.more he 34 rfl (onP e24)
      replace hf := hf.more he 37 rfl (onP e27)
      refine stP hf rfl rfl rfl (pPf rfl rfl) fun a hf => cNil ?_
      refine xThenN ?_
      intro ds u hau
      refine ⟨θ,he.put0 hi hau hf rfl 38 rfl rfl,?_⟩
      exact hc
     ·intro E θ a w hall he hc
      have hf := he.h0
      have e12 := hall 12 rfl
      have e13 := hall 13 rfl
      have e14 := hall 14 rfl
      have e15 := hall 15 rfl
      have e16 := hall 16 rfl
      have e17 := hall 17 rfl
      have e18 := hall 18 rfl
      have e19 := hall 19 rfl
      have e20 := hall 20 rfl
      have e21 := hall 21 rfl
      have e22 := hall 22 rfl
      have e25 := hall 25 rfl
      have e26 := hall 26 rfl
      have e27 := hall 27 rfl
      have e28 := hall 28 rfl
      replace hf := hf.more he 38 rfl (onP e28)
      replace hf := hf.more he 37 rfl (onP e27)
      replace hf := hf.more he 36 rfl (onP e26)
      replace hf := hf.more he 35 rfl (onP e25)
      replace hf := hf.more he 32 rfl (onP e22)
      replace hf := hf.more he 31 rfl (onP e21)
      replace hf := hf.more he 30 rfl (onP e20)
      replace hf := hf.more he 29 rfl (onP e19)
      replace hf := hf.more he 28 rfl (onP e18)
      replace hf := hf.more he 27 rfl (onP e17)
      replace hf := hf.more he 26 rfl (onP e16)
      replace hf := hf.more he 25 rfl (onP e15)
      replace hf := hf.more he 24 rfl (onP e14)
      replace hf := hf.more he 23 rfl (onP e13)
      replace hf := hf.more he 22 rfl (onP e12)
      replace hf := hf.more he 9 rfl (onT)
      replace hf := hf.more he 8 rfl (onT)
      replace hf := hf.more he 7 rfl (onT)
      replace hf := hf.more he 6 rfl (onT)
      replace hf := hf.more he 5 rfl (onT)
      replace hf := hf.more he 4 rfl (onT)
      replace hf := hf.more he 3 rfl (onT)
      replace hf := hf.more he 2 rfl (onT)
      replace hf := hf.more he 1 rfl (onT)
      replace hf := hf.more he 0 rfl (onT)
      exact ⟨hf.keep ⟨rfl,rfl,rfl,rfl,rfl,rfl,rfl,rfl,rfl,rfl,rfl,rfl,rfl,rfl,rfl,rfl,rfl,rfl,rfl,rfl,rfl,rfl,rfl,rfl,rfl,trivial⟩,hc⟩
     rintro a w ⟨hf,hc⟩
     refine xThenN ?_
     obtain rfl := Option.some.inj hF
     exact ⟨(some ⟨g_5,0,none⟩),c_7,hf.keep ⟨rfl,rfl,rfl,rfl,rfl,rfl,rfl,rfl,rfl,rfl,rfl,trivial⟩,hc⟩
    ·replace hF := condT hb hF
     try rw [hb] at hf
     try rw [hb] at hc
     have hb3 := hb
     clear hb
     cases hb : (decide (e_10 ≤ e_9.Depth.Hi))
     ·replace hF := condF hb hF
      try rw [hb] at hf
      try rw [hb] at hc
      have hb4 := hb
      clear hb
      refine regionE (fun θ => (⟨none,none,3,.int .u8 by_⟩::⟨none,none,4,.int .u8 stage⟩::⟨none,none,11,.pointer (some ⟨b_2,0,none⟩)⟩::⟨none,none,14,.pointer (some ⟨b_4,0,none⟩)⟩::⟨none,none,15,.pointer (some ⟨b_5,0,none⟩)⟩::⟨none,none,16,.pointer (some ⟨b_6,0,none⟩)⟩::⟨none,none,17,.int .i64 x_2⟩::⟨none,none,18,.pointer (some ⟨g_4,x_2.toNat * 5,none⟩)⟩::⟨none,none,64,.int .i64 ((r_5.Verticals.length : Nat) : Int)⟩::⟨none,none,65,.int .i64 x_2⟩::⟨some 0,none,72,.pointer (some ⟨g_4,x_2.toNat * 5,none⟩)⟩::⟨some 1,none,73,.pointer (some ⟨g_4,x_2.toNat * 5,none⟩)⟩::⟨some 2,none,74,.pointer (some ⟨g_4,x_2.toNat * 5 + 1,none⟩)⟩::⟨some 3,none,75,.pointer (some ⟨g_4,x_2.toNat * 5 + 1 + 0,none⟩)⟩::⟨some 4,none,76,.int .i64 e_9.Depth.Lo⟩::⟨some 5,none,77,.pointer (some ⟨b_2,3,none⟩)⟩::⟨some 6,none,78,.slice (some ⟨g_5,0,none⟩) r_1.1.Depth.length c_7⟩::⟨some 7,none,79,.int .i64 x_2⟩::⟨some 8,none,80,.pointer (some ⟨g_5,x_2.toNat * 1,none⟩)⟩::⟨some 9,none,81,.int .i64 e_10⟩::⟨some 10,none,82,.bool true⟩::⟨some 11,none,83,.bool true⟩::⟨some 12,none,84,.pointer (some ⟨g_4,x_2.toNat * 5,none⟩)⟩::⟨some 13,none,85,.pointer (some ⟨g_4,x_2.toNat * 5,none⟩)⟩::⟨some 14,none,86,.pointer (some ⟨g_4,x_2.toNat * 5 + 1,none⟩)⟩::⟨some 15,none,87,.pointer (some ⟨g_4,x_2.toNat * 5 + 1 + 1,none⟩)⟩::⟨some 16,none,88,.int .i64 e_9.Depth.Hi⟩::⟨some 17,none,89,.pointer (some ⟨b_2,3,none⟩)⟩::⟨some 18,none,90,.slice (some ⟨g_5,0,none⟩) r_1.1.Depth.length c_7⟩::⟨some 19,none,91,.int .i64 x_2⟩::⟨some 20,none,92,.pointer (some ⟨g_5,x_2.toNat * 1,none⟩)⟩::⟨some 21,none,93,.int .i64 e_10⟩::⟨some 22,none,94,.bool false⟩::⟨some 23,none,95,.bool false⟩::⟨some 24,none,96,.bool false⟩::⟨some 25,none,97,undef⟩::⟨some 26,none,98,undef⟩::⟨some 27,none,99,undef⟩::⟨some 28,none,100,.bool false⟩::[])) (fun E θ => .box b_6 [.int .i64 r_5.Left,.int .i64 r_5.Right,.slice (some ⟨g_4,0,none⟩) x_5.length c_8] 102::.row p_5 c_5 (r_3.1.Verticals.map enc_gauge_Vertical) 107 5::.row (some ⟨g_4,0,none⟩) c_8 (x_5.map enc_gauge_Vertical) 107 5::.box b_5 [.slice better_p better.length better_c,.int .i64 x_3,.int .i64 x_4] 151::.box b_4 [.int .i64 r_3.1.Left,.int .i64 r_3.1.Right,.slice p_5 r_3.1.Verticals.length c_5] 102::.row p_1 c_1 (r_1.1.At.map encI_i64) 3 1::.row (some ⟨g_5,0,none⟩) c_7 (r_1.1.Depth.map encI_i64) 3 1::.row p_4 c_4 (x_1.map encI_i64) 3 1::.box b_2 [.int .i64 r_1.1.Left,.int .i64 r_1.1.Right,.slice p_1 r_1.1.At.length c_1,.slice (some ⟨g_5,0,none⟩) r_1.1.Depth.length c_7,.slice p_4 x_1.length c_4] 98::Lf) [] (fun a w => Has 274 a [(3,.int .u8 by_),(4,.int .u8 stage),(11,.pointer (some ⟨b_2,0,none⟩)),(14,.pointer (some ⟨b_4,0,none⟩)),(15,.pointer (some ⟨b_5,0,none⟩)),(16,.pointer (some ⟨b_6,0,none⟩)),(17,.int .i64 x_2),(18,.pointer (some ⟨g_4,x_2.toNat * 5,none⟩)),(64,.int .i64 ((r_5.Verticals.length : Nat) : Int)),(65,.int .i64 x_2),(84,.pointer (some ⟨g_4,x_2.toNat * 5,none⟩)),(85,.pointer (some ⟨g_4,x_2.toNat * 5,none⟩)),(86,.pointer (some ⟨g_4,x_2.toNat * 5 + 1,none⟩)),(87,.pointer (some ⟨g_4,x_2.toNat * 5 + 1 + 1,none⟩)),(88,.int .i64 e_9.Depth.Hi),(89,.pointer (some ⟨b_2,3,none⟩)),(90,.slice (some ⟨g_5,0,none⟩) r_1.1.Depth.length c_7),(91,.int .i64 x_2),(92,.pointer (some ⟨g_5,x_2.toNat * 1,none⟩)),(93,.int .i64 e_10),(94,.bool false),(97,undef),(98,undef),(99,undef),(100,.bool false)] ∧ Ctx G (.box b_6 [.int .i64 r_5.Left,.int .i64 r_5.Right,.slice (some ⟨g_4,0,none⟩) x_5.length c_8] 102::.row p_5 c_5 (r_3.1.Verticals.map enc_gauge_Vertical) 107 5::.row (some ⟨g_4,0,none⟩) c_8 (x_5.map enc_gauge_Vertical) 107 5::.box b_5 [.slice better_p better.length better_c,.int .i64 x_3,.int .i64 x_4] 151::.box b_4 [.int .i64 r_3.1.Left,.int .i64 r_3.1.Right,.slice p_5 r_3.1.Verticals.length c_5] 102::.row p_1 c_1 (r_1.1.At.map encI_i64) 3 1::.row (some ⟨g_5,0,none⟩) c_7 (r_1.1.Depth.map encI_i64) 3 1::.row p_4 c_4 (x_1.map encI_i64) 3 1::.box b_2 [.int .i64 r_1.1.Left,.int .i64 r_1.1.Right,.slice p_1 r_1.1.At.length c_1,.slice (some ⟨g_5,0,none⟩) r_1.1.Depth.length c_7,.slice p_4 x_1.length c_4] 98::Lf) w) follows_mx (by kernel_rfl) (by kernel_rfl) (HasE.of hf ⟨rfl,rfl,rfl,rfl,rfl,rfl,rfl,rfl,rfl,rfl,trivial,trivial,trivial,trivial,trivial,trivial,trivial,trivial,trivial,trivial,trivial,trivial,trivial,trivial,trivial,trivial,trivial,trivial,trivial,trivial,trivial,trivial,trivial,trivial,trivial,trivial,trivial,trivial,trivial,trivial⟩) hc ⟨?_,?_,?_,?_,?_,?_,?_,?_,?_,?_,?_,?_,?_,?_,?_,?_,?_,?_,?_,?_,?_,?_,?_,?_,?_,?_,?_,?_,?_,trivial⟩ ?_ ?_
      ·intro E θ a w hD hi hp he hc
       have hf := he.h0
       replace hf := hf.more he 7 rfl onT
       refine stP hf rfl rfl rfl (pM rfl) fun a hf => cNil ?_
       refine xThenN ?_
       intro ds u hau
       refine ⟨θ,he.put0 hi hau hf rfl 10 rfl rfl,?_⟩
       exact hc
      ·intro E θ a w hD hi hp he hc
       have e0 := hp.of (k := 0) rfl
       have hf := he.h0
       replace hf := hf.more he 10 rfl (onP e0)
       refine stP hf rfl rfl rfl (pNC rfl) fun a hf => cNil ?_
       refine xThenN ?_
       intro ds u hau
       refine ⟨θ,he.put0 hi hau hf rfl 11 rfl rfl,?_⟩
       exact hc
      ·intro E θ a w hD hi hp he hc
       have e1 := hp.of (k := 1) rfl
       have hf := he.h0
       replace hf := hf.more he 11 rfl (onP e1)
       refine stP hf rfl rfl rfl (pFA fa_107_1 rfl) fun a hf => cNil ?_
       refine xThenN ?_
       intro ds u hau
       refine ⟨θ,he.put0 hi hau hf rfl 12 rfl rfl,?_⟩
       exact hc
      ·intro E θ a w hD hi hp he hc
       have e2 := hp.of (k := 2) rfl
       have hf := he.h0
       replace hf := hf.more he 12 rfl (onP e2)
       refine stP hf rfl rfl rfl (pFA fa_50_0 rfl) fun a hf => cNil ?_
       refine xThenN ?_
       intro ds u hau
       refine ⟨θ,he.put0 hi hau hf rfl 13 rfl rfl,?_⟩
       exact hc
      ·intro E θ a w hD hi hp he hc
       have e3 := hp.of (k := 3) rfl
       have hf := he.h0
       replace hf := hf.more he 13 rfl (onP e3)
       refine stE hf hc rfl rfl rfl (eLd1 sc_3 rfl (cell_row (sz := 5) (i := x_2.toNat) (j := 1) m2 qr_8 rfl)) fun a w hf hc => cNil ?_
       refine xThenN ?_
       intro ds u hau
       refine ⟨θ,he.put0 hi hau hf rfl 14 rfl rfl,?_⟩
       exact hc
      ·intro E θ a w hD hi hp he hc
       have hf := he.h0
       replace hf := hf.more he 2 rfl onT
       refine stP hf rfl rfl rfl (pFA fa_98_3 rfl) fun a hf => cNil ?_
       refine xThenN ?_
       intro ds u hau
       refine ⟨θ,he.put0 hi hau hf rfl 15 rfl rfl,?_⟩
       exact hc
      ·intro E θ a w hD hi hp he hc
       have e5 := hp.of (k := 5) rfl
       have hf := he.h0
       replace hf := hf.more he 15 rfl (onP e5)
       refine stE hf hc rfl rfl rfl (eLd1 sc_61 rfl (cell_box m8 rfl)) fun a w hf hc => cNil ?_
       refine xThenN ?_
       intro ds u hau
       refine ⟨θ,he.put0 hi hau hf rfl 16 rfl rfl,?_⟩
       exact hc
      ·intro E θ a w hD hi hp he hc
       have hf := he.h0
       replace hf := hf.more he 6 rfl onT
       refine stP hf rfl rfl rfl (pM rfl) fun a hf => cNil ?_
       refine xThenN ?_
       intro ds u hau
       refine ⟨θ,he.put0 hi hau hf rfl 17 rfl rfl,?_⟩
       exact hc
      ·intro E θ a w hD hi hp he hc
       have e6 := hp.of (k := 6) rfl
       have e7 := hp.of (k := 7) rfl
       have hf := he.h0
       replace hf := hf.more he 16 rfl (onP e6)
       replace hf := hf.more he 17 rfl (onP e7)
       refine stP hf rfl rfl rfl (pIA Try.underlying61 sz_3 rfl rfl qa_9) fun a hf => cNil ?_
       refine xThenN ?_
       intro ds u hau
       refine ⟨θ,he.put0 hi hau hf rfl 18 rfl rfl,?_⟩
       exact hc
      ·intro E θ a w hD hi hp he hc
       have e8 := hp.of (k := 8) rfl
       have hf := he.h0
       replace hf := hf.more he 18 rfl (onP e8)
       refine stE hf hc rfl rfl rfl (eLd1 sc_3 rfl (cell_row (sz := 1) (i := x_2.toNat) (j := 0) m6 qr_9 rfl)) fun a w hf hc => cNil ?_
       refine xThenN ?_
       intro ds u hau
       refine ⟨θ,he.put0 hi hau hf rfl 19 rfl rfl,?_⟩
       exact hc
      ·intro E θ a w hD hi hp he hc
       have e4 := hp.of (k := 4) rfl
       have e9 := hp.of (k := 9) rfl
       have hf := he.h0
       replace hf := hf.more he 14 rfl (onP e4)
       replace hf := hf.more he 19 rfl (onP e9)
       refine stP hf rfl rfl rfl (pLe rfl rfl) fun a hf => ?_
       rw [hb3] at hf
       refine cNil ?_
       refine xThenN ?_
       intro ds u hau
       refine ⟨θ,he.put0 hi hau hf rfl 20 rfl rfl,?_⟩
       exact hc
      ·intro E θ a w hD hi hp he hc
       have e10 := hp.of (k := 10) rfl
       have hf := he.h0
       replace hf := hf.more he 20 rfl (onP e10)
       refine stP hf rfl rfl rfl (pM rfl) fun a hf => cNil ?_
       refine xThenN ?_
       intro ds u hau
       refine ⟨θ,he.put0 hi hau hf rfl 21 rfl rfl,?_⟩
       exact hc
      ·intro E θ a w hD hi hp he hc
       have e11 := hp.of (k := 11) rfl
       have hf := he.h0
       replace hf := hf.more he 7 rfl onT
       replace hf := hf.more he 21 rfl (onP e11)
       refine stP hf rfl rfl rfl (pM rfl) fun a hf => cNil ?_
       refine xThenN ?_
       intro ds u hau
       refine ⟨θ,he.put0 hi hau hf rfl 22 rfl rfl,?_⟩
       exact hc
      ·intro E θ a w hD hi hp he hc
       have e11 := hp.of (k := 11) rfl
       have e12 := hp.of (k := 12) rfl
       have hf := he.h0
       replace hf := hf.more he 21 rfl (onP e11)
       replace hf := hf.more he 22 rfl (onP e12)
       refine stP hf rfl rfl rfl (pNC rfl) fun a hf => cNil ?_
       refine xThenN ?_
       intro ds u hau
       refine ⟨θ,he.put0 hi hau hf rfl 23 rfl rfl,?_⟩
       exact hc
      ·intro E θ a w hD hi hp he hc
       have e11 := hp.of (k := 11) rfl
       have e13 := hp.of (k := 13) rfl
       have hf := he.h0
       replace hf := hf.more he 21 rfl (onP e11)
       replace hf := hf.more he 23 rfl (onP e13)
       refine stP hf rfl rfl rfl (pFA fa_107_1 rfl) fun a hf => cNil ?_
       refine xThenN ?_
       intro ds u hau
       refine ⟨θ,he.put0 hi hau hf rfl 24 rfl rfl,?_⟩
       exact hc
      ·intro E θ a w hD hi hp he hc
       have e11 := hp.of (k := 11) rfl
       have e14 := hp.of (k := 14) rfl
       have hf := he.h0
       replace hf := hf.more he 21 rfl (onP e11)
       replace hf := hf.more he 24 rfl (onP e14)
       refine stP hf rfl rfl rfl (pFA fa_50_1 rfl) fun a hf => cNil ?_
       refine xThenN ?_
       intro ds u hau
       refine ⟨θ,he.put0 hi hau hf rfl 25 rfl rfl,?_⟩
       exact hc
      ·intro E θ a w hD hi hp he hc
       have e11 := hp.of (k := 11) rfl
       have e15 := hp.of (k := 15) rfl
       have hf := he.h0
       replace hf := hf.more he 21 rfl (onP e11)
       replace hf := hf.more he 25 rfl (onP e15)
       refine stE hf hc rfl rfl rfl (eLd1 sc_3 rfl (cell_row (sz := 5) (i := x_2.toNat) (j := 2) m2 qr_8 rfl)) fun a w hf hc => cNil ?_
       refine xThenN ?_
       intro ds u hau
       refine ⟨θ,he.put0 hi hau hf rfl 26 rfl rfl,?_⟩
       exact hc
      ·intro E θ a w hD hi hp he hc
       have e11 := hp.of (k := 11) rfl
       have hf := he.h0
       replace hf := hf.more he 2 rfl onT
       replace hf := hf.more he 21 rfl (onP e11)
       refine stP hf rfl rfl rfl (pFA fa_98_3 rfl) fun a hf => cNil ?_
       refine xThenN ?_
       intro ds u hau
       refine ⟨θ,he.put0 hi hau hf rfl 27 rfl rfl,?_⟩
       exact hc
      ·intro E θ a w hD hi hp he hc
       have e11 := hp.of (k := 11) rfl
       have e17 := hp.of (k := 17) rfl
       have hf := he.h0
       replace hf := hf.more he 21 rfl (onP e11)
       replace hf := hf.more he 27 rfl (onP e17)
       refine stE hf hc rfl rfl rfl (eLd1 sc_61 rfl (cell_box m8 rfl)) fun a w hf hc => cNil ?_
       refine xThenN ?_
       intro ds u hau
       refine ⟨θ,he.put0 hi hau hf rfl 28 rfl rfl,?_⟩
       exact hc
      ·intro E θ a w hD hi hp he hc
       have e11 := hp.of (k := 11) rfl
       have hf := he.h0
       replace hf := hf.more he 6 rfl onT
       replace hf := hf.more he 21 rfl (onP e11)
       refine stP hf rfl rfl rfl (pM rfl) fun a hf => cNil ?_
       refine xThenN ?_
       intro ds u hau
       refine ⟨θ,he.put0 hi hau hf rfl 29 rfl rfl,?_⟩
       exact hc
      ·intro E θ a w hD hi hp he hc
       have e11 := hp.of (k := 11) rfl
       have e18 := hp.of (k := 18) rfl
       have e19 := hp.of (k := 19) rfl
       have hf := he.h0
       replace hf := hf.more he 21 rfl (onP e11)
       replace hf := hf.more he 28 rfl (onP e18)
       replace hf := hf.more he 29 rfl (onP e19)
       refine stP hf rfl rfl rfl (pIA Try.underlying61 sz_3 rfl rfl qa_9) fun a hf => cNil ?_
       refine xThenN ?_
       intro ds u hau
       refine ⟨θ,he.put0 hi hau hf rfl 30 rfl rfl,?_⟩
       exact hc
      ·intro E θ a w hD hi hp he hc
       have e11 := hp.of (k := 11) rfl
       have e20 := hp.of (k := 20) rfl
       have hf := he.h0
       replace hf := hf.more he 21 rfl (onP e11)
       replace hf := hf.more he 30 rfl (onP e20)
       refine stE hf hc rfl rfl rfl (eLd1 sc_3 rfl (cell_row (sz := 1) (i := x_2.toNat) (j := 0) m6 qr_9 rfl)) fun a w hf hc => cNil ?_
       refine xThenN ?_
       intro ds u hau
       refine ⟨θ,he.put0 hi hau hf rfl 31 rfl rfl,?_⟩
       exact hc
      ·intro E θ a w hD hi hp he hc
       have e11 := hp.of (k := 11) rfl
       have e16 := hp.of (k := 16) rfl
       have e21 := hp.of (k := 21) rfl
       have hf := he.h0
       replace hf := hf.more he 21 rfl (onP e11)
       replace hf := hf.more he 26 rfl (onP e16)
       replace hf := hf.more he 31 rfl (onP e21)
       refine stP hf rfl rfl rfl (pGe rfl rfl) fun a hf => ?_
       rw [hb4] at hf
       refine cNil ?_
       refine xThenN ?_
       intro ds u hau
       refine ⟨θ,he.put0 hi hau hf rfl 32 rfl rfl,?_⟩
       exact hc
      ·intro E θ a w hD hi hp he hc
       have e11 := hp.of (k := 11) rfl
       have e22 := hp.of (k := 22) rfl
       have hf := he.h0
       replace hf := hf.more he 21 rfl (onP e11)
       replace hf := hf.more he 32 rfl (onP e22)
       refine stP hf rfl rfl rfl (pPt rfl rfl) fun a hf => cNil ?_
       refine xThenN ?_
       intro ds u hau
       refine ⟨θ,he.put0 hi hau hf rfl 33 rfl rfl,?_⟩
       exact hc
      ·intro E θ a w hD hi hp he hc
       have e23 := hp.of (k := 23) rfl
       have hf := he.h0
       replace hf := hf.more he 33 rfl (onP e23)
       refine stP hf rfl rfl rfl (pM rfl) fun a hf => cNil ?_
       refine xThenN ?_
       intro ds u hau
       refine ⟨θ,he.put0 hi hau hf rfl 34 rfl rfl,?_⟩
       exact hc
      ·intro E θ a w hD hi hp he hc
       have e24 := hp.of (k := 24) rfl
       have hf := he.h0
       replace hf := hf.more he 4 rfl onT
       replace hf := hf.more he 34 rfl (onP e24)
       refine stS hf rfl rfl rfl fun a hf => cNil ?_
       refine xThenN ?_
       intro ds u hau
       refine ⟨θ,he.put0 hi hau hf rfl 35 rfl rfl,?_⟩
       exact hc
      ·intro E θ a w hD hi hp he hc
       have e24 := hp.of (k := 24) rfl
       have e25 := hp.of (k := 25) rfl
       have hf := he.h0
       replace hf := hf.more he 34 rfl (onP e24)
       replace hf := hf.more he 35 rfl (onP e25)
       refine stS hf rfl rfl rfl fun a hf => cNil ?_
       refine xThenN ?_
       intro ds u hau
       refine ⟨θ,he.put0 hi hau hf rfl 36 rfl rfl,?_⟩
       exact hc
      ·intro E θ a w hD hi hp he hc
       have e24 := hp.of (k := 24) rfl
       have e26 := hp.of (k := 26) rfl
       have hf := he.h0
       replace hf := hf.more he 34 rfl (onP e24)
       replace hf := hf.more he 36 rfl (onP e26)
       refine stS hf rfl rfl rfl fun a hf => cNil ?_
       refine xThenN ?_
       intro ds u hau
       refine ⟨θ,he.put0 hi hau hf rfl 37 rfl rfl,?_⟩
       exact hc
      ·intro E θ a w hD hi hp he hc
       have e24 := hp.of (k := 24) rfl
       have e27 := hp.of (k := 27) rfl
       have hf := he.h0
       replace hf := hf.more he 34 rfl (onP e24)
       replace hf := hf.more he 37 rfl (onP e27)
       refine stP hf rfl rfl rfl (pPf rfl rfl) fun a hf => cNil ?_
       refine xThenN ?_
       intro ds u hau
       refine ⟨θ,he.put0 hi hau hf rfl 38 rfl rfl,?_⟩
       exact hc
      ·intro E θ a w hall he hc
       have hf := he.h0
       have e12 := hall 12 rfl
       have e13 := hall 13 rfl
       have e14 := hall 14 rfl
       have e15 := hall 15 rfl
       have e16 := hall 16 rfl
       have e17 := hall 17 rfl
       have e18 := hall 18 rfl
       have e19 := hall 19 rfl
       have e20 := hall 20 rfl
       have e21 := hall 21 rfl
       have e22 := hall 22 rfl
       have e25 := hall 25 rfl
       have e26 := hall 26 rfl
       have e27 := hall 27 rfl
       have e28 := hall 28 rfl
       replace hf := hf.more he 38 rfl (onP e28)
       replace hf := hf.more he 37 rfl (onP e27)
       replace hf := hf.more he 36 rfl (onP e26)
       replace hf := hf.more he 35 rfl (onP e25)
       replace hf := hf.more he 32 rfl (onP e22)
       replace hf := hf.more he 31 rfl (onP e21)
       replace hf := hf.more he 30 rfl (onP e20)
       replace hf := hf.more he 29 rfl (onP e19)
       replace hf := hf.more he 28 rfl (onP e18)
       replace hf := hf.more he 27 rfl (onP e17)
       replace hf := hf.more he 26 rfl (onP e16)
       replace hf := hf.more he 25 rfl (onP e15)
       replace hf := hf.more he 24 rfl (onP e14)
       replace hf := hf.more he 23 rfl (onP e13)
       replace hf := hf.more he 22 rfl (onP e12)
       replace hf := hf.more he 9 rfl (onT)
       replace hf := hf.more he 8 rfl (onT)
       replace hf := hf.more he 7 rfl (onT)
       replace hf := hf.more he 6 rfl (onT)
       replace hf := hf.more he 5 rfl (onT)
       replace hf := hf.more he 4 rfl (onT)
       replace hf := hf.more he 3 rfl (onT)
       replace hf := hf.more he 2 rfl (onT)
       replace hf := hf.more he 1 rfl (onT)
       replace hf := hf.more he 0 rfl (onT)
       exact ⟨hf.keep ⟨rfl,rfl,rfl,rfl,rfl,rfl,rfl,rfl,rfl,rfl,rfl,rfl,rfl,rfl,rfl,rfl,rfl,rfl,rfl,rfl,rfl,rfl,rfl,rfl,rfl,trivial⟩,hc⟩
      rintro a w ⟨hf,hc⟩
      refine xThenN ?_
      obtain rfl := Option.some.inj hF
      exact ⟨(some ⟨g_5,0,none⟩),c_7,hf.keep ⟨rfl,rfl,rfl,rfl,rfl,rfl,rfl,rfl,rfl,rfl,rfl,trivial⟩,hc⟩
     ·replace hF := condT hb hF
      try rw [hb] at hf
      try rw [hb] at hc
      have hb4 := hb
      clear hb
      obtain ⟨r_13,hr_13,hF⟩ := bnd_some hF
      refine regionE (fun θ => (⟨none,none,3,.int .u8 by_⟩::⟨none,none,4,.int .u8 stage⟩::⟨none,none,11,.pointer (some ⟨b_2,0,none⟩)⟩::⟨none,none,14,.pointer (some ⟨b_4,0,none⟩)⟩::⟨none,none,15,.pointer (some ⟨b_5,0,none⟩)⟩::⟨none,none,16,.pointer (some ⟨b_6,0,none⟩)⟩::⟨none,none,17,.int .i64 x_2⟩::⟨none,none,18,.pointer (some ⟨g_4,x_2.toNat * 5,none⟩)⟩::⟨none,none,64,.int .i64 ((r_5.Verticals.length : Nat) : Int)⟩::⟨none,none,65,.int .i64 x_2⟩::⟨some 0,none,72,.pointer (some ⟨g_4,x_2.toNat * 5,none⟩)⟩::⟨some 1,none,73,.pointer (some ⟨g_4,x_2.toNat * 5,none⟩)⟩::⟨some 2,none,74,.pointer (some ⟨g_4,x_2.toNat * 5 + 1,none⟩)⟩::⟨some 3,none,75,.pointer (some ⟨g_4,x_2.toNat * 5 + 1 + 0,none⟩)⟩::⟨some 4,none,76,.int .i64 e_9.Depth.Lo⟩::⟨some 5,none,77,.pointer (some ⟨b_2,3,none⟩)⟩::⟨some 6,none,78,.slice (some ⟨g_5,0,none⟩) r_1.1.Depth.length c_7⟩::⟨some 7,none,79,.int .i64 x_2⟩::⟨some 8,none,80,.pointer (some ⟨g_5,x_2.toNat * 1,none⟩)⟩::⟨some 9,none,81,.int .i64 e_10⟩::⟨some 10,none,82,.bool true⟩::⟨some 11,none,83,.bool true⟩::⟨some 12,none,84,.pointer (some ⟨g_4,x_2.toNat * 5,none⟩)⟩::⟨some 13,none,85,.pointer (some ⟨g_4,x_2.toNat * 5,none⟩)⟩::⟨some 14,none,86,.pointer (some ⟨g_4,x_2.toNat * 5 + 1,none⟩)⟩::⟨some 15,none,87,.pointer (some ⟨g_4,x_2.toNat * 5 + 1 + 1,none⟩)⟩::⟨some 16,none,88,.int .i64 e_9.Depth.Hi⟩::⟨some 17,none,89,.pointer (some ⟨b_2,3,none⟩)⟩::⟨some 18,none,90,.slice (some ⟨g_5,0,none⟩) r_1.1.Depth.length c_7⟩::⟨some 19,none,91,.int .i64 x_2⟩::⟨some 20,none,92,.pointer (some ⟨g_5,x_2.toNat * 1,none⟩)⟩::⟨some 21,none,93,.int .i64 e_10⟩::⟨some 22,none,94,.bool true⟩::⟨some 23,none,95,.bool true⟩::⟨some 24,none,96,.bool true⟩::⟨some 25,none,97,.pointer (some ⟨b_5,0,none⟩)⟩::⟨some 26,none,98,.int .i64 r_13.1⟩::⟨some 27,none,99,.bool (r_13.1 == 0)⟩::⟨some 28,none,100,.bool (r_13.1 == 0)⟩::[])) (fun E θ => .box b_6 [.int .i64 r_5.Left,.int .i64 r_5.Right,.slice (some ⟨g_4,0,none⟩) x_5.length c_8] 102::.row p_5 c_5 (r_3.1.Verticals.map enc_gauge_Vertical) 107 5::.row (some ⟨g_4,0,none⟩) c_8 (x_5.map enc_gauge_Vertical) 107 5::(bif E 26 then .box b_5 [.slice better_p better.length better_c,.int .i64 r_13.2.1,.int .i64 r_13.2.2] 151 else .box b_5 [.slice better_p better.length better_c,.int .i64 x_3,.int .i64 x_4] 151)::.box b_4 [.int .i64 r_3.1.Left,.int .i64 r_3.1.Right,.slice p_5 r_3.1.Verticals.length c_5] 102::.row p_1 c_1 (r_1.1.At.map encI_i64) 3 1::.row (some ⟨g_5,0,none⟩) c_7 (r_1.1.Depth.map encI_i64) 3 1::.row p_4 c_4 (x_1.map encI_i64) 3 1::.box b_2 [.int .i64 r_1.1.Left,.int .i64 r_1.1.Right,.slice p_1 r_1.1.At.length c_1,.slice (some ⟨g_5,0,none⟩) r_1.1.Depth.length c_7,.slice p_4 x_1.length c_4] 98::Lf) [] (fun a w => Has 274 a [(3,.int .u8 by_),(4,.int .u8 stage),(11,.pointer (some ⟨b_2,0,none⟩)),(14,.pointer (some ⟨b_4,0,none⟩)),(15,.pointer (some ⟨b_5,0,none⟩)),(16,.pointer (some ⟨b_6,0,none⟩)),(17,.int .i64 x_2),(18,.pointer (some ⟨g_4,x_2.toNat * 5,none⟩)),(64,.int .i64 ((r_5.Verticals.length : Nat) : Int)),(65,.int .i64 x_2),(84,.pointer (some ⟨g_4,x_2.toNat * 5,none⟩)),(85,.pointer (some ⟨g_4,x_2.toNat * 5,none⟩)),(86,.pointer (some ⟨g_4,x_2.toNat * 5 + 1,none⟩)),(87,.pointer (some ⟨g_4,x_2.toNat * 5 + 1 + 1,none⟩)),(88,.int .i64 e_9.Depth.Hi),(89,.pointer (some ⟨b_2,3,none⟩)),(90,.slice (some ⟨g_5,0,none⟩) r_1.1.Depth.length c_7),(91,.int .i64 x_2),(92,.pointer (some ⟨g_5,x_2.toNat * 1,none⟩)),(93,.int .i64 e_10),(94,.bool true),(97,.pointer (some ⟨b_5,0,none⟩)),(98,.int .i64 r_13.1),(99,.bool (r_13.1 == 0)),(100,.bool (r_13.1 == 0))] ∧ Ctx G (.box b_6 [.int .i64 r_5.Left,.int .i64 r_5.Right,.slice (some ⟨g_4,0,none⟩) x_5.length c_8] 102::.row p_5 c_5 (r_3.1.Verticals.map enc_gauge_Vertical) 107 5::.row (some ⟨g_4,0,none⟩) c_8 (x_5.map enc_gauge_Vertical) 107 5::.box b_5 [.slice better_p better.length better_c,.int .i64 r_13.2.1,.int .i64 r_13.2.2] 151::.box b_4 [.int .i64 r_3.1.Left,.int .i64 r_3.1.Right,.slice p_5 r_3.1.Verticals.length c_5] 102::.row p_1 c_1 (r_1.1.At.map encI_i64) 3 1::.row (some ⟨g_5,0,none⟩) c_7 (r_1.1.Depth.map encI_i64) 3 1::.row p_4 c_4 (x_1.map encI_i64) 3 1::.box b_2 [.int .i64 r_1.1.Left,.int .i64 r_1.1.Right,.slice p_1 r_1.1.At.length c_1,.slice (some ⟨g_5,0,none⟩) r_1.1.Depth.length c_7,.slice p_4 x_1.length c_4] 98::Lf) w) follows_mx (by kernel_rfl) (by kernel_rfl) (HasE.of hf ⟨rfl,rfl,rfl,rfl,rfl,rfl,rfl,rfl,rfl,rfl,trivial,trivial,trivial,trivial,trivial,trivial,trivial,trivial,trivial,trivial,trivial,trivial,trivial,trivial,trivial,trivial,trivial,trivial,trivial,trivial,trivial,trivial,trivial,trivial,trivial,trivial,trivial,trivial,trivial,trivial⟩) hc ⟨?_,?_,?_,?_,?_,?_,?_,?_,?_,?_,?_,?_,?_,?_,?_,?_,?_,?_,?_,?_,?_,?_,?_,?_,?_,?_,?_,?_,?_,trivial⟩ ?_ ?_
      ·intro E θ a w hD hi hp he hc
       have hf := he.h0
       replace hf := hf.more he 7 rfl onT
       refine stP hf rfl rfl rfl (pM rfl) fun a hf => cNil ?_
       refine xThenN ?_
       intro ds u hau
       refine ⟨θ,he.put0 hi hau hf rfl 10 rfl rfl,?_⟩
       exact hc
      ·intro E θ a w hD hi hp he hc
       have e0 := hp.of (k := 0) rfl
       have hf := he.h0
       replace hf := hf.more he 10 rfl (onP e0)
       refine stP hf rfl rfl rfl (pNC rfl) fun a hf => cNil ?_
       refine xThenN ?_
       intro ds u hau
       refine ⟨θ,he.put0 hi hau hf rfl 11 rfl rfl,?_⟩
       exact hc
      ·intro E θ a w hD hi hp he hc
       have e1 := hp.of (k := 1) rfl
       have hf := he.h0
       replace hf := hf.more he 11 rfl (onP e1)
       refine stP hf rfl rfl rfl (pFA fa_107_1 rfl) fun a hf => cNil ?_
       refine xThenN ?_
       intro ds u hau
       refine ⟨θ,he.put0 hi hau hf rfl 12 rfl rfl,?_⟩
       exact hc
      ·intro E θ a w hD hi hp he hc
       have e2 := hp.of (k := 2) rfl
       have hf := he.h0
       replace hf := hf.more he 12 rfl (onP e2)
       refine stP hf rfl rfl rfl (pFA fa_50_0 rfl) fun a hf => cNil ?_
       refine xThenN ?_
       intro ds u hau
       refine ⟨θ,he.put0 hi hau hf rfl 13 rfl rfl,?_⟩
       exact hc
      ·intro E θ a w hD hi hp he hc
       have e3 := hp.of (k := 3) rfl
       have hf := he.h0
       replace hf := hf.more he 13 rfl (onP e3)
       refine stE hf hc rfl rfl rfl (eLd1 sc_3 rfl (cell_row (sz := 5) (i := x_2.toNat) (j := 1) m2 qr_8 rfl)) fun a w hf hc => cNil ?_
       refine xThenN ?_
       intro ds u hau
       refine ⟨θ,he.put0 hi hau hf rfl 14 rfl rfl,?_⟩
       exact hc
      ·intro E θ a w hD hi hp he hc
       have hf := he.h0
       replace hf := hf.more he 2 rfl onT
       refine stP hf rfl rfl rfl (pFA fa_98_3 rfl) fun a hf => cNil ?_
       refine xThenN ?_
       intro ds u hau
       refine ⟨θ,he.put0 hi hau hf rfl 15 rfl rfl,?_⟩
       exact hc
      ·intro E θ a w hD hi hp he hc
       have e5 := hp.of (k := 5) rfl
       have hf := he.h0
       replace hf := hf.more he 15 rfl (onP e5)
       refine stE hf hc rfl rfl rfl (eLd1 sc_61 rfl (cell_box m8 rfl)) fun a w hf hc => cNil ?_
       refine xThenN ?_
       intro ds u hau
       refine ⟨θ,he.put0 hi hau hf rfl 16 rfl rfl,?_⟩
       exact hc
      ·intro E θ a w hD hi hp he hc
       have hf := he.h0
       replace hf := hf.more he 6 rfl onT
       refine stP hf rfl rfl rfl (pM rfl) fun a hf => cNil ?_
       refine xThenN ?_
       intro ds u hau
       refine ⟨θ,he.put0 hi hau hf rfl 17 rfl rfl,?_⟩
       exact hc
      ·intro E θ a w hD hi hp he hc
       have e6 := hp.of (k := 6) rfl
       have e7 := hp.of (k := 7) rfl
       have hf := he.h0
       replace hf := hf.more he 16 rfl (onP e6)
       replace hf := hf.more he 17 rfl (onP e7)
       refine stP hf rfl rfl rfl (pIA Try.underlying61 sz_3 rfl rfl qa_9) fun a hf => cNil ?_
       refine xThenN ?_
       intro ds u hau
       refine ⟨θ,he.put0 hi hau hf rfl 18 rfl rfl,?_⟩
       exact hc
      ·intro E θ a w hD hi hp he hc
       have e8 := hp.of (k := 8) rfl
       have hf := he.h0
       replace hf := hf.more he 18 rfl (onP e8)
       refine stE hf hc rfl rfl rfl (eLd1 sc_3 rfl (cell_row (sz := 1) (i := x_2.toNat) (j := 0) m6 qr_9 rfl)) fun a w hf hc => cNil ?_
       refine xThenN ?_
       intro ds u hau
       refine ⟨θ,he.put0 hi hau hf rfl 19 rfl rfl,?_⟩
       exact hc
      ·intro E θ a w hD hi hp he hc
       have e4 := hp.of (k := 4) rfl
       have e9 := hp.of (k := 9) rfl
       have hf := he.h0
       replace hf := hf.more he 14 rfl (onP e4)
       replace hf := hf.more he 19 rfl (onP e9)
       refine stP hf rfl rfl rfl (pLe rfl rfl) fun a hf => ?_
       rw [hb3] at hf
       refine cNil ?_
       refine xThenN ?_
       intro ds u hau
       refine ⟨θ,he.put0 hi hau hf rfl 20 rfl rfl,?_⟩
       exact hc
      ·intro E θ a w hD hi hp he hc
       have e10 := hp.of (k := 10) rfl
       have hf := he.h0
       replace hf := hf.more he 20 rfl (onP e10)
       refine stP hf rfl rfl rfl (pM rfl) fun a hf => cNil ?_
       refine xThenN ?_
       intro ds u hau
       refine ⟨θ,he.put0 hi hau hf rfl 21 rfl rfl,?_⟩
       exact hc
      ·intro E θ a w hD hi hp he hc
       have e11 := hp.of (k := 11) rfl
       have hf := he.h0
       replace hf := hf.more he 7 rfl onT
       replace hf := hf.more he 21 rfl (onP e11)
       refine stP hf rfl rfl rfl (pM rfl) fun a hf => cNil ?_
       refine xThenN ?_
       intro ds u hau
       refine ⟨θ,he.put0 hi hau hf rfl 22 rfl rfl,?_⟩
       exact hc
      ·intro E θ a w hD hi hp he hc
       have e11 := hp.of (k := 11) rfl
       have e12 := hp.of (k := 12) rfl
       have hf := he.h0
       replace hf := hf.more he 21 rfl (onP e11)
       replace hf := hf.more he 22 rfl (onP e12)
       refine stP hf rfl rfl rfl (pNC rfl) fun a hf => cNil ?_
       refine xThenN ?_
       intro ds u hau
       refine ⟨θ,he.put0 hi hau hf rfl 23 rfl rfl,?_⟩
       exact hc
      ·intro E θ a w hD hi hp he hc
       have e11 := hp.of (k := 11) rfl
       have e13 := hp.of (k := 13) rfl
       have hf := he.h0
       replace hf := hf.more he 21 rfl (onP e11)
       replace hf := hf.more he 23 rfl (onP e13)
       refine stP hf rfl rfl rfl (pFA fa_107_1 rfl) fun a hf => cNil ?_
       refine xThenN ?_
       intro ds u hau
       refine ⟨θ,he.put0 hi hau hf rfl 24 rfl rfl,?_⟩
       exact hc
      ·intro E θ a w hD hi hp he hc
       have e11 := hp.of (k := 11) rfl
       have e14 := hp.of (k := 14) rfl
       have hf := he.h0
       replace hf := hf.more he 21 rfl (onP e11)
       replace hf := hf.more he 24 rfl (onP e14)
       refine stP hf rfl rfl rfl (pFA fa_50_1 rfl) fun a hf => cNil ?_
       refine xThenN ?_
       intro ds u hau
       refine ⟨θ,he.put0 hi hau hf rfl 25 rfl rfl,?_⟩
       exact hc
      ·intro E θ a w hD hi hp he hc
       have e11 := hp.of (k := 11) rfl
       have e15 := hp.of (k := 15) rfl
       have hf := he.h0
       replace hf := hf.more he 21 rfl (onP e11)
       replace hf := hf.more he 25 rfl (onP e15)
       refine stE hf hc rfl rfl rfl (eLd1 sc_3 rfl (cell_row (sz := 5) (i := x_2.toNat) (j := 2) m2 qr_8 rfl)) fun a w hf hc => cNil ?_
       refine xThenN ?_
       intro ds u hau
       refine ⟨θ,he.put0 hi hau hf rfl 26 rfl rfl,?_⟩
       exact hc
      ·intro E θ a w hD hi hp he hc
       have e11 := hp.of (k := 11) rfl
       have hf := he.h0
       replace hf := hf.more he 2 rfl onT
       replace hf := hf.more he 21 rfl (onP e11)
       refine stP hf rfl rfl rfl (pFA fa_98_3 rfl) fun a hf => cNil ?_
       refine xThenN ?_
       intro ds u hau
       refine ⟨θ,he.put0 hi hau hf rfl 27 rfl rfl,?_⟩
       exact hc
      ·intro E θ a w hD hi hp he hc
       have e11 := hp.of (k := 11) rfl
       have e17 := hp.of (k := 17) rfl
       have hf := he.h0
       replace hf := hf.more he 21 rfl (onP e11)
       replace hf := hf.more he 27 rfl (onP e17)
       refine stE hf hc rfl rfl rfl (eLd1 sc_61 rfl (cell_box m8 rfl)) fun a w hf hc => cNil ?_
       refine xThenN ?_
       intro ds u hau
       refine ⟨θ,he.put0 hi hau hf rfl 28 rfl rfl,?_⟩
       exact hc
      ·intro E θ a w hD hi hp he hc
       have e11 := hp.of (k := 11) rfl
       have hf := he.h0
       replace hf := hf.more he 6 rfl onT
       replace hf := hf.more he 21 rfl (onP e11)
       refine stP hf rfl rfl rfl (pM rfl) fun a hf => cNil ?_
       refine xThenN ?_
       intro ds u hau
       refine ⟨θ,he.put0 hi hau hf rfl 29 rfl rfl,?_⟩
       exact hc
      ·intro E θ a w hD hi hp he hc
       have e11 := hp.of (k := 11) rfl
       have e18 := hp.of (k := 18) rfl
       have e19 := hp.of (k := 19) rfl
       have hf := he.h0
       replace hf := hf.more he 21 rfl (onP e11)
       replace hf := hf.more he 28 rfl (onP e18)
       replace hf := hf.more he 29 rfl (onP e19)
       refine stP hf rfl rfl rfl (pIA Try.underlying61 sz_3 rfl rfl qa_9) fun a hf => cNil ?_
       refine xThenN ?_
       intro ds u hau
       refine ⟨θ,he.put0 hi hau hf rfl 30 rfl rfl,?_⟩
       exact hc
      ·intro E θ a w hD hi hp he hc
       have e11 := hp.of (k := 11) rfl
       have e20 := hp.of (k := 20) rfl
       have hf := he.h0
       replace hf := hf.more he 21 rfl (onP e11)
       replace hf := hf.more he 30 rfl (onP e20)
       refine stE hf hc rfl rfl rfl (eLd1 sc_3 rfl (cell_row (sz := 1) (i := x_2.toNat) (j := 0) m6 qr_9 rfl)) fun a w hf hc => cNil ?_
       refine xThenN ?_
       intro ds u hau
       refine ⟨θ,he.put0 hi hau hf rfl 31 rfl rfl,?_⟩
       exact hc
      ·intro E θ a w hD hi hp he hc
       have e11 := hp.of (k := 11) rfl
       have e16 := hp.of (k := 16) rfl
       have e21 := hp.of (k := 21) rfl
       have hf := he.h0
       replace hf := hf.more he 21 rfl (onP e11)
       replace hf := hf.more he 26 rfl (onP e16)
       replace hf := hf.more he 31 rfl (onP e21)
       refine stP hf rfl rfl rfl (pGe rfl rfl) fun a hf => ?_
       rw [hb4] at hf
       refine cNil ?_
       refine xThenN ?_
       intro ds u hau
       refine ⟨θ,he.put0 hi hau hf rfl 32 rfl rfl,?_⟩
       exact hc
      ·intro E θ a w hD hi hp he hc
       have e11 := hp.of (k := 11) rfl
       have e22 := hp.of (k := 22) rfl
       have hf := he.h0
       replace hf := hf.more he 21 rfl (onP e11)
       replace hf := hf.more he 32 rfl (onP e22)
       refine stP hf rfl rfl rfl (pPt rfl rfl) fun a hf => cNil ?_
       refine xThenN ?_
       intro ds u hau
       refine ⟨θ,he.put0 hi hau hf rfl 33 rfl rfl,?_⟩
       exact hc
      ·intro E θ a w hD hi hp he hc
       have e23 := hp.of (k := 23) rfl
       have hf := he.h0
       replace hf := hf.more he 33 rfl (onP e23)
       refine stP hf rfl rfl rfl (pM rfl) fun a hf => cNil ?_
       refine xThenN ?_
       intro ds u hau
       refine ⟨θ,he.put0 hi hau hf rfl 34 rfl rfl,?_⟩
       exact hc
      ·intro E θ a w hD hi hp he hc
       have e24 := hp.of (k := 24) rfl
       have hf := he.h0
       replace hf := hf.more he 4 rfl onT
       replace hf := hf.more he 34 rfl (onP e24)
       refine stP hf rfl rfl rfl (pM rfl) fun a hf => cNil ?_
       refine xThenN ?_
       intro ds u hau
       refine ⟨θ,he.put0 hi hau hf rfl 35 rfl rfl,?_⟩
       exact hc
      ·intro E θ a w hD hi hp he hc
       have e24 := hp.of (k := 24) rfl
       have e25 := hp.of (k := 25) rfl
       try dsimp only at hc
       rw [hi] at hc
       have hf := he.h0
       replace hf := hf.more he 34 rfl (onP e24)
       replace hf := hf.more he 35 rfl (onP e25)
       refine stC (vs := [.pointer (some ⟨b_5,0,none⟩),.int .i64 2]) (caps := []) hf rfl rfl rfl en_38 rfl rfl rfl rfl (kit_Stream_Next_ok (⟨better,x_3,x_4⟩ : kit_Stream) 2 h_better (hc.pick k3) hr_13) ?_
       rintro _ w ⟨rfl,hc⟩
       refine ⟨_,rfl,fun a hf => ?_⟩
       refine cNil ?_
       refine xThenN ?_
       intro ds u hau
       replace hc := hc.pick k0
       replace hc := hc.pick k3
       replace hc := hc.pick k3
       replace hc := hc.pick k3
       refine ⟨θ,he.put0 hi hau hf rfl 36 rfl rfl,?_⟩
       try dsimp only
       rw [updE_self E 26]
       exact hc
      ·intro E θ a w hD hi hp he hc
       have e24 := hp.of (k := 24) rfl
       have e26 := hp.of (k := 26) rfl
       have hf := he.h0
       replace hf := hf.more he 34 rfl (onP e24)
       replace hf := hf.more he 36 rfl (onP e26)
       refine stP hf rfl rfl rfl (pEq rfl rfl) fun a hf => cNil ?_
       refine xThenN ?_
       intro ds u hau
       refine ⟨θ,he.put0 hi hau hf rfl 37 rfl rfl,?_⟩
       exact hc
      ·intro E θ a w hD hi hp he hc
       have e24 := hp.of (k := 24) rfl
       have e27 := hp.of (k := 27) rfl
       have hf := he.h0
       replace hf := hf.more he 34 rfl (onP e24)
       replace hf := hf.more he 37 rfl (onP e27)
       refine stP hf rfl rfl rfl (pPt rfl rfl) fun a hf => cNil ?_
       refine xThenN ?_
       intro ds u hau
       refine ⟨θ,he.put0 hi hau hf rfl 38 rfl rfl,?_⟩
       exact hc
      ·intro E θ a w hall he hc
       have hf := he.h0
       have e12 := hall 12 rfl
       have e13 := hall 13 rfl
       have e14 := hall 14 rfl
       have e15 := hall 15 rfl
       have e16 := hall 16 rfl
       have e17 := hall 17 rfl
       have e18 := hall 18 rfl
       have e19 := hall 19 rfl
       have e20 := hall 20 rfl
       have e21 := hall 21 rfl
       have e22 := hall 22 rfl
       have e25 := hall 25 rfl
       have e26 := hall 26 rfl
       have e27 := hall 27 rfl
       have e28 := hall 28 rfl
       replace hf := hf.more he 38 rfl (onP e28)
       replace hf := hf.more he 37 rfl (onP e27)
       replace hf := hf.more he 36 rfl (onP e26)
       replace hf := hf.more he 35 rfl (onP e25)
       replace hf := hf.more he 32 rfl (onP e22)
       replace hf := hf.more he 31 rfl (onP e21)
       replace hf := hf.more he 30 rfl (onP e20)
       replace hf := hf.more he 29 rfl (onP e19)
       replace hf := hf.more he 28 rfl (onP e18)
       replace hf := hf.more he 27 rfl (onP e17)
       replace hf := hf.more he 26 rfl (onP e16)
       replace hf := hf.more he 25 rfl (onP e15)
       replace hf := hf.more he 24 rfl (onP e14)
       replace hf := hf.more he 23 rfl (onP e13)
       replace hf := hf.more he 22 rfl (onP e12)
       replace hf := hf.more he 9 rfl (onT)
       replace hf := hf.more he 8 rfl (onT)
       replace hf := hf.more he 7 rfl (onT)
       replace hf := hf.more he 6 rfl (onT)
       replace hf := hf.more he 5 rfl (onT)
       replace hf := hf.more he 4 rfl (onT)
       replace hf := hf.more he 3 rfl (onT)
       replace hf := hf.more he 2 rfl (onT)
       replace hf := hf.more he 1 rfl (onT)
       replace hf := hf.more he 0 rfl (onT)
       try dsimp only at hc
       rw [e26] at hc
       exact ⟨hf.keep ⟨rfl,rfl,rfl,rfl,rfl,rfl,rfl,rfl,rfl,rfl,rfl,rfl,rfl,rfl,rfl,rfl,rfl,rfl,rfl,rfl,rfl,rfl,rfl,rfl,rfl,trivial⟩,hc⟩
      rintro a w ⟨hf,hc⟩
      refine xThenN ?_
      obtain rfl := Option.some.inj hF
      exact ⟨(some ⟨g_5,0,none⟩),c_7,hf.keep ⟨rfl,rfl,rfl,rfl,rfl,rfl,rfl,rfl,rfl,rfl,rfl,trivial⟩,hc⟩
   rintro a w ⟨p_16,c_16,hf,hc⟩
   refine h41 _ _ ?_
   refine cCond (b := rg.1) hf rfl (fun hb => ?_) (fun hb => ?_)
   ·replace hF := condT hb hF
    clear hb
    obtain ⟨e_11,he_11,hF⟩ := bnd_some hF
    obtain ⟨g_6,rfl,qa_10,qr_10⟩ := row_atm hc m6 he_11
    obtain ⟨e_12,he_12,hF⟩ := bnd_some hF
    obtain ⟨qa_11,qr_11⟩ := row_atk hc m6 he_12
    obtain ⟨r_14,hr_14,hF⟩ := bnd_some hF
    refine regionE (fun θ => [⟨none,none,3,.int .u8 by_⟩,⟨none,none,4,.int .u8 stage⟩,⟨none,none,11,.pointer (some ⟨b_2,0,none⟩)⟩,⟨none,none,14,.pointer (some ⟨b_4,0,none⟩)⟩,⟨none,none,15,.pointer (some ⟨b_5,0,none⟩)⟩,⟨none,none,16,.pointer (some ⟨b_6,0,none⟩)⟩,⟨none,none,17,.int .i64 x_2⟩,⟨none,none,18,.pointer (some ⟨g_4,x_2.toNat * 5,none⟩)⟩,⟨none,none,64,.int .i64 ((r_5.Verticals.length : Nat) : Int)⟩,⟨none,none,65,.int .i64 x_2⟩,⟨some 0,none,101,.pointer (some ⟨g_4,x_2.toNat * 5,none⟩)⟩,⟨some 1,none,102,.pointer (some ⟨b_2,3,none⟩)⟩,⟨some 2,none,103,.slice (some ⟨g_6,0,none⟩) r_1.1.Depth.length c_16⟩,⟨some 3,none,104,.int .i64 x_2⟩,⟨some 4,none,105,.pointer (some ⟨g_6,x_2.toNat * 1,none⟩)⟩,⟨some 5,none,106,.int .i64 e_11⟩,⟨some 6,none,107,.pointer (some ⟨b_2,3,none⟩)⟩,⟨some 7,none,108,.slice (some ⟨g_6,0,none⟩) r_1.1.Depth.length c_16⟩,⟨some 8,none,109,.int .i64 x_2⟩,⟨some 9,none,110,.pointer (some ⟨g_6,x_2.toNat * 1,none⟩)⟩,⟨some 10,none,111,.int .i64 e_12⟩,⟨some 11,none,112,.agg #[.int .i64 r_14.Lo,.int .i64 r_14.Hi]⟩,⟨some 12,none,113,.pointer (some ⟨g_4,x_2.toNat * 5,none⟩)⟩,⟨some 13,none,114,.pointer (some ⟨g_4,x_2.toNat * 5 + 1,none⟩)⟩]) (fun E θ => .box b_6 [.int .i64 r_5.Left,.int .i64 r_5.Right,.slice (some ⟨g_4,0,none⟩) x_5.length c_8] 102::.row p_5 c_5 (r_3.1.Verticals.map enc_gauge_Vertical) 107 5::(bif E 14 then .row (some ⟨g_4,0,none⟩) c_8 ((x_5.set x_2.toNat (⟨e_9.At,r_14,e_9.Speed⟩ : gauge_Vertical)).map enc_gauge_Vertical) 107 5 else .row (some ⟨g_4,0,none⟩) c_8 (x_5.map enc_gauge_Vertical) 107 5)::.box b_5 [.slice better_p better.length better_c,.int .i64 rg.2.1,.int .i64 rg.2.2] 151::.box b_4 [.int .i64 r_3.1.Left,.int .i64 r_3.1.Right,.slice p_5 r_3.1.Verticals.length c_5] 102::.row p_1 c_1 (r_1.1.At.map encI_i64) 3 1::.row (some ⟨g_6,0,none⟩) c_16 (r_1.1.Depth.map encI_i64) 3 1::.row p_4 c_4 (x_1.map encI_i64) 3 1::.box b_2 [.int .i64 r_1.1.Left,.int .i64 r_1.1.Right,.slice p_1 r_1.1.At.length c_1,.slice (some ⟨g_6,0,none⟩) r_1.1.Depth.length c_16,.slice p_4 x_1.length c_4] 98::Lf) [] (fun a w => Has 274 a [(3,.int .u8 by_),(4,.int .u8 stage),(11,.pointer (some ⟨b_2,0,none⟩)),(14,.pointer (some ⟨b_4,0,none⟩)),(15,.pointer (some ⟨b_5,0,none⟩)),(16,.pointer (some ⟨b_6,0,none⟩)),(64,.int .i64 ((r_5.Verticals.length : Nat) : Int)),(65,.int .i64 x_2)] ∧ Ctx G (.box b_6 [.int .i64 r_5.Left,.int .i64 r_5.Right,.slice (some ⟨g_4,0,none⟩) x_5.length c_8] 102::.row p_5 c_5 (r_3.1.Verticals.map enc_gauge_Vertical) 107 5::.row (some ⟨g_4,0,none⟩) c_8 ((x_5.set x_2.toNat (⟨e_9.At,r_14,e_9.Speed⟩ : gauge_Vertical)).map enc_gauge_Vertical) 107 5::.box b_5 [.slice better_p better.length better_c,.int .i64 rg.2.1,.int .i64 rg.2.2] 151::.box b_4 [.int .i64 r_3.1.Left,.int .i64 r_3.1.Right,.slice p_5 r_3.1.Verticals.length c_5] 102::.row p_1 c_1 (r_1.1.At.map encI_i64) 3 1::.row (some ⟨g_6,0,none⟩) c_16 (r_1.1.Depth.map encI_i64) 3 1::.row p_4 c_4 (x_1.map encI_i64) 3 1::.box b_2 [.int .i64 r_1.1.Left,.int .i64 r_1.1.Right,.slice p_1 r_1.1.At.length c_1,.slice (some ⟨g_6,0,none⟩) r_1.1.Depth.length c_16,.slice p_4 x_1.length c_4] 98::Lf) w) follows_mx (by kernel_rfl) (by kernel_rfl) (HasE.of hf ⟨rfl,rfl,rfl,rfl,rfl,rfl,rfl,rfl,rfl,rfl,trivial,trivial,trivial,trivial,trivial,trivial,trivial,trivial,trivial,trivial,trivial,trivial,trivial,trivial,trivial⟩) hc ⟨?_,?_,?_,?_,?_,?_,?_,?_,?_,?_,?_,?_,?_,?_,?_,trivial⟩ ?_ ?_
    ·intro E θ a w hD hi hp he hc
     have hf := he.h0
     replace hf := hf.more he 7 rfl onT
     refine stP hf rfl rfl rfl (pM rfl) fun a hf => cNil ?_
     refine xThenN ?_
     intro ds u hau
     refine ⟨θ,he.put0 hi hau hf rfl 10 rfl rfl,?_⟩
     exact hc
    ·intro E θ a w hD hi hp he hc
     have hf := he.h0
     replace hf := hf.more he 2 rfl onT
     refine stP hf rfl rfl rfl (pFA fa_98_3 rfl) fun a hf => cNil ?_
     refine xThenN ?_
     intro ds u hau
     refine ⟨θ,he.put0 hi hau hf rfl 11 rfl rfl,?_⟩
     exact hc
    ·intro E θ a w hD hi hp he hc
     have e1 := hp.of (k := 1) rfl
     have hf := he.h0
     replace hf := hf.more he 11 rfl (onP e1)
     refine stE hf hc rfl rfl rfl (eLd1 sc_61 rfl (cell_box m8 rfl)) fun a w hf hc => cNil ?_
     refine xThenN ?_
     intro ds u hau
     refine ⟨θ,he.put0 hi hau hf rfl 12 rfl rfl,?_⟩
     exact hc
    ·intro E θ a w hD hi hp he hc
     have hf := he.h0
     replace hf := hf.more he 6 rfl onT
     refine stP hf rfl rfl rfl (pM rfl) fun a hf => cNil ?_
     refine xThenN ?_
     intro ds u hau
     refine ⟨θ,he.put0 hi hau hf rfl 13 rfl rfl,?_⟩
     exact hc
    ·intro E θ a w hD hi hp he hc
     have e2 := hp.of (k := 2) rfl
     have e3 := hp.of (k := 3) rfl
     have hf := he.h0
     replace hf := hf.more he 12 rfl (onP e2)
     replace hf := hf.more he 13 rfl (onP e3)
     refine stP hf rfl rfl rfl (pIA Try.underlying61 sz_3 rfl rfl qa_10) fun a hf => cNil ?_
     refine xThenN ?_
     intro ds u hau
     refine ⟨θ,he.put0 hi hau hf rfl 14 rfl rfl,?_⟩
     exact hc
    ·intro E θ a w hD hi hp he hc
     have e4 := hp.of (k := 4) rfl
     have hf := he.h0
     replace hf := hf.more he 14 rfl (onP e4)
     refine stE hf hc rfl rfl rfl (eLd1 sc_3 rfl (cell_row (sz := 1) (i := x_2.toNat) (j := 0) m6 qr_10 rfl)) fun a w hf hc => cNil ?_
     refine xThenN ?_
     intro ds u hau
     refine ⟨θ,he.put0 hi hau hf rfl 15 rfl rfl,?_⟩
     exact hc
    ·intro E θ a w hD hi hp he hc
     have hf := he.h0
     replace hf := hf.more he 2 rfl onT
     refine stP hf rfl rfl rfl (pFA fa_98_3 rfl) fun a hf => cNil ?_
     refine xThenN ?_
     intro ds u hau
     refine ⟨θ,he.put0 hi hau hf rfl 16 rfl rfl,?_⟩
     exact hc
    ·intro E θ a w hD hi hp he hc
     have e6 := hp.of (k := 6) rfl
     have hf := he.h0
     replace hf := hf.more he 16 rfl (onP e6)
     refine stE hf hc rfl rfl rfl (eLd1 sc_61 rfl (cell_box m8 rfl)) fun a w hf hc => cNil ?_
     refine xThenN ?_
     intro ds u hau
     refine ⟨θ,he.put0 hi hau hf rfl 17 rfl rfl,?_⟩
     exact hc
    ·intro E θ a w hD hi hp he hc
     have hf := he.h0
     replace hf := hf.more he 6 rfl onT
     refine stP hf rfl rfl rfl (pM rfl) fun a hf => cNil ?_
     refine xThenN ?_
     intro ds u hau
     refine ⟨θ,he.put0 hi hau hf rfl 18 rfl rfl,?_⟩
     exact hc
    ·intro E θ a w hD hi hp he hc
     have e7 := hp.of (k := 7) rfl
     have e8 := hp.of (k := 8) rfl
     have hf := he.h0
     replace hf := hf.more he 17 rfl (onP e7)
     replace hf := hf.more he 18 rfl (onP e8)
     refine stP hf rfl rfl rfl (pIA Try.underlying61 sz_3 rfl rfl qa_11) fun a hf => cNil ?_
     refine xThenN ?_
     intro ds u hau
     refine ⟨θ,he.put0 hi hau hf rfl 19 rfl rfl,?_⟩
     exact hc
    ·intro E θ a w hD hi hp he hc
     have e9 := hp.of (k := 9) rfl
     have hf := he.h0
     replace hf := hf.more he 19 rfl (onP e9)
     refine stE hf hc rfl rfl rfl (eLd1 sc_3 rfl (cell_row (sz := 1) (i := x_2.toNat) (j := 0) m6 qr_11 rfl)) fun a w hf hc => cNil ?_
     refine xThenN ?_
     intro ds u hau
     refine ⟨θ,he.put0 hi hau hf rfl 20 rfl rfl,?_⟩
     exact hc
    ·intro E θ a w hD hi hp he hc
     have e5 := hp.of (k := 5) rfl
     have e10 := hp.of (k := 10) rfl
     have hf := he.h0
     replace hf := hf.more he 15 rfl (onP e5)
     replace hf := hf.more he 20 rfl (onP e10)
     refine stE hf hc rfl rfl rfl (eC (v := .agg #[.int .i64 r_14.Lo,.int .i64 r_14.Hi]) (vs := [.int .i64 e_11,.int .i64 e_12]) (caps := []) en_47 rfl rfl rfl rfl (fun w hc => law05_span_ok e_11 e_12 hc hr_14)) fun a w hf hc => cNil ?_
     refine xThenN ?_
     intro ds u hau
     refine ⟨θ,he.put0 hi hau hf rfl 21 rfl rfl,?_⟩
     exact hc
    ·intro E θ a w hD hi hp he hc
     have e0 := hp.of (k := 0) rfl
     have hf := he.h0
     replace hf := hf.more he 10 rfl (onP e0)
     refine stP hf rfl rfl rfl (pNC rfl) fun a hf => cNil ?_
     refine xThenN ?_
     intro ds u hau
     refine ⟨θ,he.put0 hi hau hf rfl 22 rfl rfl,?_⟩
     exact hc
    ·intro E θ a w hD hi hp he hc
     have e12 := hp.of (k := 12) rfl
     have hf := he.h0
     replace hf := hf.more he 22 rfl (onP e12)
     refine stP hf rfl rfl rfl (pFA fa_107_1 rfl) fun a hf => cNil ?_
     refine xThenN ?_
     intro ds u hau
     refine ⟨θ,he.put0 hi hau hf rfl 23 rfl rfl,?_⟩
     exact hc
    ·intro E θ a w hD hi hp he hc
     have e11 := hp.of (k := 11) rfl
     have e13 := hp.of (k := 13) rfl
     try dsimp only at hc
     rw [hi] at hc
     have hf := he.h0
     replace hf := hf.more he 21 rfl (onP e11)
     replace hf := hf.more he 23 rfl (onP e13)
     refine stRw (vs := [.int .i64 r_14.Lo,.int .i64 r_14.Hi]) (o' := 1) (z := (⟨e_9.At,r_14,e_9.Speed⟩ : gauge_Vertical)) (xs := x_5) hf hc rfl rfl rfl rfl sz_50 rfl (fun x => (one_enc_gauge_Vertical x).1) (getI_lt he_9) (fun e' he' => by cases (he'.symm.trans (getI_spec he_9).2); rfl) rfl u2 fun w hc => cNil ?_
     refine xThenN ?_
     intro ds u hau
     refine ⟨θ,he.stay0 hi hau hf rfl,?_⟩
     try dsimp only
     rw [updE_self E 14]
     exact hc
    ·intro E θ a w hall he hc
     have hf := he.h0
     have e14 := hall 14 rfl
     replace hf := hf.more he 9 rfl (onT)
     replace hf := hf.more he 8 rfl (onT)
     replace hf := hf.more he 5 rfl (onT)
     replace hf := hf.more he 4 rfl (onT)
     replace hf := hf.more he 3 rfl (onT)
     replace hf := hf.more he 2 rfl (onT)
     replace hf := hf.more he 1 rfl (onT)
     replace hf := hf.more he 0 rfl (onT)
     try dsimp only at hc
     rw [e14] at hc
     exact ⟨hf.keep ⟨rfl,rfl,rfl,rfl,rfl,rfl,rfl,rfl,trivial⟩,hc⟩
    rintro a w ⟨hf,hc⟩
    rw [(by simp : x_5.length = (x_5.set x_2.toNat (⟨e_9.At,r_14,e_9.Speed⟩ : gauge_Vertical)).length)] at hc
    exact hj38 rg.2.1 rg.2.2 (x_5.set x_2.toNat (⟨e_9.At,r_14,e_9.Speed⟩ : gauge_Vertical)) (some ⟨g_6,0,none⟩) c_16 (some ⟨g_4,0,none⟩) c_8 _ _  (hf.keep ⟨rfl,rfl,rfl,rfl,rfl,rfl,rfl,rfl,trivial⟩) hc hF
   ·replace hF := condF hb hF
    clear hb
    refine wp_skip ?_
    exact hj38 rg.2.1 rg.2.2 x_5 p_16 c_16 (some ⟨g_4,0,none⟩) c_8 _ _  (hf.keep ⟨rfl,rfl,rfl,rfl,rfl,rfl,rfl,rfl,trivial⟩) hc hF
  ·replace hF := condF hb hF
   clear hb
   refine wp_exit ?_
   refine xThen ?_
   refine xThen ?_
   have he := Option.some.inj hF
   rw [← he] at hfin12
   refine cHit ?_
   exact hr12 _ _ _ hfin12 ⟨p_7,c_7,p_8,c_8,hf.keep ⟨rfl,rfl,rfl,rfl,rfl,rfl,rfl,rfl,trivial⟩,hc⟩
 have ho6 : ∀ r,x6 = .out r → r = res := by
  rintro r rfl
  exact Option.some.inj hF
 replace hc := hc.drop k5
 refine cLoop N (loopW (S := S6) (x := x6) ?_ N (0,r_1.1.Speeds) _ _ ⟨p_3,c_3,hf.keep ⟨rfl,rfl,rfl,rfl,rfl,rfl,rfl,trivial⟩,hc⟩ hx6)
 clear hF hf hc
 rintro ⟨x,x_1⟩ st6 a w KB6 ⟨p_4,c_4,hf,hc⟩ hF hfin6 hK6
 unfold law05_ShiftMeasured_b6 at hF
 refine wp_seq_k fun K42 h42 => cReg ?_
 refine stP hf rfl rfl rfl (pLt rfl rfl) fun a hf => cNil ?_
 refine h42 _ _ ?_
 refine wp_seq_k fun K43 h43 => cCond (b := (decide (x < ((r_1.1.Speeds.length : Nat) : Int)))) hf rfl (fun hb => ?_) (fun hb => ?_)
 ·replace hF := condT hb hF
  clear hb
  refine wp_skip ?_
  refine h43 _ _ ?_
  refine wp_seq_k fun K44 h44 => wp_block ?_
  refine wp_seq_k fun K45 h45 => cReg ?_
  refine stP hf rfl rfl rfl (pM rfl) fun a hf => stP hf rfl rfl rfl (pA rfl) fun a hf => cNil ?_
  refine h45 _ _ ?_
  obtain ⟨e_13,he_13,hF⟩ := bnd_some hF
  obtain ⟨g_7,rfl,qa_12,qr_12⟩ := row_atm hc m4 he_13
  obtain ⟨e_14,he_14,hF⟩ := bnd_some hF
  obtain ⟨qa_13,qr_13⟩ := row_atk hc m4 he_14
  refine regionE (fun θ => [⟨none,none,2,.slice better_p better.length better_c⟩,⟨none,none,3,.int .u8 by_⟩,⟨none,none,4,.int .u8 stage⟩,⟨none,none,11,.pointer (some ⟨b_2,0,none⟩)⟩,⟨none,none,12,.pointer (some ⟨b_3,0,none⟩)⟩,⟨none,none,13,.int .i64 x⟩,⟨none,none,40,.int .i64 ((r_1.1.Speeds.length : Nat) : Int)⟩,⟨none,none,41,.int .i64 x⟩,⟨some 0,none,44,.pointer (some ⟨b_2,4,none⟩)⟩,⟨some 1,none,45,.slice (some ⟨g_7,0,none⟩) x_1.length c_4⟩,⟨some 2,none,46,.int .i64 x⟩,⟨some 3,none,47,.pointer (some ⟨b_2,4,none⟩)⟩,⟨some 4,none,48,.slice (some ⟨g_7,0,none⟩) x_1.length c_4⟩,⟨some 5,none,49,.int .i64 x⟩,⟨some 6,none,50,.pointer (some ⟨g_7,x.toNat * 1,none⟩)⟩,⟨some 7,none,51,.int .i64 e_13⟩,⟨some 8,none,52,.int .i64 (max 0 e_13)⟩,⟨some 9,none,53,.pointer (some ⟨g_7,x.toNat * 1,none⟩)⟩]) (fun E θ => .box b_3 [.slice errors_p errors.length errors_c,.int .i64 r_2.1,.int .i64 r_2.2] 151::.box b_2 [.int .i64 r_1.1.Left,.int .i64 r_1.1.Right,.slice p_1 r_1.1.At.length c_1,.slice p_2 r_1.1.Depth.length c_2,.slice (some ⟨g_7,0,none⟩) x_1.length c_4] 98::.row p_1 c_1 (r_1.1.At.map encI_i64) 3 1::.row p_2 c_2 (r_1.1.Depth.map encI_i64) 3 1::(bif E 10 then .row (some ⟨g_7,0,none⟩) c_4 ((x_1.set x.toNat (max 0 e_13)).map encI_i64) 3 1 else .row (some ⟨g_7,0,none⟩) c_4 (x_1.map encI_i64) 3 1)::Lf) [(10,6),(10,7),(10,9)] (fun a w => Has 274 a [(2,.slice better_p better.length better_c),(3,.int .u8 by_),(4,.int .u8 stage),(11,.pointer (some ⟨b_2,0,none⟩)),(12,.pointer (some ⟨b_3,0,none⟩)),(40,.int .i64 ((r_1.1.Speeds.length : Nat) : Int)),(41,.int .i64 x)] ∧ Ctx G (.box b_3 [.slice errors_p errors.length errors_c,.int .i64 r_2.1,.int .i64 r_2.2] 151::.box b_2 [.int .i64 r_1.1.Left,.int .i64 r_1.1.Right,.slice p_1 r_1.1.At.length c_1,.slice p_2 r_1.1.Depth.length c_2,.slice (some ⟨g_7,0,none⟩) x_1.length c_4] 98::.row p_1 c_1 (r_1.1.At.map encI_i64) 3 1::.row p_2 c_2 (r_1.1.Depth.map encI_i64) 3 1::.row (some ⟨g_7,0,none⟩) c_4 ((x_1.set x.toNat (max 0 e_13)).map encI_i64) 3 1::Lf) w) follows_mx (by kernel_rfl) (by kernel_rfl) (HasE.of hf ⟨rfl,rfl,rfl,rfl,rfl,rfl,rfl,rfl,trivial,trivial,trivial,trivial,trivial,trivial,trivial,trivial,trivial,trivial,trivial⟩) hc ⟨?_,?_,?_,?_,?_,?_,?_,?_,?_,?_,?_,trivial⟩ ?_ ?_
  ·intro E θ a w hD hi hp he hc
   have hf := he.h0
   replace hf := hf.more he 3 rfl onT
   refine stP hf rfl rfl rfl (pFA fa_98_4 rfl) fun a hf => cNil ?_
   refine xThenN ?_
   intro ds u hau
   refine ⟨θ,he.put0 hi hau hf rfl 8 rfl rfl,?_⟩
   exact hc
  ·intro E θ a w hD hi hp he hc
   have e0 := hp.of (k := 0) rfl
   have hf := he.h0
   replace hf := hf.more he 8 rfl (onP e0)
   refine stE hf hc rfl rfl rfl (eLd1 sc_61 rfl (cell_box m1 rfl)) fun a w hf hc => cNil ?_
   refine xThenN ?_
   intro ds u hau
   refine ⟨θ,he.put0 hi hau hf rfl 9 rfl rfl,?_⟩
   exact hc
  ·intro E θ a w hD hi hp he hc
   have hf := he.h0
   replace hf := hf.more he 5 rfl onT
   refine stP hf rfl rfl rfl (pM rfl) fun a hf => cNil ?_
   refine xThenN ?_
   intro ds u hau
   refine ⟨θ,he.put0 hi hau hf rfl 10 rfl rfl,?_⟩
   exact hc
  ·intro E θ a w hD hi hp he hc
   have hf := he.h0
   replace hf := hf.more he 3 rfl onT
   refine stP hf rfl rfl rfl (pFA fa_98_4 rfl) fun a hf => cNil ?_
   refine xThenN ?_
   intro ds u hau
   refine ⟨θ,he.put0 hi hau hf rfl 11 rfl rfl,?_⟩
   exact hc
  ·intro E θ a w hD hi hp he hc
   have e3 := hp.of (k := 3) rfl
   have hf := he.h0
   replace hf := hf.more he 11 rfl (onP e3)
   refine stE hf hc rfl rfl rfl (eLd1 sc_61 rfl (cell_box m1 rfl)) fun a w hf hc => cNil ?_
   refine xThenN ?_
   intro ds u hau
   refine ⟨θ,he.put0 hi hau hf rfl 12 rfl rfl,?_⟩
   exact hc
  ·intro E θ a w hD hi hp he hc
   have hf := he.h0
   replace hf := hf.more he 5 rfl onT
   refine stP hf rfl rfl rfl (pM rfl) fun a hf => cNil ?_
   refine xThenN ?_
   intro ds u hau
   refine ⟨θ,he.put0 hi hau hf rfl 13 rfl rfl,?_⟩
   exact hc
  ·intro E θ a w hD hi hp he hc
   have e4 := hp.of (k := 4) rfl
   have e5 := hp.of (k := 5) rfl
   have e10 := hD.f 0 rfl hi
   try dsimp only at hc
   rw [e10] at hc
   have hf := he.h0
   replace hf := hf.more he 12 rfl (onP e4)
   replace hf := hf.more he 13 rfl (onP e5)
   refine stP hf rfl rfl rfl (pIA Try.underlying61 sz_3 rfl rfl qa_12) fun a hf => cNil ?_
   refine xThenN ?_
   intro ds u hau
   refine ⟨θ,he.put0 hi hau hf rfl 14 rfl rfl,?_⟩
   try dsimp only
   rw [updE_fls 6 e10 rfl]
   exact hc
  ·intro E θ a w hD hi hp he hc
   have e6 := hp.of (k := 6) rfl
   have e10 := hD.f 1 rfl hi
   try dsimp only at hc
   rw [e10] at hc
   have hf := he.h0
   replace hf := hf.more he 14 rfl (onP e6)
   refine stE hf hc rfl rfl rfl (eLd1 sc_3 rfl (cell_row (sz := 1) (i := x.toNat) (j := 0) m4 qr_12 rfl)) fun a w hf hc => cNil ?_
   refine xThenN ?_
   intro ds u hau
   refine ⟨θ,he.put0 hi hau hf rfl 15 rfl rfl,?_⟩
   try dsimp only
   rw [updE_fls 7 e10 rfl]
   exact hc
  ·intro E θ a w hD hi hp he hc
   have e7 := hp.of (k := 7) rfl
   have hf := he.h0
   replace hf := hf.more he 15 rfl (onP e7)
   refine stP hf rfl rfl rfl (pMax2 rfl rfl) fun a hf => cNil ?_
   refine xThenN ?_
   intro ds u hau
   refine ⟨θ,he.put0 hi hau hf rfl 16 rfl rfl,?_⟩
   exact hc
  ·intro E θ a w hD hi hp he hc
   have e1 := hp.of (k := 1) rfl
   have e2 := hp.of (k := 2) rfl
   have e10 := hD.f 2 rfl hi
   try dsimp only at hc
   rw [e10] at hc
   have hf := he.h0
   replace hf := hf.more he 9 rfl (onP e1)
   replace hf := hf.more he 10 rfl (onP e2)
   refine stP hf rfl rfl rfl (pIA Try.underlying61 sz_3 rfl rfl qa_13) fun a hf => cNil ?_
   refine xThenN ?_
   intro ds u hau
   refine ⟨θ,he.put0 hi hau hf rfl 17 rfl rfl,?_⟩
   try dsimp only
   rw [updE_fls 9 e10 rfl]
   exact hc
  ·intro E θ a w hD hi hp he hc
   have e8 := hp.of (k := 8) rfl
   have e9 := hp.of (k := 9) rfl
   try dsimp only at hc
   rw [hi] at hc
   have hf := he.h0
   replace hf := hf.more he 16 rfl (onP e8)
   replace hf := hf.more he 17 rfl (onP e9)
   refine stRw (vs := [.int .i64 (max 0 e_13)]) (o' := 0) (z := max 0 e_13) (xs := x_1) hf hc rfl rfl rfl rfl sz_3 rfl (fun x => (one_encI_i64 x).1) (getI_lt he_14) (fun _ _ => rfl) rfl u4 fun w hc => cNil ?_
   refine xThenN ?_
   intro ds u hau
   refine ⟨θ,he.stay0 hi hau hf rfl,?_⟩
   try dsimp only
   rw [updE_self E 10]
   exact hc
  ·intro E θ a w hall he hc
   have hf := he.h0
   have e10 := hall 10 rfl
   replace hf := hf.more he 7 rfl (onT)
   replace hf := hf.more he 6 rfl (onT)
   replace hf := hf.more he 4 rfl (onT)
   replace hf := hf.more he 3 rfl (onT)
   replace hf := hf.more he 2 rfl (onT)
   replace hf := hf.more he 1 rfl (onT)
   replace hf := hf.more he 0 rfl (onT)
   try dsimp only at hc
   rw [e10] at hc
   exact ⟨hf.keep ⟨rfl,rfl,rfl,rfl,rfl,rfl,rfl,trivial⟩,hc⟩
  rintro a w ⟨hf,hc⟩
  refine h44 _ _ ?_
  refine cReg ?_
  refine stP hf rfl rfl rfl (pAdd rfl rfl) fun a hf => stP hf rfl rfl rfl (pM rfl) fun a hf => cNil ?_
  rw [(by simp : x_1.length = (x_1.set x.toNat (max 0 e_13)).length)] at hc
  exact hK6 (W (x + 1),(x_1.set x.toNat (max 0 e_13))) _ _ (Option.some.inj hF).symm ⟨(some ⟨g_7,0,none⟩),c_4,hf.keep ⟨rfl,rfl,rfl,rfl,rfl,rfl,rfl,trivial⟩,hc⟩
 ·replace hF := condF hb hF
  clear hb
  refine wp_exit ?_
  refine xThen ?_
  refine xThen ?_
  have he := Option.some.inj hF
  rw [← he] at hfin6
  refine cHit ?_
  exact hr6 _ _ _ hfin6 ⟨p_4,c_4,hf.keep ⟨rfl,rfl,rfl,rfl,rfl,rfl,rfl,trivial⟩,hc⟩

end Go.Nilo
