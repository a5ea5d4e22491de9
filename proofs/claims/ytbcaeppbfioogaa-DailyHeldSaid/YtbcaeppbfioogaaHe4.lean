/-
  What functions of the Go text compute, as plain functions, and that they do, part 4 of 4. Conditions: what each theorem names.
-/
import Derived.Test.YtbcaeppbfioogaaHe3
import Derived.Test.YtbcaeppbfioogaaProg
set_option linter.unusedVariables false
set_option linter.unusedSimpArgs false
set_option maxRecDepth 100000
set_option maxHeartbeats 4000000
namespace Go.Nilo
open Go.Proofs


def law07_DailyHeld_j26 (N : Nat) (x_2 : Int) : Option (Step (Int) (Bool)) :=
  some (.cont (W (x_2 + 1)))
def law07_DailyHeld_b22 (N : Nat) (a_ : Int) (r_1 : daily_Record × (List Int) × Int × Int) (r_2 : (List api_Span) × Int) (e_1 : api_Span) (e_2 : api_Span) (x_2 : Int) : Option (Step (Int) (Bool)) :=
  cond (decide (x_2 < (2 : Int)))
  (Option.bind (getI ([W (e_1.Lo - 1), W (e_2.Hi + 1)] : List Int) x_2) fun e_3 =>
  cond ((decide (e_3 < 0)) || (decide (1000000000 < e_3)))
  (law07_DailyHeld_j26 N x_2)
  (Option.bind (kit_Copy_daily_Value N r_1.1.Days) fun r_8 =>
  Option.bind (law07_known N e_3 e_3) fun r_9 =>
  Option.bind (getI r_8 ((W (a_)).tmod ((r_2.1.length : Nat) : Int))) fun e_4 =>
  Option.bind (daily_Fill N (⟨r_1.1.Rise, r_1.1.Fall, (r_8.set ((W (a_)).tmod ((r_2.1.length : Nat) : Int)).toNat r_9)⟩ : daily_Record)) fun r_10 =>
  Option.bind (getI r_1.1.Days ((W (a_)).tmod ((r_2.1.length : Nat) : Int))) fun e_5 =>
  cond (((!e_5.Known) || ((decide (e_5.Flow.Lo ≤ e_3)) && (decide (e_3 ≤ e_5.Flow.Hi)))) && (r_10.2 != 7))
  (some (.ret false))
  (law07_DailyHeld_j26 N x_2)))
  (some (.brk x_2))
def law07_DailyHeld_b18 (N : Nat) (a_ : Int) (b_ : Int) (r_1 : daily_Record × (List Int) × Int × Int) (r_5 : api_Span × Int) (r_6 : (List Int) × (List Int)) (x_1 : Int) : Option (Step (Int) (Bool)) :=
  cond (decide (x_1 < (3 : Int)))
  (Option.bind (getI ([r_6.1, r_6.2, r_1.2.1] : List (List Int)) x_1) fun e_6 =>
  Option.bind (daily_Holds N r_1.1 e_6) fun r_11 =>
  Option.bind (subO e_6 (min ((W (a_)).tmod ((r_1.2.1.length : Nat) : Int)) ((W (b_)).tmod ((r_1.2.1.length : Nat) : Int))) (W ((max ((W (a_)).tmod ((r_1.2.1.length : Nat) : Int)) ((W (b_)).tmod ((r_1.2.1.length : Nat) : Int))) + 1))) fun sub =>
  Option.bind (law07_total N sub) fun r_12 =>
  cond ((((((r_11.2 != 0) || (r_11.1 != (-1))) || (decide (r_12 < r_5.1.Lo))) || (decide (r_5.1.Hi < r_12))) || ((x_1 == 0) && (r_12 != r_5.1.Lo))) || ((x_1 == 1) && (r_12 != r_5.1.Hi)))
  (some (.ret false))
  (some (.cont (W (x_1 + 1)))))
  (some (.brk x_1))
def law07_DailyHeld_b14 (N : Nat) (r_1 : daily_Record × (List Int) × Int × Int) (r_2 : (List api_Span) × Int) (x : Int) : Option (Step (Int) (Bool)) :=
  cond (decide (x < ((r_1.2.1.length : Nat) : Int)))
  (Option.bind (getI r_1.2.1 x) fun e_7 =>
  Option.bind (getI r_2.1 x) fun e_8 =>
  Option.bind (cond (decide (e_7 < e_8.Lo)) (some true) (Option.bind (getI r_2.1 x) fun e_9 =>
  some (decide (e_9.Hi < e_7)))) fun t_1 =>
  cond t_1
  (some (.ret false))
  (some (.cont (W (x + 1)))))
  (some (.brk x))
def law07_DailyHeld (N : Nat) (numbers : List Int) (a_ : Int) (b_ : Int) : Option (Bool) :=
  Option.bind (kit_New N numbers) fun r =>
  Option.bind (law07_Made N (⟨numbers, r.1, r.2⟩ : kit_Stream) 25) fun r_1 =>
  Option.bind (nz ((r_1.2.1.length : Nat) : Int)) fun un =>
  Option.bind (nz ((r_1.2.1.length : Nat) : Int)) fun un_1 =>
  Option.bind (daily_Fill N r_1.1) fun r_2 =>
  Option.bind (daily_Holds N r_1.1 r_1.2.1) fun r_3 =>
  Option.bind (daily_Clash N r_1.1) fun r_4 =>
  Option.bind (daily_Volume N r_1.1 (min ((W (a_)).tmod ((r_1.2.1.length : Nat) : Int)) ((W (b_)).tmod ((r_1.2.1.length : Nat) : Int))) (max ((W (a_)).tmod ((r_1.2.1.length : Nat) : Int)) ((W (b_)).tmod ((r_1.2.1.length : Nat) : Int)))) fun r_5 =>
  cond ((((((r_2.2 != 0) || (r_3.2 != 0)) || (r_4.2.2 != 5)) || (r_5.2 != 0)) || (r_3.1 != (-1))) || (((r_2.1.length : Nat) : Int) != ((r_1.2.1.length : Nat) : Int)))
  (some false)
  (Option.bind (loopO (fun s14 => law07_DailyHeld_b14 N r_1 r_2 s14) N 0) fun x14 =>
  exK x14 (fun s14 => Option.bind (law07_lists N r_2.1) fun r_6 =>
  Option.bind (loopO (fun s18 => law07_DailyHeld_b18 N a_ b_ r_1 r_5 r_6 s18) N 0) fun x18 =>
  exK x18 (fun s18 => Option.bind (nz ((r_2.1.length : Nat) : Int)) fun un_2 =>
  Option.bind (getI r_2.1 ((W (a_)).tmod ((r_2.1.length : Nat) : Int))) fun e_1 =>
  Option.bind (getI r_2.1 ((W (a_)).tmod ((r_2.1.length : Nat) : Int))) fun e_2 =>
  Option.bind (loopO (fun s22 => law07_DailyHeld_b22 N a_ r_1 r_2 e_1 e_2 s22) N 0) fun x22 =>
  exK x22 (fun s22 => Option.bind (law07_awake N) fun r_7 =>
  some r_7) some) some) some)
theorem law07_DailyHeld_ok {N : Nat} {G : Pers} {Lf : List Ent} {w : World} (numbers : List Int) (a_ : Int) (b_ : Int) {numbers_p : Option Addr} {numbers_c : Nat} (h_numbers : Rd G 1 numbers_p numbers_c (numbers.map encI_u8)) (hc : Ctx G (Lf) w) {res : Bool} (hF : law07_DailyHeld N numbers a_ b_ = some res) : Calls Try.prog 7 #[.slice numbers_p numbers.length numbers_c, .int .u8 a_, .int .u8 b_] w (fun e w => e = .returned (.bool res) ∧ Ctx G (Lf) w) := by
  unfold law07_DailyHeld at hF
  refine fnIn (args := [.slice numbers_p numbers.length numbers_c, .int .u8 a_, .int .u8 b_]) Try.func7 rfl Try.ntmps7 rfl fun a hf => ?_
  refine wp_seq_k fun K1 h1 => ?_
  refine cReg ?_
  refine stP hf rfl rfl rfl (pA rfl) fun a hf => ?_
  refine cNil ?_
  refine h1 _ _ ?_
  refine wp_seq_k fun K2 h2 => ?_
  refine cReg ?_
  refine stP hf rfl rfl rfl (pM rfl) fun a hf => ?_
  obtain ⟨r, hr, hF⟩ := bnd_some hF
  refine stC (vs := [.slice numbers_p numbers.length numbers_c]) (caps := []) hf rfl rfl rfl en_26 rfl rfl rfl rfl (kit_New_ok numbers h_numbers hc hr) ?_
  rintro _ w ⟨b_1, rfl, hc⟩
  refine ⟨_, rfl, fun a hf => ?_⟩
  obtain ⟨r_1, hr_1, hF⟩ := bnd_some hF
  refine stC (vs := [.pointer (some ⟨b_1, 0, none⟩), .int .i64 25]) (caps := []) hf rfl rfl rfl en_25 rfl rfl rfl rfl (law07_Made_ok (⟨numbers, r.1, r.2⟩ : kit_Stream) 25 h_numbers (hc.pick k0) hr_1) ?_
  rintro _ w ⟨p_1, c_1, p_2, c_2, rfl, hc⟩
  refine ⟨_, rfl, fun a hf => ?_⟩
  refine stP hf rfl rfl rfl (pM rfl) fun a hf => ?_
  refine stP hf rfl rfl rfl (pX rfl rfl) fun a hf => ?_
  refine stP hf rfl rfl rfl (pX rfl rfl) fun a hf => ?_
  refine stAl (cs := [.int .i64 0, .int .i64 0, .slice none 0 0]) hf hc rfl rfl zr_24 rfl fun b_2 a w hf hc => ?_
  refine stSt (vs := [.int .i64 r_1.1.Rise, .int .i64 r_1.1.Fall, .slice p_1 r_1.1.Days.length c_1]) hf hc rfl rfl rfl rfl sz_24 rfl rfl u0 fun w hc => ?_
  refine stP hf rfl rfl rfl (pA rfl) fun a hf => ?_
  refine cNil ?_
  refine h2 _ _ ?_
  refine wp_seq_k fun K3 h3 => ?_
  obtain ⟨un, hun, hF⟩ := bnd_some hF
  obtain ⟨un_1, hun_1, hF⟩ := bnd_some hF
  refine cQ hc follows_mx (by kernel_rfl) ?_
  refine qE hf rfl rfl rfl (Pu.ev (pM rfl)) fun a hf => ?_
  refine qE hf rfl rfl rfl (Pu.ev (pCv Try.underlying5 Try.underlying3 rfl)) fun a hf => ?_
  refine qE hf rfl rfl rfl (Pu.ev (pM rfl)) fun a hf => ?_
  refine qE hf rfl rfl rfl (Pu.ev (pLenS Try.underlying39 rfl)) fun a hf => ?_
  refine qE hf rfl rfl rfl (Pu.ev (pRem rfl rfl (nz_spec hun))) fun a hf => ?_
  refine qE hf rfl rfl rfl (Pu.ev (pM rfl)) fun a hf => ?_
  refine qE hf rfl rfl rfl (Pu.ev (pCv Try.underlying5 Try.underlying3 rfl)) fun a hf => ?_
  refine qE hf rfl rfl rfl (Pu.ev (pM rfl)) fun a hf => ?_
  refine qE hf rfl rfl rfl (Pu.ev (pLenS Try.underlying39 rfl)) fun a hf => ?_
  refine qE hf rfl rfl rfl (Pu.ev (pRem rfl rfl (nz_spec hun_1))) fun a hf => ?_
  refine qE hf rfl rfl rfl (Pu.ev (pA rfl)) fun a hf => ?_
  refine qE hf rfl rfl rfl (Pu.ev (pA rfl)) fun a hf => ?_
  intro w hc
  refine h3 _ _ ?_
  refine wp_seq_k fun K4 h4 => ?_
  refine cReg ?_
  refine stP hf rfl rfl rfl (pM rfl) fun a hf => ?_
  refine stP hf rfl rfl rfl (pM rfl) fun a hf => ?_
  refine stP hf rfl rfl rfl (pMin2 rfl rfl) fun a hf => ?_
  refine stP hf rfl rfl rfl (pM rfl) fun a hf => ?_
  refine stP hf rfl rfl rfl (pM rfl) fun a hf => ?_
  refine stP hf rfl rfl rfl (pMax2 rfl rfl) fun a hf => ?_
  refine stP hf rfl rfl rfl (pA rfl) fun a hf => ?_
  refine stP hf rfl rfl rfl (pA rfl) fun a hf => ?_
  refine cNil ?_
  refine h4 _ _ ?_
  refine wp_seq_k fun K5 h5 => ?_
  refine cReg ?_
  refine stE hf hc rfl rfl rfl (eLdN (vs := [.int .i64 r_1.1.Rise, .int .i64 r_1.1.Fall, .slice p_1 r_1.1.Days.length c_1]) ag_24 rfl rfl (cells_box (n := 3) m0 rfl)) fun a w hf hc => ?_
  obtain ⟨r_2, hr_2, hF⟩ := bnd_some hF
  obtain ⟨G1, hle1, hrd1, hc, hth1⟩ := lend hc k1
  refine stC (vs := [.agg #[.int .i64 r_1.1.Rise, .int .i64 r_1.1.Fall, .slice p_1 r_1.1.Days.length c_1]]) (caps := []) hf rfl rfl rfl en_29 rfl rfl rfl rfl (daily_Fill_ok r_1.1 hrd1 hc hr_2) ?_
  rintro _ w ⟨p_3, c_3, rfl, hc⟩
  refine ⟨_, rfl, fun a hf => ?_⟩
  replace hc := hth1 _ _ hc
  refine stP hf rfl rfl rfl (pM rfl) fun a hf => ?_
  refine stP hf rfl rfl rfl (pX rfl rfl) fun a hf => ?_
  refine stP hf rfl rfl rfl (pX rfl rfl) fun a hf => ?_
  refine stP hf rfl rfl rfl (pA rfl) fun a hf => ?_
  refine stP hf rfl rfl rfl (pA rfl) fun a hf => ?_
  refine cNil ?_
  refine h5 _ _ ?_
  refine wp_seq_k fun K6 h6 => ?_
  refine cReg ?_
  refine stE hf hc rfl rfl rfl (eLdN (vs := [.int .i64 r_1.1.Rise, .int .i64 r_1.1.Fall, .slice p_1 r_1.1.Days.length c_1]) ag_24 rfl rfl (cells_box (n := 3) m2 rfl)) fun a w hf hc => ?_
  refine stP hf rfl rfl rfl (pM rfl) fun a hf => ?_
  obtain ⟨r_3, hr_3, hF⟩ := bnd_some hF
  refine stE hf hc rfl rfl rfl (eC (v := .tuple #[.int .i64 r_3.1, .int .i64 r_3.2]) (vs := [.agg #[.int .i64 r_1.1.Rise, .int .i64 r_1.1.Fall, .slice p_1 r_1.1.Days.length c_1], .slice p_2 r_1.2.1.length c_2]) (caps := []) en_36 rfl rfl rfl rfl (fun w hc => by obtain ⟨G1, hle1, hrd1, hc, hth1⟩ := lend hc k0; obtain ⟨G2, hle2, hrd2, hc, hth2⟩ := lend hc k2; exact (daily_Holds_ok r_1.1 r_1.2.1 (hrd1.mono hle2) hrd2 hc hr_3).mono fun e w h => ⟨h.1, ((hth1 _ _ ((hth2 _ _ h.2).unpick k2)).unpick k0)⟩)) fun a w hf hc => ?_
  refine stP hf rfl rfl rfl (pM rfl) fun a hf => ?_
  refine stP hf rfl rfl rfl (pX rfl rfl) fun a hf => ?_
  refine stP hf rfl rfl rfl (pX rfl rfl) fun a hf => ?_
  refine stP hf rfl rfl rfl (pA rfl) fun a hf => ?_
  refine stP hf rfl rfl rfl (pA rfl) fun a hf => ?_
  refine cNil ?_
  refine h6 _ _ ?_
  refine wp_seq_k fun K7 h7 => ?_
  refine cReg ?_
  refine stE hf hc rfl rfl rfl (eLdN (vs := [.int .i64 r_1.1.Rise, .int .i64 r_1.1.Fall, .slice p_1 r_1.1.Days.length c_1]) ag_24 rfl rfl (cells_box (n := 3) m2 rfl)) fun a w hf hc => ?_
  obtain ⟨r_4, hr_4, hF⟩ := bnd_some hF
  refine stE hf hc rfl rfl rfl (eC (v := .tuple #[.int .i64 r_4.1, .int .i64 r_4.2.1, .int .i64 r_4.2.2]) (vs := [.agg #[.int .i64 r_1.1.Rise, .int .i64 r_1.1.Fall, .slice p_1 r_1.1.Days.length c_1]]) (caps := []) en_28 rfl rfl rfl rfl (fun w hc => by obtain ⟨G1, hle1, hrd1, hc, hth1⟩ := lend hc k0; exact (daily_Clash_ok r_1.1 hrd1 hc hr_4).mono fun e w h => ⟨h.1, ((hth1 _ _ h.2).unpick k0)⟩)) fun a w hf hc => ?_
  refine stP hf rfl rfl rfl (pM rfl) fun a hf => ?_
  refine stP hf rfl rfl rfl (pX rfl rfl) fun a hf => ?_
  refine stP hf rfl rfl rfl (pX rfl rfl) fun a hf => ?_
  refine stP hf rfl rfl rfl (pX rfl rfl) fun a hf => ?_
  refine stP hf rfl rfl rfl (pA rfl) fun a hf => ?_
  refine stP hf rfl rfl rfl (pA rfl) fun a hf => ?_
  refine stP hf rfl rfl rfl (pA rfl) fun a hf => ?_
  refine cNil ?_
  refine h7 _ _ ?_
  refine wp_seq_k fun K8 h8 => ?_
  refine cReg ?_
  refine stE hf hc rfl rfl rfl (eLdN (vs := [.int .i64 r_1.1.Rise, .int .i64 r_1.1.Fall, .slice p_1 r_1.1.Days.length c_1]) ag_24 rfl rfl (cells_box (n := 3) m2 rfl)) fun a w hf hc => ?_
  refine stP hf rfl rfl rfl (pM rfl) fun a hf => ?_
  refine stP hf rfl rfl rfl (pM rfl) fun a hf => ?_
  obtain ⟨r_5, hr_5, hF⟩ := bnd_some hF
  refine stE hf hc rfl rfl rfl (eC (v := .tuple #[.agg #[.int .i64 r_5.1.Lo, .int .i64 r_5.1.Hi], .int .i64 r_5.2]) (vs := [.agg #[.int .i64 r_1.1.Rise, .int .i64 r_1.1.Fall, .slice p_1 r_1.1.Days.length c_1], .int .i64 (min ((W (a_)).tmod ((r_1.2.1.length : Nat) : Int)) ((W (b_)).tmod ((r_1.2.1.length : Nat) : Int))), .int .i64 (max ((W (a_)).tmod ((r_1.2.1.length : Nat) : Int)) ((W (b_)).tmod ((r_1.2.1.length : Nat) : Int)))]) (caps := []) en_15 rfl rfl rfl rfl (fun w hc => by obtain ⟨G1, hle1, hrd1, hc, hth1⟩ := lend hc k0; exact (daily_Volume_ok r_1.1 (min ((W (a_)).tmod ((r_1.2.1.length : Nat) : Int)) ((W (b_)).tmod ((r_1.2.1.length : Nat) : Int))) (max ((W (a_)).tmod ((r_1.2.1.length : Nat) : Int)) ((W (b_)).tmod ((r_1.2.1.length : Nat) : Int))) hrd1 hc hr_5).mono fun e w h => ⟨h.1, ((hth1 _ _ h.2).unpick k0)⟩)) fun a w hf hc => ?_
  refine stP hf rfl rfl rfl (pM rfl) fun a hf => ?_
  refine stP hf rfl rfl rfl (pX rfl rfl) fun a hf => ?_
  refine stP hf rfl rfl rfl (pX rfl rfl) fun a hf => ?_
  refine stAl (cs := [.int .i64 0, .int .i64 0]) hf hc rfl rfl zr_30 rfl fun b_3 a w hf hc => ?_
  refine stSt (vs := [.int .i64 r_5.1.Lo, .int .i64 r_5.1.Hi]) hf hc rfl rfl rfl rfl sz_30 rfl rfl u0 fun w hc => ?_
  refine stP hf rfl rfl rfl (pA rfl) fun a hf => ?_
  refine cNil ?_
  refine h8 _ _ ?_
  refine wp_seq_k fun K9 h9 => ?_
  refine wp_seq_k fun K10 h10 => ?_
  refine cReg ?_
  refine stP hf rfl rfl rfl (pM rfl) fun a hf => ?_
  refine stP hf rfl rfl rfl (pNe rfl rfl) fun a hf => ?_
  refine stP hf rfl rfl rfl (pM rfl) fun a hf => ?_
  refine stCut 3 (fun a w => Has 274 a [(1, .int .u8 a_), (7, .pointer (some ⟨b_2, 0, none⟩)), (8, .slice p_2 r_1.2.1.length c_2), (9, .int .i64 (min ((W (a_)).tmod ((r_1.2.1.length : Nat) : Int)) ((W (b_)).tmod ((r_1.2.1.length : Nat) : Int)))), (10, .int .i64 (max ((W (a_)).tmod ((r_1.2.1.length : Nat) : Int)) ((W (b_)).tmod ((r_1.2.1.length : Nat) : Int)))), (11, .slice p_3 r_2.1.length c_3), (12, .int .i64 r_2.2), (13, .int .i64 r_3.1), (14, .int .i64 r_3.2), (17, .int .i64 r_4.2.2), (18, .pointer (some ⟨b_3, 0, none⟩)), (19, .int .i64 r_5.2), (82, .int .i64 r_2.2), (83, .bool (r_2.2 != 0)), (84, .bool (r_2.2 != 0)), (87, .bool ((r_2.2 != 0) || (r_3.2 != 0)))] ∧ Ctx G (.box b_3 [.int .i64 r_5.1.Lo, .int .i64 r_5.1.Hi] 30 :: .row p_1 c_1 (r_1.1.Days.map enc_daily_Value) 56 3 :: .row p_3 c_3 (r_2.1.map enc_api_Span) 30 2 :: .box b_2 [.int .i64 r_1.1.Rise, .int .i64 r_1.1.Fall, .slice p_1 r_1.1.Days.length c_1] 24 :: .row p_2 c_2 (r_1.2.1.map encI_i64) 3 1 :: .box b_1 [.slice numbers_p numbers.length numbers_c, .int .i64 r_1.2.2.1, .int .i64 r_1.2.2.2] 135 :: Lf) w) ?_ ?_
  · cases hb : (r_2.2 != 0)
    · rw [hb] at hf
      refine stP hf rfl rfl rfl (pM rfl) fun a hf => ?_
      refine stP hf rfl rfl rfl (pNe rfl rfl) fun a hf => ?_
      refine stP hf rfl rfl rfl (pPf rfl rfl) fun a hf => ?_
      exact cNil ⟨hf.keep ⟨rfl, rfl, rfl, rfl, rfl, rfl, rfl, rfl, rfl, rfl, rfl, rfl, rfl, rfl, rfl, rfl, trivial⟩, hc⟩
    · rw [hb] at hf
      refine stS hf rfl rfl rfl fun a hf => ?_
      refine stS hf rfl rfl rfl fun a hf => ?_
      refine stP hf rfl rfl rfl (pPt rfl rfl) fun a hf => ?_
      exact cNil ⟨hf.keep ⟨rfl, rfl, rfl, rfl, rfl, rfl, rfl, rfl, rfl, rfl, rfl, rfl, rfl, rfl, rfl, rfl, trivial⟩, hc⟩
  intro a w ⟨hf, hc⟩
  refine stP hf rfl rfl rfl (pM rfl) fun a hf => ?_
  refine stCut 3 (fun a w => Has 274 a [(1, .int .u8 a_), (7, .pointer (some ⟨b_2, 0, none⟩)), (8, .slice p_2 r_1.2.1.length c_2), (9, .int .i64 (min ((W (a_)).tmod ((r_1.2.1.length : Nat) : Int)) ((W (b_)).tmod ((r_1.2.1.length : Nat) : Int)))), (10, .int .i64 (max ((W (a_)).tmod ((r_1.2.1.length : Nat) : Int)) ((W (b_)).tmod ((r_1.2.1.length : Nat) : Int)))), (11, .slice p_3 r_2.1.length c_3), (12, .int .i64 r_2.2), (13, .int .i64 r_3.1), (14, .int .i64 r_3.2), (17, .int .i64 r_4.2.2), (18, .pointer (some ⟨b_3, 0, none⟩)), (19, .int .i64 r_5.2), (82, .int .i64 r_2.2), (83, .bool (r_2.2 != 0)), (84, .bool (r_2.2 != 0)), (87, .bool ((r_2.2 != 0) || (r_3.2 != 0))), (88, .bool ((r_2.2 != 0) || (r_3.2 != 0))), (91, .bool (((r_2.2 != 0) || (r_3.2 != 0)) || (r_4.2.2 != 5)))] ∧ Ctx G (.box b_3 [.int .i64 r_5.1.Lo, .int .i64 r_5.1.Hi] 30 :: .row p_1 c_1 (r_1.1.Days.map enc_daily_Value) 56 3 :: .row p_3 c_3 (r_2.1.map enc_api_Span) 30 2 :: .box b_2 [.int .i64 r_1.1.Rise, .int .i64 r_1.1.Fall, .slice p_1 r_1.1.Days.length c_1] 24 :: .row p_2 c_2 (r_1.2.1.map encI_i64) 3 1 :: .box b_1 [.slice numbers_p numbers.length numbers_c, .int .i64 r_1.2.2.1, .int .i64 r_1.2.2.2] 135 :: Lf) w) ?_ ?_
  · cases hb : ((r_2.2 != 0) || (r_3.2 != 0))
    · rw [hb] at hf
      refine stP hf rfl rfl rfl (pM rfl) fun a hf => ?_
      refine stP hf rfl rfl rfl (pNe rfl rfl) fun a hf => ?_
      refine stP hf rfl rfl rfl (pPf rfl rfl) fun a hf => ?_
      exact cNil ⟨hf.keep ⟨rfl, rfl, rfl, rfl, rfl, rfl, rfl, rfl, rfl, rfl, rfl, rfl, rfl, rfl, rfl, rfl, rfl, rfl, trivial⟩, hc⟩
    · rw [hb] at hf
      refine stS hf rfl rfl rfl fun a hf => ?_
      refine stS hf rfl rfl rfl fun a hf => ?_
      refine stP hf rfl rfl rfl (pPt rfl rfl) fun a hf => ?_
      exact cNil ⟨hf.keep ⟨rfl, rfl, rfl, rfl, rfl, rfl, rfl, rfl, rfl, rfl, rfl, rfl, rfl, rfl, rfl, rfl, rfl, rfl, trivial⟩, hc⟩
  intro a w ⟨hf, hc⟩
  refine stP hf rfl rfl rfl (pM rfl) fun a hf => ?_
  refine stCut 3 (fun a w => Has 274 a [(1, .int .u8 a_), (7, .pointer (some ⟨b_2, 0, none⟩)), (8, .slice p_2 r_1.2.1.length c_2), (9, .int .i64 (min ((W (a_)).tmod ((r_1.2.1.length : Nat) : Int)) ((W (b_)).tmod ((r_1.2.1.length : Nat) : Int)))), (10, .int .i64 (max ((W (a_)).tmod ((r_1.2.1.length : Nat) : Int)) ((W (b_)).tmod ((r_1.2.1.length : Nat) : Int)))), (11, .slice p_3 r_2.1.length c_3), (12, .int .i64 r_2.2), (13, .int .i64 r_3.1), (14, .int .i64 r_3.2), (17, .int .i64 r_4.2.2), (18, .pointer (some ⟨b_3, 0, none⟩)), (19, .int .i64 r_5.2), (82, .int .i64 r_2.2), (83, .bool (r_2.2 != 0)), (84, .bool (r_2.2 != 0)), (87, .bool ((r_2.2 != 0) || (r_3.2 != 0))), (88, .bool ((r_2.2 != 0) || (r_3.2 != 0))), (91, .bool (((r_2.2 != 0) || (r_3.2 != 0)) || (r_4.2.2 != 5))), (92, .bool (((r_2.2 != 0) || (r_3.2 != 0)) || (r_4.2.2 != 5))), (95, .bool ((((r_2.2 != 0) || (r_3.2 != 0)) || (r_4.2.2 != 5)) || (r_5.2 != 0)))] ∧ Ctx G (.box b_3 [.int .i64 r_5.1.Lo, .int .i64 r_5.1.Hi] 30 :: .row p_1 c_1 (r_1.1.Days.map enc_daily_Value) 56 3 :: .row p_3 c_3 (r_2.1.map enc_api_Span) 30 2 :: .box b_2 [.int .i64 r_1.1.Rise, .int .i64 r_1.1.Fall, .slice p_1 r_1.1.Days.length c_1] 24 :: .row p_2 c_2 (r_1.2.1.map encI_i64) 3 1 :: .box b_1 [.slice numbers_p numbers.length numbers_c, .int .i64 r_1.2.2.1, .int .i64 r_1.2.2.2] 135 :: Lf) w) ?_ ?_
  · cases hb : (((r_2.2 != 0) || (r_3.2 != 0)) || (r_4.2.2 != 5))
    · rw [hb] at hf
      refine stP hf rfl rfl rfl (pM rfl) fun a hf => ?_
      refine stP hf rfl rfl rfl (pNe rfl rfl) fun a hf => ?_
      refine stP hf rfl rfl rfl (pPf rfl rfl) fun a hf => ?_
      exact cNil ⟨hf.keep ⟨rfl, rfl, rfl, rfl, rfl, rfl, rfl, rfl, rfl, rfl, rfl, rfl, rfl, rfl, rfl, rfl, rfl, rfl, rfl, rfl, trivial⟩, hc⟩
    · rw [hb] at hf
      refine stS hf rfl rfl rfl fun a hf => ?_
      refine stS hf rfl rfl rfl fun a hf => ?_
      refine stP hf rfl rfl rfl (pPt rfl rfl) fun a hf => ?_
      exact cNil ⟨hf.keep ⟨rfl, rfl, rfl, rfl, rfl, rfl, rfl, rfl, rfl, rfl, rfl, rfl, rfl, rfl, rfl, rfl, rfl, rfl, rfl, rfl, trivial⟩, hc⟩
  intro a w ⟨hf, hc⟩
  refine stP hf rfl rfl rfl (pM rfl) fun a hf => ?_
  refine stCut 3 (fun a w => Has 274 a [(1, .int .u8 a_), (7, .pointer (some ⟨b_2, 0, none⟩)), (8, .slice p_2 r_1.2.1.length c_2), (9, .int .i64 (min ((W (a_)).tmod ((r_1.2.1.length : Nat) : Int)) ((W (b_)).tmod ((r_1.2.1.length : Nat) : Int)))), (10, .int .i64 (max ((W (a_)).tmod ((r_1.2.1.length : Nat) : Int)) ((W (b_)).tmod ((r_1.2.1.length : Nat) : Int)))), (11, .slice p_3 r_2.1.length c_3), (12, .int .i64 r_2.2), (13, .int .i64 r_3.1), (14, .int .i64 r_3.2), (17, .int .i64 r_4.2.2), (18, .pointer (some ⟨b_3, 0, none⟩)), (19, .int .i64 r_5.2), (82, .int .i64 r_2.2), (83, .bool (r_2.2 != 0)), (84, .bool (r_2.2 != 0)), (87, .bool ((r_2.2 != 0) || (r_3.2 != 0))), (88, .bool ((r_2.2 != 0) || (r_3.2 != 0))), (91, .bool (((r_2.2 != 0) || (r_3.2 != 0)) || (r_4.2.2 != 5))), (92, .bool (((r_2.2 != 0) || (r_3.2 != 0)) || (r_4.2.2 != 5))), (95, .bool ((((r_2.2 != 0) || (r_3.2 != 0)) || (r_4.2.2 != 5)) || (r_5.2 != 0))), (96, .bool ((((r_2.2 != 0) || (r_3.2 != 0)) || (r_4.2.2 != 5)) || (r_5.2 != 0))), (99, .bool (((((r_2.2 != 0) || (r_3.2 != 0)) || (r_4.2.2 != 5)) || (r_5.2 != 0)) || (r_3.1 != (-1))))] ∧ Ctx G (.box b_3 [.int .i64 r_5.1.Lo, .int .i64 r_5.1.Hi] 30 :: .row p_1 c_1 (r_1.1.Days.map enc_daily_Value) 56 3 :: .row p_3 c_3 (r_2.1.map enc_api_Span) 30 2 :: .box b_2 [.int .i64 r_1.1.Rise, .int .i64 r_1.1.Fall, .slice p_1 r_1.1.Days.length c_1] 24 :: .row p_2 c_2 (r_1.2.1.map encI_i64) 3 1 :: .box b_1 [.slice numbers_p numbers.length numbers_c, .int .i64 r_1.2.2.1, .int .i64 r_1.2.2.2] 135 :: Lf) w) ?_ ?_
  · cases hb : ((((r_2.2 != 0) || (r_3.2 != 0)) || (r_4.2.2 != 5)) || (r_5.2 != 0))
    · rw [hb] at hf
      refine stP hf rfl rfl rfl (pM rfl) fun a hf => ?_
      refine stP hf rfl rfl rfl (pNe rfl rfl) fun a hf => ?_
      refine stP hf rfl rfl rfl (pPf rfl rfl) fun a hf => ?_
      exact cNil ⟨hf.keep ⟨rfl, rfl, rfl, rfl, rfl, rfl, rfl, rfl, rfl, rfl, rfl, rfl, rfl, rfl, rfl, rfl, rfl, rfl, rfl, rfl, rfl, rfl, trivial⟩, hc⟩
    · rw [hb] at hf
      refine stS hf rfl rfl rfl fun a hf => ?_
      refine stS hf rfl rfl rfl fun a hf => ?_
      refine stP hf rfl rfl rfl (pPt rfl rfl) fun a hf => ?_
      exact cNil ⟨hf.keep ⟨rfl, rfl, rfl, rfl, rfl, rfl, rfl, rfl, rfl, rfl, rfl, rfl, rfl, rfl, rfl, rfl, rfl, rfl, rfl, rfl, rfl, rfl, trivial⟩, hc⟩
  intro a w ⟨hf, hc⟩
  refine stP hf rfl rfl rfl (pM rfl) fun a hf => ?_
  refine stCut 6 (fun a w => Has 274 a [(1, .int .u8 a_), (7, .pointer (some ⟨b_2, 0, none⟩)), (8, .slice p_2 r_1.2.1.length c_2), (9, .int .i64 (min ((W (a_)).tmod ((r_1.2.1.length : Nat) : Int)) ((W (b_)).tmod ((r_1.2.1.length : Nat) : Int)))), (10, .int .i64 (max ((W (a_)).tmod ((r_1.2.1.length : Nat) : Int)) ((W (b_)).tmod ((r_1.2.1.length : Nat) : Int)))), (11, .slice p_3 r_2.1.length c_3), (12, .int .i64 r_2.2), (13, .int .i64 r_3.1), (14, .int .i64 r_3.2), (17, .int .i64 r_4.2.2), (18, .pointer (some ⟨b_3, 0, none⟩)), (19, .int .i64 r_5.2), (82, .int .i64 r_2.2), (83, .bool (r_2.2 != 0)), (84, .bool (r_2.2 != 0)), (87, .bool ((r_2.2 != 0) || (r_3.2 != 0))), (88, .bool ((r_2.2 != 0) || (r_3.2 != 0))), (91, .bool (((r_2.2 != 0) || (r_3.2 != 0)) || (r_4.2.2 != 5))), (92, .bool (((r_2.2 != 0) || (r_3.2 != 0)) || (r_4.2.2 != 5))), (95, .bool ((((r_2.2 != 0) || (r_3.2 != 0)) || (r_4.2.2 != 5)) || (r_5.2 != 0))), (96, .bool ((((r_2.2 != 0) || (r_3.2 != 0)) || (r_4.2.2 != 5)) || (r_5.2 != 0))), (99, .bool (((((r_2.2 != 0) || (r_3.2 != 0)) || (r_4.2.2 != 5)) || (r_5.2 != 0)) || (r_3.1 != (-1)))), (100, .bool (((((r_2.2 != 0) || (r_3.2 != 0)) || (r_4.2.2 != 5)) || (r_5.2 != 0)) || (r_3.1 != (-1)))), (106, .bool ((((((r_2.2 != 0) || (r_3.2 != 0)) || (r_4.2.2 != 5)) || (r_5.2 != 0)) || (r_3.1 != (-1))) || (((r_2.1.length : Nat) : Int) != ((r_1.2.1.length : Nat) : Int))))] ∧ Ctx G (.box b_3 [.int .i64 r_5.1.Lo, .int .i64 r_5.1.Hi] 30 :: .row p_1 c_1 (r_1.1.Days.map enc_daily_Value) 56 3 :: .row p_3 c_3 (r_2.1.map enc_api_Span) 30 2 :: .box b_2 [.int .i64 r_1.1.Rise, .int .i64 r_1.1.Fall, .slice p_1 r_1.1.Days.length c_1] 24 :: .row p_2 c_2 (r_1.2.1.map encI_i64) 3 1 :: .box b_1 [.slice numbers_p numbers.length numbers_c, .int .i64 r_1.2.2.1, .int .i64 r_1.2.2.2] 135 :: Lf) w) ?_ ?_
  · cases hb : (((((r_2.2 != 0) || (r_3.2 != 0)) || (r_4.2.2 != 5)) || (r_5.2 != 0)) || (r_3.1 != (-1)))
    · rw [hb] at hf
      refine stP hf rfl rfl rfl (pM rfl) fun a hf => ?_
      refine stP hf rfl rfl rfl (pLenS Try.underlying25 rfl) fun a hf => ?_
      refine stP hf rfl rfl rfl (pM rfl) fun a hf => ?_
      refine stP hf rfl rfl rfl (pLenS Try.underlying39 rfl) fun a hf => ?_
      refine stP hf rfl rfl rfl (pNe rfl rfl) fun a hf => ?_
      refine stP hf rfl rfl rfl (pPf rfl rfl) fun a hf => ?_
      exact cNil ⟨hf.keep ⟨rfl, rfl, rfl, rfl, rfl, rfl, rfl, rfl, rfl, rfl, rfl, rfl, rfl, rfl, rfl, rfl, rfl, rfl, rfl, rfl, rfl, rfl, rfl, rfl, trivial⟩, hc⟩
    · rw [hb] at hf
      refine stS hf rfl rfl rfl fun a hf => ?_
      refine stS hf rfl rfl rfl fun a hf => ?_
      refine stS hf rfl rfl rfl fun a hf => ?_
      refine stS hf rfl rfl rfl fun a hf => ?_
      refine stS hf rfl rfl rfl fun a hf => ?_
      refine stP hf rfl rfl rfl (pPt rfl rfl) fun a hf => ?_
      exact cNil ⟨hf.keep ⟨rfl, rfl, rfl, rfl, rfl, rfl, rfl, rfl, rfl, rfl, rfl, rfl, rfl, rfl, rfl, rfl, rfl, rfl, rfl, rfl, rfl, rfl, rfl, rfl, trivial⟩, hc⟩
  intro a w ⟨hf, hc⟩
  refine cNil ?_
  refine h10 _ _ ?_
  refine cCond (b := ((((((r_2.2 != 0) || (r_3.2 != 0)) || (r_4.2.2 != 5)) || (r_5.2 != 0)) || (r_3.1 != (-1))) || (((r_2.1.length : Nat) : Int) != ((r_1.2.1.length : Nat) : Int)))) hf rfl (fun hb => ?_) (fun hb => ?_)
  · replace hF := condT hb hF
    clear hb
    refine wp_seq_k fun K11 h11 => ?_
    refine cReg ?_
    refine stP hf rfl rfl rfl (pA rfl) fun a hf => ?_
    refine cNil ?_
    refine h11 _ _ ?_
    refine wp_ret ?_
    refine xThenR ?_
    obtain rfl := Option.some.inj hF
    replace hc := hc.drop k5
    replace hc := hc.drop k4
    replace hc := hc.drop k3
    replace hc := hc.drop k2
    replace hc := hc.drop k1
    replace hc := hc.drop k0
    exact fnOut1 (by simp) rfl Try.results7 hf hc (show look _ 6 = _ from rfl) ⟨rfl, hc⟩
  · replace hF := condF hb hF
    clear hb
    refine wp_skip ?_
    refine h9 _ _ ?_
    refine wp_seq_k fun K12 h12 => ?_
    refine wp_seq_k fun K13 h13 => ?_
    refine cReg ?_
    refine stP hf rfl rfl rfl (pM rfl) fun a hf => ?_
    refine stP hf rfl rfl rfl (pLenS Try.underlying39 rfl) fun a hf => ?_
    refine stP hf rfl rfl rfl (pM rfl) fun a hf => ?_
    refine cNil ?_
    refine h13 _ _ ?_
    refine wp_block ?_
    obtain ⟨x14, hx14, hF⟩ := bnd_some hF
    let S14 : Int → Act → World → Prop := (fun (zz : Int) a w => ∃ (p_4 : Option Addr) (c_4 : Nat) (p_5 : Option Addr) (c_5 : Nat), Has 274 a [(1, .int .u8 a_), (7, .pointer (some ⟨b_2, 0, none⟩)), (8, .slice p_4 r_1.2.1.length c_4), (9, .int .i64 (min ((W (a_)).tmod ((r_1.2.1.length : Nat) : Int)) ((W (b_)).tmod ((r_1.2.1.length : Nat) : Int)))), (10, .int .i64 (max ((W (a_)).tmod ((r_1.2.1.length : Nat) : Int)) ((W (b_)).tmod ((r_1.2.1.length : Nat) : Int)))), (11, .slice p_5 r_2.1.length c_5), (18, .pointer (some ⟨b_3, 0, none⟩)), (107, .slice p_4 r_1.2.1.length c_4), (108, .int .i64 ((r_1.2.1.length : Nat) : Int)), (109, .int .i64 zz)] ∧ Ctx G (.box b_3 [.int .i64 r_5.1.Lo, .int .i64 r_5.1.Hi] 30 :: .row p_1 c_1 (r_1.1.Days.map enc_daily_Value) 56 3 :: .row p_5 c_5 (r_2.1.map enc_api_Span) 30 2 :: .box b_2 [.int .i64 r_1.1.Rise, .int .i64 r_1.1.Fall, .slice p_1 r_1.1.Days.length c_1] 24 :: .row p_4 c_4 (r_1.2.1.map encI_i64) 3 1 :: Lf) w)
    have hr14 : ∀ (zz : Int) a w, x14 = .go zz → S14 zz a w → K12 a w := by
      rintro x a w rfl ⟨p_4, c_4, p_5, c_5, hf, hc⟩
      replace hF := exK_go hF
      refine h12 _ _ ?_
      refine wp_seq_k fun K15 h15 => ?_
      refine cReg ?_
      refine stP hf rfl rfl rfl (pM rfl) fun a hf => ?_
      obtain ⟨r_6, hr_6, hF⟩ := bnd_some hF
      obtain ⟨G1, hle1, hrd1, hc, hth1⟩ := lend hc k2
      refine stC (vs := [.slice p_5 r_2.1.length c_5]) (caps := []) hf rfl rfl rfl en_40 rfl rfl rfl rfl (law07_lists_ok r_2.1 hrd1 hc hr_6) ?_
      rintro _ w ⟨p_6, c_6, p_7, c_7, rfl, hc⟩
      refine ⟨_, rfl, fun a hf => ?_⟩
      replace hc := hth1 _ _ hc
      refine stP hf rfl rfl rfl (pM rfl) fun a hf => ?_
      refine stP hf rfl rfl rfl (pX rfl rfl) fun a hf => ?_
      refine stP hf rfl rfl rfl (pX rfl rfl) fun a hf => ?_
      refine stP hf rfl rfl rfl (pA rfl) fun a hf => ?_
      refine stP hf rfl rfl rfl (pA rfl) fun a hf => ?_
      refine cNil ?_
      refine h15 _ _ ?_
      refine wp_seq_k fun K16 h16 => ?_
      refine wp_seq_k fun K17 h17 => ?_
      refine cReg ?_
      refine stP hf rfl rfl rfl (pM rfl) fun a hf => ?_
      refine stP hf rfl rfl rfl (pM rfl) fun a hf => ?_
      refine stP hf rfl rfl rfl (pM rfl) fun a hf => ?_
      obtain ⟨G, hle_fz, rd_fz, hc, -⟩ := lend hc k1
      obtain ⟨G, hle_fz_1, rd_fz_1, hc, -⟩ := lend hc k1
      obtain ⟨G, hle_fz_2, rd_fz_2, hc, -⟩ := lend hc k4
      refine stBS (rows := ([[.slice p_6 r_6.1.length c_6], [.slice p_7 r_6.2.length c_7], [.slice p_4 r_1.2.1.length c_4]] : List (List Value))) (vs := [(0, .slice p_6 r_6.1.length c_6), (1, .slice p_7 r_6.2.length c_7), (2, .slice p_4 r_1.2.1.length c_4)]) hf hc rfl rfl sl_78 rfl ⟨rfl, rfl, rfl, rfl, rfl, rfl, rfl, rfl, rfl, trivial⟩ rfl rfl fun b_4 a w hf hc => ?_
      obtain ⟨G, hle_fz_3, rd_fz_3, hc, -⟩ := lend hc k0
      have rdd : Rd2 G 1 encI_i64 (some ⟨b_4, 0, none⟩) 3 ([r_6.1, r_6.2, r_1.2.1] : List (List Int)) := ⟨_, rd_fz_3, ⟨⟨_, _, rfl, (((rd_fz.mono hle_fz_1).mono hle_fz_2).mono hle_fz_3)⟩, ⟨⟨_, _, rfl, ((rd_fz_1.mono hle_fz_2).mono hle_fz_3)⟩, ⟨⟨_, _, rfl, (rd_fz_2.mono hle_fz_3)⟩, trivial⟩⟩⟩⟩
      refine stP hf rfl rfl rfl (pLenS Try.underlying78 rfl) fun a hf => ?_
      refine stP hf rfl rfl rfl (pM rfl) fun a hf => ?_
      refine cNil ?_
      refine h17 _ _ ?_
      refine wp_block ?_
      obtain ⟨x18, hx18, hF⟩ := bnd_some hF
      let S18 : Int → Act → World → Prop := (fun (zz : Int) a w => Has 274 a [(1, .int .u8 a_), (7, .pointer (some ⟨b_2, 0, none⟩)), (9, .int .i64 (min ((W (a_)).tmod ((r_1.2.1.length : Nat) : Int)) ((W (b_)).tmod ((r_1.2.1.length : Nat) : Int)))), (10, .int .i64 (max ((W (a_)).tmod ((r_1.2.1.length : Nat) : Int)) ((W (b_)).tmod ((r_1.2.1.length : Nat) : Int)))), (11, .slice p_5 r_2.1.length c_5), (18, .pointer (some ⟨b_3, 0, none⟩)), (139, .slice (some ⟨b_4, 0, none⟩) 3 3), (140, .int .i64 (3 : Int)), (141, .int .i64 zz)] ∧ Ctx G (.row p_5 c_5 (r_2.1.map enc_api_Span) 30 2 :: .box b_3 [.int .i64 r_5.1.Lo, .int .i64 r_5.1.Hi] 30 :: .row p_1 c_1 (r_1.1.Days.map enc_daily_Value) 56 3 :: .box b_2 [.int .i64 r_1.1.Rise, .int .i64 r_1.1.Fall, .slice p_1 r_1.1.Days.length c_1] 24 :: Lf) w)
      have hr18 : ∀ (zz : Int) a w, x18 = .go zz → S18 zz a w → K16 a w := by
        rintro x_1 a w rfl ⟨hf, hc⟩
        replace hF := exK_go hF
        refine h16 _ _ ?_
        refine wp_seq_k fun K19 h19 => ?_
        refine cReg ?_
        refine stP hf rfl rfl rfl (pM rfl) fun a hf => ?_
        refine stP hf rfl rfl rfl (pCv Try.underlying5 Try.underlying3 rfl) fun a hf => ?_
        refine stP hf rfl rfl rfl (pM rfl) fun a hf => ?_
        refine stP hf rfl rfl rfl (pLenS Try.underlying25 rfl) fun a hf => ?_
        obtain ⟨un_2, hun_2, hF⟩ := bnd_some hF
        refine stP hf rfl rfl rfl (pRem rfl rfl (nz_spec hun_2)) fun a hf => ?_
        refine stP hf rfl rfl rfl (pA rfl) fun a hf => ?_
        refine cNil ?_
        refine h19 _ _ ?_
        refine wp_seq_k fun K20 h20 => ?_
        refine wp_seq_k fun K21 h21 => ?_
        obtain ⟨e_1, he_1, hF⟩ := bnd_some hF
        obtain ⟨g, rfl, qa, qr⟩ := row_atm hc m0 he_1
        obtain ⟨e_2, he_2, hF⟩ := bnd_some hF
        obtain ⟨qa_1, qr_1⟩ := row_atk hc m0 he_2
        replace hc := hc.nilRow 0 0
        refine regionE (fun θ => [⟨none, none, 7, .pointer (some ⟨b_2, 0, none⟩)⟩, ⟨none, none, 11, .slice (some ⟨g, 0, none⟩) r_2.1.length c_5⟩, ⟨none, none, 29, .int .i64 ((W (a_)).tmod ((r_2.1.length : Nat) : Int))⟩, ⟨some 0, none, 202, .slice (some ⟨g, 0, none⟩) r_2.1.length c_5⟩, ⟨some 1, none, 203, .int .i64 ((W (a_)).tmod ((r_2.1.length : Nat) : Int))⟩, ⟨some 2, none, 204, .pointer (some ⟨g, ((W (a_)).tmod ((r_2.1.length : Nat) : Int)).toNat * 2, none⟩)⟩, ⟨some 3, none, 205, .pointer (some ⟨g, ((W (a_)).tmod ((r_2.1.length : Nat) : Int)).toNat * 2 + 0, none⟩)⟩, ⟨some 4, none, 206, .int .i64 e_1.Lo⟩, ⟨some 5, none, 207, .int .i64 (W (e_1.Lo - 1))⟩, ⟨some 6, none, 208, .slice (some ⟨g, 0, none⟩) r_2.1.length c_5⟩, ⟨some 7, none, 209, .int .i64 ((W (a_)).tmod ((r_2.1.length : Nat) : Int))⟩, ⟨some 8, none, 210, .pointer (some ⟨g, ((W (a_)).tmod ((r_2.1.length : Nat) : Int)).toNat * 2, none⟩)⟩, ⟨some 9, none, 211, .pointer (some ⟨g, ((W (a_)).tmod ((r_2.1.length : Nat) : Int)).toNat * 2 + 1, none⟩)⟩, ⟨some 10, none, 212, .int .i64 e_2.Hi⟩, ⟨some 11, none, 213, .int .i64 (W (e_2.Hi + 1))⟩, ⟨some 12, none, 214, .slice (some ⟨(θ 96).b, 0, none⟩) 2 2⟩, ⟨some 13, none, 215, .int .i64 (2 : Int)⟩, ⟨some 14, none, 216, .int .i64 0⟩]) (fun E θ => (bif E 12 then .row (some ⟨(θ 96).b, 0, none⟩) 2 (([W (e_1.Lo - 1), W (e_2.Hi + 1)] : List Int).map encI_i64) 3 1 else .row none 0 [] 0 0) :: .row (some ⟨g, 0, none⟩) c_5 (r_2.1.map enc_api_Span) 30 2 :: .box b_3 [.int .i64 r_5.1.Lo, .int .i64 r_5.1.Hi] 30 :: .row p_1 c_1 (r_1.1.Days.map enc_daily_Value) 56 3 :: .box b_2 [.int .i64 r_1.1.Rise, .int .i64 r_1.1.Fall, .slice p_1 r_1.1.Days.length c_1] 24 :: Lf) [] (fun a w => ∃ (b_6 : Nat), Has 274 a [(7, .pointer (some ⟨b_2, 0, none⟩)), (29, .int .i64 ((W (a_)).tmod ((r_2.1.length : Nat) : Int))), (214, .slice (some ⟨b_6, 0, none⟩) 2 2), (215, .int .i64 (2 : Int)), (216, .int .i64 0)] ∧ Ctx G (.row (some ⟨b_6, 0, none⟩) 2 (([W (e_1.Lo - 1), W (e_2.Hi + 1)] : List Int).map encI_i64) 3 1 :: .row (some ⟨g, 0, none⟩) c_5 (r_2.1.map enc_api_Span) 30 2 :: .box b_3 [.int .i64 r_5.1.Lo, .int .i64 r_5.1.Hi] 30 :: .row p_1 c_1 (r_1.1.Days.map enc_daily_Value) 56 3 :: .box b_2 [.int .i64 r_1.1.Rise, .int .i64 r_1.1.Fall, .slice p_1 r_1.1.Days.length c_1] 24 :: Lf) w) follows_mx (by kernel_rfl) (by kernel_rfl) (HasE.of hf ⟨rfl, rfl, rfl, trivial, trivial, trivial, trivial, trivial, trivial, trivial, trivial, trivial, trivial, trivial, trivial, trivial, trivial, trivial, trivial⟩) hc ⟨?_, ?_, ?_, ?_, ?_, ?_, ?_, ?_, ?_, ?_, ?_, ?_, ?_, ?_, ?_, trivial⟩ ?_ ?_
        · intro E θ a w hD hi hp he hc
          have hf := he.h0
          replace hf := hf.more he 1 rfl onT
          refine stP hf rfl rfl rfl (pM rfl) fun a hf => ?_
          refine cNil ?_
          refine xThenN ?_
          intro ds u hau
          refine ⟨θ, he.put0 hi hau hf rfl 3 rfl rfl, ?_⟩
          exact hc
        · intro E θ a w hD hi hp he hc
          have hf := he.h0
          replace hf := hf.more he 2 rfl onT
          refine stP hf rfl rfl rfl (pM rfl) fun a hf => ?_
          refine cNil ?_
          refine xThenN ?_
          intro ds u hau
          refine ⟨θ, he.put0 hi hau hf rfl 4 rfl rfl, ?_⟩
          exact hc
        · intro E θ a w hD hi hp he hc
          have e0 := hp.of (k := 0) rfl
          have e1 := hp.of (k := 1) rfl
          have hf := he.h0
          replace hf := hf.more he 3 rfl (onP e0)
          replace hf := hf.more he 4 rfl (onP e1)
          refine stP hf rfl rfl rfl (pIA Try.underlying25 sz_30 rfl rfl qa) fun a hf => ?_
          refine cNil ?_
          refine xThenN ?_
          intro ds u hau
          refine ⟨θ, he.put0 hi hau hf rfl 5 rfl rfl, ?_⟩
          exact hc
        · intro E θ a w hD hi hp he hc
          have e2 := hp.of (k := 2) rfl
          have hf := he.h0
          replace hf := hf.more he 5 rfl (onP e2)
          refine stP hf rfl rfl rfl (pFA fa_30_0 rfl) fun a hf => ?_
          refine cNil ?_
          refine xThenN ?_
          intro ds u hau
          refine ⟨θ, he.put0 hi hau hf rfl 6 rfl rfl, ?_⟩
          exact hc
        · intro E θ a w hD hi hp he hc
          have e3 := hp.of (k := 3) rfl
          have hf := he.h0
          replace hf := hf.more he 6 rfl (onP e3)
          refine stE hf hc rfl rfl rfl (eLd1 sc_3 rfl (cell_row (sz := 2) (i := ((W (a_)).tmod ((r_2.1.length : Nat) : Int)).toNat) (j := 0) m1 qr rfl)) fun a w hf hc => ?_
          refine cNil ?_
          refine xThenN ?_
          intro ds u hau
          refine ⟨θ, he.put0 hi hau hf rfl 7 rfl rfl, ?_⟩
          exact hc
        · intro E θ a w hD hi hp he hc
          have e4 := hp.of (k := 4) rfl
          have hf := he.h0
          replace hf := hf.more he 7 rfl (onP e4)
          refine stP hf rfl rfl rfl (pSub rfl rfl) fun a hf => ?_
          refine cNil ?_
          refine xThenN ?_
          intro ds u hau
          refine ⟨θ, he.put0 hi hau hf rfl 8 rfl rfl, ?_⟩
          exact hc
        · intro E θ a w hD hi hp he hc
          have hf := he.h0
          replace hf := hf.more he 1 rfl onT
          refine stP hf rfl rfl rfl (pM rfl) fun a hf => ?_
          refine cNil ?_
          refine xThenN ?_
          intro ds u hau
          refine ⟨θ, he.put0 hi hau hf rfl 9 rfl rfl, ?_⟩
          exact hc
        · intro E θ a w hD hi hp he hc
          have hf := he.h0
          replace hf := hf.more he 2 rfl onT
          refine stP hf rfl rfl rfl (pM rfl) fun a hf => ?_
          refine cNil ?_
          refine xThenN ?_
          intro ds u hau
          refine ⟨θ, he.put0 hi hau hf rfl 10 rfl rfl, ?_⟩
          exact hc
        · intro E θ a w hD hi hp he hc
          have e6 := hp.of (k := 6) rfl
          have e7 := hp.of (k := 7) rfl
          have hf := he.h0
          replace hf := hf.more he 9 rfl (onP e6)
          replace hf := hf.more he 10 rfl (onP e7)
          refine stP hf rfl rfl rfl (pIA Try.underlying25 sz_30 rfl rfl qa_1) fun a hf => ?_
          refine cNil ?_
          refine xThenN ?_
          intro ds u hau
          refine ⟨θ, he.put0 hi hau hf rfl 11 rfl rfl, ?_⟩
          exact hc
        · intro E θ a w hD hi hp he hc
          have e8 := hp.of (k := 8) rfl
          have hf := he.h0
          replace hf := hf.more he 11 rfl (onP e8)
          refine stP hf rfl rfl rfl (pFA fa_30_1 rfl) fun a hf => ?_
          refine cNil ?_
          refine xThenN ?_
          intro ds u hau
          refine ⟨θ, he.put0 hi hau hf rfl 12 rfl rfl, ?_⟩
          exact hc
        · intro E θ a w hD hi hp he hc
          have e9 := hp.of (k := 9) rfl
          have hf := he.h0
          replace hf := hf.more he 12 rfl (onP e9)
          refine stE hf hc rfl rfl rfl (eLd1 sc_3 rfl (cell_row (sz := 2) (i := ((W (a_)).tmod ((r_2.1.length : Nat) : Int)).toNat) (j := 1) m1 qr_1 rfl)) fun a w hf hc => ?_
          refine cNil ?_
          refine xThenN ?_
          intro ds u hau
          refine ⟨θ, he.put0 hi hau hf rfl 13 rfl rfl, ?_⟩
          exact hc
        · intro E θ a w hD hi hp he hc
          have e10 := hp.of (k := 10) rfl
          have hf := he.h0
          replace hf := hf.more he 13 rfl (onP e10)
          refine stP hf rfl rfl rfl (pAdd rfl rfl) fun a hf => ?_
          refine cNil ?_
          refine xThenN ?_
          intro ds u hau
          refine ⟨θ, he.put0 hi hau hf rfl 14 rfl rfl, ?_⟩
          exact hc
        · intro E θ a w hD hi hp he hc
          have e5 := hp.of (k := 5) rfl
          have e11 := hp.of (k := 11) rfl
          try dsimp only at hc
          rw [hi] at hc
          have hf := he.h0
          replace hf := hf.more he 8 rfl (onP e5)
          replace hf := hf.more he 14 rfl (onP e11)
          refine stBS (rows := ([W (e_1.Lo - 1), W (e_2.Hi + 1)] : List Int).map encI_i64) (vs := [(0, .int .i64 (W (e_1.Lo - 1))), (1, .int .i64 (W (e_2.Hi + 1)))]) hf hc rfl rfl sl_39 rfl ⟨rfl, rfl, rfl, rfl, rfl, rfl, trivial⟩ rfl rfl fun b_5 a w hf hc => ?_
          refine cNil ?_
          refine xThenN ?_
          intro ds u hau
          replace hc := hc.drop k1
          refine ⟨(setT θ 96 ⟨b_5, none, 0⟩), he.put hi hau hf rfl [] trivial ⟨qq, qq, qq, qq, qq, qq, qq, qq, qq, qq, qq, qq, qq, qq, qq, qq, qq, qq, trivial⟩, ?_⟩
          try dsimp only
          rw [updE_self E 12]
          exact hc
        · intro E θ a w hD hi hp he hc
          have e12 := hp.of (k := 12) rfl
          have hf := he.h0
          replace hf := hf.more he 15 rfl (onP e12)
          refine stP hf rfl rfl rfl (pLenS Try.underlying39 rfl) fun a hf => ?_
          refine cNil ?_
          refine xThenN ?_
          intro ds u hau
          refine ⟨θ, he.put0 hi hau hf rfl 16 rfl rfl, ?_⟩
          exact hc
        · intro E θ a w hD hi hp he hc
          have hf := he.h0
          refine stP hf rfl rfl rfl (pM rfl) fun a hf => ?_
          refine cNil ?_
          refine xThenN ?_
          intro ds u hau
          refine ⟨θ, he.put0 hi hau hf rfl 17 rfl rfl, ?_⟩
          exact hc
        · intro E θ a w hall he hc
          have hf := he.h0
          have e12 := hall 12 rfl
          have e13 := hall 13 rfl
          have e14 := hall 14 rfl
          replace hf := hf.more he 17 rfl (onP e14)
          replace hf := hf.more he 16 rfl (onP e13)
          replace hf := hf.more he 15 rfl (onP e12)
          replace hf := hf.more he 2 rfl (onT)
          replace hf := hf.more he 0 rfl (onT)
          try dsimp only at hc
          rw [e12] at hc
          exact ⟨(θ 96).b, hf.keep ⟨rfl, rfl, rfl, rfl, rfl, trivial⟩, hc⟩
        rintro a w ⟨b_6, hf, hc⟩
        refine h21 _ _ ?_
        refine wp_block ?_
        obtain ⟨x22, hx22, hF⟩ := bnd_some hF
        let S22 : Int → Act → World → Prop := (fun (zz : Int) a w => ∃ (p_8 : Option Addr) (c_8 : Nat), Has 274 a [(7, .pointer (some ⟨b_2, 0, none⟩)), (29, .int .i64 ((W (a_)).tmod ((r_2.1.length : Nat) : Int))), (214, .slice (some ⟨b_6, 0, none⟩) 2 2), (215, .int .i64 (2 : Int)), (216, .int .i64 zz)] ∧ Ctx G (.row (some ⟨b_6, 0, none⟩) 2 (([W (e_1.Lo - 1), W (e_2.Hi + 1)] : List Int).map encI_i64) 3 1 :: .row p_8 c_8 (r_1.1.Days.map enc_daily_Value) 56 3 :: .box b_2 [.int .i64 r_1.1.Rise, .int .i64 r_1.1.Fall, .slice p_8 r_1.1.Days.length c_8] 24 :: Lf) w)
        have hr22 : ∀ (zz : Int) a w, x22 = .go zz → S22 zz a w → K20 a w := by
          rintro x_2 a w rfl ⟨p_8, c_8, hf, hc⟩
          replace hF := exK_go hF
          refine h20 _ _ ?_
          refine wp_seq_k fun K23 h23 => ?_
          refine cReg ?_
          obtain ⟨r_7, hr_7, hF⟩ := bnd_some hF
          refine stE hf hc rfl rfl rfl (eC (v := .bool r_7) (vs := []) (caps := []) en_12 rfl rfl rfl rfl (fun w hc => law07_awake_ok hc hr_7)) fun a w hf hc => ?_
          refine stP hf rfl rfl rfl (pA rfl) fun a hf => ?_
          refine cNil ?_
          refine h23 _ _ ?_
          refine wp_ret ?_
          obtain rfl := Option.some.inj hF
          replace hc := hc.down hle_fz_3
          replace hc := hc.down hle_fz_2
          replace hc := hc.down hle_fz_1
          replace hc := hc.down hle_fz
          replace hc := hc.drop k2
          replace hc := hc.drop k1
          replace hc := hc.drop k0
          exact fnOut1 (by simp) rfl Try.results7 hf hc (show look _ 6 = _ from rfl) ⟨rfl, hc⟩
        have ho22 : ∀ r, x22 = .out r → r = res := by
          rintro r rfl
          exact Option.some.inj hF
        replace hc := hc.drop k2
        replace hc := hc.drop k1
        refine cLoop N (loopW (S := S22) (x := x22) ?_ N 0 _ _ ⟨p_1, c_1, hf.keep ⟨rfl, rfl, rfl, rfl, rfl, trivial⟩, hc⟩ hx22)
        clear hF hf hc
        rintro x_2 st22 a w KB22 ⟨p_8, c_8, hf, hc⟩ hF hfin22 hK22
        unfold law07_DailyHeld_b22 at hF
        refine wp_seq_k fun K24 h24 => ?_
        refine cReg ?_
        refine stP hf rfl rfl rfl (pLt rfl rfl) fun a hf => ?_
        refine cNil ?_
        refine h24 _ _ ?_
        refine wp_seq_k fun K25 h25 => ?_
        refine cCond (b := (decide (x_2 < (2 : Int)))) hf rfl (fun hb => ?_) (fun hb => ?_)
        · replace hF := condT hb hF
          clear hb
          refine wp_skip ?_
          refine h25 _ _ ?_
          refine wp_seq_k fun K26 h26 => ?_
          have hj26 : ∀ (p_9 : Option Addr) (c_9 : Nat) a w, Has 274 a [(7, .pointer (some ⟨b_2, 0, none⟩)), (29, .int .i64 ((W (a_)).tmod ((r_2.1.length : Nat) : Int))), (214, .slice (some ⟨b_6, 0, none⟩) 2 2), (215, .int .i64 (2 : Int)), (216, .int .i64 x_2)] → Ctx G (.row (some ⟨b_6, 0, none⟩) 2 (([W (e_1.Lo - 1), W (e_2.Hi + 1)] : List Int).map encI_i64) 3 1 :: .row p_9 c_9 (r_1.1.Days.map enc_daily_Value) 56 3 :: .box b_2 [.int .i64 r_1.1.Rise, .int .i64 r_1.1.Fall, .slice p_9 r_1.1.Days.length c_9] 24 :: Lf) w → law07_DailyHeld_j26 N x_2 = some st22 → K26 a w := by
            repeat (clear hF)
            repeat (clear hc)
            repeat (clear hf)
            intro p_9 c_9 a w hf hc hF
            unfold law07_DailyHeld_j26 at hF
            refine h26 _ _ ?_
            refine cReg ?_
            refine stP hf rfl rfl rfl (pAdd rfl rfl) fun a hf => ?_
            refine stP hf rfl rfl rfl (pM rfl) fun a hf => ?_
            refine cNil ?_
            exact hK22 (W (x_2 + 1)) _ _ (Option.some.inj hF).symm ⟨p_9, c_9, hf.keep ⟨rfl, rfl, rfl, rfl, rfl, trivial⟩, hc⟩
          refine wp_block ?_
          refine wp_seq_k fun K27 h27 => ?_
          refine cReg ?_
          obtain ⟨e_3, he_3, hF⟩ := bnd_some hF
          obtain ⟨qa_2, qr_2⟩ := row_atk hc m0 he_3
          refine stP hf rfl rfl rfl (pIA Try.underlying39 sz_3 rfl rfl qa_2) fun a hf => ?_
          refine stE hf hc rfl rfl rfl (eLd1 sc_3 rfl (cell_row (sz := 1) (i := x_2.toNat) (j := 0) m0 qr_2 rfl)) fun a w hf hc => ?_
          refine stP hf rfl rfl rfl (pA rfl) fun a hf => ?_
          refine cNil ?_
          refine h27 _ _ ?_
          refine wp_seq_k fun K28 h28 => ?_
          refine wp_seq_k fun K29 h29 => ?_
          refine cReg ?_
          refine stP hf rfl rfl rfl (pM rfl) fun a hf => ?_
          refine stP hf rfl rfl rfl (pLt rfl rfl) fun a hf => ?_
          refine stP hf rfl rfl rfl (pM rfl) fun a hf => ?_
          refine stCut 3 (fun a w => Has 274 a [(7, .pointer (some ⟨b_2, 0, none⟩)), (29, .int .i64 ((W (a_)).tmod ((r_2.1.length : Nat) : Int))), (214, .slice (some ⟨b_6, 0, none⟩) 2 2), (215, .int .i64 (2 : Int)), (216, .int .i64 x_2), (31, .int .i64 e_3), (220, .int .i64 e_3), (221, .bool (decide (e_3 < 0))), (222, .bool (decide (e_3 < 0))), (225, .bool ((decide (e_3 < 0)) || (decide (1000000000 < e_3))))] ∧ Ctx G (.row (some ⟨b_6, 0, none⟩) 2 (([W (e_1.Lo - 1), W (e_2.Hi + 1)] : List Int).map encI_i64) 3 1 :: .row p_8 c_8 (r_1.1.Days.map enc_daily_Value) 56 3 :: .box b_2 [.int .i64 r_1.1.Rise, .int .i64 r_1.1.Fall, .slice p_8 r_1.1.Days.length c_8] 24 :: Lf) w) ?_ ?_
          · cases hb : (decide (e_3 < 0))
            · rw [hb] at hf
              refine stP hf rfl rfl rfl (pM rfl) fun a hf => ?_
              refine stP hf rfl rfl rfl (pGt rfl rfl) fun a hf => ?_
              refine stP hf rfl rfl rfl (pPf rfl rfl) fun a hf => ?_
              exact cNil ⟨hf.keep ⟨rfl, rfl, rfl, rfl, rfl, rfl, rfl, rfl, rfl, rfl, trivial⟩, hc⟩
            · rw [hb] at hf
              refine stS hf rfl rfl rfl fun a hf => ?_
              refine stS hf rfl rfl rfl fun a hf => ?_
              refine stP hf rfl rfl rfl (pPt rfl rfl) fun a hf => ?_
              exact cNil ⟨hf.keep ⟨rfl, rfl, rfl, rfl, rfl, rfl, rfl, rfl, rfl, rfl, trivial⟩, hc⟩
          intro a w ⟨hf, hc⟩
          refine cNil ?_
          refine h29 _ _ ?_
          refine cCond (b := ((decide (e_3 < 0)) || (decide (1000000000 < e_3)))) hf rfl (fun hb => ?_) (fun hb => ?_)
          · replace hF := condT hb hF
            clear hb
            refine wp_exit ?_
            refine xThen ?_
            refine cHit ?_
            exact hj26 p_8 c_8 _ _  (hf.keep ⟨rfl, rfl, rfl, rfl, rfl, trivial⟩) hc hF
          · replace hF := condF hb hF
            clear hb
            refine wp_skip ?_
            refine h28 _ _ ?_
            refine wp_seq_k fun K30 h30 => ?_
            obtain ⟨r_8, hr_8, hF⟩ := bnd_some hF
            replace hc := hc.nilRow 0 0
            replace hc := hc.nilRow 0 0
            refine regionE (fun θ => [⟨none, none, 7, .pointer (some ⟨b_2, 0, none⟩)⟩, ⟨none, none, 29, .int .i64 ((W (a_)).tmod ((r_2.1.length : Nat) : Int))⟩, ⟨none, none, 31, .int .i64 e_3⟩, ⟨none, none, 214, .slice (some ⟨b_6, 0, none⟩) 2 2⟩, ⟨none, none, 215, .int .i64 (2 : Int)⟩, ⟨none, none, 216, .int .i64 x_2⟩, ⟨some 0, none, 226, .pointer (some ⟨b_2, 0, none⟩)⟩, ⟨some 1, none, 227, .int .i64 r_1.1.Rise⟩, ⟨some 2, none, 228, .pointer (some ⟨b_2, 1, none⟩)⟩, ⟨some 3, none, 229, .int .i64 r_1.1.Fall⟩, ⟨some 4, none, 230, .pointer (some ⟨b_2, 2, none⟩)⟩, ⟨some 5, none, 231, .slice p_8 r_1.1.Days.length c_8⟩, ⟨some 6, none, 232, .slice ((θ 48).p) r_8.length ((θ 48).c)⟩, ⟨some 7, none, 233, .agg #[.int .i64 r_1.1.Rise, .int .i64 r_1.1.Fall, .slice ((θ 48).p) r_8.length ((θ 48).c)]⟩, ⟨some 8, none, 32, .pointer (some ⟨(θ 64).b, 0, none⟩)⟩]) (fun E θ => (bif E 9 then .box (θ 64).b [.int .i64 r_1.1.Rise, .int .i64 r_1.1.Fall, .slice ((θ 48).p) r_8.length ((θ 48).c)] 24 else bif E 8 then .box (θ 64).b [.int .i64 0, .int .i64 0, .slice none 0 0] 24 else .row none 0 [] 0 0) :: (bif E 6 then .row ((θ 48).p) ((θ 48).c) (r_8.map enc_daily_Value) 56 3 else .row none 0 [] 0 0) :: .row (some ⟨b_6, 0, none⟩) 2 (([W (e_1.Lo - 1), W (e_2.Hi + 1)] : List Int).map encI_i64) 3 1 :: .row p_8 c_8 (r_1.1.Days.map enc_daily_Value) 56 3 :: .box b_2 [.int .i64 r_1.1.Rise, .int .i64 r_1.1.Fall, .slice p_8 r_1.1.Days.length c_8] 24 :: Lf) [(9, 6), (7, 6), (9, 8)] (fun a w => ∃ (b_8 : Nat) (p_11 : Option Addr) (c_11 : Nat), Has 274 a [(7, .pointer (some ⟨b_2, 0, none⟩)), (29, .int .i64 ((W (a_)).tmod ((r_2.1.length : Nat) : Int))), (31, .int .i64 e_3), (214, .slice (some ⟨b_6, 0, none⟩) 2 2), (215, .int .i64 (2 : Int)), (216, .int .i64 x_2), (32, .pointer (some ⟨b_8, 0, none⟩))] ∧ Ctx G (.box b_8 [.int .i64 r_1.1.Rise, .int .i64 r_1.1.Fall, .slice p_11 r_8.length c_11] 24 :: .row p_11 c_11 (r_8.map enc_daily_Value) 56 3 :: .row (some ⟨b_6, 0, none⟩) 2 (([W (e_1.Lo - 1), W (e_2.Hi + 1)] : List Int).map encI_i64) 3 1 :: .row p_8 c_8 (r_1.1.Days.map enc_daily_Value) 56 3 :: .box b_2 [.int .i64 r_1.1.Rise, .int .i64 r_1.1.Fall, .slice p_8 r_1.1.Days.length c_8] 24 :: Lf) w) follows_mx (by kernel_rfl) (by kernel_rfl) (HasE.of hf ⟨rfl, rfl, rfl, rfl, rfl, rfl, trivial, trivial, trivial, trivial, trivial, trivial, trivial, trivial, trivial, trivial⟩) hc ⟨?_, ?_, ?_, ?_, ?_, ?_, ?_, ?_, ?_, ?_, trivial⟩ ?_ ?_
            · intro E θ a w hD hi hp he hc
              have hf := he.h0
              replace hf := hf.more he 0 rfl onT
              refine stP hf rfl rfl rfl (pFA fa_24_0 rfl) fun a hf => ?_
              refine cNil ?_
              refine xThenN ?_
              intro ds u hau
              refine ⟨θ, he.put0 hi hau hf rfl 6 rfl rfl, ?_⟩
              exact hc
            · intro E θ a w hD hi hp he hc
              have e0 := hp.of (k := 0) rfl
              have hf := he.h0
              replace hf := hf.more he 6 rfl (onP e0)
              refine stE hf hc rfl rfl rfl (eLd1 sc_3 rfl (cell_box m4 rfl)) fun a w hf hc => ?_
              refine cNil ?_
              refine xThenN ?_
              intro ds u hau
              refine ⟨θ, he.put0 hi hau hf rfl 7 rfl rfl, ?_⟩
              exact hc
            · intro E θ a w hD hi hp he hc
              have hf := he.h0
              replace hf := hf.more he 0 rfl onT
              refine stP hf rfl rfl rfl (pFA fa_24_1 rfl) fun a hf => ?_
              refine cNil ?_
              refine xThenN ?_
              intro ds u hau
              refine ⟨θ, he.put0 hi hau hf rfl 8 rfl rfl, ?_⟩
              exact hc
            · intro E θ a w hD hi hp he hc
              have e2 := hp.of (k := 2) rfl
              have hf := he.h0
              replace hf := hf.more he 8 rfl (onP e2)
              refine stE hf hc rfl rfl rfl (eLd1 sc_3 rfl (cell_box m4 rfl)) fun a w hf hc => ?_
              refine cNil ?_
              refine xThenN ?_
              intro ds u hau
              refine ⟨θ, he.put0 hi hau hf rfl 9 rfl rfl, ?_⟩
              exact hc
            · intro E θ a w hD hi hp he hc
              have hf := he.h0
              replace hf := hf.more he 0 rfl onT
              refine stP hf rfl rfl rfl (pFA fa_24_2 rfl) fun a hf => ?_
              refine cNil ?_
              refine xThenN ?_
              intro ds u hau
              refine ⟨θ, he.put0 hi hau hf rfl 10 rfl rfl, ?_⟩
              exact hc
            · intro E θ a w hD hi hp he hc
              have e4 := hp.of (k := 4) rfl
              have hf := he.h0
              replace hf := hf.more he 10 rfl (onP e4)
              refine stE hf hc rfl rfl rfl (eLd1 sc_22 rfl (cell_box m4 rfl)) fun a w hf hc => ?_
              refine cNil ?_
              refine xThenN ?_
              intro ds u hau
              refine ⟨θ, he.put0 hi hau hf rfl 11 rfl rfl, ?_⟩
              exact hc
            · intro E θ a w hD hi hp he hc
              have e5 := hp.of (k := 5) rfl
              have e9 := hD.f 0 rfl hi
              have e7 := hD.f 1 rfl hi
              try dsimp only at hc
              rw [hi, e9] at hc
              have hf := he.h0
              replace hf := hf.more he 11 rfl (onP e5)
              obtain ⟨G1, hle1, hrd1, hc, hth1⟩ := lend hc k3
              refine stC (vs := [.slice p_8 r_1.1.Days.length c_8]) (caps := []) hf rfl rfl rfl en_42 rfl rfl rfl rfl (kit_Copy_daily_Value_ok r_1.1.Days hrd1 hc hr_8) ?_
              rintro _ w ⟨p_10, c_10, rfl, hc⟩
              refine ⟨_, rfl, fun a hf => ?_⟩
              replace hc := hth1 _ _ hc
              refine cNil ?_
              refine xThenN ?_
              intro ds u hau
              replace hc := hc.drop k3
              replace hc := hc.pick k0
              replace hc := hc.pick k3
              replace hc := hc.pick k2
              replace hc := hc.pick k3
              refine ⟨(setT θ 48 ⟨0, p_10, c_10⟩), he.put hi hau hf rfl [7] ⟨⟨e7, rfl⟩, trivial⟩ ⟨qq, qq, qq, qq, qq, qq, qq, qq, qq, qq, qq, qq, qq, trivial, qq, trivial⟩, ?_⟩
              try dsimp only
              rw [updE_self E 6, updE_fls 6 e9 rfl]
              exact hc
            · intro E θ a w hD hi hp he hc
              have e1 := hp.of (k := 1) rfl
              have e3 := hp.of (k := 3) rfl
              have e6 := hp.of (k := 6) rfl
              have hf := he.h0
              replace hf := hf.more he 7 rfl (onP e1)
              replace hf := hf.more he 9 rfl (onP e3)
              replace hf := hf.more he 12 rfl (onP e6)
              refine stP hf rfl rfl rfl (pBuildS (cells := [.int .i64 r_1.1.Rise, .int .i64 r_1.1.Fall, .slice ((θ 48).p) r_8.length ((θ 48).c)]) bt_24 rfl rfl) fun a hf => ?_
              refine cNil ?_
              refine xThenN ?_
              intro ds u hau
              refine ⟨θ, he.put0 hi hau hf rfl 13 rfl rfl, ?_⟩
              exact hc
            · intro E θ a w hD hi hp he hc
              have e9 := hD.f 2 rfl hi
              try dsimp only at hc
              rw [hi, e9] at hc
              have hf := he.h0
              refine stAl (cs := [.int .i64 0, .int .i64 0, .slice none 0 0]) hf hc rfl rfl zr_24 rfl fun b_7 a w hf hc => ?_
              refine cNil ?_
              refine xThenN ?_
              intro ds u hau
              replace hc := hc.drop k1
              refine ⟨(setT θ 64 ⟨b_7, none, 0⟩), he.put hi hau hf rfl [] trivial ⟨qq, qq, qq, qq, qq, qq, qq, qq, qq, qq, qq, qq, qq, qq, qq, trivial⟩, ?_⟩
              try dsimp only
              rw [updE_self E 8, updE_fls 8 e9 rfl]
              exact hc
            · intro E θ a w hD hi hp he hc
              have e7 := hp.of (k := 7) rfl
              have e8 := hp.of (k := 8) rfl
              try dsimp only at hc
              rw [e8, hi] at hc
              have hf := he.h0
              replace hf := hf.more he 13 rfl (onP e7)
              replace hf := hf.more he 14 rfl (onP e8)
              refine stSt (vs := [.int .i64 r_1.1.Rise, .int .i64 r_1.1.Fall, .slice ((θ 48).p) r_8.length ((θ 48).c)]) hf hc rfl rfl rfl rfl sz_24 rfl rfl u0 fun w hc => ?_
              refine cNil ?_
              refine xThenN ?_
              intro ds u hau
              refine ⟨θ, he.stay0 hi hau hf rfl, ?_⟩
              try dsimp only
              rw [updE_tru 9 e8, updE_self E 9]
              exact hc
            · intro E θ a w hall he hc
              have hf := he.h0
              have e6 := hall 6 rfl
              have e8 := hall 8 rfl
              have e9 := hall 9 rfl
              replace hf := hf.more he 14 rfl (onP e8)
              replace hf := hf.more he 5 rfl (onT)
              replace hf := hf.more he 4 rfl (onT)
              replace hf := hf.more he 3 rfl (onT)
              replace hf := hf.more he 2 rfl (onT)
              replace hf := hf.more he 1 rfl (onT)
              replace hf := hf.more he 0 rfl (onT)
              try dsimp only at hc
              rw [e6, e8, e9] at hc
              exact ⟨(θ 64).b, (θ 48).p, (θ 48).c, hf.keep ⟨rfl, rfl, rfl, rfl, rfl, rfl, rfl, trivial⟩, hc⟩
            rintro a w ⟨b_8, p_11, c_11, hf, hc⟩
            refine h30 _ _ ?_
            refine wp_seq_k fun K31 h31 => ?_
            obtain ⟨r_9, hr_9, hF⟩ := bnd_some hF
            obtain ⟨e_4, he_4, hF⟩ := bnd_some hF
            obtain ⟨g_1, rfl, qa_3, qr_3⟩ := row_atm hc m1 he_4
            refine regionE (fun θ => [⟨none, none, 7, .pointer (some ⟨b_2, 0, none⟩)⟩, ⟨none, none, 29, .int .i64 ((W (a_)).tmod ((r_2.1.length : Nat) : Int))⟩, ⟨none, none, 31, .int .i64 e_3⟩, ⟨none, none, 32, .pointer (some ⟨b_8, 0, none⟩)⟩, ⟨none, none, 214, .slice (some ⟨b_6, 0, none⟩) 2 2⟩, ⟨none, none, 215, .int .i64 (2 : Int)⟩, ⟨none, none, 216, .int .i64 x_2⟩, ⟨some 0, none, 234, .pointer (some ⟨b_8, 2, none⟩)⟩, ⟨some 1, none, 235, .slice (some ⟨g_1, 0, none⟩) r_8.length c_11⟩, ⟨some 2, none, 236, .int .i64 ((W (a_)).tmod ((r_2.1.length : Nat) : Int))⟩, ⟨some 3, none, 237, .int .i64 e_3⟩, ⟨some 4, none, 238, .int .i64 e_3⟩, ⟨some 5, none, 239, .agg #[.bool r_9.Known, .int .i64 r_9.Flow.Lo, .int .i64 r_9.Flow.Hi]⟩, ⟨some 6, none, 240, .pointer (some ⟨g_1, ((W (a_)).tmod ((r_2.1.length : Nat) : Int)).toNat * 3, none⟩)⟩]) (fun E θ => .box b_8 [.int .i64 r_1.1.Rise, .int .i64 r_1.1.Fall, .slice (some ⟨g_1, 0, none⟩) r_8.length c_11] 24 :: (bif E 7 then .row (some ⟨g_1, 0, none⟩) c_11 ((r_8.set ((W (a_)).tmod ((r_2.1.length : Nat) : Int)).toNat r_9).map enc_daily_Value) 56 3 else .row (some ⟨g_1, 0, none⟩) c_11 (r_8.map enc_daily_Value) 56 3) :: .row (some ⟨b_6, 0, none⟩) 2 (([W (e_1.Lo - 1), W (e_2.Hi + 1)] : List Int).map encI_i64) 3 1 :: .row p_8 c_8 (r_1.1.Days.map enc_daily_Value) 56 3 :: .box b_2 [.int .i64 r_1.1.Rise, .int .i64 r_1.1.Fall, .slice p_8 r_1.1.Days.length c_8] 24 :: Lf) [(7, 6)] (fun a w => Has 274 a [(7, .pointer (some ⟨b_2, 0, none⟩)), (29, .int .i64 ((W (a_)).tmod ((r_2.1.length : Nat) : Int))), (31, .int .i64 e_3), (32, .pointer (some ⟨b_8, 0, none⟩)), (214, .slice (some ⟨b_6, 0, none⟩) 2 2), (215, .int .i64 (2 : Int)), (216, .int .i64 x_2)] ∧ Ctx G (.box b_8 [.int .i64 r_1.1.Rise, .int .i64 r_1.1.Fall, .slice (some ⟨g_1, 0, none⟩) r_8.length c_11] 24 :: .row (some ⟨g_1, 0, none⟩) c_11 ((r_8.set ((W (a_)).tmod ((r_2.1.length : Nat) : Int)).toNat r_9).map enc_daily_Value) 56 3 :: .row (some ⟨b_6, 0, none⟩) 2 (([W (e_1.Lo - 1), W (e_2.Hi + 1)] : List Int).map encI_i64) 3 1 :: .row p_8 c_8 (r_1.1.Days.map enc_daily_Value) 56 3 :: .box b_2 [.int .i64 r_1.1.Rise, .int .i64 r_1.1.Fall, .slice p_8 r_1.1.Days.length c_8] 24 :: Lf) w) follows_mx (by kernel_rfl) (by kernel_rfl) (HasE.of hf ⟨rfl, rfl, rfl, rfl, rfl, rfl, rfl, trivial, trivial, trivial, trivial, trivial, trivial, trivial, trivial⟩) hc ⟨?_, ?_, ?_, ?_, ?_, ?_, ?_, ?_, trivial⟩ ?_ ?_
            · intro E θ a w hD hi hp he hc
              have hf := he.h0
              replace hf := hf.more he 3 rfl onT
              refine stP hf rfl rfl rfl (pFA fa_24_2 rfl) fun a hf => ?_
              refine cNil ?_
              refine xThenN ?_
              intro ds u hau
              refine ⟨θ, he.put0 hi hau hf rfl 7 rfl rfl, ?_⟩
              exact hc
            · intro E θ a w hD hi hp he hc
              have e0 := hp.of (k := 0) rfl
              have hf := he.h0
              replace hf := hf.more he 7 rfl (onP e0)
              refine stE hf hc rfl rfl rfl (eLd1 sc_22 rfl (cell_box m0 rfl)) fun a w hf hc => ?_
              refine cNil ?_
              refine xThenN ?_
              intro ds u hau
              refine ⟨θ, he.put0 hi hau hf rfl 8 rfl rfl, ?_⟩
              exact hc
            · intro E θ a w hD hi hp he hc
              have hf := he.h0
              replace hf := hf.more he 1 rfl onT
              refine stP hf rfl rfl rfl (pM rfl) fun a hf => ?_
              refine cNil ?_
              refine xThenN ?_
              intro ds u hau
              refine ⟨θ, he.put0 hi hau hf rfl 9 rfl rfl, ?_⟩
              exact hc
            · intro E θ a w hD hi hp he hc
              have hf := he.h0
              replace hf := hf.more he 2 rfl onT
              refine stP hf rfl rfl rfl (pM rfl) fun a hf => ?_
              refine cNil ?_
              refine xThenN ?_
              intro ds u hau
              refine ⟨θ, he.put0 hi hau hf rfl 10 rfl rfl, ?_⟩
              exact hc
            · intro E θ a w hD hi hp he hc
              have hf := he.h0
              replace hf := hf.more he 2 rfl onT
              refine stP hf rfl rfl rfl (pM rfl) fun a hf => ?_
              refine cNil ?_
              refine xThenN ?_
              intro ds u hau
              refine ⟨θ, he.put0 hi hau hf rfl 11 rfl rfl, ?_⟩
              exact hc
            · intro E θ a w hD hi hp he hc
              have e3 := hp.of (k := 3) rfl
              have e4 := hp.of (k := 4) rfl
              have hf := he.h0
              replace hf := hf.more he 10 rfl (onP e3)
              replace hf := hf.more he 11 rfl (onP e4)
              refine stE hf hc rfl rfl rfl (eC (v := .agg #[.bool r_9.Known, .int .i64 r_9.Flow.Lo, .int .i64 r_9.Flow.Hi]) (vs := [.int .i64 e_3, .int .i64 e_3]) (caps := []) en_27 rfl rfl rfl rfl (fun w hc => law07_known_ok e_3 e_3 hc hr_9)) fun a w hf hc => ?_
              refine cNil ?_
              refine xThenN ?_
              intro ds u hau
              refine ⟨θ, he.put0 hi hau hf rfl 12 rfl rfl, ?_⟩
              exact hc
            · intro E θ a w hD hi hp he hc
              have e1 := hp.of (k := 1) rfl
              have e2 := hp.of (k := 2) rfl
              have e7 := hD.f 0 rfl hi
              try dsimp only at hc
              rw [e7] at hc
              have hf := he.h0
              replace hf := hf.more he 8 rfl (onP e1)
              replace hf := hf.more he 9 rfl (onP e2)
              refine stP hf rfl rfl rfl (pIA Try.underlying22 sz_56 rfl rfl qa_3) fun a hf => ?_
              refine cNil ?_
              refine xThenN ?_
              intro ds u hau
              refine ⟨θ, he.put0 hi hau hf rfl 13 rfl rfl, ?_⟩
              try dsimp only
              rw [updE_fls 6 e7 rfl]
              exact hc
            · intro E θ a w hD hi hp he hc
              have e5 := hp.of (k := 5) rfl
              have e6 := hp.of (k := 6) rfl
              try dsimp only at hc
              rw [hi] at hc
              have hf := he.h0
              replace hf := hf.more he 12 rfl (onP e5)
              replace hf := hf.more he 13 rfl (onP e6)
              refine stRw (vs := [.bool r_9.Known, .int .i64 r_9.Flow.Lo, .int .i64 r_9.Flow.Hi]) (o' := 0) (z := r_9) (xs := r_8) hf hc rfl rfl rfl rfl sz_56 rfl (fun x => (one_enc_daily_Value x).1) (getI_lt he_4) (fun _ _ => rfl) rfl u1 fun w hc => ?_
              refine cNil ?_
              refine xThenN ?_
              intro ds u hau
              refine ⟨θ, he.stay0 hi hau hf rfl, ?_⟩
              try dsimp only
              rw [updE_self E 7]
              exact hc
            · intro E θ a w hall he hc
              have hf := he.h0
              have e7 := hall 7 rfl
              replace hf := hf.more he 6 rfl (onT)
              replace hf := hf.more he 5 rfl (onT)
              replace hf := hf.more he 4 rfl (onT)
              replace hf := hf.more he 3 rfl (onT)
              replace hf := hf.more he 2 rfl (onT)
              replace hf := hf.more he 1 rfl (onT)
              replace hf := hf.more he 0 rfl (onT)
              try dsimp only at hc
              rw [e7] at hc
              exact ⟨hf.keep ⟨rfl, rfl, rfl, rfl, rfl, rfl, rfl, trivial⟩, hc⟩
            rintro a w ⟨hf, hc⟩
            refine h31 _ _ ?_
            refine wp_seq_k fun K32 h32 => ?_
            refine cReg ?_
            refine stE hf hc rfl rfl rfl (eLdN (vs := [.int .i64 r_1.1.Rise, .int .i64 r_1.1.Fall, .slice (some ⟨g_1, 0, none⟩) r_8.length c_11]) ag_24 rfl rfl (cells_box (n := 3) m0 rfl)) fun a w hf hc => ?_
            obtain ⟨r_10, hr_10, hF⟩ := bnd_some hF
            obtain ⟨G1, hle1, hrd1, hc, hth1⟩ := lend hc k1
            refine stC (vs := [.agg #[.int .i64 r_1.1.Rise, .int .i64 r_1.1.Fall, .slice (some ⟨g_1, 0, none⟩) r_8.length c_11]]) (caps := []) hf rfl rfl rfl en_29 rfl rfl rfl rfl (by have hq := daily_Fill_ok (⟨r_1.1.Rise, r_1.1.Fall, (r_8.set ((W (a_)).tmod ((r_2.1.length : Nat) : Int)).toNat r_9)⟩ : daily_Record) hrd1 hc hr_10; simp only [List.length_set] at hq; exact hq) ?_
            rintro _ w ⟨p_12, c_12, rfl, hc⟩
            refine ⟨_, rfl, fun a hf => ?_⟩
            replace hc := hth1 _ _ hc
            refine stP hf rfl rfl rfl (pM rfl) fun a hf => ?_
            refine stP hf rfl rfl rfl (pX rfl rfl) fun a hf => ?_
            refine stP hf rfl rfl rfl (pX rfl rfl) fun a hf => ?_
            refine stP hf rfl rfl rfl (pA rfl) fun a hf => ?_
            refine stP hf rfl rfl rfl (pA rfl) fun a hf => ?_
            refine cNil ?_
            refine h32 _ _ ?_
            refine wp_seq_k fun K33 h33 => ?_
            refine cReg ?_
            refine stP hf rfl rfl rfl (pFA fa_24_2 rfl) fun a hf => ?_
            refine stE hf hc rfl rfl rfl (eLd1 sc_22 rfl (cell_box m5 rfl)) fun a w hf hc => ?_
            refine stP hf rfl rfl rfl (pM rfl) fun a hf => ?_
            obtain ⟨e_5, he_5, hF⟩ := bnd_some hF
            obtain ⟨g_2, rfl, qa_4, qr_4⟩ := row_atm hc m4 he_5
            refine stP hf rfl rfl rfl (pIA Try.underlying22 sz_56 rfl rfl qa_4) fun a hf => ?_
            refine stE hf hc rfl rfl rfl (eLdN (vs := [.bool e_5.Known, .int .i64 e_5.Flow.Lo, .int .i64 e_5.Flow.Hi]) ag_56 rfl rfl (cells_rw (sz := 3) (i := ((W (a_)).tmod ((r_2.1.length : Nat) : Int)).toNat) m4 qr_4 (n := 3) (o' := 0) rfl)) fun a w hf hc => ?_
            refine stAl (cs := [.bool false, .int .i64 0, .int .i64 0]) hf hc rfl rfl zr_56 rfl fun b_9 a w hf hc => ?_
            refine stSt (vs := [.bool e_5.Known, .int .i64 e_5.Flow.Lo, .int .i64 e_5.Flow.Hi]) hf hc rfl rfl rfl rfl sz_56 rfl rfl u0 fun w hc => ?_
            refine cNil ?_
            refine h33 _ _ ?_
            refine wp_seq_k fun K34 h34 => ?_
            refine cReg ?_
            refine stP hf rfl rfl rfl (pFA fa_56_0 rfl) fun a hf => ?_
            refine stE hf hc rfl rfl rfl (eLd1 sc_4 rfl (cell_box m0 rfl)) fun a w hf hc => ?_
            refine stP hf rfl rfl rfl (pNot rfl) fun a hf => ?_
            refine stP hf rfl rfl rfl (pM rfl) fun a hf => ?_
            refine stCut 13 (fun a w => Has 274 a [(7, .pointer (some ⟨b_2, 0, none⟩)), (29, .int .i64 ((W (a_)).tmod ((r_2.1.length : Nat) : Int))), (31, .int .i64 e_3), (214, .slice (some ⟨b_6, 0, none⟩) 2 2), (215, .int .i64 (2 : Int)), (216, .int .i64 x_2), (34, .int .i64 r_10.2), (35, .pointer (some ⟨b_9, 0, none⟩)), (251, .pointer (some ⟨b_9, 0, none⟩)), (252, .bool e_5.Known), (253, .bool (!e_5.Known)), (254, .bool (!e_5.Known)), (267, .bool ((!e_5.Known) || ((decide (e_5.Flow.Lo ≤ e_3)) && (decide (e_3 ≤ e_5.Flow.Hi)))))] ∧ Ctx G (.box b_9 [.bool e_5.Known, .int .i64 e_5.Flow.Lo, .int .i64 e_5.Flow.Hi] 56 :: .row (some ⟨g_1, 0, none⟩) c_11 ((r_8.set ((W (a_)).tmod ((r_2.1.length : Nat) : Int)).toNat r_9).map enc_daily_Value) 56 3 :: .row p_12 c_12 (r_10.1.map enc_api_Span) 30 2 :: .box b_8 [.int .i64 r_1.1.Rise, .int .i64 r_1.1.Fall, .slice (some ⟨g_1, 0, none⟩) r_8.length c_11] 24 :: .row (some ⟨b_6, 0, none⟩) 2 (([W (e_1.Lo - 1), W (e_2.Hi + 1)] : List Int).map encI_i64) 3 1 :: .row (some ⟨g_2, 0, none⟩) c_8 (r_1.1.Days.map enc_daily_Value) 56 3 :: .box b_2 [.int .i64 r_1.1.Rise, .int .i64 r_1.1.Fall, .slice (some ⟨g_2, 0, none⟩) r_1.1.Days.length c_8] 24 :: Lf) w) ?_ ?_
            · cases hb : (!e_5.Known)
              · rw [hb] at hf
                refine stP hf rfl rfl rfl (pM rfl) fun a hf => ?_
                refine stP hf rfl rfl rfl (pFA fa_56_1 rfl) fun a hf => ?_
                refine stP hf rfl rfl rfl (pFA fa_30_0 rfl) fun a hf => ?_
                refine stE hf hc rfl rfl rfl (eLd1 sc_3 rfl (cell_box m0 rfl)) fun a w hf hc => ?_
                refine stP hf rfl rfl rfl (pGe rfl rfl) fun a hf => ?_
                refine stP hf rfl rfl rfl (pM rfl) fun a hf => ?_
                refine stCut 6 (fun a w => Has 274 a [(7, .pointer (some ⟨b_2, 0, none⟩)), (29, .int .i64 ((W (a_)).tmod ((r_2.1.length : Nat) : Int))), (31, .int .i64 e_3), (214, .slice (some ⟨b_6, 0, none⟩) 2 2), (215, .int .i64 (2 : Int)), (216, .int .i64 x_2), (34, .int .i64 r_10.2), (35, .pointer (some ⟨b_9, 0, none⟩)), (251, .pointer (some ⟨b_9, 0, none⟩)), (252, .bool e_5.Known), (253, .bool false), (254, .bool false), (255, .int .i64 e_3), (256, .pointer (some ⟨b_9, 1, none⟩)), (257, .pointer (some ⟨b_9, 1, none⟩)), (258, .int .i64 e_5.Flow.Lo), (259, .bool (decide (e_5.Flow.Lo ≤ e_3))), (260, .bool (decide (e_5.Flow.Lo ≤ e_3))), (266, .bool ((decide (e_5.Flow.Lo ≤ e_3)) && (decide (e_3 ≤ e_5.Flow.Hi))))] ∧ Ctx G (.box b_9 [.bool e_5.Known, .int .i64 e_5.Flow.Lo, .int .i64 e_5.Flow.Hi] 56 :: .row (some ⟨g_1, 0, none⟩) c_11 ((r_8.set ((W (a_)).tmod ((r_2.1.length : Nat) : Int)).toNat r_9).map enc_daily_Value) 56 3 :: .row p_12 c_12 (r_10.1.map enc_api_Span) 30 2 :: .box b_8 [.int .i64 r_1.1.Rise, .int .i64 r_1.1.Fall, .slice (some ⟨g_1, 0, none⟩) r_8.length c_11] 24 :: .row (some ⟨b_6, 0, none⟩) 2 (([W (e_1.Lo - 1), W (e_2.Hi + 1)] : List Int).map encI_i64) 3 1 :: .row (some ⟨g_2, 0, none⟩) c_8 (r_1.1.Days.map enc_daily_Value) 56 3 :: .box b_2 [.int .i64 r_1.1.Rise, .int .i64 r_1.1.Fall, .slice (some ⟨g_2, 0, none⟩) r_1.1.Days.length c_8] 24 :: Lf) w) ?_ ?_
                · cases hb : (decide (e_5.Flow.Lo ≤ e_3))
                  · rw [hb] at hf
                    refine stS hf rfl rfl rfl fun a hf => ?_
                    refine stS hf rfl rfl rfl fun a hf => ?_
                    refine stS hf rfl rfl rfl fun a hf => ?_
                    refine stS hf rfl rfl rfl fun a hf => ?_
                    refine stS hf rfl rfl rfl fun a hf => ?_
                    refine stP hf rfl rfl rfl (pPf rfl rfl) fun a hf => ?_
                    exact cNil ⟨hf.keep ⟨rfl, rfl, rfl, rfl, rfl, rfl, rfl, rfl, rfl, rfl, rfl, rfl, rfl, rfl, rfl, rfl, rfl, rfl, rfl, trivial⟩, hc⟩
                  · rw [hb] at hf
                    refine stP hf rfl rfl rfl (pM rfl) fun a hf => ?_
                    refine stP hf rfl rfl rfl (pFA fa_56_1 rfl) fun a hf => ?_
                    refine stP hf rfl rfl rfl (pFA fa_30_1 rfl) fun a hf => ?_
                    refine stE hf hc rfl rfl rfl (eLd1 sc_3 rfl (cell_box m0 rfl)) fun a w hf hc => ?_
                    refine stP hf rfl rfl rfl (pLe rfl rfl) fun a hf => ?_
                    refine stP hf rfl rfl rfl (pPt rfl rfl) fun a hf => ?_
                    exact cNil ⟨hf.keep ⟨rfl, rfl, rfl, rfl, rfl, rfl, rfl, rfl, rfl, rfl, rfl, rfl, rfl, rfl, rfl, rfl, rfl, rfl, rfl, trivial⟩, hc⟩
                intro a w ⟨hf, hc⟩
                refine stP hf rfl rfl rfl (pPf rfl rfl) fun a hf => ?_
                exact cNil ⟨hf.keep ⟨rfl, rfl, rfl, rfl, rfl, rfl, rfl, rfl, rfl, rfl, rfl, rfl, rfl, trivial⟩, hc⟩
              · rw [hb] at hf
                refine stS hf rfl rfl rfl fun a hf => ?_
                refine stS hf rfl rfl rfl fun a hf => ?_
                refine stS hf rfl rfl rfl fun a hf => ?_
                refine stS hf rfl rfl rfl fun a hf => ?_
                refine stS hf rfl rfl rfl fun a hf => ?_
                refine stS hf rfl rfl rfl fun a hf => ?_
                refine stS hf rfl rfl rfl fun a hf => ?_
                refine stS hf rfl rfl rfl fun a hf => ?_
                refine stS hf rfl rfl rfl fun a hf => ?_
                refine stS hf rfl rfl rfl fun a hf => ?_
                refine stS hf rfl rfl rfl fun a hf => ?_
                refine stS hf rfl rfl rfl fun a hf => ?_
                refine stP hf rfl rfl rfl (pPt rfl rfl) fun a hf => ?_
                exact cNil ⟨hf.keep ⟨rfl, rfl, rfl, rfl, rfl, rfl, rfl, rfl, rfl, rfl, rfl, rfl, rfl, trivial⟩, hc⟩
            intro a w ⟨hf, hc⟩
            refine stP hf rfl rfl rfl (pM rfl) fun a hf => ?_
            refine stCut 3 (fun a w => Has 274 a [(7, .pointer (some ⟨b_2, 0, none⟩)), (29, .int .i64 ((W (a_)).tmod ((r_2.1.length : Nat) : Int))), (31, .int .i64 e_3), (214, .slice (some ⟨b_6, 0, none⟩) 2 2), (215, .int .i64 (2 : Int)), (216, .int .i64 x_2), (34, .int .i64 r_10.2), (35, .pointer (some ⟨b_9, 0, none⟩)), (251, .pointer (some ⟨b_9, 0, none⟩)), (252, .bool e_5.Known), (253, .bool (!e_5.Known)), (254, .bool (!e_5.Known)), (267, .bool ((!e_5.Known) || ((decide (e_5.Flow.Lo ≤ e_3)) && (decide (e_3 ≤ e_5.Flow.Hi))))), (268, .bool ((!e_5.Known) || ((decide (e_5.Flow.Lo ≤ e_3)) && (decide (e_3 ≤ e_5.Flow.Hi))))), (271, .bool (((!e_5.Known) || ((decide (e_5.Flow.Lo ≤ e_3)) && (decide (e_3 ≤ e_5.Flow.Hi)))) && (r_10.2 != 7)))] ∧ Ctx G (.box b_9 [.bool e_5.Known, .int .i64 e_5.Flow.Lo, .int .i64 e_5.Flow.Hi] 56 :: .row (some ⟨g_1, 0, none⟩) c_11 ((r_8.set ((W (a_)).tmod ((r_2.1.length : Nat) : Int)).toNat r_9).map enc_daily_Value) 56 3 :: .row p_12 c_12 (r_10.1.map enc_api_Span) 30 2 :: .box b_8 [.int .i64 r_1.1.Rise, .int .i64 r_1.1.Fall, .slice (some ⟨g_1, 0, none⟩) r_8.length c_11] 24 :: .row (some ⟨b_6, 0, none⟩) 2 (([W (e_1.Lo - 1), W (e_2.Hi + 1)] : List Int).map encI_i64) 3 1 :: .row (some ⟨g_2, 0, none⟩) c_8 (r_1.1.Days.map enc_daily_Value) 56 3 :: .box b_2 [.int .i64 r_1.1.Rise, .int .i64 r_1.1.Fall, .slice (some ⟨g_2, 0, none⟩) r_1.1.Days.length c_8] 24 :: Lf) w) ?_ ?_
            · cases hb : ((!e_5.Known) || ((decide (e_5.Flow.Lo ≤ e_3)) && (decide (e_3 ≤ e_5.Flow.Hi))))
              · rw [hb] at hf
                refine stS hf rfl rfl rfl fun a hf => ?_
                refine stS hf rfl rfl rfl fun a hf => ?_
                refine stP hf rfl rfl rfl (pPf rfl rfl) fun a hf => ?_
                exact cNil ⟨hf.keep ⟨rfl, rfl, rfl, rfl, rfl, rfl, rfl, rfl, rfl, rfl, rfl, rfl, rfl, rfl, rfl, trivial⟩, hc⟩
              · rw [hb] at hf
                refine stP hf rfl rfl rfl (pM rfl) fun a hf => ?_
                refine stP hf rfl rfl rfl (pNe rfl rfl) fun a hf => ?_
                refine stP hf rfl rfl rfl (pPt rfl rfl) fun a hf => ?_
                exact cNil ⟨hf.keep ⟨rfl, rfl, rfl, rfl, rfl, rfl, rfl, rfl, rfl, rfl, rfl, rfl, rfl, rfl, rfl, trivial⟩, hc⟩
            intro a w ⟨hf, hc⟩
            refine cNil ?_
            refine h34 _ _ ?_
            refine cCond (b := (((!e_5.Known) || ((decide (e_5.Flow.Lo ≤ e_3)) && (decide (e_3 ≤ e_5.Flow.Hi)))) && (r_10.2 != 7))) hf rfl (fun hb => ?_) (fun hb => ?_)
            · replace hF := condT hb hF
              clear hb
              refine wp_seq_k fun K35 h35 => ?_
              refine cReg ?_
              refine stP hf rfl rfl rfl (pA rfl) fun a hf => ?_
              refine cNil ?_
              refine h35 _ _ ?_
              refine wp_ret ?_
              refine xBlkR ?_
              refine xThenR ?_
              refine xThenR ?_
              have he := Option.some.inj hF
              rw [← he] at hfin22
              replace hF := ho22 _ hfin22
              refine xBlkR ?_
              refine xThenR ?_
              obtain rfl := hF
              replace hc := hc.down hle_fz_3
              replace hc := hc.down hle_fz_2
              replace hc := hc.down hle_fz_1
              replace hc := hc.down hle_fz
              replace hc := hc.drop k6
              replace hc := hc.drop k5
              replace hc := hc.drop k4
              replace hc := hc.drop k3
              replace hc := hc.drop k2
              replace hc := hc.drop k1
              replace hc := hc.drop k0
              exact fnOut1 (by simp) rfl Try.results7 hf hc (show look _ 6 = _ from rfl) ⟨rfl, hc⟩
            · replace hF := condF hb hF
              clear hb
              refine wp_skip ?_
              replace hc := hc.drop k3
              replace hc := hc.drop k2
              replace hc := hc.drop k1
              replace hc := hc.drop k0
              exact hj26 (some ⟨g_2, 0, none⟩) c_8 _ _  (hf.keep ⟨rfl, rfl, rfl, rfl, rfl, trivial⟩) hc hF
        · replace hF := condF hb hF
          clear hb
          refine wp_exit ?_
          refine xThen ?_
          refine xThen ?_
          have he := Option.some.inj hF
          rw [← he] at hfin22
          refine cHit ?_
          exact hr22 _ _ _ hfin22 ⟨p_8, c_8, hf.keep ⟨rfl, rfl, rfl, rfl, rfl, trivial⟩, hc⟩
      have ho18 : ∀ r, x18 = .out r → r = res := by
        rintro r rfl
        exact Option.some.inj hF
      refine cLoop N (loopW (S := S18) (x := x18) ?_ N 0 _ _ ⟨hf.keep ⟨rfl, rfl, rfl, rfl, rfl, rfl, rfl, rfl, rfl, trivial⟩, hc⟩ hx18)
      clear hF hf hc
      rintro x_1 st18 a w KB18 ⟨hf, hc⟩ hF hfin18 hK18
      unfold law07_DailyHeld_b18 at hF
      refine wp_seq_k fun K36 h36 => ?_
      refine cReg ?_
      refine stP hf rfl rfl rfl (pLt rfl rfl) fun a hf => ?_
      refine cNil ?_
      refine h36 _ _ ?_
      refine wp_seq_k fun K37 h37 => ?_
      refine cCond (b := (decide (x_1 < (3 : Int)))) hf rfl (fun hb => ?_) (fun hb => ?_)
      · replace hF := condT hb hF
        clear hb
        refine wp_skip ?_
        refine h37 _ _ ?_
        refine wp_seq_k fun K38 h38 => ?_
        refine wp_block ?_
        refine wp_seq_k fun K39 h39 => ?_
        refine cReg ?_
        refine stP hf rfl rfl rfl (pM rfl) fun a hf => ?_
        obtain ⟨e_6, he_6, hF⟩ := bnd_some hF
        obtain ⟨b_10, o, q2, c2, qa_5, qp, qr_5⟩ := rdd.atm he_6
        refine stP hf rfl rfl rfl (pIA Try.underlying78 sz_39 rfl rfl qa_5) fun a hf => ?_
        refine stE hf hc rfl rfl rfl (eLd1 sc_39 rfl (cell_pc (j := 0) qp rfl)) fun a w hf hc => ?_
        refine stP hf rfl rfl rfl (pA rfl) fun a hf => ?_
        refine stP hf rfl rfl rfl (pA rfl) fun a hf => ?_
        refine cNil ?_
        refine h39 _ _ ?_
        refine wp_seq_k fun K40 h40 => ?_
        refine cReg ?_
        refine stE hf hc rfl rfl rfl (eLdN (vs := [.int .i64 r_1.1.Rise, .int .i64 r_1.1.Fall, .slice p_1 r_1.1.Days.length c_1]) ag_24 rfl rfl (cells_box (n := 3) m3 rfl)) fun a w hf hc => ?_
        refine stP hf rfl rfl rfl (pM rfl) fun a hf => ?_
        obtain ⟨r_11, hr_11, hF⟩ := bnd_some hF
        refine stE hf hc rfl rfl rfl (eC (v := .tuple #[.int .i64 r_11.1, .int .i64 r_11.2]) (vs := [.agg #[.int .i64 r_1.1.Rise, .int .i64 r_1.1.Fall, .slice p_1 r_1.1.Days.length c_1], .slice q2 e_6.length c2]) (caps := []) en_36 rfl rfl rfl rfl (fun w hc => by obtain ⟨G1, hle1, hrd1, hc, hth1⟩ := lend hc k2; exact (daily_Holds_ok r_1.1 e_6 hrd1 (qr_5.mono hle1) hc hr_11).mono fun e w h => ⟨h.1, ((hth1 _ _ h.2).unpick k2)⟩)) fun a w hf hc => ?_
        refine stP hf rfl rfl rfl (pM rfl) fun a hf => ?_
        refine stP hf rfl rfl rfl (pX rfl rfl) fun a hf => ?_
        refine stP hf rfl rfl rfl (pX rfl rfl) fun a hf => ?_
        refine stP hf rfl rfl rfl (pA rfl) fun a hf => ?_
        refine stP hf rfl rfl rfl (pA rfl) fun a hf => ?_
        refine cNil ?_
        refine h40 _ _ ?_
        refine wp_seq_k fun K41 h41 => ?_
        refine cReg ?_
        refine stP hf rfl rfl rfl (pM rfl) fun a hf => ?_
        refine stP hf rfl rfl rfl (pM rfl) fun a hf => ?_
        refine stP hf rfl rfl rfl (pM rfl) fun a hf => ?_
        refine stP hf rfl rfl rfl (pAdd rfl rfl) fun a hf => ?_
        obtain ⟨sub, hsub, hF⟩ := bnd_some hF
        have qs := Rd.sub qr_5 hsub
        refine stP hf rfl rfl rfl (pSl Try.underlying39 sz_3 rfl rfl (by simpa using qr_5.1) rfl rfl hsub) fun a hf => ?_
        obtain ⟨r_12, hr_12, hF⟩ := bnd_some hF
        refine stE hf hc rfl rfl rfl (eC (v := .int .i64 r_12) (vs := [.slice (subP q2 c2 (min ((W (a_)).tmod ((r_1.2.1.length : Nat) : Int)) ((W (b_)).tmod ((r_1.2.1.length : Nat) : Int))).toNat 1) sub.length (c2 - (min ((W (a_)).tmod ((r_1.2.1.length : Nat) : Int)) ((W (b_)).tmod ((r_1.2.1.length : Nat) : Int))).toNat)]) (caps := []) en_41 rfl rfl rfl rfl (fun w hc => law07_total_ok sub qs hc hr_12)) fun a w hf hc => ?_
        refine stP hf rfl rfl rfl (pA rfl) fun a hf => ?_
        refine cNil ?_
        refine h41 _ _ ?_
        refine wp_seq_k fun K42 h42 => ?_
        refine cReg ?_
        refine stP hf rfl rfl rfl (pM rfl) fun a hf => ?_
        refine stP hf rfl rfl rfl (pNe rfl rfl) fun a hf => ?_
        refine stP hf rfl rfl rfl (pM rfl) fun a hf => ?_
        refine stCut 3 (fun a w => Has 274 a [(1, .int .u8 a_), (7, .pointer (some ⟨b_2, 0, none⟩)), (9, .int .i64 (min ((W (a_)).tmod ((r_1.2.1.length : Nat) : Int)) ((W (b_)).tmod ((r_1.2.1.length : Nat) : Int)))), (10, .int .i64 (max ((W (a_)).tmod ((r_1.2.1.length : Nat) : Int)) ((W (b_)).tmod ((r_1.2.1.length : Nat) : Int)))), (11, .slice p_5 r_2.1.length c_5), (18, .pointer (some ⟨b_3, 0, none⟩)), (139, .slice (some ⟨b_4, 0, none⟩) 3 3), (140, .int .i64 (3 : Int)), (141, .int .i64 x_1), (24, .int .i64 x_1), (26, .int .i64 r_11.1), (27, .int .i64 r_11.2), (28, .int .i64 r_12), (158, .int .i64 r_11.2), (159, .bool (r_11.2 != 0)), (160, .bool (r_11.2 != 0)), (163, .bool ((r_11.2 != 0) || (r_11.1 != (-1))))] ∧ Ctx G (.row p_5 c_5 (r_2.1.map enc_api_Span) 30 2 :: .box b_3 [.int .i64 r_5.1.Lo, .int .i64 r_5.1.Hi] 30 :: .row p_1 c_1 (r_1.1.Days.map enc_daily_Value) 56 3 :: .box b_2 [.int .i64 r_1.1.Rise, .int .i64 r_1.1.Fall, .slice p_1 r_1.1.Days.length c_1] 24 :: Lf) w) ?_ ?_
        · cases hb : (r_11.2 != 0)
          · rw [hb] at hf
            refine stP hf rfl rfl rfl (pM rfl) fun a hf => ?_
            refine stP hf rfl rfl rfl (pNe rfl rfl) fun a hf => ?_
            refine stP hf rfl rfl rfl (pPf rfl rfl) fun a hf => ?_
            exact cNil ⟨hf.keep ⟨rfl, rfl, rfl, rfl, rfl, rfl, rfl, rfl, rfl, rfl, rfl, rfl, rfl, rfl, rfl, rfl, rfl, trivial⟩, hc⟩
          · rw [hb] at hf
            refine stS hf rfl rfl rfl fun a hf => ?_
            refine stS hf rfl rfl rfl fun a hf => ?_
            refine stP hf rfl rfl rfl (pPt rfl rfl) fun a hf => ?_
            exact cNil ⟨hf.keep ⟨rfl, rfl, rfl, rfl, rfl, rfl, rfl, rfl, rfl, rfl, rfl, rfl, rfl, rfl, rfl, rfl, rfl, trivial⟩, hc⟩
        intro a w ⟨hf, hc⟩
        refine stP hf rfl rfl rfl (pM rfl) fun a hf => ?_
        refine stCut 5 (fun a w => Has 274 a [(1, .int .u8 a_), (7, .pointer (some ⟨b_2, 0, none⟩)), (9, .int .i64 (min ((W (a_)).tmod ((r_1.2.1.length : Nat) : Int)) ((W (b_)).tmod ((r_1.2.1.length : Nat) : Int)))), (10, .int .i64 (max ((W (a_)).tmod ((r_1.2.1.length : Nat) : Int)) ((W (b_)).tmod ((r_1.2.1.length : Nat) : Int)))), (11, .slice p_5 r_2.1.length c_5), (18, .pointer (some ⟨b_3, 0, none⟩)), (139, .slice (some ⟨b_4, 0, none⟩) 3 3), (140, .int .i64 (3 : Int)), (141, .int .i64 x_1), (24, .int .i64 x_1), (26, .int .i64 r_11.1), (27, .int .i64 r_11.2), (28, .int .i64 r_12), (158, .int .i64 r_11.2), (159, .bool (r_11.2 != 0)), (160, .bool (r_11.2 != 0)), (163, .bool ((r_11.2 != 0) || (r_11.1 != (-1)))), (164, .bool ((r_11.2 != 0) || (r_11.1 != (-1)))), (169, .bool (((r_11.2 != 0) || (r_11.1 != (-1))) || (decide (r_12 < r_5.1.Lo))))] ∧ Ctx G (.row p_5 c_5 (r_2.1.map enc_api_Span) 30 2 :: .box b_3 [.int .i64 r_5.1.Lo, .int .i64 r_5.1.Hi] 30 :: .row p_1 c_1 (r_1.1.Days.map enc_daily_Value) 56 3 :: .box b_2 [.int .i64 r_1.1.Rise, .int .i64 r_1.1.Fall, .slice p_1 r_1.1.Days.length c_1] 24 :: Lf) w) ?_ ?_
        · cases hb : ((r_11.2 != 0) || (r_11.1 != (-1)))
          · rw [hb] at hf
            refine stP hf rfl rfl rfl (pM rfl) fun a hf => ?_
            refine stP hf rfl rfl rfl (pFA fa_30_0 rfl) fun a hf => ?_
            refine stE hf hc rfl rfl rfl (eLd1 sc_3 rfl (cell_box m1 rfl)) fun a w hf hc => ?_
            refine stP hf rfl rfl rfl (pLt rfl rfl) fun a hf => ?_
            refine stP hf rfl rfl rfl (pPf rfl rfl) fun a hf => ?_
            exact cNil ⟨hf.keep ⟨rfl, rfl, rfl, rfl, rfl, rfl, rfl, rfl, rfl, rfl, rfl, rfl, rfl, rfl, rfl, rfl, rfl, rfl, rfl, trivial⟩, hc⟩
          · rw [hb] at hf
            refine stS hf rfl rfl rfl fun a hf => ?_
            refine stS hf rfl rfl rfl fun a hf => ?_
            refine stS hf rfl rfl rfl fun a hf => ?_
            refine stS hf rfl rfl rfl fun a hf => ?_
            refine stP hf rfl rfl rfl (pPt rfl rfl) fun a hf => ?_
            exact cNil ⟨hf.keep ⟨rfl, rfl, rfl, rfl, rfl, rfl, rfl, rfl, rfl, rfl, rfl, rfl, rfl, rfl, rfl, rfl, rfl, rfl, rfl, trivial⟩, hc⟩
        intro a w ⟨hf, hc⟩
        refine stP hf rfl rfl rfl (pM rfl) fun a hf => ?_
        refine stCut 5 (fun a w => Has 274 a [(1, .int .u8 a_), (7, .pointer (some ⟨b_2, 0, none⟩)), (9, .int .i64 (min ((W (a_)).tmod ((r_1.2.1.length : Nat) : Int)) ((W (b_)).tmod ((r_1.2.1.length : Nat) : Int)))), (10, .int .i64 (max ((W (a_)).tmod ((r_1.2.1.length : Nat) : Int)) ((W (b_)).tmod ((r_1.2.1.length : Nat) : Int)))), (11, .slice p_5 r_2.1.length c_5), (18, .pointer (some ⟨b_3, 0, none⟩)), (139, .slice (some ⟨b_4, 0, none⟩) 3 3), (140, .int .i64 (3 : Int)), (141, .int .i64 x_1), (24, .int .i64 x_1), (26, .int .i64 r_11.1), (27, .int .i64 r_11.2), (28, .int .i64 r_12), (158, .int .i64 r_11.2), (159, .bool (r_11.2 != 0)), (160, .bool (r_11.2 != 0)), (163, .bool ((r_11.2 != 0) || (r_11.1 != (-1)))), (164, .bool ((r_11.2 != 0) || (r_11.1 != (-1)))), (169, .bool (((r_11.2 != 0) || (r_11.1 != (-1))) || (decide (r_12 < r_5.1.Lo)))), (170, .bool (((r_11.2 != 0) || (r_11.1 != (-1))) || (decide (r_12 < r_5.1.Lo)))), (175, .bool ((((r_11.2 != 0) || (r_11.1 != (-1))) || (decide (r_12 < r_5.1.Lo))) || (decide (r_5.1.Hi < r_12))))] ∧ Ctx G (.row p_5 c_5 (r_2.1.map enc_api_Span) 30 2 :: .box b_3 [.int .i64 r_5.1.Lo, .int .i64 r_5.1.Hi] 30 :: .row p_1 c_1 (r_1.1.Days.map enc_daily_Value) 56 3 :: .box b_2 [.int .i64 r_1.1.Rise, .int .i64 r_1.1.Fall, .slice p_1 r_1.1.Days.length c_1] 24 :: Lf) w) ?_ ?_
        · cases hb : (((r_11.2 != 0) || (r_11.1 != (-1))) || (decide (r_12 < r_5.1.Lo)))
          · rw [hb] at hf
            refine stP hf rfl rfl rfl (pM rfl) fun a hf => ?_
            refine stP hf rfl rfl rfl (pFA fa_30_1 rfl) fun a hf => ?_
            refine stE hf hc rfl rfl rfl (eLd1 sc_3 rfl (cell_box m1 rfl)) fun a w hf hc => ?_
            refine stP hf rfl rfl rfl (pGt rfl rfl) fun a hf => ?_
            refine stP hf rfl rfl rfl (pPf rfl rfl) fun a hf => ?_
            exact cNil ⟨hf.keep ⟨rfl, rfl, rfl, rfl, rfl, rfl, rfl, rfl, rfl, rfl, rfl, rfl, rfl, rfl, rfl, rfl, rfl, rfl, rfl, rfl, rfl, trivial⟩, hc⟩
          · rw [hb] at hf
            refine stS hf rfl rfl rfl fun a hf => ?_
            refine stS hf rfl rfl rfl fun a hf => ?_
            refine stS hf rfl rfl rfl fun a hf => ?_
            refine stS hf rfl rfl rfl fun a hf => ?_
            refine stP hf rfl rfl rfl (pPt rfl rfl) fun a hf => ?_
            exact cNil ⟨hf.keep ⟨rfl, rfl, rfl, rfl, rfl, rfl, rfl, rfl, rfl, rfl, rfl, rfl, rfl, rfl, rfl, rfl, rfl, rfl, rfl, rfl, rfl, trivial⟩, hc⟩
        intro a w ⟨hf, hc⟩
        refine stP hf rfl rfl rfl (pM rfl) fun a hf => ?_
        refine stCut 9 (fun a w => Has 274 a [(1, .int .u8 a_), (7, .pointer (some ⟨b_2, 0, none⟩)), (9, .int .i64 (min ((W (a_)).tmod ((r_1.2.1.length : Nat) : Int)) ((W (b_)).tmod ((r_1.2.1.length : Nat) : Int)))), (10, .int .i64 (max ((W (a_)).tmod ((r_1.2.1.length : Nat) : Int)) ((W (b_)).tmod ((r_1.2.1.length : Nat) : Int)))), (11, .slice p_5 r_2.1.length c_5), (18, .pointer (some ⟨b_3, 0, none⟩)), (139, .slice (some ⟨b_4, 0, none⟩) 3 3), (140, .int .i64 (3 : Int)), (141, .int .i64 x_1), (24, .int .i64 x_1), (26, .int .i64 r_11.1), (27, .int .i64 r_11.2), (28, .int .i64 r_12), (158, .int .i64 r_11.2), (159, .bool (r_11.2 != 0)), (160, .bool (r_11.2 != 0)), (163, .bool ((r_11.2 != 0) || (r_11.1 != (-1)))), (164, .bool ((r_11.2 != 0) || (r_11.1 != (-1)))), (169, .bool (((r_11.2 != 0) || (r_11.1 != (-1))) || (decide (r_12 < r_5.1.Lo)))), (170, .bool (((r_11.2 != 0) || (r_11.1 != (-1))) || (decide (r_12 < r_5.1.Lo)))), (175, .bool ((((r_11.2 != 0) || (r_11.1 != (-1))) || (decide (r_12 < r_5.1.Lo))) || (decide (r_5.1.Hi < r_12)))), (176, .bool ((((r_11.2 != 0) || (r_11.1 != (-1))) || (decide (r_12 < r_5.1.Lo))) || (decide (r_5.1.Hi < r_12)))), (185, .bool (((((r_11.2 != 0) || (r_11.1 != (-1))) || (decide (r_12 < r_5.1.Lo))) || (decide (r_5.1.Hi < r_12))) || ((x_1 == 0) && (r_12 != r_5.1.Lo))))] ∧ Ctx G (.row p_5 c_5 (r_2.1.map enc_api_Span) 30 2 :: .box b_3 [.int .i64 r_5.1.Lo, .int .i64 r_5.1.Hi] 30 :: .row p_1 c_1 (r_1.1.Days.map enc_daily_Value) 56 3 :: .box b_2 [.int .i64 r_1.1.Rise, .int .i64 r_1.1.Fall, .slice p_1 r_1.1.Days.length c_1] 24 :: Lf) w) ?_ ?_
        · cases hb : ((((r_11.2 != 0) || (r_11.1 != (-1))) || (decide (r_12 < r_5.1.Lo))) || (decide (r_5.1.Hi < r_12)))
          · rw [hb] at hf
            refine stP hf rfl rfl rfl (pM rfl) fun a hf => ?_
            refine stP hf rfl rfl rfl (pEq rfl rfl) fun a hf => ?_
            refine stP hf rfl rfl rfl (pM rfl) fun a hf => ?_
            refine stCut 5 (fun a w => Has 274 a [(1, .int .u8 a_), (7, .pointer (some ⟨b_2, 0, none⟩)), (9, .int .i64 (min ((W (a_)).tmod ((r_1.2.1.length : Nat) : Int)) ((W (b_)).tmod ((r_1.2.1.length : Nat) : Int)))), (10, .int .i64 (max ((W (a_)).tmod ((r_1.2.1.length : Nat) : Int)) ((W (b_)).tmod ((r_1.2.1.length : Nat) : Int)))), (11, .slice p_5 r_2.1.length c_5), (18, .pointer (some ⟨b_3, 0, none⟩)), (139, .slice (some ⟨b_4, 0, none⟩) 3 3), (140, .int .i64 (3 : Int)), (141, .int .i64 x_1), (24, .int .i64 x_1), (26, .int .i64 r_11.1), (27, .int .i64 r_11.2), (28, .int .i64 r_12), (158, .int .i64 r_11.2), (159, .bool (r_11.2 != 0)), (160, .bool (r_11.2 != 0)), (163, .bool ((r_11.2 != 0) || (r_11.1 != (-1)))), (164, .bool ((r_11.2 != 0) || (r_11.1 != (-1)))), (169, .bool (((r_11.2 != 0) || (r_11.1 != (-1))) || (decide (r_12 < r_5.1.Lo)))), (170, .bool (((r_11.2 != 0) || (r_11.1 != (-1))) || (decide (r_12 < r_5.1.Lo)))), (175, .bool false), (176, .bool false), (177, .int .i64 x_1), (178, .bool (x_1 == 0)), (179, .bool (x_1 == 0)), (184, .bool ((x_1 == 0) && (r_12 != r_5.1.Lo)))] ∧ Ctx G (.row p_5 c_5 (r_2.1.map enc_api_Span) 30 2 :: .box b_3 [.int .i64 r_5.1.Lo, .int .i64 r_5.1.Hi] 30 :: .row p_1 c_1 (r_1.1.Days.map enc_daily_Value) 56 3 :: .box b_2 [.int .i64 r_1.1.Rise, .int .i64 r_1.1.Fall, .slice p_1 r_1.1.Days.length c_1] 24 :: Lf) w) ?_ ?_
            · cases hb : (x_1 == 0)
              · rw [hb] at hf
                refine stS hf rfl rfl rfl fun a hf => ?_
                refine stS hf rfl rfl rfl fun a hf => ?_
                refine stS hf rfl rfl rfl fun a hf => ?_
                refine stS hf rfl rfl rfl fun a hf => ?_
                refine stP hf rfl rfl rfl (pPf rfl rfl) fun a hf => ?_
                exact cNil ⟨hf.keep ⟨rfl, rfl, rfl, rfl, rfl, rfl, rfl, rfl, rfl, rfl, rfl, rfl, rfl, rfl, rfl, rfl, rfl, rfl, rfl, rfl, rfl, rfl, rfl, rfl, rfl, rfl, trivial⟩, hc⟩
              · rw [hb] at hf
                refine stP hf rfl rfl rfl (pM rfl) fun a hf => ?_
                refine stP hf rfl rfl rfl (pFA fa_30_0 rfl) fun a hf => ?_
                refine stE hf hc rfl rfl rfl (eLd1 sc_3 rfl (cell_box m1 rfl)) fun a w hf hc => ?_
                refine stP hf rfl rfl rfl (pNe rfl rfl) fun a hf => ?_
                refine stP hf rfl rfl rfl (pPt rfl rfl) fun a hf => ?_
                exact cNil ⟨hf.keep ⟨rfl, rfl, rfl, rfl, rfl, rfl, rfl, rfl, rfl, rfl, rfl, rfl, rfl, rfl, rfl, rfl, rfl, rfl, rfl, rfl, rfl, rfl, rfl, rfl, rfl, rfl, trivial⟩, hc⟩
            intro a w ⟨hf, hc⟩
            refine stP hf rfl rfl rfl (pPf rfl rfl) fun a hf => ?_
            exact cNil ⟨hf.keep ⟨rfl, rfl, rfl, rfl, rfl, rfl, rfl, rfl, rfl, rfl, rfl, rfl, rfl, rfl, rfl, rfl, rfl, rfl, rfl, rfl, rfl, rfl, rfl, trivial⟩, hc⟩
          · rw [hb] at hf
            refine stS hf rfl rfl rfl fun a hf => ?_
            refine stS hf rfl rfl rfl fun a hf => ?_
            refine stS hf rfl rfl rfl fun a hf => ?_
            refine stS hf rfl rfl rfl fun a hf => ?_
            refine stS hf rfl rfl rfl fun a hf => ?_
            refine stS hf rfl rfl rfl fun a hf => ?_
            refine stS hf rfl rfl rfl fun a hf => ?_
            refine stS hf rfl rfl rfl fun a hf => ?_
            refine stP hf rfl rfl rfl (pPt rfl rfl) fun a hf => ?_
            exact cNil ⟨hf.keep ⟨rfl, rfl, rfl, rfl, rfl, rfl, rfl, rfl, rfl, rfl, rfl, rfl, rfl, rfl, rfl, rfl, rfl, rfl, rfl, rfl, rfl, rfl, rfl, trivial⟩, hc⟩
        intro a w ⟨hf, hc⟩
        refine stP hf rfl rfl rfl (pM rfl) fun a hf => ?_
        refine stCut 9 (fun a w => Has 274 a [(1, .int .u8 a_), (7, .pointer (some ⟨b_2, 0, none⟩)), (9, .int .i64 (min ((W (a_)).tmod ((r_1.2.1.length : Nat) : Int)) ((W (b_)).tmod ((r_1.2.1.length : Nat) : Int)))), (10, .int .i64 (max ((W (a_)).tmod ((r_1.2.1.length : Nat) : Int)) ((W (b_)).tmod ((r_1.2.1.length : Nat) : Int)))), (11, .slice p_5 r_2.1.length c_5), (18, .pointer (some ⟨b_3, 0, none⟩)), (139, .slice (some ⟨b_4, 0, none⟩) 3 3), (140, .int .i64 (3 : Int)), (141, .int .i64 x_1), (24, .int .i64 x_1), (26, .int .i64 r_11.1), (27, .int .i64 r_11.2), (28, .int .i64 r_12), (158, .int .i64 r_11.2), (159, .bool (r_11.2 != 0)), (160, .bool (r_11.2 != 0)), (163, .bool ((r_11.2 != 0) || (r_11.1 != (-1)))), (164, .bool ((r_11.2 != 0) || (r_11.1 != (-1)))), (169, .bool (((r_11.2 != 0) || (r_11.1 != (-1))) || (decide (r_12 < r_5.1.Lo)))), (170, .bool (((r_11.2 != 0) || (r_11.1 != (-1))) || (decide (r_12 < r_5.1.Lo)))), (175, .bool ((((r_11.2 != 0) || (r_11.1 != (-1))) || (decide (r_12 < r_5.1.Lo))) || (decide (r_5.1.Hi < r_12)))), (176, .bool ((((r_11.2 != 0) || (r_11.1 != (-1))) || (decide (r_12 < r_5.1.Lo))) || (decide (r_5.1.Hi < r_12)))), (185, .bool (((((r_11.2 != 0) || (r_11.1 != (-1))) || (decide (r_12 < r_5.1.Lo))) || (decide (r_5.1.Hi < r_12))) || ((x_1 == 0) && (r_12 != r_5.1.Lo)))), (186, .bool (((((r_11.2 != 0) || (r_11.1 != (-1))) || (decide (r_12 < r_5.1.Lo))) || (decide (r_5.1.Hi < r_12))) || ((x_1 == 0) && (r_12 != r_5.1.Lo)))), (195, .bool ((((((r_11.2 != 0) || (r_11.1 != (-1))) || (decide (r_12 < r_5.1.Lo))) || (decide (r_5.1.Hi < r_12))) || ((x_1 == 0) && (r_12 != r_5.1.Lo))) || ((x_1 == 1) && (r_12 != r_5.1.Hi))))] ∧ Ctx G (.row p_5 c_5 (r_2.1.map enc_api_Span) 30 2 :: .box b_3 [.int .i64 r_5.1.Lo, .int .i64 r_5.1.Hi] 30 :: .row p_1 c_1 (r_1.1.Days.map enc_daily_Value) 56 3 :: .box b_2 [.int .i64 r_1.1.Rise, .int .i64 r_1.1.Fall, .slice p_1 r_1.1.Days.length c_1] 24 :: Lf) w) ?_ ?_
        · cases hb : (((((r_11.2 != 0) || (r_11.1 != (-1))) || (decide (r_12 < r_5.1.Lo))) || (decide (r_5.1.Hi < r_12))) || ((x_1 == 0) && (r_12 != r_5.1.Lo)))
          · rw [hb] at hf
            refine stP hf rfl rfl rfl (pM rfl) fun a hf => ?_
            refine stP hf rfl rfl rfl (pEq rfl rfl) fun a hf => ?_
            refine stP hf rfl rfl rfl (pM rfl) fun a hf => ?_
            refine stCut 5 (fun a w => Has 274 a [(1, .int .u8 a_), (7, .pointer (some ⟨b_2, 0, none⟩)), (9, .int .i64 (min ((W (a_)).tmod ((r_1.2.1.length : Nat) : Int)) ((W (b_)).tmod ((r_1.2.1.length : Nat) : Int)))), (10, .int .i64 (max ((W (a_)).tmod ((r_1.2.1.length : Nat) : Int)) ((W (b_)).tmod ((r_1.2.1.length : Nat) : Int)))), (11, .slice p_5 r_2.1.length c_5), (18, .pointer (some ⟨b_3, 0, none⟩)), (139, .slice (some ⟨b_4, 0, none⟩) 3 3), (140, .int .i64 (3 : Int)), (141, .int .i64 x_1), (24, .int .i64 x_1), (26, .int .i64 r_11.1), (27, .int .i64 r_11.2), (28, .int .i64 r_12), (158, .int .i64 r_11.2), (159, .bool (r_11.2 != 0)), (160, .bool (r_11.2 != 0)), (163, .bool ((r_11.2 != 0) || (r_11.1 != (-1)))), (164, .bool ((r_11.2 != 0) || (r_11.1 != (-1)))), (169, .bool (((r_11.2 != 0) || (r_11.1 != (-1))) || (decide (r_12 < r_5.1.Lo)))), (170, .bool (((r_11.2 != 0) || (r_11.1 != (-1))) || (decide (r_12 < r_5.1.Lo)))), (175, .bool ((((r_11.2 != 0) || (r_11.1 != (-1))) || (decide (r_12 < r_5.1.Lo))) || (decide (r_5.1.Hi < r_12)))), (176, .bool ((((r_11.2 != 0) || (r_11.1 != (-1))) || (decide (r_12 < r_5.1.Lo))) || (decide (r_5.1.Hi < r_12)))), (185, .bool false), (186, .bool false), (187, .int .i64 x_1), (188, .bool (x_1 == 1)), (189, .bool (x_1 == 1)), (194, .bool ((x_1 == 1) && (r_12 != r_5.1.Hi)))] ∧ Ctx G (.row p_5 c_5 (r_2.1.map enc_api_Span) 30 2 :: .box b_3 [.int .i64 r_5.1.Lo, .int .i64 r_5.1.Hi] 30 :: .row p_1 c_1 (r_1.1.Days.map enc_daily_Value) 56 3 :: .box b_2 [.int .i64 r_1.1.Rise, .int .i64 r_1.1.Fall, .slice p_1 r_1.1.Days.length c_1] 24 :: Lf) w) ?_ ?_
            · cases hb : (x_1 == 1)
              · rw [hb] at hf
                refine stS hf rfl rfl rfl fun a hf => ?_
                refine stS hf rfl rfl rfl fun a hf => ?_
                refine stS hf rfl rfl rfl fun a hf => ?_
                refine stS hf rfl rfl rfl fun a hf => ?_
                refine stP hf rfl rfl rfl (pPf rfl rfl) fun a hf => ?_
                exact cNil ⟨hf.keep ⟨rfl, rfl, rfl, rfl, rfl, rfl, rfl, rfl, rfl, rfl, rfl, rfl, rfl, rfl, rfl, rfl, rfl, rfl, rfl, rfl, rfl, rfl, rfl, rfl, rfl, rfl, rfl, rfl, trivial⟩, hc⟩
              · rw [hb] at hf
                refine stP hf rfl rfl rfl (pM rfl) fun a hf => ?_
                refine stP hf rfl rfl rfl (pFA fa_30_1 rfl) fun a hf => ?_
                refine stE hf hc rfl rfl rfl (eLd1 sc_3 rfl (cell_box m1 rfl)) fun a w hf hc => ?_
                refine stP hf rfl rfl rfl (pNe rfl rfl) fun a hf => ?_
                refine stP hf rfl rfl rfl (pPt rfl rfl) fun a hf => ?_
                exact cNil ⟨hf.keep ⟨rfl, rfl, rfl, rfl, rfl, rfl, rfl, rfl, rfl, rfl, rfl, rfl, rfl, rfl, rfl, rfl, rfl, rfl, rfl, rfl, rfl, rfl, rfl, rfl, rfl, rfl, rfl, rfl, trivial⟩, hc⟩
            intro a w ⟨hf, hc⟩
            refine stP hf rfl rfl rfl (pPf rfl rfl) fun a hf => ?_
            exact cNil ⟨hf.keep ⟨rfl, rfl, rfl, rfl, rfl, rfl, rfl, rfl, rfl, rfl, rfl, rfl, rfl, rfl, rfl, rfl, rfl, rfl, rfl, rfl, rfl, rfl, rfl, rfl, rfl, trivial⟩, hc⟩
          · rw [hb] at hf
            refine stS hf rfl rfl rfl fun a hf => ?_
            refine stS hf rfl rfl rfl fun a hf => ?_
            refine stS hf rfl rfl rfl fun a hf => ?_
            refine stS hf rfl rfl rfl fun a hf => ?_
            refine stS hf rfl rfl rfl fun a hf => ?_
            refine stS hf rfl rfl rfl fun a hf => ?_
            refine stS hf rfl rfl rfl fun a hf => ?_
            refine stS hf rfl rfl rfl fun a hf => ?_
            refine stP hf rfl rfl rfl (pPt rfl rfl) fun a hf => ?_
            exact cNil ⟨hf.keep ⟨rfl, rfl, rfl, rfl, rfl, rfl, rfl, rfl, rfl, rfl, rfl, rfl, rfl, rfl, rfl, rfl, rfl, rfl, rfl, rfl, rfl, rfl, rfl, rfl, rfl, trivial⟩, hc⟩
        intro a w ⟨hf, hc⟩
        refine cNil ?_
        refine h42 _ _ ?_
        refine cCond (b := ((((((r_11.2 != 0) || (r_11.1 != (-1))) || (decide (r_12 < r_5.1.Lo))) || (decide (r_5.1.Hi < r_12))) || ((x_1 == 0) && (r_12 != r_5.1.Lo))) || ((x_1 == 1) && (r_12 != r_5.1.Hi)))) hf rfl (fun hb => ?_) (fun hb => ?_)
        · replace hF := condT hb hF
          clear hb
          refine wp_seq_k fun K43 h43 => ?_
          refine cReg ?_
          refine stP hf rfl rfl rfl (pA rfl) fun a hf => ?_
          refine cNil ?_
          refine h43 _ _ ?_
          refine wp_ret ?_
          refine xBlkR ?_
          refine xThenR ?_
          refine xThenR ?_
          have he := Option.some.inj hF
          rw [← he] at hfin18
          replace hF := ho18 _ hfin18
          refine xBlkR ?_
          refine xThenR ?_
          obtain rfl := hF
          replace hc := hc.down hle_fz_3
          replace hc := hc.down hle_fz_2
          replace hc := hc.down hle_fz_1
          replace hc := hc.down hle_fz
          replace hc := hc.drop k3
          replace hc := hc.drop k2
          replace hc := hc.drop k1
          replace hc := hc.drop k0
          exact fnOut1 (by simp) rfl Try.results7 hf hc (show look _ 6 = _ from rfl) ⟨rfl, hc⟩
        · replace hF := condF hb hF
          clear hb
          refine wp_skip ?_
          refine h38 _ _ ?_
          refine cReg ?_
          refine stP hf rfl rfl rfl (pAdd rfl rfl) fun a hf => ?_
          refine stP hf rfl rfl rfl (pM rfl) fun a hf => ?_
          refine cNil ?_
          exact hK18 (W (x_1 + 1)) _ _ (Option.some.inj hF).symm ⟨hf.keep ⟨rfl, rfl, rfl, rfl, rfl, rfl, rfl, rfl, rfl, trivial⟩, hc⟩
      · replace hF := condF hb hF
        clear hb
        refine wp_exit ?_
        refine xThen ?_
        refine xThen ?_
        have he := Option.some.inj hF
        rw [← he] at hfin18
        refine cHit ?_
        exact hr18 _ _ _ hfin18 ⟨hf.keep ⟨rfl, rfl, rfl, rfl, rfl, rfl, rfl, rfl, rfl, trivial⟩, hc⟩
    have ho14 : ∀ r, x14 = .out r → r = res := by
      rintro r rfl
      exact Option.some.inj hF
    replace hc := hc.drop k5
    refine cLoop N (loopW (S := S14) (x := x14) ?_ N 0 _ _ ⟨p_2, c_2, p_3, c_3, hf.keep ⟨rfl, rfl, rfl, rfl, rfl, rfl, rfl, rfl, rfl, rfl, trivial⟩, hc⟩ hx14)
    clear hF hf hc
    rintro x st14 a w KB14 ⟨p_4, c_4, p_5, c_5, hf, hc⟩ hF hfin14 hK14
    unfold law07_DailyHeld_b14 at hF
    refine wp_seq_k fun K44 h44 => ?_
    refine cReg ?_
    refine stP hf rfl rfl rfl (pLt rfl rfl) fun a hf => ?_
    refine cNil ?_
    refine h44 _ _ ?_
    refine wp_seq_k fun K45 h45 => ?_
    refine cCond (b := (decide (x < ((r_1.2.1.length : Nat) : Int)))) hf rfl (fun hb => ?_) (fun hb => ?_)
    · replace hF := condT hb hF
      clear hb
      refine wp_skip ?_
      refine h45 _ _ ?_
      refine wp_seq_k fun K46 h46 => ?_
      refine wp_block ?_
      refine wp_seq_k fun K47 h47 => ?_
      refine cReg ?_
      refine stP hf rfl rfl rfl (pM rfl) fun a hf => ?_
      obtain ⟨e_7, he_7, hF⟩ := bnd_some hF
      obtain ⟨g_3, rfl, qa_6, qr_6⟩ := row_atm hc m4 he_7
      refine stP hf rfl rfl rfl (pIA Try.underlying39 sz_3 rfl rfl qa_6) fun a hf => ?_
      refine stE hf hc rfl rfl rfl (eLd1 sc_3 rfl (cell_row (sz := 1) (i := x.toNat) (j := 0) m4 qr_6 rfl)) fun a w hf hc => ?_
      refine stP hf rfl rfl rfl (pA rfl) fun a hf => ?_
      refine stP hf rfl rfl rfl (pA rfl) fun a hf => ?_
      refine cNil ?_
      refine h47 _ _ ?_
      refine wp_seq_k fun K48 h48 => ?_
      refine cReg ?_
      refine stP hf rfl rfl rfl (pM rfl) fun a hf => ?_
      refine stP hf rfl rfl rfl (pM rfl) fun a hf => ?_
      refine stP hf rfl rfl rfl (pM rfl) fun a hf => ?_
      obtain ⟨e_8, he_8, hF⟩ := bnd_some hF
      obtain ⟨g_4, rfl, qa_7, qr_7⟩ := row_atm hc m2 he_8
      refine stP hf rfl rfl rfl (pIA Try.underlying25 sz_30 rfl rfl qa_7) fun a hf => ?_
      refine stP hf rfl rfl rfl (pFA fa_30_0 rfl) fun a hf => ?_
      refine stE hf hc rfl rfl rfl (eLd1 sc_3 rfl (cell_row (sz := 2) (i := x.toNat) (j := 0) m2 qr_7 rfl)) fun a w hf hc => ?_
      refine stP hf rfl rfl rfl (pLt rfl rfl) fun a hf => ?_
      refine stP hf rfl rfl rfl (pM rfl) fun a hf => ?_
      obtain ⟨t_1, ht_1, hF⟩ := bnd_some hF
      refine stCut 8 (fun a w => Has 274 a [(1, .int .u8 a_), (7, .pointer (some ⟨b_2, 0, none⟩)), (8, .slice (some ⟨g_3, 0, none⟩) r_1.2.1.length c_4), (9, .int .i64 (min ((W (a_)).tmod ((r_1.2.1.length : Nat) : Int)) ((W (b_)).tmod ((r_1.2.1.length : Nat) : Int)))), (10, .int .i64 (max ((W (a_)).tmod ((r_1.2.1.length : Nat) : Int)) ((W (b_)).tmod ((r_1.2.1.length : Nat) : Int)))), (11, .slice (some ⟨g_4, 0, none⟩) r_2.1.length c_5), (18, .pointer (some ⟨b_3, 0, none⟩)), (107, .slice (some ⟨g_3, 0, none⟩) r_1.2.1.length c_4), (108, .int .i64 ((r_1.2.1.length : Nat) : Int)), (109, .int .i64 x), (20, .int .i64 x), (21, .int .i64 e_7), (114, .int .i64 e_7), (115, .slice (some ⟨g_4, 0, none⟩) r_2.1.length c_5), (116, .int .i64 x), (117, .pointer (some ⟨g_4, x.toNat * 2, none⟩)), (118, .pointer (some ⟨g_4, x.toNat * 2 + 0, none⟩)), (119, .int .i64 e_8.Lo), (120, .bool (decide (e_7 < e_8.Lo))), (121, .bool (decide (e_7 < e_8.Lo))), (129, .bool t_1)] ∧ Ctx G (.box b_3 [.int .i64 r_5.1.Lo, .int .i64 r_5.1.Hi] 30 :: .row p_1 c_1 (r_1.1.Days.map enc_daily_Value) 56 3 :: .row (some ⟨g_4, 0, none⟩) c_5 (r_2.1.map enc_api_Span) 30 2 :: .box b_2 [.int .i64 r_1.1.Rise, .int .i64 r_1.1.Fall, .slice p_1 r_1.1.Days.length c_1] 24 :: .row (some ⟨g_3, 0, none⟩) c_4 (r_1.2.1.map encI_i64) 3 1 :: Lf) w) ?_ ?_
      · cases hb : (decide (e_7 < e_8.Lo))
        · rw [hb] at hf
          have hF := condF hb ht_1
          refine stP hf rfl rfl rfl (pM rfl) fun a hf => ?_
          refine stP hf rfl rfl rfl (pM rfl) fun a hf => ?_
          refine stP hf rfl rfl rfl (pM rfl) fun a hf => ?_
          obtain ⟨e_9, he_9, hF⟩ := bnd_some hF
          obtain ⟨qa_8, qr_8⟩ := row_atk hc m2 he_9
          refine stP hf rfl rfl rfl (pIA Try.underlying25 sz_30 rfl rfl qa_8) fun a hf => ?_
          refine stP hf rfl rfl rfl (pFA fa_30_1 rfl) fun a hf => ?_
          refine stE hf hc rfl rfl rfl (eLd1 sc_3 rfl (cell_row (sz := 2) (i := x.toNat) (j := 1) m2 qr_8 rfl)) fun a w hf hc => ?_
          refine stP hf rfl rfl rfl (pGt rfl rfl) fun a hf => ?_
          refine stP hf rfl rfl rfl (pPf rfl rfl) fun a hf => ?_
          obtain rfl := Option.some.inj hF
          exact cNil ⟨hf.keep ⟨rfl, rfl, rfl, rfl, rfl, rfl, rfl, rfl, rfl, rfl, rfl, rfl, rfl, rfl, rfl, rfl, rfl, rfl, rfl, rfl, rfl, trivial⟩, hc⟩
        · rw [hb] at hf
          have hF := condT hb ht_1
          obtain rfl := Option.some.inj hF
          refine stS hf rfl rfl rfl fun a hf => ?_
          refine stS hf rfl rfl rfl fun a hf => ?_
          refine stS hf rfl rfl rfl fun a hf => ?_
          refine stS hf rfl rfl rfl fun a hf => ?_
          refine stS hf rfl rfl rfl fun a hf => ?_
          refine stS hf rfl rfl rfl fun a hf => ?_
          refine stS hf rfl rfl rfl fun a hf => ?_
          refine stP hf rfl rfl rfl (pPt rfl rfl) fun a hf => ?_
          exact cNil ⟨hf.keep ⟨rfl, rfl, rfl, rfl, rfl, rfl, rfl, rfl, rfl, rfl, rfl, rfl, rfl, rfl, rfl, rfl, rfl, rfl, rfl, rfl, rfl, trivial⟩, hc⟩
      intro a w ⟨hf, hc⟩
      refine cNil ?_
      refine h48 _ _ ?_
      refine cCond (b := t_1) hf rfl (fun hb => ?_) (fun hb => ?_)
      · replace hF := condT hb hF
        clear hb
        refine wp_seq_k fun K49 h49 => ?_
        refine cReg ?_
        refine stP hf rfl rfl rfl (pA rfl) fun a hf => ?_
        refine cNil ?_
        refine h49 _ _ ?_
        refine wp_ret ?_
        refine xBlkR ?_
        refine xThenR ?_
        refine xThenR ?_
        have he := Option.some.inj hF
        rw [← he] at hfin14
        replace hF := ho14 _ hfin14
        refine xBlkR ?_
        refine xThenR ?_
        obtain rfl := hF
        replace hc := hc.drop k4
        replace hc := hc.drop k3
        replace hc := hc.drop k2
        replace hc := hc.drop k1
        replace hc := hc.drop k0
        exact fnOut1 (by simp) rfl Try.results7 hf hc (show look _ 6 = _ from rfl) ⟨rfl, hc⟩
      · replace hF := condF hb hF
        clear hb
        refine wp_skip ?_
        refine h46 _ _ ?_
        refine cReg ?_
        refine stP hf rfl rfl rfl (pAdd rfl rfl) fun a hf => ?_
        refine stP hf rfl rfl rfl (pM rfl) fun a hf => ?_
        refine cNil ?_
        exact hK14 (W (x + 1)) _ _ (Option.some.inj hF).symm ⟨(some ⟨g_3, 0, none⟩), c_4, (some ⟨g_4, 0, none⟩), c_5, hf.keep ⟨rfl, rfl, rfl, rfl, rfl, rfl, rfl, rfl, rfl, rfl, trivial⟩, hc⟩
    · replace hF := condF hb hF
      clear hb
      refine wp_exit ?_
      refine xThen ?_
      refine xThen ?_
      have he := Option.some.inj hF
      rw [← he] at hfin14
      refine cHit ?_
      exact hr14 _ _ _ hfin14 ⟨p_4, c_4, p_5, c_5, hf.keep ⟨rfl, rfl, rfl, rfl, rfl, rfl, rfl, rfl, rfl, rfl, trivial⟩, hc⟩

end Go.Nilo
