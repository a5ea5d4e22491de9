/-
  What functions of the Go text compute, as plain functions, and that they do, part 4 of 4. Conditions: what each theorem names.
-/
import Derived.Test.YtbgjmnbgilddgaaMi3
import Derived.Test.YtbgjmnbgilddgaaProg
set_option linter.unusedVariables false
set_option maxRecDepth 100000
set_option maxHeartbeats 4000000
namespace Go.Nilo
open Go.Proofs


def law03_GaugeMirrored_b22 (N : Nat) (r_3 : gauge_Gauging × Int × Int) (r_12 : (List Int) × (List Int) × Int) (can : List Int) (able : List Int) (x_4 : Int) : Option (Step ((List Int) × (List Int) × Int) (Bool)) :=
  cond (decide (x_4 < ((r_12.1.length : Nat) : Int)))
  (Option.bind (getI able (W ((W (((able.length : Nat) : Int) - 1)) - x_4))) fun e_1 =>
  Option.bind (getI can x_4) fun e_2 =>
  cond (e_1 != (W ((W (((r_3.1.Verticals.length : Nat) : Int) - 1)) - e_2)))
  (some (.ret false))
  (some (.cont (can, able, W (x_4 + 1)))))
  (some (.brk (can, able, x_4)))
def law03_GaugeMirrored_b12 (N : Nat) (r_5 : gauge_Site × Int × Int) (r_9 : (List gauge_Point)) (x_2 : Int) (x_3 : List gauge_Point) : Option (Step (Int × (List gauge_Point)) (Bool)) :=
  cond (decide (x_2 < ((r_9.length : Nat) : Int)))
  (Option.bind (getI x_3 x_2) fun e_3 =>
  Option.bind (getI x_3 x_2) fun e_4 =>
  some (.cont (W (x_2 + 1), (x_3.set x_2.toNat (⟨W ((W (r_5.1.Left + r_5.1.Right)) - e_3.At), e_4.Depth, e_4.Cost⟩ : gauge_Point)))))
  (some (.brk (x_2, x_3)))
def law03_GaugeMirrored_b9 (N : Nat) (r_3 : gauge_Gauging × Int × Int) (r_8 : (List gauge_Vertical)) (x : Int) (x_1 : List gauge_Vertical) : Option (Step (Int × (List gauge_Vertical)) (Bool)) :=
  cond (decide (x < ((r_8.length : Nat) : Int)))
  (Option.bind (getI x_1 x) fun e_5 =>
  Option.bind (getI x_1 x) fun e_6 =>
  some (.cont (W (x + 1), (x_1.set x.toNat (⟨W ((W (r_3.1.Left + r_3.1.Right)) - e_5.At), e_6.Depth, e_6.Speed⟩ : gauge_Vertical)))))
  (some (.brk (x, x_1)))
def law03_GaugeMirrored (N : Nat) (numbers : List Int) (errors : List Int) (points : List Int) (permille : Int) : Option (Bool) :=
  Option.bind (kit_New N errors) fun r =>
  Option.bind (kit_New N numbers) fun r_1 =>
  Option.bind (law03_Section N (⟨numbers, r_1.1, r_1.2⟩ : kit_Stream) 10) fun r_2 =>
  Option.bind (law03_Gauged N (⟨errors, r.1, r.2⟩ : kit_Stream) r_2.1) fun r_3 =>
  Option.bind (kit_New N points) fun r_4 =>
  Option.bind (law03_Sited N (⟨points, r_4.1, r_4.2⟩ : kit_Stream) 12) fun r_5 =>
  Option.bind (law03_CopyGauging N r_3.1) fun r_6 =>
  Option.bind (law03_CopySite N r_5.1) fun r_7 =>
  Option.bind (slices_Reverse_Lgauge_Vertical_gauge_Vertical N r_6.Verticals) fun r_8 =>
  Option.bind (slices_Reverse_Lgauge_Point_gauge_Point N r_7.Points) fun r_9 =>
  Option.bind (loopO (fun s9 => law03_GaugeMirrored_b9 N r_3 r_8 s9.1 s9.2) N (0, r_8)) fun x9 =>
  exK x9 (fun s9 => Option.bind (loopO (fun s12 => law03_GaugeMirrored_b12 N r_5 r_9 s12.1 s12.2) N (0, r_9)) fun x12 =>
  exK x12 (fun s12 => Option.bind (gauge_Flow N r_3.1) fun r_10 =>
  Option.bind (gauge_Flow N (⟨r_6.Left, r_6.Right, s9.2⟩ : gauge_Gauging)) fun r_11 =>
  Option.bind (gauge_Heavy N r_3.1 ((W (permille)).tmod 1001)) fun r_12 =>
  Option.bind (gauge_Heavy N (⟨r_6.Left, r_6.Right, s9.2⟩ : gauge_Gauging) ((W (permille)).tmod 1001)) fun r_13 =>
  cond (((((((r_10.2 != 0) || (r_11.2 != 0)) || (r_12.2.2 != 0)) || (r_13.2.2 != 0)) || (!(r_10.1.Lo == r_11.1.Lo && r_10.1.Hi == r_11.1.Hi))) || (((r_12.1.length : Nat) : Int) != ((r_13.1.length : Nat) : Int))) || (((r_12.2.1.length : Nat) : Int) != ((r_13.2.1.length : Nat) : Int)))
  (some false)
  (Option.bind (loopO (fun s22 => law03_GaugeMirrored_b22 N r_3 r_12 s22.1 s22.2.1 s22.2.2) N (r_12.1, r_13.1, 0)) fun x22 =>
  exK x22 (fun s22 => Option.bind (gauge_Plan N r_5.1) fun r_14 =>
  Option.bind (gauge_Plan N (⟨r_7.Left, r_7.Right, r_7.Gap, r_7.Step_, s12.2⟩ : gauge_Site)) fun r_15 =>
  Option.bind (cond (((r_14.2.2 == r_15.2.2) && (r_14.2.1 == r_15.2.1)) && (((r_14.1.length : Nat) : Int) == ((r_15.1.length : Nat) : Int))) (Option.bind (law03_awake N) fun r_16 =>
  some r_16) (some false)) fun t_1 =>
  some t_1) some)) some) some
theorem law03_GaugeMirrored_ok {N : Nat} {G : Pers} {Lf : List Ent} {w : World} (numbers : List Int) (errors : List Int) (points : List Int) (permille : Int) {numbers_p : Option Addr} {numbers_c : Nat} {errors_p : Option Addr} {errors_c : Nat} {points_p : Option Addr} {points_c : Nat} (h_numbers : Rd G 1 numbers_p numbers_c (numbers.map encI_u8)) (h_errors : Rd G 1 errors_p errors_c (errors.map encI_u8)) (h_points : Rd G 1 points_p points_c (points.map encI_u8)) (hc : Ctx G (Lf) w) {res : Bool} (hF : law03_GaugeMirrored N numbers errors points permille = some res) : Calls Try.prog 5 #[.slice numbers_p numbers.length numbers_c, .slice errors_p errors.length errors_c, .slice points_p points.length points_c, .int .u16 permille] w (fun e w => e = .returned (.bool res) ∧ Ctx G (Lf) w) := by
  unfold law03_GaugeMirrored at hF
  refine fnIn (args := [.slice numbers_p numbers.length numbers_c, .slice errors_p errors.length errors_c, .slice points_p points.length points_c, .int .u16 permille]) Try.func5 rfl Try.ntmps5 rfl fun a hf => ?_
  refine wp_seq_k fun K1 h1 => ?_
  refine cReg ?_
  refine stP hf rfl rfl rfl (pA rfl) fun a hf => ?_
  refine cNil ?_
  refine h1 _ _ ?_
  refine wp_seq_k fun K2 h2 => ?_
  refine cReg ?_
  refine stP hf rfl rfl rfl (pM rfl) fun a hf => ?_
  obtain ⟨r, hr, hF⟩ := bnd_some hF
  refine stC (vs := [.slice errors_p errors.length errors_c]) (caps := []) hf rfl rfl rfl en_11 rfl rfl rfl rfl (kit_New_ok errors h_errors hc hr) ?_
  rintro _ w ⟨b_1, rfl, hc⟩
  refine ⟨_, rfl, fun a hf => ?_⟩
  refine stP hf rfl rfl rfl (pM rfl) fun a hf => ?_
  obtain ⟨r_1, hr_1, hF⟩ := bnd_some hF
  refine stC (vs := [.slice numbers_p numbers.length numbers_c]) (caps := []) hf rfl rfl rfl en_11 rfl rfl rfl rfl (kit_New_ok numbers h_numbers hc hr_1) ?_
  rintro _ w ⟨b_2, rfl, hc⟩
  refine ⟨_, rfl, fun a hf => ?_⟩
  obtain ⟨r_2, hr_2, hF⟩ := bnd_some hF
  refine stC (vs := [.pointer (some ⟨b_2, 0, none⟩), .int .i64 10]) (caps := []) hf rfl rfl rfl en_21 rfl rfl rfl rfl (law03_Section_ok (⟨numbers, r_1.1, r_1.2⟩ : kit_Stream) 10 h_numbers (hc.pick k0) hr_2) ?_
  rintro _ w ⟨p_1, c_1, p_2, c_2, p_3, c_3, rfl, hc⟩
  refine ⟨_, rfl, fun a hf => ?_⟩
  obtain ⟨r_3, hr_3, hF⟩ := bnd_some hF
  obtain ⟨G1, hle1, hrd1, hc, hth1⟩ := lend hc k0
  obtain ⟨G2, hle2, hrd2, hc, hth2⟩ := lend hc k0
  obtain ⟨G3, hle3, hrd3, hc, hth3⟩ := lend hc k0
  refine stC (vs := [.pointer (some ⟨b_1, 0, none⟩), .agg #[.int .i64 r_2.1.Left, .int .i64 r_2.1.Right, .slice p_1 r_2.1.At.length c_1, .slice p_2 r_2.1.Depth.length c_2, .slice p_3 r_2.1.Speeds.length c_3]]) (caps := []) hf rfl rfl rfl en_20 rfl rfl rfl rfl (law03_Gauged_ok (⟨errors, r.1, r.2⟩ : kit_Stream) r_2.1 (((h_errors.mono hle1).mono hle2).mono hle3) ((hrd1.mono hle2).mono hle3) (hrd2.mono hle3) hrd3 (hc.pick k1) hr_3) ?_
  rintro _ w ⟨p_4, c_4, rfl, hc⟩
  refine ⟨_, rfl, fun a hf => ?_⟩
  replace hc := hth3 _ _ hc
  replace hc := hth2 _ _ hc
  replace hc := hth1 _ _ hc
  refine stAl (cs := [.int .i64 0, .int .i64 0, .slice none 0 0]) hf hc rfl rfl zr_48 rfl fun b_3 a w hf hc => ?_
  refine stSt (vs := [.int .i64 r_3.1.Left, .int .i64 r_3.1.Right, .slice p_4 r_3.1.Verticals.length c_4]) hf hc rfl rfl rfl rfl sz_48 rfl rfl u0 fun w hc => ?_
  refine cNil ?_
  refine h2 _ _ ?_
  refine wp_seq_k fun K3 h3 => ?_
  refine cReg ?_
  refine stP hf rfl rfl rfl (pM rfl) fun a hf => ?_
  obtain ⟨r_4, hr_4, hF⟩ := bnd_some hF
  refine stC (vs := [.slice points_p points.length points_c]) (caps := []) hf rfl rfl rfl en_11 rfl rfl rfl rfl (kit_New_ok points h_points hc hr_4) ?_
  rintro _ w ⟨b_4, rfl, hc⟩
  refine ⟨_, rfl, fun a hf => ?_⟩
  obtain ⟨r_5, hr_5, hF⟩ := bnd_some hF
  refine stC (vs := [.pointer (some ⟨b_4, 0, none⟩), .int .i64 12]) (caps := []) hf rfl rfl rfl en_22 rfl rfl rfl rfl (law03_Sited_ok (⟨points, r_4.1, r_4.2⟩ : kit_Stream) 12 h_points (hc.pick k0) hr_5) ?_
  rintro _ w ⟨p_5, c_5, rfl, hc⟩
  refine ⟨_, rfl, fun a hf => ?_⟩
  refine stAl (cs := [.int .i64 0, .int .i64 0, .int .i64 0, .int .i64 0, .slice none 0 0]) hf hc rfl rfl zr_55 rfl fun b_5 a w hf hc => ?_
  refine stSt (vs := [.int .i64 r_5.1.Left, .int .i64 r_5.1.Right, .int .i64 r_5.1.Gap, .int .i64 r_5.1.Step_, .slice p_5 r_5.1.Points.length c_5]) hf hc rfl rfl rfl rfl sz_55 rfl rfl u0 fun w hc => ?_
  refine cNil ?_
  refine h3 _ _ ?_
  refine wp_seq_k fun K4 h4 => ?_
  obtain ⟨r_6, hr_6, hF⟩ := bnd_some hF
  obtain ⟨r_7, hr_7, hF⟩ := bnd_some hF
  replace hc := hc.nilRow 0 0
  replace hc := hc.nilRow 0 0
  replace hc := hc.nilRow 0 0
  replace hc := hc.nilRow 0 0
  refine regionE (fun θ => [⟨none, none, 3, .int .u16 permille⟩, ⟨none, none, 9, .pointer (some ⟨b_3, 0, none⟩)⟩, ⟨none, none, 10, .pointer (some ⟨b_5, 0, none⟩)⟩, ⟨some 0, none, 39, .agg #[.int .i64 r_3.1.Left, .int .i64 r_3.1.Right, .slice p_4 r_3.1.Verticals.length c_4]⟩, ⟨some 1, none, 40, .agg #[.int .i64 r_6.Left, .int .i64 r_6.Right, .slice ((θ 8).p) r_6.Verticals.length ((θ 8).c)]⟩, ⟨some 2, none, 41, .agg #[.int .i64 r_5.1.Left, .int .i64 r_5.1.Right, .int .i64 r_5.1.Gap, .int .i64 r_5.1.Step_, .slice p_5 r_5.1.Points.length c_5]⟩, ⟨some 3, none, 42, .agg #[.int .i64 r_7.Left, .int .i64 r_7.Right, .int .i64 r_7.Gap, .int .i64 r_7.Step_, .slice ((θ 24).p) r_7.Points.length ((θ 24).c)]⟩, ⟨some 4, none, 11, .pointer (some ⟨(θ 32).b, 0, none⟩)⟩, ⟨some 5, none, 12, .pointer (some ⟨(θ 40).b, 0, none⟩)⟩]) (fun E θ => (bif E 7 then .box (θ 40).b [.int .i64 r_7.Left, .int .i64 r_7.Right, .int .i64 r_7.Gap, .int .i64 r_7.Step_, .slice ((θ 24).p) r_7.Points.length ((θ 24).c)] 55 else bif E 5 then .box (θ 40).b [.int .i64 0, .int .i64 0, .int .i64 0, .int .i64 0, .slice none 0 0] 55 else .row none 0 [] 0 0) :: (bif E 6 then .box (θ 32).b [.int .i64 r_6.Left, .int .i64 r_6.Right, .slice ((θ 8).p) r_6.Verticals.length ((θ 8).c)] 48 else bif E 4 then .box (θ 32).b [.int .i64 0, .int .i64 0, .slice none 0 0] 48 else .row none 0 [] 0 0) :: (bif E 3 then .row ((θ 24).p) ((θ 24).c) (r_7.Points.map enc_gauge_Point) 64 3 else .row none 0 [] 0 0) :: (bif E 1 then .row ((θ 8).p) ((θ 8).c) (r_6.Verticals.map enc_gauge_Vertical) 61 5 else .row none 0 [] 0 0) :: .box b_5 [.int .i64 r_5.1.Left, .int .i64 r_5.1.Right, .int .i64 r_5.1.Gap, .int .i64 r_5.1.Step_, .slice p_5 r_5.1.Points.length c_5] 55 :: .row p_5 c_5 (r_5.1.Points.map enc_gauge_Point) 64 3 :: .box b_4 [.slice points_p points.length points_c, .int .i64 r_5.2.1, .int .i64 r_5.2.2] 104 :: .box b_3 [.int .i64 r_3.1.Left, .int .i64 r_3.1.Right, .slice p_4 r_3.1.Verticals.length c_4] 48 :: .row p_1 c_1 (r_2.1.At.map encI_i64) 3 1 :: .row p_2 c_2 (r_2.1.Depth.map encI_i64) 3 1 :: .row p_3 c_3 (r_2.1.Speeds.map encI_i64) 3 1 :: .row p_4 c_4 (r_3.1.Verticals.map enc_gauge_Vertical) 61 5 :: .box b_1 [.slice errors_p errors.length errors_c, .int .i64 r_3.2.1, .int .i64 r_3.2.2] 104 :: .box b_2 [.slice numbers_p numbers.length numbers_c, .int .i64 r_2.2.1, .int .i64 r_2.2.2] 104 :: Lf) [(6, 1), (7, 3), (6, 4), (7, 5)] (fun a w => ∃ (b_8 : Nat) (b_9 : Nat) (p_8 : Option Addr) (c_8 : Nat) (p_9 : Option Addr) (c_9 : Nat), Has 212 a [(3, .int .u16 permille), (9, .pointer (some ⟨b_3, 0, none⟩)), (10, .pointer (some ⟨b_5, 0, none⟩)), (11, .pointer (some ⟨b_8, 0, none⟩)), (12, .pointer (some ⟨b_9, 0, none⟩))] ∧ Ctx G (.box b_9 [.int .i64 r_7.Left, .int .i64 r_7.Right, .int .i64 r_7.Gap, .int .i64 r_7.Step_, .slice p_8 r_7.Points.length c_8] 55 :: .box b_8 [.int .i64 r_6.Left, .int .i64 r_6.Right, .slice p_9 r_6.Verticals.length c_9] 48 :: .row p_8 c_8 (r_7.Points.map enc_gauge_Point) 64 3 :: .row p_9 c_9 (r_6.Verticals.map enc_gauge_Vertical) 61 5 :: .box b_5 [.int .i64 r_5.1.Left, .int .i64 r_5.1.Right, .int .i64 r_5.1.Gap, .int .i64 r_5.1.Step_, .slice p_5 r_5.1.Points.length c_5] 55 :: .row p_5 c_5 (r_5.1.Points.map enc_gauge_Point) 64 3 :: .box b_4 [.slice points_p points.length points_c, .int .i64 r_5.2.1, .int .i64 r_5.2.2] 104 :: .box b_3 [.int .i64 r_3.1.Left, .int .i64 r_3.1.Right, .slice p_4 r_3.1.Verticals.length c_4] 48 :: .row p_1 c_1 (r_2.1.At.map encI_i64) 3 1 :: .row p_2 c_2 (r_2.1.Depth.map encI_i64) 3 1 :: .row p_3 c_3 (r_2.1.Speeds.map encI_i64) 3 1 :: .row p_4 c_4 (r_3.1.Verticals.map enc_gauge_Vertical) 61 5 :: .box b_1 [.slice errors_p errors.length errors_c, .int .i64 r_3.2.1, .int .i64 r_3.2.2] 104 :: .box b_2 [.slice numbers_p numbers.length numbers_c, .int .i64 r_2.2.1, .int .i64 r_2.2.2] 104 :: Lf) w) follows_mx (by kernel_rfl) (by kernel_rfl) (HasE.of hf ⟨rfl, rfl, rfl, trivial, trivial, trivial, trivial, trivial, trivial, trivial⟩) hc ⟨?_, ?_, ?_, ?_, ?_, ?_, ?_, ?_, trivial⟩ ?_ ?_
  · intro E θ a w hD hi hp he hc
    have hf := he.h0
    replace hf := hf.more he 1 rfl onT
    refine stE hf hc rfl rfl rfl (eLdN (vs := [.int .i64 r_3.1.Left, .int .i64 r_3.1.Right, .slice p_4 r_3.1.Verticals.length c_4]) ag_48 rfl rfl (cells_box (n := 3) m7 rfl)) fun a w hf hc => ?_
    refine cNil ?_
    refine xThenN ?_
    intro ds u hau
    refine ⟨θ, he.put0 hi hau hf rfl 3 rfl rfl, ?_⟩
    exact hc
  · intro E θ a w hD hi hp he hc
    have e0 := hp.of (k := 0) rfl
    have e6 := hD.f 0 rfl hi
    try dsimp only at hc
    rw [hi, e6] at hc
    have hf := he.h0
    replace hf := hf.more he 3 rfl (onP e0)
    obtain ⟨G1, hle1, hrd1, hc, hth1⟩ := lend hc k11
    refine stC (vs := [.agg #[.int .i64 r_3.1.Left, .int .i64 r_3.1.Right, .slice p_4 r_3.1.Verticals.length c_4]]) (caps := []) hf rfl rfl rfl en_23 rfl rfl rfl rfl (law03_CopyGauging_ok r_3.1 hrd1 hc hr_6) ?_
    rintro _ w ⟨p_6, c_6, rfl, hc⟩
    refine ⟨_, rfl, fun a hf => ?_⟩
    replace hc := hth1 _ _ hc
    refine cNil ?_
    refine xThenN ?_
    intro ds u hau
    replace hc := hc.drop k5
    replace hc := hc.pick k0
    replace hc := hc.pick k11
    replace hc := hc.pick k11
    replace hc := hc.pick k11
    replace hc := hc.pick k11
    replace hc := hc.pick k11
    replace hc := hc.pick k11
    replace hc := hc.pick k11
    replace hc := hc.pick k8
    replace hc := hc.pick k11
    replace hc := hc.pick k11
    replace hc := hc.pick k11
    refine ⟨(setT θ 8 ⟨0, p_6, c_6⟩), he.put hi hau hf rfl [] trivial ⟨qq, qq, qq, qq, qq, qq, qq, qq, qq, trivial⟩, ?_⟩
    try dsimp only
    rw [updE_self E 1, updE_fls 1 e6 rfl]
    exact hc
  · intro E θ a w hD hi hp he hc
    have hf := he.h0
    replace hf := hf.more he 2 rfl onT
    refine stE hf hc rfl rfl rfl (eLdN (vs := [.int .i64 r_5.1.Left, .int .i64 r_5.1.Right, .int .i64 r_5.1.Gap, .int .i64 r_5.1.Step_, .slice p_5 r_5.1.Points.length c_5]) ag_55 rfl rfl (cells_box (n := 5) m4 rfl)) fun a w hf hc => ?_
    refine cNil ?_
    refine xThenN ?_
    intro ds u hau
    refine ⟨θ, he.put0 hi hau hf rfl 5 rfl rfl, ?_⟩
    exact hc
  · intro E θ a w hD hi hp he hc
    have e2 := hp.of (k := 2) rfl
    have e7 := hD.f 1 rfl hi
    try dsimp only at hc
    rw [hi, e7] at hc
    have hf := he.h0
    replace hf := hf.more he 5 rfl (onP e2)
    obtain ⟨G1, hle1, hrd1, hc, hth1⟩ := lend hc k5
    refine stC (vs := [.agg #[.int .i64 r_5.1.Left, .int .i64 r_5.1.Right, .int .i64 r_5.1.Gap, .int .i64 r_5.1.Step_, .slice p_5 r_5.1.Points.length c_5]]) (caps := []) hf rfl rfl rfl en_24 rfl rfl rfl rfl (law03_CopySite_ok r_5.1 hrd1 hc hr_7) ?_
    rintro _ w ⟨p_7, c_7, rfl, hc⟩
    refine ⟨_, rfl, fun a hf => ?_⟩
    replace hc := hth1 _ _ hc
    refine cNil ?_
    refine xThenN ?_
    intro ds u hau
    replace hc := hc.drop k4
    replace hc := hc.pick k0
    replace hc := hc.pick k5
    replace hc := hc.pick k5
    replace hc := hc.pick k3
    replace hc := hc.pick k5
    replace hc := hc.pick k5
    refine ⟨(setT θ 24 ⟨0, p_7, c_7⟩), he.put hi hau hf rfl [] trivial ⟨qq, qq, qq, qq, qq, qq, qq, qq, qq, trivial⟩, ?_⟩
    try dsimp only
    rw [updE_self E 3, updE_fls 3 e7 rfl]
    exact hc
  · intro E θ a w hD hi hp he hc
    have e6 := hD.f 2 rfl hi
    try dsimp only at hc
    rw [hi, e6] at hc
    have hf := he.h0
    refine stAl (cs := [.int .i64 0, .int .i64 0, .slice none 0 0]) hf hc rfl rfl zr_48 rfl fun b_6 a w hf hc => ?_
    refine cNil ?_
    refine xThenN ?_
    intro ds u hau
    replace hc := hc.drop k2
    replace hc := hc.pick k0
    replace hc := hc.pick k1
    refine ⟨(setT θ 32 ⟨b_6, none, 0⟩), he.put hi hau hf rfl [] trivial ⟨qq, qq, qq, qq, qq, qq, qq, qq, qq, trivial⟩, ?_⟩
    try dsimp only
    rw [updE_self E 4, updE_fls 4 e6 rfl]
    exact hc
  · intro E θ a w hD hi hp he hc
    have e7 := hD.f 3 rfl hi
    try dsimp only at hc
    rw [hi, e7] at hc
    have hf := he.h0
    refine stAl (cs := [.int .i64 0, .int .i64 0, .int .i64 0, .int .i64 0, .slice none 0 0]) hf hc rfl rfl zr_55 rfl fun b_7 a w hf hc => ?_
    refine cNil ?_
    refine xThenN ?_
    intro ds u hau
    replace hc := hc.drop k1
    refine ⟨(setT θ 40 ⟨b_7, none, 0⟩), he.put hi hau hf rfl [] trivial ⟨qq, qq, qq, qq, qq, qq, qq, qq, qq, trivial⟩, ?_⟩
    try dsimp only
    rw [updE_self E 5, updE_fls 5 e7 rfl]
    exact hc
  · intro E θ a w hD hi hp he hc
    have e1 := hp.of (k := 1) rfl
    have e4 := hp.of (k := 4) rfl
    try dsimp only at hc
    rw [e4, hi] at hc
    have hf := he.h0
    replace hf := hf.more he 4 rfl (onP e1)
    replace hf := hf.more he 7 rfl (onP e4)
    refine stSt (vs := [.int .i64 r_6.Left, .int .i64 r_6.Right, .slice ((θ 8).p) r_6.Verticals.length ((θ 8).c)]) hf hc rfl rfl rfl rfl sz_48 rfl rfl u1 fun w hc => ?_
    refine cNil ?_
    refine xThenN ?_
    intro ds u hau
    refine ⟨θ, he.stay0 hi hau hf rfl, ?_⟩
    try dsimp only
    rw [updE_tru 6 e4, updE_self E 6]
    exact hc
  · intro E θ a w hD hi hp he hc
    have e3 := hp.of (k := 3) rfl
    have e5 := hp.of (k := 5) rfl
    try dsimp only at hc
    rw [e5, hi] at hc
    have hf := he.h0
    replace hf := hf.more he 6 rfl (onP e3)
    replace hf := hf.more he 8 rfl (onP e5)
    refine stSt (vs := [.int .i64 r_7.Left, .int .i64 r_7.Right, .int .i64 r_7.Gap, .int .i64 r_7.Step_, .slice ((θ 24).p) r_7.Points.length ((θ 24).c)]) hf hc rfl rfl rfl rfl sz_55 rfl rfl u0 fun w hc => ?_
    refine cNil ?_
    refine xThenN ?_
    intro ds u hau
    refine ⟨θ, he.stay0 hi hau hf rfl, ?_⟩
    try dsimp only
    rw [updE_tru 7 e5, updE_self E 7]
    exact hc
  · intro E θ a w hall he hc
    have hf := he.h0
    have e1 := hall 1 rfl
    have e3 := hall 3 rfl
    have e4 := hall 4 rfl
    have e5 := hall 5 rfl
    have e6 := hall 6 rfl
    have e7 := hall 7 rfl
    replace hf := hf.more he 8 rfl (onP e5)
    replace hf := hf.more he 7 rfl (onP e4)
    replace hf := hf.more he 2 rfl (onT)
    replace hf := hf.more he 1 rfl (onT)
    replace hf := hf.more he 0 rfl (onT)
    try dsimp only at hc
    rw [e1, e3, e4, e5, e6, e7] at hc
    exact ⟨(θ 32).b, (θ 40).b, (θ 24).p, (θ 24).c, (θ 8).p, (θ 8).c, hf.keep ⟨rfl, rfl, rfl, rfl, rfl, trivial⟩, hc⟩
  rintro a w ⟨b_8, b_9, p_8, c_8, p_9, c_9, hf, hc⟩
  refine h4 _ _ ?_
  refine wp_seq_k fun K5 h5 => ?_
  refine cReg ?_
  refine stP hf rfl rfl rfl (pFA fa_48_2 rfl) fun a hf => ?_
  refine stE hf hc rfl rfl rfl (eLd1 sc_46 rfl (cell_box m1 rfl)) fun a w hf hc => ?_
  obtain ⟨r_8, hr_8, hF⟩ := bnd_some hF
  refine stC (vs := [.slice p_9 r_6.Verticals.length c_9]) (caps := []) hf rfl rfl rfl en_25 rfl rfl rfl rfl (slices_Reverse_Lgauge_Vertical_gauge_Vertical_ok r_6.Verticals (hc.pick k3) hr_8) ?_
  rintro _ w ⟨rfl, hl, hc⟩
  refine ⟨_, rfl, fun a hf => ?_⟩
  try rw [← hl] at hf
  try rw [← hl] at hc
  refine cNil ?_
  refine h5 _ _ ?_
  refine wp_seq_k fun K6 h6 => ?_
  refine cReg ?_
  refine stP hf rfl rfl rfl (pFA fa_55_4 rfl) fun a hf => ?_
  refine stE hf hc rfl rfl rfl (eLd1 sc_53 rfl (cell_box m1 rfl)) fun a w hf hc => ?_
  obtain ⟨r_9, hr_9, hF⟩ := bnd_some hF
  refine stC (vs := [.slice p_8 r_7.Points.length c_8]) (caps := []) hf rfl rfl rfl en_26 rfl rfl rfl rfl (slices_Reverse_Lgauge_Point_gauge_Point_ok r_7.Points (hc.pick k3) hr_9) ?_
  rintro _ w ⟨rfl, hl_1, hc⟩
  refine ⟨_, rfl, fun a hf => ?_⟩
  try rw [← hl_1] at hf
  try rw [← hl_1] at hc
  refine cNil ?_
  refine h6 _ _ ?_
  refine wp_seq_k fun K7 h7 => ?_
  refine wp_seq_k fun K8 h8 => ?_
  refine cReg ?_
  refine stP hf rfl rfl rfl (pFA fa_48_2 rfl) fun a hf => ?_
  refine stE hf hc rfl rfl rfl (eLd1 sc_46 rfl (cell_box m3 rfl)) fun a w hf hc => ?_
  refine stP hf rfl rfl rfl (pLenS Try.underlying46 rfl) fun a hf => ?_
  refine stP hf rfl rfl rfl (pM rfl) fun a hf => ?_
  refine cNil ?_
  refine h8 _ _ ?_
  refine wp_block ?_
  obtain ⟨x9, hx9, hF⟩ := bnd_some hF
  let S9 : (Int × (List gauge_Vertical)) → Act → World → Prop := (fun (zz : Int × (List gauge_Vertical)) a w => ∃ (p_10 : Option Addr) (c_10 : Nat), Has 212 a [(3, .int .u16 permille), (9, .pointer (some ⟨b_3, 0, none⟩)), (10, .pointer (some ⟨b_5, 0, none⟩)), (11, .pointer (some ⟨b_8, 0, none⟩)), (12, .pointer (some ⟨b_9, 0, none⟩)), (51, .int .i64 ((r_8.length : Nat) : Int)), (52, .int .i64 zz.1)] ∧ Ctx G (.row p_8 c_8 (r_9.map enc_gauge_Point) 64 3 :: .row p_10 c_10 (zz.2.map enc_gauge_Vertical) 61 5 :: .box b_9 [.int .i64 r_7.Left, .int .i64 r_7.Right, .int .i64 r_7.Gap, .int .i64 r_7.Step_, .slice p_8 r_9.length c_8] 55 :: .box b_8 [.int .i64 r_6.Left, .int .i64 r_6.Right, .slice p_10 zz.2.length c_10] 48 :: .box b_5 [.int .i64 r_5.1.Left, .int .i64 r_5.1.Right, .int .i64 r_5.1.Gap, .int .i64 r_5.1.Step_, .slice p_5 r_5.1.Points.length c_5] 55 :: .row p_5 c_5 (r_5.1.Points.map enc_gauge_Point) 64 3 :: .box b_3 [.int .i64 r_3.1.Left, .int .i64 r_3.1.Right, .slice p_4 r_3.1.Verticals.length c_4] 48 :: .row p_4 c_4 (r_3.1.Verticals.map enc_gauge_Vertical) 61 5 :: Lf) w)
  have hr9 : ∀ (zz : Int × (List gauge_Vertical)) a w, x9 = .go zz → S9 zz a w → K7 a w := by
    rintro ⟨x, x_1⟩ a w rfl ⟨p_10, c_10, hf, hc⟩
    replace hF : _ = some res := hF
    refine h7 _ _ ?_
    refine wp_seq_k fun K10 h10 => ?_
    refine wp_seq_k fun K11 h11 => ?_
    refine cReg ?_
    refine stP hf rfl rfl rfl (pFA fa_55_4 rfl) fun a hf => ?_
    refine stE hf hc rfl rfl rfl (eLd1 sc_53 rfl (cell_box m2 rfl)) fun a w hf hc => ?_
    refine stP hf rfl rfl rfl (pLenS Try.underlying53 rfl) fun a hf => ?_
    refine stP hf rfl rfl rfl (pM rfl) fun a hf => ?_
    refine cNil ?_
    refine h11 _ _ ?_
    refine wp_block ?_
    obtain ⟨x12, hx12, hF⟩ := bnd_some hF
    let S12 : (Int × (List gauge_Point)) → Act → World → Prop := (fun (zz : Int × (List gauge_Point)) a w => ∃ (p_11 : Option Addr) (c_11 : Nat), Has 212 a [(3, .int .u16 permille), (9, .pointer (some ⟨b_3, 0, none⟩)), (10, .pointer (some ⟨b_5, 0, none⟩)), (11, .pointer (some ⟨b_8, 0, none⟩)), (12, .pointer (some ⟨b_9, 0, none⟩)), (75, .int .i64 ((r_9.length : Nat) : Int)), (76, .int .i64 zz.1)] ∧ Ctx G (.row p_11 c_11 (zz.2.map enc_gauge_Point) 64 3 :: .row p_10 c_10 (x_1.map enc_gauge_Vertical) 61 5 :: .box b_9 [.int .i64 r_7.Left, .int .i64 r_7.Right, .int .i64 r_7.Gap, .int .i64 r_7.Step_, .slice p_11 zz.2.length c_11] 55 :: .box b_8 [.int .i64 r_6.Left, .int .i64 r_6.Right, .slice p_10 x_1.length c_10] 48 :: .box b_5 [.int .i64 r_5.1.Left, .int .i64 r_5.1.Right, .int .i64 r_5.1.Gap, .int .i64 r_5.1.Step_, .slice p_5 r_5.1.Points.length c_5] 55 :: .row p_5 c_5 (r_5.1.Points.map enc_gauge_Point) 64 3 :: .box b_3 [.int .i64 r_3.1.Left, .int .i64 r_3.1.Right, .slice p_4 r_3.1.Verticals.length c_4] 48 :: .row p_4 c_4 (r_3.1.Verticals.map enc_gauge_Vertical) 61 5 :: Lf) w)
    have hr12 : ∀ (zz : Int × (List gauge_Point)) a w, x12 = .go zz → S12 zz a w → K10 a w := by
      rintro ⟨x_2, x_3⟩ a w rfl ⟨p_11, c_11, hf, hc⟩
      replace hF : _ = some res := hF
      refine h10 _ _ ?_
      refine wp_seq_k fun K13 h13 => ?_
      refine cReg ?_
      refine stE hf hc rfl rfl rfl (eLdN (vs := [.int .i64 r_3.1.Left, .int .i64 r_3.1.Right, .slice p_4 r_3.1.Verticals.length c_4]) ag_48 rfl rfl (cells_box (n := 3) m6 rfl)) fun a w hf hc => ?_
      obtain ⟨r_10, hr_10, hF⟩ := bnd_some hF
      refine stE hf hc rfl rfl rfl (eC (v := .tuple #[.agg #[.int .i64 r_10.1.Lo, .int .i64 r_10.1.Hi], .int .i64 r_10.2]) (vs := [.agg #[.int .i64 r_3.1.Left, .int .i64 r_3.1.Right, .slice p_4 r_3.1.Verticals.length c_4]]) (caps := []) en_27 rfl rfl rfl rfl (fun w hc => by obtain ⟨G1, hle1, hrd1, hc, hth1⟩ := lend hc k7; exact (gauge_Flow_ok r_3.1 hrd1 hc hr_10).mono fun e w h => ⟨h.1, ((hth1 _ _ h.2).unpick k7)⟩)) fun a w hf hc => ?_
      refine stP hf rfl rfl rfl (pM rfl) fun a hf => ?_
      refine stP hf rfl rfl rfl (pX rfl rfl) fun a hf => ?_
      refine stP hf rfl rfl rfl (pX rfl rfl) fun a hf => ?_
      refine stAl (cs := [.int .i64 0, .int .i64 0]) hf hc rfl rfl zr_24 rfl fun b_10 a w hf hc => ?_
      refine stSt (vs := [.int .i64 r_10.1.Lo, .int .i64 r_10.1.Hi]) hf hc rfl rfl rfl rfl sz_24 rfl rfl u0 fun w hc => ?_
      refine stP hf rfl rfl rfl (pA rfl) fun a hf => ?_
      refine cNil ?_
      refine h13 _ _ ?_
      refine wp_seq_k fun K14 h14 => ?_
      refine cReg ?_
      refine stE hf hc rfl rfl rfl (eLdN (vs := [.int .i64 r_6.Left, .int .i64 r_6.Right, .slice p_10 x_1.length c_10]) ag_48 rfl rfl (cells_box (n := 3) m4 rfl)) fun a w hf hc => ?_
      obtain ⟨r_11, hr_11, hF⟩ := bnd_some hF
      refine stE hf hc rfl rfl rfl (eC (v := .tuple #[.agg #[.int .i64 r_11.1.Lo, .int .i64 r_11.1.Hi], .int .i64 r_11.2]) (vs := [.agg #[.int .i64 r_6.Left, .int .i64 r_6.Right, .slice p_10 x_1.length c_10]]) (caps := []) en_27 rfl rfl rfl rfl (fun w hc => by obtain ⟨G1, hle1, hrd1, hc, hth1⟩ := lend hc k2; exact (gauge_Flow_ok (⟨r_6.Left, r_6.Right, x_1⟩ : gauge_Gauging) hrd1 hc hr_11).mono fun e w h => ⟨h.1, ((hth1 _ _ h.2).unpick k2)⟩)) fun a w hf hc => ?_
      refine stP hf rfl rfl rfl (pM rfl) fun a hf => ?_
      refine stP hf rfl rfl rfl (pX rfl rfl) fun a hf => ?_
      refine stP hf rfl rfl rfl (pX rfl rfl) fun a hf => ?_
      refine stAl (cs := [.int .i64 0, .int .i64 0]) hf hc rfl rfl zr_24 rfl fun b_11 a w hf hc => ?_
      refine stSt (vs := [.int .i64 r_11.1.Lo, .int .i64 r_11.1.Hi]) hf hc rfl rfl rfl rfl sz_24 rfl rfl u0 fun w hc => ?_
      refine stP hf rfl rfl rfl (pA rfl) fun a hf => ?_
      refine cNil ?_
      refine h14 _ _ ?_
      refine wp_seq_k fun K15 h15 => ?_
      refine cReg ?_
      refine stE hf hc rfl rfl rfl (eLdN (vs := [.int .i64 r_3.1.Left, .int .i64 r_3.1.Right, .slice p_4 r_3.1.Verticals.length c_4]) ag_48 rfl rfl (cells_box (n := 3) m8 rfl)) fun a w hf hc => ?_
      refine stP hf rfl rfl rfl (pM rfl) fun a hf => ?_
      refine stP hf rfl rfl rfl (pCv Try.underlying45 Try.underlying3 rfl) fun a hf => ?_
      refine stP hf rfl rfl rfl (pRem rfl rfl (by decide)) fun a hf => ?_
      obtain ⟨r_12, hr_12, hF⟩ := bnd_some hF
      obtain ⟨G1, hle1, hrd1, hc, hth1⟩ := lend hc k9
      refine stC (vs := [.agg #[.int .i64 r_3.1.Left, .int .i64 r_3.1.Right, .slice p_4 r_3.1.Verticals.length c_4], .int .i64 ((W (permille)).tmod 1001)]) (caps := []) hf rfl rfl rfl en_28 rfl rfl rfl rfl (gauge_Heavy_ok r_3.1 ((W (permille)).tmod 1001) hrd1 hc hr_12) ?_
      rintro _ w ⟨p_12, c_12, p_13, c_13, rfl, hc⟩
      refine ⟨_, rfl, fun a hf => ?_⟩
      replace hc := hth1 _ _ hc
      refine stP hf rfl rfl rfl (pM rfl) fun a hf => ?_
      refine stP hf rfl rfl rfl (pX rfl rfl) fun a hf => ?_
      refine stP hf rfl rfl rfl (pX rfl rfl) fun a hf => ?_
      refine stP hf rfl rfl rfl (pX rfl rfl) fun a hf => ?_
      refine stP hf rfl rfl rfl (pA rfl) fun a hf => ?_
      refine stP hf rfl rfl rfl (pA rfl) fun a hf => ?_
      refine stP hf rfl rfl rfl (pA rfl) fun a hf => ?_
      refine cNil ?_
      refine h15 _ _ ?_
      refine wp_seq_k fun K16 h16 => ?_
      refine cReg ?_
      refine stE hf hc rfl rfl rfl (eLdN (vs := [.int .i64 r_6.Left, .int .i64 r_6.Right, .slice p_10 x_1.length c_10]) ag_48 rfl rfl (cells_box (n := 3) m8 rfl)) fun a w hf hc => ?_
      refine stP hf rfl rfl rfl (pM rfl) fun a hf => ?_
      refine stP hf rfl rfl rfl (pCv Try.underlying45 Try.underlying3 rfl) fun a hf => ?_
      refine stP hf rfl rfl rfl (pRem rfl rfl (by decide)) fun a hf => ?_
      obtain ⟨r_13, hr_13, hF⟩ := bnd_some hF
      obtain ⟨G1, hle1, hrd1, hc, hth1⟩ := lend hc k6
      refine stC (vs := [.agg #[.int .i64 r_6.Left, .int .i64 r_6.Right, .slice p_10 x_1.length c_10], .int .i64 ((W (permille)).tmod 1001)]) (caps := []) hf rfl rfl rfl en_28 rfl rfl rfl rfl (gauge_Heavy_ok (⟨r_6.Left, r_6.Right, x_1⟩ : gauge_Gauging) ((W (permille)).tmod 1001) hrd1 hc hr_13) ?_
      rintro _ w ⟨p_14, c_14, p_15, c_15, rfl, hc⟩
      refine ⟨_, rfl, fun a hf => ?_⟩
      replace hc := hth1 _ _ hc
      refine stP hf rfl rfl rfl (pM rfl) fun a hf => ?_
      refine stP hf rfl rfl rfl (pX rfl rfl) fun a hf => ?_
      refine stP hf rfl rfl rfl (pX rfl rfl) fun a hf => ?_
      refine stP hf rfl rfl rfl (pX rfl rfl) fun a hf => ?_
      refine stP hf rfl rfl rfl (pA rfl) fun a hf => ?_
      refine stP hf rfl rfl rfl (pA rfl) fun a hf => ?_
      refine stP hf rfl rfl rfl (pA rfl) fun a hf => ?_
      refine cNil ?_
      refine h16 _ _ ?_
      refine wp_seq_k fun K17 h17 => ?_
      refine wp_seq_k fun K18 h18 => ?_
      refine cReg ?_
      refine stP hf rfl rfl rfl (pM rfl) fun a hf => ?_
      refine stP hf rfl rfl rfl (pNe rfl rfl) fun a hf => ?_
      refine stP hf rfl rfl rfl (pM rfl) fun a hf => ?_
      refine stCut 3 (fun a w => Has 212 a [(9, .pointer (some ⟨b_3, 0, none⟩)), (10, .pointer (some ⟨b_5, 0, none⟩)), (12, .pointer (some ⟨b_9, 0, none⟩)), (15, .pointer (some ⟨b_10, 0, none⟩)), (16, .int .i64 r_10.2), (17, .pointer (some ⟨b_11, 0, none⟩)), (18, .int .i64 r_11.2), (19, .slice p_12 r_12.1.length c_12), (20, .slice p_13 r_12.2.1.length c_13), (21, .int .i64 r_12.2.2), (22, .slice p_14 r_13.1.length c_14), (23, .slice p_15 r_13.2.1.length c_15), (24, .int .i64 r_13.2.2), (125, .int .i64 r_10.2), (126, .bool (r_10.2 != 0)), (127, .bool (r_10.2 != 0)), (130, .bool ((r_10.2 != 0) || (r_11.2 != 0)))] ∧ Ctx G (.row p_10 c_10 (x_1.map enc_gauge_Vertical) 61 5 :: .row p_14 c_14 (r_13.1.map encI_i64) 3 1 :: .row p_15 c_15 (r_13.2.1.map encI_i64) 3 1 :: .row p_4 c_4 (r_3.1.Verticals.map enc_gauge_Vertical) 61 5 :: .row p_12 c_12 (r_12.1.map encI_i64) 3 1 :: .row p_13 c_13 (r_12.2.1.map encI_i64) 3 1 :: .box b_11 [.int .i64 r_11.1.Lo, .int .i64 r_11.1.Hi] 24 :: .box b_10 [.int .i64 r_10.1.Lo, .int .i64 r_10.1.Hi] 24 :: .row p_11 c_11 (x_3.map enc_gauge_Point) 64 3 :: .box b_9 [.int .i64 r_7.Left, .int .i64 r_7.Right, .int .i64 r_7.Gap, .int .i64 r_7.Step_, .slice p_11 x_3.length c_11] 55 :: .box b_8 [.int .i64 r_6.Left, .int .i64 r_6.Right, .slice p_10 x_1.length c_10] 48 :: .box b_5 [.int .i64 r_5.1.Left, .int .i64 r_5.1.Right, .int .i64 r_5.1.Gap, .int .i64 r_5.1.Step_, .slice p_5 r_5.1.Points.length c_5] 55 :: .row p_5 c_5 (r_5.1.Points.map enc_gauge_Point) 64 3 :: .box b_3 [.int .i64 r_3.1.Left, .int .i64 r_3.1.Right, .slice p_4 r_3.1.Verticals.length c_4] 48 :: Lf) w) ?_ ?_
      · cases hb : (r_10.2 != 0)
        · rw [hb] at hf
          refine stP hf rfl rfl rfl (pM rfl) fun a hf => ?_
          refine stP hf rfl rfl rfl (pNe rfl rfl) fun a hf => ?_
          refine stP hf rfl rfl rfl (pPf rfl rfl) fun a hf => ?_
          exact cNil ⟨hf.keep ⟨rfl, rfl, rfl, rfl, rfl, rfl, rfl, rfl, rfl, rfl, rfl, rfl, rfl, rfl, rfl, rfl, rfl, trivial⟩, hc⟩
        · rw [hb] at hf
          refine stS hf rfl rfl rfl fun a hf => ?_
          refine stS hf rfl rfl rfl fun a hf => ?_
          refine stP hf rfl rfl rfl (pPt rfl rfl) fun a hf => ?_
          exact cNil ⟨hf.keep ⟨rfl, rfl, rfl, rfl, rfl, rfl, rfl, rfl, rfl, rfl, rfl, rfl, rfl, rfl, rfl, rfl, rfl, trivial⟩, hc⟩
      intro a w ⟨hf, hc⟩
      refine stP hf rfl rfl rfl (pM rfl) fun a hf => ?_
      refine stCut 3 (fun a w => Has 212 a [(9, .pointer (some ⟨b_3, 0, none⟩)), (10, .pointer (some ⟨b_5, 0, none⟩)), (12, .pointer (some ⟨b_9, 0, none⟩)), (15, .pointer (some ⟨b_10, 0, none⟩)), (16, .int .i64 r_10.2), (17, .pointer (some ⟨b_11, 0, none⟩)), (18, .int .i64 r_11.2), (19, .slice p_12 r_12.1.length c_12), (20, .slice p_13 r_12.2.1.length c_13), (21, .int .i64 r_12.2.2), (22, .slice p_14 r_13.1.length c_14), (23, .slice p_15 r_13.2.1.length c_15), (24, .int .i64 r_13.2.2), (125, .int .i64 r_10.2), (126, .bool (r_10.2 != 0)), (127, .bool (r_10.2 != 0)), (130, .bool ((r_10.2 != 0) || (r_11.2 != 0))), (131, .bool ((r_10.2 != 0) || (r_11.2 != 0))), (134, .bool (((r_10.2 != 0) || (r_11.2 != 0)) || (r_12.2.2 != 0)))] ∧ Ctx G (.row p_10 c_10 (x_1.map enc_gauge_Vertical) 61 5 :: .row p_14 c_14 (r_13.1.map encI_i64) 3 1 :: .row p_15 c_15 (r_13.2.1.map encI_i64) 3 1 :: .row p_4 c_4 (r_3.1.Verticals.map enc_gauge_Vertical) 61 5 :: .row p_12 c_12 (r_12.1.map encI_i64) 3 1 :: .row p_13 c_13 (r_12.2.1.map encI_i64) 3 1 :: .box b_11 [.int .i64 r_11.1.Lo, .int .i64 r_11.1.Hi] 24 :: .box b_10 [.int .i64 r_10.1.Lo, .int .i64 r_10.1.Hi] 24 :: .row p_11 c_11 (x_3.map enc_gauge_Point) 64 3 :: .box b_9 [.int .i64 r_7.Left, .int .i64 r_7.Right, .int .i64 r_7.Gap, .int .i64 r_7.Step_, .slice p_11 x_3.length c_11] 55 :: .box b_8 [.int .i64 r_6.Left, .int .i64 r_6.Right, .slice p_10 x_1.length c_10] 48 :: .box b_5 [.int .i64 r_5.1.Left, .int .i64 r_5.1.Right, .int .i64 r_5.1.Gap, .int .i64 r_5.1.Step_, .slice p_5 r_5.1.Points.length c_5] 55 :: .row p_5 c_5 (r_5.1.Points.map enc_gauge_Point) 64 3 :: .box b_3 [.int .i64 r_3.1.Left, .int .i64 r_3.1.Right, .slice p_4 r_3.1.Verticals.length c_4] 48 :: Lf) w) ?_ ?_
      · cases hb : ((r_10.2 != 0) || (r_11.2 != 0))
        · rw [hb] at hf
          refine stP hf rfl rfl rfl (pM rfl) fun a hf => ?_
          refine stP hf rfl rfl rfl (pNe rfl rfl) fun a hf => ?_
          refine stP hf rfl rfl rfl (pPf rfl rfl) fun a hf => ?_
          exact cNil ⟨hf.keep ⟨rfl, rfl, rfl, rfl, rfl, rfl, rfl, rfl, rfl, rfl, rfl, rfl, rfl, rfl, rfl, rfl, rfl, rfl, rfl, trivial⟩, hc⟩
        · rw [hb] at hf
          refine stS hf rfl rfl rfl fun a hf => ?_
          refine stS hf rfl rfl rfl fun a hf => ?_
          refine stP hf rfl rfl rfl (pPt rfl rfl) fun a hf => ?_
          exact cNil ⟨hf.keep ⟨rfl, rfl, rfl, rfl, rfl, rfl, rfl, rfl, rfl, rfl, rfl, rfl, rfl, rfl, rfl, rfl, rfl, rfl, rfl, trivial⟩, hc⟩
      intro a w ⟨hf, hc⟩
      refine stP hf rfl rfl rfl (pM rfl) fun a hf => ?_
      refine stCut 3 (fun a w => Has 212 a [(9, .pointer (some ⟨b_3, 0, none⟩)), (10, .pointer (some ⟨b_5, 0, none⟩)), (12, .pointer (some ⟨b_9, 0, none⟩)), (15, .pointer (some ⟨b_10, 0, none⟩)), (16, .int .i64 r_10.2), (17, .pointer (some ⟨b_11, 0, none⟩)), (18, .int .i64 r_11.2), (19, .slice p_12 r_12.1.length c_12), (20, .slice p_13 r_12.2.1.length c_13), (21, .int .i64 r_12.2.2), (22, .slice p_14 r_13.1.length c_14), (23, .slice p_15 r_13.2.1.length c_15), (24, .int .i64 r_13.2.2), (125, .int .i64 r_10.2), (126, .bool (r_10.2 != 0)), (127, .bool (r_10.2 != 0)), (130, .bool ((r_10.2 != 0) || (r_11.2 != 0))), (131, .bool ((r_10.2 != 0) || (r_11.2 != 0))), (134, .bool (((r_10.2 != 0) || (r_11.2 != 0)) || (r_12.2.2 != 0))), (135, .bool (((r_10.2 != 0) || (r_11.2 != 0)) || (r_12.2.2 != 0))), (138, .bool ((((r_10.2 != 0) || (r_11.2 != 0)) || (r_12.2.2 != 0)) || (r_13.2.2 != 0)))] ∧ Ctx G (.row p_10 c_10 (x_1.map enc_gauge_Vertical) 61 5 :: .row p_14 c_14 (r_13.1.map encI_i64) 3 1 :: .row p_15 c_15 (r_13.2.1.map encI_i64) 3 1 :: .row p_4 c_4 (r_3.1.Verticals.map enc_gauge_Vertical) 61 5 :: .row p_12 c_12 (r_12.1.map encI_i64) 3 1 :: .row p_13 c_13 (r_12.2.1.map encI_i64) 3 1 :: .box b_11 [.int .i64 r_11.1.Lo, .int .i64 r_11.1.Hi] 24 :: .box b_10 [.int .i64 r_10.1.Lo, .int .i64 r_10.1.Hi] 24 :: .row p_11 c_11 (x_3.map enc_gauge_Point) 64 3 :: .box b_9 [.int .i64 r_7.Left, .int .i64 r_7.Right, .int .i64 r_7.Gap, .int .i64 r_7.Step_, .slice p_11 x_3.length c_11] 55 :: .box b_8 [.int .i64 r_6.Left, .int .i64 r_6.Right, .slice p_10 x_1.length c_10] 48 :: .box b_5 [.int .i64 r_5.1.Left, .int .i64 r_5.1.Right, .int .i64 r_5.1.Gap, .int .i64 r_5.1.Step_, .slice p_5 r_5.1.Points.length c_5] 55 :: .row p_5 c_5 (r_5.1.Points.map enc_gauge_Point) 64 3 :: .box b_3 [.int .i64 r_3.1.Left, .int .i64 r_3.1.Right, .slice p_4 r_3.1.Verticals.length c_4] 48 :: Lf) w) ?_ ?_
      · cases hb : (((r_10.2 != 0) || (r_11.2 != 0)) || (r_12.2.2 != 0))
        · rw [hb] at hf
          refine stP hf rfl rfl rfl (pM rfl) fun a hf => ?_
          refine stP hf rfl rfl rfl (pNe rfl rfl) fun a hf => ?_
          refine stP hf rfl rfl rfl (pPf rfl rfl) fun a hf => ?_
          exact cNil ⟨hf.keep ⟨rfl, rfl, rfl, rfl, rfl, rfl, rfl, rfl, rfl, rfl, rfl, rfl, rfl, rfl, rfl, rfl, rfl, rfl, rfl, rfl, rfl, trivial⟩, hc⟩
        · rw [hb] at hf
          refine stS hf rfl rfl rfl fun a hf => ?_
          refine stS hf rfl rfl rfl fun a hf => ?_
          refine stP hf rfl rfl rfl (pPt rfl rfl) fun a hf => ?_
          exact cNil ⟨hf.keep ⟨rfl, rfl, rfl, rfl, rfl, rfl, rfl, rfl, rfl, rfl, rfl, rfl, rfl, rfl, rfl, rfl, rfl, rfl, rfl, rfl, rfl, trivial⟩, hc⟩
      intro a w ⟨hf, hc⟩
      refine stP hf rfl rfl rfl (pM rfl) fun a hf => ?_
      refine stCut 4 (fun a w => Has 212 a [(9, .pointer (some ⟨b_3, 0, none⟩)), (10, .pointer (some ⟨b_5, 0, none⟩)), (12, .pointer (some ⟨b_9, 0, none⟩)), (15, .pointer (some ⟨b_10, 0, none⟩)), (16, .int .i64 r_10.2), (17, .pointer (some ⟨b_11, 0, none⟩)), (18, .int .i64 r_11.2), (19, .slice p_12 r_12.1.length c_12), (20, .slice p_13 r_12.2.1.length c_13), (21, .int .i64 r_12.2.2), (22, .slice p_14 r_13.1.length c_14), (23, .slice p_15 r_13.2.1.length c_15), (24, .int .i64 r_13.2.2), (125, .int .i64 r_10.2), (126, .bool (r_10.2 != 0)), (127, .bool (r_10.2 != 0)), (130, .bool ((r_10.2 != 0) || (r_11.2 != 0))), (131, .bool ((r_10.2 != 0) || (r_11.2 != 0))), (134, .bool (((r_10.2 != 0) || (r_11.2 != 0)) || (r_12.2.2 != 0))), (135, .bool (((r_10.2 != 0) || (r_11.2 != 0)) || (r_12.2.2 != 0))), (138, .bool ((((r_10.2 != 0) || (r_11.2 != 0)) || (r_12.2.2 != 0)) || (r_13.2.2 != 0))), (139, .bool ((((r_10.2 != 0) || (r_11.2 != 0)) || (r_12.2.2 != 0)) || (r_13.2.2 != 0))), (143, .bool (((((r_10.2 != 0) || (r_11.2 != 0)) || (r_12.2.2 != 0)) || (r_13.2.2 != 0)) || (!(r_10.1.Lo == r_11.1.Lo && r_10.1.Hi == r_11.1.Hi))))] ∧ Ctx G (.row p_10 c_10 (x_1.map enc_gauge_Vertical) 61 5 :: .row p_14 c_14 (r_13.1.map encI_i64) 3 1 :: .row p_15 c_15 (r_13.2.1.map encI_i64) 3 1 :: .row p_4 c_4 (r_3.1.Verticals.map enc_gauge_Vertical) 61 5 :: .row p_12 c_12 (r_12.1.map encI_i64) 3 1 :: .row p_13 c_13 (r_12.2.1.map encI_i64) 3 1 :: .box b_11 [.int .i64 r_11.1.Lo, .int .i64 r_11.1.Hi] 24 :: .box b_10 [.int .i64 r_10.1.Lo, .int .i64 r_10.1.Hi] 24 :: .row p_11 c_11 (x_3.map enc_gauge_Point) 64 3 :: .box b_9 [.int .i64 r_7.Left, .int .i64 r_7.Right, .int .i64 r_7.Gap, .int .i64 r_7.Step_, .slice p_11 x_3.length c_11] 55 :: .box b_8 [.int .i64 r_6.Left, .int .i64 r_6.Right, .slice p_10 x_1.length c_10] 48 :: .box b_5 [.int .i64 r_5.1.Left, .int .i64 r_5.1.Right, .int .i64 r_5.1.Gap, .int .i64 r_5.1.Step_, .slice p_5 r_5.1.Points.length c_5] 55 :: .row p_5 c_5 (r_5.1.Points.map enc_gauge_Point) 64 3 :: .box b_3 [.int .i64 r_3.1.Left, .int .i64 r_3.1.Right, .slice p_4 r_3.1.Verticals.length c_4] 48 :: Lf) w) ?_ ?_
      · cases hb : ((((r_10.2 != 0) || (r_11.2 != 0)) || (r_12.2.2 != 0)) || (r_13.2.2 != 0))
        · rw [hb] at hf
          refine stE hf hc rfl rfl rfl (eLdN (vs := [.int .i64 r_10.1.Lo, .int .i64 r_10.1.Hi]) ag_24 rfl rfl (cells_box (n := 2) m7 rfl)) fun a w hf hc => ?_
          refine stE hf hc rfl rfl rfl (eLdN (vs := [.int .i64 r_11.1.Lo, .int .i64 r_11.1.Hi]) ag_24 rfl rfl (cells_box (n := 2) m6 rfl)) fun a w hf hc => ?_
          refine stP hf rfl rfl rfl (pNeA ge_24 rfl rfl (eqs_24 _ _ _ _)) fun a hf => ?_
          refine stP hf rfl rfl rfl (pPf rfl rfl) fun a hf => ?_
          exact cNil ⟨hf.keep ⟨rfl, rfl, rfl, rfl, rfl, rfl, rfl, rfl, rfl, rfl, rfl, rfl, rfl, rfl, rfl, rfl, rfl, rfl, rfl, rfl, rfl, rfl, rfl, trivial⟩, hc⟩
        · rw [hb] at hf
          refine stS hf rfl rfl rfl fun a hf => ?_
          refine stS hf rfl rfl rfl fun a hf => ?_
          refine stS hf rfl rfl rfl fun a hf => ?_
          refine stP hf rfl rfl rfl (pPt rfl rfl) fun a hf => ?_
          exact cNil ⟨hf.keep ⟨rfl, rfl, rfl, rfl, rfl, rfl, rfl, rfl, rfl, rfl, rfl, rfl, rfl, rfl, rfl, rfl, rfl, rfl, rfl, rfl, rfl, rfl, rfl, trivial⟩, hc⟩
      intro a w ⟨hf, hc⟩
      refine stP hf rfl rfl rfl (pM rfl) fun a hf => ?_
      refine stCut 6 (fun a w => Has 212 a [(9, .pointer (some ⟨b_3, 0, none⟩)), (10, .pointer (some ⟨b_5, 0, none⟩)), (12, .pointer (some ⟨b_9, 0, none⟩)), (15, .pointer (some ⟨b_10, 0, none⟩)), (16, .int .i64 r_10.2), (17, .pointer (some ⟨b_11, 0, none⟩)), (18, .int .i64 r_11.2), (19, .slice p_12 r_12.1.length c_12), (20, .slice p_13 r_12.2.1.length c_13), (21, .int .i64 r_12.2.2), (22, .slice p_14 r_13.1.length c_14), (23, .slice p_15 r_13.2.1.length c_15), (24, .int .i64 r_13.2.2), (125, .int .i64 r_10.2), (126, .bool (r_10.2 != 0)), (127, .bool (r_10.2 != 0)), (130, .bool ((r_10.2 != 0) || (r_11.2 != 0))), (131, .bool ((r_10.2 != 0) || (r_11.2 != 0))), (134, .bool (((r_10.2 != 0) || (r_11.2 != 0)) || (r_12.2.2 != 0))), (135, .bool (((r_10.2 != 0) || (r_11.2 != 0)) || (r_12.2.2 != 0))), (138, .bool ((((r_10.2 != 0) || (r_11.2 != 0)) || (r_12.2.2 != 0)) || (r_13.2.2 != 0))), (139, .bool ((((r_10.2 != 0) || (r_11.2 != 0)) || (r_12.2.2 != 0)) || (r_13.2.2 != 0))), (143, .bool (((((r_10.2 != 0) || (r_11.2 != 0)) || (r_12.2.2 != 0)) || (r_13.2.2 != 0)) || (!(r_10.1.Lo == r_11.1.Lo && r_10.1.Hi == r_11.1.Hi)))), (144, .bool (((((r_10.2 != 0) || (r_11.2 != 0)) || (r_12.2.2 != 0)) || (r_13.2.2 != 0)) || (!(r_10.1.Lo == r_11.1.Lo && r_10.1.Hi == r_11.1.Hi)))), (150, .bool ((((((r_10.2 != 0) || (r_11.2 != 0)) || (r_12.2.2 != 0)) || (r_13.2.2 != 0)) || (!(r_10.1.Lo == r_11.1.Lo && r_10.1.Hi == r_11.1.Hi))) || (((r_12.1.length : Nat) : Int) != ((r_13.1.length : Nat) : Int))))] ∧ Ctx G (.row p_10 c_10 (x_1.map enc_gauge_Vertical) 61 5 :: .row p_14 c_14 (r_13.1.map encI_i64) 3 1 :: .row p_15 c_15 (r_13.2.1.map encI_i64) 3 1 :: .row p_4 c_4 (r_3.1.Verticals.map enc_gauge_Vertical) 61 5 :: .row p_12 c_12 (r_12.1.map encI_i64) 3 1 :: .row p_13 c_13 (r_12.2.1.map encI_i64) 3 1 :: .box b_11 [.int .i64 r_11.1.Lo, .int .i64 r_11.1.Hi] 24 :: .box b_10 [.int .i64 r_10.1.Lo, .int .i64 r_10.1.Hi] 24 :: .row p_11 c_11 (x_3.map enc_gauge_Point) 64 3 :: .box b_9 [.int .i64 r_7.Left, .int .i64 r_7.Right, .int .i64 r_7.Gap, .int .i64 r_7.Step_, .slice p_11 x_3.length c_11] 55 :: .box b_8 [.int .i64 r_6.Left, .int .i64 r_6.Right, .slice p_10 x_1.length c_10] 48 :: .box b_5 [.int .i64 r_5.1.Left, .int .i64 r_5.1.Right, .int .i64 r_5.1.Gap, .int .i64 r_5.1.Step_, .slice p_5 r_5.1.Points.length c_5] 55 :: .row p_5 c_5 (r_5.1.Points.map enc_gauge_Point) 64 3 :: .box b_3 [.int .i64 r_3.1.Left, .int .i64 r_3.1.Right, .slice p_4 r_3.1.Verticals.length c_4] 48 :: Lf) w) ?_ ?_
      · cases hb : (((((r_10.2 != 0) || (r_11.2 != 0)) || (r_12.2.2 != 0)) || (r_13.2.2 != 0)) || (!(r_10.1.Lo == r_11.1.Lo && r_10.1.Hi == r_11.1.Hi)))
        · rw [hb] at hf
          refine stP hf rfl rfl rfl (pM rfl) fun a hf => ?_
          refine stP hf rfl rfl rfl (pLenS Try.underlying43 rfl) fun a hf => ?_
          refine stP hf rfl rfl rfl (pM rfl) fun a hf => ?_
          refine stP hf rfl rfl rfl (pLenS Try.underlying43 rfl) fun a hf => ?_
          refine stP hf rfl rfl rfl (pNe rfl rfl) fun a hf => ?_
          refine stP hf rfl rfl rfl (pPf rfl rfl) fun a hf => ?_
          exact cNil ⟨hf.keep ⟨rfl, rfl, rfl, rfl, rfl, rfl, rfl, rfl, rfl, rfl, rfl, rfl, rfl, rfl, rfl, rfl, rfl, rfl, rfl, rfl, rfl, rfl, rfl, rfl, rfl, trivial⟩, hc⟩
        · rw [hb] at hf
          refine stS hf rfl rfl rfl fun a hf => ?_
          refine stS hf rfl rfl rfl fun a hf => ?_
          refine stS hf rfl rfl rfl fun a hf => ?_
          refine stS hf rfl rfl rfl fun a hf => ?_
          refine stS hf rfl rfl rfl fun a hf => ?_
          refine stP hf rfl rfl rfl (pPt rfl rfl) fun a hf => ?_
          exact cNil ⟨hf.keep ⟨rfl, rfl, rfl, rfl, rfl, rfl, rfl, rfl, rfl, rfl, rfl, rfl, rfl, rfl, rfl, rfl, rfl, rfl, rfl, rfl, rfl, rfl, rfl, rfl, rfl, trivial⟩, hc⟩
      intro a w ⟨hf, hc⟩
      refine stP hf rfl rfl rfl (pM rfl) fun a hf => ?_
      refine stCut 6 (fun a w => Has 212 a [(9, .pointer (some ⟨b_3, 0, none⟩)), (10, .pointer (some ⟨b_5, 0, none⟩)), (12, .pointer (some ⟨b_9, 0, none⟩)), (15, .pointer (some ⟨b_10, 0, none⟩)), (16, .int .i64 r_10.2), (17, .pointer (some ⟨b_11, 0, none⟩)), (18, .int .i64 r_11.2), (19, .slice p_12 r_12.1.length c_12), (20, .slice p_13 r_12.2.1.length c_13), (21, .int .i64 r_12.2.2), (22, .slice p_14 r_13.1.length c_14), (23, .slice p_15 r_13.2.1.length c_15), (24, .int .i64 r_13.2.2), (125, .int .i64 r_10.2), (126, .bool (r_10.2 != 0)), (127, .bool (r_10.2 != 0)), (130, .bool ((r_10.2 != 0) || (r_11.2 != 0))), (131, .bool ((r_10.2 != 0) || (r_11.2 != 0))), (134, .bool (((r_10.2 != 0) || (r_11.2 != 0)) || (r_12.2.2 != 0))), (135, .bool (((r_10.2 != 0) || (r_11.2 != 0)) || (r_12.2.2 != 0))), (138, .bool ((((r_10.2 != 0) || (r_11.2 != 0)) || (r_12.2.2 != 0)) || (r_13.2.2 != 0))), (139, .bool ((((r_10.2 != 0) || (r_11.2 != 0)) || (r_12.2.2 != 0)) || (r_13.2.2 != 0))), (143, .bool (((((r_10.2 != 0) || (r_11.2 != 0)) || (r_12.2.2 != 0)) || (r_13.2.2 != 0)) || (!(r_10.1.Lo == r_11.1.Lo && r_10.1.Hi == r_11.1.Hi)))), (144, .bool (((((r_10.2 != 0) || (r_11.2 != 0)) || (r_12.2.2 != 0)) || (r_13.2.2 != 0)) || (!(r_10.1.Lo == r_11.1.Lo && r_10.1.Hi == r_11.1.Hi)))), (150, .bool ((((((r_10.2 != 0) || (r_11.2 != 0)) || (r_12.2.2 != 0)) || (r_13.2.2 != 0)) || (!(r_10.1.Lo == r_11.1.Lo && r_10.1.Hi == r_11.1.Hi))) || (((r_12.1.length : Nat) : Int) != ((r_13.1.length : Nat) : Int)))), (151, .bool ((((((r_10.2 != 0) || (r_11.2 != 0)) || (r_12.2.2 != 0)) || (r_13.2.2 != 0)) || (!(r_10.1.Lo == r_11.1.Lo && r_10.1.Hi == r_11.1.Hi))) || (((r_12.1.length : Nat) : Int) != ((r_13.1.length : Nat) : Int)))), (157, .bool (((((((r_10.2 != 0) || (r_11.2 != 0)) || (r_12.2.2 != 0)) || (r_13.2.2 != 0)) || (!(r_10.1.Lo == r_11.1.Lo && r_10.1.Hi == r_11.1.Hi))) || (((r_12.1.length : Nat) : Int) != ((r_13.1.length : Nat) : Int))) || (((r_12.2.1.length : Nat) : Int) != ((r_13.2.1.length : Nat) : Int))))] ∧ Ctx G (.row p_10 c_10 (x_1.map enc_gauge_Vertical) 61 5 :: .row p_14 c_14 (r_13.1.map encI_i64) 3 1 :: .row p_15 c_15 (r_13.2.1.map encI_i64) 3 1 :: .row p_4 c_4 (r_3.1.Verticals.map enc_gauge_Vertical) 61 5 :: .row p_12 c_12 (r_12.1.map encI_i64) 3 1 :: .row p_13 c_13 (r_12.2.1.map encI_i64) 3 1 :: .box b_11 [.int .i64 r_11.1.Lo, .int .i64 r_11.1.Hi] 24 :: .box b_10 [.int .i64 r_10.1.Lo, .int .i64 r_10.1.Hi] 24 :: .row p_11 c_11 (x_3.map enc_gauge_Point) 64 3 :: .box b_9 [.int .i64 r_7.Left, .int .i64 r_7.Right, .int .i64 r_7.Gap, .int .i64 r_7.Step_, .slice p_11 x_3.length c_11] 55 :: .box b_8 [.int .i64 r_6.Left, .int .i64 r_6.Right, .slice p_10 x_1.length c_10] 48 :: .box b_5 [.int .i64 r_5.1.Left, .int .i64 r_5.1.Right, .int .i64 r_5.1.Gap, .int .i64 r_5.1.Step_, .slice p_5 r_5.1.Points.length c_5] 55 :: .row p_5 c_5 (r_5.1.Points.map enc_gauge_Point) 64 3 :: .box b_3 [.int .i64 r_3.1.Left, .int .i64 r_3.1.Right, .slice p_4 r_3.1.Verticals.length c_4] 48 :: Lf) w) ?_ ?_
      · cases hb : ((((((r_10.2 != 0) || (r_11.2 != 0)) || (r_12.2.2 != 0)) || (r_13.2.2 != 0)) || (!(r_10.1.Lo == r_11.1.Lo && r_10.1.Hi == r_11.1.Hi))) || (((r_12.1.length : Nat) : Int) != ((r_13.1.length : Nat) : Int)))
        · rw [hb] at hf
          refine stP hf rfl rfl rfl (pM rfl) fun a hf => ?_
          refine stP hf rfl rfl rfl (pLenS Try.underlying43 rfl) fun a hf => ?_
          refine stP hf rfl rfl rfl (pM rfl) fun a hf => ?_
          refine stP hf rfl rfl rfl (pLenS Try.underlying43 rfl) fun a hf => ?_
          refine stP hf rfl rfl rfl (pNe rfl rfl) fun a hf => ?_
          refine stP hf rfl rfl rfl (pPf rfl rfl) fun a hf => ?_
          exact cNil ⟨hf.keep ⟨rfl, rfl, rfl, rfl, rfl, rfl, rfl, rfl, rfl, rfl, rfl, rfl, rfl, rfl, rfl, rfl, rfl, rfl, rfl, rfl, rfl, rfl, rfl, rfl, rfl, rfl, rfl, trivial⟩, hc⟩
        · rw [hb] at hf
          refine stS hf rfl rfl rfl fun a hf => ?_
          refine stS hf rfl rfl rfl fun a hf => ?_
          refine stS hf rfl rfl rfl fun a hf => ?_
          refine stS hf rfl rfl rfl fun a hf => ?_
          refine stS hf rfl rfl rfl fun a hf => ?_
          refine stP hf rfl rfl rfl (pPt rfl rfl) fun a hf => ?_
          exact cNil ⟨hf.keep ⟨rfl, rfl, rfl, rfl, rfl, rfl, rfl, rfl, rfl, rfl, rfl, rfl, rfl, rfl, rfl, rfl, rfl, rfl, rfl, rfl, rfl, rfl, rfl, rfl, rfl, rfl, rfl, trivial⟩, hc⟩
      intro a w ⟨hf, hc⟩
      refine cNil ?_
      refine h18 _ _ ?_
      refine cCond (b := (((((((r_10.2 != 0) || (r_11.2 != 0)) || (r_12.2.2 != 0)) || (r_13.2.2 != 0)) || (!(r_10.1.Lo == r_11.1.Lo && r_10.1.Hi == r_11.1.Hi))) || (((r_12.1.length : Nat) : Int) != ((r_13.1.length : Nat) : Int))) || (((r_12.2.1.length : Nat) : Int) != ((r_13.2.1.length : Nat) : Int)))) hf rfl (fun hb => ?_) (fun hb => ?_)
      · replace hF := condT hb hF
        clear hb
        refine wp_seq_k fun K19 h19 => ?_
        refine cReg ?_
        refine stP hf rfl rfl rfl (pA rfl) fun a hf => ?_
        refine cNil ?_
        refine h19 _ _ ?_
        refine wp_ret ?_
        refine xThenR ?_
        obtain rfl := Option.some.inj hF
        replace hc := hc.drop k13
        replace hc := hc.drop k12
        replace hc := hc.drop k11
        replace hc := hc.drop k10
        replace hc := hc.drop k9
        replace hc := hc.drop k8
        replace hc := hc.drop k7
        replace hc := hc.drop k6
        replace hc := hc.drop k5
        replace hc := hc.drop k4
        replace hc := hc.drop k3
        replace hc := hc.drop k2
        replace hc := hc.drop k1
        replace hc := hc.drop k0
        exact fnOut1 (by simp) rfl Try.results5 hf hc (show look _ 8 = _ from rfl) ⟨rfl, hc⟩
      · replace hF := condF hb hF
        clear hb
        refine wp_skip ?_
        refine h17 _ _ ?_
        refine wp_seq_k fun K20 h20 => ?_
        refine wp_seq_k fun K21 h21 => ?_
        refine cReg ?_
        refine stP hf rfl rfl rfl (pM rfl) fun a hf => ?_
        refine stP hf rfl rfl rfl (pLenS Try.underlying43 rfl) fun a hf => ?_
        refine stP hf rfl rfl rfl (pM rfl) fun a hf => ?_
        refine cNil ?_
        refine h21 _ _ ?_
        refine wp_block ?_
        obtain ⟨x22, hx22, hF⟩ := bnd_some hF
        let S22 : ((List Int) × (List Int) × Int) → Act → World → Prop := (fun (zz : (List Int) × (List Int) × Int) a w => ∃ (p_16 : Option Addr) (c_16 : Nat) (p_17 : Option Addr) (c_17 : Nat), Has 212 a [(9, .pointer (some ⟨b_3, 0, none⟩)), (10, .pointer (some ⟨b_5, 0, none⟩)), (12, .pointer (some ⟨b_9, 0, none⟩)), (19, .slice p_16 zz.1.length c_16), (22, .slice p_17 zz.2.1.length c_17), (159, .int .i64 ((r_12.1.length : Nat) : Int)), (160, .int .i64 zz.2.2)] ∧ Ctx G (.row p_17 c_17 (zz.2.1.map encI_i64) 3 1 :: .row p_4 c_4 (r_3.1.Verticals.map enc_gauge_Vertical) 61 5 :: .row p_16 c_16 (zz.1.map encI_i64) 3 1 :: .row p_11 c_11 (x_3.map enc_gauge_Point) 64 3 :: .box b_9 [.int .i64 r_7.Left, .int .i64 r_7.Right, .int .i64 r_7.Gap, .int .i64 r_7.Step_, .slice p_11 x_3.length c_11] 55 :: .box b_5 [.int .i64 r_5.1.Left, .int .i64 r_5.1.Right, .int .i64 r_5.1.Gap, .int .i64 r_5.1.Step_, .slice p_5 r_5.1.Points.length c_5] 55 :: .row p_5 c_5 (r_5.1.Points.map enc_gauge_Point) 64 3 :: .box b_3 [.int .i64 r_3.1.Left, .int .i64 r_3.1.Right, .slice p_4 r_3.1.Verticals.length c_4] 48 :: Lf) w)
        have hr22 : ∀ (zz : (List Int) × (List Int) × Int) a w, x22 = .go zz → S22 zz a w → K20 a w := by
          rintro ⟨can, able, x_4⟩ a w rfl ⟨p_16, c_16, p_17, c_17, hf, hc⟩
          replace hF : _ = some res := hF
          refine h20 _ _ ?_
          refine wp_seq_k fun K23 h23 => ?_
          refine cReg ?_
          refine stE hf hc rfl rfl rfl (eLdN (vs := [.int .i64 r_5.1.Left, .int .i64 r_5.1.Right, .int .i64 r_5.1.Gap, .int .i64 r_5.1.Step_, .slice p_5 r_5.1.Points.length c_5]) ag_55 rfl rfl (cells_box (n := 5) m5 rfl)) fun a w hf hc => ?_
          obtain ⟨r_14, hr_14, hF⟩ := bnd_some hF
          obtain ⟨G1, hle1, hrd1, hc, hth1⟩ := lend hc k6
          refine stC (vs := [.agg #[.int .i64 r_5.1.Left, .int .i64 r_5.1.Right, .int .i64 r_5.1.Gap, .int .i64 r_5.1.Step_, .slice p_5 r_5.1.Points.length c_5]]) (caps := []) hf rfl rfl rfl en_29 rfl rfl rfl rfl (gauge_Plan_ok r_5.1 hrd1 hc hr_14) ?_
          rintro _ w ⟨p_18, c_18, rfl, hc⟩
          refine ⟨_, rfl, fun a hf => ?_⟩
          replace hc := hth1 _ _ hc
          refine stP hf rfl rfl rfl (pM rfl) fun a hf => ?_
          refine stP hf rfl rfl rfl (pX rfl rfl) fun a hf => ?_
          refine stP hf rfl rfl rfl (pX rfl rfl) fun a hf => ?_
          refine stP hf rfl rfl rfl (pX rfl rfl) fun a hf => ?_
          refine stP hf rfl rfl rfl (pA rfl) fun a hf => ?_
          refine stP hf rfl rfl rfl (pA rfl) fun a hf => ?_
          refine stP hf rfl rfl rfl (pA rfl) fun a hf => ?_
          refine cNil ?_
          refine h23 _ _ ?_
          refine wp_seq_k fun K24 h24 => ?_
          refine cReg ?_
          refine stE hf hc rfl rfl rfl (eLdN (vs := [.int .i64 r_7.Left, .int .i64 r_7.Right, .int .i64 r_7.Gap, .int .i64 r_7.Step_, .slice p_11 x_3.length c_11]) ag_55 rfl rfl (cells_box (n := 5) m6 rfl)) fun a w hf hc => ?_
          obtain ⟨r_15, hr_15, hF⟩ := bnd_some hF
          obtain ⟨G1, hle1, hrd1, hc, hth1⟩ := lend hc k5
          refine stC (vs := [.agg #[.int .i64 r_7.Left, .int .i64 r_7.Right, .int .i64 r_7.Gap, .int .i64 r_7.Step_, .slice p_11 x_3.length c_11]]) (caps := []) hf rfl rfl rfl en_29 rfl rfl rfl rfl (gauge_Plan_ok (⟨r_7.Left, r_7.Right, r_7.Gap, r_7.Step_, x_3⟩ : gauge_Site) hrd1 hc hr_15) ?_
          rintro _ w ⟨p_19, c_19, rfl, hc⟩
          refine ⟨_, rfl, fun a hf => ?_⟩
          replace hc := hth1 _ _ hc
          refine stP hf rfl rfl rfl (pM rfl) fun a hf => ?_
          refine stP hf rfl rfl rfl (pX rfl rfl) fun a hf => ?_
          refine stP hf rfl rfl rfl (pX rfl rfl) fun a hf => ?_
          refine stP hf rfl rfl rfl (pX rfl rfl) fun a hf => ?_
          refine stP hf rfl rfl rfl (pA rfl) fun a hf => ?_
          refine stP hf rfl rfl rfl (pA rfl) fun a hf => ?_
          refine stP hf rfl rfl rfl (pA rfl) fun a hf => ?_
          refine cNil ?_
          refine h24 _ _ ?_
          refine wp_seq_k fun K25 h25 => ?_
          refine cReg ?_
          refine stP hf rfl rfl rfl (pM rfl) fun a hf => ?_
          refine stP hf rfl rfl rfl (pM rfl) fun a hf => ?_
          refine stP hf rfl rfl rfl (pEq rfl rfl) fun a hf => ?_
          refine stP hf rfl rfl rfl (pM rfl) fun a hf => ?_
          refine stCut 4 (fun a w => Has 212 a [(26, .slice p_18 r_14.1.length c_18), (27, .int .i64 r_14.2.1), (16, .int .i64 r_14.2.2), (28, .slice p_19 r_15.1.length c_19), (29, .int .i64 r_15.2.1), (18, .int .i64 r_15.2.2), (194, .int .i64 r_14.2.2), (195, .int .i64 r_15.2.2), (196, .bool (r_14.2.2 == r_15.2.2)), (197, .bool (r_14.2.2 == r_15.2.2)), (201, .bool ((r_14.2.2 == r_15.2.2) && (r_14.2.1 == r_15.2.1)))] ∧ Ctx G (.row p_11 c_11 (x_3.map enc_gauge_Point) 64 3 :: .row p_19 c_19 (r_15.1.map encI_i64) 3 1 :: .row p_5 c_5 (r_5.1.Points.map enc_gauge_Point) 64 3 :: .row p_18 c_18 (r_14.1.map encI_i64) 3 1 :: .row p_17 c_17 (able.map encI_i64) 3 1 :: .row p_4 c_4 (r_3.1.Verticals.map enc_gauge_Vertical) 61 5 :: .row p_16 c_16 (can.map encI_i64) 3 1 :: .box b_9 [.int .i64 r_7.Left, .int .i64 r_7.Right, .int .i64 r_7.Gap, .int .i64 r_7.Step_, .slice p_11 x_3.length c_11] 55 :: .box b_5 [.int .i64 r_5.1.Left, .int .i64 r_5.1.Right, .int .i64 r_5.1.Gap, .int .i64 r_5.1.Step_, .slice p_5 r_5.1.Points.length c_5] 55 :: .box b_3 [.int .i64 r_3.1.Left, .int .i64 r_3.1.Right, .slice p_4 r_3.1.Verticals.length c_4] 48 :: Lf) w) ?_ ?_
          · cases hb : (r_14.2.2 == r_15.2.2)
            · rw [hb] at hf
              refine stS hf rfl rfl rfl fun a hf => ?_
              refine stS hf rfl rfl rfl fun a hf => ?_
              refine stS hf rfl rfl rfl fun a hf => ?_
              refine stP hf rfl rfl rfl (pPf rfl rfl) fun a hf => ?_
              exact cNil ⟨hf.keep ⟨rfl, rfl, rfl, rfl, rfl, rfl, rfl, rfl, rfl, rfl, rfl, trivial⟩, hc⟩
            · rw [hb] at hf
              refine stP hf rfl rfl rfl (pM rfl) fun a hf => ?_
              refine stP hf rfl rfl rfl (pM rfl) fun a hf => ?_
              refine stP hf rfl rfl rfl (pEq rfl rfl) fun a hf => ?_
              refine stP hf rfl rfl rfl (pPt rfl rfl) fun a hf => ?_
              exact cNil ⟨hf.keep ⟨rfl, rfl, rfl, rfl, rfl, rfl, rfl, rfl, rfl, rfl, rfl, trivial⟩, hc⟩
          intro a w ⟨hf, hc⟩
          refine stP hf rfl rfl rfl (pM rfl) fun a hf => ?_
          refine stCut 6 (fun a w => Has 212 a [(26, .slice p_18 r_14.1.length c_18), (27, .int .i64 r_14.2.1), (16, .int .i64 r_14.2.2), (28, .slice p_19 r_15.1.length c_19), (29, .int .i64 r_15.2.1), (18, .int .i64 r_15.2.2), (194, .int .i64 r_14.2.2), (195, .int .i64 r_15.2.2), (196, .bool (r_14.2.2 == r_15.2.2)), (197, .bool (r_14.2.2 == r_15.2.2)), (201, .bool ((r_14.2.2 == r_15.2.2) && (r_14.2.1 == r_15.2.1))), (202, .bool ((r_14.2.2 == r_15.2.2) && (r_14.2.1 == r_15.2.1))), (208, .bool (((r_14.2.2 == r_15.2.2) && (r_14.2.1 == r_15.2.1)) && (((r_14.1.length : Nat) : Int) == ((r_15.1.length : Nat) : Int))))] ∧ Ctx G (.row p_11 c_11 (x_3.map enc_gauge_Point) 64 3 :: .row p_19 c_19 (r_15.1.map encI_i64) 3 1 :: .row p_5 c_5 (r_5.1.Points.map enc_gauge_Point) 64 3 :: .row p_18 c_18 (r_14.1.map encI_i64) 3 1 :: .row p_17 c_17 (able.map encI_i64) 3 1 :: .row p_4 c_4 (r_3.1.Verticals.map enc_gauge_Vertical) 61 5 :: .row p_16 c_16 (can.map encI_i64) 3 1 :: .box b_9 [.int .i64 r_7.Left, .int .i64 r_7.Right, .int .i64 r_7.Gap, .int .i64 r_7.Step_, .slice p_11 x_3.length c_11] 55 :: .box b_5 [.int .i64 r_5.1.Left, .int .i64 r_5.1.Right, .int .i64 r_5.1.Gap, .int .i64 r_5.1.Step_, .slice p_5 r_5.1.Points.length c_5] 55 :: .box b_3 [.int .i64 r_3.1.Left, .int .i64 r_3.1.Right, .slice p_4 r_3.1.Verticals.length c_4] 48 :: Lf) w) ?_ ?_
          · cases hb : ((r_14.2.2 == r_15.2.2) && (r_14.2.1 == r_15.2.1))
            · rw [hb] at hf
              refine stS hf rfl rfl rfl fun a hf => ?_
              refine stS hf rfl rfl rfl fun a hf => ?_
              refine stS hf rfl rfl rfl fun a hf => ?_
              refine stS hf rfl rfl rfl fun a hf => ?_
              refine stS hf rfl rfl rfl fun a hf => ?_
              refine stP hf rfl rfl rfl (pPf rfl rfl) fun a hf => ?_
              exact cNil ⟨hf.keep ⟨rfl, rfl, rfl, rfl, rfl, rfl, rfl, rfl, rfl, rfl, rfl, rfl, rfl, trivial⟩, hc⟩
            · rw [hb] at hf
              refine stP hf rfl rfl rfl (pM rfl) fun a hf => ?_
              refine stP hf rfl rfl rfl (pLenS Try.underlying43 rfl) fun a hf => ?_
              refine stP hf rfl rfl rfl (pM rfl) fun a hf => ?_
              refine stP hf rfl rfl rfl (pLenS Try.underlying43 rfl) fun a hf => ?_
              refine stP hf rfl rfl rfl (pEq rfl rfl) fun a hf => ?_
              refine stP hf rfl rfl rfl (pPt rfl rfl) fun a hf => ?_
              exact cNil ⟨hf.keep ⟨rfl, rfl, rfl, rfl, rfl, rfl, rfl, rfl, rfl, rfl, rfl, rfl, rfl, trivial⟩, hc⟩
          intro a w ⟨hf, hc⟩
          refine stP hf rfl rfl rfl (pM rfl) fun a hf => ?_
          obtain ⟨t_1, ht_1, hF⟩ := bnd_some hF
          refine stCut 2 (fun a w => Has 212 a [(26, .slice p_18 r_14.1.length c_18), (27, .int .i64 r_14.2.1), (16, .int .i64 r_14.2.2), (28, .slice p_19 r_15.1.length c_19), (29, .int .i64 r_15.2.1), (18, .int .i64 r_15.2.2), (194, .int .i64 r_14.2.2), (195, .int .i64 r_15.2.2), (196, .bool (r_14.2.2 == r_15.2.2)), (197, .bool (r_14.2.2 == r_15.2.2)), (201, .bool ((r_14.2.2 == r_15.2.2) && (r_14.2.1 == r_15.2.1))), (202, .bool ((r_14.2.2 == r_15.2.2) && (r_14.2.1 == r_15.2.1))), (208, .bool (((r_14.2.2 == r_15.2.2) && (r_14.2.1 == r_15.2.1)) && (((r_14.1.length : Nat) : Int) == ((r_15.1.length : Nat) : Int)))), (209, .bool (((r_14.2.2 == r_15.2.2) && (r_14.2.1 == r_15.2.1)) && (((r_14.1.length : Nat) : Int) == ((r_15.1.length : Nat) : Int)))), (211, .bool t_1)] ∧ Ctx G (.row p_11 c_11 (x_3.map enc_gauge_Point) 64 3 :: .row p_19 c_19 (r_15.1.map encI_i64) 3 1 :: .row p_5 c_5 (r_5.1.Points.map enc_gauge_Point) 64 3 :: .row p_18 c_18 (r_14.1.map encI_i64) 3 1 :: .row p_17 c_17 (able.map encI_i64) 3 1 :: .row p_4 c_4 (r_3.1.Verticals.map enc_gauge_Vertical) 61 5 :: .row p_16 c_16 (can.map encI_i64) 3 1 :: .box b_9 [.int .i64 r_7.Left, .int .i64 r_7.Right, .int .i64 r_7.Gap, .int .i64 r_7.Step_, .slice p_11 x_3.length c_11] 55 :: .box b_5 [.int .i64 r_5.1.Left, .int .i64 r_5.1.Right, .int .i64 r_5.1.Gap, .int .i64 r_5.1.Step_, .slice p_5 r_5.1.Points.length c_5] 55 :: .box b_3 [.int .i64 r_3.1.Left, .int .i64 r_3.1.Right, .slice p_4 r_3.1.Verticals.length c_4] 48 :: Lf) w) ?_ ?_
          · cases hb : (((r_14.2.2 == r_15.2.2) && (r_14.2.1 == r_15.2.1)) && (((r_14.1.length : Nat) : Int) == ((r_15.1.length : Nat) : Int)))
            · rw [hb] at hf
              have hF := condF hb ht_1
              obtain rfl := Option.some.inj hF
              refine stS hf rfl rfl rfl fun a hf => ?_
              refine stP hf rfl rfl rfl (pPf rfl rfl) fun a hf => ?_
              exact cNil ⟨hf.keep ⟨rfl, rfl, rfl, rfl, rfl, rfl, rfl, rfl, rfl, rfl, rfl, rfl, rfl, rfl, rfl, trivial⟩, hc⟩
            · rw [hb] at hf
              have hF := condT hb ht_1
              obtain ⟨r_16, hr_16, hF⟩ := bnd_some hF
              refine stE hf hc rfl rfl rfl (eC (v := .bool r_16) (vs := []) (caps := []) en_15 rfl rfl rfl rfl (fun w hc => law03_awake_ok hc hr_16)) fun a w hf hc => ?_
              refine stP hf rfl rfl rfl (pPt rfl rfl) fun a hf => ?_
              obtain rfl := Option.some.inj hF
              exact cNil ⟨hf.keep ⟨rfl, rfl, rfl, rfl, rfl, rfl, rfl, rfl, rfl, rfl, rfl, rfl, rfl, rfl, rfl, trivial⟩, hc⟩
          intro a w ⟨hf, hc⟩
          refine stP hf rfl rfl rfl (pA rfl) fun a hf => ?_
          refine cNil ?_
          refine h25 _ _ ?_
          refine wp_ret ?_
          obtain rfl := Option.some.inj hF
          replace hc := hc.drop k9
          replace hc := hc.drop k8
          replace hc := hc.drop k7
          replace hc := hc.drop k6
          replace hc := hc.drop k5
          replace hc := hc.drop k4
          replace hc := hc.drop k3
          replace hc := hc.drop k2
          replace hc := hc.drop k1
          replace hc := hc.drop k0
          exact fnOut1 (by simp) rfl Try.results5 hf hc (show look _ 8 = _ from rfl) ⟨rfl, hc⟩
        have ho22 : ∀ r, x22 = .out r → r = res := by
          rintro r rfl
          exact Option.some.inj hF
        replace hc := hc.drop k10
        replace hc := hc.drop k7
        replace hc := hc.drop k6
        replace hc := hc.drop k5
        replace hc := hc.drop k2
        replace hc := hc.drop k0
        refine cLoop N (loopW (S := S22) (x := x22) ?_ N (r_12.1, r_13.1, 0) _ _ ⟨p_12, c_12, p_14, c_14, hf.keep ⟨rfl, rfl, rfl, rfl, rfl, rfl, rfl, trivial⟩, hc⟩ hx22)
        clear hF hf hc
        rintro ⟨can, able, x_4⟩ st22 a w KB22 ⟨p_16, c_16, p_17, c_17, hf, hc⟩ hF hfin22 hK22
        unfold law03_GaugeMirrored_b22 at hF
        refine wp_seq_k fun K26 h26 => ?_
        refine cReg ?_
        refine stP hf rfl rfl rfl (pLt rfl rfl) fun a hf => ?_
        refine cNil ?_
        refine h26 _ _ ?_
        refine wp_seq_k fun K27 h27 => ?_
        refine cCond (b := (decide (x_4 < ((r_12.1.length : Nat) : Int)))) hf rfl (fun hb => ?_) (fun hb => ?_)
        · replace hF := condT hb hF
          clear hb
          refine wp_skip ?_
          refine h27 _ _ ?_
          refine wp_seq_k fun K28 h28 => ?_
          refine wp_block ?_
          refine wp_seq_k fun K29 h29 => ?_
          refine cReg ?_
          refine stP hf rfl rfl rfl (pM rfl) fun a hf => ?_
          refine stP hf rfl rfl rfl (pA rfl) fun a hf => ?_
          refine cNil ?_
          refine h29 _ _ ?_
          refine wp_seq_k fun K30 h30 => ?_
          obtain ⟨e_1, he_1, hF⟩ := bnd_some hF
          obtain ⟨g, rfl, qa, qr⟩ := row_atm hc m0 he_1
          obtain ⟨e_2, he_2, hF⟩ := bnd_some hF
          obtain ⟨g_1, rfl, qa_1, qr_1⟩ := row_atm hc m2 he_2
          refine cQ hc follows_mx (by kernel_rfl) ?_
          refine qE hf rfl rfl rfl (Pu.ev (pM rfl)) fun a hf => ?_
          refine qE hf rfl rfl rfl (Pu.ev (pM rfl)) fun a hf => ?_
          refine qE hf rfl rfl rfl (Pu.ev (pLenS Try.underlying43 rfl)) fun a hf => ?_
          refine qE hf rfl rfl rfl (Pu.ev (pSub rfl rfl)) fun a hf => ?_
          refine qE hf rfl rfl rfl (Pu.ev (pM rfl)) fun a hf => ?_
          refine qE hf rfl rfl rfl (Pu.ev (pSub rfl rfl)) fun a hf => ?_
          refine qE hf rfl rfl rfl (Pu.ev (pIA Try.underlying43 sz_3 rfl rfl qa)) fun a hf => ?_
          refine qE hf rfl rfl rfl (eLd1 sc_3 rfl (cell_row (sz := 1) (i := (W ((W (((able.length : Nat) : Int) - 1)) - x_4)).toNat) (j := 0) m0 qr rfl)) fun a hf => ?_
          refine qE hf rfl rfl rfl (Pu.ev (pFA fa_48_2 rfl)) fun a hf => ?_
          refine qE hf rfl rfl rfl (eLd1 sc_46 rfl (cell_box m7 rfl)) fun a hf => ?_
          refine qE hf rfl rfl rfl (Pu.ev (pLenS Try.underlying46 rfl)) fun a hf => ?_
          refine qE hf rfl rfl rfl (Pu.ev (pSub rfl rfl)) fun a hf => ?_
          refine qE hf rfl rfl rfl (Pu.ev (pM rfl)) fun a hf => ?_
          refine qE hf rfl rfl rfl (Pu.ev (pM rfl)) fun a hf => ?_
          refine qE hf rfl rfl rfl (Pu.ev (pIA Try.underlying43 sz_3 rfl rfl qa_1)) fun a hf => ?_
          refine qE hf rfl rfl rfl (eLd1 sc_3 rfl (cell_row (sz := 1) (i := x_4.toNat) (j := 0) m2 qr_1 rfl)) fun a hf => ?_
          refine qE hf rfl rfl rfl (Pu.ev (pSub rfl rfl)) fun a hf => ?_
          refine qE hf rfl rfl rfl (Pu.ev (pNe rfl rfl)) fun a hf => ?_
          intro w hc
          refine h30 _ _ ?_
          refine cCond (b := (e_1 != (W ((W (((r_3.1.Verticals.length : Nat) : Int) - 1)) - e_2)))) hf rfl (fun hb => ?_) (fun hb => ?_)
          · replace hF := condT hb hF
            clear hb
            refine wp_seq_k fun K31 h31 => ?_
            refine cReg ?_
            refine stP hf rfl rfl rfl (pA rfl) fun a hf => ?_
            refine cNil ?_
            refine h31 _ _ ?_
            refine wp_ret ?_
            refine xBlkR ?_
            refine xThenR ?_
            refine xThenR ?_
            have he := Option.some.inj hF
            rw [← he] at hfin22
            replace hF := ho22 _ hfin22
            refine xBlkR ?_
            refine xThenR ?_
            obtain rfl := hF
            replace hc := hc.drop k7
            replace hc := hc.drop k6
            replace hc := hc.drop k5
            replace hc := hc.drop k4
            replace hc := hc.drop k3
            replace hc := hc.drop k2
            replace hc := hc.drop k1
            replace hc := hc.drop k0
            exact fnOut1 (by simp) rfl Try.results5 hf hc (show look _ 8 = _ from rfl) ⟨rfl, hc⟩
          · replace hF := condF hb hF
            clear hb
            refine wp_skip ?_
            refine h28 _ _ ?_
            refine cReg ?_
            refine stP hf rfl rfl rfl (pAdd rfl rfl) fun a hf => ?_
            refine stP hf rfl rfl rfl (pM rfl) fun a hf => ?_
            refine cNil ?_
            exact hK22 (can, able, W (x_4 + 1)) _ _ (Option.some.inj hF).symm ⟨(some ⟨g_1, 0, none⟩), c_16, (some ⟨g, 0, none⟩), c_17, hf.keep ⟨rfl, rfl, rfl, rfl, rfl, rfl, rfl, trivial⟩, hc⟩
        · replace hF := condF hb hF
          clear hb
          refine wp_exit ?_
          refine xThen ?_
          refine xThen ?_
          have he := Option.some.inj hF
          rw [← he] at hfin22
          refine cHit ?_
          exact hr22 _ _ _ hfin22 ⟨p_16, c_16, p_17, c_17, hf.keep ⟨rfl, rfl, rfl, rfl, rfl, rfl, rfl, trivial⟩, hc⟩
    have ho12 : ∀ r, x12 = .out r → r = res := by
      rintro r rfl
      exact Option.some.inj hF
    refine cLoop N (loopW (S := S12) (x := x12) ?_ N (0, r_9) _ _ ⟨p_8, c_8, hf.keep ⟨rfl, rfl, rfl, rfl, rfl, rfl, rfl, trivial⟩, hc⟩ hx12)
    clear hF hf hc
    rintro ⟨x_2, x_3⟩ st12 a w KB12 ⟨p_11, c_11, hf, hc⟩ hF hfin12 hK12
    unfold law03_GaugeMirrored_b12 at hF
    refine wp_seq_k fun K32 h32 => ?_
    refine cReg ?_
    refine stP hf rfl rfl rfl (pLt rfl rfl) fun a hf => ?_
    refine cNil ?_
    refine h32 _ _ ?_
    refine wp_seq_k fun K33 h33 => ?_
    refine cCond (b := (decide (x_2 < ((r_9.length : Nat) : Int)))) hf rfl (fun hb => ?_) (fun hb => ?_)
    · replace hF := condT hb hF
      clear hb
      refine wp_skip ?_
      refine h33 _ _ ?_
      refine wp_seq_k fun K34 h34 => ?_
      refine wp_block ?_
      refine wp_seq_k fun K35 h35 => ?_
      refine cReg ?_
      refine stP hf rfl rfl rfl (pM rfl) fun a hf => ?_
      refine stP hf rfl rfl rfl (pA rfl) fun a hf => ?_
      refine cNil ?_
      refine h35 _ _ ?_
      obtain ⟨e_3, he_3, hF⟩ := bnd_some hF
      obtain ⟨g_2, rfl, qa_2, qr_2⟩ := row_atm hc m0 he_3
      obtain ⟨e_4, he_4, hF⟩ := bnd_some hF
      obtain ⟨qa_3, qr_3⟩ := row_atk hc m0 he_4
      refine regionE (fun θ => [⟨none, none, 3, .int .u16 permille⟩, ⟨none, none, 9, .pointer (some ⟨b_3, 0, none⟩)⟩, ⟨none, none, 10, .pointer (some ⟨b_5, 0, none⟩)⟩, ⟨none, none, 11, .pointer (some ⟨b_8, 0, none⟩)⟩, ⟨none, none, 12, .pointer (some ⟨b_9, 0, none⟩)⟩, ⟨none, none, 14, .int .i64 x_2⟩, ⟨none, none, 75, .int .i64 ((r_9.length : Nat) : Int)⟩, ⟨none, none, 76, .int .i64 x_2⟩, ⟨some 0, none, 79, .pointer (some ⟨b_9, 4, none⟩)⟩, ⟨some 1, none, 80, .slice (some ⟨g_2, 0, none⟩) x_3.length c_11⟩, ⟨some 2, none, 81, .int .i64 x_2⟩, ⟨some 3, none, 82, .pointer (some ⟨b_5, 0, none⟩)⟩, ⟨some 4, none, 83, .int .i64 r_5.1.Left⟩, ⟨some 5, none, 84, .pointer (some ⟨b_5, 1, none⟩)⟩, ⟨some 6, none, 85, .int .i64 r_5.1.Right⟩, ⟨some 7, none, 86, .int .i64 (W (r_5.1.Left + r_5.1.Right))⟩, ⟨some 8, none, 87, .pointer (some ⟨b_9, 4, none⟩)⟩, ⟨some 9, none, 88, .slice (some ⟨g_2, 0, none⟩) x_3.length c_11⟩, ⟨some 10, none, 89, .int .i64 x_2⟩, ⟨some 11, none, 90, .pointer (some ⟨g_2, x_2.toNat * 3, none⟩)⟩, ⟨some 12, none, 91, .pointer (some ⟨g_2, x_2.toNat * 3 + 0, none⟩)⟩, ⟨some 13, none, 92, .int .i64 e_3.At⟩, ⟨some 14, none, 93, .int .i64 (W ((W (r_5.1.Left + r_5.1.Right)) - e_3.At))⟩, ⟨some 15, none, 94, .pointer (some ⟨g_2, x_2.toNat * 3, none⟩)⟩, ⟨some 16, none, 95, .pointer (some ⟨g_2, x_2.toNat * 3 + 0, none⟩)⟩]) (fun E θ => (bif E 17 then .row (some ⟨g_2, 0, none⟩) c_11 ((x_3.set x_2.toNat (⟨W ((W (r_5.1.Left + r_5.1.Right)) - e_3.At), e_4.Depth, e_4.Cost⟩ : gauge_Point)).map enc_gauge_Point) 64 3 else .row (some ⟨g_2, 0, none⟩) c_11 (x_3.map enc_gauge_Point) 64 3) :: .row p_10 c_10 (x_1.map enc_gauge_Vertical) 61 5 :: .box b_9 [.int .i64 r_7.Left, .int .i64 r_7.Right, .int .i64 r_7.Gap, .int .i64 r_7.Step_, .slice (some ⟨g_2, 0, none⟩) x_3.length c_11] 55 :: .box b_8 [.int .i64 r_6.Left, .int .i64 r_6.Right, .slice p_10 x_1.length c_10] 48 :: .box b_5 [.int .i64 r_5.1.Left, .int .i64 r_5.1.Right, .int .i64 r_5.1.Gap, .int .i64 r_5.1.Step_, .slice p_5 r_5.1.Points.length c_5] 55 :: .row p_5 c_5 (r_5.1.Points.map enc_gauge_Point) 64 3 :: .box b_3 [.int .i64 r_3.1.Left, .int .i64 r_3.1.Right, .slice p_4 r_3.1.Verticals.length c_4] 48 :: .row p_4 c_4 (r_3.1.Verticals.map enc_gauge_Vertical) 61 5 :: Lf) [(17, 11), (17, 13), (16, 15), (17, 16)] (fun a w => Has 212 a [(3, .int .u16 permille), (9, .pointer (some ⟨b_3, 0, none⟩)), (10, .pointer (some ⟨b_5, 0, none⟩)), (11, .pointer (some ⟨b_8, 0, none⟩)), (12, .pointer (some ⟨b_9, 0, none⟩)), (75, .int .i64 ((r_9.length : Nat) : Int)), (76, .int .i64 x_2)] ∧ Ctx G (.row (some ⟨g_2, 0, none⟩) c_11 ((x_3.set x_2.toNat (⟨W ((W (r_5.1.Left + r_5.1.Right)) - e_3.At), e_4.Depth, e_4.Cost⟩ : gauge_Point)).map enc_gauge_Point) 64 3 :: .row p_10 c_10 (x_1.map enc_gauge_Vertical) 61 5 :: .box b_9 [.int .i64 r_7.Left, .int .i64 r_7.Right, .int .i64 r_7.Gap, .int .i64 r_7.Step_, .slice (some ⟨g_2, 0, none⟩) x_3.length c_11] 55 :: .box b_8 [.int .i64 r_6.Left, .int .i64 r_6.Right, .slice p_10 x_1.length c_10] 48 :: .box b_5 [.int .i64 r_5.1.Left, .int .i64 r_5.1.Right, .int .i64 r_5.1.Gap, .int .i64 r_5.1.Step_, .slice p_5 r_5.1.Points.length c_5] 55 :: .row p_5 c_5 (r_5.1.Points.map enc_gauge_Point) 64 3 :: .box b_3 [.int .i64 r_3.1.Left, .int .i64 r_3.1.Right, .slice p_4 r_3.1.Verticals.length c_4] 48 :: .row p_4 c_4 (r_3.1.Verticals.map enc_gauge_Vertical) 61 5 :: Lf) w) follows_mx (by kernel_rfl) (by kernel_rfl) (HasE.of hf ⟨rfl, rfl, rfl, rfl, rfl, rfl, rfl, rfl, trivial, trivial, trivial, trivial, trivial, trivial, trivial, trivial, trivial, trivial, trivial, trivial, trivial, trivial, trivial, trivial, trivial, trivial⟩) hc ⟨?_, ?_, ?_, ?_, ?_, ?_, ?_, ?_, ?_, ?_, ?_, ?_, ?_, ?_, ?_, ?_, ?_, ?_, trivial⟩ ?_ ?_
      · intro E θ a w hD hi hp he hc
        have hf := he.h0
        replace hf := hf.more he 4 rfl onT
        refine stP hf rfl rfl rfl (pFA fa_55_4 rfl) fun a hf => ?_
        refine cNil ?_
        refine xThenN ?_
        intro ds u hau
        refine ⟨θ, he.put0 hi hau hf rfl 8 rfl rfl, ?_⟩
        exact hc
      · intro E θ a w hD hi hp he hc
        have e0 := hp.of (k := 0) rfl
        have hf := he.h0
        replace hf := hf.more he 8 rfl (onP e0)
        refine stE hf hc rfl rfl rfl (eLd1 sc_53 rfl (cell_box m2 rfl)) fun a w hf hc => ?_
        refine cNil ?_
        refine xThenN ?_
        intro ds u hau
        refine ⟨θ, he.put0 hi hau hf rfl 9 rfl rfl, ?_⟩
        exact hc
      · intro E θ a w hD hi hp he hc
        have hf := he.h0
        replace hf := hf.more he 5 rfl onT
        refine stP hf rfl rfl rfl (pM rfl) fun a hf => ?_
        refine cNil ?_
        refine xThenN ?_
        intro ds u hau
        refine ⟨θ, he.put0 hi hau hf rfl 10 rfl rfl, ?_⟩
        exact hc
      · intro E θ a w hD hi hp he hc
        have hf := he.h0
        replace hf := hf.more he 2 rfl onT
        refine stP hf rfl rfl rfl (pFA fa_55_0 rfl) fun a hf => ?_
        refine cNil ?_
        refine xThenN ?_
        intro ds u hau
        refine ⟨θ, he.put0 hi hau hf rfl 11 rfl rfl, ?_⟩
        exact hc
      · intro E θ a w hD hi hp he hc
        have e3 := hp.of (k := 3) rfl
        have hf := he.h0
        replace hf := hf.more he 11 rfl (onP e3)
        refine stE hf hc rfl rfl rfl (eLd1 sc_3 rfl (cell_box m4 rfl)) fun a w hf hc => ?_
        refine cNil ?_
        refine xThenN ?_
        intro ds u hau
        refine ⟨θ, he.put0 hi hau hf rfl 12 rfl rfl, ?_⟩
        exact hc
      · intro E θ a w hD hi hp he hc
        have hf := he.h0
        replace hf := hf.more he 2 rfl onT
        refine stP hf rfl rfl rfl (pFA fa_55_1 rfl) fun a hf => ?_
        refine cNil ?_
        refine xThenN ?_
        intro ds u hau
        refine ⟨θ, he.put0 hi hau hf rfl 13 rfl rfl, ?_⟩
        exact hc
      · intro E θ a w hD hi hp he hc
        have e5 := hp.of (k := 5) rfl
        have hf := he.h0
        replace hf := hf.more he 13 rfl (onP e5)
        refine stE hf hc rfl rfl rfl (eLd1 sc_3 rfl (cell_box m4 rfl)) fun a w hf hc => ?_
        refine cNil ?_
        refine xThenN ?_
        intro ds u hau
        refine ⟨θ, he.put0 hi hau hf rfl 14 rfl rfl, ?_⟩
        exact hc
      · intro E θ a w hD hi hp he hc
        have e4 := hp.of (k := 4) rfl
        have e6 := hp.of (k := 6) rfl
        have hf := he.h0
        replace hf := hf.more he 12 rfl (onP e4)
        replace hf := hf.more he 14 rfl (onP e6)
        refine stP hf rfl rfl rfl (pAdd rfl rfl) fun a hf => ?_
        refine cNil ?_
        refine xThenN ?_
        intro ds u hau
        refine ⟨θ, he.put0 hi hau hf rfl 15 rfl rfl, ?_⟩
        exact hc
      · intro E θ a w hD hi hp he hc
        have hf := he.h0
        replace hf := hf.more he 4 rfl onT
        refine stP hf rfl rfl rfl (pFA fa_55_4 rfl) fun a hf => ?_
        refine cNil ?_
        refine xThenN ?_
        intro ds u hau
        refine ⟨θ, he.put0 hi hau hf rfl 16 rfl rfl, ?_⟩
        exact hc
      · intro E θ a w hD hi hp he hc
        have e8 := hp.of (k := 8) rfl
        have hf := he.h0
        replace hf := hf.more he 16 rfl (onP e8)
        refine stE hf hc rfl rfl rfl (eLd1 sc_53 rfl (cell_box m2 rfl)) fun a w hf hc => ?_
        refine cNil ?_
        refine xThenN ?_
        intro ds u hau
        refine ⟨θ, he.put0 hi hau hf rfl 17 rfl rfl, ?_⟩
        exact hc
      · intro E θ a w hD hi hp he hc
        have hf := he.h0
        replace hf := hf.more he 5 rfl onT
        refine stP hf rfl rfl rfl (pM rfl) fun a hf => ?_
        refine cNil ?_
        refine xThenN ?_
        intro ds u hau
        refine ⟨θ, he.put0 hi hau hf rfl 18 rfl rfl, ?_⟩
        exact hc
      · intro E θ a w hD hi hp he hc
        have e9 := hp.of (k := 9) rfl
        have e10 := hp.of (k := 10) rfl
        have e17 := hD.f 0 rfl hi
        try dsimp only at hc
        rw [e17] at hc
        have hf := he.h0
        replace hf := hf.more he 17 rfl (onP e9)
        replace hf := hf.more he 18 rfl (onP e10)
        refine stP hf rfl rfl rfl (pIA Try.underlying53 sz_64 rfl rfl qa_2) fun a hf => ?_
        refine cNil ?_
        refine xThenN ?_
        intro ds u hau
        refine ⟨θ, he.put0 hi hau hf rfl 19 rfl rfl, ?_⟩
        try dsimp only
        rw [updE_fls 11 e17 rfl]
        exact hc
      · intro E θ a w hD hi hp he hc
        have e11 := hp.of (k := 11) rfl
        have hf := he.h0
        replace hf := hf.more he 19 rfl (onP e11)
        refine stP hf rfl rfl rfl (pFA fa_64_0 rfl) fun a hf => ?_
        refine cNil ?_
        refine xThenN ?_
        intro ds u hau
        refine ⟨θ, he.put0 hi hau hf rfl 20 rfl rfl, ?_⟩
        exact hc
      · intro E θ a w hD hi hp he hc
        have e12 := hp.of (k := 12) rfl
        have e17 := hD.f 1 rfl hi
        try dsimp only at hc
        rw [e17] at hc
        have hf := he.h0
        replace hf := hf.more he 20 rfl (onP e12)
        refine stE hf hc rfl rfl rfl (eLd1 sc_3 rfl (cell_row (sz := 3) (i := x_2.toNat) (j := 0) m0 qr_2 rfl)) fun a w hf hc => ?_
        refine cNil ?_
        refine xThenN ?_
        intro ds u hau
        refine ⟨θ, he.put0 hi hau hf rfl 21 rfl rfl, ?_⟩
        try dsimp only
        rw [updE_fls 13 e17 rfl]
        exact hc
      · intro E θ a w hD hi hp he hc
        have e7 := hp.of (k := 7) rfl
        have e13 := hp.of (k := 13) rfl
        have hf := he.h0
        replace hf := hf.more he 15 rfl (onP e7)
        replace hf := hf.more he 21 rfl (onP e13)
        refine stP hf rfl rfl rfl (pSub rfl rfl) fun a hf => ?_
        refine cNil ?_
        refine xThenN ?_
        intro ds u hau
        refine ⟨θ, he.put0 hi hau hf rfl 22 rfl rfl, ?_⟩
        exact hc
      · intro E θ a w hD hi hp he hc
        have e1 := hp.of (k := 1) rfl
        have e2 := hp.of (k := 2) rfl
        have e16 := hD.f 2 rfl hi
        have e17 := hD.f 3 rfl e16
        try dsimp only at hc
        rw [e17] at hc
        have hf := he.h0
        replace hf := hf.more he 9 rfl (onP e1)
        replace hf := hf.more he 10 rfl (onP e2)
        refine stP hf rfl rfl rfl (pIA Try.underlying53 sz_64 rfl rfl qa_3) fun a hf => ?_
        refine cNil ?_
        refine xThenN ?_
        intro ds u hau
        refine ⟨θ, he.put0 hi hau hf rfl 23 rfl rfl, ?_⟩
        try dsimp only
        rw [updE_fls 15 e17 rfl]
        exact hc
      · intro E θ a w hD hi hp he hc
        have e15 := hp.of (k := 15) rfl
        have hf := he.h0
        replace hf := hf.more he 23 rfl (onP e15)
        refine stP hf rfl rfl rfl (pFA fa_64_0 rfl) fun a hf => ?_
        refine cNil ?_
        refine xThenN ?_
        intro ds u hau
        refine ⟨θ, he.put0 hi hau hf rfl 24 rfl rfl, ?_⟩
        exact hc
      · intro E θ a w hD hi hp he hc
        have e14 := hp.of (k := 14) rfl
        have e16 := hp.of (k := 16) rfl
        try dsimp only at hc
        rw [hi] at hc
        have hf := he.h0
        replace hf := hf.more he 22 rfl (onP e14)
        replace hf := hf.more he 24 rfl (onP e16)
        refine stRw (vs := [.int .i64 (W ((W (r_5.1.Left + r_5.1.Right)) - e_3.At))]) (o' := 0) (z := (⟨W ((W (r_5.1.Left + r_5.1.Right)) - e_3.At), e_4.Depth, e_4.Cost⟩ : gauge_Point)) (xs := x_3) hf hc rfl rfl rfl rfl sz_3 rfl (fun x => (one_enc_gauge_Point x).1) (getI_lt he_4) (fun e' he' => by cases (he'.symm.trans (getI_spec he_4).2); rfl) rfl u0 fun w hc => ?_
        refine cNil ?_
        refine xThenN ?_
        intro ds u hau
        refine ⟨θ, he.stay0 hi hau hf rfl, ?_⟩
        try dsimp only
        rw [updE_self E 17]
        exact hc
      · intro E θ a w hall he hc
        have hf := he.h0
        have e17 := hall 17 rfl
        replace hf := hf.more he 7 rfl (onT)
        replace hf := hf.more he 6 rfl (onT)
        replace hf := hf.more he 4 rfl (onT)
        replace hf := hf.more he 3 rfl (onT)
        replace hf := hf.more he 2 rfl (onT)
        replace hf := hf.more he 1 rfl (onT)
        replace hf := hf.more he 0 rfl (onT)
        try dsimp only at hc
        rw [e17] at hc
        exact ⟨hf.keep ⟨rfl, rfl, rfl, rfl, rfl, rfl, rfl, trivial⟩, hc⟩
      rintro a w ⟨hf, hc⟩
      refine h34 _ _ ?_
      refine cReg ?_
      refine stP hf rfl rfl rfl (pAdd rfl rfl) fun a hf => ?_
      refine stP hf rfl rfl rfl (pM rfl) fun a hf => ?_
      refine cNil ?_
      rw [(by simp : x_3.length = (x_3.set x_2.toNat (⟨W ((W (r_5.1.Left + r_5.1.Right)) - e_3.At), e_4.Depth, e_4.Cost⟩ : gauge_Point)).length)] at hc
      exact hK12 (W (x_2 + 1), (x_3.set x_2.toNat (⟨W ((W (r_5.1.Left + r_5.1.Right)) - e_3.At), e_4.Depth, e_4.Cost⟩ : gauge_Point))) _ _ (Option.some.inj hF).symm ⟨(some ⟨g_2, 0, none⟩), c_11, hf.keep ⟨rfl, rfl, rfl, rfl, rfl, rfl, rfl, trivial⟩, hc⟩
    · replace hF := condF hb hF
      clear hb
      refine wp_exit ?_
      refine xThen ?_
      refine xThen ?_
      have he := Option.some.inj hF
      rw [← he] at hfin12
      refine cHit ?_
      exact hr12 _ _ _ hfin12 ⟨p_11, c_11, hf.keep ⟨rfl, rfl, rfl, rfl, rfl, rfl, rfl, trivial⟩, hc⟩
  have ho9 : ∀ r, x9 = .out r → r = res := by
    rintro r rfl
    exact Option.some.inj hF
  replace hc := hc.drop k13
  replace hc := hc.drop k12
  replace hc := hc.drop k10
  replace hc := hc.drop k9
  replace hc := hc.drop k8
  replace hc := hc.drop k6
  refine cLoop N (loopW (S := S9) (x := x9) ?_ N (0, r_8) _ _ ⟨p_9, c_9, hf.keep ⟨rfl, rfl, rfl, rfl, rfl, rfl, rfl, trivial⟩, hc⟩ hx9)
  clear hF hf hc
  rintro ⟨x, x_1⟩ st9 a w KB9 ⟨p_10, c_10, hf, hc⟩ hF hfin9 hK9
  unfold law03_GaugeMirrored_b9 at hF
  refine wp_seq_k fun K36 h36 => ?_
  refine cReg ?_
  refine stP hf rfl rfl rfl (pLt rfl rfl) fun a hf => ?_
  refine cNil ?_
  refine h36 _ _ ?_
  refine wp_seq_k fun K37 h37 => ?_
  refine cCond (b := (decide (x < ((r_8.length : Nat) : Int)))) hf rfl (fun hb => ?_) (fun hb => ?_)
  · replace hF := condT hb hF
    clear hb
    refine wp_skip ?_
    refine h37 _ _ ?_
    refine wp_seq_k fun K38 h38 => ?_
    refine wp_block ?_
    refine wp_seq_k fun K39 h39 => ?_
    refine cReg ?_
    refine stP hf rfl rfl rfl (pM rfl) fun a hf => ?_
    refine stP hf rfl rfl rfl (pA rfl) fun a hf => ?_
    refine cNil ?_
    refine h39 _ _ ?_
    obtain ⟨e_5, he_5, hF⟩ := bnd_some hF
    obtain ⟨g_3, rfl, qa_4, qr_4⟩ := row_atm hc m1 he_5
    obtain ⟨e_6, he_6, hF⟩ := bnd_some hF
    obtain ⟨qa_5, qr_5⟩ := row_atk hc m1 he_6
    refine regionE (fun θ => [⟨none, none, 3, .int .u16 permille⟩, ⟨none, none, 9, .pointer (some ⟨b_3, 0, none⟩)⟩, ⟨none, none, 10, .pointer (some ⟨b_5, 0, none⟩)⟩, ⟨none, none, 11, .pointer (some ⟨b_8, 0, none⟩)⟩, ⟨none, none, 12, .pointer (some ⟨b_9, 0, none⟩)⟩, ⟨none, none, 13, .int .i64 x⟩, ⟨none, none, 51, .int .i64 ((r_8.length : Nat) : Int)⟩, ⟨none, none, 52, .int .i64 x⟩, ⟨some 0, none, 55, .pointer (some ⟨b_8, 2, none⟩)⟩, ⟨some 1, none, 56, .slice (some ⟨g_3, 0, none⟩) x_1.length c_10⟩, ⟨some 2, none, 57, .int .i64 x⟩, ⟨some 3, none, 58, .pointer (some ⟨b_3, 0, none⟩)⟩, ⟨some 4, none, 59, .int .i64 r_3.1.Left⟩, ⟨some 5, none, 60, .pointer (some ⟨b_3, 1, none⟩)⟩, ⟨some 6, none, 61, .int .i64 r_3.1.Right⟩, ⟨some 7, none, 62, .int .i64 (W (r_3.1.Left + r_3.1.Right))⟩, ⟨some 8, none, 63, .pointer (some ⟨b_8, 2, none⟩)⟩, ⟨some 9, none, 64, .slice (some ⟨g_3, 0, none⟩) x_1.length c_10⟩, ⟨some 10, none, 65, .int .i64 x⟩, ⟨some 11, none, 66, .pointer (some ⟨g_3, x.toNat * 5, none⟩)⟩, ⟨some 12, none, 67, .pointer (some ⟨g_3, x.toNat * 5 + 0, none⟩)⟩, ⟨some 13, none, 68, .int .i64 e_5.At⟩, ⟨some 14, none, 69, .int .i64 (W ((W (r_3.1.Left + r_3.1.Right)) - e_5.At))⟩, ⟨some 15, none, 70, .pointer (some ⟨g_3, x.toNat * 5, none⟩)⟩, ⟨some 16, none, 71, .pointer (some ⟨g_3, x.toNat * 5 + 0, none⟩)⟩]) (fun E θ => .row p_8 c_8 (r_9.map enc_gauge_Point) 64 3 :: (bif E 17 then .row (some ⟨g_3, 0, none⟩) c_10 ((x_1.set x.toNat (⟨W ((W (r_3.1.Left + r_3.1.Right)) - e_5.At), e_6.Depth, e_6.Speed⟩ : gauge_Vertical)).map enc_gauge_Vertical) 61 5 else .row (some ⟨g_3, 0, none⟩) c_10 (x_1.map enc_gauge_Vertical) 61 5) :: .box b_9 [.int .i64 r_7.Left, .int .i64 r_7.Right, .int .i64 r_7.Gap, .int .i64 r_7.Step_, .slice p_8 r_9.length c_8] 55 :: .box b_8 [.int .i64 r_6.Left, .int .i64 r_6.Right, .slice (some ⟨g_3, 0, none⟩) x_1.length c_10] 48 :: .box b_5 [.int .i64 r_5.1.Left, .int .i64 r_5.1.Right, .int .i64 r_5.1.Gap, .int .i64 r_5.1.Step_, .slice p_5 r_5.1.Points.length c_5] 55 :: .row p_5 c_5 (r_5.1.Points.map enc_gauge_Point) 64 3 :: .box b_3 [.int .i64 r_3.1.Left, .int .i64 r_3.1.Right, .slice p_4 r_3.1.Verticals.length c_4] 48 :: .row p_4 c_4 (r_3.1.Verticals.map enc_gauge_Vertical) 61 5 :: Lf) [(17, 11), (17, 13), (16, 15), (17, 16)] (fun a w => Has 212 a [(3, .int .u16 permille), (9, .pointer (some ⟨b_3, 0, none⟩)), (10, .pointer (some ⟨b_5, 0, none⟩)), (11, .pointer (some ⟨b_8, 0, none⟩)), (12, .pointer (some ⟨b_9, 0, none⟩)), (51, .int .i64 ((r_8.length : Nat) : Int)), (52, .int .i64 x)] ∧ Ctx G (.row p_8 c_8 (r_9.map enc_gauge_Point) 64 3 :: .row (some ⟨g_3, 0, none⟩) c_10 ((x_1.set x.toNat (⟨W ((W (r_3.1.Left + r_3.1.Right)) - e_5.At), e_6.Depth, e_6.Speed⟩ : gauge_Vertical)).map enc_gauge_Vertical) 61 5 :: .box b_9 [.int .i64 r_7.Left, .int .i64 r_7.Right, .int .i64 r_7.Gap, .int .i64 r_7.Step_, .slice p_8 r_9.length c_8] 55 :: .box b_8 [.int .i64 r_6.Left, .int .i64 r_6.Right, .slice (some ⟨g_3, 0, none⟩) x_1.length c_10] 48 :: .box b_5 [.int .i64 r_5.1.Left, .int .i64 r_5.1.Right, .int .i64 r_5.1.Gap, .int .i64 r_5.1.Step_, .slice p_5 r_5.1.Points.length c_5] 55 :: .row p_5 c_5 (r_5.1.Points.map enc_gauge_Point) 64 3 :: .box b_3 [.int .i64 r_3.1.Left, .int .i64 r_3.1.Right, .slice p_4 r_3.1.Verticals.length c_4] 48 :: .row p_4 c_4 (r_3.1.Verticals.map enc_gauge_Vertical) 61 5 :: Lf) w) follows_mx (by kernel_rfl) (by kernel_rfl) (HasE.of hf ⟨rfl, rfl, rfl, rfl, rfl, rfl, rfl, rfl, trivial, trivial, trivial, trivial, trivial, trivial, trivial, trivial, trivial, trivial, trivial, trivial, trivial, trivial, trivial, trivial, trivial, trivial⟩) hc ⟨?_, ?_, ?_, ?_, ?_, ?_, ?_, ?_, ?_, ?_, ?_, ?_, ?_, ?_, ?_, ?_, ?_, ?_, trivial⟩ ?_ ?_
    · intro E θ a w hD hi hp he hc
      have hf := he.h0
      replace hf := hf.more he 3 rfl onT
      refine stP hf rfl rfl rfl (pFA fa_48_2 rfl) fun a hf => ?_
      refine cNil ?_
      refine xThenN ?_
      intro ds u hau
      refine ⟨θ, he.put0 hi hau hf rfl 8 rfl rfl, ?_⟩
      exact hc
    · intro E θ a w hD hi hp he hc
      have e0 := hp.of (k := 0) rfl
      have hf := he.h0
      replace hf := hf.more he 8 rfl (onP e0)
      refine stE hf hc rfl rfl rfl (eLd1 sc_46 rfl (cell_box m3 rfl)) fun a w hf hc => ?_
      refine cNil ?_
      refine xThenN ?_
      intro ds u hau
      refine ⟨θ, he.put0 hi hau hf rfl 9 rfl rfl, ?_⟩
      exact hc
    · intro E θ a w hD hi hp he hc
      have hf := he.h0
      replace hf := hf.more he 5 rfl onT
      refine stP hf rfl rfl rfl (pM rfl) fun a hf => ?_
      refine cNil ?_
      refine xThenN ?_
      intro ds u hau
      refine ⟨θ, he.put0 hi hau hf rfl 10 rfl rfl, ?_⟩
      exact hc
    · intro E θ a w hD hi hp he hc
      have hf := he.h0
      replace hf := hf.more he 1 rfl onT
      refine stP hf rfl rfl rfl (pFA fa_48_0 rfl) fun a hf => ?_
      refine cNil ?_
      refine xThenN ?_
      intro ds u hau
      refine ⟨θ, he.put0 hi hau hf rfl 11 rfl rfl, ?_⟩
      exact hc
    · intro E θ a w hD hi hp he hc
      have e3 := hp.of (k := 3) rfl
      have hf := he.h0
      replace hf := hf.more he 11 rfl (onP e3)
      refine stE hf hc rfl rfl rfl (eLd1 sc_3 rfl (cell_box m6 rfl)) fun a w hf hc => ?_
      refine cNil ?_
      refine xThenN ?_
      intro ds u hau
      refine ⟨θ, he.put0 hi hau hf rfl 12 rfl rfl, ?_⟩
      exact hc
    · intro E θ a w hD hi hp he hc
      have hf := he.h0
      replace hf := hf.more he 1 rfl onT
      refine stP hf rfl rfl rfl (pFA fa_48_1 rfl) fun a hf => ?_
      refine cNil ?_
      refine xThenN ?_
      intro ds u hau
      refine ⟨θ, he.put0 hi hau hf rfl 13 rfl rfl, ?_⟩
      exact hc
    · intro E θ a w hD hi hp he hc
      have e5 := hp.of (k := 5) rfl
      have hf := he.h0
      replace hf := hf.more he 13 rfl (onP e5)
      refine stE hf hc rfl rfl rfl (eLd1 sc_3 rfl (cell_box m6 rfl)) fun a w hf hc => ?_
      refine cNil ?_
      refine xThenN ?_
      intro ds u hau
      refine ⟨θ, he.put0 hi hau hf rfl 14 rfl rfl, ?_⟩
      exact hc
    · intro E θ a w hD hi hp he hc
      have e4 := hp.of (k := 4) rfl
      have e6 := hp.of (k := 6) rfl
      have hf := he.h0
      replace hf := hf.more he 12 rfl (onP e4)
      replace hf := hf.more he 14 rfl (onP e6)
      refine stP hf rfl rfl rfl (pAdd rfl rfl) fun a hf => ?_
      refine cNil ?_
      refine xThenN ?_
      intro ds u hau
      refine ⟨θ, he.put0 hi hau hf rfl 15 rfl rfl, ?_⟩
      exact hc
    · intro E θ a w hD hi hp he hc
      have hf := he.h0
      replace hf := hf.more he 3 rfl onT
      refine stP hf rfl rfl rfl (pFA fa_48_2 rfl) fun a hf => ?_
      refine cNil ?_
      refine xThenN ?_
      intro ds u hau
      refine ⟨θ, he.put0 hi hau hf rfl 16 rfl rfl, ?_⟩
      exact hc
    · intro E θ a w hD hi hp he hc
      have e8 := hp.of (k := 8) rfl
      have hf := he.h0
      replace hf := hf.more he 16 rfl (onP e8)
      refine stE hf hc rfl rfl rfl (eLd1 sc_46 rfl (cell_box m3 rfl)) fun a w hf hc => ?_
      refine cNil ?_
      refine xThenN ?_
      intro ds u hau
      refine ⟨θ, he.put0 hi hau hf rfl 17 rfl rfl, ?_⟩
      exact hc
    · intro E θ a w hD hi hp he hc
      have hf := he.h0
      replace hf := hf.more he 5 rfl onT
      refine stP hf rfl rfl rfl (pM rfl) fun a hf => ?_
      refine cNil ?_
      refine xThenN ?_
      intro ds u hau
      refine ⟨θ, he.put0 hi hau hf rfl 18 rfl rfl, ?_⟩
      exact hc
    · intro E θ a w hD hi hp he hc
      have e9 := hp.of (k := 9) rfl
      have e10 := hp.of (k := 10) rfl
      have e17 := hD.f 0 rfl hi
      try dsimp only at hc
      rw [e17] at hc
      have hf := he.h0
      replace hf := hf.more he 17 rfl (onP e9)
      replace hf := hf.more he 18 rfl (onP e10)
      refine stP hf rfl rfl rfl (pIA Try.underlying46 sz_61 rfl rfl qa_4) fun a hf => ?_
      refine cNil ?_
      refine xThenN ?_
      intro ds u hau
      refine ⟨θ, he.put0 hi hau hf rfl 19 rfl rfl, ?_⟩
      try dsimp only
      rw [updE_fls 11 e17 rfl]
      exact hc
    · intro E θ a w hD hi hp he hc
      have e11 := hp.of (k := 11) rfl
      have hf := he.h0
      replace hf := hf.more he 19 rfl (onP e11)
      refine stP hf rfl rfl rfl (pFA fa_61_0 rfl) fun a hf => ?_
      refine cNil ?_
      refine xThenN ?_
      intro ds u hau
      refine ⟨θ, he.put0 hi hau hf rfl 20 rfl rfl, ?_⟩
      exact hc
    · intro E θ a w hD hi hp he hc
      have e12 := hp.of (k := 12) rfl
      have e17 := hD.f 1 rfl hi
      try dsimp only at hc
      rw [e17] at hc
      have hf := he.h0
      replace hf := hf.more he 20 rfl (onP e12)
      refine stE hf hc rfl rfl rfl (eLd1 sc_3 rfl (cell_row (sz := 5) (i := x.toNat) (j := 0) m1 qr_4 rfl)) fun a w hf hc => ?_
      refine cNil ?_
      refine xThenN ?_
      intro ds u hau
      refine ⟨θ, he.put0 hi hau hf rfl 21 rfl rfl, ?_⟩
      try dsimp only
      rw [updE_fls 13 e17 rfl]
      exact hc
    · intro E θ a w hD hi hp he hc
      have e7 := hp.of (k := 7) rfl
      have e13 := hp.of (k := 13) rfl
      have hf := he.h0
      replace hf := hf.more he 15 rfl (onP e7)
      replace hf := hf.more he 21 rfl (onP e13)
      refine stP hf rfl rfl rfl (pSub rfl rfl) fun a hf => ?_
      refine cNil ?_
      refine xThenN ?_
      intro ds u hau
      refine ⟨θ, he.put0 hi hau hf rfl 22 rfl rfl, ?_⟩
      exact hc
    · intro E θ a w hD hi hp he hc
      have e1 := hp.of (k := 1) rfl
      have e2 := hp.of (k := 2) rfl
      have e16 := hD.f 2 rfl hi
      have e17 := hD.f 3 rfl e16
      try dsimp only at hc
      rw [e17] at hc
      have hf := he.h0
      replace hf := hf.more he 9 rfl (onP e1)
      replace hf := hf.more he 10 rfl (onP e2)
      refine stP hf rfl rfl rfl (pIA Try.underlying46 sz_61 rfl rfl qa_5) fun a hf => ?_
      refine cNil ?_
      refine xThenN ?_
      intro ds u hau
      refine ⟨θ, he.put0 hi hau hf rfl 23 rfl rfl, ?_⟩
      try dsimp only
      rw [updE_fls 15 e17 rfl]
      exact hc
    · intro E θ a w hD hi hp he hc
      have e15 := hp.of (k := 15) rfl
      have hf := he.h0
      replace hf := hf.more he 23 rfl (onP e15)
      refine stP hf rfl rfl rfl (pFA fa_61_0 rfl) fun a hf => ?_
      refine cNil ?_
      refine xThenN ?_
      intro ds u hau
      refine ⟨θ, he.put0 hi hau hf rfl 24 rfl rfl, ?_⟩
      exact hc
    · intro E θ a w hD hi hp he hc
      have e14 := hp.of (k := 14) rfl
      have e16 := hp.of (k := 16) rfl
      try dsimp only at hc
      rw [hi] at hc
      have hf := he.h0
      replace hf := hf.more he 22 rfl (onP e14)
      replace hf := hf.more he 24 rfl (onP e16)
      refine stRw (vs := [.int .i64 (W ((W (r_3.1.Left + r_3.1.Right)) - e_5.At))]) (o' := 0) (z := (⟨W ((W (r_3.1.Left + r_3.1.Right)) - e_5.At), e_6.Depth, e_6.Speed⟩ : gauge_Vertical)) (xs := x_1) hf hc rfl rfl rfl rfl sz_3 rfl (fun x => (one_enc_gauge_Vertical x).1) (getI_lt he_6) (fun e' he' => by cases (he'.symm.trans (getI_spec he_6).2); rfl) rfl u1 fun w hc => ?_
      refine cNil ?_
      refine xThenN ?_
      intro ds u hau
      refine ⟨θ, he.stay0 hi hau hf rfl, ?_⟩
      try dsimp only
      rw [updE_self E 17]
      exact hc
    · intro E θ a w hall he hc
      have hf := he.h0
      have e17 := hall 17 rfl
      replace hf := hf.more he 7 rfl (onT)
      replace hf := hf.more he 6 rfl (onT)
      replace hf := hf.more he 4 rfl (onT)
      replace hf := hf.more he 3 rfl (onT)
      replace hf := hf.more he 2 rfl (onT)
      replace hf := hf.more he 1 rfl (onT)
      replace hf := hf.more he 0 rfl (onT)
      try dsimp only at hc
      rw [e17] at hc
      exact ⟨hf.keep ⟨rfl, rfl, rfl, rfl, rfl, rfl, rfl, trivial⟩, hc⟩
    rintro a w ⟨hf, hc⟩
    refine h38 _ _ ?_
    refine cReg ?_
    refine stP hf rfl rfl rfl (pAdd rfl rfl) fun a hf => ?_
    refine stP hf rfl rfl rfl (pM rfl) fun a hf => ?_
    refine cNil ?_
    rw [(by simp : x_1.length = (x_1.set x.toNat (⟨W ((W (r_3.1.Left + r_3.1.Right)) - e_5.At), e_6.Depth, e_6.Speed⟩ : gauge_Vertical)).length)] at hc
    exact hK9 (W (x + 1), (x_1.set x.toNat (⟨W ((W (r_3.1.Left + r_3.1.Right)) - e_5.At), e_6.Depth, e_6.Speed⟩ : gauge_Vertical))) _ _ (Option.some.inj hF).symm ⟨(some ⟨g_3, 0, none⟩), c_10, hf.keep ⟨rfl, rfl, rfl, rfl, rfl, rfl, rfl, trivial⟩, hc⟩
  · replace hF := condF hb hF
    clear hb
    refine wp_exit ?_
    refine xThen ?_
    refine xThen ?_
    have he := Option.some.inj hF
    rw [← he] at hfin9
    refine cHit ?_
    exact hr9 _ _ _ hfin9 ⟨p_10, c_10, hf.keep ⟨rfl, rfl, rfl, rfl, rfl, rfl, rfl, trivial⟩, hc⟩

end Go.Nilo
