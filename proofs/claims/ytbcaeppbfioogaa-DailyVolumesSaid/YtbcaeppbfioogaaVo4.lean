/-
  What functions of the Go text compute, as plain functions, and that they do, part 4 of 4. Conditions: what each theorem names.
-/
import Derived.Test.YtbcaeppbfioogaaVo3
import Derived.Test.YtbcaeppbfioogaaProg
set_option linter.unusedVariables false
set_option linter.unusedSimpArgs false
set_option maxRecDepth 100000
set_option maxHeartbeats 4000000
namespace Go.Nilo
open Go.Proofs


def law07_DailyVolumes (N : Nat) (r : daily_Record) (from_ : Int) (to_ : Int) (published : List api_Span) : Option (Bool) :=
  cond ((decide (65 < ((r.Days.length : Nat) : Int))) || (decide (70 < ((published.length : Nat) : Int))))
  (Option.bind (law07_awake N) fun r_0 =>
  some r_0)
  (Option.bind (law07_CopyRecord N r) fun r_1 =>
  Option.bind (kit_Copy_api_Span N published) fun r_2 =>
  Option.bind (daily_Volume N r_1 from_ to_) fun r_3 =>
  Option.bind (law07_Record N r) fun r_4 =>
  Option.bind (ref07_Volume N r_4 from_ to_) fun r_5 =>
  cond ((!(r_3.1.Lo == r_5.1.Lo && r_3.1.Hi == r_5.1.Hi)) || (r_3.2 != r_5.2))
  (some false)
  (Option.bind (daily_Peak N r_1) fun r_6 =>
  Option.bind (law07_Record N r) fun r_7 =>
  Option.bind (ref07_Peak N r_7) fun r_8 =>
  Option.bind (cond (!(r_6.1.Lo == r_8.1.Lo && r_6.1.Hi == r_8.1.Hi)) (some true) (Option.bind (kit_Same_int N r_6.2.1 r_8.2.1) fun r_9 =>
  some (!r_9))) fun t_1 =>
  cond (t_1 || (r_6.2.2 != r_8.2.2))
  (some false)
  (Option.bind (daily_Again N r_1 r_2) fun r_10 =>
  Option.bind (law07_Record N r) fun r_11 =>
  Option.bind (ref07_Again N r_11 published) fun r_12 =>
  Option.bind (kit_Same_int N r_10.1 r_12.1) fun r_13 =>
  Option.bind (cond (r_13 && (r_10.2 == r_12.2)) (Option.bind (law07_same N r_1 r) fun r_14 =>
  some r_14) (some false)) fun t_2 =>
  Option.bind (cond t_2 (Option.bind (kit_Same_api_Span N r_2 published) fun r_15 =>
  some r_15) (some false)) fun t_3 =>
  Option.bind (cond t_3 (Option.bind (law07_awake N) fun r_16 =>
  some r_16) (some false)) fun t_4 =>
  some t_4)))
theorem law07_DailyVolumes_ok {N : Nat} {G : Pers} {Lf : List Ent} {w : World} (r : daily_Record) (from_ : Int) (to_ : Int) (published : List api_Span) {r_Days_p : Option Addr} {r_Days_c : Nat} {published_p : Option Addr} {published_c : Nat} (h_r_Days : Rd G 3 r_Days_p r_Days_c (r.Days.map enc_daily_Value)) (h_published : Rd G 2 published_p published_c (published.map enc_api_Span)) (hc : Ctx G (Lf) w) {res : Bool} (hF : law07_DailyVolumes N r from_ to_ published = some res) : Calls Try.prog 3 #[.agg #[.int .i64 r.Rise, .int .i64 r.Fall, .slice r_Days_p r.Days.length r_Days_c], .int .i64 from_, .int .i64 to_, .slice published_p published.length published_c] w (fun e w => e = .returned (.bool res) ∧ Ctx G (Lf) w) := by
  unfold law07_DailyVolumes at hF
  refine fnIn (args := [.agg #[.int .i64 r.Rise, .int .i64 r.Fall, .slice r_Days_p r.Days.length r_Days_c], .int .i64 from_, .int .i64 to_, .slice published_p published.length published_c]) Try.func3 rfl Try.ntmps3 rfl fun a hf => ?_
  refine wp_seq_k fun K1 h1 => ?_
  refine cReg ?_
  refine stBx (cs := [.int .i64 r.Rise, .int .i64 r.Fall, .slice r_Days_p r.Days.length r_Days_c]) hf hc rfl rfl rfl rfl fun b_1 a w hf hc => ?_
  refine stP hf rfl rfl rfl (pA rfl) fun a hf => ?_
  refine cNil ?_
  refine h1 _ _ ?_
  refine wp_seq_k fun K2 h2 => ?_
  refine wp_seq_k fun K3 h3 => ?_
  refine cReg ?_
  refine stP hf rfl rfl rfl (pFA fa_24_2 rfl) fun a hf => ?_
  refine stE hf hc rfl rfl rfl (eLd1 sc_22 rfl (cell_box m0 rfl)) fun a w hf hc => ?_
  refine stP hf rfl rfl rfl (pLenS Try.underlying22 rfl) fun a hf => ?_
  refine stP hf rfl rfl rfl (pGt rfl rfl) fun a hf => ?_
  refine stP hf rfl rfl rfl (pM rfl) fun a hf => ?_
  refine stCut 4 (fun a w => Has 115 a [(1, .int .i64 from_), (2, .int .i64 to_), (3, .slice published_p published.length published_c), (4, .pointer (some ⟨b_1, 0, none⟩)), (17, .pointer (some ⟨b_1, 2, none⟩)), (18, .slice r_Days_p r.Days.length r_Days_c), (19, .int .i64 ((r.Days.length : Nat) : Int)), (20, .bool (decide (65 < ((r.Days.length : Nat) : Int)))), (21, .bool (decide (65 < ((r.Days.length : Nat) : Int)))), (25, .bool ((decide (65 < ((r.Days.length : Nat) : Int))) || (decide (70 < ((published.length : Nat) : Int)))))] ∧ Ctx G (.box b_1 [.int .i64 r.Rise, .int .i64 r.Fall, .slice r_Days_p r.Days.length r_Days_c] 24 :: Lf) w) ?_ ?_
  · cases hb : (decide (65 < ((r.Days.length : Nat) : Int)))
    · rw [hb] at hf
      refine stP hf rfl rfl rfl (pM rfl) fun a hf => ?_
      refine stP hf rfl rfl rfl (pLenS Try.underlying25 rfl) fun a hf => ?_
      refine stP hf rfl rfl rfl (pGt rfl rfl) fun a hf => ?_
      refine stP hf rfl rfl rfl (pPf rfl rfl) fun a hf => ?_
      exact cNil ⟨hf.keep ⟨rfl, rfl, rfl, rfl, rfl, rfl, rfl, rfl, rfl, rfl, trivial⟩, hc⟩
    · rw [hb] at hf
      refine stS hf rfl rfl rfl fun a hf => ?_
      refine stS hf rfl rfl rfl fun a hf => ?_
      refine stS hf rfl rfl rfl fun a hf => ?_
      refine stP hf rfl rfl rfl (pPt rfl rfl) fun a hf => ?_
      exact cNil ⟨hf.keep ⟨rfl, rfl, rfl, rfl, rfl, rfl, rfl, rfl, rfl, rfl, trivial⟩, hc⟩
  intro a w ⟨hf, hc⟩
  refine cNil ?_
  refine h3 _ _ ?_
  refine cCond (b := ((decide (65 < ((r.Days.length : Nat) : Int))) || (decide (70 < ((published.length : Nat) : Int))))) hf rfl (fun hb => ?_) (fun hb => ?_)
  · replace hF := condT hb hF
    clear hb
    refine wp_seq_k fun K4 h4 => ?_
    refine cReg ?_
    obtain ⟨r_0, hr_0, hF⟩ := bnd_some hF
    refine stE hf hc rfl rfl rfl (eC (v := .bool r_0) (vs := []) (caps := []) en_12 rfl rfl rfl rfl (fun w hc => law07_awake_ok hc hr_0)) fun a w hf hc => ?_
    refine stP hf rfl rfl rfl (pA rfl) fun a hf => ?_
    refine cNil ?_
    refine h4 _ _ ?_
    refine wp_ret ?_
    refine xThenR ?_
    obtain rfl := Option.some.inj hF
    replace hc := hc.drop k0
    exact fnOut1 (by simp) rfl Try.results3 hf hc (show look _ 8 = _ from rfl) ⟨rfl, hc⟩
  · replace hF := condF hb hF
    clear hb
    refine wp_skip ?_
    refine h2 _ _ ?_
    refine wp_seq_k fun K5 h5 => ?_
    refine cReg ?_
    refine stE hf hc rfl rfl rfl (eLdN (vs := [.int .i64 r.Rise, .int .i64 r.Fall, .slice r_Days_p r.Days.length r_Days_c]) ag_24 rfl rfl (cells_box (n := 3) m0 rfl)) fun a w hf hc => ?_
    obtain ⟨r_1, hr_1, hF⟩ := bnd_some hF
    refine stC (vs := [.agg #[.int .i64 r.Rise, .int .i64 r.Fall, .slice r_Days_p r.Days.length r_Days_c]]) (caps := []) hf rfl rfl rfl en_13 rfl rfl rfl rfl (law07_CopyRecord_ok r h_r_Days hc hr_1) ?_
    rintro _ w ⟨p_1, c_1, rfl, hc⟩
    refine ⟨_, rfl, fun a hf => ?_⟩
    refine stP hf rfl rfl rfl (pM rfl) fun a hf => ?_
    obtain ⟨r_2, hr_2, hF⟩ := bnd_some hF
    refine stC (vs := [.slice published_p published.length published_c]) (caps := []) hf rfl rfl rfl en_14 rfl rfl rfl rfl (kit_Copy_api_Span_ok published h_published hc hr_2) ?_
    rintro _ w ⟨p_2, c_2, rfl, hc⟩
    refine ⟨_, rfl, fun a hf => ?_⟩
    refine stAl (cs := [.int .i64 0, .int .i64 0, .slice none 0 0]) hf hc rfl rfl zr_24 rfl fun b_2 a w hf hc => ?_
    refine stSt (vs := [.int .i64 r_1.Rise, .int .i64 r_1.Fall, .slice p_1 r_1.Days.length c_1]) hf hc rfl rfl rfl rfl sz_24 rfl rfl u0 fun w hc => ?_
    refine stP hf rfl rfl rfl (pA rfl) fun a hf => ?_
    refine cNil ?_
    refine h5 _ _ ?_
    refine wp_seq_k fun K6 h6 => ?_
    refine cReg ?_
    refine stE hf hc rfl rfl rfl (eLdN (vs := [.int .i64 r_1.Rise, .int .i64 r_1.Fall, .slice p_1 r_1.Days.length c_1]) ag_24 rfl rfl (cells_box (n := 3) m0 rfl)) fun a w hf hc => ?_
    refine stP hf rfl rfl rfl (pM rfl) fun a hf => ?_
    refine stP hf rfl rfl rfl (pM rfl) fun a hf => ?_
    obtain ⟨r_3, hr_3, hF⟩ := bnd_some hF
    refine stE hf hc rfl rfl rfl (eC (v := .tuple #[.agg #[.int .i64 r_3.1.Lo, .int .i64 r_3.1.Hi], .int .i64 r_3.2]) (vs := [.agg #[.int .i64 r_1.Rise, .int .i64 r_1.Fall, .slice p_1 r_1.Days.length c_1], .int .i64 from_, .int .i64 to_]) (caps := []) en_15 rfl rfl rfl rfl (fun w hc => by obtain ⟨G1, hle1, hrd1, hc, hth1⟩ := lend hc k2; exact (daily_Volume_ok r_1 from_ to_ hrd1 hc hr_3).mono fun e w h => ⟨h.1, ((hth1 _ _ h.2).unpick k2)⟩)) fun a w hf hc => ?_
    refine stP hf rfl rfl rfl (pM rfl) fun a hf => ?_
    refine stP hf rfl rfl rfl (pX rfl rfl) fun a hf => ?_
    refine stP hf rfl rfl rfl (pX rfl rfl) fun a hf => ?_
    refine stAl (cs := [.int .i64 0, .int .i64 0]) hf hc rfl rfl zr_30 rfl fun b_3 a w hf hc => ?_
    refine stSt (vs := [.int .i64 r_3.1.Lo, .int .i64 r_3.1.Hi]) hf hc rfl rfl rfl rfl sz_30 rfl rfl u0 fun w hc => ?_
    refine stP hf rfl rfl rfl (pA rfl) fun a hf => ?_
    refine cNil ?_
    refine h6 _ _ ?_
    refine wp_seq_k fun K7 h7 => ?_
    refine cReg ?_
    refine stE hf hc rfl rfl rfl (eLdN (vs := [.int .i64 r.Rise, .int .i64 r.Fall, .slice r_Days_p r.Days.length r_Days_c]) ag_24 rfl rfl (cells_box (n := 3) m4 rfl)) fun a w hf hc => ?_
    obtain ⟨r_4, hr_4, hF⟩ := bnd_some hF
    refine stC (vs := [.agg #[.int .i64 r.Rise, .int .i64 r.Fall, .slice r_Days_p r.Days.length r_Days_c]]) (caps := []) hf rfl rfl rfl en_17 rfl rfl rfl rfl (law07_Record_ok r h_r_Days hc hr_4) ?_
    rintro _ w ⟨p_3, c_3, rfl, hc⟩
    refine ⟨_, rfl, fun a hf => ?_⟩
    refine stP hf rfl rfl rfl (pM rfl) fun a hf => ?_
    refine stP hf rfl rfl rfl (pM rfl) fun a hf => ?_
    obtain ⟨r_5, hr_5, hF⟩ := bnd_some hF
    refine stE hf hc rfl rfl rfl (eC (v := .tuple #[.agg #[.int .i64 r_5.1.Lo, .int .i64 r_5.1.Hi], .int .i64 r_5.2]) (vs := [.agg #[.int .i64 r_4.Rise, .int .i64 r_4.Fall, .slice p_3 r_4.Days.length c_3], .int .i64 from_, .int .i64 to_]) (caps := []) en_16 rfl rfl rfl rfl (fun w hc => by obtain ⟨G1, hle1, hrd1, hc, hth1⟩ := lend hc k0; exact (ref07_Volume_ok r_4 from_ to_ hrd1 hc hr_5).mono fun e w h => ⟨h.1, ((hth1 _ _ h.2).unpick k0)⟩)) fun a w hf hc => ?_
    refine stP hf rfl rfl rfl (pM rfl) fun a hf => ?_
    refine stP hf rfl rfl rfl (pX rfl rfl) fun a hf => ?_
    refine stP hf rfl rfl rfl (pX rfl rfl) fun a hf => ?_
    refine stAl (cs := [.int .i64 0, .int .i64 0]) hf hc rfl rfl zr_30 rfl fun b_4 a w hf hc => ?_
    refine stSt (vs := [.int .i64 r_5.1.Lo, .int .i64 r_5.1.Hi]) hf hc rfl rfl rfl rfl sz_30 rfl rfl u0 fun w hc => ?_
    refine stP hf rfl rfl rfl (pA rfl) fun a hf => ?_
    refine cNil ?_
    refine h7 _ _ ?_
    refine wp_seq_k fun K8 h8 => ?_
    refine wp_seq_k fun K9 h9 => ?_
    refine cReg ?_
    refine stE hf hc rfl rfl rfl (eLdN (vs := [.int .i64 r_3.1.Lo, .int .i64 r_3.1.Hi]) ag_30 rfl rfl (cells_box (n := 2) m2 rfl)) fun a w hf hc => ?_
    refine stE hf hc rfl rfl rfl (eLdN (vs := [.int .i64 r_5.1.Lo, .int .i64 r_5.1.Hi]) ag_30 rfl rfl (cells_box (n := 2) m0 rfl)) fun a w hf hc => ?_
    refine stP hf rfl rfl rfl (pNeA ge_30 rfl rfl (eqs_30 _ _ _ _)) fun a hf => ?_
    refine stP hf rfl rfl rfl (pM rfl) fun a hf => ?_
    refine stCut 4 (fun a w => Has 115 a [(3, .slice published_p published.length published_c), (4, .pointer (some ⟨b_1, 0, none⟩)), (9, .pointer (some ⟨b_2, 0, none⟩)), (10, .slice p_2 r_2.length c_2), (11, .pointer (some ⟨b_3, 0, none⟩)), (12, .int .i64 r_3.2), (13, .pointer (some ⟨b_4, 0, none⟩)), (14, .int .i64 r_5.2), (46, .agg #[.int .i64 r_3.1.Lo, .int .i64 r_3.1.Hi]), (47, .agg #[.int .i64 r_5.1.Lo, .int .i64 r_5.1.Hi]), (48, .bool (!(r_3.1.Lo == r_5.1.Lo && r_3.1.Hi == r_5.1.Hi))), (49, .bool (!(r_3.1.Lo == r_5.1.Lo && r_3.1.Hi == r_5.1.Hi))), (53, .bool ((!(r_3.1.Lo == r_5.1.Lo && r_3.1.Hi == r_5.1.Hi)) || (r_3.2 != r_5.2)))] ∧ Ctx G (.box b_4 [.int .i64 r_5.1.Lo, .int .i64 r_5.1.Hi] 30 :: .row p_3 c_3 (r_4.Days.map enc_ref07_Value) 128 3 :: .box b_3 [.int .i64 r_3.1.Lo, .int .i64 r_3.1.Hi] 30 :: .box b_2 [.int .i64 r_1.Rise, .int .i64 r_1.Fall, .slice p_1 r_1.Days.length c_1] 24 :: .row p_2 c_2 (r_2.map enc_api_Span) 30 2 :: .row p_1 c_1 (r_1.Days.map enc_daily_Value) 56 3 :: .box b_1 [.int .i64 r.Rise, .int .i64 r.Fall, .slice r_Days_p r.Days.length r_Days_c] 24 :: Lf) w) ?_ ?_
    · cases hb : (!(r_3.1.Lo == r_5.1.Lo && r_3.1.Hi == r_5.1.Hi))
      · rw [hb] at hf
        refine stP hf rfl rfl rfl (pM rfl) fun a hf => ?_
        refine stP hf rfl rfl rfl (pM rfl) fun a hf => ?_
        refine stP hf rfl rfl rfl (pNe rfl rfl) fun a hf => ?_
        refine stP hf rfl rfl rfl (pPf rfl rfl) fun a hf => ?_
        exact cNil ⟨hf.keep ⟨rfl, rfl, rfl, rfl, rfl, rfl, rfl, rfl, rfl, rfl, rfl, rfl, rfl, trivial⟩, hc⟩
      · rw [hb] at hf
        refine stS hf rfl rfl rfl fun a hf => ?_
        refine stS hf rfl rfl rfl fun a hf => ?_
        refine stS hf rfl rfl rfl fun a hf => ?_
        refine stP hf rfl rfl rfl (pPt rfl rfl) fun a hf => ?_
        exact cNil ⟨hf.keep ⟨rfl, rfl, rfl, rfl, rfl, rfl, rfl, rfl, rfl, rfl, rfl, rfl, rfl, trivial⟩, hc⟩
    intro a w ⟨hf, hc⟩
    refine cNil ?_
    refine h9 _ _ ?_
    refine cCond (b := ((!(r_3.1.Lo == r_5.1.Lo && r_3.1.Hi == r_5.1.Hi)) || (r_3.2 != r_5.2))) hf rfl (fun hb => ?_) (fun hb => ?_)
    · replace hF := condT hb hF
      clear hb
      refine wp_seq_k fun K10 h10 => ?_
      refine cReg ?_
      refine stP hf rfl rfl rfl (pA rfl) fun a hf => ?_
      refine cNil ?_
      refine h10 _ _ ?_
      refine wp_ret ?_
      refine xThenR ?_
      obtain rfl := Option.some.inj hF
      replace hc := hc.drop k6
      replace hc := hc.drop k5
      replace hc := hc.drop k4
      replace hc := hc.drop k3
      replace hc := hc.drop k2
      replace hc := hc.drop k1
      replace hc := hc.drop k0
      exact fnOut1 (by simp) rfl Try.results3 hf hc (show look _ 8 = _ from rfl) ⟨rfl, hc⟩
    · replace hF := condF hb hF
      clear hb
      refine wp_skip ?_
      refine h8 _ _ ?_
      refine wp_seq_k fun K11 h11 => ?_
      refine cReg ?_
      refine stE hf hc rfl rfl rfl (eLdN (vs := [.int .i64 r_1.Rise, .int .i64 r_1.Fall, .slice p_1 r_1.Days.length c_1]) ag_24 rfl rfl (cells_box (n := 3) m3 rfl)) fun a w hf hc => ?_
      obtain ⟨r_6, hr_6, hF⟩ := bnd_some hF
      obtain ⟨G1, hle1, hrd1, hc, hth1⟩ := lend hc k5
      refine stC (vs := [.agg #[.int .i64 r_1.Rise, .int .i64 r_1.Fall, .slice p_1 r_1.Days.length c_1]]) (caps := []) hf rfl rfl rfl en_18 rfl rfl rfl rfl (daily_Peak_ok r_1 hrd1 hc hr_6) ?_
      rintro _ w ⟨p_4, c_4, rfl, hc⟩
      refine ⟨_, rfl, fun a hf => ?_⟩
      replace hc := hth1 _ _ hc
      refine stP hf rfl rfl rfl (pM rfl) fun a hf => ?_
      refine stP hf rfl rfl rfl (pX rfl rfl) fun a hf => ?_
      refine stP hf rfl rfl rfl (pX rfl rfl) fun a hf => ?_
      refine stP hf rfl rfl rfl (pX rfl rfl) fun a hf => ?_
      refine stSt (vs := [.int .i64 r_6.1.Lo, .int .i64 r_6.1.Hi]) hf hc rfl rfl rfl rfl sz_30 rfl rfl u4 fun w hc => ?_
      refine stP hf rfl rfl rfl (pA rfl) fun a hf => ?_
      refine stP hf rfl rfl rfl (pA rfl) fun a hf => ?_
      refine cNil ?_
      refine h11 _ _ ?_
      refine wp_seq_k fun K12 h12 => ?_
      refine cReg ?_
      refine stE hf hc rfl rfl rfl (eLdN (vs := [.int .i64 r.Rise, .int .i64 r.Fall, .slice r_Days_p r.Days.length r_Days_c]) ag_24 rfl rfl (cells_box (n := 3) m7 rfl)) fun a w hf hc => ?_
      obtain ⟨r_7, hr_7, hF⟩ := bnd_some hF
      refine stC (vs := [.agg #[.int .i64 r.Rise, .int .i64 r.Fall, .slice r_Days_p r.Days.length r_Days_c]]) (caps := []) hf rfl rfl rfl en_17 rfl rfl rfl rfl (law07_Record_ok r h_r_Days hc hr_7) ?_
      rintro _ w ⟨p_5, c_5, rfl, hc⟩
      refine ⟨_, rfl, fun a hf => ?_⟩
      obtain ⟨r_8, hr_8, hF⟩ := bnd_some hF
      obtain ⟨G1, hle1, hrd1, hc, hth1⟩ := lend hc k0
      refine stC (vs := [.agg #[.int .i64 r_7.Rise, .int .i64 r_7.Fall, .slice p_5 r_7.Days.length c_5]]) (caps := []) hf rfl rfl rfl en_19 rfl rfl rfl rfl (ref07_Peak_ok r_7 hrd1 hc hr_8) ?_
      rintro _ w ⟨p_6, c_6, rfl, hc⟩
      refine ⟨_, rfl, fun a hf => ?_⟩
      replace hc := hth1 _ _ hc
      refine stP hf rfl rfl rfl (pM rfl) fun a hf => ?_
      refine stP hf rfl rfl rfl (pX rfl rfl) fun a hf => ?_
      refine stP hf rfl rfl rfl (pX rfl rfl) fun a hf => ?_
      refine stP hf rfl rfl rfl (pX rfl rfl) fun a hf => ?_
      refine stSt (vs := [.int .i64 r_8.1.Lo, .int .i64 r_8.1.Hi]) hf hc rfl rfl rfl rfl sz_30 rfl rfl u4 fun w hc => ?_
      refine stP hf rfl rfl rfl (pA rfl) fun a hf => ?_
      refine stP hf rfl rfl rfl (pA rfl) fun a hf => ?_
      refine cNil ?_
      refine h12 _ _ ?_
      refine wp_seq_k fun K13 h13 => ?_
      refine wp_seq_k fun K14 h14 => ?_
      refine cReg ?_
      refine stE hf hc rfl rfl rfl (eLdN (vs := [.int .i64 r_6.1.Lo, .int .i64 r_6.1.Hi]) ag_30 rfl rfl (cells_box (n := 2) m6 rfl)) fun a w hf hc => ?_
      refine stE hf hc rfl rfl rfl (eLdN (vs := [.int .i64 r_8.1.Lo, .int .i64 r_8.1.Hi]) ag_30 rfl rfl (cells_box (n := 2) m4 rfl)) fun a w hf hc => ?_
      refine stP hf rfl rfl rfl (pNeA ge_30 rfl rfl (eqs_30 _ _ _ _)) fun a hf => ?_
      refine stP hf rfl rfl rfl (pM rfl) fun a hf => ?_
      obtain ⟨t_1, ht_1, hF⟩ := bnd_some hF
      refine stCut 5 (fun a w => Has 115 a [(3, .slice published_p published.length published_c), (4, .pointer (some ⟨b_1, 0, none⟩)), (9, .pointer (some ⟨b_2, 0, none⟩)), (10, .slice p_2 r_2.length c_2), (11, .pointer (some ⟨b_3, 0, none⟩)), (12, .int .i64 r_6.2.2), (13, .pointer (some ⟨b_4, 0, none⟩)), (14, .int .i64 r_8.2.2), (15, .slice p_4 r_6.2.1.length c_4), (16, .slice p_6 r_8.2.1.length c_6), (67, .agg #[.int .i64 r_6.1.Lo, .int .i64 r_6.1.Hi]), (68, .agg #[.int .i64 r_8.1.Lo, .int .i64 r_8.1.Hi]), (69, .bool (!(r_6.1.Lo == r_8.1.Lo && r_6.1.Hi == r_8.1.Hi))), (70, .bool (!(r_6.1.Lo == r_8.1.Lo && r_6.1.Hi == r_8.1.Hi))), (75, .bool t_1)] ∧ Ctx G (.row p_5 c_5 (r_7.Days.map enc_ref07_Value) 128 3 :: .row p_6 c_6 (r_8.2.1.map encI_i64) 3 1 :: .row p_1 c_1 (r_1.Days.map enc_daily_Value) 56 3 :: .row p_4 c_4 (r_6.2.1.map encI_i64) 3 1 :: .box b_4 [.int .i64 r_8.1.Lo, .int .i64 r_8.1.Hi] 30 :: .row p_3 c_3 (r_4.Days.map enc_ref07_Value) 128 3 :: .box b_3 [.int .i64 r_6.1.Lo, .int .i64 r_6.1.Hi] 30 :: .box b_2 [.int .i64 r_1.Rise, .int .i64 r_1.Fall, .slice p_1 r_1.Days.length c_1] 24 :: .row p_2 c_2 (r_2.map enc_api_Span) 30 2 :: .box b_1 [.int .i64 r.Rise, .int .i64 r.Fall, .slice r_Days_p r.Days.length r_Days_c] 24 :: Lf) w) ?_ ?_
      · cases hb : (!(r_6.1.Lo == r_8.1.Lo && r_6.1.Hi == r_8.1.Hi))
        · rw [hb] at hf
          have hF := condF hb ht_1
          refine stP hf rfl rfl rfl (pM rfl) fun a hf => ?_
          refine stP hf rfl rfl rfl (pM rfl) fun a hf => ?_
          obtain ⟨r_9, hr_9, hF⟩ := bnd_some hF
          refine stE hf hc rfl rfl rfl (eC (v := .bool r_9) (vs := [.slice p_4 r_6.2.1.length c_4, .slice p_6 r_8.2.1.length c_6]) (caps := []) en_20 rfl rfl rfl rfl (fun w hc => by obtain ⟨G1, hle1, hrd1, hc, hth1⟩ := lend hc k3; obtain ⟨G2, hle2, hrd2, hc, hth2⟩ := lend hc k1; exact (kit_Same_int_ok r_6.2.1 r_8.2.1 (hrd1.mono hle2) hrd2 hc hr_9).mono fun e w h => ⟨h.1, ((hth1 _ _ ((hth2 _ _ h.2).unpick k1)).unpick k3)⟩)) fun a w hf hc => ?_
          refine stP hf rfl rfl rfl (pNot rfl) fun a hf => ?_
          refine stP hf rfl rfl rfl (pPf rfl rfl) fun a hf => ?_
          obtain rfl := Option.some.inj hF
          exact cNil ⟨hf.keep ⟨rfl, rfl, rfl, rfl, rfl, rfl, rfl, rfl, rfl, rfl, rfl, rfl, rfl, rfl, rfl, trivial⟩, hc⟩
        · rw [hb] at hf
          have hF := condT hb ht_1
          obtain rfl := Option.some.inj hF
          refine stS hf rfl rfl rfl fun a hf => ?_
          refine stS hf rfl rfl rfl fun a hf => ?_
          refine stS hf rfl rfl rfl fun a hf => ?_
          refine stS hf rfl rfl rfl fun a hf => ?_
          refine stP hf rfl rfl rfl (pPt rfl rfl) fun a hf => ?_
          exact cNil ⟨hf.keep ⟨rfl, rfl, rfl, rfl, rfl, rfl, rfl, rfl, rfl, rfl, rfl, rfl, rfl, rfl, rfl, trivial⟩, hc⟩
      intro a w ⟨hf, hc⟩
      refine stP hf rfl rfl rfl (pM rfl) fun a hf => ?_
      refine stCut 4 (fun a w => Has 115 a [(3, .slice published_p published.length published_c), (4, .pointer (some ⟨b_1, 0, none⟩)), (9, .pointer (some ⟨b_2, 0, none⟩)), (10, .slice p_2 r_2.length c_2), (11, .pointer (some ⟨b_3, 0, none⟩)), (12, .int .i64 r_6.2.2), (13, .pointer (some ⟨b_4, 0, none⟩)), (14, .int .i64 r_8.2.2), (15, .slice p_4 r_6.2.1.length c_4), (16, .slice p_6 r_8.2.1.length c_6), (67, .agg #[.int .i64 r_6.1.Lo, .int .i64 r_6.1.Hi]), (68, .agg #[.int .i64 r_8.1.Lo, .int .i64 r_8.1.Hi]), (69, .bool (!(r_6.1.Lo == r_8.1.Lo && r_6.1.Hi == r_8.1.Hi))), (70, .bool (!(r_6.1.Lo == r_8.1.Lo && r_6.1.Hi == r_8.1.Hi))), (75, .bool t_1), (76, .bool t_1), (80, .bool (t_1 || (r_6.2.2 != r_8.2.2)))] ∧ Ctx G (.row p_5 c_5 (r_7.Days.map enc_ref07_Value) 128 3 :: .row p_6 c_6 (r_8.2.1.map encI_i64) 3 1 :: .row p_1 c_1 (r_1.Days.map enc_daily_Value) 56 3 :: .row p_4 c_4 (r_6.2.1.map encI_i64) 3 1 :: .box b_4 [.int .i64 r_8.1.Lo, .int .i64 r_8.1.Hi] 30 :: .row p_3 c_3 (r_4.Days.map enc_ref07_Value) 128 3 :: .box b_3 [.int .i64 r_6.1.Lo, .int .i64 r_6.1.Hi] 30 :: .box b_2 [.int .i64 r_1.Rise, .int .i64 r_1.Fall, .slice p_1 r_1.Days.length c_1] 24 :: .row p_2 c_2 (r_2.map enc_api_Span) 30 2 :: .box b_1 [.int .i64 r.Rise, .int .i64 r.Fall, .slice r_Days_p r.Days.length r_Days_c] 24 :: Lf) w) ?_ ?_
      · cases hb : t_1
        · rw [hb] at hf
          refine stP hf rfl rfl rfl (pM rfl) fun a hf => ?_
          refine stP hf rfl rfl rfl (pM rfl) fun a hf => ?_
          refine stP hf rfl rfl rfl (pNe rfl rfl) fun a hf => ?_
          refine stP hf rfl rfl rfl (pPf rfl rfl) fun a hf => ?_
          exact cNil ⟨hf.keep ⟨rfl, rfl, rfl, rfl, rfl, rfl, rfl, rfl, rfl, rfl, rfl, rfl, rfl, rfl, rfl, rfl, rfl, trivial⟩, hc⟩
        · rw [hb] at hf
          refine stS hf rfl rfl rfl fun a hf => ?_
          refine stS hf rfl rfl rfl fun a hf => ?_
          refine stS hf rfl rfl rfl fun a hf => ?_
          refine stP hf rfl rfl rfl (pPt rfl rfl) fun a hf => ?_
          exact cNil ⟨hf.keep ⟨rfl, rfl, rfl, rfl, rfl, rfl, rfl, rfl, rfl, rfl, rfl, rfl, rfl, rfl, rfl, rfl, rfl, trivial⟩, hc⟩
      intro a w ⟨hf, hc⟩
      refine cNil ?_
      refine h14 _ _ ?_
      refine cCond (b := (t_1 || (r_6.2.2 != r_8.2.2))) hf rfl (fun hb => ?_) (fun hb => ?_)
      · replace hF := condT hb hF
        clear hb
        refine wp_seq_k fun K15 h15 => ?_
        refine cReg ?_
        refine stP hf rfl rfl rfl (pA rfl) fun a hf => ?_
        refine cNil ?_
        refine h15 _ _ ?_
        refine wp_ret ?_
        refine xThenR ?_
        obtain rfl := Option.some.inj hF
        replace hc := hc.drop k9
        replace hc := hc.drop k8
        replace hc := hc.drop k7
        replace hc := hc.drop k6
        replace hc := hc.drop k5
        replace hc := hc.drop k4
        replace hc := hc.drop k3
        replace hc := hc.drop k2
        replace hc := hc.drop k1
        replace hc := hc.drop k0
        exact fnOut1 (by simp) rfl Try.results3 hf hc (show look _ 8 = _ from rfl) ⟨rfl, hc⟩
      · replace hF := condF hb hF
        clear hb
        refine wp_skip ?_
        refine h13 _ _ ?_
        refine wp_seq_k fun K16 h16 => ?_
        refine cReg ?_
        refine stE hf hc rfl rfl rfl (eLdN (vs := [.int .i64 r_1.Rise, .int .i64 r_1.Fall, .slice p_1 r_1.Days.length c_1]) ag_24 rfl rfl (cells_box (n := 3) m7 rfl)) fun a w hf hc => ?_
        refine stP hf rfl rfl rfl (pM rfl) fun a hf => ?_
        obtain ⟨r_10, hr_10, hF⟩ := bnd_some hF
        obtain ⟨G1, hle1, hrd1, hc, hth1⟩ := lend hc k2
        obtain ⟨G2, hle2, hrd2, hc, hth2⟩ := lend hc k7
        refine stC (vs := [.agg #[.int .i64 r_1.Rise, .int .i64 r_1.Fall, .slice p_1 r_1.Days.length c_1], .slice p_2 r_2.length c_2]) (caps := []) hf rfl rfl rfl en_21 rfl rfl rfl rfl (daily_Again_ok r_1 r_2 (hrd1.mono hle2) hrd2 hc hr_10) ?_
        rintro _ w ⟨p_7, c_7, rfl, hc⟩
        refine ⟨_, rfl, fun a hf => ?_⟩
        replace hc := hth2 _ _ hc
        replace hc := hth1 _ _ hc
        refine stP hf rfl rfl rfl (pM rfl) fun a hf => ?_
        refine stP hf rfl rfl rfl (pX rfl rfl) fun a hf => ?_
        refine stP hf rfl rfl rfl (pX rfl rfl) fun a hf => ?_
        refine stP hf rfl rfl rfl (pA rfl) fun a hf => ?_
        refine stP hf rfl rfl rfl (pA rfl) fun a hf => ?_
        refine cNil ?_
        refine h16 _ _ ?_
        refine wp_seq_k fun K17 h17 => ?_
        refine cReg ?_
        refine stE hf hc rfl rfl rfl (eLdN (vs := [.int .i64 r.Rise, .int .i64 r.Fall, .slice r_Days_p r.Days.length r_Days_c]) ag_24 rfl rfl (cells_box (n := 3) m10 rfl)) fun a w hf hc => ?_
        obtain ⟨r_11, hr_11, hF⟩ := bnd_some hF
        refine stC (vs := [.agg #[.int .i64 r.Rise, .int .i64 r.Fall, .slice r_Days_p r.Days.length r_Days_c]]) (caps := []) hf rfl rfl rfl en_17 rfl rfl rfl rfl (law07_Record_ok r h_r_Days hc hr_11) ?_
        rintro _ w ⟨p_8, c_8, rfl, hc⟩
        refine ⟨_, rfl, fun a hf => ?_⟩
        refine stP hf rfl rfl rfl (pM rfl) fun a hf => ?_
        obtain ⟨r_12, hr_12, hF⟩ := bnd_some hF
        obtain ⟨G1, hle1, hrd1, hc, hth1⟩ := lend hc k0
        refine stC (vs := [.agg #[.int .i64 r_11.Rise, .int .i64 r_11.Fall, .slice p_8 r_11.Days.length c_8], .slice published_p published.length published_c]) (caps := []) hf rfl rfl rfl en_22 rfl rfl rfl rfl (ref07_Again_ok r_11 published hrd1 (h_published.mono hle1) hc hr_12) ?_
        rintro _ w ⟨p_9, c_9, rfl, hc⟩
        refine ⟨_, rfl, fun a hf => ?_⟩
        replace hc := hth1 _ _ hc
        refine stP hf rfl rfl rfl (pM rfl) fun a hf => ?_
        refine stP hf rfl rfl rfl (pX rfl rfl) fun a hf => ?_
        refine stP hf rfl rfl rfl (pX rfl rfl) fun a hf => ?_
        refine stP hf rfl rfl rfl (pA rfl) fun a hf => ?_
        refine stP hf rfl rfl rfl (pA rfl) fun a hf => ?_
        refine cNil ?_
        refine h17 _ _ ?_
        refine wp_seq_k fun K18 h18 => ?_
        refine cReg ?_
        refine stP hf rfl rfl rfl (pM rfl) fun a hf => ?_
        refine stP hf rfl rfl rfl (pM rfl) fun a hf => ?_
        obtain ⟨r_13, hr_13, hF⟩ := bnd_some hF
        refine stE hf hc rfl rfl rfl (eC (v := .bool r_13) (vs := [.slice p_7 r_10.1.length c_7, .slice p_9 r_12.1.length c_9]) (caps := []) en_20 rfl rfl rfl rfl (fun w hc => by obtain ⟨G1, hle1, hrd1, hc, hth1⟩ := lend hc k4; obtain ⟨G2, hle2, hrd2, hc, hth2⟩ := lend hc k1; exact (kit_Same_int_ok r_10.1 r_12.1 (hrd1.mono hle2) hrd2 hc hr_13).mono fun e w h => ⟨h.1, ((hth1 _ _ ((hth2 _ _ h.2).unpick k1)).unpick k4)⟩)) fun a w hf hc => ?_
        refine stP hf rfl rfl rfl (pM rfl) fun a hf => ?_
        refine stCut 4 (fun a w => Has 115 a [(3, .slice published_p published.length published_c), (4, .pointer (some ⟨b_1, 0, none⟩)), (9, .pointer (some ⟨b_2, 0, none⟩)), (10, .slice p_2 r_2.length c_2), (12, .int .i64 r_10.2), (14, .int .i64 r_12.2), (15, .slice p_7 r_10.1.length c_7), (16, .slice p_9 r_12.1.length c_9), (94, .slice p_7 r_10.1.length c_7), (95, .slice p_9 r_12.1.length c_9), (96, .bool r_13), (97, .bool r_13), (101, .bool (r_13 && (r_10.2 == r_12.2)))] ∧ Ctx G (.row p_8 c_8 (r_11.Days.map enc_ref07_Value) 128 3 :: .row p_9 c_9 (r_12.1.map encI_i64) 3 1 :: .row p_1 c_1 (r_1.Days.map enc_daily_Value) 56 3 :: .row p_2 c_2 (r_2.map enc_api_Span) 30 2 :: .row p_7 c_7 (r_10.1.map encI_i64) 3 1 :: .row p_5 c_5 (r_7.Days.map enc_ref07_Value) 128 3 :: .row p_6 c_6 (r_8.2.1.map encI_i64) 3 1 :: .row p_4 c_4 (r_6.2.1.map encI_i64) 3 1 :: .box b_4 [.int .i64 r_8.1.Lo, .int .i64 r_8.1.Hi] 30 :: .row p_3 c_3 (r_4.Days.map enc_ref07_Value) 128 3 :: .box b_3 [.int .i64 r_6.1.Lo, .int .i64 r_6.1.Hi] 30 :: .box b_2 [.int .i64 r_1.Rise, .int .i64 r_1.Fall, .slice p_1 r_1.Days.length c_1] 24 :: .box b_1 [.int .i64 r.Rise, .int .i64 r.Fall, .slice r_Days_p r.Days.length r_Days_c] 24 :: Lf) w) ?_ ?_
        · cases hb : r_13
          · rw [hb] at hf
            refine stS hf rfl rfl rfl fun a hf => ?_
            refine stS hf rfl rfl rfl fun a hf => ?_
            refine stS hf rfl rfl rfl fun a hf => ?_
            refine stP hf rfl rfl rfl (pPf rfl rfl) fun a hf => ?_
            exact cNil ⟨hf.keep ⟨rfl, rfl, rfl, rfl, rfl, rfl, rfl, rfl, rfl, rfl, rfl, rfl, rfl, trivial⟩, hc⟩
          · rw [hb] at hf
            refine stP hf rfl rfl rfl (pM rfl) fun a hf => ?_
            refine stP hf rfl rfl rfl (pM rfl) fun a hf => ?_
            refine stP hf rfl rfl rfl (pEq rfl rfl) fun a hf => ?_
            refine stP hf rfl rfl rfl (pPt rfl rfl) fun a hf => ?_
            exact cNil ⟨hf.keep ⟨rfl, rfl, rfl, rfl, rfl, rfl, rfl, rfl, rfl, rfl, rfl, rfl, rfl, trivial⟩, hc⟩
        intro a w ⟨hf, hc⟩
        refine stP hf rfl rfl rfl (pM rfl) fun a hf => ?_
        obtain ⟨t_2, ht_2, hF⟩ := bnd_some hF
        refine stCut 4 (fun a w => Has 115 a [(3, .slice published_p published.length published_c), (4, .pointer (some ⟨b_1, 0, none⟩)), (9, .pointer (some ⟨b_2, 0, none⟩)), (10, .slice p_2 r_2.length c_2), (12, .int .i64 r_10.2), (14, .int .i64 r_12.2), (15, .slice p_7 r_10.1.length c_7), (16, .slice p_9 r_12.1.length c_9), (94, .slice p_7 r_10.1.length c_7), (95, .slice p_9 r_12.1.length c_9), (96, .bool r_13), (97, .bool r_13), (101, .bool (r_13 && (r_10.2 == r_12.2))), (102, .bool (r_13 && (r_10.2 == r_12.2))), (106, .bool t_2)] ∧ Ctx G (.row p_8 c_8 (r_11.Days.map enc_ref07_Value) 128 3 :: .row p_9 c_9 (r_12.1.map encI_i64) 3 1 :: .row p_1 c_1 (r_1.Days.map enc_daily_Value) 56 3 :: .row p_2 c_2 (r_2.map enc_api_Span) 30 2 :: .row p_7 c_7 (r_10.1.map encI_i64) 3 1 :: .row p_5 c_5 (r_7.Days.map enc_ref07_Value) 128 3 :: .row p_6 c_6 (r_8.2.1.map encI_i64) 3 1 :: .row p_4 c_4 (r_6.2.1.map encI_i64) 3 1 :: .box b_4 [.int .i64 r_8.1.Lo, .int .i64 r_8.1.Hi] 30 :: .row p_3 c_3 (r_4.Days.map enc_ref07_Value) 128 3 :: .box b_3 [.int .i64 r_6.1.Lo, .int .i64 r_6.1.Hi] 30 :: .box b_2 [.int .i64 r_1.Rise, .int .i64 r_1.Fall, .slice p_1 r_1.Days.length c_1] 24 :: .box b_1 [.int .i64 r.Rise, .int .i64 r.Fall, .slice r_Days_p r.Days.length r_Days_c] 24 :: Lf) w) ?_ ?_
        · cases hb : (r_13 && (r_10.2 == r_12.2))
          · rw [hb] at hf
            have hF := condF hb ht_2
            obtain rfl := Option.some.inj hF
            refine stS hf rfl rfl rfl fun a hf => ?_
            refine stS hf rfl rfl rfl fun a hf => ?_
            refine stS hf rfl rfl rfl fun a hf => ?_
            refine stP hf rfl rfl rfl (pPf rfl rfl) fun a hf => ?_
            exact cNil ⟨hf.keep ⟨rfl, rfl, rfl, rfl, rfl, rfl, rfl, rfl, rfl, rfl, rfl, rfl, rfl, rfl, rfl, trivial⟩, hc⟩
          · rw [hb] at hf
            have hF := condT hb ht_2
            refine stE hf hc rfl rfl rfl (eLdN (vs := [.int .i64 r_1.Rise, .int .i64 r_1.Fall, .slice p_1 r_1.Days.length c_1]) ag_24 rfl rfl (cells_box (n := 3) m11 rfl)) fun a w hf hc => ?_
            refine stE hf hc rfl rfl rfl (eLdN (vs := [.int .i64 r.Rise, .int .i64 r.Fall, .slice r_Days_p r.Days.length r_Days_c]) ag_24 rfl rfl (cells_box (n := 3) m12 rfl)) fun a w hf hc => ?_
            obtain ⟨r_14, hr_14, hF⟩ := bnd_some hF
            refine stE hf hc rfl rfl rfl (eC (v := .bool r_14) (vs := [.agg #[.int .i64 r_1.Rise, .int .i64 r_1.Fall, .slice p_1 r_1.Days.length c_1], .agg #[.int .i64 r.Rise, .int .i64 r.Fall, .slice r_Days_p r.Days.length r_Days_c]]) (caps := []) en_23 rfl rfl rfl rfl (fun w hc => by obtain ⟨G1, hle1, hrd1, hc, hth1⟩ := lend hc k2; exact (law07_same_ok r_1 r hrd1 (h_r_Days.mono hle1) hc hr_14).mono fun e w h => ⟨h.1, ((hth1 _ _ h.2).unpick k2)⟩)) fun a w hf hc => ?_
            refine stP hf rfl rfl rfl (pPt rfl rfl) fun a hf => ?_
            obtain rfl := Option.some.inj hF
            exact cNil ⟨hf.keep ⟨rfl, rfl, rfl, rfl, rfl, rfl, rfl, rfl, rfl, rfl, rfl, rfl, rfl, rfl, rfl, trivial⟩, hc⟩
        intro a w ⟨hf, hc⟩
        refine stP hf rfl rfl rfl (pM rfl) fun a hf => ?_
        obtain ⟨t_3, ht_3, hF⟩ := bnd_some hF
        refine stCut 4 (fun a w => Has 115 a [(3, .slice published_p published.length published_c), (4, .pointer (some ⟨b_1, 0, none⟩)), (9, .pointer (some ⟨b_2, 0, none⟩)), (10, .slice p_2 r_2.length c_2), (12, .int .i64 r_10.2), (14, .int .i64 r_12.2), (15, .slice p_7 r_10.1.length c_7), (16, .slice p_9 r_12.1.length c_9), (94, .slice p_7 r_10.1.length c_7), (95, .slice p_9 r_12.1.length c_9), (96, .bool r_13), (97, .bool r_13), (101, .bool (r_13 && (r_10.2 == r_12.2))), (102, .bool (r_13 && (r_10.2 == r_12.2))), (106, .bool t_2), (107, .bool t_2), (111, .bool t_3)] ∧ Ctx G (.row p_8 c_8 (r_11.Days.map enc_ref07_Value) 128 3 :: .row p_9 c_9 (r_12.1.map encI_i64) 3 1 :: .row p_1 c_1 (r_1.Days.map enc_daily_Value) 56 3 :: .row p_2 c_2 (r_2.map enc_api_Span) 30 2 :: .row p_7 c_7 (r_10.1.map encI_i64) 3 1 :: .row p_5 c_5 (r_7.Days.map enc_ref07_Value) 128 3 :: .row p_6 c_6 (r_8.2.1.map encI_i64) 3 1 :: .row p_4 c_4 (r_6.2.1.map encI_i64) 3 1 :: .box b_4 [.int .i64 r_8.1.Lo, .int .i64 r_8.1.Hi] 30 :: .row p_3 c_3 (r_4.Days.map enc_ref07_Value) 128 3 :: .box b_3 [.int .i64 r_6.1.Lo, .int .i64 r_6.1.Hi] 30 :: .box b_2 [.int .i64 r_1.Rise, .int .i64 r_1.Fall, .slice p_1 r_1.Days.length c_1] 24 :: .box b_1 [.int .i64 r.Rise, .int .i64 r.Fall, .slice r_Days_p r.Days.length r_Days_c] 24 :: Lf) w) ?_ ?_
        · cases hb : t_2
          · rw [hb] at hf
            have hF := condF hb ht_3
            obtain rfl := Option.some.inj hF
            refine stS hf rfl rfl rfl fun a hf => ?_
            refine stS hf rfl rfl rfl fun a hf => ?_
            refine stS hf rfl rfl rfl fun a hf => ?_
            refine stP hf rfl rfl rfl (pPf rfl rfl) fun a hf => ?_
            exact cNil ⟨hf.keep ⟨rfl, rfl, rfl, rfl, rfl, rfl, rfl, rfl, rfl, rfl, rfl, rfl, rfl, rfl, rfl, rfl, rfl, trivial⟩, hc⟩
          · rw [hb] at hf
            have hF := condT hb ht_3
            refine stP hf rfl rfl rfl (pM rfl) fun a hf => ?_
            refine stP hf rfl rfl rfl (pM rfl) fun a hf => ?_
            obtain ⟨r_15, hr_15, hF⟩ := bnd_some hF
            refine stE hf hc rfl rfl rfl (eC (v := .bool r_15) (vs := [.slice p_2 r_2.length c_2, .slice published_p published.length published_c]) (caps := []) en_24 rfl rfl rfl rfl (fun w hc => by obtain ⟨G1, hle1, hrd1, hc, hth1⟩ := lend hc k3; exact (kit_Same_api_Span_ok r_2 published hrd1 (h_published.mono hle1) hc hr_15).mono fun e w h => ⟨h.1, ((hth1 _ _ h.2).unpick k3)⟩)) fun a w hf hc => ?_
            refine stP hf rfl rfl rfl (pPt rfl rfl) fun a hf => ?_
            obtain rfl := Option.some.inj hF
            exact cNil ⟨hf.keep ⟨rfl, rfl, rfl, rfl, rfl, rfl, rfl, rfl, rfl, rfl, rfl, rfl, rfl, rfl, rfl, rfl, rfl, trivial⟩, hc⟩
        intro a w ⟨hf, hc⟩
        refine stP hf rfl rfl rfl (pM rfl) fun a hf => ?_
        obtain ⟨t_4, ht_4, hF⟩ := bnd_some hF
        refine stCut 2 (fun a w => Has 115 a [(3, .slice published_p published.length published_c), (4, .pointer (some ⟨b_1, 0, none⟩)), (9, .pointer (some ⟨b_2, 0, none⟩)), (10, .slice p_2 r_2.length c_2), (12, .int .i64 r_10.2), (14, .int .i64 r_12.2), (15, .slice p_7 r_10.1.length c_7), (16, .slice p_9 r_12.1.length c_9), (94, .slice p_7 r_10.1.length c_7), (95, .slice p_9 r_12.1.length c_9), (96, .bool r_13), (97, .bool r_13), (101, .bool (r_13 && (r_10.2 == r_12.2))), (102, .bool (r_13 && (r_10.2 == r_12.2))), (106, .bool t_2), (107, .bool t_2), (111, .bool t_3), (112, .bool t_3), (114, .bool t_4)] ∧ Ctx G (.row p_8 c_8 (r_11.Days.map enc_ref07_Value) 128 3 :: .row p_9 c_9 (r_12.1.map encI_i64) 3 1 :: .row p_1 c_1 (r_1.Days.map enc_daily_Value) 56 3 :: .row p_2 c_2 (r_2.map enc_api_Span) 30 2 :: .row p_7 c_7 (r_10.1.map encI_i64) 3 1 :: .row p_5 c_5 (r_7.Days.map enc_ref07_Value) 128 3 :: .row p_6 c_6 (r_8.2.1.map encI_i64) 3 1 :: .row p_4 c_4 (r_6.2.1.map encI_i64) 3 1 :: .box b_4 [.int .i64 r_8.1.Lo, .int .i64 r_8.1.Hi] 30 :: .row p_3 c_3 (r_4.Days.map enc_ref07_Value) 128 3 :: .box b_3 [.int .i64 r_6.1.Lo, .int .i64 r_6.1.Hi] 30 :: .box b_2 [.int .i64 r_1.Rise, .int .i64 r_1.Fall, .slice p_1 r_1.Days.length c_1] 24 :: .box b_1 [.int .i64 r.Rise, .int .i64 r.Fall, .slice r_Days_p r.Days.length r_Days_c] 24 :: Lf) w) ?_ ?_
        · cases hb : t_3
          · rw [hb] at hf
            have hF := condF hb ht_4
            obtain rfl := Option.some.inj hF
            refine stS hf rfl rfl rfl fun a hf => ?_
            refine stP hf rfl rfl rfl (pPf rfl rfl) fun a hf => ?_
            exact cNil ⟨hf.keep ⟨rfl, rfl, rfl, rfl, rfl, rfl, rfl, rfl, rfl, rfl, rfl, rfl, rfl, rfl, rfl, rfl, rfl, rfl, rfl, trivial⟩, hc⟩
          · rw [hb] at hf
            have hF := condT hb ht_4
            obtain ⟨r_16, hr_16, hF⟩ := bnd_some hF
            refine stE hf hc rfl rfl rfl (eC (v := .bool r_16) (vs := []) (caps := []) en_12 rfl rfl rfl rfl (fun w hc => law07_awake_ok hc hr_16)) fun a w hf hc => ?_
            refine stP hf rfl rfl rfl (pPt rfl rfl) fun a hf => ?_
            obtain rfl := Option.some.inj hF
            exact cNil ⟨hf.keep ⟨rfl, rfl, rfl, rfl, rfl, rfl, rfl, rfl, rfl, rfl, rfl, rfl, rfl, rfl, rfl, rfl, rfl, rfl, rfl, trivial⟩, hc⟩
        intro a w ⟨hf, hc⟩
        refine stP hf rfl rfl rfl (pA rfl) fun a hf => ?_
        refine cNil ?_
        refine h18 _ _ ?_
        refine wp_ret ?_
        obtain rfl := Option.some.inj hF
        replace hc := hc.drop k12
        replace hc := hc.drop k11
        replace hc := hc.drop k10
        replace hc := hc.drop k9
        replace hc := hc.drop k8
        replace hc := hc.drop k7
        replace hc := hc.drop k6
        replace hc := hc.drop k5
        replace hc := hc.drop k4
        replace hc := hc.drop k3
        replace hc := hc.drop k2
        replace hc := hc.drop k1
        replace hc := hc.drop k0
        exact fnOut1 (by simp) rfl Try.results3 hf hc (show look _ 8 = _ from rfl) ⟨rfl, hc⟩

end Go.Nilo
