/-
  What functions of the Go text compute, as plain functions, and that they do, part 4 of 4. Conditions: what each theorem names.
-/
import Derived.Test.YtbcaeppbfioogaaFi3
import Derived.Test.YtbcaeppbfioogaaProg
set_option linter.unusedVariables false
set_option linter.unusedSimpArgs false
set_option maxRecDepth 100000
set_option maxHeartbeats 4000000
namespace Go.Nilo
open Go.Proofs


def law07_DailyFills (N : Nat) (r : daily_Record) (flows : List Int) : Option (Bool) :=
  cond ((decide (65 < ((r.Days.length : Nat) : Int))) || (decide (70 < ((flows.length : Nat) : Int))))
  (Option.bind (law07_awake N) fun r_0 =>
  some r_0)
  (Option.bind (law07_CopyRecord N r) fun r_1 =>
  Option.bind (kit_Copy_int N flows) fun r_2 =>
  Option.bind (daily_Check N r_1) fun r_3 =>
  Option.bind (law07_Record N r) fun r_4 =>
  Option.bind (ref07_Check N r_4) fun r_5 =>
  cond (r_3 != r_5)
  (some false)
  (Option.bind (daily_Holds N r_1 r_2) fun r_6 =>
  Option.bind (law07_Record N r) fun r_7 =>
  Option.bind (ref07_Holds N r_7 flows) fun r_8 =>
  cond ((r_6.1 != r_8.1) || (r_6.2 != r_8.2))
  (some false)
  (Option.bind (daily_Fill N r_1) fun r_9 =>
  Option.bind (law07_Record N r) fun r_10 =>
  Option.bind (ref07_Fill N r_10) fun r_11 =>
  Option.bind (kit_Same_api_Span N r_9.1 r_11.1) fun r_12 =>
  cond ((!r_12) || (r_9.2 != r_11.2))
  (some false)
  (Option.bind (daily_Clash N r_1) fun r_13 =>
  Option.bind (law07_Record N r) fun r_14 =>
  Option.bind (ref07_Clash N r_14) fun r_15 =>
  Option.bind (cond (((r_13.1 == r_15.1) && (r_13.2.1 == r_15.2.1)) && (r_13.2.2 == r_15.2.2)) (Option.bind (law07_same N r_1 r) fun r_16 =>
  some r_16) (some false)) fun t_1 =>
  Option.bind (cond t_1 (Option.bind (kit_Same_int N r_2 flows) fun r_17 =>
  some r_17) (some false)) fun t_2 =>
  Option.bind (cond t_2 (Option.bind (law07_awake N) fun r_18 =>
  some r_18) (some false)) fun t_3 =>
  some t_3))))
theorem law07_DailyFills_ok {N : Nat} {G : Pers} {Lf : List Ent} {w : World} (r : daily_Record) (flows : List Int) {r_Days_p : Option Addr} {r_Days_c : Nat} {flows_p : Option Addr} {flows_c : Nat} (h_r_Days : Rd G 3 r_Days_p r_Days_c (r.Days.map enc_daily_Value)) (h_flows : Rd G 1 flows_p flows_c (flows.map encI_i64)) (hc : Ctx G (Lf) w) {res : Bool} (hF : law07_DailyFills N r flows = some res) : Calls Try.prog 6 #[.agg #[.int .i64 r.Rise, .int .i64 r.Fall, .slice r_Days_p r.Days.length r_Days_c], .slice flows_p flows.length flows_c] w (fun e w => e = .returned (.bool res) ∧ Ctx G (Lf) w) := by
  unfold law07_DailyFills at hF
  refine fnIn (args := [.agg #[.int .i64 r.Rise, .int .i64 r.Fall, .slice r_Days_p r.Days.length r_Days_c], .slice flows_p flows.length flows_c]) Try.func6 rfl Try.ntmps6 rfl fun a hf => ?_
  refine wp_seq_k fun K1 h1 => ?_
  refine cReg ?_
  refine stBx (cs := [.int .i64 r.Rise, .int .i64 r.Fall, .slice r_Days_p r.Days.length r_Days_c]) hf hc rfl rfl rfl rfl fun b_1 a w hf hc => ?_
  refine stP hf rfl rfl rfl (pA rfl) fun a hf => ?_
  refine cNil ?_
  refine h1 _ _ ?_
  refine wp_seq_k fun K2 h2 => ?_
  refine wp_seq_k fun K3 h3 => ?_
  refine cReg ?_
  refine stP hf rfl rfl rfl (pFA fa_24_2 rfl) fun a hf => ?_
  refine stE hf hc rfl rfl rfl (eLd1 sc_22 rfl (cell_box m0 rfl)) fun a w hf hc => ?_
  refine stP hf rfl rfl rfl (pLenS Try.underlying22 rfl) fun a hf => ?_
  refine stP hf rfl rfl rfl (pGt rfl rfl) fun a hf => ?_
  refine stP hf rfl rfl rfl (pM rfl) fun a hf => ?_
  refine stCut 4 (fun a w => Has 117 a [(1, .slice flows_p flows.length flows_c), (2, .pointer (some ⟨b_1, 0, none⟩)), (17, .pointer (some ⟨b_1, 2, none⟩)), (18, .slice r_Days_p r.Days.length r_Days_c), (19, .int .i64 ((r.Days.length : Nat) : Int)), (20, .bool (decide (65 < ((r.Days.length : Nat) : Int)))), (21, .bool (decide (65 < ((r.Days.length : Nat) : Int)))), (25, .bool ((decide (65 < ((r.Days.length : Nat) : Int))) || (decide (70 < ((flows.length : Nat) : Int)))))] ∧ Ctx G (.box b_1 [.int .i64 r.Rise, .int .i64 r.Fall, .slice r_Days_p r.Days.length r_Days_c] 24 :: Lf) w) ?_ ?_
  · cases hb : (decide (65 < ((r.Days.length : Nat) : Int)))
    · rw [hb] at hf
      refine stP hf rfl rfl rfl (pM rfl) fun a hf => ?_
      refine stP hf rfl rfl rfl (pLenS Try.underlying39 rfl) fun a hf => ?_
      refine stP hf rfl rfl rfl (pGt rfl rfl) fun a hf => ?_
      refine stP hf rfl rfl rfl (pPf rfl rfl) fun a hf => ?_
      exact cNil ⟨hf.keep ⟨rfl, rfl, rfl, rfl, rfl, rfl, rfl, rfl, trivial⟩, hc⟩
    · rw [hb] at hf
      refine stS hf rfl rfl rfl fun a hf => ?_
      refine stS hf rfl rfl rfl fun a hf => ?_
      refine stS hf rfl rfl rfl fun a hf => ?_
      refine stP hf rfl rfl rfl (pPt rfl rfl) fun a hf => ?_
      exact cNil ⟨hf.keep ⟨rfl, rfl, rfl, rfl, rfl, rfl, rfl, rfl, trivial⟩, hc⟩
  intro a w ⟨hf, hc⟩
  refine cNil ?_
  refine h3 _ _ ?_
  refine cCond (b := ((decide (65 < ((r.Days.length : Nat) : Int))) || (decide (70 < ((flows.length : Nat) : Int))))) hf rfl (fun hb => ?_) (fun hb => ?_)
  · replace hF := condT hb hF
    clear hb
    refine wp_seq_k fun K4 h4 => ?_
    refine cReg ?_
    obtain ⟨r_0, hr_0, hF⟩ := bnd_some hF
    refine stE hf hc rfl rfl rfl (eC (v := .bool r_0) (vs := []) (caps := []) en_12 rfl rfl rfl rfl (fun w hc => law07_awake_ok hc hr_0)) fun a w hf hc => ?_
    refine stP hf rfl rfl rfl (pA rfl) fun a hf => ?_
    refine cNil ?_
    refine h4 _ _ ?_
    refine wp_ret ?_
    refine xThenR ?_
    obtain rfl := Option.some.inj hF
    replace hc := hc.drop k0
    exact fnOut1 (by simp) rfl Try.results6 hf hc (show look _ 4 = _ from rfl) ⟨rfl, hc⟩
  · replace hF := condF hb hF
    clear hb
    refine wp_skip ?_
    refine h2 _ _ ?_
    refine wp_seq_k fun K5 h5 => ?_
    refine cReg ?_
    refine stE hf hc rfl rfl rfl (eLdN (vs := [.int .i64 r.Rise, .int .i64 r.Fall, .slice r_Days_p r.Days.length r_Days_c]) ag_24 rfl rfl (cells_box (n := 3) m0 rfl)) fun a w hf hc => ?_
    obtain ⟨r_1, hr_1, hF⟩ := bnd_some hF
    refine stC (vs := [.agg #[.int .i64 r.Rise, .int .i64 r.Fall, .slice r_Days_p r.Days.length r_Days_c]]) (caps := []) hf rfl rfl rfl en_13 rfl rfl rfl rfl (law07_CopyRecord_ok r h_r_Days hc hr_1) ?_
    rintro _ w ⟨p_1, c_1, rfl, hc⟩
    refine ⟨_, rfl, fun a hf => ?_⟩
    refine stP hf rfl rfl rfl (pM rfl) fun a hf => ?_
    obtain ⟨r_2, hr_2, hF⟩ := bnd_some hF
    refine stC (vs := [.slice flows_p flows.length flows_c]) (caps := []) hf rfl rfl rfl en_33 rfl rfl rfl rfl (kit_Copy_int_ok flows h_flows hc hr_2) ?_
    rintro _ w ⟨p_2, c_2, rfl, hc⟩
    refine ⟨_, rfl, fun a hf => ?_⟩
    refine stAl (cs := [.int .i64 0, .int .i64 0, .slice none 0 0]) hf hc rfl rfl zr_24 rfl fun b_2 a w hf hc => ?_
    refine stSt (vs := [.int .i64 r_1.Rise, .int .i64 r_1.Fall, .slice p_1 r_1.Days.length c_1]) hf hc rfl rfl rfl rfl sz_24 rfl rfl u0 fun w hc => ?_
    refine stP hf rfl rfl rfl (pA rfl) fun a hf => ?_
    refine cNil ?_
    refine h5 _ _ ?_
    refine wp_seq_k fun K6 h6 => ?_
    refine wp_seq_k fun K7 h7 => ?_
    obtain ⟨r_3, hr_3, hF⟩ := bnd_some hF
    obtain ⟨r_4, hr_4, hF⟩ := bnd_some hF
    obtain ⟨r_5, hr_5, hF⟩ := bnd_some hF
    replace hc := hc.nilRow 0 0
    refine regionE (fun θ => [⟨none, none, 1, .slice flows_p flows.length flows_c⟩, ⟨none, none, 2, .pointer (some ⟨b_1, 0, none⟩)⟩, ⟨none, none, 5, .pointer (some ⟨b_2, 0, none⟩)⟩, ⟨none, none, 6, .slice p_2 r_2.length c_2⟩, ⟨some 0, none, 31, .agg #[.int .i64 r_1.Rise, .int .i64 r_1.Fall, .slice p_1 r_1.Days.length c_1]⟩, ⟨some 1, none, 32, .int .i64 r_3⟩, ⟨some 2, none, 33, .agg #[.int .i64 r.Rise, .int .i64 r.Fall, .slice r_Days_p r.Days.length r_Days_c]⟩, ⟨some 3, none, 34, .agg #[.int .i64 r_4.Rise, .int .i64 r_4.Fall, .slice ((θ 24).p) r_4.Days.length ((θ 24).c)]⟩, ⟨some 4, none, 35, .int .i64 r_5⟩, ⟨some 5, none, 36, .bool (r_3 != r_5)⟩]) (fun E θ => (bif E 3 then .row ((θ 24).p) ((θ 24).c) (r_4.Days.map enc_ref07_Value) 128 3 else .row none 0 [] 0 0) :: .box b_2 [.int .i64 r_1.Rise, .int .i64 r_1.Fall, .slice p_1 r_1.Days.length c_1] 24 :: .row p_2 c_2 (r_2.map encI_i64) 3 1 :: .row p_1 c_1 (r_1.Days.map enc_daily_Value) 56 3 :: .box b_1 [.int .i64 r.Rise, .int .i64 r.Fall, .slice r_Days_p r.Days.length r_Days_c] 24 :: Lf) [] (fun a w => ∃ (p_4 : Option Addr) (c_4 : Nat), Has 117 a [(1, .slice flows_p flows.length flows_c), (2, .pointer (some ⟨b_1, 0, none⟩)), (5, .pointer (some ⟨b_2, 0, none⟩)), (6, .slice p_2 r_2.length c_2), (36, .bool (r_3 != r_5))] ∧ Ctx G (.row p_4 c_4 (r_4.Days.map enc_ref07_Value) 128 3 :: .box b_2 [.int .i64 r_1.Rise, .int .i64 r_1.Fall, .slice p_1 r_1.Days.length c_1] 24 :: .row p_2 c_2 (r_2.map encI_i64) 3 1 :: .row p_1 c_1 (r_1.Days.map enc_daily_Value) 56 3 :: .box b_1 [.int .i64 r.Rise, .int .i64 r.Fall, .slice r_Days_p r.Days.length r_Days_c] 24 :: Lf) w) follows_mx (by kernel_rfl) (by kernel_rfl) (HasE.of hf ⟨rfl, rfl, rfl, rfl, trivial, trivial, trivial, trivial, trivial, trivial, trivial⟩) hc ⟨?_, ?_, ?_, ?_, ?_, ?_, trivial⟩ ?_ ?_
    · intro E θ a w hD hi hp he hc
      have hf := he.h0
      replace hf := hf.more he 2 rfl onT
      refine stE hf hc rfl rfl rfl (eLdN (vs := [.int .i64 r_1.Rise, .int .i64 r_1.Fall, .slice p_1 r_1.Days.length c_1]) ag_24 rfl rfl (cells_box (n := 3) m1 rfl)) fun a w hf hc => ?_
      refine cNil ?_
      refine xThenN ?_
      intro ds u hau
      refine ⟨θ, he.put0 hi hau hf rfl 4 rfl rfl, ?_⟩
      exact hc
    · intro E θ a w hD hi hp he hc
      have e0 := hp.of (k := 0) rfl
      have hf := he.h0
      replace hf := hf.more he 4 rfl (onP e0)
      refine stE hf hc rfl rfl rfl (eC (v := .int .i64 r_3) (vs := [.agg #[.int .i64 r_1.Rise, .int .i64 r_1.Fall, .slice p_1 r_1.Days.length c_1]]) (caps := []) en_34 rfl rfl rfl rfl (fun w hc => by obtain ⟨G1, hle1, hrd1, hc, hth1⟩ := lend hc k3; exact (daily_Check_ok r_1 hrd1 hc hr_3).mono fun e w h => ⟨h.1, ((hth1 _ _ h.2).unpick k3)⟩)) fun a w hf hc => ?_
      refine cNil ?_
      refine xThenN ?_
      intro ds u hau
      refine ⟨θ, he.put0 hi hau hf rfl 5 rfl rfl, ?_⟩
      exact hc
    · intro E θ a w hD hi hp he hc
      have hf := he.h0
      replace hf := hf.more he 1 rfl onT
      refine stE hf hc rfl rfl rfl (eLdN (vs := [.int .i64 r.Rise, .int .i64 r.Fall, .slice r_Days_p r.Days.length r_Days_c]) ag_24 rfl rfl (cells_box (n := 3) m4 rfl)) fun a w hf hc => ?_
      refine cNil ?_
      refine xThenN ?_
      intro ds u hau
      refine ⟨θ, he.put0 hi hau hf rfl 6 rfl rfl, ?_⟩
      exact hc
    · intro E θ a w hD hi hp he hc
      have e2 := hp.of (k := 2) rfl
      try dsimp only at hc
      rw [hi] at hc
      have hf := he.h0
      replace hf := hf.more he 6 rfl (onP e2)
      refine stC (vs := [.agg #[.int .i64 r.Rise, .int .i64 r.Fall, .slice r_Days_p r.Days.length r_Days_c]]) (caps := []) hf rfl rfl rfl en_17 rfl rfl rfl rfl (law07_Record_ok r h_r_Days hc hr_4) ?_
      rintro _ w ⟨p_3, c_3, rfl, hc⟩
      refine ⟨_, rfl, fun a hf => ?_⟩
      refine cNil ?_
      refine xThenN ?_
      intro ds u hau
      replace hc := hc.drop k1
      refine ⟨(setT θ 24 ⟨0, p_3, c_3⟩), he.put hi hau hf rfl [] trivial ⟨qq, qq, qq, qq, qq, qq, qq, qq, qq, qq, trivial⟩, ?_⟩
      try dsimp only
      rw [updE_self E 3]
      exact hc
    · intro E θ a w hD hi hp he hc
      have e3 := hp.of (k := 3) rfl
      try dsimp only at hc
      rw [e3] at hc
      have hf := he.h0
      replace hf := hf.more he 7 rfl (onP e3)
      refine stE hf hc rfl rfl rfl (eC (v := .int .i64 r_5) (vs := [.agg #[.int .i64 r_4.Rise, .int .i64 r_4.Fall, .slice ((θ 24).p) r_4.Days.length ((θ 24).c)]]) (caps := []) en_35 rfl rfl rfl rfl (fun w hc => by obtain ⟨G1, hle1, hrd1, hc, hth1⟩ := lend hc k0; exact (ref07_Check_ok r_4 hrd1 hc hr_5).mono fun e w h => ⟨h.1, ((hth1 _ _ h.2).unpick k0)⟩)) fun a w hf hc => ?_
      refine cNil ?_
      refine xThenN ?_
      intro ds u hau
      refine ⟨θ, he.put0 hi hau hf rfl 8 rfl rfl, ?_⟩
      try dsimp only
      rw [updE_tru 4 e3]
      exact hc
    · intro E θ a w hD hi hp he hc
      have e1 := hp.of (k := 1) rfl
      have e4 := hp.of (k := 4) rfl
      have hf := he.h0
      replace hf := hf.more he 5 rfl (onP e1)
      replace hf := hf.more he 8 rfl (onP e4)
      refine stP hf rfl rfl rfl (pNe rfl rfl) fun a hf => ?_
      refine cNil ?_
      refine xThenN ?_
      intro ds u hau
      refine ⟨θ, he.put0 hi hau hf rfl 9 rfl rfl, ?_⟩
      exact hc
    · intro E θ a w hall he hc
      have hf := he.h0
      have e3 := hall 3 rfl
      have e5 := hall 5 rfl
      replace hf := hf.more he 9 rfl (onP e5)
      replace hf := hf.more he 3 rfl (onT)
      replace hf := hf.more he 2 rfl (onT)
      replace hf := hf.more he 1 rfl (onT)
      replace hf := hf.more he 0 rfl (onT)
      try dsimp only at hc
      rw [e3] at hc
      exact ⟨(θ 24).p, (θ 24).c, hf.keep ⟨rfl, rfl, rfl, rfl, rfl, trivial⟩, hc⟩
    rintro a w ⟨p_4, c_4, hf, hc⟩
    refine h7 _ _ ?_
    refine cCond (b := (r_3 != r_5)) hf rfl (fun hb => ?_) (fun hb => ?_)
    · replace hF := condT hb hF
      clear hb
      refine wp_seq_k fun K8 h8 => ?_
      refine cReg ?_
      refine stP hf rfl rfl rfl (pA rfl) fun a hf => ?_
      refine cNil ?_
      refine h8 _ _ ?_
      refine wp_ret ?_
      refine xThenR ?_
      obtain rfl := Option.some.inj hF
      replace hc := hc.drop k4
      replace hc := hc.drop k3
      replace hc := hc.drop k2
      replace hc := hc.drop k1
      replace hc := hc.drop k0
      exact fnOut1 (by simp) rfl Try.results6 hf hc (show look _ 4 = _ from rfl) ⟨rfl, hc⟩
    · replace hF := condF hb hF
      clear hb
      refine wp_skip ?_
      refine h6 _ _ ?_
      refine wp_seq_k fun K9 h9 => ?_
      refine cReg ?_
      refine stE hf hc rfl rfl rfl (eLdN (vs := [.int .i64 r_1.Rise, .int .i64 r_1.Fall, .slice p_1 r_1.Days.length c_1]) ag_24 rfl rfl (cells_box (n := 3) m1 rfl)) fun a w hf hc => ?_
      refine stP hf rfl rfl rfl (pM rfl) fun a hf => ?_
      obtain ⟨r_6, hr_6, hF⟩ := bnd_some hF
      refine stE hf hc rfl rfl rfl (eC (v := .tuple #[.int .i64 r_6.1, .int .i64 r_6.2]) (vs := [.agg #[.int .i64 r_1.Rise, .int .i64 r_1.Fall, .slice p_1 r_1.Days.length c_1], .slice p_2 r_2.length c_2]) (caps := []) en_36 rfl rfl rfl rfl (fun w hc => by obtain ⟨G1, hle1, hrd1, hc, hth1⟩ := lend hc k3; obtain ⟨G2, hle2, hrd2, hc, hth2⟩ := lend hc k2; exact (daily_Holds_ok r_1 r_2 (hrd1.mono hle2) hrd2 hc hr_6).mono fun e w h => ⟨h.1, ((hth1 _ _ ((hth2 _ _ h.2).unpick k2)).unpick k3)⟩)) fun a w hf hc => ?_
      refine stP hf rfl rfl rfl (pM rfl) fun a hf => ?_
      refine stP hf rfl rfl rfl (pX rfl rfl) fun a hf => ?_
      refine stP hf rfl rfl rfl (pX rfl rfl) fun a hf => ?_
      refine stP hf rfl rfl rfl (pA rfl) fun a hf => ?_
      refine stP hf rfl rfl rfl (pA rfl) fun a hf => ?_
      refine cNil ?_
      refine h9 _ _ ?_
      refine wp_seq_k fun K10 h10 => ?_
      refine cReg ?_
      refine stE hf hc rfl rfl rfl (eLdN (vs := [.int .i64 r.Rise, .int .i64 r.Fall, .slice r_Days_p r.Days.length r_Days_c]) ag_24 rfl rfl (cells_box (n := 3) m4 rfl)) fun a w hf hc => ?_
      obtain ⟨r_7, hr_7, hF⟩ := bnd_some hF
      refine stC (vs := [.agg #[.int .i64 r.Rise, .int .i64 r.Fall, .slice r_Days_p r.Days.length r_Days_c]]) (caps := []) hf rfl rfl rfl en_17 rfl rfl rfl rfl (law07_Record_ok r h_r_Days hc hr_7) ?_
      rintro _ w ⟨p_5, c_5, rfl, hc⟩
      refine ⟨_, rfl, fun a hf => ?_⟩
      refine stP hf rfl rfl rfl (pM rfl) fun a hf => ?_
      obtain ⟨r_8, hr_8, hF⟩ := bnd_some hF
      refine stE hf hc rfl rfl rfl (eC (v := .tuple #[.int .i64 r_8.1, .int .i64 r_8.2]) (vs := [.agg #[.int .i64 r_7.Rise, .int .i64 r_7.Fall, .slice p_5 r_7.Days.length c_5], .slice flows_p flows.length flows_c]) (caps := []) en_37 rfl rfl rfl rfl (fun w hc => by obtain ⟨G1, hle1, hrd1, hc, hth1⟩ := lend hc k0; exact (ref07_Holds_ok r_7 flows hrd1 (h_flows.mono hle1) hc hr_8).mono fun e w h => ⟨h.1, ((hth1 _ _ h.2).unpick k0)⟩)) fun a w hf hc => ?_
      refine stP hf rfl rfl rfl (pM rfl) fun a hf => ?_
      refine stP hf rfl rfl rfl (pX rfl rfl) fun a hf => ?_
      refine stP hf rfl rfl rfl (pX rfl rfl) fun a hf => ?_
      refine stP hf rfl rfl rfl (pA rfl) fun a hf => ?_
      refine stP hf rfl rfl rfl (pA rfl) fun a hf => ?_
      refine cNil ?_
      refine h10 _ _ ?_
      refine wp_seq_k fun K11 h11 => ?_
      refine wp_seq_k fun K12 h12 => ?_
      refine cReg ?_
      refine stP hf rfl rfl rfl (pM rfl) fun a hf => ?_
      refine stP hf rfl rfl rfl (pM rfl) fun a hf => ?_
      refine stP hf rfl rfl rfl (pNe rfl rfl) fun a hf => ?_
      refine stP hf rfl rfl rfl (pM rfl) fun a hf => ?_
      refine stCut 4 (fun a w => Has 117 a [(1, .slice flows_p flows.length flows_c), (2, .pointer (some ⟨b_1, 0, none⟩)), (5, .pointer (some ⟨b_2, 0, none⟩)), (6, .slice p_2 r_2.length c_2), (7, .int .i64 r_6.1), (8, .int .i64 r_6.2), (9, .int .i64 r_8.1), (10, .int .i64 r_8.2), (50, .int .i64 r_6.1), (51, .int .i64 r_8.1), (52, .bool (r_6.1 != r_8.1)), (53, .bool (r_6.1 != r_8.1)), (57, .bool ((r_6.1 != r_8.1) || (r_6.2 != r_8.2)))] ∧ Ctx G (.row p_5 c_5 (r_7.Days.map enc_ref07_Value) 128 3 :: .row p_4 c_4 (r_4.Days.map enc_ref07_Value) 128 3 :: .box b_2 [.int .i64 r_1.Rise, .int .i64 r_1.Fall, .slice p_1 r_1.Days.length c_1] 24 :: .row p_2 c_2 (r_2.map encI_i64) 3 1 :: .row p_1 c_1 (r_1.Days.map enc_daily_Value) 56 3 :: .box b_1 [.int .i64 r.Rise, .int .i64 r.Fall, .slice r_Days_p r.Days.length r_Days_c] 24 :: Lf) w) ?_ ?_
      · cases hb : (r_6.1 != r_8.1)
        · rw [hb] at hf
          refine stP hf rfl rfl rfl (pM rfl) fun a hf => ?_
          refine stP hf rfl rfl rfl (pM rfl) fun a hf => ?_
          refine stP hf rfl rfl rfl (pNe rfl rfl) fun a hf => ?_
          refine stP hf rfl rfl rfl (pPf rfl rfl) fun a hf => ?_
          exact cNil ⟨hf.keep ⟨rfl, rfl, rfl, rfl, rfl, rfl, rfl, rfl, rfl, rfl, rfl, rfl, rfl, trivial⟩, hc⟩
        · rw [hb] at hf
          refine stS hf rfl rfl rfl fun a hf => ?_
          refine stS hf rfl rfl rfl fun a hf => ?_
          refine stS hf rfl rfl rfl fun a hf => ?_
          refine stP hf rfl rfl rfl (pPt rfl rfl) fun a hf => ?_
          exact cNil ⟨hf.keep ⟨rfl, rfl, rfl, rfl, rfl, rfl, rfl, rfl, rfl, rfl, rfl, rfl, rfl, trivial⟩, hc⟩
      intro a w ⟨hf, hc⟩
      refine cNil ?_
      refine h12 _ _ ?_
      refine cCond (b := ((r_6.1 != r_8.1) || (r_6.2 != r_8.2))) hf rfl (fun hb => ?_) (fun hb => ?_)
      · replace hF := condT hb hF
        clear hb
        refine wp_seq_k fun K13 h13 => ?_
        refine cReg ?_
        refine stP hf rfl rfl rfl (pA rfl) fun a hf => ?_
        refine cNil ?_
        refine h13 _ _ ?_
        refine wp_ret ?_
        refine xThenR ?_
        obtain rfl := Option.some.inj hF
        replace hc := hc.drop k5
        replace hc := hc.drop k4
        replace hc := hc.drop k3
        replace hc := hc.drop k2
        replace hc := hc.drop k1
        replace hc := hc.drop k0
        exact fnOut1 (by simp) rfl Try.results6 hf hc (show look _ 4 = _ from rfl) ⟨rfl, hc⟩
      · replace hF := condF hb hF
        clear hb
        refine wp_skip ?_
        refine h11 _ _ ?_
        refine wp_seq_k fun K14 h14 => ?_
        refine cReg ?_
        refine stE hf hc rfl rfl rfl (eLdN (vs := [.int .i64 r_1.Rise, .int .i64 r_1.Fall, .slice p_1 r_1.Days.length c_1]) ag_24 rfl rfl (cells_box (n := 3) m2 rfl)) fun a w hf hc => ?_
        obtain ⟨r_9, hr_9, hF⟩ := bnd_some hF
        obtain ⟨G1, hle1, hrd1, hc, hth1⟩ := lend hc k4
        refine stC (vs := [.agg #[.int .i64 r_1.Rise, .int .i64 r_1.Fall, .slice p_1 r_1.Days.length c_1]]) (caps := []) hf rfl rfl rfl en_29 rfl rfl rfl rfl (daily_Fill_ok r_1 hrd1 hc hr_9) ?_
        rintro _ w ⟨p_6, c_6, rfl, hc⟩
        refine ⟨_, rfl, fun a hf => ?_⟩
        replace hc := hth1 _ _ hc
        refine stP hf rfl rfl rfl (pM rfl) fun a hf => ?_
        refine stP hf rfl rfl rfl (pX rfl rfl) fun a hf => ?_
        refine stP hf rfl rfl rfl (pX rfl rfl) fun a hf => ?_
        refine stP hf rfl rfl rfl (pA rfl) fun a hf => ?_
        refine stP hf rfl rfl rfl (pA rfl) fun a hf => ?_
        refine cNil ?_
        refine h14 _ _ ?_
        refine wp_seq_k fun K15 h15 => ?_
        refine cReg ?_
        refine stE hf hc rfl rfl rfl (eLdN (vs := [.int .i64 r.Rise, .int .i64 r.Fall, .slice r_Days_p r.Days.length r_Days_c]) ag_24 rfl rfl (cells_box (n := 3) m6 rfl)) fun a w hf hc => ?_
        obtain ⟨r_10, hr_10, hF⟩ := bnd_some hF
        refine stC (vs := [.agg #[.int .i64 r.Rise, .int .i64 r.Fall, .slice r_Days_p r.Days.length r_Days_c]]) (caps := []) hf rfl rfl rfl en_17 rfl rfl rfl rfl (law07_Record_ok r h_r_Days hc hr_10) ?_
        rintro _ w ⟨p_7, c_7, rfl, hc⟩
        refine ⟨_, rfl, fun a hf => ?_⟩
        obtain ⟨r_11, hr_11, hF⟩ := bnd_some hF
        obtain ⟨G1, hle1, hrd1, hc, hth1⟩ := lend hc k0
        refine stC (vs := [.agg #[.int .i64 r_10.Rise, .int .i64 r_10.Fall, .slice p_7 r_10.Days.length c_7]]) (caps := []) hf rfl rfl rfl en_38 rfl rfl rfl rfl (ref07_Fill_ok r_10 hrd1 hc hr_11) ?_
        rintro _ w ⟨p_8, c_8, rfl, hc⟩
        refine ⟨_, rfl, fun a hf => ?_⟩
        replace hc := hth1 _ _ hc
        refine stP hf rfl rfl rfl (pM rfl) fun a hf => ?_
        refine stP hf rfl rfl rfl (pX rfl rfl) fun a hf => ?_
        refine stP hf rfl rfl rfl (pX rfl rfl) fun a hf => ?_
        refine stP hf rfl rfl rfl (pA rfl) fun a hf => ?_
        refine stP hf rfl rfl rfl (pA rfl) fun a hf => ?_
        refine cNil ?_
        refine h15 _ _ ?_
        refine wp_seq_k fun K16 h16 => ?_
        refine wp_seq_k fun K17 h17 => ?_
        refine cReg ?_
        refine stP hf rfl rfl rfl (pM rfl) fun a hf => ?_
        refine stP hf rfl rfl rfl (pM rfl) fun a hf => ?_
        obtain ⟨r_12, hr_12, hF⟩ := bnd_some hF
        refine stE hf hc rfl rfl rfl (eC (v := .bool r_12) (vs := [.slice p_6 r_9.1.length c_6, .slice p_8 r_11.1.length c_8]) (caps := []) en_24 rfl rfl rfl rfl (fun w hc => by obtain ⟨G1, hle1, hrd1, hc, hth1⟩ := lend hc k3; obtain ⟨G2, hle2, hrd2, hc, hth2⟩ := lend hc k1; exact (kit_Same_api_Span_ok r_9.1 r_11.1 (hrd1.mono hle2) hrd2 hc hr_12).mono fun e w h => ⟨h.1, ((hth1 _ _ ((hth2 _ _ h.2).unpick k1)).unpick k3)⟩)) fun a w hf hc => ?_
        refine stP hf rfl rfl rfl (pNot rfl) fun a hf => ?_
        refine stP hf rfl rfl rfl (pM rfl) fun a hf => ?_
        refine stCut 4 (fun a w => Has 117 a [(1, .slice flows_p flows.length flows_c), (2, .pointer (some ⟨b_1, 0, none⟩)), (5, .pointer (some ⟨b_2, 0, none⟩)), (6, .slice p_2 r_2.length c_2), (8, .int .i64 r_9.2), (10, .int .i64 r_11.2), (11, .slice p_6 r_9.1.length c_6), (12, .slice p_8 r_11.1.length c_8), (69, .slice p_6 r_9.1.length c_6), (70, .slice p_8 r_11.1.length c_8), (71, .bool r_12), (72, .bool (!r_12)), (73, .bool (!r_12)), (77, .bool ((!r_12) || (r_9.2 != r_11.2)))] ∧ Ctx G (.row p_7 c_7 (r_10.Days.map enc_ref07_Value) 128 3 :: .row p_8 c_8 (r_11.1.map enc_api_Span) 30 2 :: .row p_1 c_1 (r_1.Days.map enc_daily_Value) 56 3 :: .row p_6 c_6 (r_9.1.map enc_api_Span) 30 2 :: .row p_5 c_5 (r_7.Days.map enc_ref07_Value) 128 3 :: .row p_4 c_4 (r_4.Days.map enc_ref07_Value) 128 3 :: .box b_2 [.int .i64 r_1.Rise, .int .i64 r_1.Fall, .slice p_1 r_1.Days.length c_1] 24 :: .row p_2 c_2 (r_2.map encI_i64) 3 1 :: .box b_1 [.int .i64 r.Rise, .int .i64 r.Fall, .slice r_Days_p r.Days.length r_Days_c] 24 :: Lf) w) ?_ ?_
        · cases hb : (!r_12)
          · rw [hb] at hf
            refine stP hf rfl rfl rfl (pM rfl) fun a hf => ?_
            refine stP hf rfl rfl rfl (pM rfl) fun a hf => ?_
            refine stP hf rfl rfl rfl (pNe rfl rfl) fun a hf => ?_
            refine stP hf rfl rfl rfl (pPf rfl rfl) fun a hf => ?_
            exact cNil ⟨hf.keep ⟨rfl, rfl, rfl, rfl, rfl, rfl, rfl, rfl, rfl, rfl, rfl, rfl, rfl, rfl, trivial⟩, hc⟩
          · rw [hb] at hf
            refine stS hf rfl rfl rfl fun a hf => ?_
            refine stS hf rfl rfl rfl fun a hf => ?_
            refine stS hf rfl rfl rfl fun a hf => ?_
            refine stP hf rfl rfl rfl (pPt rfl rfl) fun a hf => ?_
            exact cNil ⟨hf.keep ⟨rfl, rfl, rfl, rfl, rfl, rfl, rfl, rfl, rfl, rfl, rfl, rfl, rfl, rfl, trivial⟩, hc⟩
        intro a w ⟨hf, hc⟩
        refine cNil ?_
        refine h17 _ _ ?_
        refine cCond (b := ((!r_12) || (r_9.2 != r_11.2))) hf rfl (fun hb => ?_) (fun hb => ?_)
        · replace hF := condT hb hF
          clear hb
          refine wp_seq_k fun K18 h18 => ?_
          refine cReg ?_
          refine stP hf rfl rfl rfl (pA rfl) fun a hf => ?_
          refine cNil ?_
          refine h18 _ _ ?_
          refine wp_ret ?_
          refine xThenR ?_
          obtain rfl := Option.some.inj hF
          replace hc := hc.drop k8
          replace hc := hc.drop k7
          replace hc := hc.drop k6
          replace hc := hc.drop k5
          replace hc := hc.drop k4
          replace hc := hc.drop k3
          replace hc := hc.drop k2
          replace hc := hc.drop k1
          replace hc := hc.drop k0
          exact fnOut1 (by simp) rfl Try.results6 hf hc (show look _ 4 = _ from rfl) ⟨rfl, hc⟩
        · replace hF := condF hb hF
          clear hb
          refine wp_skip ?_
          refine h16 _ _ ?_
          refine wp_seq_k fun K19 h19 => ?_
          refine cReg ?_
          refine stE hf hc rfl rfl rfl (eLdN (vs := [.int .i64 r_1.Rise, .int .i64 r_1.Fall, .slice p_1 r_1.Days.length c_1]) ag_24 rfl rfl (cells_box (n := 3) m6 rfl)) fun a w hf hc => ?_
          obtain ⟨r_13, hr_13, hF⟩ := bnd_some hF
          refine stE hf hc rfl rfl rfl (eC (v := .tuple #[.int .i64 r_13.1, .int .i64 r_13.2.1, .int .i64 r_13.2.2]) (vs := [.agg #[.int .i64 r_1.Rise, .int .i64 r_1.Fall, .slice p_1 r_1.Days.length c_1]]) (caps := []) en_28 rfl rfl rfl rfl (fun w hc => by obtain ⟨G1, hle1, hrd1, hc, hth1⟩ := lend hc k2; exact (daily_Clash_ok r_1 hrd1 hc hr_13).mono fun e w h => ⟨h.1, ((hth1 _ _ h.2).unpick k2)⟩)) fun a w hf hc => ?_
          refine stP hf rfl rfl rfl (pM rfl) fun a hf => ?_
          refine stP hf rfl rfl rfl (pX rfl rfl) fun a hf => ?_
          refine stP hf rfl rfl rfl (pX rfl rfl) fun a hf => ?_
          refine stP hf rfl rfl rfl (pX rfl rfl) fun a hf => ?_
          refine stP hf rfl rfl rfl (pA rfl) fun a hf => ?_
          refine stP hf rfl rfl rfl (pA rfl) fun a hf => ?_
          refine stP hf rfl rfl rfl (pA rfl) fun a hf => ?_
          refine cNil ?_
          refine h19 _ _ ?_
          refine wp_seq_k fun K20 h20 => ?_
          refine cReg ?_
          refine stE hf hc rfl rfl rfl (eLdN (vs := [.int .i64 r.Rise, .int .i64 r.Fall, .slice r_Days_p r.Days.length r_Days_c]) ag_24 rfl rfl (cells_box (n := 3) m8 rfl)) fun a w hf hc => ?_
          obtain ⟨r_14, hr_14, hF⟩ := bnd_some hF
          refine stC (vs := [.agg #[.int .i64 r.Rise, .int .i64 r.Fall, .slice r_Days_p r.Days.length r_Days_c]]) (caps := []) hf rfl rfl rfl en_17 rfl rfl rfl rfl (law07_Record_ok r h_r_Days hc hr_14) ?_
          rintro _ w ⟨p_9, c_9, rfl, hc⟩
          refine ⟨_, rfl, fun a hf => ?_⟩
          obtain ⟨r_15, hr_15, hF⟩ := bnd_some hF
          refine stE hf hc rfl rfl rfl (eC (v := .tuple #[.int .i64 r_15.1, .int .i64 r_15.2.1, .int .i64 r_15.2.2]) (vs := [.agg #[.int .i64 r_14.Rise, .int .i64 r_14.Fall, .slice p_9 r_14.Days.length c_9]]) (caps := []) en_39 rfl rfl rfl rfl (fun w hc => by obtain ⟨G1, hle1, hrd1, hc, hth1⟩ := lend hc k0; exact (ref07_Clash_ok r_14 hrd1 hc hr_15).mono fun e w h => ⟨h.1, ((hth1 _ _ h.2).unpick k0)⟩)) fun a w hf hc => ?_
          refine stP hf rfl rfl rfl (pM rfl) fun a hf => ?_
          refine stP hf rfl rfl rfl (pX rfl rfl) fun a hf => ?_
          refine stP hf rfl rfl rfl (pX rfl rfl) fun a hf => ?_
          refine stP hf rfl rfl rfl (pX rfl rfl) fun a hf => ?_
          refine stP hf rfl rfl rfl (pA rfl) fun a hf => ?_
          refine stP hf rfl rfl rfl (pA rfl) fun a hf => ?_
          refine stP hf rfl rfl rfl (pA rfl) fun a hf => ?_
          refine cNil ?_
          refine h20 _ _ ?_
          refine wp_seq_k fun K21 h21 => ?_
          refine cReg ?_
          refine stP hf rfl rfl rfl (pM rfl) fun a hf => ?_
          refine stP hf rfl rfl rfl (pM rfl) fun a hf => ?_
          refine stP hf rfl rfl rfl (pEq rfl rfl) fun a hf => ?_
          refine stP hf rfl rfl rfl (pM rfl) fun a hf => ?_
          refine stCut 4 (fun a w => Has 117 a [(1, .slice flows_p flows.length flows_c), (2, .pointer (some ⟨b_1, 0, none⟩)), (5, .pointer (some ⟨b_2, 0, none⟩)), (6, .slice p_2 r_2.length c_2), (8, .int .i64 r_13.2.2), (10, .int .i64 r_15.2.2), (13, .int .i64 r_13.1), (14, .int .i64 r_13.2.1), (15, .int .i64 r_15.1), (16, .int .i64 r_15.2.1), (91, .int .i64 r_13.1), (92, .int .i64 r_15.1), (93, .bool (r_13.1 == r_15.1)), (94, .bool (r_13.1 == r_15.1)), (98, .bool ((r_13.1 == r_15.1) && (r_13.2.1 == r_15.2.1)))] ∧ Ctx G (.row p_9 c_9 (r_14.Days.map enc_ref07_Value) 128 3 :: .row p_7 c_7 (r_10.Days.map enc_ref07_Value) 128 3 :: .row p_8 c_8 (r_11.1.map enc_api_Span) 30 2 :: .row p_1 c_1 (r_1.Days.map enc_daily_Value) 56 3 :: .row p_6 c_6 (r_9.1.map enc_api_Span) 30 2 :: .row p_5 c_5 (r_7.Days.map enc_ref07_Value) 128 3 :: .row p_4 c_4 (r_4.Days.map enc_ref07_Value) 128 3 :: .box b_2 [.int .i64 r_1.Rise, .int .i64 r_1.Fall, .slice p_1 r_1.Days.length c_1] 24 :: .row p_2 c_2 (r_2.map encI_i64) 3 1 :: .box b_1 [.int .i64 r.Rise, .int .i64 r.Fall, .slice r_Days_p r.Days.length r_Days_c] 24 :: Lf) w) ?_ ?_
          · cases hb : (r_13.1 == r_15.1)
            · rw [hb] at hf
              refine stS hf rfl rfl rfl fun a hf => ?_
              refine stS hf rfl rfl rfl fun a hf => ?_
              refine stS hf rfl rfl rfl fun a hf => ?_
              refine stP hf rfl rfl rfl (pPf rfl rfl) fun a hf => ?_
              exact cNil ⟨hf.keep ⟨rfl, rfl, rfl, rfl, rfl, rfl, rfl, rfl, rfl, rfl, rfl, rfl, rfl, rfl, rfl, trivial⟩, hc⟩
            · rw [hb] at hf
              refine stP hf rfl rfl rfl (pM rfl) fun a hf => ?_
              refine stP hf rfl rfl rfl (pM rfl) fun a hf => ?_
              refine stP hf rfl rfl rfl (pEq rfl rfl) fun a hf => ?_
              refine stP hf rfl rfl rfl (pPt rfl rfl) fun a hf => ?_
              exact cNil ⟨hf.keep ⟨rfl, rfl, rfl, rfl, rfl, rfl, rfl, rfl, rfl, rfl, rfl, rfl, rfl, rfl, rfl, trivial⟩, hc⟩
          intro a w ⟨hf, hc⟩
          refine stP hf rfl rfl rfl (pM rfl) fun a hf => ?_
          refine stCut 4 (fun a w => Has 117 a [(1, .slice flows_p flows.length flows_c), (2, .pointer (some ⟨b_1, 0, none⟩)), (5, .pointer (some ⟨b_2, 0, none⟩)), (6, .slice p_2 r_2.length c_2), (8, .int .i64 r_13.2.2), (10, .int .i64 r_15.2.2), (13, .int .i64 r_13.1), (14, .int .i64 r_13.2.1), (15, .int .i64 r_15.1), (16, .int .i64 r_15.2.1), (91, .int .i64 r_13.1), (92, .int .i64 r_15.1), (93, .bool (r_13.1 == r_15.1)), (94, .bool (r_13.1 == r_15.1)), (98, .bool ((r_13.1 == r_15.1) && (r_13.2.1 == r_15.2.1))), (99, .bool ((r_13.1 == r_15.1) && (r_13.2.1 == r_15.2.1))), (103, .bool (((r_13.1 == r_15.1) && (r_13.2.1 == r_15.2.1)) && (r_13.2.2 == r_15.2.2)))] ∧ Ctx G (.row p_9 c_9 (r_14.Days.map enc_ref07_Value) 128 3 :: .row p_7 c_7 (r_10.Days.map enc_ref07_Value) 128 3 :: .row p_8 c_8 (r_11.1.map enc_api_Span) 30 2 :: .row p_1 c_1 (r_1.Days.map enc_daily_Value) 56 3 :: .row p_6 c_6 (r_9.1.map enc_api_Span) 30 2 :: .row p_5 c_5 (r_7.Days.map enc_ref07_Value) 128 3 :: .row p_4 c_4 (r_4.Days.map enc_ref07_Value) 128 3 :: .box b_2 [.int .i64 r_1.Rise, .int .i64 r_1.Fall, .slice p_1 r_1.Days.length c_1] 24 :: .row p_2 c_2 (r_2.map encI_i64) 3 1 :: .box b_1 [.int .i64 r.Rise, .int .i64 r.Fall, .slice r_Days_p r.Days.length r_Days_c] 24 :: Lf) w) ?_ ?_
          · cases hb : ((r_13.1 == r_15.1) && (r_13.2.1 == r_15.2.1))
            · rw [hb] at hf
              refine stS hf rfl rfl rfl fun a hf => ?_
              refine stS hf rfl rfl rfl fun a hf => ?_
              refine stS hf rfl rfl rfl fun a hf => ?_
              refine stP hf rfl rfl rfl (pPf rfl rfl) fun a hf => ?_
              exact cNil ⟨hf.keep ⟨rfl, rfl, rfl, rfl, rfl, rfl, rfl, rfl, rfl, rfl, rfl, rfl, rfl, rfl, rfl, rfl, rfl, trivial⟩, hc⟩
            · rw [hb] at hf
              refine stP hf rfl rfl rfl (pM rfl) fun a hf => ?_
              refine stP hf rfl rfl rfl (pM rfl) fun a hf => ?_
              refine stP hf rfl rfl rfl (pEq rfl rfl) fun a hf => ?_
              refine stP hf rfl rfl rfl (pPt rfl rfl) fun a hf => ?_
              exact cNil ⟨hf.keep ⟨rfl, rfl, rfl, rfl, rfl, rfl, rfl, rfl, rfl, rfl, rfl, rfl, rfl, rfl, rfl, rfl, rfl, trivial⟩, hc⟩
          intro a w ⟨hf, hc⟩
          refine stP hf rfl rfl rfl (pM rfl) fun a hf => ?_
          obtain ⟨t_1, ht_1, hF⟩ := bnd_some hF
          refine stCut 4 (fun a w => Has 117 a [(1, .slice flows_p flows.length flows_c), (2, .pointer (some ⟨b_1, 0, none⟩)), (5, .pointer (some ⟨b_2, 0, none⟩)), (6, .slice p_2 r_2.length c_2), (8, .int .i64 r_13.2.2), (10, .int .i64 r_15.2.2), (13, .int .i64 r_13.1), (14, .int .i64 r_13.2.1), (15, .int .i64 r_15.1), (16, .int .i64 r_15.2.1), (91, .int .i64 r_13.1), (92, .int .i64 r_15.1), (93, .bool (r_13.1 == r_15.1)), (94, .bool (r_13.1 == r_15.1)), (98, .bool ((r_13.1 == r_15.1) && (r_13.2.1 == r_15.2.1))), (99, .bool ((r_13.1 == r_15.1) && (r_13.2.1 == r_15.2.1))), (103, .bool (((r_13.1 == r_15.1) && (r_13.2.1 == r_15.2.1)) && (r_13.2.2 == r_15.2.2))), (104, .bool (((r_13.1 == r_15.1) && (r_13.2.1 == r_15.2.1)) && (r_13.2.2 == r_15.2.2))), (108, .bool t_1)] ∧ Ctx G (.row p_9 c_9 (r_14.Days.map enc_ref07_Value) 128 3 :: .row p_7 c_7 (r_10.Days.map enc_ref07_Value) 128 3 :: .row p_8 c_8 (r_11.1.map enc_api_Span) 30 2 :: .row p_1 c_1 (r_1.Days.map enc_daily_Value) 56 3 :: .row p_6 c_6 (r_9.1.map enc_api_Span) 30 2 :: .row p_5 c_5 (r_7.Days.map enc_ref07_Value) 128 3 :: .row p_4 c_4 (r_4.Days.map enc_ref07_Value) 128 3 :: .box b_2 [.int .i64 r_1.Rise, .int .i64 r_1.Fall, .slice p_1 r_1.Days.length c_1] 24 :: .row p_2 c_2 (r_2.map encI_i64) 3 1 :: .box b_1 [.int .i64 r.Rise, .int .i64 r.Fall, .slice r_Days_p r.Days.length r_Days_c] 24 :: Lf) w) ?_ ?_
          · cases hb : (((r_13.1 == r_15.1) && (r_13.2.1 == r_15.2.1)) && (r_13.2.2 == r_15.2.2))
            · rw [hb] at hf
              have hF := condF hb ht_1
              obtain rfl := Option.some.inj hF
              refine stS hf rfl rfl rfl fun a hf => ?_
              refine stS hf rfl rfl rfl fun a hf => ?_
              refine stS hf rfl rfl rfl fun a hf => ?_
              refine stP hf rfl rfl rfl (pPf rfl rfl) fun a hf => ?_
              exact cNil ⟨hf.keep ⟨rfl, rfl, rfl, rfl, rfl, rfl, rfl, rfl, rfl, rfl, rfl, rfl, rfl, rfl, rfl, rfl, rfl, rfl, rfl, trivial⟩, hc⟩
            · rw [hb] at hf
              have hF := condT hb ht_1
              refine stE hf hc rfl rfl rfl (eLdN (vs := [.int .i64 r_1.Rise, .int .i64 r_1.Fall, .slice p_1 r_1.Days.length c_1]) ag_24 rfl rfl (cells_box (n := 3) m7 rfl)) fun a w hf hc => ?_
              refine stE hf hc rfl rfl rfl (eLdN (vs := [.int .i64 r.Rise, .int .i64 r.Fall, .slice r_Days_p r.Days.length r_Days_c]) ag_24 rfl rfl (cells_box (n := 3) m9 rfl)) fun a w hf hc => ?_
              obtain ⟨r_16, hr_16, hF⟩ := bnd_some hF
              refine stE hf hc rfl rfl rfl (eC (v := .bool r_16) (vs := [.agg #[.int .i64 r_1.Rise, .int .i64 r_1.Fall, .slice p_1 r_1.Days.length c_1], .agg #[.int .i64 r.Rise, .int .i64 r.Fall, .slice r_Days_p r.Days.length r_Days_c]]) (caps := []) en_23 rfl rfl rfl rfl (fun w hc => by obtain ⟨G1, hle1, hrd1, hc, hth1⟩ := lend hc k3; exact (law07_same_ok r_1 r hrd1 (h_r_Days.mono hle1) hc hr_16).mono fun e w h => ⟨h.1, ((hth1 _ _ h.2).unpick k3)⟩)) fun a w hf hc => ?_
              refine stP hf rfl rfl rfl (pPt rfl rfl) fun a hf => ?_
              obtain rfl := Option.some.inj hF
              exact cNil ⟨hf.keep ⟨rfl, rfl, rfl, rfl, rfl, rfl, rfl, rfl, rfl, rfl, rfl, rfl, rfl, rfl, rfl, rfl, rfl, rfl, rfl, trivial⟩, hc⟩
          intro a w ⟨hf, hc⟩
          refine stP hf rfl rfl rfl (pM rfl) fun a hf => ?_
          obtain ⟨t_2, ht_2, hF⟩ := bnd_some hF
          refine stCut 4 (fun a w => Has 117 a [(1, .slice flows_p flows.length flows_c), (2, .pointer (some ⟨b_1, 0, none⟩)), (5, .pointer (some ⟨b_2, 0, none⟩)), (6, .slice p_2 r_2.length c_2), (8, .int .i64 r_13.2.2), (10, .int .i64 r_15.2.2), (13, .int .i64 r_13.1), (14, .int .i64 r_13.2.1), (15, .int .i64 r_15.1), (16, .int .i64 r_15.2.1), (91, .int .i64 r_13.1), (92, .int .i64 r_15.1), (93, .bool (r_13.1 == r_15.1)), (94, .bool (r_13.1 == r_15.1)), (98, .bool ((r_13.1 == r_15.1) && (r_13.2.1 == r_15.2.1))), (99, .bool ((r_13.1 == r_15.1) && (r_13.2.1 == r_15.2.1))), (103, .bool (((r_13.1 == r_15.1) && (r_13.2.1 == r_15.2.1)) && (r_13.2.2 == r_15.2.2))), (104, .bool (((r_13.1 == r_15.1) && (r_13.2.1 == r_15.2.1)) && (r_13.2.2 == r_15.2.2))), (108, .bool t_1), (109, .bool t_1), (113, .bool t_2)] ∧ Ctx G (.row p_9 c_9 (r_14.Days.map enc_ref07_Value) 128 3 :: .row p_7 c_7 (r_10.Days.map enc_ref07_Value) 128 3 :: .row p_8 c_8 (r_11.1.map enc_api_Span) 30 2 :: .row p_1 c_1 (r_1.Days.map enc_daily_Value) 56 3 :: .row p_6 c_6 (r_9.1.map enc_api_Span) 30 2 :: .row p_5 c_5 (r_7.Days.map enc_ref07_Value) 128 3 :: .row p_4 c_4 (r_4.Days.map enc_ref07_Value) 128 3 :: .box b_2 [.int .i64 r_1.Rise, .int .i64 r_1.Fall, .slice p_1 r_1.Days.length c_1] 24 :: .row p_2 c_2 (r_2.map encI_i64) 3 1 :: .box b_1 [.int .i64 r.Rise, .int .i64 r.Fall, .slice r_Days_p r.Days.length r_Days_c] 24 :: Lf) w) ?_ ?_
          · cases hb : t_1
            · rw [hb] at hf
              have hF := condF hb ht_2
              obtain rfl := Option.some.inj hF
              refine stS hf rfl rfl rfl fun a hf => ?_
              refine stS hf rfl rfl rfl fun a hf => ?_
              refine stS hf rfl rfl rfl fun a hf => ?_
              refine stP hf rfl rfl rfl (pPf rfl rfl) fun a hf => ?_
              exact cNil ⟨hf.keep ⟨rfl, rfl, rfl, rfl, rfl, rfl, rfl, rfl, rfl, rfl, rfl, rfl, rfl, rfl, rfl, rfl, rfl, rfl, rfl, rfl, rfl, trivial⟩, hc⟩
            · rw [hb] at hf
              have hF := condT hb ht_2
              refine stP hf rfl rfl rfl (pM rfl) fun a hf => ?_
              refine stP hf rfl rfl rfl (pM rfl) fun a hf => ?_
              obtain ⟨r_17, hr_17, hF⟩ := bnd_some hF
              refine stE hf hc rfl rfl rfl (eC (v := .bool r_17) (vs := [.slice p_2 r_2.length c_2, .slice flows_p flows.length flows_c]) (caps := []) en_20 rfl rfl rfl rfl (fun w hc => by obtain ⟨G1, hle1, hrd1, hc, hth1⟩ := lend hc k8; exact (kit_Same_int_ok r_2 flows hrd1 (h_flows.mono hle1) hc hr_17).mono fun e w h => ⟨h.1, ((hth1 _ _ h.2).unpick k8)⟩)) fun a w hf hc => ?_
              refine stP hf rfl rfl rfl (pPt rfl rfl) fun a hf => ?_
              obtain rfl := Option.some.inj hF
              exact cNil ⟨hf.keep ⟨rfl, rfl, rfl, rfl, rfl, rfl, rfl, rfl, rfl, rfl, rfl, rfl, rfl, rfl, rfl, rfl, rfl, rfl, rfl, rfl, rfl, trivial⟩, hc⟩
          intro a w ⟨hf, hc⟩
          refine stP hf rfl rfl rfl (pM rfl) fun a hf => ?_
          obtain ⟨t_3, ht_3, hF⟩ := bnd_some hF
          refine stCut 2 (fun a w => Has 117 a [(1, .slice flows_p flows.length flows_c), (2, .pointer (some ⟨b_1, 0, none⟩)), (5, .pointer (some ⟨b_2, 0, none⟩)), (6, .slice p_2 r_2.length c_2), (8, .int .i64 r_13.2.2), (10, .int .i64 r_15.2.2), (13, .int .i64 r_13.1), (14, .int .i64 r_13.2.1), (15, .int .i64 r_15.1), (16, .int .i64 r_15.2.1), (91, .int .i64 r_13.1), (92, .int .i64 r_15.1), (93, .bool (r_13.1 == r_15.1)), (94, .bool (r_13.1 == r_15.1)), (98, .bool ((r_13.1 == r_15.1) && (r_13.2.1 == r_15.2.1))), (99, .bool ((r_13.1 == r_15.1) && (r_13.2.1 == r_15.2.1))), (103, .bool (((r_13.1 == r_15.1) && (r_13.2.1 == r_15.2.1)) && (r_13.2.2 == r_15.2.2))), (104, .bool (((r_13.1 == r_15.1) && (r_13.2.1 == r_15.2.1)) && (r_13.2.2 == r_15.2.2))), (108, .bool t_1), (109, .bool t_1), (113, .bool t_2), (114, .bool t_2), (116, .bool t_3)] ∧ Ctx G (.row p_9 c_9 (r_14.Days.map enc_ref07_Value) 128 3 :: .row p_7 c_7 (r_10.Days.map enc_ref07_Value) 128 3 :: .row p_8 c_8 (r_11.1.map enc_api_Span) 30 2 :: .row p_1 c_1 (r_1.Days.map enc_daily_Value) 56 3 :: .row p_6 c_6 (r_9.1.map enc_api_Span) 30 2 :: .row p_5 c_5 (r_7.Days.map enc_ref07_Value) 128 3 :: .row p_4 c_4 (r_4.Days.map enc_ref07_Value) 128 3 :: .box b_2 [.int .i64 r_1.Rise, .int .i64 r_1.Fall, .slice p_1 r_1.Days.length c_1] 24 :: .row p_2 c_2 (r_2.map encI_i64) 3 1 :: .box b_1 [.int .i64 r.Rise, .int .i64 r.Fall, .slice r_Days_p r.Days.length r_Days_c] 24 :: Lf) w) ?_ ?_
          · cases hb : t_2
            · rw [hb] at hf
              have hF := condF hb ht_3
              obtain rfl := Option.some.inj hF
              refine stS hf rfl rfl rfl fun a hf => ?_
              refine stP hf rfl rfl rfl (pPf rfl rfl) fun a hf => ?_
              exact cNil ⟨hf.keep ⟨rfl, rfl, rfl, rfl, rfl, rfl, rfl, rfl, rfl, rfl, rfl, rfl, rfl, rfl, rfl, rfl, rfl, rfl, rfl, rfl, rfl, rfl, rfl, trivial⟩, hc⟩
            · rw [hb] at hf
              have hF := condT hb ht_3
              obtain ⟨r_18, hr_18, hF⟩ := bnd_some hF
              refine stE hf hc rfl rfl rfl (eC (v := .bool r_18) (vs := []) (caps := []) en_12 rfl rfl rfl rfl (fun w hc => law07_awake_ok hc hr_18)) fun a w hf hc => ?_
              refine stP hf rfl rfl rfl (pPt rfl rfl) fun a hf => ?_
              obtain rfl := Option.some.inj hF
              exact cNil ⟨hf.keep ⟨rfl, rfl, rfl, rfl, rfl, rfl, rfl, rfl, rfl, rfl, rfl, rfl, rfl, rfl, rfl, rfl, rfl, rfl, rfl, rfl, rfl, rfl, rfl, trivial⟩, hc⟩
          intro a w ⟨hf, hc⟩
          refine stP hf rfl rfl rfl (pA rfl) fun a hf => ?_
          refine cNil ?_
          refine h21 _ _ ?_
          refine wp_ret ?_
          obtain rfl := Option.some.inj hF
          replace hc := hc.drop k9
          replace hc := hc.drop k8
          replace hc := hc.drop k7
          replace hc := hc.drop k6
          replace hc := hc.drop k5
          replace hc := hc.drop k4
          replace hc := hc.drop k3
          replace hc := hc.drop k2
          replace hc := hc.drop k1
          replace hc := hc.drop k0
          exact fnOut1 (by simp) rfl Try.results6 hf hc (show look _ 4 = _ from rfl) ⟨rfl, hc⟩

end Go.Nilo
