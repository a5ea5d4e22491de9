/-
  What functions of the Go text compute, as plain functions, and that they do, part 3 of 4. Conditions: what each theorem names.
-/
import Derived.Test.YtepopogbmjfpeaaDy2
import Derived.Test.YtepopogbmjfpeaaProg
set_option linter.unusedVariables false
set_option linter.unusedSimpArgs false
set_option maxRecDepth 100000
set_option maxHeartbeats 4000000
namespace Go.Nilo
open Go.Proofs


def shift_Can (N : Nat) (r : shift_Record) (most : Int) : Option ((List api_Span) × Int) :=
  Option.bind (shift_opened N r) (sumK (fun r_0 => cond (r_0 != 0)
  (some (([] : List api_Span), r_0))
  (cond (!(shift_in most 0 18000))
  (some (([] : List api_Span), 4))
  (none)))
  (fun r_1 => cond (r_1.2 != 0)
  (some (([] : List api_Span), r_1.2))
  (cond (!(shift_in most 0 18000))
  (some (([] : List api_Span), 4))
  (Option.bind (shift_can N r_1.1 most) fun r_2 =>
  cond (!r_2.2)
  (some (([] : List api_Span), 5))
  (some (r_2.1, 0))))))
theorem shift_Can_ok {N : Nat} {G : Pers} {Lf : List Ent} {w : World} (r : shift_Record) (most : Int) {r_Rating_p : Option Addr} {r_Rating_c : Nat} {r_Gaugings_p : Option Addr} {r_Gaugings_c : Nat} (h_r_Rating : Rd G 2 r_Rating_p r_Rating_c (r.Rating.map enc_shift_Mark)) (h_r_Gaugings : Rd G 4 r_Gaugings_p r_Gaugings_c (r.Gaugings.map enc_shift_Gauging)) (hc : Ctx G (Lf) w) {res : (List api_Span) × Int} (hF : shift_Can N r most = some res) : Calls Try.prog 27 #[.agg #[.slice r_Rating_p r.Rating.length r_Rating_c, .slice r_Gaugings_p r.Gaugings.length r_Gaugings_c], .int .i64 most] w (fun e w => ∃ (p'1 : Option Addr) (c'1 : Nat), e = .returned (.tuple #[.slice p'1 res.1.length c'1, .int .i64 res.2]) ∧ Ctx G (.row p'1 c'1 (res.1.map enc_api_Span) 50 2 :: Lf) w) := by
  unfold shift_Can at hF
  refine fnIn (args := [.agg #[.slice r_Rating_p r.Rating.length r_Rating_c, .slice r_Gaugings_p r.Gaugings.length r_Gaugings_c], .int .i64 most]) Try.func27 rfl Try.ntmps27 rfl fun a hf => ?_
  refine wp_seq_k fun K1 h1 => ?_
  refine cReg ?_
  refine stBx (cs := [.slice r_Rating_p r.Rating.length r_Rating_c, .slice r_Gaugings_p r.Gaugings.length r_Gaugings_c]) hf hc rfl rfl rfl rfl fun b_1 a w hf hc => ?_
  refine stP hf rfl rfl rfl (pA rfl) fun a hf => ?_
  refine stP hf rfl rfl rfl (pA rfl) fun a hf => ?_
  refine cNil ?_
  refine h1 _ _ ?_
  refine wp_seq_k fun K2 h2 => ?_
  refine cReg ?_
  refine stE hf hc rfl rfl rfl (eLdN (vs := [.slice r_Rating_p r.Rating.length r_Rating_c, .slice r_Gaugings_p r.Gaugings.length r_Gaugings_c]) ag_25 rfl rfl (cells_box (n := 2) m0 rfl)) fun a w hf hc => ?_
  obtain ⟨r_0, hr_0, hF⟩ := bnd_some hF
  cases r_0 with
  | inl r_0 =>
    replace hF := sumKl hF
    refine stC (vs := [.agg #[.slice r_Rating_p r.Rating.length r_Rating_c, .slice r_Gaugings_p r.Gaugings.length r_Gaugings_c]]) (caps := []) hf rfl rfl rfl en_73 rfl rfl rfl rfl (shift_opened_ok r h_r_Rating h_r_Gaugings hc hr_0) ?_
    rintro _ w ⟨rfl, hc⟩
    refine ⟨_, rfl, fun a hf => ?_⟩
    refine stP hf rfl rfl rfl (pM rfl) fun a hf => ?_
    refine stP hf rfl rfl rfl (pX rfl rfl) fun a hf => ?_
    refine stP hf rfl rfl rfl (pX rfl rfl) fun a hf => ?_
    refine stP hf rfl rfl rfl (pA rfl) fun a hf => ?_
    refine stP hf rfl rfl rfl (pA rfl) fun a hf => ?_
    refine cNil ?_
    refine h2 _ _ ?_
    refine wp_seq_k fun K3 h3 => ?_
    refine wp_block ?_
    refine wp_seq_k fun K4 h4 => ?_
    refine cReg ?_
    refine stP hf rfl rfl rfl (pM rfl) fun a hf => ?_
    refine stP hf rfl rfl rfl (pNe rfl rfl) fun a hf => ?_
    refine stP hf rfl rfl rfl (pA rfl) fun a hf => ?_
    refine cNil ?_
    refine h4 _ _ ?_
    refine cCond (b := (r_0 != 0)) hf rfl (fun hb => ?_) (fun hb => ?_)
    · replace hF := condT hb hF
      clear hb
      refine wp_seq_k fun K5 h5 => ?_
      refine cReg ?_
      refine stP hf rfl rfl rfl (pM rfl) fun a hf => ?_
      refine stP hf rfl rfl rfl (pA rfl) fun a hf => ?_
      refine stP hf rfl rfl rfl (pA rfl) fun a hf => ?_
      refine cNil ?_
      refine h5 _ _ ?_
      refine wp_ret ?_
      refine xBlkR ?_
      refine xThenR ?_
      obtain rfl := Option.some.inj hF
      replace hc := hc.nilRow 50 2
      replace hc := hc.drop k1
      exact fnOut2 (by simp) rfl Try.results27 hf hc (show look _ 4 = _ from rfl) (show look _ 5 = _ from rfl) ⟨none, 0, rfl, hc⟩
    · replace hF := condF hb hF
      clear hb
      refine wp_seq_k fun K6 h6 => ?_
      refine cReg ?_
      refine stP hf rfl rfl rfl (pM rfl) fun a hf => ?_
      refine stE hf hc rfl rfl rfl (eC (v := .bool (shift_in most 0 18000)) (vs := [.int .i64 most, .int .i64 0, .int .i64 18000]) (caps := []) en_59 rfl rfl rfl rfl (fun w hc => shift_in_ok most 0 18000 hc rfl)) fun a w hf hc => ?_
      refine stP hf rfl rfl rfl (pNot rfl) fun a hf => ?_
      refine stP hf rfl rfl rfl (pA rfl) fun a hf => ?_
      refine cNil ?_
      refine h6 _ _ ?_
      refine cCond (b := (!(shift_in most 0 18000))) hf rfl (fun hb => ?_) (fun hb => ?_)
      · replace hF := condT hb hF
        clear hb
        refine wp_seq_k fun K7 h7 => ?_
        refine cReg ?_
        refine stP hf rfl rfl rfl (pA rfl) fun a hf => ?_
        refine stP hf rfl rfl rfl (pA rfl) fun a hf => ?_
        refine cNil ?_
        refine h7 _ _ ?_
        refine wp_ret ?_
        refine xBlkR ?_
        refine xThenR ?_
        obtain rfl := Option.some.inj hF
        replace hc := hc.nilRow 50 2
        replace hc := hc.drop k1
        exact fnOut2 (by simp) rfl Try.results27 hf hc (show look _ 4 = _ from rfl) (show look _ 5 = _ from rfl) ⟨none, 0, rfl, hc⟩
      · replace hF := condF hb hF
        clear hb
        refine wp_skip ?_
        refine h3 _ _ ?_
        refine wp_seq_k fun K8 h8 => ?_
        exact noneO hF
  | inr r_1 =>
    replace hF := sumKr hF
    have hr_1 := hr_0
    refine stC (vs := [.agg #[.slice r_Rating_p r.Rating.length r_Rating_c, .slice r_Gaugings_p r.Gaugings.length r_Gaugings_c]]) (caps := []) hf rfl rfl rfl en_73 rfl rfl rfl rfl (shift_opened_ok r h_r_Rating h_r_Gaugings hc hr_1) ?_
    rintro _ w ⟨b_2, p_1, c_1, rfl, hc⟩
    refine ⟨_, rfl, fun a hf => ?_⟩
    refine stP hf rfl rfl rfl (pM rfl) fun a hf => ?_
    refine stP hf rfl rfl rfl (pX rfl rfl) fun a hf => ?_
    refine stP hf rfl rfl rfl (pX rfl rfl) fun a hf => ?_
    refine stP hf rfl rfl rfl (pA rfl) fun a hf => ?_
    refine stP hf rfl rfl rfl (pA rfl) fun a hf => ?_
    refine cNil ?_
    refine h2 _ _ ?_
    refine wp_seq_k fun K9 h9 => ?_
    refine wp_block ?_
    refine wp_seq_k fun K10 h10 => ?_
    refine cReg ?_
    refine stP hf rfl rfl rfl (pM rfl) fun a hf => ?_
    refine stP hf rfl rfl rfl (pNe rfl rfl) fun a hf => ?_
    refine stP hf rfl rfl rfl (pA rfl) fun a hf => ?_
    refine cNil ?_
    refine h10 _ _ ?_
    refine cCond (b := (r_1.2 != 0)) hf rfl (fun hb => ?_) (fun hb => ?_)
    · replace hF := condT hb hF
      clear hb
      refine wp_seq_k fun K11 h11 => ?_
      refine cReg ?_
      refine stP hf rfl rfl rfl (pM rfl) fun a hf => ?_
      refine stP hf rfl rfl rfl (pA rfl) fun a hf => ?_
      refine stP hf rfl rfl rfl (pA rfl) fun a hf => ?_
      refine cNil ?_
      refine h11 _ _ ?_
      refine wp_ret ?_
      refine xBlkR ?_
      refine xThenR ?_
      obtain rfl := Option.some.inj hF
      replace hc := hc.nilRow 50 2
      replace hc := hc.drop k3
      replace hc := hc.drop k2
      replace hc := hc.drop k1
      exact fnOut2 (by simp) rfl Try.results27 hf hc (show look _ 4 = _ from rfl) (show look _ 5 = _ from rfl) ⟨none, 0, rfl, hc⟩
    · replace hF := condF hb hF
      clear hb
      refine wp_seq_k fun K12 h12 => ?_
      refine cReg ?_
      refine stP hf rfl rfl rfl (pM rfl) fun a hf => ?_
      refine stE hf hc rfl rfl rfl (eC (v := .bool (shift_in most 0 18000)) (vs := [.int .i64 most, .int .i64 0, .int .i64 18000]) (caps := []) en_59 rfl rfl rfl rfl (fun w hc => shift_in_ok most 0 18000 hc rfl)) fun a w hf hc => ?_
      refine stP hf rfl rfl rfl (pNot rfl) fun a hf => ?_
      refine stP hf rfl rfl rfl (pA rfl) fun a hf => ?_
      refine cNil ?_
      refine h12 _ _ ?_
      refine cCond (b := (!(shift_in most 0 18000))) hf rfl (fun hb => ?_) (fun hb => ?_)
      · replace hF := condT hb hF
        clear hb
        refine wp_seq_k fun K13 h13 => ?_
        refine cReg ?_
        refine stP hf rfl rfl rfl (pA rfl) fun a hf => ?_
        refine stP hf rfl rfl rfl (pA rfl) fun a hf => ?_
        refine cNil ?_
        refine h13 _ _ ?_
        refine wp_ret ?_
        refine xBlkR ?_
        refine xThenR ?_
        obtain rfl := Option.some.inj hF
        replace hc := hc.nilRow 50 2
        replace hc := hc.drop k3
        replace hc := hc.drop k2
        replace hc := hc.drop k1
        exact fnOut2 (by simp) rfl Try.results27 hf hc (show look _ 4 = _ from rfl) (show look _ 5 = _ from rfl) ⟨none, 0, rfl, hc⟩
      · replace hF := condF hb hF
        clear hb
        refine wp_skip ?_
        refine h9 _ _ ?_
        refine wp_seq_k fun K14 h14 => ?_
        refine cReg ?_
        refine stP hf rfl rfl rfl (pM rfl) fun a hf => ?_
        refine stP hf rfl rfl rfl (pNC rfl) fun a hf => ?_
        refine stP hf rfl rfl rfl (pFA fa_140_1 rfl) fun a hf => ?_
        refine stE hf hc rfl rfl rfl (eLd1 sc_44 rfl (cell_box m1 rfl)) fun a w hf hc => ?_
        refine stP hf rfl rfl rfl (pM rfl) fun a hf => ?_
        obtain ⟨r_2, hr_2, hF⟩ := bnd_some hF
        obtain ⟨G1, hle1, hrd1, hc, hth1⟩ := lend hc k0
        refine stC (vs := [.slice p_1 r_1.1.length c_1, .int .i64 most]) (caps := []) hf rfl rfl rfl en_76 rfl rfl rfl rfl (shift_can_ok r_1.1 most hrd1 hc hr_2) ?_
        rintro _ w ⟨p_2, c_2, rfl, hc⟩
        refine ⟨_, rfl, fun a hf => ?_⟩
        replace hc := hth1 _ _ hc
        refine stP hf rfl rfl rfl (pM rfl) fun a hf => ?_
        refine stP hf rfl rfl rfl (pX rfl rfl) fun a hf => ?_
        refine stP hf rfl rfl rfl (pX rfl rfl) fun a hf => ?_
        refine stP hf rfl rfl rfl (pA rfl) fun a hf => ?_
        refine stP hf rfl rfl rfl (pA rfl) fun a hf => ?_
        refine cNil ?_
        refine h14 _ _ ?_
        refine wp_seq_k fun K15 h15 => ?_
        refine wp_seq_k fun K16 h16 => ?_
        refine cReg ?_
        refine stP hf rfl rfl rfl (pM rfl) fun a hf => ?_
        refine stP hf rfl rfl rfl (pNot rfl) fun a hf => ?_
        refine cNil ?_
        refine h16 _ _ ?_
        refine cCond (b := (!r_2.2)) hf rfl (fun hb => ?_) (fun hb => ?_)
        · replace hF := condT hb hF
          clear hb
          refine wp_seq_k fun K17 h17 => ?_
          refine cReg ?_
          refine stP hf rfl rfl rfl (pA rfl) fun a hf => ?_
          refine stP hf rfl rfl rfl (pA rfl) fun a hf => ?_
          refine cNil ?_
          refine h17 _ _ ?_
          refine wp_ret ?_
          refine xThenR ?_
          obtain rfl := Option.some.inj hF
          replace hc := hc.nilRow 50 2
          replace hc := hc.drop k4
          replace hc := hc.drop k3
          replace hc := hc.drop k2
          replace hc := hc.drop k1
          exact fnOut2 (by simp) rfl Try.results27 hf hc (show look _ 4 = _ from rfl) (show look _ 5 = _ from rfl) ⟨none, 0, rfl, hc⟩
        · replace hF := condF hb hF
          clear hb
          refine wp_skip ?_
          refine h15 _ _ ?_
          refine wp_seq_k fun K18 h18 => ?_
          refine cReg ?_
          refine stP hf rfl rfl rfl (pM rfl) fun a hf => ?_
          refine stP hf rfl rfl rfl (pA rfl) fun a hf => ?_
          refine stP hf rfl rfl rfl (pA rfl) fun a hf => ?_
          refine cNil ?_
          refine h18 _ _ ?_
          refine wp_ret ?_
          obtain rfl := Option.some.inj hF
          replace hc := hc.drop k3
          replace hc := hc.drop k2
          replace hc := hc.drop k0
          exact fnOut2 (by simp) rfl Try.results27 hf hc (show look _ 4 = _ from rfl) (show look _ 5 = _ from rfl) ⟨p_2, c_2, rfl, hc⟩

def law05_Three (N : Nat)  : Option (shift_Record) :=
  Option.bind (law05_span N 90 130) fun r =>
  Option.bind (law05_span N 95 100) fun r_1 =>
  Option.bind (law05_span N 70 160) fun r_2 =>
  some (⟨([(⟨0, 0⟩ : shift_Mark), (⟨10, 100⟩ : shift_Mark), (⟨20, 400⟩ : shift_Mark)] : List shift_Mark), ([(⟨1, 13, r⟩ : shift_Gauging), (⟨5, 10, r_1⟩ : shift_Gauging), (⟨9, 15, r_2⟩ : shift_Gauging)] : List shift_Gauging)⟩ : shift_Record)
theorem law05_Three_ok {N : Nat} {G : Pers} {Lf : List Ent} {w : World}    (hc : Ctx G (Lf) w) {res : shift_Record} (hF : law05_Three N = some res) : Calls Try.prog 55 #[] w (fun e w => ∃ (p'1 : Option Addr) (c'1 : Nat) (p'2 : Option Addr) (c'2 : Nat), e = .returned (.agg #[.slice p'1 res.Rating.length c'1, .slice p'2 res.Gaugings.length c'2]) ∧ Ctx G (.row p'1 c'1 (res.Rating.map enc_shift_Mark) 77 2 :: .row p'2 c'2 (res.Gaugings.map enc_shift_Gauging) 71 4 :: Lf) w) := by
  unfold law05_Three at hF
  refine fnIn (args := []) Try.func55 rfl Try.ntmps55 rfl fun a hf => ?_
  refine wp_seq_k fun K1 h1 => ?_
  refine cReg ?_
  refine stAl (cs := [.slice none 0 0, .slice none 0 0]) hf hc rfl rfl zr_25 rfl fun b_1 a w hf hc => ?_
  refine cNil ?_
  refine h1 _ _ ?_
  refine wp_seq_k fun K2 h2 => ?_
  refine cReg ?_
  refine stP hf rfl rfl rfl (pBuildS (cells := [.int .i64 0, .int .i64 0]) bt_77 rfl rfl) fun a hf => ?_
  refine stP hf rfl rfl rfl (pBuildS (cells := [.int .i64 10, .int .i64 100]) bt_77 rfl rfl) fun a hf => ?_
  refine stP hf rfl rfl rfl (pBuildS (cells := [.int .i64 20, .int .i64 400]) bt_77 rfl rfl) fun a hf => ?_
  refine stBS (rows := ([(⟨0, 0⟩ : shift_Mark), (⟨10, 100⟩ : shift_Mark), (⟨20, 400⟩ : shift_Mark)] : List shift_Mark).map enc_shift_Mark) (vs := [(0, .agg #[.int .i64 0, .int .i64 0]), (1, .agg #[.int .i64 10, .int .i64 100]), (2, .agg #[.int .i64 20, .int .i64 400])]) hf hc rfl rfl sl_22 rfl ⟨rfl, rfl, rfl, rfl, rfl, rfl, rfl, rfl, rfl, trivial⟩ rfl rfl fun b_2 a w hf hc => ?_
  obtain ⟨r, hr, hF⟩ := bnd_some hF
  refine stE hf hc rfl rfl rfl (eC (v := .agg #[.int .i64 r.Lo, .int .i64 r.Hi]) (vs := [.int .i64 90, .int .i64 130]) (caps := []) en_47 rfl rfl rfl rfl (fun w hc => law05_span_ok 90 130 hc hr)) fun a w hf hc => ?_
  refine stP hf rfl rfl rfl (pBuildS (cells := [.int .i64 1, .int .i64 13, .int .i64 r.Lo, .int .i64 r.Hi]) bt_71 rfl rfl) fun a hf => ?_
  obtain ⟨r_1, hr_1, hF⟩ := bnd_some hF
  refine stE hf hc rfl rfl rfl (eC (v := .agg #[.int .i64 r_1.Lo, .int .i64 r_1.Hi]) (vs := [.int .i64 95, .int .i64 100]) (caps := []) en_47 rfl rfl rfl rfl (fun w hc => law05_span_ok 95 100 hc hr_1)) fun a w hf hc => ?_
  refine stP hf rfl rfl rfl (pBuildS (cells := [.int .i64 5, .int .i64 10, .int .i64 r_1.Lo, .int .i64 r_1.Hi]) bt_71 rfl rfl) fun a hf => ?_
  obtain ⟨r_2, hr_2, hF⟩ := bnd_some hF
  refine stE hf hc rfl rfl rfl (eC (v := .agg #[.int .i64 r_2.Lo, .int .i64 r_2.Hi]) (vs := [.int .i64 70, .int .i64 160]) (caps := []) en_47 rfl rfl rfl rfl (fun w hc => law05_span_ok 70 160 hc hr_2)) fun a w hf hc => ?_
  refine stP hf rfl rfl rfl (pBuildS (cells := [.int .i64 9, .int .i64 15, .int .i64 r_2.Lo, .int .i64 r_2.Hi]) bt_71 rfl rfl) fun a hf => ?_
  refine stBS (rows := ([(⟨1, 13, r⟩ : shift_Gauging), (⟨5, 10, r_1⟩ : shift_Gauging), (⟨9, 15, r_2⟩ : shift_Gauging)] : List shift_Gauging).map enc_shift_Gauging) (vs := [(0, .agg #[.int .i64 1, .int .i64 13, .int .i64 r.Lo, .int .i64 r.Hi]), (1, .agg #[.int .i64 5, .int .i64 10, .int .i64 r_1.Lo, .int .i64 r_1.Hi]), (2, .agg #[.int .i64 9, .int .i64 15, .int .i64 r_2.Lo, .int .i64 r_2.Hi])]) hf hc rfl rfl sl_23 rfl ⟨rfl, rfl, rfl, rfl, rfl, rfl, rfl, rfl, rfl, trivial⟩ rfl rfl fun b_3 a w hf hc => ?_
  refine stP hf rfl rfl rfl (pBuildS (cells := [.slice (some ⟨b_2, 0, none⟩) 3 3, .slice (some ⟨b_3, 0, none⟩) 3 3]) bt_25 rfl rfl) fun a hf => ?_
  refine stSt (vs := [.slice (some ⟨b_2, 0, none⟩) 3 3, .slice (some ⟨b_3, 0, none⟩) 3 3]) hf hc rfl rfl rfl rfl sz_25 rfl rfl u2 fun w hc => ?_
  refine cNil ?_
  refine h2 _ _ ?_
  refine wp_ret ?_
  obtain rfl := Option.some.inj hF
  replace hc := hc.pick k0
  replace hc := hc.pick k1
  exact fnOut1 (by simp) rfl Try.results55 hf hc (rv_cellN (vs := [.slice (some ⟨b_2, 0, none⟩) 3 3, .slice (some ⟨b_3, 0, none⟩) 3 3]) ag_25 rfl rfl (cells_box (n := 2) m2 rfl)) ⟨(some ⟨b_2, 0, none⟩), 3, (some ⟨b_3, 0, none⟩), 3, rfl, (hc.drop k2)⟩

def shift_Rising_j3 (N : Nat) (rating : List shift_Mark) (stage : Int) (shift : Int) (rise : Int) (per : Int) (e_1 : Int) : Option (api_Ratio × Int) :=
  cond (e_1 != 0)
  (some ((⟨0, 0⟩ : api_Ratio), e_1))
  (Option.bind (shift_means N rating (W (stage - shift))) fun r_1 =>
  Option.bind (shift_ratio N (W (r_1.N * (max 0 (W (1000 + (W (rise * per))))))) (W (1000 * r_1.D))) fun r_2 =>
  some (r_2, 0))
def shift_Rising (N : Nat) (rating : List shift_Mark) (stage : Int) (shift : Int) (rise : Int) (per : Int) : Option (api_Ratio × Int) :=
  Option.bind (shift_asked N rating stage shift) fun r =>
  cond ((r == 0) && ((!(shift_in rise (-1000) 1000)) || (!(shift_in per 0 1000))))
  (shift_Rising_j3 N rating stage shift rise per 4)
  (shift_Rising_j3 N rating stage shift rise per r)
theorem shift_Rising_ok {N : Nat} {G : Pers} {Lf : List Ent} {w : World} (rating : List shift_Mark) (stage : Int) (shift : Int) (rise : Int) (per : Int) {rating_p : Option Addr} {rating_c : Nat} (h_rating : Rd G 2 rating_p rating_c (rating.map enc_shift_Mark)) (hc : Ctx G (Lf) w) {res : api_Ratio × Int} (hF : shift_Rising N rating stage shift rise per = some res) : Calls Try.prog 20 #[.slice rating_p rating.length rating_c, .int .i64 stage, .int .i64 shift, .int .i64 rise, .int .i64 per] w (fun e w => e = .returned (.tuple #[.agg #[.int .i64 res.1.N, .int .i64 res.1.D], .int .i64 res.2]) ∧ Ctx G (Lf) w) := by
  unfold shift_Rising at hF
  refine fnIn (args := [.slice rating_p rating.length rating_c, .int .i64 stage, .int .i64 shift, .int .i64 rise, .int .i64 per]) Try.func20 rfl Try.ntmps20 rfl fun a hf => ?_
  refine wp_seq_k fun K1 h1 => ?_
  refine cReg ?_
  refine stAl (cs := [.int .i64 0, .int .i64 0]) hf hc rfl rfl zr_37 rfl fun b_1 a w hf hc => ?_
  refine stP hf rfl rfl rfl (pA rfl) fun a hf => ?_
  refine cNil ?_
  refine h1 _ _ ?_
  refine wp_seq_k fun K2 h2 => ?_
  refine cReg ?_
  refine stP hf rfl rfl rfl (pM rfl) fun a hf => ?_
  refine stP hf rfl rfl rfl (pM rfl) fun a hf => ?_
  refine stP hf rfl rfl rfl (pM rfl) fun a hf => ?_
  obtain ⟨r, hr, hF⟩ := bnd_some hF
  refine stE hf hc rfl rfl rfl (eC (v := .int .i64 r) (vs := [.slice rating_p rating.length rating_c, .int .i64 stage, .int .i64 shift]) (caps := []) en_68 rfl rfl rfl rfl (fun w hc => shift_asked_ok rating stage shift h_rating hc hr)) fun a w hf hc => ?_
  refine stP hf rfl rfl rfl (pA rfl) fun a hf => ?_
  refine cNil ?_
  refine h2 _ _ ?_
  refine wp_seq_k fun K3 h3 => ?_
  have hj3 : ∀ (e_1 : Int) a w, Has 51 a [(0, .slice rating_p rating.length rating_c), (1, .int .i64 stage), (2, .int .i64 shift), (3, .int .i64 rise), (4, .int .i64 per), (10, .pointer (some ⟨b_1, 0, none⟩)), (12, .int .i64 e_1)] → Ctx G (.box b_1 [.int .i64 0, .int .i64 0] 37 :: Lf) w → shift_Rising_j3 N rating stage shift rise per e_1 = some res → K3 a w := by
    repeat (clear hF)
    repeat (clear hc)
    repeat (clear hf)
    intro e_1 a w hf hc hF
    unfold shift_Rising_j3 at hF
    refine h3 _ _ ?_
    refine wp_seq_k fun K4 h4 => ?_
    refine wp_seq_k fun K5 h5 => ?_
    refine cReg ?_
    refine stP hf rfl rfl rfl (pM rfl) fun a hf => ?_
    refine stP hf rfl rfl rfl (pNe rfl rfl) fun a hf => ?_
    refine cNil ?_
    refine h5 _ _ ?_
    refine cCond (b := (e_1 != 0)) hf rfl (fun hb => ?_) (fun hb => ?_)
    · replace hF := condT hb hF
      clear hb
      refine wp_seq_k fun K6 h6 => ?_
      refine cReg ?_
      refine stP hf rfl rfl rfl (pBuildS (cells := [.int .i64 0, .int .i64 0]) bt_37 rfl rfl) fun a hf => ?_
      refine stP hf rfl rfl rfl (pM rfl) fun a hf => ?_
      refine stSt (vs := [.int .i64 0, .int .i64 0]) hf hc rfl rfl rfl rfl sz_37 rfl rfl u0 fun w hc => ?_
      refine stP hf rfl rfl rfl (pA rfl) fun a hf => ?_
      refine cNil ?_
      refine h6 _ _ ?_
      refine wp_ret ?_
      refine xThenR ?_
      obtain rfl := Option.some.inj hF
      exact fnOut2 (by simp) rfl Try.results20 hf hc (rv_cellN (vs := [.int .i64 0, .int .i64 0]) ag_37 rfl rfl (cells_box (n := 2) m0 rfl)) (show look _ 11 = _ from rfl) ⟨rfl, (hc.drop k0)⟩
    · replace hF := condF hb hF
      clear hb
      refine wp_skip ?_
      refine h4 _ _ ?_
      refine wp_seq_k fun K7 h7 => ?_
      refine cReg ?_
      refine stP hf rfl rfl rfl (pM rfl) fun a hf => ?_
      refine stP hf rfl rfl rfl (pM rfl) fun a hf => ?_
      refine stP hf rfl rfl rfl (pM rfl) fun a hf => ?_
      refine stP hf rfl rfl rfl (pSub rfl rfl) fun a hf => ?_
      obtain ⟨r_1, hr_1, hF⟩ := bnd_some hF
      refine stE hf hc rfl rfl rfl (eC (v := .agg #[.int .i64 r_1.N, .int .i64 r_1.D]) (vs := [.slice rating_p rating.length rating_c, .int .i64 (W (stage - shift))]) (caps := []) en_69 rfl rfl rfl rfl (fun w hc => shift_means_ok rating (W (stage - shift)) h_rating hc hr_1)) fun a w hf hc => ?_
      refine stAl (cs := [.int .i64 0, .int .i64 0]) hf hc rfl rfl zr_37 rfl fun b_2 a w hf hc => ?_
      refine stSt (vs := [.int .i64 r_1.N, .int .i64 r_1.D]) hf hc rfl rfl rfl rfl sz_37 rfl rfl u0 fun w hc => ?_
      refine cNil ?_
      refine h7 _ _ ?_
      refine wp_seq_k fun K8 h8 => ?_
      refine cReg ?_
      refine stP hf rfl rfl rfl (pFA fa_37_0 rfl) fun a hf => ?_
      refine stE hf hc rfl rfl rfl (eLd1 sc_3 rfl (cell_box m0 rfl)) fun a w hf hc => ?_
      refine stP hf rfl rfl rfl (pM rfl) fun a hf => ?_
      refine stP hf rfl rfl rfl (pM rfl) fun a hf => ?_
      refine stP hf rfl rfl rfl (pMul rfl rfl) fun a hf => ?_
      refine stP hf rfl rfl rfl (pAdd rfl rfl) fun a hf => ?_
      refine stP hf rfl rfl rfl (pMax2 rfl rfl) fun a hf => ?_
      refine stP hf rfl rfl rfl (pMul rfl rfl) fun a hf => ?_
      refine stP hf rfl rfl rfl (pFA fa_37_1 rfl) fun a hf => ?_
      refine stE hf hc rfl rfl rfl (eLd1 sc_3 rfl (cell_box m0 rfl)) fun a w hf hc => ?_
      refine stP hf rfl rfl rfl (pMul rfl rfl) fun a hf => ?_
      obtain ⟨r_2, hr_2, hF⟩ := bnd_some hF
      refine stE hf hc rfl rfl rfl (eC (v := .agg #[.int .i64 r_2.N, .int .i64 r_2.D]) (vs := [.int .i64 (W (r_1.N * (max 0 (W (1000 + (W (rise * per))))))), .int .i64 (W (1000 * r_1.D))]) (caps := []) en_71 rfl rfl rfl rfl (fun w hc => shift_ratio_ok (W (r_1.N * (max 0 (W (1000 + (W (rise * per))))))) (W (1000 * r_1.D)) hc hr_2)) fun a w hf hc => ?_
      refine stSt (vs := [.int .i64 r_2.N, .int .i64 r_2.D]) hf hc rfl rfl rfl rfl sz_37 rfl rfl u1 fun w hc => ?_
      refine stP hf rfl rfl rfl (pA rfl) fun a hf => ?_
      refine cNil ?_
      refine h8 _ _ ?_
      refine wp_ret ?_
      obtain rfl := Option.some.inj hF
      replace hc := hc.drop k0
      exact fnOut2 (by simp) rfl Try.results20 hf hc (rv_cellN (vs := [.int .i64 r_2.N, .int .i64 r_2.D]) ag_37 rfl rfl (cells_box (n := 2) m0 rfl)) (show look _ 11 = _ from rfl) ⟨rfl, (hc.drop k0)⟩
  refine wp_seq_k fun K9 h9 => ?_
  refine cReg ?_
  refine stP hf rfl rfl rfl (pM rfl) fun a hf => ?_
  refine stP hf rfl rfl rfl (pEq rfl rfl) fun a hf => ?_
  refine stP hf rfl rfl rfl (pM rfl) fun a hf => ?_
  refine stCut 9 (fun a w => Has 51 a [(0, .slice rating_p rating.length rating_c), (1, .int .i64 stage), (2, .int .i64 shift), (3, .int .i64 rise), (4, .int .i64 per), (10, .pointer (some ⟨b_1, 0, none⟩)), (12, .int .i64 r), (18, .int .i64 r), (19, .bool (r == 0)), (20, .bool (r == 0)), (29, .bool ((r == 0) && ((!(shift_in rise (-1000) 1000)) || (!(shift_in per 0 1000)))))] ∧ Ctx G (.box b_1 [.int .i64 0, .int .i64 0] 37 :: Lf) w) ?_ ?_
  · cases hb : (r == 0)
    · rw [hb] at hf
      refine stS hf rfl rfl rfl fun a hf => ?_
      refine stS hf rfl rfl rfl fun a hf => ?_
      refine stS hf rfl rfl rfl fun a hf => ?_
      refine stS hf rfl rfl rfl fun a hf => ?_
      refine stS hf rfl rfl rfl fun a hf => ?_
      refine stS hf rfl rfl rfl fun a hf => ?_
      refine stS hf rfl rfl rfl fun a hf => ?_
      refine stS hf rfl rfl rfl fun a hf => ?_
      refine stP hf rfl rfl rfl (pPf rfl rfl) fun a hf => ?_
      exact cNil ⟨hf.keep ⟨rfl, rfl, rfl, rfl, rfl, rfl, rfl, rfl, rfl, rfl, rfl, trivial⟩, hc⟩
    · rw [hb] at hf
      refine stP hf rfl rfl rfl (pM rfl) fun a hf => ?_
      refine stE hf hc rfl rfl rfl (eC (v := .bool (shift_in rise (-1000) 1000)) (vs := [.int .i64 rise, .int .i64 (-1000), .int .i64 1000]) (caps := []) en_59 rfl rfl rfl rfl (fun w hc => shift_in_ok rise (-1000) 1000 hc rfl)) fun a w hf hc => ?_
      refine stP hf rfl rfl rfl (pNot rfl) fun a hf => ?_
      refine stP hf rfl rfl rfl (pM rfl) fun a hf => ?_
      refine stCut 4 (fun a w => Has 51 a [(0, .slice rating_p rating.length rating_c), (1, .int .i64 stage), (2, .int .i64 shift), (3, .int .i64 rise), (4, .int .i64 per), (10, .pointer (some ⟨b_1, 0, none⟩)), (12, .int .i64 r), (18, .int .i64 r), (19, .bool true), (20, .bool true), (21, .int .i64 rise), (22, .bool (shift_in rise (-1000) 1000)), (23, .bool (!(shift_in rise (-1000) 1000))), (24, .bool (!(shift_in rise (-1000) 1000))), (28, .bool ((!(shift_in rise (-1000) 1000)) || (!(shift_in per 0 1000))))] ∧ Ctx G (.box b_1 [.int .i64 0, .int .i64 0] 37 :: Lf) w) ?_ ?_
      · cases hb : (!(shift_in rise (-1000) 1000))
        · rw [hb] at hf
          refine stP hf rfl rfl rfl (pM rfl) fun a hf => ?_
          refine stE hf hc rfl rfl rfl (eC (v := .bool (shift_in per 0 1000)) (vs := [.int .i64 per, .int .i64 0, .int .i64 1000]) (caps := []) en_59 rfl rfl rfl rfl (fun w hc => shift_in_ok per 0 1000 hc rfl)) fun a w hf hc => ?_
          refine stP hf rfl rfl rfl (pNot rfl) fun a hf => ?_
          refine stP hf rfl rfl rfl (pPf rfl rfl) fun a hf => ?_
          exact cNil ⟨hf.keep ⟨rfl, rfl, rfl, rfl, rfl, rfl, rfl, rfl, rfl, rfl, rfl, rfl, rfl, rfl, rfl, trivial⟩, hc⟩
        · rw [hb] at hf
          refine stS hf rfl rfl rfl fun a hf => ?_
          refine stS hf rfl rfl rfl fun a hf => ?_
          refine stS hf rfl rfl rfl fun a hf => ?_
          refine stP hf rfl rfl rfl (pPt rfl rfl) fun a hf => ?_
          exact cNil ⟨hf.keep ⟨rfl, rfl, rfl, rfl, rfl, rfl, rfl, rfl, rfl, rfl, rfl, rfl, rfl, rfl, rfl, trivial⟩, hc⟩
      intro a w ⟨hf, hc⟩
      refine stP hf rfl rfl rfl (pPt rfl rfl) fun a hf => ?_
      exact cNil ⟨hf.keep ⟨rfl, rfl, rfl, rfl, rfl, rfl, rfl, rfl, rfl, rfl, rfl, trivial⟩, hc⟩
  intro a w ⟨hf, hc⟩
  refine cNil ?_
  refine h9 _ _ ?_
  refine cCond (b := ((r == 0) && ((!(shift_in rise (-1000) 1000)) || (!(shift_in per 0 1000))))) hf rfl (fun hb => ?_) (fun hb => ?_)
  · replace hF := condT hb hF
    clear hb
    refine cReg ?_
    refine stP hf rfl rfl rfl (pA rfl) fun a hf => ?_
    refine cNil ?_
    exact hj3 4 _ _  (hf.keep ⟨rfl, rfl, rfl, rfl, rfl, rfl, rfl, trivial⟩) hc hF
  · replace hF := condF hb hF
    clear hb
    refine wp_skip ?_
    exact hj3 r _ _  (hf.keep ⟨rfl, rfl, rfl, rfl, rfl, rfl, rfl, trivial⟩) hc hF

def shift_Passes (N : Nat) (r : shift_Record) : Option ((List api_Span) × Int) :=
  Option.bind (shift_opened N r) (sumK (fun r_0 => cond (r_0 != 0)
  (some (([] : List api_Span), r_0))
  (none))
  (fun r_1 => cond (r_1.2 != 0)
  (some (([] : List api_Span), r_1.2))
  (some (r_1.1, 0))))
theorem shift_Passes_ok {N : Nat} {G : Pers} {Lf : List Ent} {w : World} (r : shift_Record) {r_Rating_p : Option Addr} {r_Rating_c : Nat} {r_Gaugings_p : Option Addr} {r_Gaugings_c : Nat} (h_r_Rating : Rd G 2 r_Rating_p r_Rating_c (r.Rating.map enc_shift_Mark)) (h_r_Gaugings : Rd G 4 r_Gaugings_p r_Gaugings_c (r.Gaugings.map enc_shift_Gauging)) (hc : Ctx G (Lf) w) {res : (List api_Span) × Int} (hF : shift_Passes N r = some res) : Calls Try.prog 22 #[.agg #[.slice r_Rating_p r.Rating.length r_Rating_c, .slice r_Gaugings_p r.Gaugings.length r_Gaugings_c]] w (fun e w => ∃ (p'1 : Option Addr) (c'1 : Nat), e = .returned (.tuple #[.slice p'1 res.1.length c'1, .int .i64 res.2]) ∧ Ctx G (.row p'1 c'1 (res.1.map enc_api_Span) 50 2 :: Lf) w) := by
  unfold shift_Passes at hF
  refine fnIn (args := [.agg #[.slice r_Rating_p r.Rating.length r_Rating_c, .slice r_Gaugings_p r.Gaugings.length r_Gaugings_c]]) Try.func22 rfl Try.ntmps22 rfl fun a hf => ?_
  refine wp_seq_k fun K1 h1 => ?_
  refine cReg ?_
  refine stBx (cs := [.slice r_Rating_p r.Rating.length r_Rating_c, .slice r_Gaugings_p r.Gaugings.length r_Gaugings_c]) hf hc rfl rfl rfl rfl fun b_1 a w hf hc => ?_
  refine stP hf rfl rfl rfl (pA rfl) fun a hf => ?_
  refine stP hf rfl rfl rfl (pA rfl) fun a hf => ?_
  refine cNil ?_
  refine h1 _ _ ?_
  refine wp_seq_k fun K2 h2 => ?_
  refine cReg ?_
  refine stE hf hc rfl rfl rfl (eLdN (vs := [.slice r_Rating_p r.Rating.length r_Rating_c, .slice r_Gaugings_p r.Gaugings.length r_Gaugings_c]) ag_25 rfl rfl (cells_box (n := 2) m0 rfl)) fun a w hf hc => ?_
  obtain ⟨r_0, hr_0, hF⟩ := bnd_some hF
  cases r_0 with
  | inl r_0 =>
    replace hF := sumKl hF
    refine stC (vs := [.agg #[.slice r_Rating_p r.Rating.length r_Rating_c, .slice r_Gaugings_p r.Gaugings.length r_Gaugings_c]]) (caps := []) hf rfl rfl rfl en_73 rfl rfl rfl rfl (shift_opened_ok r h_r_Rating h_r_Gaugings hc hr_0) ?_
    rintro _ w ⟨rfl, hc⟩
    refine ⟨_, rfl, fun a hf => ?_⟩
    refine stP hf rfl rfl rfl (pM rfl) fun a hf => ?_
    refine stP hf rfl rfl rfl (pX rfl rfl) fun a hf => ?_
    refine stP hf rfl rfl rfl (pX rfl rfl) fun a hf => ?_
    refine stP hf rfl rfl rfl (pA rfl) fun a hf => ?_
    refine stP hf rfl rfl rfl (pA rfl) fun a hf => ?_
    refine cNil ?_
    refine h2 _ _ ?_
    refine wp_seq_k fun K3 h3 => ?_
    refine wp_seq_k fun K4 h4 => ?_
    refine cReg ?_
    refine stP hf rfl rfl rfl (pM rfl) fun a hf => ?_
    refine stP hf rfl rfl rfl (pNe rfl rfl) fun a hf => ?_
    refine cNil ?_
    refine h4 _ _ ?_
    refine cCond (b := (r_0 != 0)) hf rfl (fun hb => ?_) (fun hb => ?_)
    · replace hF := condT hb hF
      clear hb
      refine wp_seq_k fun K5 h5 => ?_
      refine cReg ?_
      refine stP hf rfl rfl rfl (pM rfl) fun a hf => ?_
      refine stP hf rfl rfl rfl (pA rfl) fun a hf => ?_
      refine stP hf rfl rfl rfl (pA rfl) fun a hf => ?_
      refine cNil ?_
      refine h5 _ _ ?_
      refine wp_ret ?_
      refine xThenR ?_
      obtain rfl := Option.some.inj hF
      replace hc := hc.nilRow 50 2
      replace hc := hc.drop k1
      exact fnOut2 (by simp) rfl Try.results22 hf hc (show look _ 2 = _ from rfl) (show look _ 3 = _ from rfl) ⟨none, 0, rfl, hc⟩
    · replace hF := condF hb hF
      clear hb
      refine wp_skip ?_
      refine h3 _ _ ?_
      refine wp_seq_k fun K6 h6 => ?_
      exact noneO hF
  | inr r_1 =>
    replace hF := sumKr hF
    have hr_1 := hr_0
    refine stC (vs := [.agg #[.slice r_Rating_p r.Rating.length r_Rating_c, .slice r_Gaugings_p r.Gaugings.length r_Gaugings_c]]) (caps := []) hf rfl rfl rfl en_73 rfl rfl rfl rfl (shift_opened_ok r h_r_Rating h_r_Gaugings hc hr_1) ?_
    rintro _ w ⟨b_2, p_1, c_1, rfl, hc⟩
    refine ⟨_, rfl, fun a hf => ?_⟩
    refine stP hf rfl rfl rfl (pM rfl) fun a hf => ?_
    refine stP hf rfl rfl rfl (pX rfl rfl) fun a hf => ?_
    refine stP hf rfl rfl rfl (pX rfl rfl) fun a hf => ?_
    refine stP hf rfl rfl rfl (pA rfl) fun a hf => ?_
    refine stP hf rfl rfl rfl (pA rfl) fun a hf => ?_
    refine cNil ?_
    refine h2 _ _ ?_
    refine wp_seq_k fun K7 h7 => ?_
    refine wp_seq_k fun K8 h8 => ?_
    refine cReg ?_
    refine stP hf rfl rfl rfl (pM rfl) fun a hf => ?_
    refine stP hf rfl rfl rfl (pNe rfl rfl) fun a hf => ?_
    refine cNil ?_
    refine h8 _ _ ?_
    refine cCond (b := (r_1.2 != 0)) hf rfl (fun hb => ?_) (fun hb => ?_)
    · replace hF := condT hb hF
      clear hb
      refine wp_seq_k fun K9 h9 => ?_
      refine cReg ?_
      refine stP hf rfl rfl rfl (pM rfl) fun a hf => ?_
      refine stP hf rfl rfl rfl (pA rfl) fun a hf => ?_
      refine stP hf rfl rfl rfl (pA rfl) fun a hf => ?_
      refine cNil ?_
      refine h9 _ _ ?_
      refine wp_ret ?_
      refine xThenR ?_
      obtain rfl := Option.some.inj hF
      replace hc := hc.nilRow 50 2
      replace hc := hc.drop k3
      replace hc := hc.drop k2
      replace hc := hc.drop k1
      exact fnOut2 (by simp) rfl Try.results22 hf hc (show look _ 2 = _ from rfl) (show look _ 3 = _ from rfl) ⟨none, 0, rfl, hc⟩
    · replace hF := condF hb hF
      clear hb
      refine wp_skip ?_
      refine h7 _ _ ?_
      refine wp_seq_k fun K10 h10 => ?_
      refine cReg ?_
      refine stP hf rfl rfl rfl (pM rfl) fun a hf => ?_
      refine stP hf rfl rfl rfl (pNC rfl) fun a hf => ?_
      refine stP hf rfl rfl rfl (pFA fa_140_1 rfl) fun a hf => ?_
      refine stE hf hc rfl rfl rfl (eLd1 sc_44 rfl (cell_box m1 rfl)) fun a w hf hc => ?_
      refine stP hf rfl rfl rfl (pA rfl) fun a hf => ?_
      refine stP hf rfl rfl rfl (pA rfl) fun a hf => ?_
      refine cNil ?_
      refine h10 _ _ ?_
      refine wp_ret ?_
      obtain rfl := Option.some.inj hF
      replace hc := hc.drop k2
      replace hc := hc.drop k1
      exact fnOut2 (by simp) rfl Try.results22 hf hc (show look _ 2 = _ from rfl) (show look _ 3 = _ from rfl) ⟨p_1, c_1, rfl, hc⟩

def shift_Proves_1 (t_ : shift_Turn) (x : shift_Record) : Bool :=
  (shift_in t_.Gauging 0 (W (((x.Gaugings.length : Nat) : Int) - 1)))
theorem shift_Proves_1_ok {G : Pers} {Lf : List Ent} {w : World} (t_ : shift_Turn) (x : shift_Record) {b_ : Nat} {x_Rating_p : Option Addr} {x_Rating_c : Nat} {x_Gaugings_p : Option Addr} {x_Gaugings_c : Nat} (h_x_Rating : Rd G 2 x_Rating_p x_Rating_c (x.Rating.map enc_shift_Mark)) (h_x_Gaugings : Rd G 4 x_Gaugings_p x_Gaugings_c (x.Gaugings.map enc_shift_Gauging)) (hc : Ctx G (.box b_ [.slice x_Rating_p x.Rating.length x_Rating_c, .slice x_Gaugings_p x.Gaugings.length x_Gaugings_c] 25 :: Lf) w) {res : Bool} (hF : shift_Proves_1 t_ x = res) : Calls Try.prog 90 #[.agg #[.int .i64 t_.Gauging, .bool t_.Up], .pointer (some ⟨b_, 0, none⟩)] w (fun e w => e = .returned (.bool res) ∧ Ctx G (.box b_ [.slice x_Rating_p x.Rating.length x_Rating_c, .slice x_Gaugings_p x.Gaugings.length x_Gaugings_c] 25 :: Lf) w) := by
  unfold shift_Proves_1 at hF
  refine fnIn (args := [.agg #[.int .i64 t_.Gauging, .bool t_.Up], .pointer (some ⟨b_, 0, none⟩)]) Try.func90 rfl Try.ntmps90 rfl fun a hf => ?_
  refine wp_seq_k fun K1 h1 => ?_
  refine cReg ?_
  refine stBx (cs := [.int .i64 t_.Gauging, .bool t_.Up]) hf hc rfl rfl rfl rfl fun b_1 a w hf hc => ?_
  refine stP hf rfl rfl rfl (pA rfl) fun a hf => ?_
  refine cNil ?_
  refine h1 _ _ ?_
  refine wp_seq_k fun K2 h2 => ?_
  refine cReg ?_
  refine stP hf rfl rfl rfl (pFA fa_91_0 rfl) fun a hf => ?_
  refine stE hf hc rfl rfl rfl (eLd1 sc_3 rfl (cell_box m0 rfl)) fun a w hf hc => ?_
  refine stP hf rfl rfl rfl (pFA fa_25_1 rfl) fun a hf => ?_
  refine stE hf hc rfl rfl rfl (eLd1 sc_23 rfl (cell_box m1 rfl)) fun a w hf hc => ?_
  refine stP hf rfl rfl rfl (pLenS Try.underlying23 rfl) fun a hf => ?_
  refine stP hf rfl rfl rfl (pSub rfl rfl) fun a hf => ?_
  refine stE hf hc rfl rfl rfl (eC (v := .bool (shift_in t_.Gauging 0 (W (((x.Gaugings.length : Nat) : Int) - 1)))) (vs := [.int .i64 t_.Gauging, .int .i64 0, .int .i64 (W (((x.Gaugings.length : Nat) : Int) - 1))]) (caps := []) en_59 rfl rfl rfl rfl (fun w hc => shift_in_ok t_.Gauging 0 (W (((x.Gaugings.length : Nat) : Int) - 1)) hc rfl)) fun a w hf hc => ?_
  refine stP hf rfl rfl rfl (pA rfl) fun a hf => ?_
  refine cNil ?_
  refine h2 _ _ ?_
  refine wp_ret ?_
  obtain rfl := hF
  replace hc := hc.drop k0
  exact fnOut1 (by simp) rfl Try.results90 hf hc (show look _ 3 = _ from rfl) ⟨rfl, hc⟩

def shift_every_shift_Turn_1 (x : shift_Turn) (x_1 : shift_Record) : Bool :=
  (!(shift_Proves_1 (⟨x.Gauging, x.Up⟩ : shift_Turn) x_1))
theorem shift_every_shift_Turn_1_ok {G : Pers} {Lf : List Ent} {w : World} (x : shift_Turn) (x_1 : shift_Record) {b_ : Nat} {b__1 : Nat} {x_1_Rating_p : Option Addr} {x_1_Rating_c : Nat} {x_1_Gaugings_p : Option Addr} {x_1_Gaugings_c : Nat} (h_x_1_Rating : Rd G 2 x_1_Rating_p x_1_Rating_c (x_1.Rating.map enc_shift_Mark)) (h_x_1_Gaugings : Rd G 4 x_1_Gaugings_p x_1_Gaugings_c (x_1.Gaugings.map enc_shift_Gauging)) (hc : Ctx G (.box b_ [.func (.func 90) #[] #[.pointer (some ⟨b__1, 0, none⟩)]] 165 :: .box b__1 [.slice x_1_Rating_p x_1.Rating.length x_1_Rating_c, .slice x_1_Gaugings_p x_1.Gaugings.length x_1_Gaugings_c] 25 :: Lf) w) {res : Bool} (hF : shift_every_shift_Turn_1 x x_1 = res) : Calls Try.prog 118 #[.agg #[.int .i64 x.Gauging, .bool x.Up], .pointer (some ⟨b_, 0, none⟩)] w (fun e w => e = .returned (.bool res) ∧ Ctx G (.box b_ [.func (.func 90) #[] #[.pointer (some ⟨b__1, 0, none⟩)]] 165 :: .box b__1 [.slice x_1_Rating_p x_1.Rating.length x_1_Rating_c, .slice x_1_Gaugings_p x_1.Gaugings.length x_1_Gaugings_c] 25 :: Lf) w) := by
  unfold shift_every_shift_Turn_1 at hF
  refine fnIn (args := [.agg #[.int .i64 x.Gauging, .bool x.Up], .pointer (some ⟨b_, 0, none⟩)]) Try.func118 rfl Try.ntmps118 rfl fun a hf => ?_
  refine wp_seq_k fun K1 h1 => ?_
  refine cReg ?_
  refine stBx (cs := [.int .i64 x.Gauging, .bool x.Up]) hf hc rfl rfl rfl rfl fun b_1 a w hf hc => ?_
  refine stP hf rfl rfl rfl (pA rfl) fun a hf => ?_
  refine cNil ?_
  refine h1 _ _ ?_
  refine wp_seq_k fun K2 h2 => ?_
  refine cReg ?_
  refine stE hf hc rfl rfl rfl (eLd1 sc_165 rfl (cell_box m1 rfl)) fun a w hf hc => ?_
  refine stE hf hc rfl rfl rfl (eLdN (vs := [.int .i64 x.Gauging, .bool x.Up]) ag_91 rfl rfl (cells_box (n := 2) m0 rfl)) fun a w hf hc => ?_
  refine stE hf hc rfl rfl rfl (eC (v := .bool (shift_Proves_1 (⟨x.Gauging, x.Up⟩ : shift_Turn) x_1)) (vs := [.agg #[.int .i64 x.Gauging, .bool x.Up]]) (caps := [.pointer (some ⟨b__1, 0, none⟩)]) en_90 rfl rfl rfl rfl (fun w hc => (shift_Proves_1_ok (⟨x.Gauging, x.Up⟩ : shift_Turn) x_1 h_x_1_Rating h_x_1_Gaugings (hc.pick k2) rfl).mono fun e w h => ⟨h.1, (h.2.unpick k2)⟩)) fun a w hf hc => ?_
  refine stP hf rfl rfl rfl (pNot rfl) fun a hf => ?_
  refine stP hf rfl rfl rfl (pA rfl) fun a hf => ?_
  refine cNil ?_
  refine h2 _ _ ?_
  refine wp_ret ?_
  obtain rfl := hF
  replace hc := hc.drop k0
  exact fnOut1 (by simp) rfl Try.results118 hf hc (show look _ 3 = _ from rfl) ⟨rfl, hc⟩

def slices_IndexFunc_Lshift_Turn_shift_Turn_b4 (N : Nat) (s_ : List shift_Turn) (f_ : shift_Record) (x : Int) : Option (Step (Int) (Int)) :=
  cond (decide (x < ((s_.length : Nat) : Int)))
  (Option.bind (getI s_ x) fun e_1 =>
  cond (shift_every_shift_Turn_1 e_1 f_)
  (some (.ret x))
  (some (.cont (W (x + 1)))))
  (some (.brk x))
def slices_IndexFunc_Lshift_Turn_shift_Turn (N : Nat) (s_ : List shift_Turn) (f_ : shift_Record) : Option (Int) :=
  Option.bind (loopO (fun s4 => slices_IndexFunc_Lshift_Turn_shift_Turn_b4 N s_ f_ s4) N 0) fun x4 =>
  exK x4 (fun s4 => some (-1)) some
theorem slices_IndexFunc_Lshift_Turn_shift_Turn_ok {N : Nat} {G : Pers} {Lf : List Ent} {w : World} (s_ : List shift_Turn) (f_ : shift_Record) {s__p : Option Addr} {s__c : Nat} {b_ : Nat} {b__1 : Nat} {f__Rating_p : Option Addr} {f__Rating_c : Nat} {f__Gaugings_p : Option Addr} {f__Gaugings_c : Nat} (h_s_ : Rd G 2 s__p s__c (s_.map enc_shift_Turn)) (h_f__Rating : Rd G 2 f__Rating_p f__Rating_c (f_.Rating.map enc_shift_Mark)) (h_f__Gaugings : Rd G 4 f__Gaugings_p f__Gaugings_c (f_.Gaugings.map enc_shift_Gauging)) (hc : Ctx G (.box b_ [.func (.func 90) #[] #[.pointer (some ⟨b__1, 0, none⟩)]] 165 :: .box b__1 [.slice f__Rating_p f_.Rating.length f__Rating_c, .slice f__Gaugings_p f_.Gaugings.length f__Gaugings_c] 25 :: Lf) w) {res : Int} (hF : slices_IndexFunc_Lshift_Turn_shift_Turn N s_ f_ = some res) : Calls Try.prog 142 #[.slice s__p s_.length s__c, .func (.func 118) #[] #[.pointer (some ⟨b_, 0, none⟩)]] w (fun e w => e = .returned (.int .i64 res) ∧ Ctx G (.box b_ [.func (.func 90) #[] #[.pointer (some ⟨b__1, 0, none⟩)]] 165 :: .box b__1 [.slice f__Rating_p f_.Rating.length f__Rating_c, .slice f__Gaugings_p f_.Gaugings.length f__Gaugings_c] 25 :: Lf) w) := by
  unfold slices_IndexFunc_Lshift_Turn_shift_Turn at hF
  refine fnIn (args := [.slice s__p s_.length s__c, .func (.func 118) #[] #[.pointer (some ⟨b_, 0, none⟩)]]) Try.func142 rfl Try.ntmps142 rfl fun a hf => ?_
  refine wp_seq_k fun K1 h1 => ?_
  refine cReg ?_
  refine stP hf rfl rfl rfl (pA rfl) fun a hf => ?_
  refine cNil ?_
  refine h1 _ _ ?_
  refine wp_seq_k fun K2 h2 => ?_
  refine wp_seq_k fun K3 h3 => ?_
  refine cReg ?_
  refine stP hf rfl rfl rfl (pM rfl) fun a hf => ?_
  refine stP hf rfl rfl rfl (pLenS Try.underlying87 rfl) fun a hf => ?_
  refine stP hf rfl rfl rfl (pM rfl) fun a hf => ?_
  refine cNil ?_
  refine h3 _ _ ?_
  refine wp_block ?_
  obtain ⟨x4, hx4, hF⟩ := bnd_some hF
  let S4 : Int → Act → World → Prop := (fun (zz : Int) a w => Has 19 a [(0, .slice s__p s_.length s__c), (1, .func (.func 118) #[] #[.pointer (some ⟨b_, 0, none⟩)]), (7, .int .i64 ((s_.length : Nat) : Int)), (8, .int .i64 zz)] ∧ Ctx G (.box b_ [.func (.func 90) #[] #[.pointer (some ⟨b__1, 0, none⟩)]] 165 :: .box b__1 [.slice f__Rating_p f_.Rating.length f__Rating_c, .slice f__Gaugings_p f_.Gaugings.length f__Gaugings_c] 25 :: Lf) w)
  have hr4 : ∀ (zz : Int) a w, x4 = .go zz → S4 zz a w → K2 a w := by
    rintro x a w rfl ⟨hf, hc⟩
    replace hF := exK_go hF
    refine h2 _ _ ?_
    refine wp_seq_k fun K5 h5 => ?_
    refine cReg ?_
    refine stP hf rfl rfl rfl (pA rfl) fun a hf => ?_
    refine cNil ?_
    refine h5 _ _ ?_
    refine wp_ret ?_
    obtain rfl := Option.some.inj hF
    exact fnOut1 (by simp) rfl Try.results142 hf hc (show look _ 4 = _ from rfl) ⟨rfl, hc⟩
  have ho4 : ∀ r, x4 = .out r → r = res := by
    rintro r rfl
    exact Option.some.inj hF
  refine cLoop N (loopW (S := S4) (x := x4) ?_ N 0 _ _ ⟨hf.keep ⟨rfl, rfl, rfl, rfl, trivial⟩, hc⟩ hx4)
  clear hF hf hc
  rintro x st4 a w KB4 ⟨hf, hc⟩ hF hfin4 hK4
  unfold slices_IndexFunc_Lshift_Turn_shift_Turn_b4 at hF
  refine wp_seq_k fun K6 h6 => ?_
  refine cReg ?_
  refine stP hf rfl rfl rfl (pLt rfl rfl) fun a hf => ?_
  refine cNil ?_
  refine h6 _ _ ?_
  refine wp_seq_k fun K7 h7 => ?_
  refine cCond (b := (decide (x < ((s_.length : Nat) : Int)))) hf rfl (fun hb => ?_) (fun hb => ?_)
  · replace hF := condT hb hF
    clear hb
    refine wp_skip ?_
    refine h7 _ _ ?_
    refine wp_seq_k fun K8 h8 => ?_
    refine wp_block ?_
    refine wp_seq_k fun K9 h9 => ?_
    refine cReg ?_
    refine stP hf rfl rfl rfl (pM rfl) fun a hf => ?_
    refine stP hf rfl rfl rfl (pA rfl) fun a hf => ?_
    refine cNil ?_
    refine h9 _ _ ?_
    refine wp_seq_k fun K10 h10 => ?_
    refine cReg ?_
    refine stP hf rfl rfl rfl (pM rfl) fun a hf => ?_
    refine stP hf rfl rfl rfl (pM rfl) fun a hf => ?_
    refine stP hf rfl rfl rfl (pM rfl) fun a hf => ?_
    obtain ⟨e_1, he_1, hF⟩ := bnd_some hF
    obtain ⟨b_1, o, qa, qp⟩ := h_s_.atm he_1
    refine stP hf rfl rfl rfl (pIA Try.underlying87 sz_91 rfl rfl qa) fun a hf => ?_
    refine stE hf hc rfl rfl rfl (eLdN (vs := [.int .i64 e_1.Gauging, .bool e_1.Up]) ag_91 rfl rfl (cells_pc qp (n := 2) (o' := 0) rfl)) fun a w hf hc => ?_
    refine stE hf hc rfl rfl rfl (eC (v := .bool (shift_every_shift_Turn_1 e_1 f_)) (vs := [.agg #[.int .i64 e_1.Gauging, .bool e_1.Up]]) (caps := [.pointer (some ⟨b_, 0, none⟩)]) en_118 rfl rfl rfl rfl (fun w hc => (shift_every_shift_Turn_1_ok e_1 f_ h_f__Rating h_f__Gaugings ((hc.pick k1).pick k1) rfl).mono fun e w h => ⟨h.1, ((h.2.unpick k1).unpick k1)⟩)) fun a w hf hc => ?_
    refine cNil ?_
    refine h10 _ _ ?_
    refine cCond (b := (shift_every_shift_Turn_1 e_1 f_)) hf rfl (fun hb => ?_) (fun hb => ?_)
    · replace hF := condT hb hF
      clear hb
      refine wp_seq_k fun K11 h11 => ?_
      refine cReg ?_
      refine stP hf rfl rfl rfl (pM rfl) fun a hf => ?_
      refine stP hf rfl rfl rfl (pA rfl) fun a hf => ?_
      refine cNil ?_
      refine h11 _ _ ?_
      refine wp_ret ?_
      refine xBlkR ?_
      refine xThenR ?_
      refine xThenR ?_
      have he := Option.some.inj hF
      rw [← he] at hfin4
      replace hF := ho4 _ hfin4
      refine xBlkR ?_
      refine xThenR ?_
      obtain rfl := hF
      exact fnOut1 (by simp) rfl Try.results142 hf hc (show look _ 4 = _ from rfl) ⟨rfl, hc⟩
    · replace hF := condF hb hF
      clear hb
      refine wp_skip ?_
      refine h8 _ _ ?_
      refine cReg ?_
      refine stP hf rfl rfl rfl (pAdd rfl rfl) fun a hf => ?_
      refine stP hf rfl rfl rfl (pM rfl) fun a hf => ?_
      refine cNil ?_
      exact hK4 (W (x + 1)) _ _ (Option.some.inj hF).symm ⟨hf.keep ⟨rfl, rfl, rfl, rfl, trivial⟩, hc⟩
  · replace hF := condF hb hF
    clear hb
    refine wp_exit ?_
    refine xThen ?_
    refine xThen ?_
    have he := Option.some.inj hF
    rw [← he] at hfin4
    refine cHit ?_
    exact hr4 _ _ _ hfin4 ⟨hf.keep ⟨rfl, rfl, rfl, rfl, trivial⟩, hc⟩

def slices_ContainsFunc_Lshift_Turn_shift_Turn (N : Nat) (s_ : List shift_Turn) (f_ : shift_Record) : Option (Bool) :=
  Option.bind (slices_IndexFunc_Lshift_Turn_shift_Turn N s_ f_) fun r =>
  some (decide (0 ≤ r))
theorem slices_ContainsFunc_Lshift_Turn_shift_Turn_ok {N : Nat} {G : Pers} {Lf : List Ent} {w : World} (s_ : List shift_Turn) (f_ : shift_Record) {s__p : Option Addr} {s__c : Nat} {b_ : Nat} {b__1 : Nat} {f__Rating_p : Option Addr} {f__Rating_c : Nat} {f__Gaugings_p : Option Addr} {f__Gaugings_c : Nat} (h_s_ : Rd G 2 s__p s__c (s_.map enc_shift_Turn)) (h_f__Rating : Rd G 2 f__Rating_p f__Rating_c (f_.Rating.map enc_shift_Mark)) (h_f__Gaugings : Rd G 4 f__Gaugings_p f__Gaugings_c (f_.Gaugings.map enc_shift_Gauging)) (hc : Ctx G (.box b_ [.func (.func 90) #[] #[.pointer (some ⟨b__1, 0, none⟩)]] 165 :: .box b__1 [.slice f__Rating_p f_.Rating.length f__Rating_c, .slice f__Gaugings_p f_.Gaugings.length f__Gaugings_c] 25 :: Lf) w) {res : Bool} (hF : slices_ContainsFunc_Lshift_Turn_shift_Turn N s_ f_ = some res) : Calls Try.prog 117 #[.slice s__p s_.length s__c, .func (.func 118) #[] #[.pointer (some ⟨b_, 0, none⟩)]] w (fun e w => e = .returned (.bool res) ∧ Ctx G (.box b_ [.func (.func 90) #[] #[.pointer (some ⟨b__1, 0, none⟩)]] 165 :: .box b__1 [.slice f__Rating_p f_.Rating.length f__Rating_c, .slice f__Gaugings_p f_.Gaugings.length f__Gaugings_c] 25 :: Lf) w) := by
  unfold slices_ContainsFunc_Lshift_Turn_shift_Turn at hF
  refine fnIn (args := [.slice s__p s_.length s__c, .func (.func 118) #[] #[.pointer (some ⟨b_, 0, none⟩)]]) Try.func117 rfl Try.ntmps117 rfl fun a hf => ?_
  refine wp_seq_k fun K1 h1 => ?_
  refine cReg ?_
  refine stP hf rfl rfl rfl (pA rfl) fun a hf => ?_
  refine cNil ?_
  refine h1 _ _ ?_
  refine wp_seq_k fun K2 h2 => ?_
  refine cReg ?_
  refine stP hf rfl rfl rfl (pM rfl) fun a hf => ?_
  refine stP hf rfl rfl rfl (pM rfl) fun a hf => ?_
  obtain ⟨r, hr, hF⟩ := bnd_some hF
  refine stE hf hc rfl rfl rfl (eC (v := .int .i64 r) (vs := [.slice s__p s_.length s__c, .func (.func 118) #[] #[.pointer (some ⟨b_, 0, none⟩)]]) (caps := []) en_142 rfl rfl rfl rfl (fun w hc => (slices_IndexFunc_Lshift_Turn_shift_Turn_ok s_ f_ h_s_ h_f__Rating h_f__Gaugings ((hc.pick k1).pick k1) hr).mono fun e w h => ⟨h.1, ((h.2.unpick k1).unpick k1)⟩)) fun a w hf hc => ?_
  refine stP hf rfl rfl rfl (pGe rfl rfl) fun a hf => ?_
  refine stP hf rfl rfl rfl (pA rfl) fun a hf => ?_
  refine cNil ?_
  refine h2 _ _ ?_
  refine wp_ret ?_
  obtain rfl := Option.some.inj hF
  exact fnOut1 (by simp) rfl Try.results117 hf hc (show look _ 4 = _ from rfl) ⟨rfl, hc⟩

def shift_every_shift_Turn (N : Nat) (l : List shift_Turn) (so : shift_Record) : Option (Bool) :=
  Option.bind (slices_ContainsFunc_Lshift_Turn_shift_Turn N l so) fun r =>
  some (!r)
theorem shift_every_shift_Turn_ok {N : Nat} {G : Pers} {Lf : List Ent} {w : World} (l : List shift_Turn) (so : shift_Record) {l_p : Option Addr} {l_c : Nat} {b_ : Nat} {so_Rating_p : Option Addr} {so_Rating_c : Nat} {so_Gaugings_p : Option Addr} {so_Gaugings_c : Nat} (h_l : Rd G 2 l_p l_c (l.map enc_shift_Turn)) (h_so_Rating : Rd G 2 so_Rating_p so_Rating_c (so.Rating.map enc_shift_Mark)) (h_so_Gaugings : Rd G 4 so_Gaugings_p so_Gaugings_c (so.Gaugings.map enc_shift_Gauging)) (hc : Ctx G (.box b_ [.slice so_Rating_p so.Rating.length so_Rating_c, .slice so_Gaugings_p so.Gaugings.length so_Gaugings_c] 25 :: Lf) w) {res : Bool} (hF : shift_every_shift_Turn N l so = some res) : Calls Try.prog 89 #[.slice l_p l.length l_c, .func (.func 90) #[] #[.pointer (some ⟨b_, 0, none⟩)]] w (fun e w => e = .returned (.bool res) ∧ Ctx G (.box b_ [.slice so_Rating_p so.Rating.length so_Rating_c, .slice so_Gaugings_p so.Gaugings.length so_Gaugings_c] 25 :: Lf) w) := by
  unfold shift_every_shift_Turn at hF
  refine fnIn (args := [.slice l_p l.length l_c, .func (.func 90) #[] #[.pointer (some ⟨b_, 0, none⟩)]]) Try.func89 rfl Try.ntmps89 rfl fun a hf => ?_
  refine wp_seq_k fun K1 h1 => ?_
  refine cReg ?_
  refine stBx (cs := [.func (.func 90) #[] #[.pointer (some ⟨b_, 0, none⟩)]]) hf hc rfl rfl rfl rfl fun b_1 a w hf hc => ?_
  refine stP hf rfl rfl rfl (pA rfl) fun a hf => ?_
  refine cNil ?_
  refine h1 _ _ ?_
  refine wp_seq_k fun K2 h2 => ?_
  refine cReg ?_
  refine stP hf rfl rfl rfl (pM rfl) fun a hf => ?_
  refine stP hf rfl rfl rfl (pMF (us := [.pointer (some ⟨b_1, 0, none⟩)]) rfl rfl) fun a hf => ?_
  obtain ⟨r, hr, hF⟩ := bnd_some hF
  refine stE hf hc rfl rfl rfl (eC (v := .bool r) (vs := [.slice l_p l.length l_c, .func (.func 118) #[] #[.pointer (some ⟨b_1, 0, none⟩)]]) (caps := []) en_117 rfl rfl rfl rfl (fun w hc => (slices_ContainsFunc_Lshift_Turn_shift_Turn_ok l so h_l h_so_Rating h_so_Gaugings ((hc.pick k1).pick k1) hr).mono fun e w h => ⟨h.1, ((h.2.unpick k1).unpick k1)⟩)) fun a w hf hc => ?_
  refine stP hf rfl rfl rfl (pNot rfl) fun a hf => ?_
  refine stP hf rfl rfl rfl (pA rfl) fun a hf => ?_
  refine cNil ?_
  refine h2 _ _ ?_
  refine wp_ret ?_
  obtain rfl := Option.some.inj hF
  replace hc := hc.drop k0
  exact fnOut1 (by simp) rfl Try.results89 hf hc (show look _ 4 = _ from rfl) ⟨rfl, hc⟩

def shift_Turn_ends (t_ : shift_Turn) : Bool :=
  cond t_.Up
  (true)
  (false)
theorem shift_Turn_ends_ok {G : Pers} {Lf : List Ent} {w : World} (t_ : shift_Turn)   (hc : Ctx G (Lf) w) {res : Bool} (hF : shift_Turn_ends t_ = res) : Calls Try.prog 91 #[.agg #[.int .i64 t_.Gauging, .bool t_.Up]] w (fun e w => e = .returned (.agg #[(bif res then .func (.func 119) #[] #[] else .func (.func 120) #[] #[])]) ∧ Ctx G (Lf) w) := by
  unfold shift_Turn_ends at hF
  refine fnIn (args := [.agg #[.int .i64 t_.Gauging, .bool t_.Up]]) Try.func91 rfl Try.ntmps91 rfl fun a hf => ?_
  refine wp_seq_k fun K1 h1 => ?_
  refine cReg ?_
  refine stBx (cs := [.int .i64 t_.Gauging, .bool t_.Up]) hf hc rfl rfl rfl rfl fun b_1 a w hf hc => ?_
  refine stAl (cs := [.nilFunc]) hf hc rfl rfl zr_168 rfl fun b_2 a w hf hc => ?_
  refine cNil ?_
  refine h1 _ _ ?_
  refine wp_seq_k fun K2 h2 => ?_
  refine wp_seq_k fun K3 h3 => ?_
  refine cReg ?_
  refine stP hf rfl rfl rfl (pFA fa_91_1 rfl) fun a hf => ?_
  refine stE hf hc rfl rfl rfl (eLd1 sc_4 rfl (cell_box m1 rfl)) fun a w hf hc => ?_
  refine cNil ?_
  refine h3 _ _ ?_
  refine cCond (b := t_.Up) hf rfl (fun hb => ?_) (fun hb => ?_)
  · replace hF := condT hb hF
    clear hb
    refine wp_seq_k fun K4 h4 => ?_
    refine cReg ?_
    refine stP hf rfl rfl rfl (pBuildS (cells := [.func (.func 119) #[] #[]]) bt_168 rfl rfl) fun a hf => ?_
    refine stSt (vs := [.func (.func 119) #[] #[]]) hf hc rfl rfl rfl rfl sz_168 rfl rfl u0 fun w hc => ?_
    refine cNil ?_
    refine h4 _ _ ?_
    refine wp_ret ?_
    refine xThenR ?_
    obtain rfl := hF
    replace hc := hc.drop k1
    exact fnOut1 (by simp) rfl Try.results91 hf hc (rv_cellN (vs := [.func (.func 119) #[] #[]]) ag_168 rfl rfl (cells_box (n := 1) m0 rfl)) ⟨rfl, (hc.drop k0)⟩
  · replace hF := condF hb hF
    clear hb
    refine wp_skip ?_
    refine h2 _ _ ?_
    refine wp_seq_k fun K5 h5 => ?_
    refine cReg ?_
    refine stP hf rfl rfl rfl (pBuildS (cells := [.func (.func 120) #[] #[]]) bt_168 rfl rfl) fun a hf => ?_
    refine stSt (vs := [.func (.func 120) #[] #[]]) hf hc rfl rfl rfl rfl sz_168 rfl rfl u0 fun w hc => ?_
    refine cNil ?_
    refine h5 _ _ ?_
    refine wp_ret ?_
    obtain rfl := hF
    replace hc := hc.drop k1
    exact fnOut1 (by simp) rfl Try.results91 hf hc (rv_cellN (vs := [.func (.func 120) #[] #[]]) ag_168 rfl rfl (cells_box (n := 1) m0 rfl)) ⟨rfl, (hc.drop k0)⟩

def shift_Turn_ends_1 (s_ : api_Span) : Int :=
  s_.Hi
theorem shift_Turn_ends_1_ok {G : Pers} {Lf : List Ent} {w : World} (s_ : api_Span)   (hc : Ctx G (Lf) w) {res : Int} (hF : shift_Turn_ends_1 s_ = res) : Calls Try.prog 119 #[.agg #[.int .i64 s_.Lo, .int .i64 s_.Hi]] w (fun e w => e = .returned (.int .i64 res) ∧ Ctx G (Lf) w) := by
  unfold shift_Turn_ends_1 at hF
  refine fnIn (args := [.agg #[.int .i64 s_.Lo, .int .i64 s_.Hi]]) Try.func119 rfl Try.ntmps119 rfl fun a hf => ?_
  refine wp_seq_k fun K1 h1 => ?_
  refine cReg ?_
  refine stBx (cs := [.int .i64 s_.Lo, .int .i64 s_.Hi]) hf hc rfl rfl rfl rfl fun b_1 a w hf hc => ?_
  refine stP hf rfl rfl rfl (pA rfl) fun a hf => ?_
  refine cNil ?_
  refine h1 _ _ ?_
  refine wp_seq_k fun K2 h2 => ?_
  refine cReg ?_
  refine stP hf rfl rfl rfl (pFA fa_50_1 rfl) fun a hf => ?_
  refine stE hf hc rfl rfl rfl (eLd1 sc_3 rfl (cell_box m0 rfl)) fun a w hf hc => ?_
  refine stP hf rfl rfl rfl (pA rfl) fun a hf => ?_
  refine cNil ?_
  refine h2 _ _ ?_
  refine wp_ret ?_
  obtain rfl := hF
  replace hc := hc.drop k0
  exact fnOut1 (by simp) rfl Try.results119 hf hc (show look _ 2 = _ from rfl) ⟨rfl, hc⟩

def shift_Turn_ends_2 (s_ : api_Span) : Int :=
  s_.Lo
theorem shift_Turn_ends_2_ok {G : Pers} {Lf : List Ent} {w : World} (s_ : api_Span)   (hc : Ctx G (Lf) w) {res : Int} (hF : shift_Turn_ends_2 s_ = res) : Calls Try.prog 120 #[.agg #[.int .i64 s_.Lo, .int .i64 s_.Hi]] w (fun e w => e = .returned (.int .i64 res) ∧ Ctx G (Lf) w) := by
  unfold shift_Turn_ends_2 at hF
  refine fnIn (args := [.agg #[.int .i64 s_.Lo, .int .i64 s_.Hi]]) Try.func120 rfl Try.ntmps120 rfl fun a hf => ?_
  refine wp_seq_k fun K1 h1 => ?_
  refine cReg ?_
  refine stBx (cs := [.int .i64 s_.Lo, .int .i64 s_.Hi]) hf hc rfl rfl rfl rfl fun b_1 a w hf hc => ?_
  refine stP hf rfl rfl rfl (pA rfl) fun a hf => ?_
  refine cNil ?_
  refine h1 _ _ ?_
  refine wp_seq_k fun K2 h2 => ?_
  refine cReg ?_
  refine stP hf rfl rfl rfl (pFA fa_50_0 rfl) fun a hf => ?_
  refine stE hf hc rfl rfl rfl (eLd1 sc_3 rfl (cell_box m0 rfl)) fun a w hf hc => ?_
  refine stP hf rfl rfl rfl (pA rfl) fun a hf => ?_
  refine cNil ?_
  refine h2 _ _ ?_
  refine wp_ret ?_
  obtain rfl := hF
  replace hc := hc.drop k0
  exact fnOut1 (by simp) rfl Try.results120 hf hc (show look _ 2 = _ from rfl) ⟨rfl, hc⟩

def shift_Proves_j15 (N : Nat) (x : Int) : Option (Step (Int) (Int × Int)) :=
  some (.cont (W (x + 1)))
def shift_Proves_b11 (N : Nat) (l : List shift_Turn) (x : Int) : Option (Step (Int) (Int × Int)) :=
  cond (decide (x < ((l.length : Nat) : Int)))
  (Option.bind (getI l x) fun e_1 =>
  cond (x == 0)
  (shift_Proves_j15 N x)
  (Option.bind (getI l (W (x - 1))) fun e_2 =>
  cond ((decide (e_1.Gauging ≤ e_2.Gauging)) || (e_1.Up == e_2.Up))
  (some (.ret (0, 9)))
  (none)))
  (some (.brk x))
def shift_Proves_j36 (N : Nat) (x_1 : Int) (sum_1 : Int) : Option (Step (Int × Int) (Int × Int)) :=
  some (.cont (sum_1, W (x_1 + 1)))
def shift_Proves_b32 (N : Nat) (l : List shift_Turn) (r_2 : (List api_Span) × Int) (sum : Int) (x_1 : Int) : Option (Step (Int × Int) (Int × Int)) :=
  cond (decide (x_1 < ((l.length : Nat) : Int)))
  (Option.bind (getI l x_1) fun e_3 =>
  cond (x_1 == 0)
  (shift_Proves_j36 N x_1 sum)
  (Option.bind (getI l (W (x_1 - 1))) fun e_4 =>
  cond ((decide (e_3.Gauging ≤ e_4.Gauging)) || (e_3.Up == e_4.Up))
  (some (.ret (0, 9)))
  (Option.bind (getI r_2.1 e_4.Gauging) fun e_5 =>
  Option.bind (getI r_2.1 e_3.Gauging) fun e_6 =>
  cond e_3.Up
  (shift_Proves_j36 N x_1 (W (sum + (W ((bif (shift_Turn_ends e_4) then (shift_Turn_ends_1 e_5) else (shift_Turn_ends_2 e_5)) - (bif (shift_Turn_ends e_3) then (shift_Turn_ends_1 e_6) else (shift_Turn_ends_2 e_6)))))))
  (shift_Proves_j36 N x_1 (W (sum + (W ((bif (shift_Turn_ends e_3) then (shift_Turn_ends_1 e_6) else (shift_Turn_ends_2 e_6)) - (bif (shift_Turn_ends e_4) then (shift_Turn_ends_1 e_5) else (shift_Turn_ends_2 e_5))))))))))
  (some (.brk (sum, x_1)))
def shift_Proves (N : Nat) (r : shift_Record) (l : List shift_Turn) : Option (Int × Int) :=
  Option.bind (shift_opened N r) (sumK (fun r_0 => cond (r_0 != 0)
  (some (0, r_0))
  (Option.bind (shift_every_shift_Turn N l r) fun r_1 =>
  cond (!r_1)
  (some (0, 2))
  (Option.bind (loopO (fun s11 => shift_Proves_b11 N l s11) N 0) fun x11 =>
  exK x11 (fun s11 => some (0, 0)) some)))
  (fun r_2 => cond (r_2.2 != 0)
  (some (0, r_2.2))
  (Option.bind (shift_every_shift_Turn N l r) fun r_3 =>
  cond (!r_3)
  (some (0, 2))
  (Option.bind (loopO (fun s32 => shift_Proves_b32 N l r_2 s32.1 s32.2) N (0, 0)) fun x32 =>
  exK x32 (fun s32 => some (s32.1, 0)) some))))
theorem shift_Proves_ok {N : Nat} {G : Pers} {Lf : List Ent} {w : World} (r : shift_Record) (l : List shift_Turn) {r_Rating_p : Option Addr} {r_Rating_c : Nat} {r_Gaugings_p : Option Addr} {r_Gaugings_c : Nat} {l_p : Option Addr} {l_c : Nat} (h_r_Rating : Rd G 2 r_Rating_p r_Rating_c (r.Rating.map enc_shift_Mark)) (h_r_Gaugings : Rd G 4 r_Gaugings_p r_Gaugings_c (r.Gaugings.map enc_shift_Gauging)) (h_l : Rd G 2 l_p l_c (l.map enc_shift_Turn)) (hc : Ctx G (Lf) w) {res : Int × Int} (hF : shift_Proves N r l = some res) : Calls Try.prog 46 #[.agg #[.slice r_Rating_p r.Rating.length r_Rating_c, .slice r_Gaugings_p r.Gaugings.length r_Gaugings_c], .slice l_p l.length l_c] w (fun e w => e = .returned (.tuple #[.int .i64 res.1, .int .i64 res.2]) ∧ Ctx G (Lf) w) := by
  unfold shift_Proves at hF
  refine fnIn (args := [.agg #[.slice r_Rating_p r.Rating.length r_Rating_c, .slice r_Gaugings_p r.Gaugings.length r_Gaugings_c], .slice l_p l.length l_c]) Try.func46 rfl Try.ntmps46 rfl fun a hf => ?_
  refine wp_seq_k fun K1 h1 => ?_
  refine cReg ?_
  refine stBx (cs := [.slice r_Rating_p r.Rating.length r_Rating_c, .slice r_Gaugings_p r.Gaugings.length r_Gaugings_c]) hf hc rfl rfl rfl rfl fun b_1 a w hf hc => ?_
  refine stP hf rfl rfl rfl (pA rfl) fun a hf => ?_
  refine stP hf rfl rfl rfl (pA rfl) fun a hf => ?_
  refine cNil ?_
  refine h1 _ _ ?_
  refine wp_seq_k fun K2 h2 => ?_
  refine cReg ?_
  refine stE hf hc rfl rfl rfl (eLdN (vs := [.slice r_Rating_p r.Rating.length r_Rating_c, .slice r_Gaugings_p r.Gaugings.length r_Gaugings_c]) ag_25 rfl rfl (cells_box (n := 2) m0 rfl)) fun a w hf hc => ?_
  obtain ⟨r_0, hr_0, hF⟩ := bnd_some hF
  cases r_0 with
  | inl r_0 =>
    replace hF := sumKl hF
    refine stC (vs := [.agg #[.slice r_Rating_p r.Rating.length r_Rating_c, .slice r_Gaugings_p r.Gaugings.length r_Gaugings_c]]) (caps := []) hf rfl rfl rfl en_73 rfl rfl rfl rfl (shift_opened_ok r h_r_Rating h_r_Gaugings hc hr_0) ?_
    rintro _ w ⟨rfl, hc⟩
    refine ⟨_, rfl, fun a hf => ?_⟩
    refine stP hf rfl rfl rfl (pM rfl) fun a hf => ?_
    refine stP hf rfl rfl rfl (pX rfl rfl) fun a hf => ?_
    refine stP hf rfl rfl rfl (pX rfl rfl) fun a hf => ?_
    refine stP hf rfl rfl rfl (pA rfl) fun a hf => ?_
    refine stP hf rfl rfl rfl (pA rfl) fun a hf => ?_
    refine cNil ?_
    refine h2 _ _ ?_
    refine wp_seq_k fun K3 h3 => ?_
    refine wp_block ?_
    refine wp_seq_k fun K4 h4 => ?_
    refine cReg ?_
    refine stP hf rfl rfl rfl (pM rfl) fun a hf => ?_
    refine stP hf rfl rfl rfl (pNe rfl rfl) fun a hf => ?_
    refine stP hf rfl rfl rfl (pA rfl) fun a hf => ?_
    refine cNil ?_
    refine h4 _ _ ?_
    refine cCond (b := (r_0 != 0)) hf rfl (fun hb => ?_) (fun hb => ?_)
    · replace hF := condT hb hF
      clear hb
      refine wp_seq_k fun K5 h5 => ?_
      refine cReg ?_
      refine stP hf rfl rfl rfl (pM rfl) fun a hf => ?_
      refine stP hf rfl rfl rfl (pA rfl) fun a hf => ?_
      refine stP hf rfl rfl rfl (pA rfl) fun a hf => ?_
      refine cNil ?_
      refine h5 _ _ ?_
      refine wp_ret ?_
      refine xBlkR ?_
      refine xThenR ?_
      obtain rfl := Option.some.inj hF
      replace hc := hc.drop k0
      exact fnOut2 (by simp) rfl Try.results46 hf hc (show look _ 4 = _ from rfl) (show look _ 5 = _ from rfl) ⟨rfl, hc⟩
    · replace hF := condF hb hF
      clear hb
      refine wp_seq_k fun K6 h6 => ?_
      refine cReg ?_
      refine stP hf rfl rfl rfl (pM rfl) fun a hf => ?_
      refine stP hf rfl rfl rfl (pMF (us := [.pointer (some ⟨b_1, 0, none⟩)]) rfl rfl) fun a hf => ?_
      obtain ⟨r_1, hr_1, hF⟩ := bnd_some hF
      refine stE hf hc rfl rfl rfl (eC (v := .bool r_1) (vs := [.slice l_p l.length l_c, .func (.func 90) #[] #[.pointer (some ⟨b_1, 0, none⟩)]]) (caps := []) en_89 rfl rfl rfl rfl (fun w hc => (shift_every_shift_Turn_ok l r h_l h_r_Rating h_r_Gaugings (hc.pick k0) hr_1).mono fun e w h => ⟨h.1, (h.2.unpick k0)⟩)) fun a w hf hc => ?_
      refine stP hf rfl rfl rfl (pNot rfl) fun a hf => ?_
      refine stP hf rfl rfl rfl (pA rfl) fun a hf => ?_
      refine cNil ?_
      refine h6 _ _ ?_
      refine cCond (b := (!r_1)) hf rfl (fun hb => ?_) (fun hb => ?_)
      · replace hF := condT hb hF
        clear hb
        refine wp_seq_k fun K7 h7 => ?_
        refine cReg ?_
        refine stP hf rfl rfl rfl (pA rfl) fun a hf => ?_
        refine stP hf rfl rfl rfl (pA rfl) fun a hf => ?_
        refine cNil ?_
        refine h7 _ _ ?_
        refine wp_ret ?_
        refine xBlkR ?_
        refine xThenR ?_
        obtain rfl := Option.some.inj hF
        replace hc := hc.drop k0
        exact fnOut2 (by simp) rfl Try.results46 hf hc (show look _ 4 = _ from rfl) (show look _ 5 = _ from rfl) ⟨rfl, hc⟩
      · replace hF := condF hb hF
        clear hb
        refine wp_skip ?_
        refine h3 _ _ ?_
        refine wp_seq_k fun K8 h8 => ?_
        refine cReg ?_
        refine stP hf rfl rfl rfl (pA rfl) fun a hf => ?_
        refine cNil ?_
        refine h8 _ _ ?_
        refine wp_seq_k fun K9 h9 => ?_
        refine wp_seq_k fun K10 h10 => ?_
        refine cReg ?_
        refine stP hf rfl rfl rfl (pM rfl) fun a hf => ?_
        refine stP hf rfl rfl rfl (pLenS Try.underlying87 rfl) fun a hf => ?_
        refine stP hf rfl rfl rfl (pM rfl) fun a hf => ?_
        refine cNil ?_
        refine h10 _ _ ?_
        refine wp_block ?_
        obtain ⟨x11, hx11, hF⟩ := bnd_some hF
        let S11 : Int → Act → World → Prop := (fun (zz : Int) a w => Has 92 a [(1, .slice l_p l.length l_c), (6, .pointer none), (8, .int .i64 0), (28, .slice l_p l.length l_c), (29, .int .i64 ((l.length : Nat) : Int)), (30, .int .i64 zz)] ∧ Ctx G (Lf) w)
        have hr11 : ∀ (zz : Int) a w, x11 = .go zz → S11 zz a w → K9 a w := by
          rintro x a w rfl ⟨hf, hc⟩
          replace hF := exK_go hF
          refine h9 _ _ ?_
          refine wp_seq_k fun K12 h12 => ?_
          refine cReg ?_
          refine stP hf rfl rfl rfl (pM rfl) fun a hf => ?_
          refine stP hf rfl rfl rfl (pA rfl) fun a hf => ?_
          refine stP hf rfl rfl rfl (pA rfl) fun a hf => ?_
          refine cNil ?_
          refine h12 _ _ ?_
          refine wp_ret ?_
          obtain rfl := Option.some.inj hF
          exact fnOut2 (by simp) rfl Try.results46 hf hc (show look _ 4 = _ from rfl) (show look _ 5 = _ from rfl) ⟨rfl, hc⟩
        have ho11 : ∀ r, x11 = .out r → r = res := by
          rintro r rfl
          exact Option.some.inj hF
        replace hc := hc.drop k0
        refine cLoop N (loopW (S := S11) (x := x11) ?_ N 0 _ _ ⟨hf.keep ⟨rfl, rfl, rfl, rfl, rfl, rfl, trivial⟩, hc⟩ hx11)
        clear hF hf hc
        rintro x st11 a w KB11 ⟨hf, hc⟩ hF hfin11 hK11
        unfold shift_Proves_b11 at hF
        refine wp_seq_k fun K13 h13 => ?_
        refine cReg ?_
        refine stP hf rfl rfl rfl (pLt rfl rfl) fun a hf => ?_
        refine cNil ?_
        refine h13 _ _ ?_
        refine wp_seq_k fun K14 h14 => ?_
        refine cCond (b := (decide (x < ((l.length : Nat) : Int)))) hf rfl (fun hb => ?_) (fun hb => ?_)
        · replace hF := condT hb hF
          clear hb
          refine wp_skip ?_
          refine h14 _ _ ?_
          refine wp_seq_k fun K15 h15 => ?_
          have hj15 : ∀ a w, Has 92 a [(1, .slice l_p l.length l_c), (6, .pointer none), (8, .int .i64 0), (28, .slice l_p l.length l_c), (29, .int .i64 ((l.length : Nat) : Int)), (30, .int .i64 x)] → Ctx G (Lf) w → shift_Proves_j15 N x = some st11 → K15 a w := by
            repeat (clear hF)
            repeat (clear hc)
            repeat (clear hf)
            intro a w hf hc hF
            unfold shift_Proves_j15 at hF
            refine h15 _ _ ?_
            refine cReg ?_
            refine stP hf rfl rfl rfl (pAdd rfl rfl) fun a hf => ?_
            refine stP hf rfl rfl rfl (pM rfl) fun a hf => ?_
            refine cNil ?_
            exact hK11 (W (x + 1)) _ _ (Option.some.inj hF).symm ⟨hf.keep ⟨rfl, rfl, rfl, rfl, rfl, rfl, trivial⟩, hc⟩
          refine wp_block ?_
          refine wp_seq_k fun K16 h16 => ?_
          refine cReg ?_
          refine stP hf rfl rfl rfl (pM rfl) fun a hf => ?_
          obtain ⟨e_1, he_1, hF⟩ := bnd_some hF
          obtain ⟨b_2, o, qa, qp⟩ := h_l.atm he_1
          refine stP hf rfl rfl rfl (pIA Try.underlying87 sz_91 rfl rfl qa) fun a hf => ?_
          refine stE hf hc rfl rfl rfl (eLdN (vs := [.int .i64 e_1.Gauging, .bool e_1.Up]) ag_91 rfl rfl (cells_pc qp (n := 2) (o' := 0) rfl)) fun a w hf hc => ?_
          refine stAl (cs := [.int .i64 0, .bool false]) hf hc rfl rfl zr_91 rfl fun b_3 a w hf hc => ?_
          refine stP hf rfl rfl rfl (pA rfl) fun a hf => ?_
          refine stSt (vs := [.int .i64 e_1.Gauging, .bool e_1.Up]) hf hc rfl rfl rfl rfl sz_91 rfl rfl u0 fun w hc => ?_
          refine cNil ?_
          refine h16 _ _ ?_
          refine wp_seq_k fun K17 h17 => ?_
          refine wp_seq_k fun K18 h18 => ?_
          refine cReg ?_
          refine stP hf rfl rfl rfl (pM rfl) fun a hf => ?_
          refine stP hf rfl rfl rfl (pEq rfl rfl) fun a hf => ?_
          refine cNil ?_
          refine h18 _ _ ?_
          refine cCond (b := (x == 0)) hf rfl (fun hb => ?_) (fun hb => ?_)
          · replace hF := condT hb hF
            clear hb
            refine wp_exit ?_
            refine xThen ?_
            refine cHit ?_
            replace hc := hc.drop k0
            exact hj15  _ _  (hf.keep ⟨rfl, rfl, rfl, rfl, rfl, rfl, trivial⟩) hc hF
          · replace hF := condF hb hF
            clear hb
            refine wp_skip ?_
            refine h17 _ _ ?_
            refine wp_seq_k fun K19 h19 => ?_
            refine cReg ?_
            refine stP hf rfl rfl rfl (pM rfl) fun a hf => ?_
            refine stP hf rfl rfl rfl (pM rfl) fun a hf => ?_
            refine stP hf rfl rfl rfl (pSub rfl rfl) fun a hf => ?_
            obtain ⟨e_2, he_2, hF⟩ := bnd_some hF
            obtain ⟨b_4, o_1, qa_1, qp_1⟩ := h_l.atm he_2
            refine stP hf rfl rfl rfl (pIA Try.underlying87 sz_91 rfl rfl qa_1) fun a hf => ?_
            refine stE hf hc rfl rfl rfl (eLdN (vs := [.int .i64 e_2.Gauging, .bool e_2.Up]) ag_91 rfl rfl (cells_pc qp_1 (n := 2) (o' := 0) rfl)) fun a w hf hc => ?_
            refine stAl (cs := [.int .i64 0, .bool false]) hf hc rfl rfl zr_91 rfl fun b_5 a w hf hc => ?_
            refine stSt (vs := [.int .i64 e_2.Gauging, .bool e_2.Up]) hf hc rfl rfl rfl rfl sz_91 rfl rfl u0 fun w hc => ?_
            refine cNil ?_
            refine h19 _ _ ?_
            refine wp_seq_k fun K20 h20 => ?_
            refine wp_seq_k fun K21 h21 => ?_
            refine cReg ?_
            refine stP hf rfl rfl rfl (pFA fa_91_0 rfl) fun a hf => ?_
            refine stE hf hc rfl rfl rfl (eLd1 sc_3 rfl (cell_box m1 rfl)) fun a w hf hc => ?_
            refine stP hf rfl rfl rfl (pFA fa_91_0 rfl) fun a hf => ?_
            refine stE hf hc rfl rfl rfl (eLd1 sc_3 rfl (cell_box m0 rfl)) fun a w hf hc => ?_
            refine stP hf rfl rfl rfl (pLe rfl rfl) fun a hf => ?_
            refine stP hf rfl rfl rfl (pM rfl) fun a hf => ?_
            refine stCut 6 (fun a w => Has 92 a [(1, .slice l_p l.length l_c), (6, .pointer none), (8, .int .i64 0), (28, .slice l_p l.length l_c), (29, .int .i64 ((l.length : Nat) : Int)), (30, .int .i64 x), (10, .pointer (some ⟨b_3, 0, none⟩)), (11, .pointer (some ⟨b_5, 0, none⟩)), (42, .pointer (some ⟨b_3, 0, none⟩)), (43, .int .i64 e_1.Gauging), (44, .pointer (some ⟨b_5, 0, none⟩)), (45, .int .i64 e_2.Gauging), (46, .bool (decide (e_1.Gauging ≤ e_2.Gauging))), (47, .bool (decide (e_1.Gauging ≤ e_2.Gauging))), (53, .bool ((decide (e_1.Gauging ≤ e_2.Gauging)) || (e_1.Up == e_2.Up)))] ∧ Ctx G (.box b_5 [.int .i64 e_2.Gauging, .bool e_2.Up] 91 :: .box b_3 [.int .i64 e_1.Gauging, .bool e_1.Up] 91 :: Lf) w) ?_ ?_
            · cases hb : (decide (e_1.Gauging ≤ e_2.Gauging))
              · rw [hb] at hf
                refine stP hf rfl rfl rfl (pFA fa_91_1 rfl) fun a hf => ?_
                refine stE hf hc rfl rfl rfl (eLd1 sc_4 rfl (cell_box m1 rfl)) fun a w hf hc => ?_
                refine stP hf rfl rfl rfl (pFA fa_91_1 rfl) fun a hf => ?_
                refine stE hf hc rfl rfl rfl (eLd1 sc_4 rfl (cell_box m0 rfl)) fun a w hf hc => ?_
                refine stP hf rfl rfl rfl (pEqB Try.underlying4 rfl rfl) fun a hf => ?_
                refine stP hf rfl rfl rfl (pPf rfl rfl) fun a hf => ?_
                exact cNil ⟨hf.keep ⟨rfl, rfl, rfl, rfl, rfl, rfl, rfl, rfl, rfl, rfl, rfl, rfl, rfl, rfl, rfl, trivial⟩, hc⟩
              · rw [hb] at hf
                refine stS hf rfl rfl rfl fun a hf => ?_
                refine stS hf rfl rfl rfl fun a hf => ?_
                refine stS hf rfl rfl rfl fun a hf => ?_
                refine stS hf rfl rfl rfl fun a hf => ?_
                refine stS hf rfl rfl rfl fun a hf => ?_
                refine stP hf rfl rfl rfl (pPt rfl rfl) fun a hf => ?_
                exact cNil ⟨hf.keep ⟨rfl, rfl, rfl, rfl, rfl, rfl, rfl, rfl, rfl, rfl, rfl, rfl, rfl, rfl, rfl, trivial⟩, hc⟩
            intro a w ⟨hf, hc⟩
            refine cNil ?_
            refine h21 _ _ ?_
            refine cCond (b := ((decide (e_1.Gauging ≤ e_2.Gauging)) || (e_1.Up == e_2.Up))) hf rfl (fun hb => ?_) (fun hb => ?_)
            · replace hF := condT hb hF
              clear hb
              refine wp_seq_k fun K22 h22 => ?_
              refine cReg ?_
              refine stP hf rfl rfl rfl (pA rfl) fun a hf => ?_
              refine stP hf rfl rfl rfl (pA rfl) fun a hf => ?_
              refine cNil ?_
              refine h22 _ _ ?_
              refine wp_ret ?_
              refine xThenR ?_
              refine xBlkR ?_
              refine xThenR ?_
              refine xThenR ?_
              have he := Option.some.inj hF
              rw [← he] at hfin11
              replace hF := ho11 _ hfin11
              refine xBlkR ?_
              refine xThenR ?_
              obtain rfl := hF
              replace hc := hc.drop k1
              replace hc := hc.drop k0
              exact fnOut2 (by simp) rfl Try.results46 hf hc (show look _ 4 = _ from rfl) (show look _ 5 = _ from rfl) ⟨rfl, hc⟩
            · replace hF := condF hb hF
              clear hb
              refine wp_skip ?_
              refine h20 _ _ ?_
              refine wp_seq_k fun K23 h23 => ?_
              exact noneO hF
        · replace hF := condF hb hF
          clear hb
          refine wp_exit ?_
          refine xThen ?_
          refine xThen ?_
          have he := Option.some.inj hF
          rw [← he] at hfin11
          refine cHit ?_
          exact hr11 _ _ _ hfin11 ⟨hf.keep ⟨rfl, rfl, rfl, rfl, rfl, rfl, trivial⟩, hc⟩
  | inr r_2 =>
    replace hF := sumKr hF
    have hr_2 := hr_0
    refine stC (vs := [.agg #[.slice r_Rating_p r.Rating.length r_Rating_c, .slice r_Gaugings_p r.Gaugings.length r_Gaugings_c]]) (caps := []) hf rfl rfl rfl en_73 rfl rfl rfl rfl (shift_opened_ok r h_r_Rating h_r_Gaugings hc hr_2) ?_
    rintro _ w ⟨b_6, p_1, c_1, rfl, hc⟩
    refine ⟨_, rfl, fun a hf => ?_⟩
    refine stP hf rfl rfl rfl (pM rfl) fun a hf => ?_
    refine stP hf rfl rfl rfl (pX rfl rfl) fun a hf => ?_
    refine stP hf rfl rfl rfl (pX rfl rfl) fun a hf => ?_
    refine stP hf rfl rfl rfl (pA rfl) fun a hf => ?_
    refine stP hf rfl rfl rfl (pA rfl) fun a hf => ?_
    refine cNil ?_
    refine h2 _ _ ?_
    refine wp_seq_k fun K24 h24 => ?_
    refine wp_block ?_
    refine wp_seq_k fun K25 h25 => ?_
    refine cReg ?_
    refine stP hf rfl rfl rfl (pM rfl) fun a hf => ?_
    refine stP hf rfl rfl rfl (pNe rfl rfl) fun a hf => ?_
    refine stP hf rfl rfl rfl (pA rfl) fun a hf => ?_
    refine cNil ?_
    refine h25 _ _ ?_
    refine cCond (b := (r_2.2 != 0)) hf rfl (fun hb => ?_) (fun hb => ?_)
    · replace hF := condT hb hF
      clear hb
      refine wp_seq_k fun K26 h26 => ?_
      refine cReg ?_
      refine stP hf rfl rfl rfl (pM rfl) fun a hf => ?_
      refine stP hf rfl rfl rfl (pA rfl) fun a hf => ?_
      refine stP hf rfl rfl rfl (pA rfl) fun a hf => ?_
      refine cNil ?_
      refine h26 _ _ ?_
      refine wp_ret ?_
      refine xBlkR ?_
      refine xThenR ?_
      obtain rfl := Option.some.inj hF
      replace hc := hc.drop k2
      replace hc := hc.drop k1
      replace hc := hc.drop k0
      exact fnOut2 (by simp) rfl Try.results46 hf hc (show look _ 4 = _ from rfl) (show look _ 5 = _ from rfl) ⟨rfl, hc⟩
    · replace hF := condF hb hF
      clear hb
      refine wp_seq_k fun K27 h27 => ?_
      refine cReg ?_
      refine stP hf rfl rfl rfl (pM rfl) fun a hf => ?_
      refine stP hf rfl rfl rfl (pMF (us := [.pointer (some ⟨b_1, 0, none⟩)]) rfl rfl) fun a hf => ?_
      obtain ⟨r_3, hr_3, hF⟩ := bnd_some hF
      refine stE hf hc rfl rfl rfl (eC (v := .bool r_3) (vs := [.slice l_p l.length l_c, .func (.func 90) #[] #[.pointer (some ⟨b_1, 0, none⟩)]]) (caps := []) en_89 rfl rfl rfl rfl (fun w hc => (shift_every_shift_Turn_ok l r h_l h_r_Rating h_r_Gaugings (hc.pick k2) hr_3).mono fun e w h => ⟨h.1, (h.2.unpick k2)⟩)) fun a w hf hc => ?_
      refine stP hf rfl rfl rfl (pNot rfl) fun a hf => ?_
      refine stP hf rfl rfl rfl (pA rfl) fun a hf => ?_
      refine cNil ?_
      refine h27 _ _ ?_
      refine cCond (b := (!r_3)) hf rfl (fun hb => ?_) (fun hb => ?_)
      · replace hF := condT hb hF
        clear hb
        refine wp_seq_k fun K28 h28 => ?_
        refine cReg ?_
        refine stP hf rfl rfl rfl (pA rfl) fun a hf => ?_
        refine stP hf rfl rfl rfl (pA rfl) fun a hf => ?_
        refine cNil ?_
        refine h28 _ _ ?_
        refine wp_ret ?_
        refine xBlkR ?_
        refine xThenR ?_
        obtain rfl := Option.some.inj hF
        replace hc := hc.drop k2
        replace hc := hc.drop k1
        replace hc := hc.drop k0
        exact fnOut2 (by simp) rfl Try.results46 hf hc (show look _ 4 = _ from rfl) (show look _ 5 = _ from rfl) ⟨rfl, hc⟩
      · replace hF := condF hb hF
        clear hb
        refine wp_skip ?_
        refine h24 _ _ ?_
        refine wp_seq_k fun K29 h29 => ?_
        refine cReg ?_
        refine stP hf rfl rfl rfl (pA rfl) fun a hf => ?_
        refine cNil ?_
        refine h29 _ _ ?_
        refine wp_seq_k fun K30 h30 => ?_
        refine wp_seq_k fun K31 h31 => ?_
        refine cReg ?_
        refine stP hf rfl rfl rfl (pM rfl) fun a hf => ?_
        refine stP hf rfl rfl rfl (pLenS Try.underlying87 rfl) fun a hf => ?_
        refine stP hf rfl rfl rfl (pM rfl) fun a hf => ?_
        refine cNil ?_
        refine h31 _ _ ?_
        refine wp_block ?_
        obtain ⟨x32, hx32, hF⟩ := bnd_some hF
        let S32 : (Int × Int) → Act → World → Prop := (fun (zz : Int × Int) a w => ∃ (p_2 : Option Addr) (c_2 : Nat), Has 92 a [(1, .slice l_p l.length l_c), (6, .pointer (some ⟨b_6, 0, none⟩)), (8, .int .i64 zz.1), (28, .slice l_p l.length l_c), (29, .int .i64 ((l.length : Nat) : Int)), (30, .int .i64 zz.2)] ∧ Ctx G (.row p_2 c_2 (r_2.1.map enc_api_Span) 50 2 :: .box b_6 [.slice r_Rating_p r.Rating.length r_Rating_c, .slice r_Gaugings_p r.Gaugings.length r_Gaugings_c, .slice p_2 r_2.1.length c_2] 140 :: Lf) w)
        have hr32 : ∀ (zz : Int × Int) a w, x32 = .go zz → S32 zz a w → K30 a w := by
          rintro ⟨sum, x_1⟩ a w rfl ⟨p_2, c_2, hf, hc⟩
          replace hF := exK_go hF
          refine h30 _ _ ?_
          refine wp_seq_k fun K33 h33 => ?_
          refine cReg ?_
          refine stP hf rfl rfl rfl (pM rfl) fun a hf => ?_
          refine stP hf rfl rfl rfl (pA rfl) fun a hf => ?_
          refine stP hf rfl rfl rfl (pA rfl) fun a hf => ?_
          refine cNil ?_
          refine h33 _ _ ?_
          refine wp_ret ?_
          obtain rfl := Option.some.inj hF
          replace hc := hc.drop k1
          replace hc := hc.drop k0
          exact fnOut2 (by simp) rfl Try.results46 hf hc (show look _ 4 = _ from rfl) (show look _ 5 = _ from rfl) ⟨rfl, hc⟩
        have ho32 : ∀ r, x32 = .out r → r = res := by
          rintro r rfl
          exact Option.some.inj hF
        replace hc := hc.drop k2
        refine cLoop N (loopW (S := S32) (x := x32) ?_ N (0, 0) _ _ ⟨p_1, c_1, hf.keep ⟨rfl, rfl, rfl, rfl, rfl, rfl, trivial⟩, hc⟩ hx32)
        clear hF hf hc
        rintro ⟨sum, x_1⟩ st32 a w KB32 ⟨p_2, c_2, hf, hc⟩ hF hfin32 hK32
        unfold shift_Proves_b32 at hF
        refine wp_seq_k fun K34 h34 => ?_
        refine cReg ?_
        refine stP hf rfl rfl rfl (pLt rfl rfl) fun a hf => ?_
        refine cNil ?_
        refine h34 _ _ ?_
        refine wp_seq_k fun K35 h35 => ?_
        refine cCond (b := (decide (x_1 < ((l.length : Nat) : Int)))) hf rfl (fun hb => ?_) (fun hb => ?_)
        · replace hF := condT hb hF
          clear hb
          refine wp_skip ?_
          refine h35 _ _ ?_
          refine wp_seq_k fun K36 h36 => ?_
          have hj36 : ∀ (sum_1 : Int) (p_3 : Option Addr) (c_3 : Nat) a w, Has 92 a [(1, .slice l_p l.length l_c), (6, .pointer (some ⟨b_6, 0, none⟩)), (8, .int .i64 sum_1), (28, .slice l_p l.length l_c), (29, .int .i64 ((l.length : Nat) : Int)), (30, .int .i64 x_1)] → Ctx G (.row p_3 c_3 (r_2.1.map enc_api_Span) 50 2 :: .box b_6 [.slice r_Rating_p r.Rating.length r_Rating_c, .slice r_Gaugings_p r.Gaugings.length r_Gaugings_c, .slice p_3 r_2.1.length c_3] 140 :: Lf) w → shift_Proves_j36 N x_1 sum_1 = some st32 → K36 a w := by
            repeat (clear hF)
            repeat (clear hc)
            repeat (clear hf)
            intro sum_1 p_3 c_3 a w hf hc hF
            unfold shift_Proves_j36 at hF
            refine h36 _ _ ?_
            refine cReg ?_
            refine stP hf rfl rfl rfl (pAdd rfl rfl) fun a hf => ?_
            refine stP hf rfl rfl rfl (pM rfl) fun a hf => ?_
            refine cNil ?_
            exact hK32 (sum_1, W (x_1 + 1)) _ _ (Option.some.inj hF).symm ⟨p_3, c_3, hf.keep ⟨rfl, rfl, rfl, rfl, rfl, rfl, trivial⟩, hc⟩
          refine wp_block ?_
          refine wp_seq_k fun K37 h37 => ?_
          refine cReg ?_
          refine stP hf rfl rfl rfl (pM rfl) fun a hf => ?_
          obtain ⟨e_3, he_3, hF⟩ := bnd_some hF
          obtain ⟨b_7, o_2, qa_2, qp_2⟩ := h_l.atm he_3
          refine stP hf rfl rfl rfl (pIA Try.underlying87 sz_91 rfl rfl qa_2) fun a hf => ?_
          refine stE hf hc rfl rfl rfl (eLdN (vs := [.int .i64 e_3.Gauging, .bool e_3.Up]) ag_91 rfl rfl (cells_pc qp_2 (n := 2) (o' := 0) rfl)) fun a w hf hc => ?_
          refine stAl (cs := [.int .i64 0, .bool false]) hf hc rfl rfl zr_91 rfl fun b_8 a w hf hc => ?_
          refine stP hf rfl rfl rfl (pA rfl) fun a hf => ?_
          refine stSt (vs := [.int .i64 e_3.Gauging, .bool e_3.Up]) hf hc rfl rfl rfl rfl sz_91 rfl rfl u0 fun w hc => ?_
          refine cNil ?_
          refine h37 _ _ ?_
          refine wp_seq_k fun K38 h38 => ?_
          refine wp_seq_k fun K39 h39 => ?_
          refine cReg ?_
          refine stP hf rfl rfl rfl (pM rfl) fun a hf => ?_
          refine stP hf rfl rfl rfl (pEq rfl rfl) fun a hf => ?_
          refine cNil ?_
          refine h39 _ _ ?_
          refine cCond (b := (x_1 == 0)) hf rfl (fun hb => ?_) (fun hb => ?_)
          · replace hF := condT hb hF
            clear hb
            refine wp_exit ?_
            refine xThen ?_
            refine cHit ?_
            replace hc := hc.drop k0
            exact hj36 sum p_2 c_2 _ _  (hf.keep ⟨rfl, rfl, rfl, rfl, rfl, rfl, trivial⟩) hc hF
          · replace hF := condF hb hF
            clear hb
            refine wp_skip ?_
            refine h38 _ _ ?_
            refine wp_seq_k fun K40 h40 => ?_
            refine cReg ?_
            refine stP hf rfl rfl rfl (pM rfl) fun a hf => ?_
            refine stP hf rfl rfl rfl (pM rfl) fun a hf => ?_
            refine stP hf rfl rfl rfl (pSub rfl rfl) fun a hf => ?_
            obtain ⟨e_4, he_4, hF⟩ := bnd_some hF
            obtain ⟨b_9, o_3, qa_3, qp_3⟩ := h_l.atm he_4
            refine stP hf rfl rfl rfl (pIA Try.underlying87 sz_91 rfl rfl qa_3) fun a hf => ?_
            refine stE hf hc rfl rfl rfl (eLdN (vs := [.int .i64 e_4.Gauging, .bool e_4.Up]) ag_91 rfl rfl (cells_pc qp_3 (n := 2) (o' := 0) rfl)) fun a w hf hc => ?_
            refine stAl (cs := [.int .i64 0, .bool false]) hf hc rfl rfl zr_91 rfl fun b_10 a w hf hc => ?_
            refine stSt (vs := [.int .i64 e_4.Gauging, .bool e_4.Up]) hf hc rfl rfl rfl rfl sz_91 rfl rfl u0 fun w hc => ?_
            refine cNil ?_
            refine h40 _ _ ?_
            refine wp_seq_k fun K41 h41 => ?_
            refine wp_seq_k fun K42 h42 => ?_
            refine cReg ?_
            refine stP hf rfl rfl rfl (pFA fa_91_0 rfl) fun a hf => ?_
            refine stE hf hc rfl rfl rfl (eLd1 sc_3 rfl (cell_box m1 rfl)) fun a w hf hc => ?_
            refine stP hf rfl rfl rfl (pFA fa_91_0 rfl) fun a hf => ?_
            refine stE hf hc rfl rfl rfl (eLd1 sc_3 rfl (cell_box m0 rfl)) fun a w hf hc => ?_
            refine stP hf rfl rfl rfl (pLe rfl rfl) fun a hf => ?_
            refine stP hf rfl rfl rfl (pM rfl) fun a hf => ?_
            refine stCut 6 (fun a w => Has 92 a [(1, .slice l_p l.length l_c), (6, .pointer (some ⟨b_6, 0, none⟩)), (8, .int .i64 sum), (28, .slice l_p l.length l_c), (29, .int .i64 ((l.length : Nat) : Int)), (30, .int .i64 x_1), (10, .pointer (some ⟨b_8, 0, none⟩)), (11, .pointer (some ⟨b_10, 0, none⟩)), (42, .pointer (some ⟨b_8, 0, none⟩)), (43, .int .i64 e_3.Gauging), (44, .pointer (some ⟨b_10, 0, none⟩)), (45, .int .i64 e_4.Gauging), (46, .bool (decide (e_3.Gauging ≤ e_4.Gauging))), (47, .bool (decide (e_3.Gauging ≤ e_4.Gauging))), (53, .bool ((decide (e_3.Gauging ≤ e_4.Gauging)) || (e_3.Up == e_4.Up)))] ∧ Ctx G (.box b_10 [.int .i64 e_4.Gauging, .bool e_4.Up] 91 :: .box b_8 [.int .i64 e_3.Gauging, .bool e_3.Up] 91 :: .row p_2 c_2 (r_2.1.map enc_api_Span) 50 2 :: .box b_6 [.slice r_Rating_p r.Rating.length r_Rating_c, .slice r_Gaugings_p r.Gaugings.length r_Gaugings_c, .slice p_2 r_2.1.length c_2] 140 :: Lf) w) ?_ ?_
            · cases hb : (decide (e_3.Gauging ≤ e_4.Gauging))
              · rw [hb] at hf
                refine stP hf rfl rfl rfl (pFA fa_91_1 rfl) fun a hf => ?_
                refine stE hf hc rfl rfl rfl (eLd1 sc_4 rfl (cell_box m1 rfl)) fun a w hf hc => ?_
                refine stP hf rfl rfl rfl (pFA fa_91_1 rfl) fun a hf => ?_
                refine stE hf hc rfl rfl rfl (eLd1 sc_4 rfl (cell_box m0 rfl)) fun a w hf hc => ?_
                refine stP hf rfl rfl rfl (pEqB Try.underlying4 rfl rfl) fun a hf => ?_
                refine stP hf rfl rfl rfl (pPf rfl rfl) fun a hf => ?_
                exact cNil ⟨hf.keep ⟨rfl, rfl, rfl, rfl, rfl, rfl, rfl, rfl, rfl, rfl, rfl, rfl, rfl, rfl, rfl, trivial⟩, hc⟩
              · rw [hb] at hf
                refine stS hf rfl rfl rfl fun a hf => ?_
                refine stS hf rfl rfl rfl fun a hf => ?_
                refine stS hf rfl rfl rfl fun a hf => ?_
                refine stS hf rfl rfl rfl fun a hf => ?_
                refine stS hf rfl rfl rfl fun a hf => ?_
                refine stP hf rfl rfl rfl (pPt rfl rfl) fun a hf => ?_
                exact cNil ⟨hf.keep ⟨rfl, rfl, rfl, rfl, rfl, rfl, rfl, rfl, rfl, rfl, rfl, rfl, rfl, rfl, rfl, trivial⟩, hc⟩
            intro a w ⟨hf, hc⟩
            refine cNil ?_
            refine h42 _ _ ?_
            refine cCond (b := ((decide (e_3.Gauging ≤ e_4.Gauging)) || (e_3.Up == e_4.Up))) hf rfl (fun hb => ?_) (fun hb => ?_)
            · replace hF := condT hb hF
              clear hb
              refine wp_seq_k fun K43 h43 => ?_
              refine cReg ?_
              refine stP hf rfl rfl rfl (pA rfl) fun a hf => ?_
              refine stP hf rfl rfl rfl (pA rfl) fun a hf => ?_
              refine cNil ?_
              refine h43 _ _ ?_
              refine wp_ret ?_
              refine xThenR ?_
              refine xBlkR ?_
              refine xThenR ?_
              refine xThenR ?_
              have he := Option.some.inj hF
              rw [← he] at hfin32
              replace hF := ho32 _ hfin32
              refine xBlkR ?_
              refine xThenR ?_
              obtain rfl := hF
              replace hc := hc.drop k3
              replace hc := hc.drop k2
              replace hc := hc.drop k1
              replace hc := hc.drop k0
              exact fnOut2 (by simp) rfl Try.results46 hf hc (show look _ 4 = _ from rfl) (show look _ 5 = _ from rfl) ⟨rfl, hc⟩
            · replace hF := condF hb hF
              clear hb
              refine wp_skip ?_
              refine h41 _ _ ?_
              refine wp_seq_k fun K44 h44 => ?_
              obtain ⟨e_5, he_5, hF⟩ := bnd_some hF
              obtain ⟨g, rfl, qa_4, qr⟩ := row_atm hc m2 he_5
              obtain ⟨e_6, he_6, hF⟩ := bnd_some hF
              obtain ⟨qa_5, qr_1⟩ := row_atk hc m2 he_6
              refine cQ hc follows_mx (by kernel_rfl) ?_
              refine qE hf rfl rfl rfl (eLdN (vs := [.int .i64 e_4.Gauging, .bool e_4.Up]) ag_91 rfl rfl (cells_box (n := 2) m0 rfl)) fun a hf => ?_
              refine qE hf rfl rfl rfl (eC (v := .agg #[(bif (shift_Turn_ends e_4) then .func (.func 119) #[] #[] else .func (.func 120) #[] #[])]) (vs := [.agg #[.int .i64 e_4.Gauging, .bool e_4.Up]]) (caps := []) en_91 rfl rfl rfl rfl (fun w hc => shift_Turn_ends_ok e_4 hc rfl)) fun a hf => ?_
              refine qE hf rfl rfl rfl (Pu.ev (pField1 Try.underlying168 rfl sc_166 rfl rfl)) fun a hf => ?_
              refine qE hf rfl rfl rfl (Pu.ev (pM rfl)) fun a hf => ?_
              refine qE hf rfl rfl rfl (Pu.ev (pNC rfl)) fun a hf => ?_
              refine qE hf rfl rfl rfl (Pu.ev (pFA fa_140_1 rfl)) fun a hf => ?_
              refine qE hf rfl rfl rfl (eLd1 sc_44 rfl (cell_box m3 rfl)) fun a hf => ?_
              refine qE hf rfl rfl rfl (Pu.ev (pFA fa_91_0 rfl)) fun a hf => ?_
              refine qE hf rfl rfl rfl (eLd1 sc_3 rfl (cell_box m0 rfl)) fun a hf => ?_
              refine qE hf rfl rfl rfl (Pu.ev (pIA Try.underlying44 sz_50 rfl rfl qa_4)) fun a hf => ?_
              refine qE hf rfl rfl rfl (eLdN (vs := [.int .i64 e_5.Lo, .int .i64 e_5.Hi]) ag_50 rfl rfl (cells_rw (sz := 2) (i := e_4.Gauging.toNat) m2 qr (n := 2) (o' := 0) rfl)) fun a hf => ?_
              refine qE hf rfl rfl rfl (eCsel (c := (shift_Turn_ends e_4)) (v := .int .i64 (bif (shift_Turn_ends e_4) then (shift_Turn_ends_1 e_5) else (shift_Turn_ends_2 e_5))) (v1 := .int .i64 (shift_Turn_ends_1 e_5)) (v2 := .int .i64 (shift_Turn_ends_2 e_5)) (vs := [.agg #[.int .i64 e_5.Lo, .int .i64 e_5.Hi]]) en_119 en_120 rfl rfl rfl rfl (fun hb => congrArg (Value.int .i64) (bifT hb)) (fun hb => congrArg (Value.int .i64) (bifF hb)) (fun w hc => shift_Turn_ends_1_ok e_5 hc rfl) (fun w hc => shift_Turn_ends_2_ok e_5 hc rfl)) fun a hf => ?_
              refine qE hf rfl rfl rfl (eLdN (vs := [.int .i64 e_3.Gauging, .bool e_3.Up]) ag_91 rfl rfl (cells_box (n := 2) m1 rfl)) fun a hf => ?_
              refine qE hf rfl rfl rfl (eC (v := .agg #[(bif (shift_Turn_ends e_3) then .func (.func 119) #[] #[] else .func (.func 120) #[] #[])]) (vs := [.agg #[.int .i64 e_3.Gauging, .bool e_3.Up]]) (caps := []) en_91 rfl rfl rfl rfl (fun w hc => shift_Turn_ends_ok e_3 hc rfl)) fun a hf => ?_
              refine qE hf rfl rfl rfl (Pu.ev (pField1 Try.underlying168 rfl sc_166 rfl rfl)) fun a hf => ?_
              refine qE hf rfl rfl rfl (Pu.ev (pM rfl)) fun a hf => ?_
              refine qE hf rfl rfl rfl (Pu.ev (pNC rfl)) fun a hf => ?_
              refine qE hf rfl rfl rfl (Pu.ev (pFA fa_140_1 rfl)) fun a hf => ?_
              refine qE hf rfl rfl rfl (eLd1 sc_44 rfl (cell_box m3 rfl)) fun a hf => ?_
              refine qE hf rfl rfl rfl (Pu.ev (pFA fa_91_0 rfl)) fun a hf => ?_
              refine qE hf rfl rfl rfl (eLd1 sc_3 rfl (cell_box m1 rfl)) fun a hf => ?_
              refine qE hf rfl rfl rfl (Pu.ev (pIA Try.underlying44 sz_50 rfl rfl qa_5)) fun a hf => ?_
              refine qE hf rfl rfl rfl (eLdN (vs := [.int .i64 e_6.Lo, .int .i64 e_6.Hi]) ag_50 rfl rfl (cells_rw (sz := 2) (i := e_3.Gauging.toNat) m2 qr_1 (n := 2) (o' := 0) rfl)) fun a hf => ?_
              refine qE hf rfl rfl rfl (eCsel (c := (shift_Turn_ends e_3)) (v := .int .i64 (bif (shift_Turn_ends e_3) then (shift_Turn_ends_1 e_6) else (shift_Turn_ends_2 e_6))) (v1 := .int .i64 (shift_Turn_ends_1 e_6)) (v2 := .int .i64 (shift_Turn_ends_2 e_6)) (vs := [.agg #[.int .i64 e_6.Lo, .int .i64 e_6.Hi]]) en_119 en_120 rfl rfl rfl rfl (fun hb => congrArg (Value.int .i64) (bifT hb)) (fun hb => congrArg (Value.int .i64) (bifF hb)) (fun w hc => shift_Turn_ends_1_ok e_6 hc rfl) (fun w hc => shift_Turn_ends_2_ok e_6 hc rfl)) fun a hf => ?_
              refine qE hf rfl rfl rfl (Pu.ev (pA rfl)) fun a hf => ?_
              refine qE hf rfl rfl rfl (Pu.ev (pA rfl)) fun a hf => ?_
              intro w hc
              refine h44 _ _ ?_
              refine wp_seq_k fun K45 h45 => ?_
              refine cReg ?_
              refine stP hf rfl rfl rfl (pFA fa_91_1 rfl) fun a hf => ?_
              refine stE hf hc rfl rfl rfl (eLd1 sc_4 rfl (cell_box m1 rfl)) fun a w hf hc => ?_
              refine cNil ?_
              refine h45 _ _ ?_
              refine cCond (b := e_3.Up) hf rfl (fun hb => ?_) (fun hb => ?_)
              · replace hF := condT hb hF
                clear hb
                refine cReg ?_
                refine stP hf rfl rfl rfl (pM rfl) fun a hf => ?_
                refine stP hf rfl rfl rfl (pM rfl) fun a hf => ?_
                refine stP hf rfl rfl rfl (pM rfl) fun a hf => ?_
                refine stP hf rfl rfl rfl (pSub rfl rfl) fun a hf => ?_
                refine stP hf rfl rfl rfl (pAdd rfl rfl) fun a hf => ?_
                refine stP hf rfl rfl rfl (pA rfl) fun a hf => ?_
                refine cNil ?_
                replace hc := hc.drop k1
                replace hc := hc.drop k0
                exact hj36 (W (sum + (W ((bif (shift_Turn_ends e_4) then (shift_Turn_ends_1 e_5) else (shift_Turn_ends_2 e_5)) - (bif (shift_Turn_ends e_3) then (shift_Turn_ends_1 e_6) else (shift_Turn_ends_2 e_6)))))) (some ⟨g, 0, none⟩) c_2 _ _  (hf.keep ⟨rfl, rfl, rfl, rfl, rfl, rfl, trivial⟩) hc hF
              · replace hF := condF hb hF
                clear hb
                refine cReg ?_
                refine stP hf rfl rfl rfl (pM rfl) fun a hf => ?_
                refine stP hf rfl rfl rfl (pM rfl) fun a hf => ?_
                refine stP hf rfl rfl rfl (pM rfl) fun a hf => ?_
                refine stP hf rfl rfl rfl (pSub rfl rfl) fun a hf => ?_
                refine stP hf rfl rfl rfl (pAdd rfl rfl) fun a hf => ?_
                refine stP hf rfl rfl rfl (pA rfl) fun a hf => ?_
                refine cNil ?_
                replace hc := hc.drop k1
                replace hc := hc.drop k0
                exact hj36 (W (sum + (W ((bif (shift_Turn_ends e_3) then (shift_Turn_ends_1 e_6) else (shift_Turn_ends_2 e_6)) - (bif (shift_Turn_ends e_4) then (shift_Turn_ends_1 e_5) else (shift_Turn_ends_2 e_5)))))) (some ⟨g, 0, none⟩) c_2 _ _  (hf.keep ⟨rfl, rfl, rfl, rfl, rfl, rfl, trivial⟩) hc hF
        · replace hF := condF hb hF
          clear hb
          refine wp_exit ?_
          refine xThen ?_
          refine xThen ?_
          have he := Option.some.inj hF
          rw [← he] at hfin32
          refine cHit ?_
          exact hr32 _ _ _ hfin32 ⟨p_2, c_2, hf.keep ⟨rfl, rfl, rfl, rfl, rfl, rfl, trivial⟩, hc⟩

def kit_Same_api_Span_b7 (N : Nat) (a_ : List api_Span) (b_ : List api_Span) (i_1 : Int) : Option (Step (Int) (Bool)) :=
  cond (decide (i_1 < ((a_.length : Nat) : Int)))
  (Option.bind (getI a_ i_1) fun e_1 =>
  Option.bind (getI b_ i_1) fun e_2 =>
  cond (!(e_1.Lo == e_2.Lo && e_1.Hi == e_2.Hi))
  (some (.ret false))
  (some (.cont (W (i_1 + 1)))))
  (some (.brk i_1))
def kit_Same_api_Span (N : Nat) (a_ : List api_Span) (b_ : List api_Span) : Option (Bool) :=
  cond (((a_.length : Nat) : Int) != ((b_.length : Nat) : Int))
  (some false)
  (Option.bind (loopO (fun s7 => kit_Same_api_Span_b7 N a_ b_ s7) N 0) fun x7 =>
  exK x7 (fun s7 => some true) some)
theorem kit_Same_api_Span_ok {N : Nat} {G : Pers} {Lf : List Ent} {w : World} (a_ : List api_Span) (b_ : List api_Span) {a__p : Option Addr} {a__c : Nat} {b__p : Option Addr} {b__c : Nat} (h_a_ : Rd G 2 a__p a__c (a_.map enc_api_Span)) (h_b_ : Rd G 2 b__p b__c (b_.map enc_api_Span)) (hc : Ctx G (Lf) w) {res : Bool} (hF : kit_Same_api_Span N a_ b_ = some res) : Calls Try.prog 24 #[.slice a__p a_.length a__c, .slice b__p b_.length b__c] w (fun e w => e = .returned (.bool res) ∧ Ctx G (Lf) w) := by
  unfold kit_Same_api_Span at hF
  refine fnIn (args := [.slice a__p a_.length a__c, .slice b__p b_.length b__c]) Try.func24 rfl Try.ntmps24 rfl fun a hf => ?_
  refine wp_seq_k fun K1 h1 => ?_
  refine cReg ?_
  refine stP hf rfl rfl rfl (pA rfl) fun a hf => ?_
  refine cNil ?_
  refine h1 _ _ ?_
  refine wp_seq_k fun K2 h2 => ?_
  refine wp_seq_k fun K3 h3 => ?_
  refine cReg ?_
  refine stP hf rfl rfl rfl (pM rfl) fun a hf => ?_
  refine stP hf rfl rfl rfl (pLenS Try.underlying44 rfl) fun a hf => ?_
  refine stP hf rfl rfl rfl (pM rfl) fun a hf => ?_
  refine stP hf rfl rfl rfl (pLenS Try.underlying44 rfl) fun a hf => ?_
  refine stP hf rfl rfl rfl (pNe rfl rfl) fun a hf => ?_
  refine cNil ?_
  refine h3 _ _ ?_
  refine cCond (b := (((a_.length : Nat) : Int) != ((b_.length : Nat) : Int))) hf rfl (fun hb => ?_) (fun hb => ?_)
  · replace hF := condT hb hF
    clear hb
    refine wp_seq_k fun K4 h4 => ?_
    refine cReg ?_
    refine stP hf rfl rfl rfl (pA rfl) fun a hf => ?_
    refine cNil ?_
    refine h4 _ _ ?_
    refine wp_ret ?_
    refine xThenR ?_
    obtain rfl := Option.some.inj hF
    exact fnOut1 (by simp) rfl Try.results24 hf hc (show look _ 4 = _ from rfl) ⟨rfl, hc⟩
  · replace hF := condF hb hF
    clear hb
    refine wp_skip ?_
    refine h2 _ _ ?_
    refine wp_seq_k fun K5 h5 => ?_
    refine wp_seq_k fun K6 h6 => ?_
    refine cReg ?_
    refine stP hf rfl rfl rfl (pA rfl) fun a hf => ?_
    refine cNil ?_
    refine h6 _ _ ?_
    refine wp_block ?_
    obtain ⟨x7, hx7, hF⟩ := bnd_some hF
    let S7 : Int → Act → World → Prop := (fun (zz : Int) a w => Has 26 a [(0, .slice a__p a_.length a__c), (1, .slice b__p b_.length b__c), (5, .int .i64 zz)] ∧ Ctx G (Lf) w)
    have hr7 : ∀ (zz : Int) a w, x7 = .go zz → S7 zz a w → K5 a w := by
      rintro i_1 a w rfl ⟨hf, hc⟩
      replace hF := exK_go hF
      refine h5 _ _ ?_
      refine wp_seq_k fun K8 h8 => ?_
      refine cReg ?_
      refine stP hf rfl rfl rfl (pA rfl) fun a hf => ?_
      refine cNil ?_
      refine h8 _ _ ?_
      refine wp_ret ?_
      obtain rfl := Option.some.inj hF
      exact fnOut1 (by simp) rfl Try.results24 hf hc (show look _ 4 = _ from rfl) ⟨rfl, hc⟩
    have ho7 : ∀ r, x7 = .out r → r = res := by
      rintro r rfl
      exact Option.some.inj hF
    refine cLoop N (loopW (S := S7) (x := x7) ?_ N 0 _ _ ⟨hf.keep ⟨rfl, rfl, rfl, trivial⟩, hc⟩ hx7)
    clear hF hf hc
    rintro i_1 st7 a w KB7 ⟨hf, hc⟩ hF hfin7 hK7
    unfold kit_Same_api_Span_b7 at hF
    refine wp_seq_k fun K9 h9 => ?_
    refine wp_seq_k fun K10 h10 => ?_
    refine cReg ?_
    refine stP hf rfl rfl rfl (pM rfl) fun a hf => ?_
    refine stP hf rfl rfl rfl (pM rfl) fun a hf => ?_
    refine stP hf rfl rfl rfl (pLenS Try.underlying44 rfl) fun a hf => ?_
    refine stP hf rfl rfl rfl (pLt rfl rfl) fun a hf => ?_
    refine cNil ?_
    refine h10 _ _ ?_
    refine cCond (b := (decide (i_1 < ((a_.length : Nat) : Int)))) hf rfl (fun hb => ?_) (fun hb => ?_)
    · replace hF := condT hb hF
      clear hb
      refine wp_skip ?_
      refine h9 _ _ ?_
      refine wp_seq_k fun K11 h11 => ?_
      refine wp_block ?_
      refine wp_seq_k fun K12 h12 => ?_
      obtain ⟨e_1, he_1, hF⟩ := bnd_some hF
      obtain ⟨b_1, o, qa, qp⟩ := h_a_.atm he_1
      obtain ⟨e_2, he_2, hF⟩ := bnd_some hF
      obtain ⟨b_2, o_1, qa_1, qp_1⟩ := h_b_.atm he_2
      refine cQ hc follows_mx (by kernel_rfl) ?_
      refine qE hf rfl rfl rfl (Pu.ev (pM rfl)) fun a hf => ?_
      refine qE hf rfl rfl rfl (Pu.ev (pM rfl)) fun a hf => ?_
      refine qE hf rfl rfl rfl (Pu.ev (pIA Try.underlying44 sz_50 rfl rfl qa)) fun a hf => ?_
      refine qE hf rfl rfl rfl (eLdN (vs := [.int .i64 e_1.Lo, .int .i64 e_1.Hi]) ag_50 rfl rfl (cells_pc qp (n := 2) (o' := 0) rfl)) fun a hf => ?_
      refine qE hf rfl rfl rfl (Pu.ev (pM rfl)) fun a hf => ?_
      refine qE hf rfl rfl rfl (Pu.ev (pM rfl)) fun a hf => ?_
      refine qE hf rfl rfl rfl (Pu.ev (pIA Try.underlying44 sz_50 rfl rfl qa_1)) fun a hf => ?_
      refine qE hf rfl rfl rfl (eLdN (vs := [.int .i64 e_2.Lo, .int .i64 e_2.Hi]) ag_50 rfl rfl (cells_pc qp_1 (n := 2) (o' := 0) rfl)) fun a hf => ?_
      refine qE hf rfl rfl rfl (Pu.ev (pNeA ge_50 rfl rfl (eqs_50 _ _ _ _))) fun a hf => ?_
      intro w hc
      refine h12 _ _ ?_
      refine cCond (b := (!(e_1.Lo == e_2.Lo && e_1.Hi == e_2.Hi))) hf rfl (fun hb => ?_) (fun hb => ?_)
      · replace hF := condT hb hF
        clear hb
        refine wp_seq_k fun K13 h13 => ?_
        refine cReg ?_
        refine stP hf rfl rfl rfl (pA rfl) fun a hf => ?_
        refine cNil ?_
        refine h13 _ _ ?_
        refine wp_ret ?_
        refine xBlkR ?_
        refine xThenR ?_
        refine xThenR ?_
        have he := Option.some.inj hF
        rw [← he] at hfin7
        replace hF := ho7 _ hfin7
        refine xBlkR ?_
        refine xThenR ?_
        obtain rfl := hF
        exact fnOut1 (by simp) rfl Try.results24 hf hc (show look _ 4 = _ from rfl) ⟨rfl, hc⟩
      · replace hF := condF hb hF
        clear hb
        refine wp_skip ?_
        refine h11 _ _ ?_
        refine cReg ?_
        refine stP hf rfl rfl rfl (pM rfl) fun a hf => ?_
        refine stP hf rfl rfl rfl (pAdd rfl rfl) fun a hf => ?_
        refine stP hf rfl rfl rfl (pA rfl) fun a hf => ?_
        refine cNil ?_
        exact hK7 (W (i_1 + 1)) _ _ (Option.some.inj hF).symm ⟨hf.keep ⟨rfl, rfl, rfl, trivial⟩, hc⟩
    · replace hF := condF hb hF
      clear hb
      refine wp_exit ?_
      refine xThen ?_
      refine xThen ?_
      have he := Option.some.inj hF
      rw [← he] at hfin7
      refine cHit ?_
      exact hr7 _ _ _ hfin7 ⟨hf.keep ⟨rfl, rfl, rfl, trivial⟩, hc⟩

def kit_Same_int_b7 (N : Nat) (a_ : List Int) (b_ : List Int) (i_1 : Int) : Option (Step (Int) (Bool)) :=
  cond (decide (i_1 < ((a_.length : Nat) : Int)))
  (Option.bind (getI a_ i_1) fun e_1 =>
  Option.bind (getI b_ i_1) fun e_2 =>
  cond (e_1 != e_2)
  (some (.ret false))
  (some (.cont (W (i_1 + 1)))))
  (some (.brk i_1))
def kit_Same_int (N : Nat) (a_ : List Int) (b_ : List Int) : Option (Bool) :=
  cond (((a_.length : Nat) : Int) != ((b_.length : Nat) : Int))
  (some false)
  (Option.bind (loopO (fun s7 => kit_Same_int_b7 N a_ b_ s7) N 0) fun x7 =>
  exK x7 (fun s7 => some true) some)
theorem kit_Same_int_ok {N : Nat} {G : Pers} {Lf : List Ent} {w : World} (a_ : List Int) (b_ : List Int) {a__p : Option Addr} {a__c : Nat} {b__p : Option Addr} {b__c : Nat} (h_a_ : Rd G 1 a__p a__c (a_.map encI_i64)) (h_b_ : Rd G 1 b__p b__c (b_.map encI_i64)) (hc : Ctx G (Lf) w) {res : Bool} (hF : kit_Same_int N a_ b_ = some res) : Calls Try.prog 56 #[.slice a__p a_.length a__c, .slice b__p b_.length b__c] w (fun e w => e = .returned (.bool res) ∧ Ctx G (Lf) w) := by
  unfold kit_Same_int at hF
  refine fnIn (args := [.slice a__p a_.length a__c, .slice b__p b_.length b__c]) Try.func56 rfl Try.ntmps56 rfl fun a hf => ?_
  refine wp_seq_k fun K1 h1 => ?_
  refine cReg ?_
  refine stP hf rfl rfl rfl (pA rfl) fun a hf => ?_
  refine cNil ?_
  refine h1 _ _ ?_
  refine wp_seq_k fun K2 h2 => ?_
  refine wp_seq_k fun K3 h3 => ?_
  refine cReg ?_
  refine stP hf rfl rfl rfl (pM rfl) fun a hf => ?_
  refine stP hf rfl rfl rfl (pLenS Try.underlying61 rfl) fun a hf => ?_
  refine stP hf rfl rfl rfl (pM rfl) fun a hf => ?_
  refine stP hf rfl rfl rfl (pLenS Try.underlying61 rfl) fun a hf => ?_
  refine stP hf rfl rfl rfl (pNe rfl rfl) fun a hf => ?_
  refine cNil ?_
  refine h3 _ _ ?_
  refine cCond (b := (((a_.length : Nat) : Int) != ((b_.length : Nat) : Int))) hf rfl (fun hb => ?_) (fun hb => ?_)
  · replace hF := condT hb hF
    clear hb
    refine wp_seq_k fun K4 h4 => ?_
    refine cReg ?_
    refine stP hf rfl rfl rfl (pA rfl) fun a hf => ?_
    refine cNil ?_
    refine h4 _ _ ?_
    refine wp_ret ?_
    refine xThenR ?_
    obtain rfl := Option.some.inj hF
    exact fnOut1 (by simp) rfl Try.results56 hf hc (show look _ 4 = _ from rfl) ⟨rfl, hc⟩
  · replace hF := condF hb hF
    clear hb
    refine wp_skip ?_
    refine h2 _ _ ?_
    refine wp_seq_k fun K5 h5 => ?_
    refine wp_seq_k fun K6 h6 => ?_
    refine cReg ?_
    refine stP hf rfl rfl rfl (pA rfl) fun a hf => ?_
    refine cNil ?_
    refine h6 _ _ ?_
    refine wp_block ?_
    obtain ⟨x7, hx7, hF⟩ := bnd_some hF
    let S7 : Int → Act → World → Prop := (fun (zz : Int) a w => Has 26 a [(0, .slice a__p a_.length a__c), (1, .slice b__p b_.length b__c), (5, .int .i64 zz)] ∧ Ctx G (Lf) w)
    have hr7 : ∀ (zz : Int) a w, x7 = .go zz → S7 zz a w → K5 a w := by
      rintro i_1 a w rfl ⟨hf, hc⟩
      replace hF := exK_go hF
      refine h5 _ _ ?_
      refine wp_seq_k fun K8 h8 => ?_
      refine cReg ?_
      refine stP hf rfl rfl rfl (pA rfl) fun a hf => ?_
      refine cNil ?_
      refine h8 _ _ ?_
      refine wp_ret ?_
      obtain rfl := Option.some.inj hF
      exact fnOut1 (by simp) rfl Try.results56 hf hc (show look _ 4 = _ from rfl) ⟨rfl, hc⟩
    have ho7 : ∀ r, x7 = .out r → r = res := by
      rintro r rfl
      exact Option.some.inj hF
    refine cLoop N (loopW (S := S7) (x := x7) ?_ N 0 _ _ ⟨hf.keep ⟨rfl, rfl, rfl, trivial⟩, hc⟩ hx7)
    clear hF hf hc
    rintro i_1 st7 a w KB7 ⟨hf, hc⟩ hF hfin7 hK7
    unfold kit_Same_int_b7 at hF
    refine wp_seq_k fun K9 h9 => ?_
    refine wp_seq_k fun K10 h10 => ?_
    refine cReg ?_
    refine stP hf rfl rfl rfl (pM rfl) fun a hf => ?_
    refine stP hf rfl rfl rfl (pM rfl) fun a hf => ?_
    refine stP hf rfl rfl rfl (pLenS Try.underlying61 rfl) fun a hf => ?_
    refine stP hf rfl rfl rfl (pLt rfl rfl) fun a hf => ?_
    refine cNil ?_
    refine h10 _ _ ?_
    refine cCond (b := (decide (i_1 < ((a_.length : Nat) : Int)))) hf rfl (fun hb => ?_) (fun hb => ?_)
    · replace hF := condT hb hF
      clear hb
      refine wp_skip ?_
      refine h9 _ _ ?_
      refine wp_seq_k fun K11 h11 => ?_
      refine wp_block ?_
      refine wp_seq_k fun K12 h12 => ?_
      obtain ⟨e_1, he_1, hF⟩ := bnd_some hF
      obtain ⟨b_1, o, qa, qp⟩ := h_a_.atm he_1
      obtain ⟨e_2, he_2, hF⟩ := bnd_some hF
      obtain ⟨b_2, o_1, qa_1, qp_1⟩ := h_b_.atm he_2
      refine cQ hc follows_mx (by kernel_rfl) ?_
      refine qE hf rfl rfl rfl (Pu.ev (pM rfl)) fun a hf => ?_
      refine qE hf rfl rfl rfl (Pu.ev (pM rfl)) fun a hf => ?_
      refine qE hf rfl rfl rfl (Pu.ev (pIA Try.underlying61 sz_3 rfl rfl qa)) fun a hf => ?_
      refine qE hf rfl rfl rfl (eLd1 sc_3 rfl (cell_pc (j := 0) qp rfl)) fun a hf => ?_
      refine qE hf rfl rfl rfl (Pu.ev (pM rfl)) fun a hf => ?_
      refine qE hf rfl rfl rfl (Pu.ev (pM rfl)) fun a hf => ?_
      refine qE hf rfl rfl rfl (Pu.ev (pIA Try.underlying61 sz_3 rfl rfl qa_1)) fun a hf => ?_
      refine qE hf rfl rfl rfl (eLd1 sc_3 rfl (cell_pc (j := 0) qp_1 rfl)) fun a hf => ?_
      refine qE hf rfl rfl rfl (Pu.ev (pNe rfl rfl)) fun a hf => ?_
      intro w hc
      refine h12 _ _ ?_
      refine cCond (b := (e_1 != e_2)) hf rfl (fun hb => ?_) (fun hb => ?_)
      · replace hF := condT hb hF
        clear hb
        refine wp_seq_k fun K13 h13 => ?_
        refine cReg ?_
        refine stP hf rfl rfl rfl (pA rfl) fun a hf => ?_
        refine cNil ?_
        refine h13 _ _ ?_
        refine wp_ret ?_
        refine xBlkR ?_
        refine xThenR ?_
        refine xThenR ?_
        have he := Option.some.inj hF
        rw [← he] at hfin7
        replace hF := ho7 _ hfin7
        refine xBlkR ?_
        refine xThenR ?_
        obtain rfl := hF
        exact fnOut1 (by simp) rfl Try.results56 hf hc (show look _ 4 = _ from rfl) ⟨rfl, hc⟩
      · replace hF := condF hb hF
        clear hb
        refine wp_skip ?_
        refine h11 _ _ ?_
        refine cReg ?_
        refine stP hf rfl rfl rfl (pM rfl) fun a hf => ?_
        refine stP hf rfl rfl rfl (pAdd rfl rfl) fun a hf => ?_
        refine stP hf rfl rfl rfl (pA rfl) fun a hf => ?_
        refine cNil ?_
        exact hK7 (W (i_1 + 1)) _ _ (Option.some.inj hF).symm ⟨hf.keep ⟨rfl, rfl, rfl, trivial⟩, hc⟩
    · replace hF := condF hb hF
      clear hb
      refine wp_exit ?_
      refine xThen ?_
      refine xThen ?_
      have he := Option.some.inj hF
      rw [← he] at hfin7
      refine cHit ?_
      exact hr7 _ _ _ hfin7 ⟨hf.keep ⟨rfl, rfl, rfl, trivial⟩, hc⟩

def law05_awake (N : Nat)  : Option (Bool) :=
  Option.bind (law05_Three N) fun r =>
  Option.bind (shift_Means N r.Rating 13 8) fun r_1 =>
  Option.bind (shift_Means N r.Rating 25 6) fun r_2 =>
  Option.bind (shift_Rising N r.Rating 10 0 4 25) fun r_3 =>
  Option.bind (shift_Rising N r.Rating 10 0 (-50) 25) fun r_4 =>
  cond ((((((((r_1.2 != 0) || (r_2.2 != 0)) || (r_3.2 != 0)) || (r_4.2 != 0)) || (!(r_1.1.N == 50 && r_1.1.D == 1))) || (!(r_2.1.N == 370 && r_2.1.D == 1))) || (!(r_3.1.N == 110 && r_3.1.D == 1))) || (!(r_4.1.N == 0 && r_4.1.D == 1)))
  (some false)
  (Option.bind (shift_Passes N r) fun r_5 =>
  Option.bind (shift_Least N r) fun r_6 =>
  Option.bind (shift_Proves N r ([(⟨0, false⟩ : shift_Turn), (⟨1, true⟩ : shift_Turn), (⟨2, false⟩ : shift_Turn)] : List shift_Turn)) fun r_7 =>
  Option.bind (shift_Can N r 6) fun r_8 =>
  Option.bind (shift_Between N r 6 3 13) fun r_9 =>
  Option.bind (cond (((((r_5.2 == 0) && (r_6.2.2 == 0)) && (r_7.2 == 0)) && (r_8.2 == 0)) && (r_9.2 == 0)) (kit_Same_api_Span N r_5.1 ([(⟨2, 4⟩ : api_Span), (⟨0, 0⟩ : api_Span), (⟨3, 8⟩ : api_Span)] : List api_Span)) (some false)) fun r_10 =>
  Option.bind (cond ((((((r_5.2 == 0) && (r_6.2.2 == 0)) && (r_7.2 == 0)) && (r_8.2 == 0)) && (r_9.2 == 0)) && r_10) (kit_Same_int N r_6.1 ([2, 0, 3] : List Int)) (some false)) fun r_11 =>
  Option.bind (cond (((((((((r_5.2 == 0) && (r_6.2.2 == 0)) && (r_7.2 == 0)) && (r_8.2 == 0)) && (r_9.2 == 0)) && r_10) && r_11) && (r_6.2.1 == 5)) && (r_7.1 == 5)) (kit_Same_api_Span N r_8.1 ([(⟨2, 3⟩ : api_Span), (⟨0, 0⟩ : api_Span), (⟨3, 4⟩ : api_Span)] : List api_Span)) (some false)) fun r_12 =>
  Option.bind (cond ((((((((((r_5.2 == 0) && (r_6.2.2 == 0)) && (r_7.2 == 0)) && (r_8.2 == 0)) && (r_9.2 == 0)) && r_10) && r_11) && (r_6.2.1 == 5)) && (r_7.1 == 5)) && r_12) (law05_span N 100 190) (some (⟨0, 0⟩ : api_Span))) fun r_13 =>
  some (((((((((((r_5.2 == 0) && (r_6.2.2 == 0)) && (r_7.2 == 0)) && (r_8.2 == 0)) && (r_9.2 == 0)) && r_10) && r_11) && (r_6.2.1 == 5)) && (r_7.1 == 5)) && r_12) && (r_9.1.Lo == r_13.Lo && r_9.1.Hi == r_13.Hi)))
theorem law05_awake_ok {N : Nat} {G : Pers} {Lf : List Ent} {w : World}    (hc : Ctx G (Lf) w) {res : Bool} (hF : law05_awake N = some res) : Calls Try.prog 12 #[] w (fun e w => e = .returned (.bool res) ∧ Ctx G (Lf) w) := by
  unfold law05_awake at hF
  refine fnIn (args := []) Try.func12 rfl Try.ntmps12 rfl fun a hf => ?_
  refine wp_seq_k fun K1 h1 => ?_
  refine cReg ?_
  refine stP hf rfl rfl rfl (pA rfl) fun a hf => ?_
  refine cNil ?_
  refine h1 _ _ ?_
  refine wp_seq_k fun K2 h2 => ?_
  refine cReg ?_
  obtain ⟨r, hr, hF⟩ := bnd_some hF
  refine stC (vs := []) (caps := []) hf rfl rfl rfl en_55 rfl rfl rfl rfl (law05_Three_ok hc hr) ?_
  rintro _ w ⟨p_1, c_1, p_2, c_2, rfl, hc⟩
  refine ⟨_, rfl, fun a hf => ?_⟩
  refine stAl (cs := [.slice none 0 0, .slice none 0 0]) hf hc rfl rfl zr_25 rfl fun b_1 a w hf hc => ?_
  refine stSt (vs := [.slice p_1 r.Rating.length c_1, .slice p_2 r.Gaugings.length c_2]) hf hc rfl rfl rfl rfl sz_25 rfl rfl u0 fun w hc => ?_
  refine cNil ?_
  refine h2 _ _ ?_
  refine wp_seq_k fun K3 h3 => ?_
  refine cReg ?_
  refine stP hf rfl rfl rfl (pFA fa_25_0 rfl) fun a hf => ?_
  refine stE hf hc rfl rfl rfl (eLd1 sc_22 rfl (cell_box m0 rfl)) fun a w hf hc => ?_
  obtain ⟨r_1, hr_1, hF⟩ := bnd_some hF
  refine stE hf hc rfl rfl rfl (eC (v := .tuple #[.agg #[.int .i64 r_1.1.N, .int .i64 r_1.1.D], .int .i64 r_1.2]) (vs := [.slice p_1 r.Rating.length c_1, .int .i64 13, .int .i64 8]) (caps := []) en_17 rfl rfl rfl rfl (fun w hc => by obtain ⟨G1, hle1, hrd1, hc, hth1⟩ := lend hc k1; exact (shift_Means_ok r.Rating 13 8 hrd1 hc hr_1).mono fun e w h => ⟨h.1, ((hth1 _ _ h.2).unpick k1)⟩)) fun a w hf hc => ?_
  refine stP hf rfl rfl rfl (pM rfl) fun a hf => ?_
  refine stP hf rfl rfl rfl (pX rfl rfl) fun a hf => ?_
  refine stP hf rfl rfl rfl (pX rfl rfl) fun a hf => ?_
  refine stAl (cs := [.int .i64 0, .int .i64 0]) hf hc rfl rfl zr_37 rfl fun b_2 a w hf hc => ?_
  refine stSt (vs := [.int .i64 r_1.1.N, .int .i64 r_1.1.D]) hf hc rfl rfl rfl rfl sz_37 rfl rfl u0 fun w hc => ?_
  refine stP hf rfl rfl rfl (pA rfl) fun a hf => ?_
  refine cNil ?_
  refine h3 _ _ ?_
  refine wp_seq_k fun K4 h4 => ?_
  refine cReg ?_
  refine stP hf rfl rfl rfl (pFA fa_25_0 rfl) fun a hf => ?_
  refine stE hf hc rfl rfl rfl (eLd1 sc_22 rfl (cell_box m1 rfl)) fun a w hf hc => ?_
  obtain ⟨r_2, hr_2, hF⟩ := bnd_some hF
  refine stE hf hc rfl rfl rfl (eC (v := .tuple #[.agg #[.int .i64 r_2.1.N, .int .i64 r_2.1.D], .int .i64 r_2.2]) (vs := [.slice p_1 r.Rating.length c_1, .int .i64 25, .int .i64 6]) (caps := []) en_17 rfl rfl rfl rfl (fun w hc => by obtain ⟨G1, hle1, hrd1, hc, hth1⟩ := lend hc k2; exact (shift_Means_ok r.Rating 25 6 hrd1 hc hr_2).mono fun e w h => ⟨h.1, ((hth1 _ _ h.2).unpick k2)⟩)) fun a w hf hc => ?_
  refine stP hf rfl rfl rfl (pM rfl) fun a hf => ?_
  refine stP hf rfl rfl rfl (pX rfl rfl) fun a hf => ?_
  refine stP hf rfl rfl rfl (pX rfl rfl) fun a hf => ?_
  refine stAl (cs := [.int .i64 0, .int .i64 0]) hf hc rfl rfl zr_37 rfl fun b_3 a w hf hc => ?_
  refine stSt (vs := [.int .i64 r_2.1.N, .int .i64 r_2.1.D]) hf hc rfl rfl rfl rfl sz_37 rfl rfl u0 fun w hc => ?_
  refine stP hf rfl rfl rfl (pA rfl) fun a hf => ?_
  refine cNil ?_
  refine h4 _ _ ?_
  refine wp_seq_k fun K5 h5 => ?_
  refine cReg ?_
  refine stP hf rfl rfl rfl (pFA fa_25_0 rfl) fun a hf => ?_
  refine stE hf hc rfl rfl rfl (eLd1 sc_22 rfl (cell_box m2 rfl)) fun a w hf hc => ?_
  obtain ⟨r_3, hr_3, hF⟩ := bnd_some hF
  refine stE hf hc rfl rfl rfl (eC (v := .tuple #[.agg #[.int .i64 r_3.1.N, .int .i64 r_3.1.D], .int .i64 r_3.2]) (vs := [.slice p_1 r.Rating.length c_1, .int .i64 10, .int .i64 0, .int .i64 4, .int .i64 25]) (caps := []) en_20 rfl rfl rfl rfl (fun w hc => by obtain ⟨G1, hle1, hrd1, hc, hth1⟩ := lend hc k3; exact (shift_Rising_ok r.Rating 10 0 4 25 hrd1 hc hr_3).mono fun e w h => ⟨h.1, ((hth1 _ _ h.2).unpick k3)⟩)) fun a w hf hc => ?_
  refine stP hf rfl rfl rfl (pM rfl) fun a hf => ?_
  refine stP hf rfl rfl rfl (pX rfl rfl) fun a hf => ?_
  refine stP hf rfl rfl rfl (pX rfl rfl) fun a hf => ?_
  refine stAl (cs := [.int .i64 0, .int .i64 0]) hf hc rfl rfl zr_37 rfl fun b_4 a w hf hc => ?_
  refine stSt (vs := [.int .i64 r_3.1.N, .int .i64 r_3.1.D]) hf hc rfl rfl rfl rfl sz_37 rfl rfl u0 fun w hc => ?_
  refine stP hf rfl rfl rfl (pA rfl) fun a hf => ?_
  refine cNil ?_
  refine h5 _ _ ?_
  refine wp_seq_k fun K6 h6 => ?_
  refine cReg ?_
  refine stP hf rfl rfl rfl (pFA fa_25_0 rfl) fun a hf => ?_
  refine stE hf hc rfl rfl rfl (eLd1 sc_22 rfl (cell_box m3 rfl)) fun a w hf hc => ?_
  obtain ⟨r_4, hr_4, hF⟩ := bnd_some hF
  refine stE hf hc rfl rfl rfl (eC (v := .tuple #[.agg #[.int .i64 r_4.1.N, .int .i64 r_4.1.D], .int .i64 r_4.2]) (vs := [.slice p_1 r.Rating.length c_1, .int .i64 10, .int .i64 0, .int .i64 (-50), .int .i64 25]) (caps := []) en_20 rfl rfl rfl rfl (fun w hc => by obtain ⟨G1, hle1, hrd1, hc, hth1⟩ := lend hc k4; exact (shift_Rising_ok r.Rating 10 0 (-50) 25 hrd1 hc hr_4).mono fun e w h => ⟨h.1, ((hth1 _ _ h.2).unpick k4)⟩)) fun a w hf hc => ?_
  refine stP hf rfl rfl rfl (pM rfl) fun a hf => ?_
  refine stP hf rfl rfl rfl (pX rfl rfl) fun a hf => ?_
  refine stP hf rfl rfl rfl (pX rfl rfl) fun a hf => ?_
  refine stAl (cs := [.int .i64 0, .int .i64 0]) hf hc rfl rfl zr_37 rfl fun b_5 a w hf hc => ?_
  refine stSt (vs := [.int .i64 r_4.1.N, .int .i64 r_4.1.D]) hf hc rfl rfl rfl rfl sz_37 rfl rfl u0 fun w hc => ?_
  refine stP hf rfl rfl rfl (pA rfl) fun a hf => ?_
  refine cNil ?_
  refine h6 _ _ ?_
  refine wp_seq_k fun K7 h7 => ?_
  refine wp_seq_k fun K8 h8 => ?_
  refine cReg ?_
  refine stP hf rfl rfl rfl (pM rfl) fun a hf => ?_
  refine stP hf rfl rfl rfl (pNe rfl rfl) fun a hf => ?_
  refine stP hf rfl rfl rfl (pM rfl) fun a hf => ?_
  refine stCut 3 (fun a w => Has 158 a [(1, .pointer (some ⟨b_1, 0, none⟩)), (2, .pointer (some ⟨b_2, 0, none⟩)), (3, .int .i64 r_1.2), (4, .pointer (some ⟨b_3, 0, none⟩)), (5, .int .i64 r_2.2), (6, .pointer (some ⟨b_4, 0, none⟩)), (7, .int .i64 r_3.2), (8, .pointer (some ⟨b_5, 0, none⟩)), (9, .int .i64 r_4.2), (42, .int .i64 r_1.2), (43, .bool (r_1.2 != 0)), (44, .bool (r_1.2 != 0)), (47, .bool ((r_1.2 != 0) || (r_2.2 != 0)))] ∧ Ctx G (.box b_5 [.int .i64 r_4.1.N, .int .i64 r_4.1.D] 37 :: .box b_4 [.int .i64 r_3.1.N, .int .i64 r_3.1.D] 37 :: .box b_3 [.int .i64 r_2.1.N, .int .i64 r_2.1.D] 37 :: .box b_2 [.int .i64 r_1.1.N, .int .i64 r_1.1.D] 37 :: .box b_1 [.slice p_1 r.Rating.length c_1, .slice p_2 r.Gaugings.length c_2] 25 :: .row p_1 c_1 (r.Rating.map enc_shift_Mark) 77 2 :: .row p_2 c_2 (r.Gaugings.map enc_shift_Gauging) 71 4 :: Lf) w) ?_ ?_
  · cases hb : (r_1.2 != 0)
    · rw [hb] at hf
      refine stP hf rfl rfl rfl (pM rfl) fun a hf => ?_
      refine stP hf rfl rfl rfl (pNe rfl rfl) fun a hf => ?_
      refine stP hf rfl rfl rfl (pPf rfl rfl) fun a hf => ?_
      exact cNil ⟨hf.keep ⟨rfl, rfl, rfl, rfl, rfl, rfl, rfl, rfl, rfl, rfl, rfl, rfl, rfl, trivial⟩, hc⟩
    · rw [hb] at hf
      refine stS hf rfl rfl rfl fun a hf => ?_
      refine stS hf rfl rfl rfl fun a hf => ?_
      refine stP hf rfl rfl rfl (pPt rfl rfl) fun a hf => ?_
      exact cNil ⟨hf.keep ⟨rfl, rfl, rfl, rfl, rfl, rfl, rfl, rfl, rfl, rfl, rfl, rfl, rfl, trivial⟩, hc⟩
  intro a w ⟨hf, hc⟩
  refine stP hf rfl rfl rfl (pM rfl) fun a hf => ?_
  refine stCut 3 (fun a w => Has 158 a [(1, .pointer (some ⟨b_1, 0, none⟩)), (2, .pointer (some ⟨b_2, 0, none⟩)), (3, .int .i64 r_1.2), (4, .pointer (some ⟨b_3, 0, none⟩)), (5, .int .i64 r_2.2), (6, .pointer (some ⟨b_4, 0, none⟩)), (7, .int .i64 r_3.2), (8, .pointer (some ⟨b_5, 0, none⟩)), (9, .int .i64 r_4.2), (42, .int .i64 r_1.2), (43, .bool (r_1.2 != 0)), (44, .bool (r_1.2 != 0)), (47, .bool ((r_1.2 != 0) || (r_2.2 != 0))), (48, .bool ((r_1.2 != 0) || (r_2.2 != 0))), (51, .bool (((r_1.2 != 0) || (r_2.2 != 0)) || (r_3.2 != 0)))] ∧ Ctx G (.box b_5 [.int .i64 r_4.1.N, .int .i64 r_4.1.D] 37 :: .box b_4 [.int .i64 r_3.1.N, .int .i64 r_3.1.D] 37 :: .box b_3 [.int .i64 r_2.1.N, .int .i64 r_2.1.D] 37 :: .box b_2 [.int .i64 r_1.1.N, .int .i64 r_1.1.D] 37 :: .box b_1 [.slice p_1 r.Rating.length c_1, .slice p_2 r.Gaugings.length c_2] 25 :: .row p_1 c_1 (r.Rating.map enc_shift_Mark) 77 2 :: .row p_2 c_2 (r.Gaugings.map enc_shift_Gauging) 71 4 :: Lf) w) ?_ ?_
  · cases hb : ((r_1.2 != 0) || (r_2.2 != 0))
    · rw [hb] at hf
      refine stP hf rfl rfl rfl (pM rfl) fun a hf => ?_
      refine stP hf rfl rfl rfl (pNe rfl rfl) fun a hf => ?_
      refine stP hf rfl rfl rfl (pPf rfl rfl) fun a hf => ?_
      exact cNil ⟨hf.keep ⟨rfl, rfl, rfl, rfl, rfl, rfl, rfl, rfl, rfl, rfl, rfl, rfl, rfl, rfl, rfl, trivial⟩, hc⟩
    · rw [hb] at hf
      refine stS hf rfl rfl rfl fun a hf => ?_
      refine stS hf rfl rfl rfl fun a hf => ?_
      refine stP hf rfl rfl rfl (pPt rfl rfl) fun a hf => ?_
      exact cNil ⟨hf.keep ⟨rfl, rfl, rfl, rfl, rfl, rfl, rfl, rfl, rfl, rfl, rfl, rfl, rfl, rfl, rfl, trivial⟩, hc⟩
  intro a w ⟨hf, hc⟩
  refine stP hf rfl rfl rfl (pM rfl) fun a hf => ?_
  refine stCut 3 (fun a w => Has 158 a [(1, .pointer (some ⟨b_1, 0, none⟩)), (2, .pointer (some ⟨b_2, 0, none⟩)), (3, .int .i64 r_1.2), (4, .pointer (some ⟨b_3, 0, none⟩)), (5, .int .i64 r_2.2), (6, .pointer (some ⟨b_4, 0, none⟩)), (7, .int .i64 r_3.2), (8, .pointer (some ⟨b_5, 0, none⟩)), (9, .int .i64 r_4.2), (42, .int .i64 r_1.2), (43, .bool (r_1.2 != 0)), (44, .bool (r_1.2 != 0)), (47, .bool ((r_1.2 != 0) || (r_2.2 != 0))), (48, .bool ((r_1.2 != 0) || (r_2.2 != 0))), (51, .bool (((r_1.2 != 0) || (r_2.2 != 0)) || (r_3.2 != 0))), (52, .bool (((r_1.2 != 0) || (r_2.2 != 0)) || (r_3.2 != 0))), (55, .bool ((((r_1.2 != 0) || (r_2.2 != 0)) || (r_3.2 != 0)) || (r_4.2 != 0)))] ∧ Ctx G (.box b_5 [.int .i64 r_4.1.N, .int .i64 r_4.1.D] 37 :: .box b_4 [.int .i64 r_3.1.N, .int .i64 r_3.1.D] 37 :: .box b_3 [.int .i64 r_2.1.N, .int .i64 r_2.1.D] 37 :: .box b_2 [.int .i64 r_1.1.N, .int .i64 r_1.1.D] 37 :: .box b_1 [.slice p_1 r.Rating.length c_1, .slice p_2 r.Gaugings.length c_2] 25 :: .row p_1 c_1 (r.Rating.map enc_shift_Mark) 77 2 :: .row p_2 c_2 (r.Gaugings.map enc_shift_Gauging) 71 4 :: Lf) w) ?_ ?_
  · cases hb : (((r_1.2 != 0) || (r_2.2 != 0)) || (r_3.2 != 0))
    · rw [hb] at hf
      refine stP hf rfl rfl rfl (pM rfl) fun a hf => ?_
      refine stP hf rfl rfl rfl (pNe rfl rfl) fun a hf => ?_
      refine stP hf rfl rfl rfl (pPf rfl rfl) fun a hf => ?_
      exact cNil ⟨hf.keep ⟨rfl, rfl, rfl, rfl, rfl, rfl, rfl, rfl, rfl, rfl, rfl, rfl, rfl, rfl, rfl, rfl, rfl, trivial⟩, hc⟩
    · rw [hb] at hf
      refine stS hf rfl rfl rfl fun a hf => ?_
      refine stS hf rfl rfl rfl fun a hf => ?_
      refine stP hf rfl rfl rfl (pPt rfl rfl) fun a hf => ?_
      exact cNil ⟨hf.keep ⟨rfl, rfl, rfl, rfl, rfl, rfl, rfl, rfl, rfl, rfl, rfl, rfl, rfl, rfl, rfl, rfl, rfl, trivial⟩, hc⟩
  intro a w ⟨hf, hc⟩
  refine stP hf rfl rfl rfl (pM rfl) fun a hf => ?_
  refine stCut 4 (fun a w => Has 158 a [(1, .pointer (some ⟨b_1, 0, none⟩)), (2, .pointer (some ⟨b_2, 0, none⟩)), (3, .int .i64 r_1.2), (4, .pointer (some ⟨b_3, 0, none⟩)), (5, .int .i64 r_2.2), (6, .pointer (some ⟨b_4, 0, none⟩)), (7, .int .i64 r_3.2), (8, .pointer (some ⟨b_5, 0, none⟩)), (9, .int .i64 r_4.2), (42, .int .i64 r_1.2), (43, .bool (r_1.2 != 0)), (44, .bool (r_1.2 != 0)), (47, .bool ((r_1.2 != 0) || (r_2.2 != 0))), (48, .bool ((r_1.2 != 0) || (r_2.2 != 0))), (51, .bool (((r_1.2 != 0) || (r_2.2 != 0)) || (r_3.2 != 0))), (52, .bool (((r_1.2 != 0) || (r_2.2 != 0)) || (r_3.2 != 0))), (55, .bool ((((r_1.2 != 0) || (r_2.2 != 0)) || (r_3.2 != 0)) || (r_4.2 != 0))), (56, .bool ((((r_1.2 != 0) || (r_2.2 != 0)) || (r_3.2 != 0)) || (r_4.2 != 0))), (60, .bool (((((r_1.2 != 0) || (r_2.2 != 0)) || (r_3.2 != 0)) || (r_4.2 != 0)) || (!(r_1.1.N == 50 && r_1.1.D == 1))))] ∧ Ctx G (.box b_5 [.int .i64 r_4.1.N, .int .i64 r_4.1.D] 37 :: .box b_4 [.int .i64 r_3.1.N, .int .i64 r_3.1.D] 37 :: .box b_3 [.int .i64 r_2.1.N, .int .i64 r_2.1.D] 37 :: .box b_2 [.int .i64 r_1.1.N, .int .i64 r_1.1.D] 37 :: .box b_1 [.slice p_1 r.Rating.length c_1, .slice p_2 r.Gaugings.length c_2] 25 :: .row p_1 c_1 (r.Rating.map enc_shift_Mark) 77 2 :: .row p_2 c_2 (r.Gaugings.map enc_shift_Gauging) 71 4 :: Lf) w) ?_ ?_
  · cases hb : ((((r_1.2 != 0) || (r_2.2 != 0)) || (r_3.2 != 0)) || (r_4.2 != 0))
    · rw [hb] at hf
      refine stE hf hc rfl rfl rfl (eLdN (vs := [.int .i64 r_1.1.N, .int .i64 r_1.1.D]) ag_37 rfl rfl (cells_box (n := 2) m3 rfl)) fun a w hf hc => ?_
      refine stP hf rfl rfl rfl (pBuildS (cells := [.int .i64 50, .int .i64 1]) bt_37 rfl rfl) fun a hf => ?_
      refine stP hf rfl rfl rfl (pNeA ge_37 rfl rfl (eqs_37 _ _ _ _)) fun a hf => ?_
      refine stP hf rfl rfl rfl (pPf rfl rfl) fun a hf => ?_
      exact cNil ⟨hf.keep ⟨rfl, rfl, rfl, rfl, rfl, rfl, rfl, rfl, rfl, rfl, rfl, rfl, rfl, rfl, rfl, rfl, rfl, rfl, rfl, trivial⟩, hc⟩
    · rw [hb] at hf
      refine stS hf rfl rfl rfl fun a hf => ?_
      refine stS hf rfl rfl rfl fun a hf => ?_
      refine stS hf rfl rfl rfl fun a hf => ?_
      refine stP hf rfl rfl rfl (pPt rfl rfl) fun a hf => ?_
      exact cNil ⟨hf.keep ⟨rfl, rfl, rfl, rfl, rfl, rfl, rfl, rfl, rfl, rfl, rfl, rfl, rfl, rfl, rfl, rfl, rfl, rfl, rfl, trivial⟩, hc⟩
  intro a w ⟨hf, hc⟩
  refine stP hf rfl rfl rfl (pM rfl) fun a hf => ?_
  refine stCut 4 (fun a w => Has 158 a [(1, .pointer (some ⟨b_1, 0, none⟩)), (2, .pointer (some ⟨b_2, 0, none⟩)), (3, .int .i64 r_1.2), (4, .pointer (some ⟨b_3, 0, none⟩)), (5, .int .i64 r_2.2), (6, .pointer (some ⟨b_4, 0, none⟩)), (7, .int .i64 r_3.2), (8, .pointer (some ⟨b_5, 0, none⟩)), (9, .int .i64 r_4.2), (42, .int .i64 r_1.2), (43, .bool (r_1.2 != 0)), (44, .bool (r_1.2 != 0)), (47, .bool ((r_1.2 != 0) || (r_2.2 != 0))), (48, .bool ((r_1.2 != 0) || (r_2.2 != 0))), (51, .bool (((r_1.2 != 0) || (r_2.2 != 0)) || (r_3.2 != 0))), (52, .bool (((r_1.2 != 0) || (r_2.2 != 0)) || (r_3.2 != 0))), (55, .bool ((((r_1.2 != 0) || (r_2.2 != 0)) || (r_3.2 != 0)) || (r_4.2 != 0))), (56, .bool ((((r_1.2 != 0) || (r_2.2 != 0)) || (r_3.2 != 0)) || (r_4.2 != 0))), (60, .bool (((((r_1.2 != 0) || (r_2.2 != 0)) || (r_3.2 != 0)) || (r_4.2 != 0)) || (!(r_1.1.N == 50 && r_1.1.D == 1)))), (61, .bool (((((r_1.2 != 0) || (r_2.2 != 0)) || (r_3.2 != 0)) || (r_4.2 != 0)) || (!(r_1.1.N == 50 && r_1.1.D == 1)))), (65, .bool ((((((r_1.2 != 0) || (r_2.2 != 0)) || (r_3.2 != 0)) || (r_4.2 != 0)) || (!(r_1.1.N == 50 && r_1.1.D == 1))) || (!(r_2.1.N == 370 && r_2.1.D == 1))))] ∧ Ctx G (.box b_5 [.int .i64 r_4.1.N, .int .i64 r_4.1.D] 37 :: .box b_4 [.int .i64 r_3.1.N, .int .i64 r_3.1.D] 37 :: .box b_3 [.int .i64 r_2.1.N, .int .i64 r_2.1.D] 37 :: .box b_2 [.int .i64 r_1.1.N, .int .i64 r_1.1.D] 37 :: .box b_1 [.slice p_1 r.Rating.length c_1, .slice p_2 r.Gaugings.length c_2] 25 :: .row p_1 c_1 (r.Rating.map enc_shift_Mark) 77 2 :: .row p_2 c_2 (r.Gaugings.map enc_shift_Gauging) 71 4 :: Lf) w) ?_ ?_
  · cases hb : (((((r_1.2 != 0) || (r_2.2 != 0)) || (r_3.2 != 0)) || (r_4.2 != 0)) || (!(r_1.1.N == 50 && r_1.1.D == 1)))
    · rw [hb] at hf
      refine stE hf hc rfl rfl rfl (eLdN (vs := [.int .i64 r_2.1.N, .int .i64 r_2.1.D]) ag_37 rfl rfl (cells_box (n := 2) m2 rfl)) fun a w hf hc => ?_
      refine stP hf rfl rfl rfl (pBuildS (cells := [.int .i64 370, .int .i64 1]) bt_37 rfl rfl) fun a hf => ?_
      refine stP hf rfl rfl rfl (pNeA ge_37 rfl rfl (eqs_37 _ _ _ _)) fun a hf => ?_
      refine stP hf rfl rfl rfl (pPf rfl rfl) fun a hf => ?_
      exact cNil ⟨hf.keep ⟨rfl, rfl, rfl, rfl, rfl, rfl, rfl, rfl, rfl, rfl, rfl, rfl, rfl, rfl, rfl, rfl, rfl, rfl, rfl, rfl, rfl, trivial⟩, hc⟩
    · rw [hb] at hf
      refine stS hf rfl rfl rfl fun a hf => ?_
      refine stS hf rfl rfl rfl fun a hf => ?_
      refine stS hf rfl rfl rfl fun a hf => ?_
      refine stP hf rfl rfl rfl (pPt rfl rfl) fun a hf => ?_
      exact cNil ⟨hf.keep ⟨rfl, rfl, rfl, rfl, rfl, rfl, rfl, rfl, rfl, rfl, rfl, rfl, rfl, rfl, rfl, rfl, rfl, rfl, rfl, rfl, rfl, trivial⟩, hc⟩
  intro a w ⟨hf, hc⟩
  refine stP hf rfl rfl rfl (pM rfl) fun a hf => ?_
  refine stCut 4 (fun a w => Has 158 a [(1, .pointer (some ⟨b_1, 0, none⟩)), (2, .pointer (some ⟨b_2, 0, none⟩)), (3, .int .i64 r_1.2), (4, .pointer (some ⟨b_3, 0, none⟩)), (5, .int .i64 r_2.2), (6, .pointer (some ⟨b_4, 0, none⟩)), (7, .int .i64 r_3.2), (8, .pointer (some ⟨b_5, 0, none⟩)), (9, .int .i64 r_4.2), (42, .int .i64 r_1.2), (43, .bool (r_1.2 != 0)), (44, .bool (r_1.2 != 0)), (47, .bool ((r_1.2 != 0) || (r_2.2 != 0))), (48, .bool ((r_1.2 != 0) || (r_2.2 != 0))), (51, .bool (((r_1.2 != 0) || (r_2.2 != 0)) || (r_3.2 != 0))), (52, .bool (((r_1.2 != 0) || (r_2.2 != 0)) || (r_3.2 != 0))), (55, .bool ((((r_1.2 != 0) || (r_2.2 != 0)) || (r_3.2 != 0)) || (r_4.2 != 0))), (56, .bool ((((r_1.2 != 0) || (r_2.2 != 0)) || (r_3.2 != 0)) || (r_4.2 != 0))), (60, .bool (((((r_1.2 != 0) || (r_2.2 != 0)) || (r_3.2 != 0)) || (r_4.2 != 0)) || (!(r_1.1.N == 50 && r_1.1.D == 1)))), (61, .bool (((((r_1.2 != 0) || (r_2.2 != 0)) || (r_3.2 != 0)) || (r_4.2 != 0)) || (!(r_1.1.N == 50 && r_1.1.D == 1)))), (65, .bool ((((((r_1.2 != 0) || (r_2.2 != 0)) || (r_3.2 != 0)) || (r_4.2 != 0)) || (!(r_1.1.N == 50 && r_1.1.D == 1))) || (!(r_2.1.N == 370 && r_2.1.D == 1)))), (66, .bool ((((((r_1.2 != 0) || (r_2.2 != 0)) || (r_3.2 != 0)) || (r_4.2 != 0)) || (!(r_1.1.N == 50 && r_1.1.D == 1))) || (!(r_2.1.N == 370 && r_2.1.D == 1)))), (70, .bool (((((((r_1.2 != 0) || (r_2.2 != 0)) || (r_3.2 != 0)) || (r_4.2 != 0)) || (!(r_1.1.N == 50 && r_1.1.D == 1))) || (!(r_2.1.N == 370 && r_2.1.D == 1))) || (!(r_3.1.N == 110 && r_3.1.D == 1))))] ∧ Ctx G (.box b_5 [.int .i64 r_4.1.N, .int .i64 r_4.1.D] 37 :: .box b_4 [.int .i64 r_3.1.N, .int .i64 r_3.1.D] 37 :: .box b_3 [.int .i64 r_2.1.N, .int .i64 r_2.1.D] 37 :: .box b_2 [.int .i64 r_1.1.N, .int .i64 r_1.1.D] 37 :: .box b_1 [.slice p_1 r.Rating.length c_1, .slice p_2 r.Gaugings.length c_2] 25 :: .row p_1 c_1 (r.Rating.map enc_shift_Mark) 77 2 :: .row p_2 c_2 (r.Gaugings.map enc_shift_Gauging) 71 4 :: Lf) w) ?_ ?_
  · cases hb : ((((((r_1.2 != 0) || (r_2.2 != 0)) || (r_3.2 != 0)) || (r_4.2 != 0)) || (!(r_1.1.N == 50 && r_1.1.D == 1))) || (!(r_2.1.N == 370 && r_2.1.D == 1)))
    · rw [hb] at hf
      refine stE hf hc rfl rfl rfl (eLdN (vs := [.int .i64 r_3.1.N, .int .i64 r_3.1.D]) ag_37 rfl rfl (cells_box (n := 2) m1 rfl)) fun a w hf hc => ?_
      refine stP hf rfl rfl rfl (pBuildS (cells := [.int .i64 110, .int .i64 1]) bt_37 rfl rfl) fun a hf => ?_
      refine stP hf rfl rfl rfl (pNeA ge_37 rfl rfl (eqs_37 _ _ _ _)) fun a hf => ?_
      refine stP hf rfl rfl rfl (pPf rfl rfl) fun a hf => ?_
      exact cNil ⟨hf.keep ⟨rfl, rfl, rfl, rfl, rfl, rfl, rfl, rfl, rfl, rfl, rfl, rfl, rfl, rfl, rfl, rfl, rfl, rfl, rfl, rfl, rfl, rfl, rfl, trivial⟩, hc⟩
    · rw [hb] at hf
      refine stS hf rfl rfl rfl fun a hf => ?_
      refine stS hf rfl rfl rfl fun a hf => ?_
      refine stS hf rfl rfl rfl fun a hf => ?_
      refine stP hf rfl rfl rfl (pPt rfl rfl) fun a hf => ?_
      exact cNil ⟨hf.keep ⟨rfl, rfl, rfl, rfl, rfl, rfl, rfl, rfl, rfl, rfl, rfl, rfl, rfl, rfl, rfl, rfl, rfl, rfl, rfl, rfl, rfl, rfl, rfl, trivial⟩, hc⟩
  intro a w ⟨hf, hc⟩
  refine stP hf rfl rfl rfl (pM rfl) fun a hf => ?_
  refine stCut 4 (fun a w => Has 158 a [(1, .pointer (some ⟨b_1, 0, none⟩)), (2, .pointer (some ⟨b_2, 0, none⟩)), (3, .int .i64 r_1.2), (4, .pointer (some ⟨b_3, 0, none⟩)), (5, .int .i64 r_2.2), (6, .pointer (some ⟨b_4, 0, none⟩)), (7, .int .i64 r_3.2), (8, .pointer (some ⟨b_5, 0, none⟩)), (9, .int .i64 r_4.2), (42, .int .i64 r_1.2), (43, .bool (r_1.2 != 0)), (44, .bool (r_1.2 != 0)), (47, .bool ((r_1.2 != 0) || (r_2.2 != 0))), (48, .bool ((r_1.2 != 0) || (r_2.2 != 0))), (51, .bool (((r_1.2 != 0) || (r_2.2 != 0)) || (r_3.2 != 0))), (52, .bool (((r_1.2 != 0) || (r_2.2 != 0)) || (r_3.2 != 0))), (55, .bool ((((r_1.2 != 0) || (r_2.2 != 0)) || (r_3.2 != 0)) || (r_4.2 != 0))), (56, .bool ((((r_1.2 != 0) || (r_2.2 != 0)) || (r_3.2 != 0)) || (r_4.2 != 0))), (60, .bool (((((r_1.2 != 0) || (r_2.2 != 0)) || (r_3.2 != 0)) || (r_4.2 != 0)) || (!(r_1.1.N == 50 && r_1.1.D == 1)))), (61, .bool (((((r_1.2 != 0) || (r_2.2 != 0)) || (r_3.2 != 0)) || (r_4.2 != 0)) || (!(r_1.1.N == 50 && r_1.1.D == 1)))), (65, .bool ((((((r_1.2 != 0) || (r_2.2 != 0)) || (r_3.2 != 0)) || (r_4.2 != 0)) || (!(r_1.1.N == 50 && r_1.1.D == 1))) || (!(r_2.1.N == 370 && r_2.1.D == 1)))), (66, .bool ((((((r_1.2 != 0) || (r_2.2 != 0)) || (r_3.2 != 0)) || (r_4.2 != 0)) || (!(r_1.1.N == 50 && r_1.1.D == 1))) || (!(r_2.1.N == 370 && r_2.1.D == 1)))), (70, .bool (((((((r_1.2 != 0) || (r_2.2 != 0)) || (r_3.2 != 0)) || (r_4.2 != 0)) || (!(r_1.1.N == 50 && r_1.1.D == 1))) || (!(r_2.1.N == 370 && r_2.1.D == 1))) || (!(r_3.1.N == 110 && r_3.1.D == 1)))), (71, .bool (((((((r_1.2 != 0) || (r_2.2 != 0)) || (r_3.2 != 0)) || (r_4.2 != 0)) || (!(r_1.1.N == 50 && r_1.1.D == 1))) || (!(r_2.1.N == 370 && r_2.1.D == 1))) || (!(r_3.1.N == 110 && r_3.1.D == 1)))), (75, .bool ((((((((r_1.2 != 0) || (r_2.2 != 0)) || (r_3.2 != 0)) || (r_4.2 != 0)) || (!(r_1.1.N == 50 && r_1.1.D == 1))) || (!(r_2.1.N == 370 && r_2.1.D == 1))) || (!(r_3.1.N == 110 && r_3.1.D == 1))) || (!(r_4.1.N == 0 && r_4.1.D == 1))))] ∧ Ctx G (.box b_5 [.int .i64 r_4.1.N, .int .i64 r_4.1.D] 37 :: .box b_4 [.int .i64 r_3.1.N, .int .i64 r_3.1.D] 37 :: .box b_3 [.int .i64 r_2.1.N, .int .i64 r_2.1.D] 37 :: .box b_2 [.int .i64 r_1.1.N, .int .i64 r_1.1.D] 37 :: .box b_1 [.slice p_1 r.Rating.length c_1, .slice p_2 r.Gaugings.length c_2] 25 :: .row p_1 c_1 (r.Rating.map enc_shift_Mark) 77 2 :: .row p_2 c_2 (r.Gaugings.map enc_shift_Gauging) 71 4 :: Lf) w) ?_ ?_
  · cases hb : (((((((r_1.2 != 0) || (r_2.2 != 0)) || (r_3.2 != 0)) || (r_4.2 != 0)) || (!(r_1.1.N == 50 && r_1.1.D == 1))) || (!(r_2.1.N == 370 && r_2.1.D == 1))) || (!(r_3.1.N == 110 && r_3.1.D == 1)))
    · rw [hb] at hf
      refine stE hf hc rfl rfl rfl (eLdN (vs := [.int .i64 r_4.1.N, .int .i64 r_4.1.D]) ag_37 rfl rfl (cells_box (n := 2) m0 rfl)) fun a w hf hc => ?_
      refine stP hf rfl rfl rfl (pBuildS (cells := [.int .i64 0, .int .i64 1]) bt_37 rfl rfl) fun a hf => ?_
      refine stP hf rfl rfl rfl (pNeA ge_37 rfl rfl (eqs_37 _ _ _ _)) fun a hf => ?_
      refine stP hf rfl rfl rfl (pPf rfl rfl) fun a hf => ?_
      exact cNil ⟨hf.keep ⟨rfl, rfl, rfl, rfl, rfl, rfl, rfl, rfl, rfl, rfl, rfl, rfl, rfl, rfl, rfl, rfl, rfl, rfl, rfl, rfl, rfl, rfl, rfl, rfl, rfl, trivial⟩, hc⟩
    · rw [hb] at hf
      refine stS hf rfl rfl rfl fun a hf => ?_
      refine stS hf rfl rfl rfl fun a hf => ?_
      refine stS hf rfl rfl rfl fun a hf => ?_
      refine stP hf rfl rfl rfl (pPt rfl rfl) fun a hf => ?_
      exact cNil ⟨hf.keep ⟨rfl, rfl, rfl, rfl, rfl, rfl, rfl, rfl, rfl, rfl, rfl, rfl, rfl, rfl, rfl, rfl, rfl, rfl, rfl, rfl, rfl, rfl, rfl, rfl, rfl, trivial⟩, hc⟩
  intro a w ⟨hf, hc⟩
  refine cNil ?_
  refine h8 _ _ ?_
  refine cCond (b := ((((((((r_1.2 != 0) || (r_2.2 != 0)) || (r_3.2 != 0)) || (r_4.2 != 0)) || (!(r_1.1.N == 50 && r_1.1.D == 1))) || (!(r_2.1.N == 370 && r_2.1.D == 1))) || (!(r_3.1.N == 110 && r_3.1.D == 1))) || (!(r_4.1.N == 0 && r_4.1.D == 1)))) hf rfl (fun hb => ?_) (fun hb => ?_)
  · replace hF := condT hb hF
    clear hb
    refine wp_seq_k fun K9 h9 => ?_
    refine cReg ?_
    refine stP hf rfl rfl rfl (pA rfl) fun a hf => ?_
    refine cNil ?_
    refine h9 _ _ ?_
    refine wp_ret ?_
    refine xThenR ?_
    obtain rfl := Option.some.inj hF
    replace hc := hc.drop k6
    replace hc := hc.drop k5
    replace hc := hc.drop k4
    replace hc := hc.drop k3
    replace hc := hc.drop k2
    replace hc := hc.drop k1
    replace hc := hc.drop k0
    exact fnOut1 (by simp) rfl Try.results12 hf hc (show look _ 0 = _ from rfl) ⟨rfl, hc⟩
  · replace hF := condF hb hF
    clear hb
    refine wp_skip ?_
    refine h7 _ _ ?_
    refine wp_seq_k fun K10 h10 => ?_
    refine cReg ?_
    refine stE hf hc rfl rfl rfl (eLdN (vs := [.slice p_1 r.Rating.length c_1, .slice p_2 r.Gaugings.length c_2]) ag_25 rfl rfl (cells_box (n := 2) m4 rfl)) fun a w hf hc => ?_
    obtain ⟨r_5, hr_5, hF⟩ := bnd_some hF
    obtain ⟨G1, hle1, hrd1, hc, hth1⟩ := lend hc k5
    obtain ⟨G2, hle2, hrd2, hc, hth2⟩ := lend hc k5
    refine stC (vs := [.agg #[.slice p_1 r.Rating.length c_1, .slice p_2 r.Gaugings.length c_2]]) (caps := []) hf rfl rfl rfl en_22 rfl rfl rfl rfl (shift_Passes_ok r (hrd1.mono hle2) hrd2 hc hr_5) ?_
    rintro _ w ⟨p_3, c_3, rfl, hc⟩
    refine ⟨_, rfl, fun a hf => ?_⟩
    replace hc := hth2 _ _ hc
    replace hc := hth1 _ _ hc
    refine stP hf rfl rfl rfl (pM rfl) fun a hf => ?_
    refine stP hf rfl rfl rfl (pX rfl rfl) fun a hf => ?_
    refine stP hf rfl rfl rfl (pX rfl rfl) fun a hf => ?_
    refine stP hf rfl rfl rfl (pA rfl) fun a hf => ?_
    refine stP hf rfl rfl rfl (pA rfl) fun a hf => ?_
    refine cNil ?_
    refine h10 _ _ ?_
    refine wp_seq_k fun K11 h11 => ?_
    refine cReg ?_
    refine stE hf hc rfl rfl rfl (eLdN (vs := [.slice p_1 r.Rating.length c_1, .slice p_2 r.Gaugings.length c_2]) ag_25 rfl rfl (cells_box (n := 2) m7 rfl)) fun a w hf hc => ?_
    obtain ⟨r_6, hr_6, hF⟩ := bnd_some hF
    obtain ⟨G1, hle1, hrd1, hc, hth1⟩ := lend hc k0
    obtain ⟨G2, hle2, hrd2, hc, hth2⟩ := lend hc k0
    refine stC (vs := [.agg #[.slice p_1 r.Rating.length c_1, .slice p_2 r.Gaugings.length c_2]]) (caps := []) hf rfl rfl rfl en_33 rfl rfl rfl rfl (shift_Least_ok r (hrd1.mono hle2) hrd2 hc hr_6) ?_
    rintro _ w ⟨p_4, c_4, rfl, hc⟩
    refine ⟨_, rfl, fun a hf => ?_⟩
    replace hc := hth2 _ _ hc
    replace hc := hth1 _ _ hc
    refine stP hf rfl rfl rfl (pM rfl) fun a hf => ?_
    refine stP hf rfl rfl rfl (pX rfl rfl) fun a hf => ?_
    refine stP hf rfl rfl rfl (pX rfl rfl) fun a hf => ?_
    refine stP hf rfl rfl rfl (pX rfl rfl) fun a hf => ?_
    refine stP hf rfl rfl rfl (pA rfl) fun a hf => ?_
    refine stP hf rfl rfl rfl (pA rfl) fun a hf => ?_
    refine stP hf rfl rfl rfl (pA rfl) fun a hf => ?_
    refine cNil ?_
    refine h11 _ _ ?_
    refine wp_seq_k fun K12 h12 => ?_
    refine cReg ?_
    refine stE hf hc rfl rfl rfl (eLdN (vs := [.slice p_1 r.Rating.length c_1, .slice p_2 r.Gaugings.length c_2]) ag_25 rfl rfl (cells_box (n := 2) m8 rfl)) fun a w hf hc => ?_
    refine stP hf rfl rfl rfl (pBuildS (cells := [.int .i64 0, .bool false]) bt_91 rfl rfl) fun a hf => ?_
    refine stP hf rfl rfl rfl (pBuildS (cells := [.int .i64 1, .bool true]) bt_91 rfl rfl) fun a hf => ?_
    refine stP hf rfl rfl rfl (pBuildS (cells := [.int .i64 2, .bool false]) bt_91 rfl rfl) fun a hf => ?_
    refine stBS (rows := ([(⟨0, false⟩ : shift_Turn), (⟨1, true⟩ : shift_Turn), (⟨2, false⟩ : shift_Turn)] : List shift_Turn).map enc_shift_Turn) (vs := [(0, .agg #[.int .i64 0, .bool false]), (1, .agg #[.int .i64 1, .bool true]), (2, .agg #[.int .i64 2, .bool false])]) hf hc rfl rfl sl_87 rfl ⟨rfl, rfl, rfl, rfl, rfl, rfl, rfl, rfl, rfl, trivial⟩ rfl rfl fun b_6 a w hf hc => ?_
    obtain ⟨r_7, hr_7, hF⟩ := bnd_some hF
    refine stE hf hc rfl rfl rfl (eC (v := .tuple #[.int .i64 r_7.1, .int .i64 r_7.2]) (vs := [.agg #[.slice p_1 r.Rating.length c_1, .slice p_2 r.Gaugings.length c_2], .slice (some ⟨b_6, 0, none⟩) 3 3]) (caps := []) en_46 rfl rfl rfl rfl (fun w hc => by obtain ⟨G1, hle1, hrd1, hc, hth1⟩ := lend hc k1; obtain ⟨G2, hle2, hrd2, hc, hth2⟩ := lend hc k1; obtain ⟨G3, hle3, hrd3, hc, hth3⟩ := lend hc k0; exact (shift_Proves_ok r ([(⟨0, false⟩ : shift_Turn), (⟨1, true⟩ : shift_Turn), (⟨2, false⟩ : shift_Turn)] : List shift_Turn) ((hrd1.mono hle2).mono hle3) (hrd2.mono hle3) hrd3 hc hr_7).mono fun e w h => ⟨h.1, ((hth1 _ _ ((hth2 _ _ ((hth3 _ _ h.2).unpick k0)).unpick k1)).unpick k1)⟩)) fun a w hf hc => ?_
    refine stP hf rfl rfl rfl (pM rfl) fun a hf => ?_
    refine stP hf rfl rfl rfl (pX rfl rfl) fun a hf => ?_
    refine stP hf rfl rfl rfl (pX rfl rfl) fun a hf => ?_
    refine stP hf rfl rfl rfl (pA rfl) fun a hf => ?_
    refine stP hf rfl rfl rfl (pA rfl) fun a hf => ?_
    refine cNil ?_
    refine h12 _ _ ?_
    refine wp_seq_k fun K13 h13 => ?_
    refine cReg ?_
    refine stE hf hc rfl rfl rfl (eLdN (vs := [.slice p_1 r.Rating.length c_1, .slice p_2 r.Gaugings.length c_2]) ag_25 rfl rfl (cells_box (n := 2) m9 rfl)) fun a w hf hc => ?_
    obtain ⟨r_8, hr_8, hF⟩ := bnd_some hF
    obtain ⟨G1, hle1, hrd1, hc, hth1⟩ := lend hc k1
    obtain ⟨G2, hle2, hrd2, hc, hth2⟩ := lend hc k1
    refine stC (vs := [.agg #[.slice p_1 r.Rating.length c_1, .slice p_2 r.Gaugings.length c_2], .int .i64 6]) (caps := []) hf rfl rfl rfl en_27 rfl rfl rfl rfl (shift_Can_ok r 6 (hrd1.mono hle2) hrd2 hc hr_8) ?_
    rintro _ w ⟨p_5, c_5, rfl, hc⟩
    refine ⟨_, rfl, fun a hf => ?_⟩
    replace hc := hth2 _ _ hc
    replace hc := hth1 _ _ hc
    refine stP hf rfl rfl rfl (pM rfl) fun a hf => ?_
    refine stP hf rfl rfl rfl (pX rfl rfl) fun a hf => ?_
    refine stP hf rfl rfl rfl (pX rfl rfl) fun a hf => ?_
    refine stP hf rfl rfl rfl (pA rfl) fun a hf => ?_
    refine stP hf rfl rfl rfl (pA rfl) fun a hf => ?_
    refine cNil ?_
    refine h13 _ _ ?_
    refine wp_seq_k fun K14 h14 => ?_
    refine cReg ?_
    refine stE hf hc rfl rfl rfl (eLdN (vs := [.slice p_1 r.Rating.length c_1, .slice p_2 r.Gaugings.length c_2]) ag_25 rfl rfl (cells_box (n := 2) m10 rfl)) fun a w hf hc => ?_
    obtain ⟨r_9, hr_9, hF⟩ := bnd_some hF
    refine stE hf hc rfl rfl rfl (eC (v := .tuple #[.agg #[.int .i64 r_9.1.Lo, .int .i64 r_9.1.Hi], .int .i64 r_9.2]) (vs := [.agg #[.slice p_1 r.Rating.length c_1, .slice p_2 r.Gaugings.length c_2], .int .i64 6, .int .i64 3, .int .i64 13]) (caps := []) en_29 rfl rfl rfl rfl (fun w hc => by obtain ⟨G1, hle1, hrd1, hc, hth1⟩ := lend hc k0; obtain ⟨G2, hle2, hrd2, hc, hth2⟩ := lend hc k0; exact (shift_Between_ok r 6 3 13 (hrd1.mono hle2) hrd2 hc hr_9).mono fun e w h => ⟨h.1, ((hth1 _ _ ((hth2 _ _ h.2).unpick k0)).unpick k0)⟩)) fun a w hf hc => ?_
    refine stP hf rfl rfl rfl (pM rfl) fun a hf => ?_
    refine stP hf rfl rfl rfl (pX rfl rfl) fun a hf => ?_
    refine stP hf rfl rfl rfl (pX rfl rfl) fun a hf => ?_
    refine stAl (cs := [.int .i64 0, .int .i64 0]) hf hc rfl rfl zr_50 rfl fun b_7 a w hf hc => ?_
    refine stSt (vs := [.int .i64 r_9.1.Lo, .int .i64 r_9.1.Hi]) hf hc rfl rfl rfl rfl sz_50 rfl rfl u0 fun w hc => ?_
    refine stP hf rfl rfl rfl (pA rfl) fun a hf => ?_
    refine cNil ?_
    refine h14 _ _ ?_
    refine wp_seq_k fun K15 h15 => ?_
    obtain ⟨r_10, hr_10, hF⟩ := bnd_some hF
    obtain ⟨r_11, hr_11, hF⟩ := bnd_some hF
    obtain ⟨r_12, hr_12, hF⟩ := bnd_some hF
    obtain ⟨r_13, hr_13, hF⟩ := bnd_some hF
    replace hc := hc.nilRow 0 0
    replace hc := hc.nilRow 0 0
    replace hc := hc.nilRow 0 0
    refine regionE (fun θ => (⟨none, none, 3, .int .i64 r_5.2⟩ :: ⟨none, none, 5, .int .i64 r_6.2.2⟩ :: ⟨none, none, 7, .int .i64 r_7.2⟩ :: ⟨none, none, 9, .int .i64 r_8.2⟩ :: ⟨none, none, 10, .slice p_3 r_5.1.length c_3⟩ :: ⟨none, none, 11, .slice p_4 r_6.1.length c_4⟩ :: ⟨none, none, 12, .int .i64 r_6.2.1⟩ :: ⟨none, none, 13, .int .i64 r_7.1⟩ :: ⟨none, none, 14, .slice p_5 r_8.1.length c_5⟩ :: ⟨none, none, 15, .pointer (some ⟨b_7, 0, none⟩)⟩ :: ⟨none, none, 16, .int .i64 r_9.2⟩ :: ⟨some 0, none, 106, .int .i64 r_5.2⟩ :: ⟨some 1, none, 107, .bool (r_5.2 == 0)⟩ :: ⟨some 2, none, 108, .bool (r_5.2 == 0)⟩ :: ⟨some 3, none, 109, (bif (r_5.2 == 0) then .int .i64 r_6.2.2 else undef)⟩ :: ⟨some 4, none, 110, (bif (r_5.2 == 0) then .bool (r_6.2.2 == 0) else undef)⟩ :: ⟨some 5, none, 111, .bool ((r_5.2 == 0) && (r_6.2.2 == 0))⟩ :: ⟨some 6, none, 112, .bool ((r_5.2 == 0) && (r_6.2.2 == 0))⟩ :: ⟨some 7, none, 113, (bif ((r_5.2 == 0) && (r_6.2.2 == 0)) then .int .i64 r_7.2 else undef)⟩ :: ⟨some 8, none, 114, (bif ((r_5.2 == 0) && (r_6.2.2 == 0)) then .bool (r_7.2 == 0) else undef)⟩ :: ⟨some 9, none, 115, .bool (((r_5.2 == 0) && (r_6.2.2 == 0)) && (r_7.2 == 0))⟩ :: ⟨some 10, none, 116, .bool (((r_5.2 == 0) && (r_6.2.2 == 0)) && (r_7.2 == 0))⟩ :: ⟨some 11, none, 117, (bif (((r_5.2 == 0) && (r_6.2.2 == 0)) && (r_7.2 == 0)) then .int .i64 r_8.2 else undef)⟩ :: ⟨some 12, none, 118, (bif (((r_5.2 == 0) && (r_6.2.2 == 0)) && (r_7.2 == 0)) then .bool (r_8.2 == 0) else undef)⟩ :: ⟨some 13, none, 119, .bool ((((r_5.2 == 0) && (r_6.2.2 == 0)) && (r_7.2 == 0)) && (r_8.2 == 0))⟩ :: ⟨some 14, none, 120, .bool ((((r_5.2 == 0) && (r_6.2.2 == 0)) && (r_7.2 == 0)) && (r_8.2 == 0))⟩ :: ⟨some 15, none, 121, (bif ((((r_5.2 == 0) && (r_6.2.2 == 0)) && (r_7.2 == 0)) && (r_8.2 == 0)) then .int .i64 r_9.2 else undef)⟩ :: ⟨some 16, none, 122, (bif ((((r_5.2 == 0) && (r_6.2.2 == 0)) && (r_7.2 == 0)) && (r_8.2 == 0)) then .bool (r_9.2 == 0) else undef)⟩ :: ⟨some 17, none, 123, .bool (((((r_5.2 == 0) && (r_6.2.2 == 0)) && (r_7.2 == 0)) && (r_8.2 == 0)) && (r_9.2 == 0))⟩ :: ⟨some 18, none, 124, .bool (((((r_5.2 == 0) && (r_6.2.2 == 0)) && (r_7.2 == 0)) && (r_8.2 == 0)) && (r_9.2 == 0))⟩ :: ⟨some 19, none, 125, (bif (((((r_5.2 == 0) && (r_6.2.2 == 0)) && (r_7.2 == 0)) && (r_8.2 == 0)) && (r_9.2 == 0)) then .slice p_3 r_5.1.length c_3 else undef)⟩ :: ⟨some 20, none, 126, (bif (((((r_5.2 == 0) && (r_6.2.2 == 0)) && (r_7.2 == 0)) && (r_8.2 == 0)) && (r_9.2 == 0)) then .agg #[.int .i64 2, .int .i64 4] else undef)⟩ :: ⟨some 21, none, 127, (bif (((((r_5.2 == 0) && (r_6.2.2 == 0)) && (r_7.2 == 0)) && (r_8.2 == 0)) && (r_9.2 == 0)) then .agg #[.int .i64 0, .int .i64 0] else undef)⟩ :: ⟨some 22, none, 128, (bif (((((r_5.2 == 0) && (r_6.2.2 == 0)) && (r_7.2 == 0)) && (r_8.2 == 0)) && (r_9.2 == 0)) then .agg #[.int .i64 3, .int .i64 8] else undef)⟩ :: ⟨some 23, none, 129, (bif (((((r_5.2 == 0) && (r_6.2.2 == 0)) && (r_7.2 == 0)) && (r_8.2 == 0)) && (r_9.2 == 0)) then .slice (some ⟨(θ 184).b, 0, none⟩) 3 3 else undef)⟩ :: ⟨some 24, none, 130, (bif (((((r_5.2 == 0) && (r_6.2.2 == 0)) && (r_7.2 == 0)) && (r_8.2 == 0)) && (r_9.2 == 0)) then .bool r_10 else undef)⟩ :: ⟨some 25, none, 131, .bool ((((((r_5.2 == 0) && (r_6.2.2 == 0)) && (r_7.2 == 0)) && (r_8.2 == 0)) && (r_9.2 == 0)) && r_10)⟩ :: ⟨some 26, none, 132, .bool ((((((r_5.2 == 0) && (r_6.2.2 == 0)) && (r_7.2 == 0)) && (r_8.2 == 0)) && (r_9.2 == 0)) && r_10)⟩ :: ⟨some 27, none, 133, (bif ((((((r_5.2 == 0) && (r_6.2.2 == 0)) && (r_7.2 == 0)) && (r_8.2 == 0)) && (r_9.2 == 0)) && r_10) then .slice p_4 r_6.1.length c_4 else undef)⟩ :: ⟨some 28, none, 134, (bif ((((((r_5.2 == 0) && (r_6.2.2 == 0)) && (r_7.2 == 0)) && (r_8.2 == 0)) && (r_9.2 == 0)) && r_10) then .slice (some ⟨(θ 224).b, 0, none⟩) 3 3 else undef)⟩ :: ⟨some 29, none, 135, (bif ((((((r_5.2 == 0) && (r_6.2.2 == 0)) && (r_7.2 == 0)) && (r_8.2 == 0)) && (r_9.2 == 0)) && r_10) then .bool r_11 else undef)⟩ :: ⟨some 30, none, 136, .bool (((((((r_5.2 == 0) && (r_6.2.2 == 0)) && (r_7.2 == 0)) && (r_8.2 == 0)) && (r_9.2 == 0)) && r_10) && r_11)⟩ :: ⟨some 31, none, 137, .bool (((((((r_5.2 == 0) && (r_6.2.2 == 0)) && (r_7.2 == 0)) && (r_8.2 == 0)) && (r_9.2 == 0)) && r_10) && r_11)⟩ :: ⟨some 32, none, 138, (bif (((((((r_5.2 == 0) && (r_6.2.2 == 0)) && (r_7.2 == 0)) && (r_8.2 == 0)) && (r_9.2 == 0)) && r_10) && r_11) then .int .i64 r_6.2.1 else undef)⟩ :: ⟨some 33, none, 139, (bif (((((((r_5.2 == 0) && (r_6.2.2 == 0)) && (r_7.2 == 0)) && (r_8.2 == 0)) && (r_9.2 == 0)) && r_10) && r_11) then .bool (r_6.2.1 == 5) else undef)⟩ :: ⟨some 34, none, 140, .bool ((((((((r_5.2 == 0) && (r_6.2.2 == 0)) && (r_7.2 == 0)) && (r_8.2 == 0)) && (r_9.2 == 0)) && r_10) && r_11) && (r_6.2.1 == 5))⟩ :: ⟨some 35, none, 141, .bool ((((((((r_5.2 == 0) && (r_6.2.2 == 0)) && (r_7.2 == 0)) && (r_8.2 == 0)) && (r_9.2 == 0)) && r_10) && r_11) && (r_6.2.1 == 5))⟩ :: ⟨some 36, none, 142, (bif ((((((((r_5.2 == 0) && (r_6.2.2 == 0)) && (r_7.2 == 0)) && (r_8.2 == 0)) && (r_9.2 == 0)) && r_10) && r_11) && (r_6.2.1 == 5)) then .int .i64 r_7.1 else undef)⟩ :: ⟨some 37, none, 143, (bif ((((((((r_5.2 == 0) && (r_6.2.2 == 0)) && (r_7.2 == 0)) && (r_8.2 == 0)) && (r_9.2 == 0)) && r_10) && r_11) && (r_6.2.1 == 5)) then .bool (r_7.1 == 5) else undef)⟩ :: ⟨some 38, none, 144, .bool (((((((((r_5.2 == 0) && (r_6.2.2 == 0)) && (r_7.2 == 0)) && (r_8.2 == 0)) && (r_9.2 == 0)) && r_10) && r_11) && (r_6.2.1 == 5)) && (r_7.1 == 5))⟩ :: ⟨some 39, none, 145, .bool (((((((((r_5.2 == 0) && (r_6.2.2 == 0)) && (r_7.2 == 0)) && (r_8.2 == 0)) && (r_9.2 == 0)) && r_10) && r_11) && (r_6.2.1 == 5)) && (r_7.1 == 5))⟩ :: ⟨some 40, none, 146, (bif (((((((((r_5.2 == 0) && (r_6.2.2 == 0)) && (r_7.2 == 0)) && (r_8.2 == 0)) && (r_9.2 == 0)) && r_10) && r_11) && (r_6.2.1 == 5)) && (r_7.1 == 5)) then .slice p_5 r_8.1.length c_5 else undef)⟩ :: ⟨some 41, none, 147, (bif (((((((((r_5.2 == 0) && (r_6.2.2 == 0)) && (r_7.2 == 0)) && (r_8.2 == 0)) && (r_9.2 == 0)) && r_10) && r_11) && (r_6.2.1 == 5)) && (r_7.1 == 5)) then .agg #[.int .i64 2, .int .i64 3] else undef)⟩ :: ⟨some 42, none, 148, (bif (((((((((r_5.2 == 0) && (r_6.2.2 == 0)) && (r_7.2 == 0)) && (r_8.2 == 0)) && (r_9.2 == 0)) && r_10) && r_11) && (r_6.2.1 == 5)) && (r_7.1 == 5)) then .agg #[.int .i64 0, .int .i64 0] else undef)⟩ :: ⟨some 43, none, 149, (bif (((((((((r_5.2 == 0) && (r_6.2.2 == 0)) && (r_7.2 == 0)) && (r_8.2 == 0)) && (r_9.2 == 0)) && r_10) && r_11) && (r_6.2.1 == 5)) && (r_7.1 == 5)) then .agg #[.int .i64 3, .int .i64 4] else undef)⟩ :: ⟨some 44, none, 150, (bif (((((((((r_5.2 == 0) && (r_6.2.2 == 0)) && (r_7.2 == 0)) && (r_8.2 == 0)) && (r_9.2 == 0)) && r_10) && r_11) && (r_6.2.1 == 5)) && (r_7.1 == 5)) then .slice (some ⟨(θ 352).b, 0, none⟩) 3 3 else undef)⟩ :: ⟨some 45, none, 151, (bif (((((((((r_5.2 == 0) && (r_6.2.2 == 0)) && (r_7.2 == 0)) && (r_8.2 == 0)) && (r_9.2 == 0)) && r_10) && r_11) && (r_6.2.1 == 5)) && (r_7.1 == 5)) then .bool r_12 else undef)⟩ :: ⟨some 46, none, 152, .bool ((((((((((r_5.2 == 0) && (r_6.2.2 == 0)) && (r_7.2 == 0)) && (r_8.2 == 0)) && (r_9.2 == 0)) && r_10) && r_11) && (r_6.2.1 == 5)) && (r_7.1 == 5)) && r_12)⟩ :: ⟨some 47, none, 153, .bool ((((((((((r_5.2 == 0) && (r_6.2.2 == 0)) && (r_7.2 == 0)) && (r_8.2 == 0)) && (r_9.2 == 0)) && r_10) && r_11) && (r_6.2.1 == 5)) && (r_7.1 == 5)) && r_12)⟩ :: ⟨some 48, none, 154, (bif ((((((((((r_5.2 == 0) && (r_6.2.2 == 0)) && (r_7.2 == 0)) && (r_8.2 == 0)) && (r_9.2 == 0)) && r_10) && r_11) && (r_6.2.1 == 5)) && (r_7.1 == 5)) && r_12) then .agg #[.int .i64 r_9.1.Lo, .int .i64 r_9.1.Hi] else undef)⟩ :: ⟨some 49, none, 155, (bif ((((((((((r_5.2 == 0) && (r_6.2.2 == 0)) && (r_7.2 == 0)) && (r_8.2 == 0)) && (r_9.2 == 0)) && r_10) && r_11) && (r_6.2.1 == 5)) && (r_7.1 == 5)) && r_12) then .agg #[.int .i64 r_13.Lo, .int .i64 r_13.Hi] else undef)⟩ :: ⟨some 50, none, 156, (bif ((((((((((r_5.2 == 0) && (r_6.2.2 == 0)) && (r_7.2 == 0)) && (r_8.2 == 0)) && (r_9.2 == 0)) && r_10) && r_11) && (r_6.2.1 == 5)) && (r_7.1 == 5)) && r_12) then .bool (r_9.1.Lo == r_13.Lo && r_9.1.Hi == r_13.Hi) else undef)⟩ :: ⟨some 51, none, 157, .bool (((((((((((r_5.2 == 0) && (r_6.2.2 == 0)) && (r_7.2 == 0)) && (r_8.2 == 0)) && (r_9.2 == 0)) && r_10) && r_11) && (r_6.2.1 == 5)) && (r_7.1 == 5)) && r_12) && (r_9.1.Lo == r_13.Lo && r_9.1.Hi == r_13.Hi))⟩ :: ⟨some 52, none, 0, .bool (((((((((((r_5.2 == 0) && (r_6.2.2 == 0)) && (r_7.2 == 0)) && (r_8.2 == 0)) && (r_9.2 == 0)) && r_10) && r_11) && (r_6.2.1 == 5)) && (r_7.1 == 5)) && r_12) && (r_9.1.Lo == r_13.Lo && r_9.1.Hi == r_13.Hi))⟩ :: [])) (fun E θ => (bif E 44 then (gE (((((((((r_5.2 == 0) && (r_6.2.2 == 0)) && (r_7.2 == 0)) && (r_8.2 == 0)) && (r_9.2 == 0)) && r_10) && r_11) && (r_6.2.1 == 5)) && (r_7.1 == 5)) (.row (some ⟨(θ 352).b, 0, none⟩) 3 (([(⟨2, 3⟩ : api_Span), (⟨0, 0⟩ : api_Span), (⟨3, 4⟩ : api_Span)] : List api_Span).map enc_api_Span) 50 2)) else .row none 0 [] 0 0) :: (bif E 28 then (gE ((((((r_5.2 == 0) && (r_6.2.2 == 0)) && (r_7.2 == 0)) && (r_8.2 == 0)) && (r_9.2 == 0)) && r_10) (.row (some ⟨(θ 224).b, 0, none⟩) 3 (([2, 0, 3] : List Int).map encI_i64) 3 1)) else .row none 0 [] 0 0) :: (bif E 23 then (gE (((((r_5.2 == 0) && (r_6.2.2 == 0)) && (r_7.2 == 0)) && (r_8.2 == 0)) && (r_9.2 == 0)) (.row (some ⟨(θ 184).b, 0, none⟩) 3 (([(⟨2, 4⟩ : api_Span), (⟨0, 0⟩ : api_Span), (⟨3, 8⟩ : api_Span)] : List api_Span).map enc_api_Span) 50 2)) else .row none 0 [] 0 0) :: .box b_7 [.int .i64 r_9.1.Lo, .int .i64 r_9.1.Hi] 50 :: .row p_1 c_1 (r.Rating.map enc_shift_Mark) 77 2 :: .row p_2 c_2 (r.Gaugings.map enc_shift_Gauging) 71 4 :: .row p_5 c_5 (r_8.1.map enc_api_Span) 50 2 :: .row (some ⟨b_6, 0, none⟩) 3 (([(⟨0, false⟩ : shift_Turn), (⟨1, true⟩ : shift_Turn), (⟨2, false⟩ : shift_Turn)] : List shift_Turn).map enc_shift_Turn) 91 2 :: .row p_4 c_4 (r_6.1.map encI_i64) 3 1 :: .row p_3 c_3 (r_5.1.map enc_api_Span) 50 2 :: .box b_5 [.int .i64 r_4.1.N, .int .i64 r_4.1.D] 37 :: .box b_4 [.int .i64 r_3.1.N, .int .i64 r_3.1.D] 37 :: .box b_3 [.int .i64 r_2.1.N, .int .i64 r_2.1.D] 37 :: .box b_2 [.int .i64 r_1.1.N, .int .i64 r_1.1.D] 37 :: .box b_1 [.slice p_1 r.Rating.length c_1, .slice p_2 r.Gaugings.length c_2] 25 :: Lf) [] (fun a w => Has 158 a [(0, .bool (((((((((((r_5.2 == 0) && (r_6.2.2 == 0)) && (r_7.2 == 0)) && (r_8.2 == 0)) && (r_9.2 == 0)) && r_10) && r_11) && (r_6.2.1 == 5)) && (r_7.1 == 5)) && r_12) && (r_9.1.Lo == r_13.Lo && r_9.1.Hi == r_13.Hi)))] ∧ Ctx G (.box b_7 [.int .i64 r_9.1.Lo, .int .i64 r_9.1.Hi] 50 :: .row p_1 c_1 (r.Rating.map enc_shift_Mark) 77 2 :: .row p_2 c_2 (r.Gaugings.map enc_shift_Gauging) 71 4 :: .row p_5 c_5 (r_8.1.map enc_api_Span) 50 2 :: .row (some ⟨b_6, 0, none⟩) 3 (([(⟨0, false⟩ : shift_Turn), (⟨1, true⟩ : shift_Turn), (⟨2, false⟩ : shift_Turn)] : List shift_Turn).map enc_shift_Turn) 91 2 :: .row p_4 c_4 (r_6.1.map encI_i64) 3 1 :: .row p_3 c_3 (r_5.1.map enc_api_Span) 50 2 :: .box b_5 [.int .i64 r_4.1.N, .int .i64 r_4.1.D] 37 :: .box b_4 [.int .i64 r_3.1.N, .int .i64 r_3.1.D] 37 :: .box b_3 [.int .i64 r_2.1.N, .int .i64 r_2.1.D] 37 :: .box b_2 [.int .i64 r_1.1.N, .int .i64 r_1.1.D] 37 :: .box b_1 [.slice p_1 r.Rating.length c_1, .slice p_2 r.Gaugings.length c_2] 25 :: Lf) w) follows_mx (by kernel_rfl) (by kernel_rfl) (HasE.of hf ⟨rfl, rfl, rfl, rfl, rfl, rfl, rfl, rfl, rfl, rfl, rfl, trivial, trivial, trivial, trivial, trivial, trivial, trivial, trivial, trivial, trivial, trivial, trivial, trivial, trivial, trivial, trivial, trivial, trivial, trivial, trivial, trivial, trivial, trivial, trivial, trivial, trivial, trivial, trivial, trivial, trivial, trivial, trivial, trivial, trivial, trivial, trivial, trivial, trivial, trivial, trivial, trivial, trivial, trivial, trivial, trivial, trivial, trivial, trivial, trivial, trivial, trivial, trivial, trivial, trivial⟩) hc ⟨?_, ?_, ?_, ?_, ?_, ?_, ?_, ?_, ?_, ?_, ?_, ?_, ?_, ?_, ?_, ?_, ?_, ?_, ?_, ?_, ?_, ?_, ?_, ?_, ?_, ?_, ?_, ?_, ?_, ?_, ?_, ?_, ?_, ?_, ?_, ?_, ?_, ?_, ?_, ?_, ?_, ?_, ?_, ?_, ?_, ?_, ?_, ?_, ?_, ?_, ?_, ?_, ?_, trivial⟩ ?_ ?_
    · intro E θ a w hD hi hp he hc
      have hf := he.h0
      replace hf := hf.more he 0 rfl onT
      refine stP hf rfl rfl rfl (pM rfl) fun a hf => ?_
      refine cNil ?_
      refine xThenN ?_
      intro ds u hau
      refine ⟨θ, he.put0 hi hau hf rfl 11 rfl rfl, ?_⟩
      exact hc
    · intro E θ a w hD hi hp he hc
      have e0 := hp.of (k := 0) rfl
      have hf := he.h0
      replace hf := hf.more he 11 rfl (onP e0)
      refine stP hf rfl rfl rfl (pEq rfl rfl) fun a hf => ?_
      refine cNil ?_
      refine xThenN ?_
      intro ds u hau
      refine ⟨θ, he.put0 hi hau hf rfl 12 rfl rfl, ?_⟩
      exact hc
    · intro E θ a w hD hi hp he hc
      have e1 := hp.of (k := 1) rfl
      have hf := he.h0
      replace hf := hf.more he 12 rfl (onP e1)
      refine stP hf rfl rfl rfl (pM rfl) fun a hf => ?_
      refine cNil ?_
      refine xThenN ?_
      intro ds u hau
      refine ⟨θ, he.put0 hi hau hf rfl 13 rfl rfl, ?_⟩
      exact hc
    · intro E θ a w hD hi hp he hc
      have e2 := hp.of (k := 2) rfl
      rcases boolEq (r_5.2 == 0) with hb | hb
      · have hf := he.h0
        replace hf := hf.more he 1 rfl onT
        replace hf := hf.more he 13 rfl (onP e2)
        replace hf := castB hb hf
        refine stP hf rfl rfl rfl (pM rfl) fun a hf => ?_
        replace hf := castI (u := undef) hb hf
        refine cNil ?_
        refine xThenN ?_
        intro ds u hau
        refine ⟨θ, he.put0 hi hau hf rfl 14 rfl rfl, ?_⟩
        exact hc
      · have hf := he.h0
        replace hf := hf.more he 1 rfl onT
        replace hf := hf.more he 13 rfl (onP e2)
        replace hf := castB hb hf
        refine stS hf rfl rfl rfl fun a hf => ?_
        replace hf := castJ (u := .int .i64 r_6.2.2) hb hf
        refine cNil ?_
        refine xThenN ?_
        intro ds u hau
        refine ⟨θ, he.put0 hi hau hf rfl 14 rfl rfl, ?_⟩
        exact hc
    · intro E θ a w hD hi hp he hc
      have e2 := hp.of (k := 2) rfl
      have e3 := hp.of (k := 3) rfl
      rcases boolEq (r_5.2 == 0) with hb | hb
      · have hf := he.h0
        replace hf := hf.more he 13 rfl (onP e2)
        replace hf := castB hb hf
        replace hf := hf.more he 14 rfl (onP e3)
        replace hf := castCT hb hf
        refine stP hf rfl rfl rfl (pEq rfl rfl) fun a hf => ?_
        replace hf := castI (u := undef) hb hf
        refine cNil ?_
        refine xThenN ?_
        intro ds u hau
        refine ⟨θ, he.put0 hi hau hf rfl 15 rfl rfl, ?_⟩
        exact hc
      · have hf := he.h0
        replace hf := hf.more he 13 rfl (onP e2)
        replace hf := castB hb hf
        replace hf := hf.more he 14 rfl (onP e3)
        replace hf := castCF hb hf
        refine stS hf rfl rfl rfl fun a hf => ?_
        replace hf := castJ (u := .bool (r_6.2.2 == 0)) hb hf
        refine cNil ?_
        refine xThenN ?_
        intro ds u hau
        refine ⟨θ, he.put0 hi hau hf rfl 15 rfl rfl, ?_⟩
        exact hc
    · intro E θ a w hD hi hp he hc
      have e2 := hp.of (k := 2) rfl
      have e4 := hp.of (k := 4) rfl
      rcases boolEq (r_5.2 == 0) with hb | hb
      · have hf := he.h0
        replace hf := hf.more he 13 rfl (onP e2)
        replace hf := castB hb hf
        replace hf := hf.more he 15 rfl (onP e4)
        replace hf := castCT hb hf
        refine stP hf rfl rfl rfl (pPt rfl rfl) fun a hf => ?_
        replace hf := castV (v' := .bool ((r_5.2 == 0) && (r_6.2.2 == 0))) (congrArg Value.bool (andT hb)) hf
        refine cNil ?_
        refine xThenN ?_
        intro ds u hau
        refine ⟨θ, he.put0 hi hau hf rfl 16 rfl rfl, ?_⟩
        exact hc
      · have hf := he.h0
        replace hf := hf.more he 13 rfl (onP e2)
        replace hf := castB hb hf
        replace hf := hf.more he 15 rfl (onP e4)
        replace hf := castCF hb hf
        refine stP hf rfl rfl rfl (pPf rfl rfl) fun a hf => ?_
        replace hf := castV (v' := .bool ((r_5.2 == 0) && (r_6.2.2 == 0))) (congrArg Value.bool (andF hb)) hf
        refine cNil ?_
        refine xThenN ?_
        intro ds u hau
        refine ⟨θ, he.put0 hi hau hf rfl 16 rfl rfl, ?_⟩
        exact hc
    · intro E θ a w hD hi hp he hc
      have e5 := hp.of (k := 5) rfl
      have hf := he.h0
      replace hf := hf.more he 16 rfl (onP e5)
      refine stP hf rfl rfl rfl (pM rfl) fun a hf => ?_
      refine cNil ?_
      refine xThenN ?_
      intro ds u hau
      refine ⟨θ, he.put0 hi hau hf rfl 17 rfl rfl, ?_⟩
      exact hc
    · intro E θ a w hD hi hp he hc
      have e6 := hp.of (k := 6) rfl
      rcases boolEq ((r_5.2 == 0) && (r_6.2.2 == 0)) with hb | hb
      · have hf := he.h0
        replace hf := hf.more he 2 rfl onT
        replace hf := hf.more he 17 rfl (onP e6)
        replace hf := castB hb hf
        refine stP hf rfl rfl rfl (pM rfl) fun a hf => ?_
        replace hf := castI (u := undef) hb hf
        refine cNil ?_
        refine xThenN ?_
        intro ds u hau
        refine ⟨θ, he.put0 hi hau hf rfl 18 rfl rfl, ?_⟩
        exact hc
      · have hf := he.h0
        replace hf := hf.more he 2 rfl onT
        replace hf := hf.more he 17 rfl (onP e6)
        replace hf := castB hb hf
        refine stS hf rfl rfl rfl fun a hf => ?_
        replace hf := castJ (u := .int .i64 r_7.2) hb hf
        refine cNil ?_
        refine xThenN ?_
        intro ds u hau
        refine ⟨θ, he.put0 hi hau hf rfl 18 rfl rfl, ?_⟩
        exact hc
    · intro E θ a w hD hi hp he hc
      have e6 := hp.of (k := 6) rfl
      have e7 := hp.of (k := 7) rfl
      rcases boolEq ((r_5.2 == 0) && (r_6.2.2 == 0)) with hb | hb
      · have hf := he.h0
        replace hf := hf.more he 17 rfl (onP e6)
        replace hf := castB hb hf
        replace hf := hf.more he 18 rfl (onP e7)
        replace hf := castCT hb hf
        refine stP hf rfl rfl rfl (pEq rfl rfl) fun a hf => ?_
        replace hf := castI (u := undef) hb hf
        refine cNil ?_
        refine xThenN ?_
        intro ds u hau
        refine ⟨θ, he.put0 hi hau hf rfl 19 rfl rfl, ?_⟩
        exact hc
      · have hf := he.h0
        replace hf := hf.more he 17 rfl (onP e6)
        replace hf := castB hb hf
        replace hf := hf.more he 18 rfl (onP e7)
        replace hf := castCF hb hf
        refine stS hf rfl rfl rfl fun a hf => ?_
        replace hf := castJ (u := .bool (r_7.2 == 0)) hb hf
        refine cNil ?_
        refine xThenN ?_
        intro ds u hau
        refine ⟨θ, he.put0 hi hau hf rfl 19 rfl rfl, ?_⟩
        exact hc
    · intro E θ a w hD hi hp he hc
      have e6 := hp.of (k := 6) rfl
      have e8 := hp.of (k := 8) rfl
      rcases boolEq ((r_5.2 == 0) && (r_6.2.2 == 0)) with hb | hb
      · have hf := he.h0
        replace hf := hf.more he 17 rfl (onP e6)
        replace hf := castB hb hf
        replace hf := hf.more he 19 rfl (onP e8)
        replace hf := castCT hb hf
        refine stP hf rfl rfl rfl (pPt rfl rfl) fun a hf => ?_
        replace hf := castV (v' := .bool (((r_5.2 == 0) && (r_6.2.2 == 0)) && (r_7.2 == 0))) (congrArg Value.bool (andT hb)) hf
        refine cNil ?_
        refine xThenN ?_
        intro ds u hau
        refine ⟨θ, he.put0 hi hau hf rfl 20 rfl rfl, ?_⟩
        exact hc
      · have hf := he.h0
        replace hf := hf.more he 17 rfl (onP e6)
        replace hf := castB hb hf
        replace hf := hf.more he 19 rfl (onP e8)
        replace hf := castCF hb hf
        refine stP hf rfl rfl rfl (pPf rfl rfl) fun a hf => ?_
        replace hf := castV (v' := .bool (((r_5.2 == 0) && (r_6.2.2 == 0)) && (r_7.2 == 0))) (congrArg Value.bool (andF hb)) hf
        refine cNil ?_
        refine xThenN ?_
        intro ds u hau
        refine ⟨θ, he.put0 hi hau hf rfl 20 rfl rfl, ?_⟩
        exact hc
    · intro E θ a w hD hi hp he hc
      have e9 := hp.of (k := 9) rfl
      have hf := he.h0
      replace hf := hf.more he 20 rfl (onP e9)
      refine stP hf rfl rfl rfl (pM rfl) fun a hf => ?_
      refine cNil ?_
      refine xThenN ?_
      intro ds u hau
      refine ⟨θ, he.put0 hi hau hf rfl 21 rfl rfl, ?_⟩
      exact hc
    · intro E θ a w hD hi hp he hc
      have e10 := hp.of (k := 10) rfl
      rcases boolEq (((r_5.2 == 0) && (r_6.2.2 == 0)) && (r_7.2 == 0)) with hb | hb
      · have hf := he.h0
        replace hf := hf.more he 3 rfl onT
        replace hf := hf.more he 21 rfl (onP e10)
        replace hf := castB hb hf
        refine stP hf rfl rfl rfl (pM rfl) fun a hf => ?_
        replace hf := castI (u := undef) hb hf
        refine cNil ?_
        refine xThenN ?_
        intro ds u hau
        refine ⟨θ, he.put0 hi hau hf rfl 22 rfl rfl, ?_⟩
        exact hc
      · have hf := he.h0
        replace hf := hf.more he 3 rfl onT
        replace hf := hf.more he 21 rfl (onP e10)
        replace hf := castB hb hf
        refine stS hf rfl rfl rfl fun a hf => ?_
        replace hf := castJ (u := .int .i64 r_8.2) hb hf
        refine cNil ?_
        refine xThenN ?_
        intro ds u hau
        refine ⟨θ, he.put0 hi hau hf rfl 22 rfl rfl, ?_⟩
        exact hc
    · intro E θ a w hD hi hp he hc
      have e10 := hp.of (k := 10) rfl
      have e11 := hp.of (k := 11) rfl
      rcases boolEq (((r_5.2 == 0) && (r_6.2.2 == 0)) && (r_7.2 == 0)) with hb | hb
      · have hf := he.h0
        replace hf := hf.more he 21 rfl (onP e10)
        replace hf := castB hb hf
        replace hf := hf.more he 22 rfl (onP e11)
        replace hf := castCT hb hf
        refine stP hf rfl rfl rfl (pEq rfl rfl) fun a hf => ?_
        replace hf := castI (u := undef) hb hf
        refine cNil ?_
        refine xThenN ?_
        intro ds u hau
        refine ⟨θ, he.put0 hi hau hf rfl 23 rfl rfl, ?_⟩
        exact hc
      · have hf := he.h0
        replace hf := hf.more he 21 rfl (onP e10)
        replace hf := castB hb hf
        replace hf := hf.more he 22 rfl (onP e11)
        replace hf := castCF hb hf
        refine stS hf rfl rfl rfl fun a hf => ?_
        replace hf := castJ (u := .bool (r_8.2 == 0)) hb hf
        refine cNil ?_
        refine xThenN ?_
        intro ds u hau
        refine ⟨θ, he.put0 hi hau hf rfl 23 rfl rfl, ?_⟩
        exact hc
    · intro E θ a w hD hi hp he hc
      have e10 := hp.of (k := 10) rfl
      have e12 := hp.of (k := 12) rfl
      rcases boolEq (((r_5.2 == 0) && (r_6.2.2 == 0)) && (r_7.2 == 0)) with hb | hb
      · have hf := he.h0
        replace hf := hf.more he 21 rfl (onP e10)
        replace hf := castB hb hf
        replace hf := hf.more he 23 rfl (onP e12)
        replace hf := castCT hb hf
        refine stP hf rfl rfl rfl (pPt rfl rfl) fun a hf => ?_
        replace hf := castV (v' := .bool ((((r_5.2 == 0) && (r_6.2.2 == 0)) && (r_7.2 == 0)) && (r_8.2 == 0))) (congrArg Value.bool (andT hb)) hf
        refine cNil ?_
        refine xThenN ?_
        intro ds u hau
        refine ⟨θ, he.put0 hi hau hf rfl 24 rfl rfl, ?_⟩
        exact hc
      · have hf := he.h0
        replace hf := hf.more he 21 rfl (onP e10)
        replace hf := castB hb hf
        replace hf := hf.more he 23 rfl (onP e12)
        replace hf := castCF hb hf
        refine stP hf rfl rfl rfl (pPf rfl rfl) fun a hf => ?_
        replace hf := castV (v' := .bool ((((r_5.2 == 0) && (r_6.2.2 == 0)) && (r_7.2 == 0)) && (r_8.2 == 0))) (congrArg Value.bool (andF hb)) hf
        refine cNil ?_
        refine xThenN ?_
        intro ds u hau
        refine ⟨θ, he.put0 hi hau hf rfl 24 rfl rfl, ?_⟩
        exact hc
    · intro E θ a w hD hi hp he hc
      have e13 := hp.of (k := 13) rfl
      have hf := he.h0
      replace hf := hf.more he 24 rfl (onP e13)
      refine stP hf rfl rfl rfl (pM rfl) fun a hf => ?_
      refine cNil ?_
      refine xThenN ?_
      intro ds u hau
      refine ⟨θ, he.put0 hi hau hf rfl 25 rfl rfl, ?_⟩
      exact hc
    · intro E θ a w hD hi hp he hc
      have e14 := hp.of (k := 14) rfl
      rcases boolEq ((((r_5.2 == 0) && (r_6.2.2 == 0)) && (r_7.2 == 0)) && (r_8.2 == 0)) with hb | hb
      · have hf := he.h0
        replace hf := hf.more he 10 rfl onT
        replace hf := hf.more he 25 rfl (onP e14)
        replace hf := castB hb hf
        refine stP hf rfl rfl rfl (pM rfl) fun a hf => ?_
        replace hf := castI (u := undef) hb hf
        refine cNil ?_
        refine xThenN ?_
        intro ds u hau
        refine ⟨θ, he.put0 hi hau hf rfl 26 rfl rfl, ?_⟩
        exact hc
      · have hf := he.h0
        replace hf := hf.more he 10 rfl onT
        replace hf := hf.more he 25 rfl (onP e14)
        replace hf := castB hb hf
        refine stS hf rfl rfl rfl fun a hf => ?_
        replace hf := castJ (u := .int .i64 r_9.2) hb hf
        refine cNil ?_
        refine xThenN ?_
        intro ds u hau
        refine ⟨θ, he.put0 hi hau hf rfl 26 rfl rfl, ?_⟩
        exact hc
    · intro E θ a w hD hi hp he hc
      have e14 := hp.of (k := 14) rfl
      have e15 := hp.of (k := 15) rfl
      rcases boolEq ((((r_5.2 == 0) && (r_6.2.2 == 0)) && (r_7.2 == 0)) && (r_8.2 == 0)) with hb | hb
      · have hf := he.h0
        replace hf := hf.more he 25 rfl (onP e14)
        replace hf := castB hb hf
        replace hf := hf.more he 26 rfl (onP e15)
        replace hf := castCT hb hf
        refine stP hf rfl rfl rfl (pEq rfl rfl) fun a hf => ?_
        replace hf := castI (u := undef) hb hf
        refine cNil ?_
        refine xThenN ?_
        intro ds u hau
        refine ⟨θ, he.put0 hi hau hf rfl 27 rfl rfl, ?_⟩
        exact hc
      · have hf := he.h0
        replace hf := hf.more he 25 rfl (onP e14)
        replace hf := castB hb hf
        replace hf := hf.more he 26 rfl (onP e15)
        replace hf := castCF hb hf
        refine stS hf rfl rfl rfl fun a hf => ?_
        replace hf := castJ (u := .bool (r_9.2 == 0)) hb hf
        refine cNil ?_
        refine xThenN ?_
        intro ds u hau
        refine ⟨θ, he.put0 hi hau hf rfl 27 rfl rfl, ?_⟩
        exact hc
    · intro E θ a w hD hi hp he hc
      have e14 := hp.of (k := 14) rfl
      have e16 := hp.of (k := 16) rfl
      rcases boolEq ((((r_5.2 == 0) && (r_6.2.2 == 0)) && (r_7.2 == 0)) && (r_8.2 == 0)) with hb | hb
      · have hf := he.h0
        replace hf := hf.more he 25 rfl (onP e14)
        replace hf := castB hb hf
        replace hf := hf.more he 27 rfl (onP e16)
        replace hf := castCT hb hf
        refine stP hf rfl rfl rfl (pPt rfl rfl) fun a hf => ?_
        replace hf := castV (v' := .bool (((((r_5.2 == 0) && (r_6.2.2 == 0)) && (r_7.2 == 0)) && (r_8.2 == 0)) && (r_9.2 == 0))) (congrArg Value.bool (andT hb)) hf
        refine cNil ?_
        refine xThenN ?_
        intro ds u hau
        refine ⟨θ, he.put0 hi hau hf rfl 28 rfl rfl, ?_⟩
        exact hc
      · have hf := he.h0
        replace hf := hf.more he 25 rfl (onP e14)
        replace hf := castB hb hf
        replace hf := hf.more he 27 rfl (onP e16)
        replace hf := castCF hb hf
        refine stP hf rfl rfl rfl (pPf rfl rfl) fun a hf => ?_
        replace hf := castV (v' := .bool (((((r_5.2 == 0) && (r_6.2.2 == 0)) && (r_7.2 == 0)) && (r_8.2 == 0)) && (r_9.2 == 0))) (congrArg Value.bool (andF hb)) hf
        refine cNil ?_
        refine xThenN ?_
        intro ds u hau
        refine ⟨θ, he.put0 hi hau hf rfl 28 rfl rfl, ?_⟩
        exact hc
    · intro E θ a w hD hi hp he hc
      have e17 := hp.of (k := 17) rfl
      have hf := he.h0
      replace hf := hf.more he 28 rfl (onP e17)
      refine stP hf rfl rfl rfl (pM rfl) fun a hf => ?_
      refine cNil ?_
      refine xThenN ?_
      intro ds u hau
      refine ⟨θ, he.put0 hi hau hf rfl 29 rfl rfl, ?_⟩
      exact hc
    · intro E θ a w hD hi hp he hc
      have e18 := hp.of (k := 18) rfl
      rcases boolEq (((((r_5.2 == 0) && (r_6.2.2 == 0)) && (r_7.2 == 0)) && (r_8.2 == 0)) && (r_9.2 == 0)) with hb | hb
      · have hf := he.h0
        replace hf := hf.more he 4 rfl onT
        replace hf := hf.more he 29 rfl (onP e18)
        replace hf := castB hb hf
        refine stP hf rfl rfl rfl (pM rfl) fun a hf => ?_
        replace hf := castI (u := undef) hb hf
        refine cNil ?_
        refine xThenN ?_
        intro ds u hau
        refine ⟨θ, he.put0 hi hau hf rfl 30 rfl rfl, ?_⟩
        exact hc
      · have hf := he.h0
        replace hf := hf.more he 4 rfl onT
        replace hf := hf.more he 29 rfl (onP e18)
        replace hf := castB hb hf
        refine stS hf rfl rfl rfl fun a hf => ?_
        replace hf := castJ (u := .slice p_3 r_5.1.length c_3) hb hf
        refine cNil ?_
        refine xThenN ?_
        intro ds u hau
        refine ⟨θ, he.put0 hi hau hf rfl 30 rfl rfl, ?_⟩
        exact hc
    · intro E θ a w hD hi hp he hc
      have e18 := hp.of (k := 18) rfl
      rcases boolEq (((((r_5.2 == 0) && (r_6.2.2 == 0)) && (r_7.2 == 0)) && (r_8.2 == 0)) && (r_9.2 == 0)) with hb | hb
      · have hf := he.h0
        replace hf := hf.more he 29 rfl (onP e18)
        replace hf := castB hb hf
        refine stP hf rfl rfl rfl (pBuildS (cells := [.int .i64 2, .int .i64 4]) bt_50 rfl rfl) fun a hf => ?_
        replace hf := castI (u := undef) hb hf
        refine cNil ?_
        refine xThenN ?_
        intro ds u hau
        refine ⟨θ, he.put0 hi hau hf rfl 31 rfl rfl, ?_⟩
        exact hc
      · have hf := he.h0
        replace hf := hf.more he 29 rfl (onP e18)
        replace hf := castB hb hf
        refine stS hf rfl rfl rfl fun a hf => ?_
        replace hf := castJ (u := .agg #[.int .i64 2, .int .i64 4]) hb hf
        refine cNil ?_
        refine xThenN ?_
        intro ds u hau
        refine ⟨θ, he.put0 hi hau hf rfl 31 rfl rfl, ?_⟩
        exact hc
    · intro E θ a w hD hi hp he hc
      have e18 := hp.of (k := 18) rfl
      rcases boolEq (((((r_5.2 == 0) && (r_6.2.2 == 0)) && (r_7.2 == 0)) && (r_8.2 == 0)) && (r_9.2 == 0)) with hb | hb
      · have hf := he.h0
        replace hf := hf.more he 29 rfl (onP e18)
        replace hf := castB hb hf
        refine stP hf rfl rfl rfl (pBuildS (cells := [.int .i64 0, .int .i64 0]) bt_50 rfl rfl) fun a hf => ?_
        replace hf := castI (u := undef) hb hf
        refine cNil ?_
        refine xThenN ?_
        intro ds u hau
        refine ⟨θ, he.put0 hi hau hf rfl 32 rfl rfl, ?_⟩
        exact hc
      · have hf := he.h0
        replace hf := hf.more he 29 rfl (onP e18)
        replace hf := castB hb hf
        refine stS hf rfl rfl rfl fun a hf => ?_
        replace hf := castJ (u := .agg #[.int .i64 0, .int .i64 0]) hb hf
        refine cNil ?_
        refine xThenN ?_
        intro ds u hau
        refine ⟨θ, he.put0 hi hau hf rfl 32 rfl rfl, ?_⟩
        exact hc
    · intro E θ a w hD hi hp he hc
      have e18 := hp.of (k := 18) rfl
      rcases boolEq (((((r_5.2 == 0) && (r_6.2.2 == 0)) && (r_7.2 == 0)) && (r_8.2 == 0)) && (r_9.2 == 0)) with hb | hb
      · have hf := he.h0
        replace hf := hf.more he 29 rfl (onP e18)
        replace hf := castB hb hf
        refine stP hf rfl rfl rfl (pBuildS (cells := [.int .i64 3, .int .i64 8]) bt_50 rfl rfl) fun a hf => ?_
        replace hf := castI (u := undef) hb hf
        refine cNil ?_
        refine xThenN ?_
        intro ds u hau
        refine ⟨θ, he.put0 hi hau hf rfl 33 rfl rfl, ?_⟩
        exact hc
      · have hf := he.h0
        replace hf := hf.more he 29 rfl (onP e18)
        replace hf := castB hb hf
        refine stS hf rfl rfl rfl fun a hf => ?_
        replace hf := castJ (u := .agg #[.int .i64 3, .int .i64 8]) hb hf
        refine cNil ?_
        refine xThenN ?_
        intro ds u hau
        refine ⟨θ, he.put0 hi hau hf rfl 33 rfl rfl, ?_⟩
        exact hc
    · intro E θ a w hD hi hp he hc
      have e18 := hp.of (k := 18) rfl
      have e20 := hp.of (k := 20) rfl
      have e21 := hp.of (k := 21) rfl
      have e22 := hp.of (k := 22) rfl
      try dsimp only at hc
      rw [hi] at hc
      rcases boolEq (((((r_5.2 == 0) && (r_6.2.2 == 0)) && (r_7.2 == 0)) && (r_8.2 == 0)) && (r_9.2 == 0)) with hb | hb
      · have hf := he.h0
        replace hf := hf.more he 29 rfl (onP e18)
        replace hf := castB hb hf
        replace hf := hf.more he 31 rfl (onP e20)
        replace hf := castCT hb hf
        replace hf := hf.more he 32 rfl (onP e21)
        replace hf := castCT hb hf
        replace hf := hf.more he 33 rfl (onP e22)
        replace hf := castCT hb hf
        refine stBS (rows := ([(⟨2, 4⟩ : api_Span), (⟨0, 0⟩ : api_Span), (⟨3, 8⟩ : api_Span)] : List api_Span).map enc_api_Span) (vs := [(0, .agg #[.int .i64 2, .int .i64 4]), (1, .agg #[.int .i64 0, .int .i64 0]), (2, .agg #[.int .i64 3, .int .i64 8])]) hf hc rfl rfl sl_44 rfl ⟨rfl, rfl, rfl, rfl, rfl, rfl, rfl, rfl, rfl, trivial⟩ rfl rfl fun b_8 a w hf hc => ?_
        replace hf := castI (u := undef) hb hf
        refine cNil ?_
        refine xThenN ?_
        intro ds u hau
        replace hc := hc.drop k3
        replace hc := hc.pick k0
        replace hc := hc.pick k2
        replace hc := hc.pick k2
        refine ⟨(setT θ 184 ⟨b_8, none, 0⟩), he.put hi hau hf rfl [] trivial ⟨qq, qq, qq, qq, qq, qq, qq, qq, qq, qq, qq, qq, qq, qq, qq, qq, qq, qq, qq, qq, qq, qq, qq, qq, qq, qq, qq, qq, qq, qq, qq, qq, qq, qq, qq, qq, qq, qq, qq, qq, qq, qq, qq, qq, qq, qq, qq, qq, qq, qq, qq, qq, qq, qq, qq, qq, qq, qq, qq, qq, qq, qq, qq, qq, trivial⟩, ?_⟩
        try dsimp only
        rw [updE_self E 23]
        rw [gE_T hb]
        exact hc
      · have hf := he.h0
        replace hf := hf.more he 29 rfl (onP e18)
        replace hf := castB hb hf
        replace hf := hf.more he 31 rfl (onP e20)
        replace hf := castCF hb hf
        replace hf := hf.more he 32 rfl (onP e21)
        replace hf := castCF hb hf
        replace hf := hf.more he 33 rfl (onP e22)
        replace hf := castCF hb hf
        refine stS hf rfl rfl rfl fun a hf => ?_
        replace hf := castJ (u := .slice (some ⟨(θ 184).b, 0, none⟩) 3 3) hb hf
        refine cNil ?_
        refine xThenN ?_
        intro ds u hau
        refine ⟨θ, he.put0 hi hau hf rfl 34 rfl rfl, ?_⟩
        try dsimp only
        rw [updE_self E 23]
        rw [gE_F hb]
        exact hc
    · intro E θ a w hD hi hp he hc
      have e18 := hp.of (k := 18) rfl
      have e19 := hp.of (k := 19) rfl
      have e23 := hp.of (k := 23) rfl
      try dsimp only at hc
      rw [e23] at hc
      rcases boolEq (((((r_5.2 == 0) && (r_6.2.2 == 0)) && (r_7.2 == 0)) && (r_8.2 == 0)) && (r_9.2 == 0)) with hb | hb
      · have hf := he.h0
        replace hf := hf.more he 29 rfl (onP e18)
        replace hf := castB hb hf
        replace hf := hf.more he 30 rfl (onP e19)
        replace hf := castCT hb hf
        replace hf := hf.more he 34 rfl (onP e23)
        replace hf := castCT hb hf
        rw [gE_T hb] at hc
        refine stE hf hc rfl rfl rfl (eC (v := .bool r_10) (vs := [.slice p_3 r_5.1.length c_3, .slice (some ⟨(θ 184).b, 0, none⟩) 3 3]) (caps := []) en_24 rfl rfl rfl rfl (fun w hc => by obtain ⟨G1, hle1, hrd1, hc, hth1⟩ := lend hc k9; obtain ⟨G2, hle2, hrd2, hc, hth2⟩ := lend hc k2; exact (kit_Same_api_Span_ok r_5.1 ([(⟨2, 4⟩ : api_Span), (⟨0, 0⟩ : api_Span), (⟨3, 8⟩ : api_Span)] : List api_Span) (hrd1.mono hle2) hrd2 hc (condT hb hr_10)).mono fun e w h => ⟨h.1, ((hth1 _ _ ((hth2 _ _ h.2).unpick k2)).unpick k9)⟩)) fun a w hf hc => ?_
        replace hf := castI (u := undef) hb hf
        refine cNil ?_
        refine xThenN ?_
        intro ds u hau
        refine ⟨θ, he.put0 hi hau hf rfl 35 rfl rfl, ?_⟩
        try dsimp only
        rw [updE_tru 24 e23]
        rw [gE_T hb]
        exact hc
      · have hf := he.h0
        replace hf := hf.more he 29 rfl (onP e18)
        replace hf := castB hb hf
        replace hf := hf.more he 30 rfl (onP e19)
        replace hf := castCF hb hf
        replace hf := hf.more he 34 rfl (onP e23)
        replace hf := castCF hb hf
        rw [gE_F hb] at hc
        refine stS hf rfl rfl rfl fun a hf => ?_
        replace hf := castJ (u := .bool r_10) hb hf
        refine cNil ?_
        refine xThenN ?_
        intro ds u hau
        refine ⟨θ, he.put0 hi hau hf rfl 35 rfl rfl, ?_⟩
        try dsimp only
        rw [updE_tru 24 e23]
        rw [gE_F hb]
        exact hc
    · intro E θ a w hD hi hp he hc
      have e18 := hp.of (k := 18) rfl
      have e24 := hp.of (k := 24) rfl
      rcases boolEq (((((r_5.2 == 0) && (r_6.2.2 == 0)) && (r_7.2 == 0)) && (r_8.2 == 0)) && (r_9.2 == 0)) with hb | hb
      · have hf := he.h0
        replace hf := hf.more he 29 rfl (onP e18)
        replace hf := castB hb hf
        replace hf := hf.more he 35 rfl (onP e24)
        replace hf := castCT hb hf
        refine stP hf rfl rfl rfl (pPt rfl rfl) fun a hf => ?_
        replace hf := castV (v' := .bool ((((((r_5.2 == 0) && (r_6.2.2 == 0)) && (r_7.2 == 0)) && (r_8.2 == 0)) && (r_9.2 == 0)) && r_10)) (congrArg Value.bool (andT hb)) hf
        refine cNil ?_
        refine xThenN ?_
        intro ds u hau
        refine ⟨θ, he.put0 hi hau hf rfl 36 rfl rfl, ?_⟩
        exact hc
      · have hf := he.h0
        replace hf := hf.more he 29 rfl (onP e18)
        replace hf := castB hb hf
        replace hf := hf.more he 35 rfl (onP e24)
        replace hf := castCF hb hf
        refine stP hf rfl rfl rfl (pPf rfl rfl) fun a hf => ?_
        replace hf := castV (v' := .bool ((((((r_5.2 == 0) && (r_6.2.2 == 0)) && (r_7.2 == 0)) && (r_8.2 == 0)) && (r_9.2 == 0)) && r_10)) (congrArg Value.bool (andF hb)) hf
        refine cNil ?_
        refine xThenN ?_
        intro ds u hau
        refine ⟨θ, he.put0 hi hau hf rfl 36 rfl rfl, ?_⟩
        exact hc
    · intro E θ a w hD hi hp he hc
      have e25 := hp.of (k := 25) rfl
      have hf := he.h0
      replace hf := hf.more he 36 rfl (onP e25)
      refine stP hf rfl rfl rfl (pM rfl) fun a hf => ?_
      refine cNil ?_
      refine xThenN ?_
      intro ds u hau
      refine ⟨θ, he.put0 hi hau hf rfl 37 rfl rfl, ?_⟩
      exact hc
    · intro E θ a w hD hi hp he hc
      have e26 := hp.of (k := 26) rfl
      rcases boolEq ((((((r_5.2 == 0) && (r_6.2.2 == 0)) && (r_7.2 == 0)) && (r_8.2 == 0)) && (r_9.2 == 0)) && r_10) with hb | hb
      · have hf := he.h0
        replace hf := hf.more he 5 rfl onT
        replace hf := hf.more he 37 rfl (onP e26)
        replace hf := castB hb hf
        refine stP hf rfl rfl rfl (pM rfl) fun a hf => ?_
        replace hf := castI (u := undef) hb hf
        refine cNil ?_
        refine xThenN ?_
        intro ds u hau
        refine ⟨θ, he.put0 hi hau hf rfl 38 rfl rfl, ?_⟩
        exact hc
      · have hf := he.h0
        replace hf := hf.more he 5 rfl onT
        replace hf := hf.more he 37 rfl (onP e26)
        replace hf := castB hb hf
        refine stS hf rfl rfl rfl fun a hf => ?_
        replace hf := castJ (u := .slice p_4 r_6.1.length c_4) hb hf
        refine cNil ?_
        refine xThenN ?_
        intro ds u hau
        refine ⟨θ, he.put0 hi hau hf rfl 38 rfl rfl, ?_⟩
        exact hc
    · intro E θ a w hD hi hp he hc
      have e26 := hp.of (k := 26) rfl
      try dsimp only at hc
      rw [hi] at hc
      rcases boolEq ((((((r_5.2 == 0) && (r_6.2.2 == 0)) && (r_7.2 == 0)) && (r_8.2 == 0)) && (r_9.2 == 0)) && r_10) with hb | hb
      · have hf := he.h0
        replace hf := hf.more he 37 rfl (onP e26)
        replace hf := castB hb hf
        refine stBS (rows := ([2, 0, 3] : List Int).map encI_i64) (vs := [(0, .int .i64 2), (1, .int .i64 0), (2, .int .i64 3)]) hf hc rfl rfl sl_61 rfl ⟨rfl, rfl, rfl, rfl, rfl, rfl, rfl, rfl, rfl, trivial⟩ rfl rfl fun b_9 a w hf hc => ?_
        replace hf := castI (u := undef) hb hf
        refine cNil ?_
        refine xThenN ?_
        intro ds u hau
        replace hc := hc.drop k2
        replace hc := hc.pick k0
        replace hc := hc.pick k1
        refine ⟨(setT θ 224 ⟨b_9, none, 0⟩), he.put hi hau hf rfl [] trivial ⟨qq, qq, qq, qq, qq, qq, qq, qq, qq, qq, qq, qq, qq, qq, qq, qq, qq, qq, qq, qq, qq, qq, qq, qq, qq, qq, qq, qq, qq, qq, qq, qq, qq, qq, qq, qq, qq, qq, qq, qq, qq, qq, qq, qq, qq, qq, qq, qq, qq, qq, qq, qq, qq, qq, qq, qq, qq, qq, qq, qq, qq, qq, qq, qq, trivial⟩, ?_⟩
        try dsimp only
        rw [updE_self E 28]
        rw [gE_T hb]
        exact hc
      · have hf := he.h0
        replace hf := hf.more he 37 rfl (onP e26)
        replace hf := castB hb hf
        refine stS hf rfl rfl rfl fun a hf => ?_
        replace hf := castJ (u := .slice (some ⟨(θ 224).b, 0, none⟩) 3 3) hb hf
        refine cNil ?_
        refine xThenN ?_
        intro ds u hau
        refine ⟨θ, he.put0 hi hau hf rfl 39 rfl rfl, ?_⟩
        try dsimp only
        rw [updE_self E 28]
        rw [gE_F hb]
        exact hc
    · intro E θ a w hD hi hp he hc
      have e26 := hp.of (k := 26) rfl
      have e27 := hp.of (k := 27) rfl
      have e28 := hp.of (k := 28) rfl
      try dsimp only at hc
      rw [e28] at hc
      rcases boolEq ((((((r_5.2 == 0) && (r_6.2.2 == 0)) && (r_7.2 == 0)) && (r_8.2 == 0)) && (r_9.2 == 0)) && r_10) with hb | hb
      · have hf := he.h0
        replace hf := hf.more he 37 rfl (onP e26)
        replace hf := castB hb hf
        replace hf := hf.more he 38 rfl (onP e27)
        replace hf := castCT hb hf
        replace hf := hf.more he 39 rfl (onP e28)
        replace hf := castCT hb hf
        rw [gE_T hb] at hc
        refine stE hf hc rfl rfl rfl (eC (v := .bool r_11) (vs := [.slice p_4 r_6.1.length c_4, .slice (some ⟨(θ 224).b, 0, none⟩) 3 3]) (caps := []) en_56 rfl rfl rfl rfl (fun w hc => by obtain ⟨G1, hle1, hrd1, hc, hth1⟩ := lend hc k8; obtain ⟨G2, hle2, hrd2, hc, hth2⟩ := lend hc k1; exact (kit_Same_int_ok r_6.1 ([2, 0, 3] : List Int) (hrd1.mono hle2) hrd2 hc (condT hb hr_11)).mono fun e w h => ⟨h.1, ((hth1 _ _ ((hth2 _ _ h.2).unpick k1)).unpick k8)⟩)) fun a w hf hc => ?_
        replace hf := castI (u := undef) hb hf
        refine cNil ?_
        refine xThenN ?_
        intro ds u hau
        refine ⟨θ, he.put0 hi hau hf rfl 40 rfl rfl, ?_⟩
        try dsimp only
        rw [updE_tru 29 e28]
        rw [gE_T hb]
        exact hc
      · have hf := he.h0
        replace hf := hf.more he 37 rfl (onP e26)
        replace hf := castB hb hf
        replace hf := hf.more he 38 rfl (onP e27)
        replace hf := castCF hb hf
        replace hf := hf.more he 39 rfl (onP e28)
        replace hf := castCF hb hf
        rw [gE_F hb] at hc
        refine stS hf rfl rfl rfl fun a hf => ?_
        replace hf := castJ (u := .bool r_11) hb hf
        refine cNil ?_
        refine xThenN ?_
        intro ds u hau
        refine ⟨θ, he.put0 hi hau hf rfl 40 rfl rfl, ?_⟩
        try dsimp only
        rw [updE_tru 29 e28]
        rw [gE_F hb]
        exact hc
    · intro E θ a w hD hi hp he hc
      have e26 := hp.of (k := 26) rfl
      have e29 := hp.of (k := 29) rfl
      rcases boolEq ((((((r_5.2 == 0) && (r_6.2.2 == 0)) && (r_7.2 == 0)) && (r_8.2 == 0)) && (r_9.2 == 0)) && r_10) with hb | hb
      · have hf := he.h0
        replace hf := hf.more he 37 rfl (onP e26)
        replace hf := castB hb hf
        replace hf := hf.more he 40 rfl (onP e29)
        replace hf := castCT hb hf
        refine stP hf rfl rfl rfl (pPt rfl rfl) fun a hf => ?_
        replace hf := castV (v' := .bool (((((((r_5.2 == 0) && (r_6.2.2 == 0)) && (r_7.2 == 0)) && (r_8.2 == 0)) && (r_9.2 == 0)) && r_10) && r_11)) (congrArg Value.bool (andT hb)) hf
        refine cNil ?_
        refine xThenN ?_
        intro ds u hau
        refine ⟨θ, he.put0 hi hau hf rfl 41 rfl rfl, ?_⟩
        exact hc
      · have hf := he.h0
        replace hf := hf.more he 37 rfl (onP e26)
        replace hf := castB hb hf
        replace hf := hf.more he 40 rfl (onP e29)
        replace hf := castCF hb hf
        refine stP hf rfl rfl rfl (pPf rfl rfl) fun a hf => ?_
        replace hf := castV (v' := .bool (((((((r_5.2 == 0) && (r_6.2.2 == 0)) && (r_7.2 == 0)) && (r_8.2 == 0)) && (r_9.2 == 0)) && r_10) && r_11)) (congrArg Value.bool (andF hb)) hf
        refine cNil ?_
        refine xThenN ?_
        intro ds u hau
        refine ⟨θ, he.put0 hi hau hf rfl 41 rfl rfl, ?_⟩
        exact hc
    · intro E θ a w hD hi hp he hc
      have e30 := hp.of (k := 30) rfl
      have hf := he.h0
      replace hf := hf.more he 41 rfl (onP e30)
      refine stP hf rfl rfl rfl (pM rfl) fun a hf => ?_
      refine cNil ?_
      refine xThenN ?_
      intro ds u hau
      refine ⟨θ, he.put0 hi hau hf rfl 42 rfl rfl, ?_⟩
      exact hc
    · intro E θ a w hD hi hp he hc
      have e31 := hp.of (k := 31) rfl
      rcases boolEq (((((((r_5.2 == 0) && (r_6.2.2 == 0)) && (r_7.2 == 0)) && (r_8.2 == 0)) && (r_9.2 == 0)) && r_10) && r_11) with hb | hb
      · have hf := he.h0
        replace hf := hf.more he 6 rfl onT
        replace hf := hf.more he 42 rfl (onP e31)
        replace hf := castB hb hf
        refine stP hf rfl rfl rfl (pM rfl) fun a hf => ?_
        replace hf := castI (u := undef) hb hf
        refine cNil ?_
        refine xThenN ?_
        intro ds u hau
        refine ⟨θ, he.put0 hi hau hf rfl 43 rfl rfl, ?_⟩
        exact hc
      · have hf := he.h0
        replace hf := hf.more he 6 rfl onT
        replace hf := hf.more he 42 rfl (onP e31)
        replace hf := castB hb hf
        refine stS hf rfl rfl rfl fun a hf => ?_
        replace hf := castJ (u := .int .i64 r_6.2.1) hb hf
        refine cNil ?_
        refine xThenN ?_
        intro ds u hau
        refine ⟨θ, he.put0 hi hau hf rfl 43 rfl rfl, ?_⟩
        exact hc
    · intro E θ a w hD hi hp he hc
      have e31 := hp.of (k := 31) rfl
      have e32 := hp.of (k := 32) rfl
      rcases boolEq (((((((r_5.2 == 0) && (r_6.2.2 == 0)) && (r_7.2 == 0)) && (r_8.2 == 0)) && (r_9.2 == 0)) && r_10) && r_11) with hb | hb
      · have hf := he.h0
        replace hf := hf.more he 42 rfl (onP e31)
        replace hf := castB hb hf
        replace hf := hf.more he 43 rfl (onP e32)
        replace hf := castCT hb hf
        refine stP hf rfl rfl rfl (pEq rfl rfl) fun a hf => ?_
        replace hf := castI (u := undef) hb hf
        refine cNil ?_
        refine xThenN ?_
        intro ds u hau
        refine ⟨θ, he.put0 hi hau hf rfl 44 rfl rfl, ?_⟩
        exact hc
      · have hf := he.h0
        replace hf := hf.more he 42 rfl (onP e31)
        replace hf := castB hb hf
        replace hf := hf.more he 43 rfl (onP e32)
        replace hf := castCF hb hf
        refine stS hf rfl rfl rfl fun a hf => ?_
        replace hf := castJ (u := .bool (r_6.2.1 == 5)) hb hf
        refine cNil ?_
        refine xThenN ?_
        intro ds u hau
        refine ⟨θ, he.put0 hi hau hf rfl 44 rfl rfl, ?_⟩
        exact hc
    · intro E θ a w hD hi hp he hc
      have e31 := hp.of (k := 31) rfl
      have e33 := hp.of (k := 33) rfl
      rcases boolEq (((((((r_5.2 == 0) && (r_6.2.2 == 0)) && (r_7.2 == 0)) && (r_8.2 == 0)) && (r_9.2 == 0)) && r_10) && r_11) with hb | hb
      · have hf := he.h0
        replace hf := hf.more he 42 rfl (onP e31)
        replace hf := castB hb hf
        replace hf := hf.more he 44 rfl (onP e33)
        replace hf := castCT hb hf
        refine stP hf rfl rfl rfl (pPt rfl rfl) fun a hf => ?_
        replace hf := castV (v' := .bool ((((((((r_5.2 == 0) && (r_6.2.2 == 0)) && (r_7.2 == 0)) && (r_8.2 == 0)) && (r_9.2 == 0)) && r_10) && r_11) && (r_6.2.1 == 5))) (congrArg Value.bool (andT hb)) hf
        refine cNil ?_
        refine xThenN ?_
        intro ds u hau
        refine ⟨θ, he.put0 hi hau hf rfl 45 rfl rfl, ?_⟩
        exact hc
      · have hf := he.h0
        replace hf := hf.more he 42 rfl (onP e31)
        replace hf := castB hb hf
        replace hf := hf.more he 44 rfl (onP e33)
        replace hf := castCF hb hf
        refine stP hf rfl rfl rfl (pPf rfl rfl) fun a hf => ?_
        replace hf := castV (v' := .bool ((((((((r_5.2 == 0) && (r_6.2.2 == 0)) && (r_7.2 == 0)) && (r_8.2 == 0)) && (r_9.2 == 0)) && r_10) && r_11) && (r_6.2.1 == 5))) (congrArg Value.bool (andF hb)) hf
        refine cNil ?_
        refine xThenN ?_
        intro ds u hau
        refine ⟨θ, he.put0 hi hau hf rfl 45 rfl rfl, ?_⟩
        exact hc
    · intro E θ a w hD hi hp he hc
      have e34 := hp.of (k := 34) rfl
      have hf := he.h0
      replace hf := hf.more he 45 rfl (onP e34)
      refine stP hf rfl rfl rfl (pM rfl) fun a hf => ?_
      refine cNil ?_
      refine xThenN ?_
      intro ds u hau
      refine ⟨θ, he.put0 hi hau hf rfl 46 rfl rfl, ?_⟩
      exact hc
    · intro E θ a w hD hi hp he hc
      have e35 := hp.of (k := 35) rfl
      rcases boolEq ((((((((r_5.2 == 0) && (r_6.2.2 == 0)) && (r_7.2 == 0)) && (r_8.2 == 0)) && (r_9.2 == 0)) && r_10) && r_11) && (r_6.2.1 == 5)) with hb | hb
      · have hf := he.h0
        replace hf := hf.more he 7 rfl onT
        replace hf := hf.more he 46 rfl (onP e35)
        replace hf := castB hb hf
        refine stP hf rfl rfl rfl (pM rfl) fun a hf => ?_
        replace hf := castI (u := undef) hb hf
        refine cNil ?_
        refine xThenN ?_
        intro ds u hau
        refine ⟨θ, he.put0 hi hau hf rfl 47 rfl rfl, ?_⟩
        exact hc
      · have hf := he.h0
        replace hf := hf.more he 7 rfl onT
        replace hf := hf.more he 46 rfl (onP e35)
        replace hf := castB hb hf
        refine stS hf rfl rfl rfl fun a hf => ?_
        replace hf := castJ (u := .int .i64 r_7.1) hb hf
        refine cNil ?_
        refine xThenN ?_
        intro ds u hau
        refine ⟨θ, he.put0 hi hau hf rfl 47 rfl rfl, ?_⟩
        exact hc
    · intro E θ a w hD hi hp he hc
      have e35 := hp.of (k := 35) rfl
      have e36 := hp.of (k := 36) rfl
      rcases boolEq ((((((((r_5.2 == 0) && (r_6.2.2 == 0)) && (r_7.2 == 0)) && (r_8.2 == 0)) && (r_9.2 == 0)) && r_10) && r_11) && (r_6.2.1 == 5)) with hb | hb
      · have hf := he.h0
        replace hf := hf.more he 46 rfl (onP e35)
        replace hf := castB hb hf
        replace hf := hf.more he 47 rfl (onP e36)
        replace hf := castCT hb hf
        refine stP hf rfl rfl rfl (pEq rfl rfl) fun a hf => ?_
        replace hf := castI (u := undef) hb hf
        refine cNil ?_
        refine xThenN ?_
        intro ds u hau
        refine ⟨θ, he.put0 hi hau hf rfl 48 rfl rfl, ?_⟩
        exact hc
      · have hf := he.h0
        replace hf := hf.more he 46 rfl (onP e35)
        replace hf := castB hb hf
        replace hf := hf.more he 47 rfl (onP e36)
        replace hf := castCF hb hf
        refine stS hf rfl rfl rfl fun a hf => ?_
        replace hf := castJ (u := .bool (r_7.1 == 5)) hb hf
        refine cNil ?_
        refine xThenN ?_
        intro ds u hau
        refine ⟨θ, he.put0 hi hau hf rfl 48 rfl rfl, ?_⟩
        exact hc
    · intro E θ a w hD hi hp he hc
      have e35 := hp.of (k := 35) rfl
      have e37 := hp.of (k := 37) rfl
      rcases boolEq ((((((((r_5.2 == 0) && (r_6.2.2 == 0)) && (r_7.2 == 0)) && (r_8.2 == 0)) && (r_9.2 == 0)) && r_10) && r_11) && (r_6.2.1 == 5)) with hb | hb
      · have hf := he.h0
        replace hf := hf.more he 46 rfl (onP e35)
        replace hf := castB hb hf
        replace hf := hf.more he 48 rfl (onP e37)
        replace hf := castCT hb hf
        refine stP hf rfl rfl rfl (pPt rfl rfl) fun a hf => ?_
        replace hf := castV (v' := .bool (((((((((r_5.2 == 0) && (r_6.2.2 == 0)) && (r_7.2 == 0)) && (r_8.2 == 0)) && (r_9.2 == 0)) && r_10) && r_11) && (r_6.2.1 == 5)) && (r_7.1 == 5))) (congrArg Value.bool (andT hb)) hf
        refine cNil ?_
        refine xThenN ?_
        intro ds u hau
        refine ⟨θ, he.put0 hi hau hf rfl 49 rfl rfl, ?_⟩
        exact hc
      · have hf := he.h0
        replace hf := hf.more he 46 rfl (onP e35)
        replace hf := castB hb hf
        replace hf := hf.more he 48 rfl (onP e37)
        replace hf := castCF hb hf
        refine stP hf rfl rfl rfl (pPf rfl rfl) fun a hf => ?_
        replace hf := castV (v' := .bool (((((((((r_5.2 == 0) && (r_6.2.2 == 0)) && (r_7.2 == 0)) && (r_8.2 == 0)) && (r_9.2 == 0)) && r_10) && r_11) && (r_6.2.1 == 5)) && (r_7.1 == 5))) (congrArg Value.bool (andF hb)) hf
        refine cNil ?_
        refine xThenN ?_
        intro ds u hau
        refine ⟨θ, he.put0 hi hau hf rfl 49 rfl rfl, ?_⟩
        exact hc
    · intro E θ a w hD hi hp he hc
      have e38 := hp.of (k := 38) rfl
      have hf := he.h0
      replace hf := hf.more he 49 rfl (onP e38)
      refine stP hf rfl rfl rfl (pM rfl) fun a hf => ?_
      refine cNil ?_
      refine xThenN ?_
      intro ds u hau
      refine ⟨θ, he.put0 hi hau hf rfl 50 rfl rfl, ?_⟩
      exact hc
    · intro E θ a w hD hi hp he hc
      have e39 := hp.of (k := 39) rfl
      rcases boolEq (((((((((r_5.2 == 0) && (r_6.2.2 == 0)) && (r_7.2 == 0)) && (r_8.2 == 0)) && (r_9.2 == 0)) && r_10) && r_11) && (r_6.2.1 == 5)) && (r_7.1 == 5)) with hb | hb
      · have hf := he.h0
        replace hf := hf.more he 8 rfl onT
        replace hf := hf.more he 50 rfl (onP e39)
        replace hf := castB hb hf
        refine stP hf rfl rfl rfl (pM rfl) fun a hf => ?_
        replace hf := castI (u := undef) hb hf
        refine cNil ?_
        refine xThenN ?_
        intro ds u hau
        refine ⟨θ, he.put0 hi hau hf rfl 51 rfl rfl, ?_⟩
        exact hc
      · have hf := he.h0
        replace hf := hf.more he 8 rfl onT
        replace hf := hf.more he 50 rfl (onP e39)
        replace hf := castB hb hf
        refine stS hf rfl rfl rfl fun a hf => ?_
        replace hf := castJ (u := .slice p_5 r_8.1.length c_5) hb hf
        refine cNil ?_
        refine xThenN ?_
        intro ds u hau
        refine ⟨θ, he.put0 hi hau hf rfl 51 rfl rfl, ?_⟩
        exact hc
    · intro E θ a w hD hi hp he hc
      have e39 := hp.of (k := 39) rfl
      rcases boolEq (((((((((r_5.2 == 0) && (r_6.2.2 == 0)) && (r_7.2 == 0)) && (r_8.2 == 0)) && (r_9.2 == 0)) && r_10) && r_11) && (r_6.2.1 == 5)) && (r_7.1 == 5)) with hb | hb
      · have hf := he.h0
        replace hf := hf.more he 50 rfl (onP e39)
        replace hf := castB hb hf
        refine stP hf rfl rfl rfl (pBuildS (cells := [.int .i64 2, .int .i64 3]) bt_50 rfl rfl) fun a hf => ?_
        replace hf := castI (u := undef) hb hf
        refine cNil ?_
        refine xThenN ?_
        intro ds u hau
        refine ⟨θ, he.put0 hi hau hf rfl 52 rfl rfl, ?_⟩
        exact hc
      · have hf := he.h0
        replace hf := hf.more he 50 rfl (onP e39)
        replace hf := castB hb hf
        refine stS hf rfl rfl rfl fun a hf => ?_
        replace hf := castJ (u := .agg #[.int .i64 2, .int .i64 3]) hb hf
        refine cNil ?_
        refine xThenN ?_
        intro ds u hau
        refine ⟨θ, he.put0 hi hau hf rfl 52 rfl rfl, ?_⟩
        exact hc
    · intro E θ a w hD hi hp he hc
      have e39 := hp.of (k := 39) rfl
      rcases boolEq (((((((((r_5.2 == 0) && (r_6.2.2 == 0)) && (r_7.2 == 0)) && (r_8.2 == 0)) && (r_9.2 == 0)) && r_10) && r_11) && (r_6.2.1 == 5)) && (r_7.1 == 5)) with hb | hb
      · have hf := he.h0
        replace hf := hf.more he 50 rfl (onP e39)
        replace hf := castB hb hf
        refine stP hf rfl rfl rfl (pBuildS (cells := [.int .i64 0, .int .i64 0]) bt_50 rfl rfl) fun a hf => ?_
        replace hf := castI (u := undef) hb hf
        refine cNil ?_
        refine xThenN ?_
        intro ds u hau
        refine ⟨θ, he.put0 hi hau hf rfl 53 rfl rfl, ?_⟩
        exact hc
      · have hf := he.h0
        replace hf := hf.more he 50 rfl (onP e39)
        replace hf := castB hb hf
        refine stS hf rfl rfl rfl fun a hf => ?_
        replace hf := castJ (u := .agg #[.int .i64 0, .int .i64 0]) hb hf
        refine cNil ?_
        refine xThenN ?_
        intro ds u hau
        refine ⟨θ, he.put0 hi hau hf rfl 53 rfl rfl, ?_⟩
        exact hc
    · intro E θ a w hD hi hp he hc
      have e39 := hp.of (k := 39) rfl
      rcases boolEq (((((((((r_5.2 == 0) && (r_6.2.2 == 0)) && (r_7.2 == 0)) && (r_8.2 == 0)) && (r_9.2 == 0)) && r_10) && r_11) && (r_6.2.1 == 5)) && (r_7.1 == 5)) with hb | hb
      · have hf := he.h0
        replace hf := hf.more he 50 rfl (onP e39)
        replace hf := castB hb hf
        refine stP hf rfl rfl rfl (pBuildS (cells := [.int .i64 3, .int .i64 4]) bt_50 rfl rfl) fun a hf => ?_
        replace hf := castI (u := undef) hb hf
        refine cNil ?_
        refine xThenN ?_
        intro ds u hau
        refine ⟨θ, he.put0 hi hau hf rfl 54 rfl rfl, ?_⟩
        exact hc
      · have hf := he.h0
        replace hf := hf.more he 50 rfl (onP e39)
        replace hf := castB hb hf
        refine stS hf rfl rfl rfl fun a hf => ?_
        replace hf := castJ (u := .agg #[.int .i64 3, .int .i64 4]) hb hf
        refine cNil ?_
        refine xThenN ?_
        intro ds u hau
        refine ⟨θ, he.put0 hi hau hf rfl 54 rfl rfl, ?_⟩
        exact hc
    · intro E θ a w hD hi hp he hc
      have e39 := hp.of (k := 39) rfl
      have e41 := hp.of (k := 41) rfl
      have e42 := hp.of (k := 42) rfl
      have e43 := hp.of (k := 43) rfl
      try dsimp only at hc
      rw [hi] at hc
      rcases boolEq (((((((((r_5.2 == 0) && (r_6.2.2 == 0)) && (r_7.2 == 0)) && (r_8.2 == 0)) && (r_9.2 == 0)) && r_10) && r_11) && (r_6.2.1 == 5)) && (r_7.1 == 5)) with hb | hb
      · have hf := he.h0
        replace hf := hf.more he 50 rfl (onP e39)
        replace hf := castB hb hf
        replace hf := hf.more he 52 rfl (onP e41)
        replace hf := castCT hb hf
        replace hf := hf.more he 53 rfl (onP e42)
        replace hf := castCT hb hf
        replace hf := hf.more he 54 rfl (onP e43)
        replace hf := castCT hb hf
        refine stBS (rows := ([(⟨2, 3⟩ : api_Span), (⟨0, 0⟩ : api_Span), (⟨3, 4⟩ : api_Span)] : List api_Span).map enc_api_Span) (vs := [(0, .agg #[.int .i64 2, .int .i64 3]), (1, .agg #[.int .i64 0, .int .i64 0]), (2, .agg #[.int .i64 3, .int .i64 4])]) hf hc rfl rfl sl_44 rfl ⟨rfl, rfl, rfl, rfl, rfl, rfl, rfl, rfl, rfl, trivial⟩ rfl rfl fun b_10 a w hf hc => ?_
        replace hf := castI (u := undef) hb hf
        refine cNil ?_
        refine xThenN ?_
        intro ds u hau
        replace hc := hc.drop k1
        refine ⟨(setT θ 352 ⟨b_10, none, 0⟩), he.put hi hau hf rfl [] trivial ⟨qq, qq, qq, qq, qq, qq, qq, qq, qq, qq, qq, qq, qq, qq, qq, qq, qq, qq, qq, qq, qq, qq, qq, qq, qq, qq, qq, qq, qq, qq, qq, qq, qq, qq, qq, qq, qq, qq, qq, qq, qq, qq, qq, qq, qq, qq, qq, qq, qq, qq, qq, qq, qq, qq, qq, qq, qq, qq, qq, qq, qq, qq, qq, qq, trivial⟩, ?_⟩
        try dsimp only
        rw [updE_self E 44]
        rw [gE_T hb]
        exact hc
      · have hf := he.h0
        replace hf := hf.more he 50 rfl (onP e39)
        replace hf := castB hb hf
        replace hf := hf.more he 52 rfl (onP e41)
        replace hf := castCF hb hf
        replace hf := hf.more he 53 rfl (onP e42)
        replace hf := castCF hb hf
        replace hf := hf.more he 54 rfl (onP e43)
        replace hf := castCF hb hf
        refine stS hf rfl rfl rfl fun a hf => ?_
        replace hf := castJ (u := .slice (some ⟨(θ 352).b, 0, none⟩) 3 3) hb hf
        refine cNil ?_
        refine xThenN ?_
        intro ds u hau
        refine ⟨θ, he.put0 hi hau hf rfl 55 rfl rfl, ?_⟩
        try dsimp only
        rw [updE_self E 44]
        rw [gE_F hb]
        exact hc
    · intro E θ a w hD hi hp he hc
      have e39 := hp.of (k := 39) rfl
      have e40 := hp.of (k := 40) rfl
      have e44 := hp.of (k := 44) rfl
      try dsimp only at hc
      rw [e44] at hc
      rcases boolEq (((((((((r_5.2 == 0) && (r_6.2.2 == 0)) && (r_7.2 == 0)) && (r_8.2 == 0)) && (r_9.2 == 0)) && r_10) && r_11) && (r_6.2.1 == 5)) && (r_7.1 == 5)) with hb | hb
      · have hf := he.h0
        replace hf := hf.more he 50 rfl (onP e39)
        replace hf := castB hb hf
        replace hf := hf.more he 51 rfl (onP e40)
        replace hf := castCT hb hf
        replace hf := hf.more he 55 rfl (onP e44)
        replace hf := castCT hb hf
        rw [gE_T hb] at hc
        refine stE hf hc rfl rfl rfl (eC (v := .bool r_12) (vs := [.slice p_5 r_8.1.length c_5, .slice (some ⟨(θ 352).b, 0, none⟩) 3 3]) (caps := []) en_24 rfl rfl rfl rfl (fun w hc => by obtain ⟨G1, hle1, hrd1, hc, hth1⟩ := lend hc k6; obtain ⟨G2, hle2, hrd2, hc, hth2⟩ := lend hc k0; exact (kit_Same_api_Span_ok r_8.1 ([(⟨2, 3⟩ : api_Span), (⟨0, 0⟩ : api_Span), (⟨3, 4⟩ : api_Span)] : List api_Span) (hrd1.mono hle2) hrd2 hc (condT hb hr_12)).mono fun e w h => ⟨h.1, ((hth1 _ _ ((hth2 _ _ h.2).unpick k0)).unpick k6)⟩)) fun a w hf hc => ?_
        replace hf := castI (u := undef) hb hf
        refine cNil ?_
        refine xThenN ?_
        intro ds u hau
        refine ⟨θ, he.put0 hi hau hf rfl 56 rfl rfl, ?_⟩
        try dsimp only
        rw [updE_tru 45 e44]
        rw [gE_T hb]
        exact hc
      · have hf := he.h0
        replace hf := hf.more he 50 rfl (onP e39)
        replace hf := castB hb hf
        replace hf := hf.more he 51 rfl (onP e40)
        replace hf := castCF hb hf
        replace hf := hf.more he 55 rfl (onP e44)
        replace hf := castCF hb hf
        rw [gE_F hb] at hc
        refine stS hf rfl rfl rfl fun a hf => ?_
        replace hf := castJ (u := .bool r_12) hb hf
        refine cNil ?_
        refine xThenN ?_
        intro ds u hau
        refine ⟨θ, he.put0 hi hau hf rfl 56 rfl rfl, ?_⟩
        try dsimp only
        rw [updE_tru 45 e44]
        rw [gE_F hb]
        exact hc
    · intro E θ a w hD hi hp he hc
      have e39 := hp.of (k := 39) rfl
      have e45 := hp.of (k := 45) rfl
      rcases boolEq (((((((((r_5.2 == 0) && (r_6.2.2 == 0)) && (r_7.2 == 0)) && (r_8.2 == 0)) && (r_9.2 == 0)) && r_10) && r_11) && (r_6.2.1 == 5)) && (r_7.1 == 5)) with hb | hb
      · have hf := he.h0
        replace hf := hf.more he 50 rfl (onP e39)
        replace hf := castB hb hf
        replace hf := hf.more he 56 rfl (onP e45)
        replace hf := castCT hb hf
        refine stP hf rfl rfl rfl (pPt rfl rfl) fun a hf => ?_
        replace hf := castV (v' := .bool ((((((((((r_5.2 == 0) && (r_6.2.2 == 0)) && (r_7.2 == 0)) && (r_8.2 == 0)) && (r_9.2 == 0)) && r_10) && r_11) && (r_6.2.1 == 5)) && (r_7.1 == 5)) && r_12)) (congrArg Value.bool (andT hb)) hf
        refine cNil ?_
        refine xThenN ?_
        intro ds u hau
        refine ⟨θ, he.put0 hi hau hf rfl 57 rfl rfl, ?_⟩
        exact hc
      · have hf := he.h0
        replace hf := hf.more he 50 rfl (onP e39)
        replace hf := castB hb hf
        replace hf := hf.more he 56 rfl (onP e45)
        replace hf := castCF hb hf
        refine stP hf rfl rfl rfl (pPf rfl rfl) fun a hf => ?_
        replace hf := castV (v' := .bool ((((((((((r_5.2 == 0) && (r_6.2.2 == 0)) && (r_7.2 == 0)) && (r_8.2 == 0)) && (r_9.2 == 0)) && r_10) && r_11) && (r_6.2.1 == 5)) && (r_7.1 == 5)) && r_12)) (congrArg Value.bool (andF hb)) hf
        refine cNil ?_
        refine xThenN ?_
        intro ds u hau
        refine ⟨θ, he.put0 hi hau hf rfl 57 rfl rfl, ?_⟩
        exact hc
    · intro E θ a w hD hi hp he hc
      have e46 := hp.of (k := 46) rfl
      have hf := he.h0
      replace hf := hf.more he 57 rfl (onP e46)
      refine stP hf rfl rfl rfl (pM rfl) fun a hf => ?_
      refine cNil ?_
      refine xThenN ?_
      intro ds u hau
      refine ⟨θ, he.put0 hi hau hf rfl 58 rfl rfl, ?_⟩
      exact hc
    · intro E θ a w hD hi hp he hc
      have e47 := hp.of (k := 47) rfl
      rcases boolEq ((((((((((r_5.2 == 0) && (r_6.2.2 == 0)) && (r_7.2 == 0)) && (r_8.2 == 0)) && (r_9.2 == 0)) && r_10) && r_11) && (r_6.2.1 == 5)) && (r_7.1 == 5)) && r_12) with hb | hb
      · have hf := he.h0
        replace hf := hf.more he 9 rfl onT
        replace hf := hf.more he 58 rfl (onP e47)
        replace hf := castB hb hf
        refine stE hf hc rfl rfl rfl (eLdN (vs := [.int .i64 r_9.1.Lo, .int .i64 r_9.1.Hi]) ag_50 rfl rfl (cells_box (n := 2) m3 rfl)) fun a w hf hc => ?_
        replace hf := castI (u := undef) hb hf
        refine cNil ?_
        refine xThenN ?_
        intro ds u hau
        refine ⟨θ, he.put0 hi hau hf rfl 59 rfl rfl, ?_⟩
        exact hc
      · have hf := he.h0
        replace hf := hf.more he 9 rfl onT
        replace hf := hf.more he 58 rfl (onP e47)
        replace hf := castB hb hf
        refine stS hf rfl rfl rfl fun a hf => ?_
        replace hf := castJ (u := .agg #[.int .i64 r_9.1.Lo, .int .i64 r_9.1.Hi]) hb hf
        refine cNil ?_
        refine xThenN ?_
        intro ds u hau
        refine ⟨θ, he.put0 hi hau hf rfl 59 rfl rfl, ?_⟩
        exact hc
    · intro E θ a w hD hi hp he hc
      have e47 := hp.of (k := 47) rfl
      rcases boolEq ((((((((((r_5.2 == 0) && (r_6.2.2 == 0)) && (r_7.2 == 0)) && (r_8.2 == 0)) && (r_9.2 == 0)) && r_10) && r_11) && (r_6.2.1 == 5)) && (r_7.1 == 5)) && r_12) with hb | hb
      · have hf := he.h0
        replace hf := hf.more he 58 rfl (onP e47)
        replace hf := castB hb hf
        refine stE hf hc rfl rfl rfl (eC (v := .agg #[.int .i64 r_13.Lo, .int .i64 r_13.Hi]) (vs := [.int .i64 100, .int .i64 190]) (caps := []) en_47 rfl rfl rfl rfl (fun w hc => law05_span_ok 100 190 hc (condT hb hr_13))) fun a w hf hc => ?_
        replace hf := castI (u := undef) hb hf
        refine cNil ?_
        refine xThenN ?_
        intro ds u hau
        refine ⟨θ, he.put0 hi hau hf rfl 60 rfl rfl, ?_⟩
        exact hc
      · have hf := he.h0
        replace hf := hf.more he 58 rfl (onP e47)
        replace hf := castB hb hf
        refine stS hf rfl rfl rfl fun a hf => ?_
        replace hf := castJ (u := .agg #[.int .i64 r_13.Lo, .int .i64 r_13.Hi]) hb hf
        refine cNil ?_
        refine xThenN ?_
        intro ds u hau
        refine ⟨θ, he.put0 hi hau hf rfl 60 rfl rfl, ?_⟩
        exact hc
    · intro E θ a w hD hi hp he hc
      have e47 := hp.of (k := 47) rfl
      have e48 := hp.of (k := 48) rfl
      have e49 := hp.of (k := 49) rfl
      rcases boolEq ((((((((((r_5.2 == 0) && (r_6.2.2 == 0)) && (r_7.2 == 0)) && (r_8.2 == 0)) && (r_9.2 == 0)) && r_10) && r_11) && (r_6.2.1 == 5)) && (r_7.1 == 5)) && r_12) with hb | hb
      · have hf := he.h0
        replace hf := hf.more he 58 rfl (onP e47)
        replace hf := castB hb hf
        replace hf := hf.more he 59 rfl (onP e48)
        replace hf := castCT hb hf
        replace hf := hf.more he 60 rfl (onP e49)
        replace hf := castCT hb hf
        refine stP hf rfl rfl rfl (pEqA ge_50 rfl rfl (eqs_50 _ _ _ _)) fun a hf => ?_
        replace hf := castI (u := undef) hb hf
        refine cNil ?_
        refine xThenN ?_
        intro ds u hau
        refine ⟨θ, he.put0 hi hau hf rfl 61 rfl rfl, ?_⟩
        exact hc
      · have hf := he.h0
        replace hf := hf.more he 58 rfl (onP e47)
        replace hf := castB hb hf
        replace hf := hf.more he 59 rfl (onP e48)
        replace hf := castCF hb hf
        replace hf := hf.more he 60 rfl (onP e49)
        replace hf := castCF hb hf
        refine stS hf rfl rfl rfl fun a hf => ?_
        replace hf := castJ (u := .bool (r_9.1.Lo == r_13.Lo && r_9.1.Hi == r_13.Hi)) hb hf
        refine cNil ?_
        refine xThenN ?_
        intro ds u hau
        refine ⟨θ, he.put0 hi hau hf rfl 61 rfl rfl, ?_⟩
        exact hc
    · intro E θ a w hD hi hp he hc
      have e47 := hp.of (k := 47) rfl
      have e50 := hp.of (k := 50) rfl
      rcases boolEq ((((((((((r_5.2 == 0) && (r_6.2.2 == 0)) && (r_7.2 == 0)) && (r_8.2 == 0)) && (r_9.2 == 0)) && r_10) && r_11) && (r_6.2.1 == 5)) && (r_7.1 == 5)) && r_12) with hb | hb
      · have hf := he.h0
        replace hf := hf.more he 58 rfl (onP e47)
        replace hf := castB hb hf
        replace hf := hf.more he 61 rfl (onP e50)
        replace hf := castCT hb hf
        refine stP hf rfl rfl rfl (pPt rfl rfl) fun a hf => ?_
        replace hf := castV (v' := .bool (((((((((((r_5.2 == 0) && (r_6.2.2 == 0)) && (r_7.2 == 0)) && (r_8.2 == 0)) && (r_9.2 == 0)) && r_10) && r_11) && (r_6.2.1 == 5)) && (r_7.1 == 5)) && r_12) && (r_9.1.Lo == r_13.Lo && r_9.1.Hi == r_13.Hi))) (congrArg Value.bool (andT hb)) hf
        refine cNil ?_
        refine xThenN ?_
        intro ds u hau
        refine ⟨θ, he.put0 hi hau hf rfl 62 rfl rfl, ?_⟩
        exact hc
      · have hf := he.h0
        replace hf := hf.more he 58 rfl (onP e47)
        replace hf := castB hb hf
        replace hf := hf.more he 61 rfl (onP e50)
        replace hf := castCF hb hf
        refine stP hf rfl rfl rfl (pPf rfl rfl) fun a hf => ?_
        replace hf := castV (v' := .bool (((((((((((r_5.2 == 0) && (r_6.2.2 == 0)) && (r_7.2 == 0)) && (r_8.2 == 0)) && (r_9.2 == 0)) && r_10) && r_11) && (r_6.2.1 == 5)) && (r_7.1 == 5)) && r_12) && (r_9.1.Lo == r_13.Lo && r_9.1.Hi == r_13.Hi))) (congrArg Value.bool (andF hb)) hf
        refine cNil ?_
        refine xThenN ?_
        intro ds u hau
        refine ⟨θ, he.put0 hi hau hf rfl 62 rfl rfl, ?_⟩
        exact hc
    · intro E θ a w hD hi hp he hc
      have e51 := hp.of (k := 51) rfl
      have hf := he.h0
      replace hf := hf.more he 62 rfl (onP e51)
      refine stP hf rfl rfl rfl (pA rfl) fun a hf => ?_
      refine cNil ?_
      refine xThenN ?_
      intro ds u hau
      refine ⟨θ, he.put0 hi hau hf rfl 63 rfl rfl, ?_⟩
      exact hc
    · intro E θ a w hall he hc
      have hf := he.h0
      have e23 := hall 23 rfl
      have e28 := hall 28 rfl
      have e44 := hall 44 rfl
      have e52 := hall 52 rfl
      replace hf := hf.more he 63 rfl (onP e52)
      try dsimp only at hc
      rw [e23, e28, e44] at hc
      replace hc := hc.drop k2
      replace hc := hc.drop k1
      replace hc := hc.drop k0
      exact ⟨hf.keep ⟨rfl, trivial⟩, hc⟩
    rintro a w ⟨hf, hc⟩
    refine h15 _ _ ?_
    refine wp_ret ?_
    obtain rfl := Option.some.inj hF
    replace hc := hc.drop k11
    replace hc := hc.drop k10
    replace hc := hc.drop k9
    replace hc := hc.drop k8
    replace hc := hc.drop k7
    replace hc := hc.drop k6
    replace hc := hc.drop k5
    replace hc := hc.drop k4
    replace hc := hc.drop k3
    replace hc := hc.drop k2
    replace hc := hc.drop k1
    replace hc := hc.drop k0
    exact fnOut1 (by simp) rfl Try.results12 hf hc (show look _ 0 = _ from rfl) ⟨rfl, hc⟩

end Go.Nilo
