/-
  What functions of the Go text compute, as plain functions, and that they do, part 3 of 5. Conditions: what each theorem names.
-/
import Derived.Test.YtbcaeppbfioogaaGa2
import Derived.Test.YtbcaeppbfioogaaProg
set_option linter.unusedVariables false
set_option linter.unusedSimpArgs false
set_option maxRecDepth 100000
set_option maxHeartbeats 4000000
namespace Go.Nilo
open Go.Proofs


def daily_Clash_b18 (N : Nat) (r : daily_Record) (x : Int) (e_2 : daily_Value) (x_1 : Int) : Option (Step (Int) (Step (Int × Int × Int × Int) (Int × Int × Int))) :=
  cond (decide (x_1 < ((r.Days.length : Nat) : Int)))
  (Option.bind (getI r.Days x_1) fun e_3 =>
  Option.bind (daily_Value_span N e_2) fun r_1 =>
  Option.bind (daily_Value_span N e_3) fun r_2 =>
  cond ((decide (x < x_1)) && ((decide ((W (r_1.Hi + (W (r.Rise * (W (x_1 - x)))))) < r_2.Lo)) || (decide (r_2.Hi < (W (r_1.Lo - (W (r.Fall * (W (x_1 - x))))))))))
  (some (.ret (.brk (x, x_1, 0, x))))
  (some (.cont (W (x_1 + 1)))))
  (some (.brk x_1))
def daily_Clash_b10 (N : Nat) (r : daily_Record) (a_1 : Int) (b_2 : Int) (e_1 : Int) (x : Int) : Option (Step (Int × Int × Int × Int) (Int × Int × Int)) :=
  cond (decide (x < ((r.Days.length : Nat) : Int)))
  (Option.bind (getI r.Days x) fun e_2 =>
  Option.bind (loopO (fun s18 => daily_Clash_b18 N r x e_2 s18) N 0) fun x18 =>
  exK x18 (fun s18 => some (.cont (a_1, b_2, e_1, W (x + 1)))) some)
  (some (.brk (a_1, b_2, e_1, x)))
def daily_Clash (N : Nat) (r : daily_Record) : Option (Int × Int × Int) :=
  Option.bind (daily_Check N r) fun r_0 =>
  cond (r_0 != 0)
  (some (0, 0, r_0))
  (Option.bind (loopO (fun s10 => daily_Clash_b10 N r s10.1 s10.2.1 s10.2.2.1 s10.2.2.2) N (0, 0, 5, 0)) fun x10 =>
  exK x10 (fun s10 => some (s10.1, s10.2.1, s10.2.2.1)) some)
theorem daily_Clash_ok {N : Nat} {G : Pers} {Lf : List Ent} {w : World} (r : daily_Record) {r_Days_p : Option Addr} {r_Days_c : Nat} (h_r_Days : Rd G 3 r_Days_p r_Days_c (r.Days.map enc_daily_Value)) (hc : Ctx G (Lf) w) {res : Int × Int × Int} (hF : daily_Clash N r = some res) : Calls Try.prog 28 #[.agg #[.int .i64 r.Rise, .int .i64 r.Fall, .slice r_Days_p r.Days.length r_Days_c]] w (fun e w => e = .returned (.tuple #[.int .i64 res.1, .int .i64 res.2.1, .int .i64 res.2.2]) ∧ Ctx G (Lf) w) := by
  unfold daily_Clash at hF
  refine fnIn (args := [.agg #[.int .i64 r.Rise, .int .i64 r.Fall, .slice r_Days_p r.Days.length r_Days_c]]) Try.func28 rfl Try.ntmps28 rfl fun a hf => ?_
  refine wp_seq_k fun K1 h1 => ?_
  refine cReg ?_
  refine stBx (cs := [.int .i64 r.Rise, .int .i64 r.Fall, .slice r_Days_p r.Days.length r_Days_c]) hf hc rfl rfl rfl rfl fun b_1 a w hf hc => ?_
  refine stP hf rfl rfl rfl (pA rfl) fun a hf => ?_
  refine stP hf rfl rfl rfl (pA rfl) fun a hf => ?_
  refine stP hf rfl rfl rfl (pA rfl) fun a hf => ?_
  refine cNil ?_
  refine h1 _ _ ?_
  refine wp_scope_straight ?_
  refine wp_seq_k fun K2 h2 => ?_
  refine wp_seq_k fun K3 h3 => ?_
  refine cReg ?_
  refine stE hf hc rfl rfl rfl (eLdN (vs := [.int .i64 r.Rise, .int .i64 r.Fall, .slice r_Days_p r.Days.length r_Days_c]) ag_24 rfl rfl (cells_box (n := 3) m0 rfl)) fun a w hf hc => ?_
  obtain ⟨r_0, hr_0, hF⟩ := bnd_some hF
  refine stE hf hc rfl rfl rfl (eC (v := .int .i64 r_0) (vs := [.agg #[.int .i64 r.Rise, .int .i64 r.Fall, .slice r_Days_p r.Days.length r_Days_c]]) (caps := []) en_34 rfl rfl rfl rfl (fun w hc => daily_Check_ok r h_r_Days hc hr_0)) fun a w hf hc => ?_
  refine stP hf rfl rfl rfl (pA rfl) fun a hf => ?_
  refine cNil ?_
  refine h3 _ _ ?_
  refine wp_seq_k fun K4 h4 => ?_
  refine cReg ?_
  refine stP hf rfl rfl rfl (pM rfl) fun a hf => ?_
  refine stP hf rfl rfl rfl (pNe rfl rfl) fun a hf => ?_
  refine cNil ?_
  refine h4 _ _ ?_
  refine cCond (b := (r_0 != 0)) hf rfl (fun hb => ?_) (fun hb => ?_)
  · replace hF := condT hb hF
    clear hb
    refine wp_seq_k fun K5 h5 => ?_
    refine cReg ?_
    refine stP hf rfl rfl rfl (pM rfl) fun a hf => ?_
    refine stP hf rfl rfl rfl (pA rfl) fun a hf => ?_
    refine stP hf rfl rfl rfl (pA rfl) fun a hf => ?_
    refine stP hf rfl rfl rfl (pA rfl) fun a hf => ?_
    refine cNil ?_
    refine h5 _ _ ?_
    refine wp_ret ?_
    refine xThenR ?_
    refine xScopeR ?_
    obtain rfl := Option.some.inj hF
    replace hc := hc.drop k0
    exact fnOut3 (by simp) rfl Try.results28 hf hc (show look _ 2 = _ from rfl) (show look _ 3 = _ from rfl) (show look _ 4 = _ from rfl) ⟨rfl, hc⟩
  · replace hF := condF hb hF
    clear hb
    refine wp_skip ?_
    refine h2 _ _ ?_
    refine wp_seq_k fun K6 h6 => ?_
    refine cReg ?_
    refine stP hf rfl rfl rfl (pA rfl) fun a hf => ?_
    refine stP hf rfl rfl rfl (pA rfl) fun a hf => ?_
    refine stP hf rfl rfl rfl (pA rfl) fun a hf => ?_
    refine cNil ?_
    refine h6 _ _ ?_
    refine wp_seq_k fun K7 h7 => ?_
    refine wp_label ?_
    refine h7 _ _ ?_
    refine wp_seq_k fun K8 h8 => ?_
    refine wp_seq_k fun K9 h9 => ?_
    refine cReg ?_
    refine stP hf rfl rfl rfl (pFA fa_24_2 rfl) fun a hf => ?_
    refine stE hf hc rfl rfl rfl (eLd1 sc_22 rfl (cell_box m0 rfl)) fun a w hf hc => ?_
    refine stP hf rfl rfl rfl (pLenS Try.underlying22 rfl) fun a hf => ?_
    refine stP hf rfl rfl rfl (pM rfl) fun a hf => ?_
    refine cNil ?_
    refine h9 _ _ ?_
    refine wp_block ?_
    obtain ⟨x10, hx10, hF⟩ := bnd_some hF
    let S10 : (Int × Int × Int × Int) → Act → World → Prop := (fun (zz : Int × Int × Int × Int) a w => Has 78 a [(1, .pointer (some ⟨b_1, 0, none⟩)), (6, .int .i64 zz.1), (7, .int .i64 zz.2.1), (8, .int .i64 zz.2.2.1), (21, .slice r_Days_p r.Days.length r_Days_c), (22, .int .i64 ((r.Days.length : Nat) : Int)), (23, .int .i64 zz.2.2.2)] ∧ Ctx G (.box b_1 [.int .i64 r.Rise, .int .i64 r.Fall, .slice r_Days_p r.Days.length r_Days_c] 24 :: Lf) w)
    have hr10 : ∀ (zz : Int × Int × Int × Int) a w, x10 = .go zz → S10 zz a w → K8 a w := by
      rintro ⟨a_1, b_2, e_1, x⟩ a w rfl ⟨hf, hc⟩
      replace hF := exK_go hF
      refine h8 _ _ ?_
      refine wp_seq_k fun K11 h11 => ?_
      refine cReg ?_
      refine stP hf rfl rfl rfl (pM rfl) fun a hf => ?_
      refine stP hf rfl rfl rfl (pM rfl) fun a hf => ?_
      refine stP hf rfl rfl rfl (pM rfl) fun a hf => ?_
      refine stP hf rfl rfl rfl (pA rfl) fun a hf => ?_
      refine stP hf rfl rfl rfl (pA rfl) fun a hf => ?_
      refine stP hf rfl rfl rfl (pA rfl) fun a hf => ?_
      refine cNil ?_
      refine h11 _ _ ?_
      refine wp_ret ?_
      refine xScopeR ?_
      obtain rfl := Option.some.inj hF
      replace hc := hc.drop k0
      exact fnOut3 (by simp) rfl Try.results28 hf hc (show look _ 2 = _ from rfl) (show look _ 3 = _ from rfl) (show look _ 4 = _ from rfl) ⟨rfl, hc⟩
    have ho10 : ∀ r, x10 = .out r → r = res := by
      rintro r rfl
      exact Option.some.inj hF
    refine cLoop N (loopW (S := S10) (x := x10) ?_ N (0, 0, 5, 0) _ _ ⟨hf.keep ⟨rfl, rfl, rfl, rfl, rfl, rfl, rfl, trivial⟩, hc⟩ hx10)
    clear hF hf hc
    rintro ⟨a_1, b_2, e_1, x⟩ st10 a w KB10 ⟨hf, hc⟩ hF hfin10 hK10
    unfold daily_Clash_b10 at hF
    refine wp_seq_k fun K12 h12 => ?_
    refine cReg ?_
    refine stP hf rfl rfl rfl (pLt rfl rfl) fun a hf => ?_
    refine cNil ?_
    refine h12 _ _ ?_
    refine wp_seq_k fun K13 h13 => ?_
    refine cCond (b := (decide (x < ((r.Days.length : Nat) : Int)))) hf rfl (fun hb => ?_) (fun hb => ?_)
    · replace hF := condT hb hF
      clear hb
      refine wp_skip ?_
      refine h13 _ _ ?_
      refine wp_seq_k fun K14 h14 => ?_
      refine wp_block ?_
      refine wp_seq_k fun K15 h15 => ?_
      refine cReg ?_
      refine stP hf rfl rfl rfl (pM rfl) fun a hf => ?_
      obtain ⟨e_2, he_2, hF⟩ := bnd_some hF
      obtain ⟨b_3, o, qa, qp⟩ := h_r_Days.atm he_2
      refine stP hf rfl rfl rfl (pIA Try.underlying22 sz_56 rfl rfl qa) fun a hf => ?_
      refine stE hf hc rfl rfl rfl (eLdN (vs := [.bool e_2.Known, .int .i64 e_2.Flow.Lo, .int .i64 e_2.Flow.Hi]) ag_56 rfl rfl (cells_pc qp (n := 3) (o' := 0) rfl)) fun a w hf hc => ?_
      refine stAl (cs := [.bool false, .int .i64 0, .int .i64 0]) hf hc rfl rfl zr_56 rfl fun b_4 a w hf hc => ?_
      refine stP hf rfl rfl rfl (pA rfl) fun a hf => ?_
      refine stSt (vs := [.bool e_2.Known, .int .i64 e_2.Flow.Lo, .int .i64 e_2.Flow.Hi]) hf hc rfl rfl rfl rfl sz_56 rfl rfl u0 fun w hc => ?_
      refine cNil ?_
      refine h15 _ _ ?_
      refine wp_seq_k fun K16 h16 => ?_
      refine cReg ?_
      refine stP hf rfl rfl rfl (pFA fa_24_2 rfl) fun a hf => ?_
      refine stE hf hc rfl rfl rfl (eLd1 sc_22 rfl (cell_box m1 rfl)) fun a w hf hc => ?_
      refine stP hf rfl rfl rfl (pLenS Try.underlying22 rfl) fun a hf => ?_
      refine stP hf rfl rfl rfl (pM rfl) fun a hf => ?_
      refine cNil ?_
      refine h16 _ _ ?_
      refine wp_thenK fun K17 h17 => ?_
      refine wp_block ?_
      obtain ⟨x18, hx18, hF⟩ := bnd_some hF
      let S18 : Int → Act → World → Prop := (fun (zz : Int) a w => Has 78 a [(1, .pointer (some ⟨b_1, 0, none⟩)), (6, .int .i64 a_1), (7, .int .i64 b_2), (8, .int .i64 e_1), (9, .int .i64 x), (10, .pointer (some ⟨b_4, 0, none⟩)), (21, .slice r_Days_p r.Days.length r_Days_c), (22, .int .i64 ((r.Days.length : Nat) : Int)), (23, .int .i64 x), (29, .slice r_Days_p r.Days.length r_Days_c), (30, .int .i64 ((r.Days.length : Nat) : Int)), (31, .int .i64 zz)] ∧ Ctx G (.box b_4 [.bool e_2.Known, .int .i64 e_2.Flow.Lo, .int .i64 e_2.Flow.Hi] 56 :: .box b_1 [.int .i64 r.Rise, .int .i64 r.Fall, .slice r_Days_p r.Days.length r_Days_c] 24 :: Lf) w)
      have hr18 : ∀ (zz : Int) a w, x18 = .go zz → S18 zz a w → K17 a w := by
        rintro x_1 a w rfl ⟨hf, hc⟩
        replace hF := exK_go hF
        refine h17 _ _ ?_
        refine h14 _ _ ?_
        refine cReg ?_
        refine stP hf rfl rfl rfl (pAdd rfl rfl) fun a hf => ?_
        refine stP hf rfl rfl rfl (pM rfl) fun a hf => ?_
        refine cNil ?_
        replace hc := hc.drop k0
        exact hK10 (a_1, b_2, e_1, W (x + 1)) _ _ (Option.some.inj hF).symm ⟨hf.keep ⟨rfl, rfl, rfl, rfl, rfl, rfl, rfl, trivial⟩, hc⟩
      have ho18 : ∀ r, x18 = .out r → r = st10 := by
        rintro r rfl
        exact Option.some.inj hF
      refine cLoop N (loopW (S := S18) (x := x18) ?_ N 0 _ _ ⟨hf.keep ⟨rfl, rfl, rfl, rfl, rfl, rfl, rfl, rfl, rfl, rfl, rfl, rfl, trivial⟩, hc⟩ hx18)
      clear hF hf hc
      rintro x_1 st18 a w KB18 ⟨hf, hc⟩ hF hfin18 hK18
      unfold daily_Clash_b18 at hF
      refine wp_seq_k fun K19 h19 => ?_
      refine cReg ?_
      refine stP hf rfl rfl rfl (pLt rfl rfl) fun a hf => ?_
      refine cNil ?_
      refine h19 _ _ ?_
      refine wp_seq_k fun K20 h20 => ?_
      refine cCond (b := (decide (x_1 < ((r.Days.length : Nat) : Int)))) hf rfl (fun hb => ?_) (fun hb => ?_)
      · replace hF := condT hb hF
        clear hb
        refine wp_skip ?_
        refine h20 _ _ ?_
        refine wp_seq_k fun K21 h21 => ?_
        refine wp_block ?_
        refine wp_seq_k fun K22 h22 => ?_
        refine cReg ?_
        refine stP hf rfl rfl rfl (pM rfl) fun a hf => ?_
        obtain ⟨e_3, he_3, hF⟩ := bnd_some hF
        obtain ⟨b_5, o_1, qa_1, qp_1⟩ := h_r_Days.atm he_3
        refine stP hf rfl rfl rfl (pIA Try.underlying22 sz_56 rfl rfl qa_1) fun a hf => ?_
        refine stE hf hc rfl rfl rfl (eLdN (vs := [.bool e_3.Known, .int .i64 e_3.Flow.Lo, .int .i64 e_3.Flow.Hi]) ag_56 rfl rfl (cells_pc qp_1 (n := 3) (o' := 0) rfl)) fun a w hf hc => ?_
        refine stAl (cs := [.bool false, .int .i64 0, .int .i64 0]) hf hc rfl rfl zr_56 rfl fun b_6 a w hf hc => ?_
        refine stP hf rfl rfl rfl (pA rfl) fun a hf => ?_
        refine stSt (vs := [.bool e_3.Known, .int .i64 e_3.Flow.Lo, .int .i64 e_3.Flow.Hi]) hf hc rfl rfl rfl rfl sz_56 rfl rfl u0 fun w hc => ?_
        refine cNil ?_
        refine h22 _ _ ?_
        refine wp_seq_k fun K23 h23 => ?_
        obtain ⟨r_1, hr_1, hF⟩ := bnd_some hF
        obtain ⟨r_2, hr_2, hF⟩ := bnd_some hF
        replace hc := hc.nilRow 0 0
        replace hc := hc.nilRow 0 0
        refine regionE (fun θ => [⟨none, none, 1, .pointer (some ⟨b_1, 0, none⟩)⟩, ⟨none, none, 6, .int .i64 a_1⟩, ⟨none, none, 7, .int .i64 b_2⟩, ⟨none, none, 8, .int .i64 e_1⟩, ⟨none, none, 9, .int .i64 x⟩, ⟨none, none, 10, .pointer (some ⟨b_4, 0, none⟩)⟩, ⟨none, none, 11, .int .i64 x_1⟩, ⟨none, none, 12, .pointer (some ⟨b_6, 0, none⟩)⟩, ⟨none, none, 21, .slice r_Days_p r.Days.length r_Days_c⟩, ⟨none, none, 22, .int .i64 ((r.Days.length : Nat) : Int)⟩, ⟨none, none, 23, .int .i64 x⟩, ⟨none, none, 29, .slice r_Days_p r.Days.length r_Days_c⟩, ⟨none, none, 30, .int .i64 ((r.Days.length : Nat) : Int)⟩, ⟨none, none, 31, .int .i64 x_1⟩, ⟨some 0, none, 36, .agg #[.bool e_2.Known, .int .i64 e_2.Flow.Lo, .int .i64 e_2.Flow.Hi]⟩, ⟨some 1, none, 37, .agg #[.int .i64 r_1.Lo, .int .i64 r_1.Hi]⟩, ⟨some 2, none, 38, .agg #[.bool e_3.Known, .int .i64 e_3.Flow.Lo, .int .i64 e_3.Flow.Hi]⟩, ⟨some 3, none, 39, .agg #[.int .i64 r_2.Lo, .int .i64 r_2.Hi]⟩, ⟨some 4, none, 13, .pointer (some ⟨(θ 32).b, 0, none⟩)⟩, ⟨some 5, none, 14, .pointer (some ⟨(θ 40).b, 0, none⟩)⟩]) (fun E θ => (bif E 7 then .box (θ 40).b [.int .i64 r_2.Lo, .int .i64 r_2.Hi] 30 else bif E 5 then .box (θ 40).b [.int .i64 0, .int .i64 0] 30 else .row none 0 [] 0 0) :: (bif E 6 then .box (θ 32).b [.int .i64 r_1.Lo, .int .i64 r_1.Hi] 30 else bif E 4 then .box (θ 32).b [.int .i64 0, .int .i64 0] 30 else .row none 0 [] 0 0) :: .box b_6 [.bool e_3.Known, .int .i64 e_3.Flow.Lo, .int .i64 e_3.Flow.Hi] 56 :: .box b_4 [.bool e_2.Known, .int .i64 e_2.Flow.Lo, .int .i64 e_2.Flow.Hi] 56 :: .box b_1 [.int .i64 r.Rise, .int .i64 r.Fall, .slice r_Days_p r.Days.length r_Days_c] 24 :: Lf) [(6, 4), (7, 5)] (fun a w => ∃ (b_9 : Nat) (b_10 : Nat), Has 78 a [(1, .pointer (some ⟨b_1, 0, none⟩)), (6, .int .i64 a_1), (7, .int .i64 b_2), (8, .int .i64 e_1), (9, .int .i64 x), (10, .pointer (some ⟨b_4, 0, none⟩)), (11, .int .i64 x_1), (21, .slice r_Days_p r.Days.length r_Days_c), (22, .int .i64 ((r.Days.length : Nat) : Int)), (23, .int .i64 x), (29, .slice r_Days_p r.Days.length r_Days_c), (30, .int .i64 ((r.Days.length : Nat) : Int)), (31, .int .i64 x_1), (13, .pointer (some ⟨b_9, 0, none⟩)), (14, .pointer (some ⟨b_10, 0, none⟩))] ∧ Ctx G (.box b_10 [.int .i64 r_2.Lo, .int .i64 r_2.Hi] 30 :: .box b_9 [.int .i64 r_1.Lo, .int .i64 r_1.Hi] 30 :: .box b_6 [.bool e_3.Known, .int .i64 e_3.Flow.Lo, .int .i64 e_3.Flow.Hi] 56 :: .box b_4 [.bool e_2.Known, .int .i64 e_2.Flow.Lo, .int .i64 e_2.Flow.Hi] 56 :: .box b_1 [.int .i64 r.Rise, .int .i64 r.Fall, .slice r_Days_p r.Days.length r_Days_c] 24 :: Lf) w) follows_mx (by kernel_rfl) (by kernel_rfl) (HasE.of hf ⟨rfl, rfl, rfl, rfl, rfl, rfl, rfl, rfl, rfl, rfl, rfl, rfl, rfl, rfl, trivial, trivial, trivial, trivial, trivial, trivial, trivial⟩) hc ⟨?_, ?_, ?_, ?_, ?_, ?_, ?_, ?_, trivial⟩ ?_ ?_
        · intro E θ a w hD hi hp he hc
          have hf := he.h0
          replace hf := hf.more he 5 rfl onT
          refine stE hf hc rfl rfl rfl (eLdN (vs := [.bool e_2.Known, .int .i64 e_2.Flow.Lo, .int .i64 e_2.Flow.Hi]) ag_56 rfl rfl (cells_box (n := 3) m3 rfl)) fun a w hf hc => ?_
          refine cNil ?_
          refine xThenN ?_
          intro ds u hau
          refine ⟨θ, he.put0 hi hau hf rfl 14 rfl rfl, ?_⟩
          exact hc
        · intro E θ a w hD hi hp he hc
          have e0 := hp.of (k := 0) rfl
          have hf := he.h0
          replace hf := hf.more he 14 rfl (onP e0)
          refine stE hf hc rfl rfl rfl (eC (v := .agg #[.int .i64 r_1.Lo, .int .i64 r_1.Hi]) (vs := [.agg #[.bool e_2.Known, .int .i64 e_2.Flow.Lo, .int .i64 e_2.Flow.Hi]]) (caps := []) en_72 rfl rfl rfl rfl (fun w hc => daily_Value_span_ok e_2 hc hr_1)) fun a w hf hc => ?_
          refine cNil ?_
          refine xThenN ?_
          intro ds u hau
          refine ⟨θ, he.put0 hi hau hf rfl 15 rfl rfl, ?_⟩
          exact hc
        · intro E θ a w hD hi hp he hc
          have hf := he.h0
          replace hf := hf.more he 7 rfl onT
          refine stE hf hc rfl rfl rfl (eLdN (vs := [.bool e_3.Known, .int .i64 e_3.Flow.Lo, .int .i64 e_3.Flow.Hi]) ag_56 rfl rfl (cells_box (n := 3) m2 rfl)) fun a w hf hc => ?_
          refine cNil ?_
          refine xThenN ?_
          intro ds u hau
          refine ⟨θ, he.put0 hi hau hf rfl 16 rfl rfl, ?_⟩
          exact hc
        · intro E θ a w hD hi hp he hc
          have e2 := hp.of (k := 2) rfl
          have hf := he.h0
          replace hf := hf.more he 16 rfl (onP e2)
          refine stE hf hc rfl rfl rfl (eC (v := .agg #[.int .i64 r_2.Lo, .int .i64 r_2.Hi]) (vs := [.agg #[.bool e_3.Known, .int .i64 e_3.Flow.Lo, .int .i64 e_3.Flow.Hi]]) (caps := []) en_72 rfl rfl rfl rfl (fun w hc => daily_Value_span_ok e_3 hc hr_2)) fun a w hf hc => ?_
          refine cNil ?_
          refine xThenN ?_
          intro ds u hau
          refine ⟨θ, he.put0 hi hau hf rfl 17 rfl rfl, ?_⟩
          exact hc
        · intro E θ a w hD hi hp he hc
          have e6 := hD.f 0 rfl hi
          try dsimp only at hc
          rw [hi, e6] at hc
          have hf := he.h0
          refine stAl (cs := [.int .i64 0, .int .i64 0]) hf hc rfl rfl zr_30 rfl fun b_7 a w hf hc => ?_
          refine cNil ?_
          refine xThenN ?_
          intro ds u hau
          replace hc := hc.drop k2
          replace hc := hc.pick k0
          replace hc := hc.pick k1
          refine ⟨(setT θ 32 ⟨b_7, none, 0⟩), he.put hi hau hf rfl [] trivial ⟨qq, qq, qq, qq, qq, qq, qq, qq, qq, qq, qq, qq, qq, qq, qq, qq, qq, qq, qq, qq, trivial⟩, ?_⟩
          try dsimp only
          rw [updE_self E 4, updE_fls 4 e6 rfl]
          exact hc
        · intro E θ a w hD hi hp he hc
          have e7 := hD.f 1 rfl hi
          try dsimp only at hc
          rw [hi, e7] at hc
          have hf := he.h0
          refine stAl (cs := [.int .i64 0, .int .i64 0]) hf hc rfl rfl zr_30 rfl fun b_8 a w hf hc => ?_
          refine cNil ?_
          refine xThenN ?_
          intro ds u hau
          replace hc := hc.drop k1
          refine ⟨(setT θ 40 ⟨b_8, none, 0⟩), he.put hi hau hf rfl [] trivial ⟨qq, qq, qq, qq, qq, qq, qq, qq, qq, qq, qq, qq, qq, qq, qq, qq, qq, qq, qq, qq, trivial⟩, ?_⟩
          try dsimp only
          rw [updE_self E 5, updE_fls 5 e7 rfl]
          exact hc
        · intro E θ a w hD hi hp he hc
          have e1 := hp.of (k := 1) rfl
          have e4 := hp.of (k := 4) rfl
          try dsimp only at hc
          rw [e4, hi] at hc
          have hf := he.h0
          replace hf := hf.more he 15 rfl (onP e1)
          replace hf := hf.more he 18 rfl (onP e4)
          refine stSt (vs := [.int .i64 r_1.Lo, .int .i64 r_1.Hi]) hf hc rfl rfl rfl rfl sz_30 rfl rfl u1 fun w hc => ?_
          refine cNil ?_
          refine xThenN ?_
          intro ds u hau
          refine ⟨θ, he.stay0 hi hau hf rfl, ?_⟩
          try dsimp only
          rw [updE_tru 6 e4, updE_self E 6]
          exact hc
        · intro E θ a w hD hi hp he hc
          have e3 := hp.of (k := 3) rfl
          have e5 := hp.of (k := 5) rfl
          try dsimp only at hc
          rw [e5, hi] at hc
          have hf := he.h0
          replace hf := hf.more he 17 rfl (onP e3)
          replace hf := hf.more he 19 rfl (onP e5)
          refine stSt (vs := [.int .i64 r_2.Lo, .int .i64 r_2.Hi]) hf hc rfl rfl rfl rfl sz_30 rfl rfl u0 fun w hc => ?_
          refine cNil ?_
          refine xThenN ?_
          intro ds u hau
          refine ⟨θ, he.stay0 hi hau hf rfl, ?_⟩
          try dsimp only
          rw [updE_tru 7 e5, updE_self E 7]
          exact hc
        · intro E θ a w hall he hc
          have hf := he.h0
          have e4 := hall 4 rfl
          have e5 := hall 5 rfl
          have e6 := hall 6 rfl
          have e7 := hall 7 rfl
          replace hf := hf.more he 19 rfl (onP e5)
          replace hf := hf.more he 18 rfl (onP e4)
          replace hf := hf.more he 13 rfl (onT)
          replace hf := hf.more he 12 rfl (onT)
          replace hf := hf.more he 11 rfl (onT)
          replace hf := hf.more he 10 rfl (onT)
          replace hf := hf.more he 9 rfl (onT)
          replace hf := hf.more he 8 rfl (onT)
          replace hf := hf.more he 6 rfl (onT)
          replace hf := hf.more he 5 rfl (onT)
          replace hf := hf.more he 4 rfl (onT)
          replace hf := hf.more he 3 rfl (onT)
          replace hf := hf.more he 2 rfl (onT)
          replace hf := hf.more he 1 rfl (onT)
          replace hf := hf.more he 0 rfl (onT)
          try dsimp only at hc
          rw [e4, e5, e6, e7] at hc
          exact ⟨(θ 32).b, (θ 40).b, hf.keep ⟨rfl, rfl, rfl, rfl, rfl, rfl, rfl, rfl, rfl, rfl, rfl, rfl, rfl, rfl, rfl, trivial⟩, hc⟩
        rintro a w ⟨b_9, b_10, hf, hc⟩
        refine h23 _ _ ?_
        refine wp_seq_k fun K24 h24 => ?_
        refine cReg ?_
        refine stP hf rfl rfl rfl (pM rfl) fun a hf => ?_
        refine stP hf rfl rfl rfl (pM rfl) fun a hf => ?_
        refine stP hf rfl rfl rfl (pGt rfl rfl) fun a hf => ?_
        refine stP hf rfl rfl rfl (pM rfl) fun a hf => ?_
        refine stCut 27 (fun a w => Has 78 a [(1, .pointer (some ⟨b_1, 0, none⟩)), (6, .int .i64 a_1), (7, .int .i64 b_2), (8, .int .i64 e_1), (9, .int .i64 x), (10, .pointer (some ⟨b_4, 0, none⟩)), (11, .int .i64 x_1), (21, .slice r_Days_p r.Days.length r_Days_c), (22, .int .i64 ((r.Days.length : Nat) : Int)), (23, .int .i64 x), (29, .slice r_Days_p r.Days.length r_Days_c), (30, .int .i64 ((r.Days.length : Nat) : Int)), (31, .int .i64 x_1), (13, .pointer (some ⟨b_9, 0, none⟩)), (14, .pointer (some ⟨b_10, 0, none⟩)), (40, .int .i64 x_1), (41, .int .i64 x), (42, .bool (decide (x < x_1))), (43, .bool (decide (x < x_1))), (70, .bool ((decide (x < x_1)) && ((decide ((W (r_1.Hi + (W (r.Rise * (W (x_1 - x)))))) < r_2.Lo)) || (decide (r_2.Hi < (W (r_1.Lo - (W (r.Fall * (W (x_1 - x)))))))))))] ∧ Ctx G (.box b_10 [.int .i64 r_2.Lo, .int .i64 r_2.Hi] 30 :: .box b_9 [.int .i64 r_1.Lo, .int .i64 r_1.Hi] 30 :: .box b_6 [.bool e_3.Known, .int .i64 e_3.Flow.Lo, .int .i64 e_3.Flow.Hi] 56 :: .box b_4 [.bool e_2.Known, .int .i64 e_2.Flow.Lo, .int .i64 e_2.Flow.Hi] 56 :: .box b_1 [.int .i64 r.Rise, .int .i64 r.Fall, .slice r_Days_p r.Days.length r_Days_c] 24 :: Lf) w) ?_ ?_
        · cases hb : (decide (x < x_1))
          · rw [hb] at hf
            refine stS hf rfl rfl rfl fun a hf => ?_
            refine stS hf rfl rfl rfl fun a hf => ?_
            refine stS hf rfl rfl rfl fun a hf => ?_
            refine stS hf rfl rfl rfl fun a hf => ?_
            refine stS hf rfl rfl rfl fun a hf => ?_
            refine stS hf rfl rfl rfl fun a hf => ?_
            refine stS hf rfl rfl rfl fun a hf => ?_
            refine stS hf rfl rfl rfl fun a hf => ?_
            refine stS hf rfl rfl rfl fun a hf => ?_
            refine stS hf rfl rfl rfl fun a hf => ?_
            refine stS hf rfl rfl rfl fun a hf => ?_
            refine stS hf rfl rfl rfl fun a hf => ?_
            refine stS hf rfl rfl rfl fun a hf => ?_
            refine stS hf rfl rfl rfl fun a hf => ?_
            refine stS hf rfl rfl rfl fun a hf => ?_
            refine stS hf rfl rfl rfl fun a hf => ?_
            refine stS hf rfl rfl rfl fun a hf => ?_
            refine stS hf rfl rfl rfl fun a hf => ?_
            refine stS hf rfl rfl rfl fun a hf => ?_
            refine stS hf rfl rfl rfl fun a hf => ?_
            refine stS hf rfl rfl rfl fun a hf => ?_
            refine stS hf rfl rfl rfl fun a hf => ?_
            refine stS hf rfl rfl rfl fun a hf => ?_
            refine stS hf rfl rfl rfl fun a hf => ?_
            refine stS hf rfl rfl rfl fun a hf => ?_
            refine stS hf rfl rfl rfl fun a hf => ?_
            refine stP hf rfl rfl rfl (pPf rfl rfl) fun a hf => ?_
            exact cNil ⟨hf.keep ⟨rfl, rfl, rfl, rfl, rfl, rfl, rfl, rfl, rfl, rfl, rfl, rfl, rfl, rfl, rfl, rfl, rfl, rfl, rfl, rfl, trivial⟩, hc⟩
          · rw [hb] at hf
            refine stP hf rfl rfl rfl (pFA fa_30_1 rfl) fun a hf => ?_
            refine stE hf hc rfl rfl rfl (eLd1 sc_3 rfl (cell_box m1 rfl)) fun a w hf hc => ?_
            refine stP hf rfl rfl rfl (pFA fa_24_0 rfl) fun a hf => ?_
            refine stE hf hc rfl rfl rfl (eLd1 sc_3 rfl (cell_box m4 rfl)) fun a w hf hc => ?_
            refine stP hf rfl rfl rfl (pM rfl) fun a hf => ?_
            refine stP hf rfl rfl rfl (pM rfl) fun a hf => ?_
            refine stP hf rfl rfl rfl (pSub rfl rfl) fun a hf => ?_
            refine stP hf rfl rfl rfl (pMul rfl rfl) fun a hf => ?_
            refine stP hf rfl rfl rfl (pAdd rfl rfl) fun a hf => ?_
            refine stP hf rfl rfl rfl (pFA fa_30_0 rfl) fun a hf => ?_
            refine stE hf hc rfl rfl rfl (eLd1 sc_3 rfl (cell_box m0 rfl)) fun a w hf hc => ?_
            refine stP hf rfl rfl rfl (pLt rfl rfl) fun a hf => ?_
            refine stP hf rfl rfl rfl (pM rfl) fun a hf => ?_
            refine stCut 13 (fun a w => Has 78 a ((1, .pointer (some ⟨b_1, 0, none⟩)) :: (6, .int .i64 a_1) :: (7, .int .i64 b_2) :: (8, .int .i64 e_1) :: (9, .int .i64 x) :: (10, .pointer (some ⟨b_4, 0, none⟩)) :: (11, .int .i64 x_1) :: (21, .slice r_Days_p r.Days.length r_Days_c) :: (22, .int .i64 ((r.Days.length : Nat) : Int)) :: (23, .int .i64 x) :: (29, .slice r_Days_p r.Days.length r_Days_c) :: (30, .int .i64 ((r.Days.length : Nat) : Int)) :: (31, .int .i64 x_1) :: (13, .pointer (some ⟨b_9, 0, none⟩)) :: (14, .pointer (some ⟨b_10, 0, none⟩)) :: (40, .int .i64 x_1) :: (41, .int .i64 x) :: (42, .bool true) :: (43, .bool true) :: (44, .pointer (some ⟨b_9, 1, none⟩)) :: (45, .int .i64 r_1.Hi) :: (46, .pointer (some ⟨b_1, 0, none⟩)) :: (47, .int .i64 r.Rise) :: (48, .int .i64 x_1) :: (49, .int .i64 x) :: (50, .int .i64 (W (x_1 - x))) :: (51, .int .i64 (W (r.Rise * (W (x_1 - x))))) :: (52, .int .i64 (W (r_1.Hi + (W (r.Rise * (W (x_1 - x))))))) :: (53, .pointer (some ⟨b_10, 0, none⟩)) :: (54, .int .i64 r_2.Lo) :: (55, .bool (decide ((W (r_1.Hi + (W (r.Rise * (W (x_1 - x)))))) < r_2.Lo))) :: (56, .bool (decide ((W (r_1.Hi + (W (r.Rise * (W (x_1 - x)))))) < r_2.Lo))) :: (69, .bool ((decide ((W (r_1.Hi + (W (r.Rise * (W (x_1 - x)))))) < r_2.Lo)) || (decide (r_2.Hi < (W (r_1.Lo - (W (r.Fall * (W (x_1 - x)))))))))) :: []) ∧ Ctx G (.box b_10 [.int .i64 r_2.Lo, .int .i64 r_2.Hi] 30 :: .box b_9 [.int .i64 r_1.Lo, .int .i64 r_1.Hi] 30 :: .box b_6 [.bool e_3.Known, .int .i64 e_3.Flow.Lo, .int .i64 e_3.Flow.Hi] 56 :: .box b_4 [.bool e_2.Known, .int .i64 e_2.Flow.Lo, .int .i64 e_2.Flow.Hi] 56 :: .box b_1 [.int .i64 r.Rise, .int .i64 r.Fall, .slice r_Days_p r.Days.length r_Days_c] 24 :: Lf) w) ?_ ?_
            · cases hb : (decide ((W (r_1.Hi + (W (r.Rise * (W (x_1 - x)))))) < r_2.Lo))
              · rw [hb] at hf
                refine stP hf rfl rfl rfl (pFA fa_30_0 rfl) fun a hf => ?_
                refine stE hf hc rfl rfl rfl (eLd1 sc_3 rfl (cell_box m1 rfl)) fun a w hf hc => ?_
                refine stP hf rfl rfl rfl (pFA fa_24_1 rfl) fun a hf => ?_
                refine stE hf hc rfl rfl rfl (eLd1 sc_3 rfl (cell_box m4 rfl)) fun a w hf hc => ?_
                refine stP hf rfl rfl rfl (pM rfl) fun a hf => ?_
                refine stP hf rfl rfl rfl (pM rfl) fun a hf => ?_
                refine stP hf rfl rfl rfl (pSub rfl rfl) fun a hf => ?_
                refine stP hf rfl rfl rfl (pMul rfl rfl) fun a hf => ?_
                refine stP hf rfl rfl rfl (pSub rfl rfl) fun a hf => ?_
                refine stP hf rfl rfl rfl (pFA fa_30_1 rfl) fun a hf => ?_
                refine stE hf hc rfl rfl rfl (eLd1 sc_3 rfl (cell_box m0 rfl)) fun a w hf hc => ?_
                refine stP hf rfl rfl rfl (pGt rfl rfl) fun a hf => ?_
                refine stP hf rfl rfl rfl (pPf rfl rfl) fun a hf => ?_
                exact cNil ⟨hf.keep ⟨rfl, rfl, rfl, rfl, rfl, rfl, rfl, rfl, rfl, rfl, rfl, rfl, rfl, rfl, rfl, rfl, rfl, rfl, rfl, rfl, rfl, rfl, rfl, rfl, rfl, rfl, rfl, rfl, rfl, rfl, rfl, rfl, rfl, trivial⟩, hc⟩
              · rw [hb] at hf
                refine stS hf rfl rfl rfl fun a hf => ?_
                refine stS hf rfl rfl rfl fun a hf => ?_
                refine stS hf rfl rfl rfl fun a hf => ?_
                refine stS hf rfl rfl rfl fun a hf => ?_
                refine stS hf rfl rfl rfl fun a hf => ?_
                refine stS hf rfl rfl rfl fun a hf => ?_
                refine stS hf rfl rfl rfl fun a hf => ?_
                refine stS hf rfl rfl rfl fun a hf => ?_
                refine stS hf rfl rfl rfl fun a hf => ?_
                refine stS hf rfl rfl rfl fun a hf => ?_
                refine stS hf rfl rfl rfl fun a hf => ?_
                refine stS hf rfl rfl rfl fun a hf => ?_
                refine stP hf rfl rfl rfl (pPt rfl rfl) fun a hf => ?_
                exact cNil ⟨hf.keep ⟨rfl, rfl, rfl, rfl, rfl, rfl, rfl, rfl, rfl, rfl, rfl, rfl, rfl, rfl, rfl, rfl, rfl, rfl, rfl, rfl, rfl, rfl, rfl, rfl, rfl, rfl, rfl, rfl, rfl, rfl, rfl, rfl, rfl, trivial⟩, hc⟩
            intro a w ⟨hf, hc⟩
            refine stP hf rfl rfl rfl (pPt rfl rfl) fun a hf => ?_
            exact cNil ⟨hf.keep ⟨rfl, rfl, rfl, rfl, rfl, rfl, rfl, rfl, rfl, rfl, rfl, rfl, rfl, rfl, rfl, rfl, rfl, rfl, rfl, rfl, trivial⟩, hc⟩
        intro a w ⟨hf, hc⟩
        refine cNil ?_
        refine h24 _ _ ?_
        refine cCond (b := ((decide (x < x_1)) && ((decide ((W (r_1.Hi + (W (r.Rise * (W (x_1 - x)))))) < r_2.Lo)) || (decide (r_2.Hi < (W (r_1.Lo - (W (r.Fall * (W (x_1 - x))))))))))) hf rfl (fun hb => ?_) (fun hb => ?_)
        · replace hF := condT hb hF
          clear hb
          refine wp_seq_k fun K25 h25 => ?_
          refine cReg ?_
          refine stP hf rfl rfl rfl (pM rfl) fun a hf => ?_
          refine stP hf rfl rfl rfl (pM rfl) fun a hf => ?_
          refine stP hf rfl rfl rfl (pA rfl) fun a hf => ?_
          refine stP hf rfl rfl rfl (pA rfl) fun a hf => ?_
          refine stP hf rfl rfl rfl (pA rfl) fun a hf => ?_
          refine cNil ?_
          refine h25 _ _ ?_
          refine wp_exit ?_
          refine cMiss rfl ?_
          refine xThen ?_
          refine xThen ?_
          have he := Option.some.inj hF
          rw [← he] at hfin18
          replace hF := ho18 _ hfin18
          refine cMiss rfl ?_
          refine xThen ?_
          refine cMiss rfl ?_
          refine xThen ?_
          refine xThen ?_
          replace hc := hc.drop k3
          replace hc := hc.drop k2
          replace hc := hc.drop k1
          replace hc := hc.drop k0
          have he := hF
          rw [← he] at hfin10
          refine cHit ?_
          exact hr10 _ _ _ hfin10 ⟨hf.keep ⟨rfl, rfl, rfl, rfl, rfl, rfl, rfl, trivial⟩, hc⟩
        · replace hF := condF hb hF
          clear hb
          refine wp_skip ?_
          refine h21 _ _ ?_
          refine cReg ?_
          refine stP hf rfl rfl rfl (pAdd rfl rfl) fun a hf => ?_
          refine stP hf rfl rfl rfl (pM rfl) fun a hf => ?_
          refine cNil ?_
          replace hc := hc.drop k2
          replace hc := hc.drop k1
          replace hc := hc.drop k0
          exact hK18 (W (x_1 + 1)) _ _ (Option.some.inj hF).symm ⟨hf.keep ⟨rfl, rfl, rfl, rfl, rfl, rfl, rfl, rfl, rfl, rfl, rfl, rfl, trivial⟩, hc⟩
      · replace hF := condF hb hF
        clear hb
        refine wp_exit ?_
        refine xThen ?_
        refine xThen ?_
        have he := Option.some.inj hF
        rw [← he] at hfin18
        refine cHit ?_
        exact hr18 _ _ _ hfin18 ⟨hf.keep ⟨rfl, rfl, rfl, rfl, rfl, rfl, rfl, rfl, rfl, rfl, rfl, rfl, trivial⟩, hc⟩
    · replace hF := condF hb hF
      clear hb
      refine wp_exit ?_
      refine xThen ?_
      refine xThen ?_
      have he := Option.some.inj hF
      rw [← he] at hfin10
      refine cHit ?_
      exact hr10 _ _ _ hfin10 ⟨hf.keep ⟨rfl, rfl, rfl, rfl, rfl, rfl, rfl, trivial⟩, hc⟩

def kit_Same_api_Span_b7 (N : Nat) (a_ : List api_Span) (b_ : List api_Span) (i_1 : Int) : Option (Step (Int) (Bool)) :=
  cond (decide (i_1 < ((a_.length : Nat) : Int)))
  (Option.bind (getI a_ i_1) fun e_1 =>
  Option.bind (getI b_ i_1) fun e_2 =>
  cond (!(e_1.Lo == e_2.Lo && e_1.Hi == e_2.Hi))
  (some (.ret false))
  (some (.cont (W (i_1 + 1)))))
  (some (.brk i_1))
def kit_Same_api_Span (N : Nat) (a_ : List api_Span) (b_ : List api_Span) : Option (Bool) :=
  cond (((a_.length : Nat) : Int) != ((b_.length : Nat) : Int))
  (some false)
  (Option.bind (loopO (fun s7 => kit_Same_api_Span_b7 N a_ b_ s7) N 0) fun x7 =>
  exK x7 (fun s7 => some true) some)
theorem kit_Same_api_Span_ok {N : Nat} {G : Pers} {Lf : List Ent} {w : World} (a_ : List api_Span) (b_ : List api_Span) {a__p : Option Addr} {a__c : Nat} {b__p : Option Addr} {b__c : Nat} (h_a_ : Rd G 2 a__p a__c (a_.map enc_api_Span)) (h_b_ : Rd G 2 b__p b__c (b_.map enc_api_Span)) (hc : Ctx G (Lf) w) {res : Bool} (hF : kit_Same_api_Span N a_ b_ = some res) : Calls Try.prog 24 #[.slice a__p a_.length a__c, .slice b__p b_.length b__c] w (fun e w => e = .returned (.bool res) ∧ Ctx G (Lf) w) := by
  unfold kit_Same_api_Span at hF
  refine fnIn (args := [.slice a__p a_.length a__c, .slice b__p b_.length b__c]) Try.func24 rfl Try.ntmps24 rfl fun a hf => ?_
  refine wp_seq_k fun K1 h1 => ?_
  refine cReg ?_
  refine stP hf rfl rfl rfl (pA rfl) fun a hf => ?_
  refine cNil ?_
  refine h1 _ _ ?_
  refine wp_seq_k fun K2 h2 => ?_
  refine wp_seq_k fun K3 h3 => ?_
  refine cReg ?_
  refine stP hf rfl rfl rfl (pM rfl) fun a hf => ?_
  refine stP hf rfl rfl rfl (pLenS Try.underlying25 rfl) fun a hf => ?_
  refine stP hf rfl rfl rfl (pM rfl) fun a hf => ?_
  refine stP hf rfl rfl rfl (pLenS Try.underlying25 rfl) fun a hf => ?_
  refine stP hf rfl rfl rfl (pNe rfl rfl) fun a hf => ?_
  refine cNil ?_
  refine h3 _ _ ?_
  refine cCond (b := (((a_.length : Nat) : Int) != ((b_.length : Nat) : Int))) hf rfl (fun hb => ?_) (fun hb => ?_)
  · replace hF := condT hb hF
    clear hb
    refine wp_seq_k fun K4 h4 => ?_
    refine cReg ?_
    refine stP hf rfl rfl rfl (pA rfl) fun a hf => ?_
    refine cNil ?_
    refine h4 _ _ ?_
    refine wp_ret ?_
    refine xThenR ?_
    obtain rfl := Option.some.inj hF
    exact fnOut1 (by simp) rfl Try.results24 hf hc (show look _ 4 = _ from rfl) ⟨rfl, hc⟩
  · replace hF := condF hb hF
    clear hb
    refine wp_skip ?_
    refine h2 _ _ ?_
    refine wp_seq_k fun K5 h5 => ?_
    refine wp_seq_k fun K6 h6 => ?_
    refine cReg ?_
    refine stP hf rfl rfl rfl (pA rfl) fun a hf => ?_
    refine cNil ?_
    refine h6 _ _ ?_
    refine wp_block ?_
    obtain ⟨x7, hx7, hF⟩ := bnd_some hF
    let S7 : Int → Act → World → Prop := (fun (zz : Int) a w => Has 26 a [(0, .slice a__p a_.length a__c), (1, .slice b__p b_.length b__c), (5, .int .i64 zz)] ∧ Ctx G (Lf) w)
    have hr7 : ∀ (zz : Int) a w, x7 = .go zz → S7 zz a w → K5 a w := by
      rintro i_1 a w rfl ⟨hf, hc⟩
      replace hF := exK_go hF
      refine h5 _ _ ?_
      refine wp_seq_k fun K8 h8 => ?_
      refine cReg ?_
      refine stP hf rfl rfl rfl (pA rfl) fun a hf => ?_
      refine cNil ?_
      refine h8 _ _ ?_
      refine wp_ret ?_
      obtain rfl := Option.some.inj hF
      exact fnOut1 (by simp) rfl Try.results24 hf hc (show look _ 4 = _ from rfl) ⟨rfl, hc⟩
    have ho7 : ∀ r, x7 = .out r → r = res := by
      rintro r rfl
      exact Option.some.inj hF
    refine cLoop N (loopW (S := S7) (x := x7) ?_ N 0 _ _ ⟨hf.keep ⟨rfl, rfl, rfl, trivial⟩, hc⟩ hx7)
    clear hF hf hc
    rintro i_1 st7 a w KB7 ⟨hf, hc⟩ hF hfin7 hK7
    unfold kit_Same_api_Span_b7 at hF
    refine wp_seq_k fun K9 h9 => ?_
    refine wp_seq_k fun K10 h10 => ?_
    refine cReg ?_
    refine stP hf rfl rfl rfl (pM rfl) fun a hf => ?_
    refine stP hf rfl rfl rfl (pM rfl) fun a hf => ?_
    refine stP hf rfl rfl rfl (pLenS Try.underlying25 rfl) fun a hf => ?_
    refine stP hf rfl rfl rfl (pLt rfl rfl) fun a hf => ?_
    refine cNil ?_
    refine h10 _ _ ?_
    refine cCond (b := (decide (i_1 < ((a_.length : Nat) : Int)))) hf rfl (fun hb => ?_) (fun hb => ?_)
    · replace hF := condT hb hF
      clear hb
      refine wp_skip ?_
      refine h9 _ _ ?_
      refine wp_seq_k fun K11 h11 => ?_
      refine wp_block ?_
      refine wp_seq_k fun K12 h12 => ?_
      obtain ⟨e_1, he_1, hF⟩ := bnd_some hF
      obtain ⟨b_1, o, qa, qp⟩ := h_a_.atm he_1
      obtain ⟨e_2, he_2, hF⟩ := bnd_some hF
      obtain ⟨b_2, o_1, qa_1, qp_1⟩ := h_b_.atm he_2
      refine cQ hc follows_mx (by kernel_rfl) ?_
      refine qE hf rfl rfl rfl (Pu.ev (pM rfl)) fun a hf => ?_
      refine qE hf rfl rfl rfl (Pu.ev (pM rfl)) fun a hf => ?_
      refine qE hf rfl rfl rfl (Pu.ev (pIA Try.underlying25 sz_30 rfl rfl qa)) fun a hf => ?_
      refine qE hf rfl rfl rfl (eLdN (vs := [.int .i64 e_1.Lo, .int .i64 e_1.Hi]) ag_30 rfl rfl (cells_pc qp (n := 2) (o' := 0) rfl)) fun a hf => ?_
      refine qE hf rfl rfl rfl (Pu.ev (pM rfl)) fun a hf => ?_
      refine qE hf rfl rfl rfl (Pu.ev (pM rfl)) fun a hf => ?_
      refine qE hf rfl rfl rfl (Pu.ev (pIA Try.underlying25 sz_30 rfl rfl qa_1)) fun a hf => ?_
      refine qE hf rfl rfl rfl (eLdN (vs := [.int .i64 e_2.Lo, .int .i64 e_2.Hi]) ag_30 rfl rfl (cells_pc qp_1 (n := 2) (o' := 0) rfl)) fun a hf => ?_
      refine qE hf rfl rfl rfl (Pu.ev (pNeA ge_30 rfl rfl (eqs_30 _ _ _ _))) fun a hf => ?_
      intro w hc
      refine h12 _ _ ?_
      refine cCond (b := (!(e_1.Lo == e_2.Lo && e_1.Hi == e_2.Hi))) hf rfl (fun hb => ?_) (fun hb => ?_)
      · replace hF := condT hb hF
        clear hb
        refine wp_seq_k fun K13 h13 => ?_
        refine cReg ?_
        refine stP hf rfl rfl rfl (pA rfl) fun a hf => ?_
        refine cNil ?_
        refine h13 _ _ ?_
        refine wp_ret ?_
        refine xBlkR ?_
        refine xThenR ?_
        refine xThenR ?_
        have he := Option.some.inj hF
        rw [← he] at hfin7
        replace hF := ho7 _ hfin7
        refine xBlkR ?_
        refine xThenR ?_
        obtain rfl := hF
        exact fnOut1 (by simp) rfl Try.results24 hf hc (show look _ 4 = _ from rfl) ⟨rfl, hc⟩
      · replace hF := condF hb hF
        clear hb
        refine wp_skip ?_
        refine h11 _ _ ?_
        refine cReg ?_
        refine stP hf rfl rfl rfl (pM rfl) fun a hf => ?_
        refine stP hf rfl rfl rfl (pAdd rfl rfl) fun a hf => ?_
        refine stP hf rfl rfl rfl (pA rfl) fun a hf => ?_
        refine cNil ?_
        exact hK7 (W (i_1 + 1)) _ _ (Option.some.inj hF).symm ⟨hf.keep ⟨rfl, rfl, rfl, trivial⟩, hc⟩
    · replace hF := condF hb hF
      clear hb
      refine wp_exit ?_
      refine xThen ?_
      refine xThen ?_
      have he := Option.some.inj hF
      rw [← he] at hfin7
      refine cHit ?_
      exact hr7 _ _ _ hfin7 ⟨hf.keep ⟨rfl, rfl, rfl, trivial⟩, hc⟩

def kit_Same_int_b7 (N : Nat) (a_ : List Int) (b_ : List Int) (i_1 : Int) : Option (Step (Int) (Bool)) :=
  cond (decide (i_1 < ((a_.length : Nat) : Int)))
  (Option.bind (getI a_ i_1) fun e_1 =>
  Option.bind (getI b_ i_1) fun e_2 =>
  cond (e_1 != e_2)
  (some (.ret false))
  (some (.cont (W (i_1 + 1)))))
  (some (.brk i_1))
def kit_Same_int (N : Nat) (a_ : List Int) (b_ : List Int) : Option (Bool) :=
  cond (((a_.length : Nat) : Int) != ((b_.length : Nat) : Int))
  (some false)
  (Option.bind (loopO (fun s7 => kit_Same_int_b7 N a_ b_ s7) N 0) fun x7 =>
  exK x7 (fun s7 => some true) some)
theorem kit_Same_int_ok {N : Nat} {G : Pers} {Lf : List Ent} {w : World} (a_ : List Int) (b_ : List Int) {a__p : Option Addr} {a__c : Nat} {b__p : Option Addr} {b__c : Nat} (h_a_ : Rd G 1 a__p a__c (a_.map encI_i64)) (h_b_ : Rd G 1 b__p b__c (b_.map encI_i64)) (hc : Ctx G (Lf) w) {res : Bool} (hF : kit_Same_int N a_ b_ = some res) : Calls Try.prog 20 #[.slice a__p a_.length a__c, .slice b__p b_.length b__c] w (fun e w => e = .returned (.bool res) ∧ Ctx G (Lf) w) := by
  unfold kit_Same_int at hF
  refine fnIn (args := [.slice a__p a_.length a__c, .slice b__p b_.length b__c]) Try.func20 rfl Try.ntmps20 rfl fun a hf => ?_
  refine wp_seq_k fun K1 h1 => ?_
  refine cReg ?_
  refine stP hf rfl rfl rfl (pA rfl) fun a hf => ?_
  refine cNil ?_
  refine h1 _ _ ?_
  refine wp_seq_k fun K2 h2 => ?_
  refine wp_seq_k fun K3 h3 => ?_
  refine cReg ?_
  refine stP hf rfl rfl rfl (pM rfl) fun a hf => ?_
  refine stP hf rfl rfl rfl (pLenS Try.underlying39 rfl) fun a hf => ?_
  refine stP hf rfl rfl rfl (pM rfl) fun a hf => ?_
  refine stP hf rfl rfl rfl (pLenS Try.underlying39 rfl) fun a hf => ?_
  refine stP hf rfl rfl rfl (pNe rfl rfl) fun a hf => ?_
  refine cNil ?_
  refine h3 _ _ ?_
  refine cCond (b := (((a_.length : Nat) : Int) != ((b_.length : Nat) : Int))) hf rfl (fun hb => ?_) (fun hb => ?_)
  · replace hF := condT hb hF
    clear hb
    refine wp_seq_k fun K4 h4 => ?_
    refine cReg ?_
    refine stP hf rfl rfl rfl (pA rfl) fun a hf => ?_
    refine cNil ?_
    refine h4 _ _ ?_
    refine wp_ret ?_
    refine xThenR ?_
    obtain rfl := Option.some.inj hF
    exact fnOut1 (by simp) rfl Try.results20 hf hc (show look _ 4 = _ from rfl) ⟨rfl, hc⟩
  · replace hF := condF hb hF
    clear hb
    refine wp_skip ?_
    refine h2 _ _ ?_
    refine wp_seq_k fun K5 h5 => ?_
    refine wp_seq_k fun K6 h6 => ?_
    refine cReg ?_
    refine stP hf rfl rfl rfl (pA rfl) fun a hf => ?_
    refine cNil ?_
    refine h6 _ _ ?_
    refine wp_block ?_
    obtain ⟨x7, hx7, hF⟩ := bnd_some hF
    let S7 : Int → Act → World → Prop := (fun (zz : Int) a w => Has 26 a [(0, .slice a__p a_.length a__c), (1, .slice b__p b_.length b__c), (5, .int .i64 zz)] ∧ Ctx G (Lf) w)
    have hr7 : ∀ (zz : Int) a w, x7 = .go zz → S7 zz a w → K5 a w := by
      rintro i_1 a w rfl ⟨hf, hc⟩
      replace hF := exK_go hF
      refine h5 _ _ ?_
      refine wp_seq_k fun K8 h8 => ?_
      refine cReg ?_
      refine stP hf rfl rfl rfl (pA rfl) fun a hf => ?_
      refine cNil ?_
      refine h8 _ _ ?_
      refine wp_ret ?_
      obtain rfl := Option.some.inj hF
      exact fnOut1 (by simp) rfl Try.results20 hf hc (show look _ 4 = _ from rfl) ⟨rfl, hc⟩
    have ho7 : ∀ r, x7 = .out r → r = res := by
      rintro r rfl
      exact Option.some.inj hF
    refine cLoop N (loopW (S := S7) (x := x7) ?_ N 0 _ _ ⟨hf.keep ⟨rfl, rfl, rfl, trivial⟩, hc⟩ hx7)
    clear hF hf hc
    rintro i_1 st7 a w KB7 ⟨hf, hc⟩ hF hfin7 hK7
    unfold kit_Same_int_b7 at hF
    refine wp_seq_k fun K9 h9 => ?_
    refine wp_seq_k fun K10 h10 => ?_
    refine cReg ?_
    refine stP hf rfl rfl rfl (pM rfl) fun a hf => ?_
    refine stP hf rfl rfl rfl (pM rfl) fun a hf => ?_
    refine stP hf rfl rfl rfl (pLenS Try.underlying39 rfl) fun a hf => ?_
    refine stP hf rfl rfl rfl (pLt rfl rfl) fun a hf => ?_
    refine cNil ?_
    refine h10 _ _ ?_
    refine cCond (b := (decide (i_1 < ((a_.length : Nat) : Int)))) hf rfl (fun hb => ?_) (fun hb => ?_)
    · replace hF := condT hb hF
      clear hb
      refine wp_skip ?_
      refine h9 _ _ ?_
      refine wp_seq_k fun K11 h11 => ?_
      refine wp_block ?_
      refine wp_seq_k fun K12 h12 => ?_
      obtain ⟨e_1, he_1, hF⟩ := bnd_some hF
      obtain ⟨b_1, o, qa, qp⟩ := h_a_.atm he_1
      obtain ⟨e_2, he_2, hF⟩ := bnd_some hF
      obtain ⟨b_2, o_1, qa_1, qp_1⟩ := h_b_.atm he_2
      refine cQ hc follows_mx (by kernel_rfl) ?_
      refine qE hf rfl rfl rfl (Pu.ev (pM rfl)) fun a hf => ?_
      refine qE hf rfl rfl rfl (Pu.ev (pM rfl)) fun a hf => ?_
      refine qE hf rfl rfl rfl (Pu.ev (pIA Try.underlying39 sz_3 rfl rfl qa)) fun a hf => ?_
      refine qE hf rfl rfl rfl (eLd1 sc_3 rfl (cell_pc (j := 0) qp rfl)) fun a hf => ?_
      refine qE hf rfl rfl rfl (Pu.ev (pM rfl)) fun a hf => ?_
      refine qE hf rfl rfl rfl (Pu.ev (pM rfl)) fun a hf => ?_
      refine qE hf rfl rfl rfl (Pu.ev (pIA Try.underlying39 sz_3 rfl rfl qa_1)) fun a hf => ?_
      refine qE hf rfl rfl rfl (eLd1 sc_3 rfl (cell_pc (j := 0) qp_1 rfl)) fun a hf => ?_
      refine qE hf rfl rfl rfl (Pu.ev (pNe rfl rfl)) fun a hf => ?_
      intro w hc
      refine h12 _ _ ?_
      refine cCond (b := (e_1 != e_2)) hf rfl (fun hb => ?_) (fun hb => ?_)
      · replace hF := condT hb hF
        clear hb
        refine wp_seq_k fun K13 h13 => ?_
        refine cReg ?_
        refine stP hf rfl rfl rfl (pA rfl) fun a hf => ?_
        refine cNil ?_
        refine h13 _ _ ?_
        refine wp_ret ?_
        refine xBlkR ?_
        refine xThenR ?_
        refine xThenR ?_
        have he := Option.some.inj hF
        rw [← he] at hfin7
        replace hF := ho7 _ hfin7
        refine xBlkR ?_
        refine xThenR ?_
        obtain rfl := hF
        exact fnOut1 (by simp) rfl Try.results20 hf hc (show look _ 4 = _ from rfl) ⟨rfl, hc⟩
      · replace hF := condF hb hF
        clear hb
        refine wp_skip ?_
        refine h11 _ _ ?_
        refine cReg ?_
        refine stP hf rfl rfl rfl (pM rfl) fun a hf => ?_
        refine stP hf rfl rfl rfl (pAdd rfl rfl) fun a hf => ?_
        refine stP hf rfl rfl rfl (pA rfl) fun a hf => ?_
        refine cNil ?_
        exact hK7 (W (i_1 + 1)) _ _ (Option.some.inj hF).symm ⟨hf.keep ⟨rfl, rfl, rfl, trivial⟩, hc⟩
    · replace hF := condF hb hF
      clear hb
      refine wp_exit ?_
      refine xThen ?_
      refine xThen ?_
      have he := Option.some.inj hF
      rw [← he] at hfin7
      refine cHit ?_
      exact hr7 _ _ _ hfin7 ⟨hf.keep ⟨rfl, rfl, rfl, trivial⟩, hc⟩

def daily_every_api_Span_1_s2 (x : api_Span) : Bool :=
  (!(daily_flows x))
theorem daily_every_api_Span_1_s2_ok {G : Pers} {Lf : List Ent} {w : World} (x : api_Span) {b_ : Nat}  (hc : Ctx G (.box b_ [.func (.func 67) #[] #[]] 130 :: Lf) w) {res : Bool} (hF : daily_every_api_Span_1_s2 x = res) : Calls Try.prog 99 #[.agg #[.int .i64 x.Lo, .int .i64 x.Hi], .pointer (some ⟨b_, 0, none⟩)] w (fun e w => e = .returned (.bool res) ∧ Ctx G (.box b_ [.func (.func 67) #[] #[]] 130 :: Lf) w) := by
  unfold daily_every_api_Span_1_s2 at hF
  refine fnIn (args := [.agg #[.int .i64 x.Lo, .int .i64 x.Hi], .pointer (some ⟨b_, 0, none⟩)]) Try.func99 rfl Try.ntmps99 rfl fun a hf => ?_
  refine wp_seq_k fun K1 h1 => ?_
  refine cReg ?_
  refine stBx (cs := [.int .i64 x.Lo, .int .i64 x.Hi]) hf hc rfl rfl rfl rfl fun b_1 a w hf hc => ?_
  refine stP hf rfl rfl rfl (pA rfl) fun a hf => ?_
  refine cNil ?_
  refine h1 _ _ ?_
  refine wp_seq_k fun K2 h2 => ?_
  refine cReg ?_
  refine stE hf hc rfl rfl rfl (eLd1 sc_130 rfl (cell_box m1 rfl)) fun a w hf hc => ?_
  refine stE hf hc rfl rfl rfl (eLdN (vs := [.int .i64 x.Lo, .int .i64 x.Hi]) ag_30 rfl rfl (cells_box (n := 2) m0 rfl)) fun a w hf hc => ?_
  refine stE hf hc rfl rfl rfl (eC (v := .bool (daily_flows x)) (vs := [.agg #[.int .i64 x.Lo, .int .i64 x.Hi]]) (caps := []) en_67 rfl rfl rfl rfl (fun w hc => daily_flows_ok x hc rfl)) fun a w hf hc => ?_
  refine stP hf rfl rfl rfl (pNot rfl) fun a hf => ?_
  refine stP hf rfl rfl rfl (pA rfl) fun a hf => ?_
  refine cNil ?_
  refine h2 _ _ ?_
  refine wp_ret ?_
  obtain rfl := hF
  replace hc := hc.drop k0
  exact fnOut1 (by simp) rfl Try.results99 hf hc (show look _ 3 = _ from rfl) ⟨rfl, hc⟩

def slices_IndexFunc_Lapi_Span_api_Span_s2_b4 (N : Nat) (s_ : List api_Span) (x : Int) : Option (Step (Int) (Int)) :=
  cond (decide (x < ((s_.length : Nat) : Int)))
  (Option.bind (getI s_ x) fun e_1 =>
  cond (daily_every_api_Span_1_s2 e_1)
  (some (.ret x))
  (some (.cont (W (x + 1)))))
  (some (.brk x))
def slices_IndexFunc_Lapi_Span_api_Span_s2 (N : Nat) (s_ : List api_Span) : Option (Int) :=
  Option.bind (loopO (fun s4 => slices_IndexFunc_Lapi_Span_api_Span_s2_b4 N s_ s4) N 0) fun x4 =>
  exK x4 (fun s4 => some (-1)) some
theorem slices_IndexFunc_Lapi_Span_api_Span_s2_ok {N : Nat} {G : Pers} {Lf : List Ent} {w : World} (s_ : List api_Span) {s__p : Option Addr} {s__c : Nat} {b_ : Nat} (h_s_ : Rd G 2 s__p s__c (s_.map enc_api_Span)) (hc : Ctx G (.box b_ [.func (.func 67) #[] #[]] 130 :: Lf) w) {res : Int} (hF : slices_IndexFunc_Lapi_Span_api_Span_s2 N s_ = some res) : Calls Try.prog 124 #[.slice s__p s_.length s__c, .func (.func 99) #[] #[.pointer (some ⟨b_, 0, none⟩)]] w (fun e w => e = .returned (.int .i64 res) ∧ Ctx G (.box b_ [.func (.func 67) #[] #[]] 130 :: Lf) w) := by
  unfold slices_IndexFunc_Lapi_Span_api_Span_s2 at hF
  refine fnIn (args := [.slice s__p s_.length s__c, .func (.func 99) #[] #[.pointer (some ⟨b_, 0, none⟩)]]) Try.func124 rfl Try.ntmps124 rfl fun a hf => ?_
  refine wp_seq_k fun K1 h1 => ?_
  refine cReg ?_
  refine stP hf rfl rfl rfl (pA rfl) fun a hf => ?_
  refine cNil ?_
  refine h1 _ _ ?_
  refine wp_seq_k fun K2 h2 => ?_
  refine wp_seq_k fun K3 h3 => ?_
  refine cReg ?_
  refine stP hf rfl rfl rfl (pM rfl) fun a hf => ?_
  refine stP hf rfl rfl rfl (pLenS Try.underlying25 rfl) fun a hf => ?_
  refine stP hf rfl rfl rfl (pM rfl) fun a hf => ?_
  refine cNil ?_
  refine h3 _ _ ?_
  refine wp_block ?_
  obtain ⟨x4, hx4, hF⟩ := bnd_some hF
  let S4 : Int → Act → World → Prop := (fun (zz : Int) a w => Has 19 a [(0, .slice s__p s_.length s__c), (1, .func (.func 99) #[] #[.pointer (some ⟨b_, 0, none⟩)]), (7, .int .i64 ((s_.length : Nat) : Int)), (8, .int .i64 zz)] ∧ Ctx G (.box b_ [.func (.func 67) #[] #[]] 130 :: Lf) w)
  have hr4 : ∀ (zz : Int) a w, x4 = .go zz → S4 zz a w → K2 a w := by
    rintro x a w rfl ⟨hf, hc⟩
    replace hF := exK_go hF
    refine h2 _ _ ?_
    refine wp_seq_k fun K5 h5 => ?_
    refine cReg ?_
    refine stP hf rfl rfl rfl (pA rfl) fun a hf => ?_
    refine cNil ?_
    refine h5 _ _ ?_
    refine wp_ret ?_
    obtain rfl := Option.some.inj hF
    exact fnOut1 (by simp) rfl Try.results124 hf hc (show look _ 4 = _ from rfl) ⟨rfl, hc⟩
  have ho4 : ∀ r, x4 = .out r → r = res := by
    rintro r rfl
    exact Option.some.inj hF
  refine cLoop N (loopW (S := S4) (x := x4) ?_ N 0 _ _ ⟨hf.keep ⟨rfl, rfl, rfl, rfl, trivial⟩, hc⟩ hx4)
  clear hF hf hc
  rintro x st4 a w KB4 ⟨hf, hc⟩ hF hfin4 hK4
  unfold slices_IndexFunc_Lapi_Span_api_Span_s2_b4 at hF
  refine wp_seq_k fun K6 h6 => ?_
  refine cReg ?_
  refine stP hf rfl rfl rfl (pLt rfl rfl) fun a hf => ?_
  refine cNil ?_
  refine h6 _ _ ?_
  refine wp_seq_k fun K7 h7 => ?_
  refine cCond (b := (decide (x < ((s_.length : Nat) : Int)))) hf rfl (fun hb => ?_) (fun hb => ?_)
  · replace hF := condT hb hF
    clear hb
    refine wp_skip ?_
    refine h7 _ _ ?_
    refine wp_seq_k fun K8 h8 => ?_
    refine wp_block ?_
    refine wp_seq_k fun K9 h9 => ?_
    refine cReg ?_
    refine stP hf rfl rfl rfl (pM rfl) fun a hf => ?_
    refine stP hf rfl rfl rfl (pA rfl) fun a hf => ?_
    refine cNil ?_
    refine h9 _ _ ?_
    refine wp_seq_k fun K10 h10 => ?_
    refine cReg ?_
    refine stP hf rfl rfl rfl (pM rfl) fun a hf => ?_
    refine stP hf rfl rfl rfl (pM rfl) fun a hf => ?_
    refine stP hf rfl rfl rfl (pM rfl) fun a hf => ?_
    obtain ⟨e_1, he_1, hF⟩ := bnd_some hF
    obtain ⟨b_1, o, qa, qp⟩ := h_s_.atm he_1
    refine stP hf rfl rfl rfl (pIA Try.underlying25 sz_30 rfl rfl qa) fun a hf => ?_
    refine stE hf hc rfl rfl rfl (eLdN (vs := [.int .i64 e_1.Lo, .int .i64 e_1.Hi]) ag_30 rfl rfl (cells_pc qp (n := 2) (o' := 0) rfl)) fun a w hf hc => ?_
    refine stE hf hc rfl rfl rfl (eC (v := .bool (daily_every_api_Span_1_s2 e_1)) (vs := [.agg #[.int .i64 e_1.Lo, .int .i64 e_1.Hi]]) (caps := [.pointer (some ⟨b_, 0, none⟩)]) en_99 rfl rfl rfl rfl (fun w hc => (daily_every_api_Span_1_s2_ok e_1 (hc.pick k0) rfl).mono fun e w h => ⟨h.1, (h.2.unpick k0)⟩)) fun a w hf hc => ?_
    refine cNil ?_
    refine h10 _ _ ?_
    refine cCond (b := (daily_every_api_Span_1_s2 e_1)) hf rfl (fun hb => ?_) (fun hb => ?_)
    · replace hF := condT hb hF
      clear hb
      refine wp_seq_k fun K11 h11 => ?_
      refine cReg ?_
      refine stP hf rfl rfl rfl (pM rfl) fun a hf => ?_
      refine stP hf rfl rfl rfl (pA rfl) fun a hf => ?_
      refine cNil ?_
      refine h11 _ _ ?_
      refine wp_ret ?_
      refine xBlkR ?_
      refine xThenR ?_
      refine xThenR ?_
      have he := Option.some.inj hF
      rw [← he] at hfin4
      replace hF := ho4 _ hfin4
      refine xBlkR ?_
      refine xThenR ?_
      obtain rfl := hF
      exact fnOut1 (by simp) rfl Try.results124 hf hc (show look _ 4 = _ from rfl) ⟨rfl, hc⟩
    · replace hF := condF hb hF
      clear hb
      refine wp_skip ?_
      refine h8 _ _ ?_
      refine cReg ?_
      refine stP hf rfl rfl rfl (pAdd rfl rfl) fun a hf => ?_
      refine stP hf rfl rfl rfl (pM rfl) fun a hf => ?_
      refine cNil ?_
      exact hK4 (W (x + 1)) _ _ (Option.some.inj hF).symm ⟨hf.keep ⟨rfl, rfl, rfl, rfl, trivial⟩, hc⟩
  · replace hF := condF hb hF
    clear hb
    refine wp_exit ?_
    refine xThen ?_
    refine xThen ?_
    have he := Option.some.inj hF
    rw [← he] at hfin4
    refine cHit ?_
    exact hr4 _ _ _ hfin4 ⟨hf.keep ⟨rfl, rfl, rfl, rfl, trivial⟩, hc⟩

def slices_ContainsFunc_Lapi_Span_api_Span_s2 (N : Nat) (s_ : List api_Span) : Option (Bool) :=
  Option.bind (slices_IndexFunc_Lapi_Span_api_Span_s2 N s_) fun r =>
  some (decide (0 ≤ r))
theorem slices_ContainsFunc_Lapi_Span_api_Span_s2_ok {N : Nat} {G : Pers} {Lf : List Ent} {w : World} (s_ : List api_Span) {s__p : Option Addr} {s__c : Nat} {b_ : Nat} (h_s_ : Rd G 2 s__p s__c (s_.map enc_api_Span)) (hc : Ctx G (.box b_ [.func (.func 67) #[] #[]] 130 :: Lf) w) {res : Bool} (hF : slices_ContainsFunc_Lapi_Span_api_Span_s2 N s_ = some res) : Calls Try.prog 98 #[.slice s__p s_.length s__c, .func (.func 99) #[] #[.pointer (some ⟨b_, 0, none⟩)]] w (fun e w => e = .returned (.bool res) ∧ Ctx G (.box b_ [.func (.func 67) #[] #[]] 130 :: Lf) w) := by
  unfold slices_ContainsFunc_Lapi_Span_api_Span_s2 at hF
  refine fnIn (args := [.slice s__p s_.length s__c, .func (.func 99) #[] #[.pointer (some ⟨b_, 0, none⟩)]]) Try.func98 rfl Try.ntmps98 rfl fun a hf => ?_
  refine wp_seq_k fun K1 h1 => ?_
  refine cReg ?_
  refine stP hf rfl rfl rfl (pA rfl) fun a hf => ?_
  refine cNil ?_
  refine h1 _ _ ?_
  refine wp_seq_k fun K2 h2 => ?_
  refine cReg ?_
  refine stP hf rfl rfl rfl (pM rfl) fun a hf => ?_
  refine stP hf rfl rfl rfl (pM rfl) fun a hf => ?_
  obtain ⟨r, hr, hF⟩ := bnd_some hF
  refine stE hf hc rfl rfl rfl (eC (v := .int .i64 r) (vs := [.slice s__p s_.length s__c, .func (.func 99) #[] #[.pointer (some ⟨b_, 0, none⟩)]]) (caps := []) en_124 rfl rfl rfl rfl (fun w hc => (slices_IndexFunc_Lapi_Span_api_Span_s2_ok s_ h_s_ (hc.pick k0) hr).mono fun e w h => ⟨h.1, (h.2.unpick k0)⟩)) fun a w hf hc => ?_
  refine stP hf rfl rfl rfl (pGe rfl rfl) fun a hf => ?_
  refine stP hf rfl rfl rfl (pA rfl) fun a hf => ?_
  refine cNil ?_
  refine h2 _ _ ?_
  refine wp_ret ?_
  obtain rfl := Option.some.inj hF
  exact fnOut1 (by simp) rfl Try.results98 hf hc (show look _ 4 = _ from rfl) ⟨rfl, hc⟩

def daily_every_api_Span_s2 (N : Nat) (l : List api_Span) : Option (Bool) :=
  Option.bind (slices_ContainsFunc_Lapi_Span_api_Span_s2 N l) fun r =>
  some (!r)
theorem daily_every_api_Span_s2_ok {N : Nat} {G : Pers} {Lf : List Ent} {w : World} (l : List api_Span) {l_p : Option Addr} {l_c : Nat} (h_l : Rd G 2 l_p l_c (l.map enc_api_Span)) (hc : Ctx G (Lf) w) {res : Bool} (hF : daily_every_api_Span_s2 N l = some res) : Calls Try.prog 66 #[.slice l_p l.length l_c, .func (.func 67) #[] #[]] w (fun e w => e = .returned (.bool res) ∧ Ctx G (Lf) w) := by
  unfold daily_every_api_Span_s2 at hF
  refine fnIn (args := [.slice l_p l.length l_c, .func (.func 67) #[] #[]]) Try.func66 rfl Try.ntmps66 rfl fun a hf => ?_
  refine wp_seq_k fun K1 h1 => ?_
  refine cReg ?_
  refine stBx (cs := [.func (.func 67) #[] #[]]) hf hc rfl rfl rfl rfl fun b_1 a w hf hc => ?_
  refine stP hf rfl rfl rfl (pA rfl) fun a hf => ?_
  refine cNil ?_
  refine h1 _ _ ?_
  refine wp_seq_k fun K2 h2 => ?_
  refine cReg ?_
  refine stP hf rfl rfl rfl (pM rfl) fun a hf => ?_
  refine stP hf rfl rfl rfl (pMF (us := [.pointer (some ⟨b_1, 0, none⟩)]) rfl rfl) fun a hf => ?_
  obtain ⟨r, hr, hF⟩ := bnd_some hF
  refine stE hf hc rfl rfl rfl (eC (v := .bool r) (vs := [.slice l_p l.length l_c, .func (.func 99) #[] #[.pointer (some ⟨b_1, 0, none⟩)]]) (caps := []) en_98 rfl rfl rfl rfl (fun w hc => (slices_ContainsFunc_Lapi_Span_api_Span_s2_ok l h_l (hc.pick k0) hr).mono fun e w h => ⟨h.1, (h.2.unpick k0)⟩)) fun a w hf hc => ?_
  refine stP hf rfl rfl rfl (pNot rfl) fun a hf => ?_
  refine stP hf rfl rfl rfl (pA rfl) fun a hf => ?_
  refine cNil ?_
  refine h2 _ _ ?_
  refine wp_ret ?_
  obtain rfl := Option.some.inj hF
  replace hc := hc.drop k0
  exact fnOut1 (by simp) rfl Try.results66 hf hc (show look _ 4 = _ from rfl) ⟨rfl, hc⟩

def daily_work_again (N : Nat) (w_ : daily_work) (day : Int) (published : api_Span) : Option (Bool) :=
  Option.bind (getI w_.spans day) fun e_1 =>
  some ((decide (e_1.Lo < published.Lo)) || (decide (published.Hi < e_1.Hi)))
theorem daily_work_again_ok {N : Nat} {G : Pers} {Lf : List Ent} {w : World} (w_ : daily_work) (day : Int) (published : api_Span) {b_ : Nat} {w__Record_Days_p : Option Addr} {w__Record_Days_c : Nat} {w__spans_p : Option Addr} {w__spans_c : Nat} (h_w__Record_Days : Rd G 3 w__Record_Days_p w__Record_Days_c (w_.Record.Days.map enc_daily_Value)) (h_w__spans : Rd G 2 w__spans_p w__spans_c (w_.spans.map enc_api_Span)) (hc : Ctx G (.box b_ [.int .i64 w_.Record.Rise, .int .i64 w_.Record.Fall, .slice w__Record_Days_p w_.Record.Days.length w__Record_Days_c, .slice w__spans_p w_.spans.length w__spans_c] 120 :: Lf) w) {res : Bool} (hF : daily_work_again N w_ day published = some res) : Calls Try.prog 68 #[.pointer (some ⟨b_, 0, none⟩), .int .i64 day, .agg #[.int .i64 published.Lo, .int .i64 published.Hi]] w (fun e w => e = .returned (.bool res) ∧ Ctx G (.box b_ [.int .i64 w_.Record.Rise, .int .i64 w_.Record.Fall, .slice w__Record_Days_p w_.Record.Days.length w__Record_Days_c, .slice w__spans_p w_.spans.length w__spans_c] 120 :: Lf) w) := by
  unfold daily_work_again at hF
  refine fnIn (args := [.pointer (some ⟨b_, 0, none⟩), .int .i64 day, .agg #[.int .i64 published.Lo, .int .i64 published.Hi]]) Try.func68 rfl Try.ntmps68 rfl fun a hf => ?_
  refine wp_seq_k fun K1 h1 => ?_
  refine cReg ?_
  refine stBx (cs := [.int .i64 published.Lo, .int .i64 published.Hi]) hf hc rfl rfl rfl rfl fun b_1 a w hf hc => ?_
  refine stP hf rfl rfl rfl (pA rfl) fun a hf => ?_
  refine cNil ?_
  refine h1 _ _ ?_
  refine wp_seq_k fun K2 h2 => ?_
  refine cReg ?_
  refine stP hf rfl rfl rfl (pM rfl) fun a hf => ?_
  refine stP hf rfl rfl rfl (pNC rfl) fun a hf => ?_
  refine stP hf rfl rfl rfl (pFA fa_120_1 rfl) fun a hf => ?_
  refine stE hf hc rfl rfl rfl (eLd1 sc_25 rfl (cell_box m1 rfl)) fun a w hf hc => ?_
  refine stP hf rfl rfl rfl (pM rfl) fun a hf => ?_
  obtain ⟨e_1, he_1, hF⟩ := bnd_some hF
  obtain ⟨b_2, o, qa, qp⟩ := h_w__spans.atm he_1
  refine stP hf rfl rfl rfl (pIA Try.underlying25 sz_30 rfl rfl qa) fun a hf => ?_
  refine stE hf hc rfl rfl rfl (eLdN (vs := [.int .i64 e_1.Lo, .int .i64 e_1.Hi]) ag_30 rfl rfl (cells_pc qp (n := 2) (o' := 0) rfl)) fun a w hf hc => ?_
  refine stAl (cs := [.int .i64 0, .int .i64 0]) hf hc rfl rfl zr_30 rfl fun b_3 a w hf hc => ?_
  refine stSt (vs := [.int .i64 e_1.Lo, .int .i64 e_1.Hi]) hf hc rfl rfl rfl rfl sz_30 rfl rfl u0 fun w hc => ?_
  refine cNil ?_
  refine h2 _ _ ?_
  refine wp_seq_k fun K3 h3 => ?_
  refine cReg ?_
  refine stP hf rfl rfl rfl (pFA fa_30_0 rfl) fun a hf => ?_
  refine stE hf hc rfl rfl rfl (eLd1 sc_3 rfl (cell_box m0 rfl)) fun a w hf hc => ?_
  refine stP hf rfl rfl rfl (pFA fa_30_0 rfl) fun a hf => ?_
  refine stE hf hc rfl rfl rfl (eLd1 sc_3 rfl (cell_box m1 rfl)) fun a w hf hc => ?_
  refine stP hf rfl rfl rfl (pLt rfl rfl) fun a hf => ?_
  refine stP hf rfl rfl rfl (pM rfl) fun a hf => ?_
  refine stCut 6 (fun a w => Has 27 a [(5, .pointer (some ⟨b_1, 0, none⟩)), (6, .bool false), (7, .pointer (some ⟨b_3, 0, none⟩)), (15, .pointer (some ⟨b_3, 0, none⟩)), (16, .int .i64 e_1.Lo), (17, .pointer (some ⟨b_1, 0, none⟩)), (18, .int .i64 published.Lo), (19, .bool (decide (e_1.Lo < published.Lo))), (20, .bool (decide (e_1.Lo < published.Lo))), (26, .bool ((decide (e_1.Lo < published.Lo)) || (decide (published.Hi < e_1.Hi))))] ∧ Ctx G (.box b_3 [.int .i64 e_1.Lo, .int .i64 e_1.Hi] 30 :: .box b_1 [.int .i64 published.Lo, .int .i64 published.Hi] 30 :: .box b_ [.int .i64 w_.Record.Rise, .int .i64 w_.Record.Fall, .slice w__Record_Days_p w_.Record.Days.length w__Record_Days_c, .slice w__spans_p w_.spans.length w__spans_c] 120 :: Lf) w) ?_ ?_
  · cases hb : (decide (e_1.Lo < published.Lo))
    · rw [hb] at hf
      refine stP hf rfl rfl rfl (pFA fa_30_1 rfl) fun a hf => ?_
      refine stE hf hc rfl rfl rfl (eLd1 sc_3 rfl (cell_box m0 rfl)) fun a w hf hc => ?_
      refine stP hf rfl rfl rfl (pFA fa_30_1 rfl) fun a hf => ?_
      refine stE hf hc rfl rfl rfl (eLd1 sc_3 rfl (cell_box m1 rfl)) fun a w hf hc => ?_
      refine stP hf rfl rfl rfl (pGt rfl rfl) fun a hf => ?_
      refine stP hf rfl rfl rfl (pPf rfl rfl) fun a hf => ?_
      exact cNil ⟨hf.keep ⟨rfl, rfl, rfl, rfl, rfl, rfl, rfl, rfl, rfl, rfl, trivial⟩, hc⟩
    · rw [hb] at hf
      refine stS hf rfl rfl rfl fun a hf => ?_
      refine stS hf rfl rfl rfl fun a hf => ?_
      refine stS hf rfl rfl rfl fun a hf => ?_
      refine stS hf rfl rfl rfl fun a hf => ?_
      refine stS hf rfl rfl rfl fun a hf => ?_
      refine stP hf rfl rfl rfl (pPt rfl rfl) fun a hf => ?_
      exact cNil ⟨hf.keep ⟨rfl, rfl, rfl, rfl, rfl, rfl, rfl, rfl, rfl, rfl, trivial⟩, hc⟩
  intro a w ⟨hf, hc⟩
  refine stP hf rfl rfl rfl (pA rfl) fun a hf => ?_
  refine cNil ?_
  refine h3 _ _ ?_
  refine wp_ret ?_
  obtain rfl := Option.some.inj hF
  replace hc := hc.drop k1
  replace hc := hc.drop k0
  exact fnOut1 (by simp) rfl Try.results68 hf hc (show look _ 6 = _ from rfl) ⟨rfl, hc⟩

def daily_Again_b18 (N : Nat) (published : List api_Span) : Option (Step (Unit) ((List Int) × Int)) :=
  cond (decide (0 < ((published.length : Nat) : Int)))
  (Option.bind (getI published 0) fun e_1 =>
  none)
  (some (.brk ()))
def daily_Again_j36 (N : Nat) (x : Int) (out_1 : List Int) : Option (Step ((List Int) × Int) ((List Int) × Int)) :=
  some (.cont (out_1, W (x + 1)))
def daily_Again_b32 (N : Nat) (r : daily_Record) (published : List api_Span) (r_3 : Int × Int × (List api_Span) × Int) (out : List Int) (x : Int) : Option (Step ((List Int) × Int) ((List Int) × Int)) :=
  cond (decide (x < ((published.length : Nat) : Int)))
  (Option.bind (getI published x) fun e_2 =>
  Option.bind (daily_work_again N (⟨(⟨r_3.1, r_3.2.1, r.Days⟩ : daily_Record), r_3.2.2.1⟩ : daily_work) x e_2) fun r_4 =>
  cond r_4
  (Option.bind (room ((out ++ [x])).length) fun un =>
  daily_Again_j36 N x (out ++ [x]))
  (daily_Again_j36 N x out))
  (some (.brk (out, x)))
def daily_Again (N : Nat) (r : daily_Record) (published : List api_Span) : Option ((List Int) × Int) :=
  Option.bind (daily_Check N r) fun r_0 =>
  cond (r_0 != 0)
  (some (([] : List Int), r_0))
  (cond (((published.length : Nat) : Int) != ((r.Days.length : Nat) : Int))
  (some (([] : List Int), 2))
  (Option.bind (daily_every_api_Span_s2 N published) fun r_1 =>
  cond (!r_1)
  (some (([] : List Int), 4))
  (Option.bind (daily_agreed N r) (sumK (fun r_2 => cond (r_2 != 0)
  (some (([] : List Int), r_2))
  (Option.bind (loopO (fun (_ : Unit) => daily_Again_b18 N published) N ()) fun x18 =>
  exK x18 (fun (_ : Unit) => some (([] : List Int), 0)) some))
  (fun r_3 => cond (r_3.2.2.2 != 0)
  (some (([] : List Int), r_3.2.2.2))
  (Option.bind (loopO (fun s32 => daily_Again_b32 N r published r_3 s32.1 s32.2) N (([] : List Int), 0)) fun x32 =>
  exK x32 (fun s32 => some (s32.1, 0)) some))))))
theorem daily_Again_ok {N : Nat} {G : Pers} {Lf : List Ent} {w : World} (r : daily_Record) (published : List api_Span) {r_Days_p : Option Addr} {r_Days_c : Nat} {published_p : Option Addr} {published_c : Nat} (h_r_Days : Rd G 3 r_Days_p r_Days_c (r.Days.map enc_daily_Value)) (h_published : Rd G 2 published_p published_c (published.map enc_api_Span)) (hc : Ctx G (Lf) w) {res : (List Int) × Int} (hF : daily_Again N r published = some res) : Calls Try.prog 21 #[.agg #[.int .i64 r.Rise, .int .i64 r.Fall, .slice r_Days_p r.Days.length r_Days_c], .slice published_p published.length published_c] w (fun e w => ∃ (p'1 : Option Addr) (c'1 : Nat), e = .returned (.tuple #[.slice p'1 res.1.length c'1, .int .i64 res.2]) ∧ Ctx G (.row p'1 c'1 (res.1.map encI_i64) 3 1 :: Lf) w) := by
  unfold daily_Again at hF
  refine fnIn (args := [.agg #[.int .i64 r.Rise, .int .i64 r.Fall, .slice r_Days_p r.Days.length r_Days_c], .slice published_p published.length published_c]) Try.func21 rfl Try.ntmps21 rfl fun a hf => ?_
  refine wp_seq_k fun K1 h1 => ?_
  refine cReg ?_
  refine stBx (cs := [.int .i64 r.Rise, .int .i64 r.Fall, .slice r_Days_p r.Days.length r_Days_c]) hf hc rfl rfl rfl rfl fun b_1 a w hf hc => ?_
  refine stP hf rfl rfl rfl (pA rfl) fun a hf => ?_
  refine stP hf rfl rfl rfl (pA rfl) fun a hf => ?_
  refine cNil ?_
  refine h1 _ _ ?_
  refine wp_seq_k fun K2 h2 => ?_
  refine cReg ?_
  refine stE hf hc rfl rfl rfl (eLdN (vs := [.int .i64 r.Rise, .int .i64 r.Fall, .slice r_Days_p r.Days.length r_Days_c]) ag_24 rfl rfl (cells_box (n := 3) m0 rfl)) fun a w hf hc => ?_
  obtain ⟨r_0, hr_0, hF⟩ := bnd_some hF
  refine stE hf hc rfl rfl rfl (eC (v := .int .i64 r_0) (vs := [.agg #[.int .i64 r.Rise, .int .i64 r.Fall, .slice r_Days_p r.Days.length r_Days_c]]) (caps := []) en_34 rfl rfl rfl rfl (fun w hc => daily_Check_ok r h_r_Days hc hr_0)) fun a w hf hc => ?_
  refine stP hf rfl rfl rfl (pA rfl) fun a hf => ?_
  refine cNil ?_
  refine h2 _ _ ?_
  refine wp_seq_k fun K3 h3 => ?_
  refine wp_block ?_
  refine wp_seq_k fun K4 h4 => ?_
  refine cReg ?_
  refine stP hf rfl rfl rfl (pM rfl) fun a hf => ?_
  refine stP hf rfl rfl rfl (pNe rfl rfl) fun a hf => ?_
  refine stP hf rfl rfl rfl (pA rfl) fun a hf => ?_
  refine cNil ?_
  refine h4 _ _ ?_
  refine cCond (b := (r_0 != 0)) hf rfl (fun hb => ?_) (fun hb => ?_)
  · replace hF := condT hb hF
    clear hb
    refine wp_seq_k fun K5 h5 => ?_
    refine cReg ?_
    refine stP hf rfl rfl rfl (pM rfl) fun a hf => ?_
    refine stP hf rfl rfl rfl (pA rfl) fun a hf => ?_
    refine stP hf rfl rfl rfl (pA rfl) fun a hf => ?_
    refine cNil ?_
    refine h5 _ _ ?_
    refine wp_ret ?_
    refine xBlkR ?_
    refine xThenR ?_
    obtain rfl := Option.some.inj hF
    replace hc := hc.nilRow 3 1
    replace hc := hc.drop k1
    exact fnOut2 (by simp) rfl Try.results21 hf hc (show look _ 4 = _ from rfl) (show look _ 5 = _ from rfl) ⟨none, 0, rfl, hc⟩
  · replace hF := condF hb hF
    clear hb
    refine wp_seq_k fun K6 h6 => ?_
    refine cReg ?_
    refine stP hf rfl rfl rfl (pM rfl) fun a hf => ?_
    refine stP hf rfl rfl rfl (pLenS Try.underlying25 rfl) fun a hf => ?_
    refine stP hf rfl rfl rfl (pFA fa_24_2 rfl) fun a hf => ?_
    refine stE hf hc rfl rfl rfl (eLd1 sc_22 rfl (cell_box m0 rfl)) fun a w hf hc => ?_
    refine stP hf rfl rfl rfl (pLenS Try.underlying22 rfl) fun a hf => ?_
    refine stP hf rfl rfl rfl (pNe rfl rfl) fun a hf => ?_
    refine stP hf rfl rfl rfl (pA rfl) fun a hf => ?_
    refine cNil ?_
    refine h6 _ _ ?_
    refine cCond (b := (((published.length : Nat) : Int) != ((r.Days.length : Nat) : Int))) hf rfl (fun hb => ?_) (fun hb => ?_)
    · replace hF := condT hb hF
      clear hb
      refine wp_seq_k fun K7 h7 => ?_
      refine cReg ?_
      refine stP hf rfl rfl rfl (pA rfl) fun a hf => ?_
      refine stP hf rfl rfl rfl (pA rfl) fun a hf => ?_
      refine cNil ?_
      refine h7 _ _ ?_
      refine wp_ret ?_
      refine xBlkR ?_
      refine xThenR ?_
      obtain rfl := Option.some.inj hF
      replace hc := hc.nilRow 3 1
      replace hc := hc.drop k1
      exact fnOut2 (by simp) rfl Try.results21 hf hc (show look _ 4 = _ from rfl) (show look _ 5 = _ from rfl) ⟨none, 0, rfl, hc⟩
    · replace hF := condF hb hF
      clear hb
      refine wp_seq_k fun K8 h8 => ?_
      refine cReg ?_
      refine stP hf rfl rfl rfl (pM rfl) fun a hf => ?_
      obtain ⟨r_1, hr_1, hF⟩ := bnd_some hF
      refine stE hf hc rfl rfl rfl (eC (v := .bool r_1) (vs := [.slice published_p published.length published_c, .func (.func 67) #[] #[]]) (caps := []) en_66 rfl rfl rfl rfl (fun w hc => daily_every_api_Span_s2_ok published h_published hc hr_1)) fun a w hf hc => ?_
      refine stP hf rfl rfl rfl (pNot rfl) fun a hf => ?_
      refine stP hf rfl rfl rfl (pA rfl) fun a hf => ?_
      refine cNil ?_
      refine h8 _ _ ?_
      refine cCond (b := (!r_1)) hf rfl (fun hb => ?_) (fun hb => ?_)
      · replace hF := condT hb hF
        clear hb
        refine wp_seq_k fun K9 h9 => ?_
        refine cReg ?_
        refine stP hf rfl rfl rfl (pA rfl) fun a hf => ?_
        refine stP hf rfl rfl rfl (pA rfl) fun a hf => ?_
        refine cNil ?_
        refine h9 _ _ ?_
        refine wp_ret ?_
        refine xBlkR ?_
        refine xThenR ?_
        obtain rfl := Option.some.inj hF
        replace hc := hc.nilRow 3 1
        replace hc := hc.drop k1
        exact fnOut2 (by simp) rfl Try.results21 hf hc (show look _ 4 = _ from rfl) (show look _ 5 = _ from rfl) ⟨none, 0, rfl, hc⟩
      · replace hF := condF hb hF
        clear hb
        refine wp_skip ?_
        refine h3 _ _ ?_
        refine wp_seq_k fun K10 h10 => ?_
        refine cReg ?_
        refine stE hf hc rfl rfl rfl (eLdN (vs := [.int .i64 r.Rise, .int .i64 r.Fall, .slice r_Days_p r.Days.length r_Days_c]) ag_24 rfl rfl (cells_box (n := 3) m0 rfl)) fun a w hf hc => ?_
        obtain ⟨r_2, hr_2, hF⟩ := bnd_some hF
        cases r_2 with
        | inl r_2 =>
          replace hF := sumKl hF
          refine stC (vs := [.agg #[.int .i64 r.Rise, .int .i64 r.Fall, .slice r_Days_p r.Days.length r_Days_c]]) (caps := []) hf rfl rfl rfl en_61 rfl rfl rfl rfl (daily_agreed_ok r h_r_Days hc hr_2) ?_
          rintro _ w ⟨rfl, hc⟩
          refine ⟨_, rfl, fun a hf => ?_⟩
          refine stP hf rfl rfl rfl (pM rfl) fun a hf => ?_
          refine stP hf rfl rfl rfl (pX rfl rfl) fun a hf => ?_
          refine stP hf rfl rfl rfl (pX rfl rfl) fun a hf => ?_
          refine stP hf rfl rfl rfl (pA rfl) fun a hf => ?_
          refine stP hf rfl rfl rfl (pA rfl) fun a hf => ?_
          refine cNil ?_
          refine h10 _ _ ?_
          refine wp_seq_k fun K11 h11 => ?_
          refine wp_seq_k fun K12 h12 => ?_
          refine cReg ?_
          refine stP hf rfl rfl rfl (pM rfl) fun a hf => ?_
          refine stP hf rfl rfl rfl (pNe rfl rfl) fun a hf => ?_
          refine cNil ?_
          refine h12 _ _ ?_
          refine cCond (b := (r_2 != 0)) hf rfl (fun hb => ?_) (fun hb => ?_)
          · replace hF := condT hb hF
            clear hb
            refine wp_seq_k fun K13 h13 => ?_
            refine cReg ?_
            refine stP hf rfl rfl rfl (pM rfl) fun a hf => ?_
            refine stP hf rfl rfl rfl (pA rfl) fun a hf => ?_
            refine stP hf rfl rfl rfl (pA rfl) fun a hf => ?_
            refine cNil ?_
            refine h13 _ _ ?_
            refine wp_ret ?_
            refine xThenR ?_
            obtain rfl := Option.some.inj hF
            replace hc := hc.nilRow 3 1
            replace hc := hc.drop k1
            exact fnOut2 (by simp) rfl Try.results21 hf hc (show look _ 4 = _ from rfl) (show look _ 5 = _ from rfl) ⟨none, 0, rfl, hc⟩
          · replace hF := condF hb hF
            clear hb
            refine wp_skip ?_
            refine h11 _ _ ?_
            refine wp_seq_k fun K14 h14 => ?_
            refine cReg ?_
            refine stP hf rfl rfl rfl (pA rfl) fun a hf => ?_
            refine cNil ?_
            refine h14 _ _ ?_
            refine wp_seq_k fun K15 h15 => ?_
            refine cReg ?_
            refine stP hf rfl rfl rfl (pM rfl) fun a hf => ?_
            refine stP hf rfl rfl rfl (pMF (vs := [.pointer none]) (us := []) rfl rfl) fun a hf => ?_
            refine stP hf rfl rfl rfl (pA rfl) fun a hf => ?_
            refine cNil ?_
            refine h15 _ _ ?_
            refine wp_seq_k fun K16 h16 => ?_
            refine wp_seq_k fun K17 h17 => ?_
            refine cReg ?_
            refine stP hf rfl rfl rfl (pM rfl) fun a hf => ?_
            refine stP hf rfl rfl rfl (pLenS Try.underlying25 rfl) fun a hf => ?_
            refine stP hf rfl rfl rfl (pM rfl) fun a hf => ?_
            refine cNil ?_
            refine h17 _ _ ?_
            refine wp_block ?_
            obtain ⟨x18, hx18, hF⟩ := bnd_some hF
            let S18 : Unit → Act → World → Prop := (fun (zz : Unit) a w => Has 56 a [(8, .slice none 0 0), (9, .func (.func 68) #[.pointer none] #[]), (39, .slice published_p published.length published_c), (40, .int .i64 ((published.length : Nat) : Int)), (41, .int .i64 0)] ∧ Ctx G (Lf) w)
            have hr18 : ∀ (zz : Unit) a w, x18 = .go zz → S18 zz a w → K16 a w := by
              rintro ⟨⟩ a w rfl ⟨hf, hc⟩
              replace hF := exK_go hF
              refine h16 _ _ ?_
              refine wp_seq_k fun K19 h19 => ?_
              refine cReg ?_
              refine stP hf rfl rfl rfl (pM rfl) fun a hf => ?_
              refine stP hf rfl rfl rfl (pA rfl) fun a hf => ?_
              refine stP hf rfl rfl rfl (pA rfl) fun a hf => ?_
              refine cNil ?_
              refine h19 _ _ ?_
              refine wp_ret ?_
              obtain rfl := Option.some.inj hF
              replace hc := hc.nilRow 3 1
              exact fnOut2 (by simp) rfl Try.results21 hf hc (show look _ 4 = _ from rfl) (show look _ 5 = _ from rfl) ⟨none, 0, rfl, hc⟩
            have ho18 : ∀ r, x18 = .out r → r = res := by
              rintro r rfl
              exact Option.some.inj hF
            replace hc := hc.drop k0
            refine cLoop N (loopW (S := S18) (x := x18) ?_ N () _ _ ⟨hf.keep ⟨rfl, rfl, rfl, rfl, rfl, trivial⟩, hc⟩ hx18)
            clear hF hf hc
            rintro ⟨⟩ st18 a w KB18 ⟨hf, hc⟩ hF hfin18 hK18
            unfold daily_Again_b18 at hF
            refine wp_seq_k fun K20 h20 => ?_
            refine cReg ?_
            refine stP hf rfl rfl rfl (pLt rfl rfl) fun a hf => ?_
            refine cNil ?_
            refine h20 _ _ ?_
            refine wp_seq_k fun K21 h21 => ?_
            refine cCond (b := (decide (0 < ((published.length : Nat) : Int)))) hf rfl (fun hb => ?_) (fun hb => ?_)
            · replace hF := condT hb hF
              clear hb
              refine wp_skip ?_
              refine h21 _ _ ?_
              refine wp_seq_k fun K22 h22 => ?_
              refine wp_block ?_
              refine wp_seq_k fun K23 h23 => ?_
              refine cReg ?_
              refine stP hf rfl rfl rfl (pM rfl) fun a hf => ?_
              obtain ⟨e_1, he_1, hF⟩ := bnd_some hF
              obtain ⟨b_2, o, qa, qp⟩ := h_published.atm he_1
              refine stP hf rfl rfl rfl (pIA Try.underlying25 sz_30 rfl rfl qa) fun a hf => ?_
              refine stE hf hc rfl rfl rfl (eLdN (vs := [.int .i64 e_1.Lo, .int .i64 e_1.Hi]) ag_30 rfl rfl (cells_pc qp (n := 2) (o' := 0) rfl)) fun a w hf hc => ?_
              refine stAl (cs := [.int .i64 0, .int .i64 0]) hf hc rfl rfl zr_30 rfl fun b_3 a w hf hc => ?_
              refine stP hf rfl rfl rfl (pA rfl) fun a hf => ?_
              refine stSt (vs := [.int .i64 e_1.Lo, .int .i64 e_1.Hi]) hf hc rfl rfl rfl rfl sz_30 rfl rfl u0 fun w hc => ?_
              refine cNil ?_
              refine h23 _ _ ?_
              refine wp_seq_k fun K24 h24 => ?_
              exact noneO hF
            · replace hF := condF hb hF
              clear hb
              refine wp_exit ?_
              refine xThen ?_
              refine xThen ?_
              have he := Option.some.inj hF
              rw [← he] at hfin18
              refine cHit ?_
              exact hr18 _ _ _ hfin18 ⟨hf.keep ⟨rfl, rfl, rfl, rfl, rfl, trivial⟩, hc⟩
        | inr r_3 =>
          replace hF := sumKr hF
          have hr_3 := hr_2
          refine stC (vs := [.agg #[.int .i64 r.Rise, .int .i64 r.Fall, .slice r_Days_p r.Days.length r_Days_c]]) (caps := []) hf rfl rfl rfl en_61 rfl rfl rfl rfl (daily_agreed_ok r h_r_Days hc hr_3) ?_
          rintro _ w ⟨b_4, p_1, c_1, rfl, hc⟩
          refine ⟨_, rfl, fun a hf => ?_⟩
          refine stP hf rfl rfl rfl (pM rfl) fun a hf => ?_
          refine stP hf rfl rfl rfl (pX rfl rfl) fun a hf => ?_
          refine stP hf rfl rfl rfl (pX rfl rfl) fun a hf => ?_
          refine stP hf rfl rfl rfl (pA rfl) fun a hf => ?_
          refine stP hf rfl rfl rfl (pA rfl) fun a hf => ?_
          refine cNil ?_
          refine h10 _ _ ?_
          refine wp_seq_k fun K25 h25 => ?_
          refine wp_seq_k fun K26 h26 => ?_
          refine cReg ?_
          refine stP hf rfl rfl rfl (pM rfl) fun a hf => ?_
          refine stP hf rfl rfl rfl (pNe rfl rfl) fun a hf => ?_
          refine cNil ?_
          refine h26 _ _ ?_
          refine cCond (b := (r_3.2.2.2 != 0)) hf rfl (fun hb => ?_) (fun hb => ?_)
          · replace hF := condT hb hF
            clear hb
            refine wp_seq_k fun K27 h27 => ?_
            refine cReg ?_
            refine stP hf rfl rfl rfl (pM rfl) fun a hf => ?_
            refine stP hf rfl rfl rfl (pA rfl) fun a hf => ?_
            refine stP hf rfl rfl rfl (pA rfl) fun a hf => ?_
            refine cNil ?_
            refine h27 _ _ ?_
            refine wp_ret ?_
            refine xThenR ?_
            obtain rfl := Option.some.inj hF
            replace hc := hc.nilRow 3 1
            replace hc := hc.drop k3
            replace hc := hc.drop k2
            replace hc := hc.drop k1
            exact fnOut2 (by simp) rfl Try.results21 hf hc (show look _ 4 = _ from rfl) (show look _ 5 = _ from rfl) ⟨none, 0, rfl, hc⟩
          · replace hF := condF hb hF
            clear hb
            refine wp_skip ?_
            refine h25 _ _ ?_
            refine wp_seq_k fun K28 h28 => ?_
            refine cReg ?_
            refine stP hf rfl rfl rfl (pA rfl) fun a hf => ?_
            refine cNil ?_
            refine h28 _ _ ?_
            refine wp_seq_k fun K29 h29 => ?_
            refine cReg ?_
            refine stP hf rfl rfl rfl (pM rfl) fun a hf => ?_
            refine stP hf rfl rfl rfl (pMF (vs := [.pointer (some ⟨b_4, 0, none⟩)]) (us := []) rfl rfl) fun a hf => ?_
            refine stP hf rfl rfl rfl (pA rfl) fun a hf => ?_
            refine cNil ?_
            refine h29 _ _ ?_
            refine wp_seq_k fun K30 h30 => ?_
            refine wp_seq_k fun K31 h31 => ?_
            refine cReg ?_
            refine stP hf rfl rfl rfl (pM rfl) fun a hf => ?_
            refine stP hf rfl rfl rfl (pLenS Try.underlying25 rfl) fun a hf => ?_
            refine stP hf rfl rfl rfl (pM rfl) fun a hf => ?_
            refine cNil ?_
            refine h31 _ _ ?_
            refine wp_block ?_
            obtain ⟨x32, hx32, hF⟩ := bnd_some hF
            let S32 : ((List Int) × Int) → Act → World → Prop := (fun (zz : (List Int) × Int) a w => ∃ (p_2 : Option Addr) (c_2 : Nat), Has 56 a [(8, .slice p_2 zz.1.length c_2), (9, .func (.func 68) #[.pointer (some ⟨b_4, 0, none⟩)] #[]), (39, .slice published_p published.length published_c), (40, .int .i64 ((published.length : Nat) : Int)), (41, .int .i64 zz.2)] ∧ Ctx G (.row p_2 c_2 (zz.1.map encI_i64) 3 1 :: .row p_1 c_1 (r_3.2.2.1.map enc_api_Span) 30 2 :: .box b_4 [.int .i64 r_3.1, .int .i64 r_3.2.1, .slice r_Days_p r.Days.length r_Days_c, .slice p_1 r_3.2.2.1.length c_1] 120 :: Lf) w)
            have hr32 : ∀ (zz : (List Int) × Int) a w, x32 = .go zz → S32 zz a w → K30 a w := by
              rintro ⟨out, x⟩ a w rfl ⟨p_2, c_2, hf, hc⟩
              replace hF := exK_go hF
              refine h30 _ _ ?_
              refine wp_seq_k fun K33 h33 => ?_
              refine cReg ?_
              refine stP hf rfl rfl rfl (pM rfl) fun a hf => ?_
              refine stP hf rfl rfl rfl (pA rfl) fun a hf => ?_
              refine stP hf rfl rfl rfl (pA rfl) fun a hf => ?_
              refine cNil ?_
              refine h33 _ _ ?_
              refine wp_ret ?_
              obtain rfl := Option.some.inj hF
              replace hc := hc.drop k2
              replace hc := hc.drop k1
              exact fnOut2 (by simp) rfl Try.results21 hf hc (show look _ 4 = _ from rfl) (show look _ 5 = _ from rfl) ⟨p_2, c_2, rfl, hc⟩
            have ho32 : ∀ r, x32 = .out r → r = res := by
              rintro r rfl
              exact Option.some.inj hF
            replace hc := hc.nilRow 3 1
            replace hc := hc.drop k3
            refine cLoop N (loopW (S := S32) (x := x32) ?_ N (([] : List Int), 0) _ _ ⟨none, 0, hf.keep ⟨rfl, rfl, rfl, rfl, rfl, trivial⟩, hc⟩ hx32)
            clear hF hf hc
            rintro ⟨out, x⟩ st32 a w KB32 ⟨p_2, c_2, hf, hc⟩ hF hfin32 hK32
            unfold daily_Again_b32 at hF
            refine wp_seq_k fun K34 h34 => ?_
            refine cReg ?_
            refine stP hf rfl rfl rfl (pLt rfl rfl) fun a hf => ?_
            refine cNil ?_
            refine h34 _ _ ?_
            refine wp_seq_k fun K35 h35 => ?_
            refine cCond (b := (decide (x < ((published.length : Nat) : Int)))) hf rfl (fun hb => ?_) (fun hb => ?_)
            · replace hF := condT hb hF
              clear hb
              refine wp_skip ?_
              refine h35 _ _ ?_
              refine wp_seq_k fun K36 h36 => ?_
              have hj36 : ∀ (out_1 : List Int) (p_3 : Option Addr) (c_3 : Nat) a w, Has 56 a [(8, .slice p_3 out_1.length c_3), (9, .func (.func 68) #[.pointer (some ⟨b_4, 0, none⟩)] #[]), (39, .slice published_p published.length published_c), (40, .int .i64 ((published.length : Nat) : Int)), (41, .int .i64 x)] → Ctx G (.row p_3 c_3 (out_1.map encI_i64) 3 1 :: .row p_1 c_1 (r_3.2.2.1.map enc_api_Span) 30 2 :: .box b_4 [.int .i64 r_3.1, .int .i64 r_3.2.1, .slice r_Days_p r.Days.length r_Days_c, .slice p_1 r_3.2.2.1.length c_1] 120 :: Lf) w → daily_Again_j36 N x out_1 = some st32 → K36 a w := by
                repeat (clear hF)
                repeat (clear hc)
                repeat (clear hf)
                intro out_1 p_3 c_3 a w hf hc hF
                unfold daily_Again_j36 at hF
                refine h36 _ _ ?_
                refine cReg ?_
                refine stP hf rfl rfl rfl (pAdd rfl rfl) fun a hf => ?_
                refine stP hf rfl rfl rfl (pM rfl) fun a hf => ?_
                refine cNil ?_
                exact hK32 (out_1, W (x + 1)) _ _ (Option.some.inj hF).symm ⟨p_3, c_3, hf.keep ⟨rfl, rfl, rfl, rfl, rfl, trivial⟩, hc⟩
              refine wp_block ?_
              refine wp_seq_k fun K37 h37 => ?_
              refine cReg ?_
              refine stP hf rfl rfl rfl (pM rfl) fun a hf => ?_
              obtain ⟨e_2, he_2, hF⟩ := bnd_some hF
              obtain ⟨b_5, o_1, qa_1, qp_1⟩ := h_published.atm he_2
              refine stP hf rfl rfl rfl (pIA Try.underlying25 sz_30 rfl rfl qa_1) fun a hf => ?_
              refine stE hf hc rfl rfl rfl (eLdN (vs := [.int .i64 e_2.Lo, .int .i64 e_2.Hi]) ag_30 rfl rfl (cells_pc qp_1 (n := 2) (o' := 0) rfl)) fun a w hf hc => ?_
              refine stAl (cs := [.int .i64 0, .int .i64 0]) hf hc rfl rfl zr_30 rfl fun b_6 a w hf hc => ?_
              refine stP hf rfl rfl rfl (pA rfl) fun a hf => ?_
              refine stSt (vs := [.int .i64 e_2.Lo, .int .i64 e_2.Hi]) hf hc rfl rfl rfl rfl sz_30 rfl rfl u0 fun w hc => ?_
              refine cNil ?_
              refine h37 _ _ ?_
              refine wp_seq_k fun K38 h38 => ?_
              refine cReg ?_
              refine stP hf rfl rfl rfl (pM rfl) fun a hf => ?_
              refine stP hf rfl rfl rfl (pM rfl) fun a hf => ?_
              refine stE hf hc rfl rfl rfl (eLdN (vs := [.int .i64 e_2.Lo, .int .i64 e_2.Hi]) ag_30 rfl rfl (cells_box (n := 2) m0 rfl)) fun a w hf hc => ?_
              obtain ⟨r_4, hr_4, hF⟩ := bnd_some hF
              refine stE hf hc rfl rfl rfl (eCB (v := .bool r_4) (bs := [.pointer (some ⟨b_4, 0, none⟩)]) (vs := [.int .i64 x, .agg #[.int .i64 e_2.Lo, .int .i64 e_2.Hi]]) (caps := []) en_68 rfl rfl rfl rfl (fun w hc => by obtain ⟨G1, hle1, hrd1, hc, hth1⟩ := lend hc k2; exact (daily_work_again_ok (⟨(⟨r_3.1, r_3.2.1, r.Days⟩ : daily_Record), r_3.2.2.1⟩ : daily_work) x e_2 (h_r_Days.mono hle1) hrd1 (hc.pick k2) hr_4).mono fun e w h => ⟨h.1, ((hth1 _ _ (h.2.unpick k2)).unpick k2)⟩)) fun a w hf hc => ?_
              refine cNil ?_
              refine h38 _ _ ?_
              refine cCond (b := r_4) hf rfl (fun hb => ?_) (fun hb => ?_)
              · replace hF := condT hb hF
                clear hb
                refine cReg ?_
                refine stP hf rfl rfl rfl (pM rfl) fun a hf => ?_
                refine stP hf rfl rfl rfl (pM rfl) fun a hf => ?_
                refine stBS (rows := ([x] : List Int).map encI_i64) (vs := [(0, .int .i64 x)]) hf hc rfl rfl sl_39 rfl ⟨rfl, rfl, rfl, trivial⟩ rfl rfl fun b_7 a w hf hc => ?_
                obtain ⟨un, hun, hF⟩ := bnd_some hF
                refine stApm (xs := out) (ys := ([x] : List Int)) hf hc rfl rfl sl_39 rfl rfl rfl rfl rfl one_encI_i64 (src_row hc m0) (fun _ _ => u2) (by simpa using room_spec hun) fun p_4 c_4 a w hf hc => ?_
                refine stP hf rfl rfl rfl (pA rfl) fun a hf => ?_
                refine cNil ?_
                replace hc := hc.drop k1
                replace hc := hc.drop k0
                exact hj36 (out ++ [x]) p_4 c_4 _ _  (hf.keep ⟨rfl, rfl, rfl, rfl, rfl, trivial⟩) hc hF
              · replace hF := condF hb hF
                clear hb
                refine wp_skip ?_
                replace hc := hc.drop k0
                exact hj36 out p_2 c_2 _ _  (hf.keep ⟨rfl, rfl, rfl, rfl, rfl, trivial⟩) hc hF
            · replace hF := condF hb hF
              clear hb
              refine wp_exit ?_
              refine xThen ?_
              refine xThen ?_
              have he := Option.some.inj hF
              rw [← he] at hfin32
              refine cHit ?_
              exact hr32 _ _ _ hfin32 ⟨p_2, c_2, hf.keep ⟨rfl, rfl, rfl, rfl, rfl, trivial⟩, hc⟩

def law07_Counter_b5 (N : Nat) (values : List Int) (out : List daily_Reading) (x : Int) : Option (Step ((List daily_Reading) × Int) ((List daily_Reading))) :=
  cond (decide (x < ((values.length : Nat) : Int)))
  (Option.bind (getI values x) fun e_1 =>
  Option.bind (room ((out ++ [(⟨e_1, 1⟩ : daily_Reading)])).length) fun un =>
  some (.cont ((out ++ [(⟨e_1, 1⟩ : daily_Reading)]), W (x + 1))))
  (some (.brk (out, x)))
def law07_Counter (N : Nat) (values : List Int) : Option ((List daily_Reading)) :=
  Option.bind (loopO (fun s5 => law07_Counter_b5 N values s5.1 s5.2) N (([] : List daily_Reading), 0)) fun x5 =>
  exK x5 (fun s5 => some s5.1) some
theorem law07_Counter_ok {N : Nat} {G : Pers} {Lf : List Ent} {w : World} (values : List Int) {values_p : Option Addr} {values_c : Nat} (h_values : Rd G 1 values_p values_c (values.map encI_i64)) (hc : Ctx G (Lf) w) {res : (List daily_Reading)} (hF : law07_Counter N values = some res) : Calls Try.prog 59 #[.slice values_p values.length values_c] w (fun e w => ∃ (p'1 : Option Addr) (c'1 : Nat), e = .returned (.slice p'1 res.length c'1) ∧ Ctx G (.row p'1 c'1 (res.map enc_daily_Reading) 102 2 :: Lf) w) := by
  unfold law07_Counter at hF
  refine fnIn (args := [.slice values_p values.length values_c]) Try.func59 rfl Try.ntmps59 rfl fun a hf => ?_
  refine wp_seq_k fun K1 h1 => ?_
  refine cReg ?_
  refine stP hf rfl rfl rfl (pA rfl) fun a hf => ?_
  refine cNil ?_
  refine h1 _ _ ?_
  refine wp_seq_k fun K2 h2 => ?_
  refine cReg ?_
  refine stP hf rfl rfl rfl (pA rfl) fun a hf => ?_
  refine cNil ?_
  refine h2 _ _ ?_
  refine wp_seq_k fun K3 h3 => ?_
  refine wp_seq_k fun K4 h4 => ?_
  refine cReg ?_
  refine stP hf rfl rfl rfl (pM rfl) fun a hf => ?_
  refine stP hf rfl rfl rfl (pLenS Try.underlying39 rfl) fun a hf => ?_
  refine stP hf rfl rfl rfl (pM rfl) fun a hf => ?_
  refine cNil ?_
  refine h4 _ _ ?_
  refine wp_block ?_
  obtain ⟨x5, hx5, hF⟩ := bnd_some hF
  let S5 : ((List daily_Reading) × Int) → Act → World → Prop := (fun (zz : (List daily_Reading) × Int) a w => ∃ (p_1 : Option Addr) (c_1 : Nat), Has 19 a [(3, .slice p_1 zz.1.length c_1), (6, .slice values_p values.length values_c), (7, .int .i64 ((values.length : Nat) : Int)), (8, .int .i64 zz.2)] ∧ Ctx G (.row p_1 c_1 (zz.1.map enc_daily_Reading) 102 2 :: Lf) w)
  have hr5 : ∀ (zz : (List daily_Reading) × Int) a w, x5 = .go zz → S5 zz a w → K3 a w := by
    rintro ⟨out, x⟩ a w rfl ⟨p_1, c_1, hf, hc⟩
    replace hF := exK_go hF
    refine h3 _ _ ?_
    refine wp_seq_k fun K6 h6 => ?_
    refine cReg ?_
    refine stP hf rfl rfl rfl (pM rfl) fun a hf => ?_
    refine stP hf rfl rfl rfl (pA rfl) fun a hf => ?_
    refine cNil ?_
    refine h6 _ _ ?_
    refine wp_ret ?_
    obtain rfl := Option.some.inj hF
    exact fnOut1 (by simp) rfl Try.results59 hf hc (show look _ 2 = _ from rfl) ⟨p_1, c_1, rfl, hc⟩
  have ho5 : ∀ r, x5 = .out r → r = res := by
    rintro r rfl
    exact Option.some.inj hF
  replace hc := hc.nilRow 102 2
  refine cLoop N (loopW (S := S5) (x := x5) ?_ N (([] : List daily_Reading), 0) _ _ ⟨none, 0, hf.keep ⟨rfl, rfl, rfl, rfl, trivial⟩, hc⟩ hx5)
  clear hF hf hc
  rintro ⟨out, x⟩ st5 a w KB5 ⟨p_1, c_1, hf, hc⟩ hF hfin5 hK5
  unfold law07_Counter_b5 at hF
  refine wp_seq_k fun K7 h7 => ?_
  refine cReg ?_
  refine stP hf rfl rfl rfl (pLt rfl rfl) fun a hf => ?_
  refine cNil ?_
  refine h7 _ _ ?_
  refine wp_seq_k fun K8 h8 => ?_
  refine cCond (b := (decide (x < ((values.length : Nat) : Int)))) hf rfl (fun hb => ?_) (fun hb => ?_)
  · replace hF := condT hb hF
    clear hb
    refine wp_skip ?_
    refine h8 _ _ ?_
    refine wp_seq_k fun K9 h9 => ?_
    refine wp_block ?_
    refine wp_seq_k fun K10 h10 => ?_
    refine cReg ?_
    obtain ⟨e_1, he_1, hF⟩ := bnd_some hF
    obtain ⟨b_1, o, qa, qp⟩ := h_values.atm he_1
    refine stP hf rfl rfl rfl (pIA Try.underlying39 sz_3 rfl rfl qa) fun a hf => ?_
    refine stE hf hc rfl rfl rfl (eLd1 sc_3 rfl (cell_pc (j := 0) qp rfl)) fun a w hf hc => ?_
    refine stP hf rfl rfl rfl (pA rfl) fun a hf => ?_
    refine cNil ?_
    refine h10 _ _ ?_
    refine cReg ?_
    refine stP hf rfl rfl rfl (pM rfl) fun a hf => ?_
    refine stP hf rfl rfl rfl (pM rfl) fun a hf => ?_
    refine stP hf rfl rfl rfl (pBuildS (cells := [.int .i64 e_1, .int .i64 1]) bt_102 rfl rfl) fun a hf => ?_
    refine stBS (rows := ([(⟨e_1, 1⟩ : daily_Reading)] : List daily_Reading).map enc_daily_Reading) (vs := [(0, .agg #[.int .i64 e_1, .int .i64 1])]) hf hc rfl rfl sl_96 rfl ⟨rfl, rfl, rfl, trivial⟩ rfl rfl fun b_2 a w hf hc => ?_
    obtain ⟨un, hun, hF⟩ := bnd_some hF
    refine stApm (xs := out) (ys := ([(⟨e_1, 1⟩ : daily_Reading)] : List daily_Reading)) hf hc rfl rfl sl_96 rfl rfl rfl rfl rfl one_enc_daily_Reading (src_row hc m0) (fun _ _ => u1) (by simpa using room_spec hun) fun p_2 c_2 a w hf hc => ?_
    refine stP hf rfl rfl rfl (pA rfl) fun a hf => ?_
    refine cNil ?_
    refine h9 _ _ ?_
    refine cReg ?_
    refine stP hf rfl rfl rfl (pAdd rfl rfl) fun a hf => ?_
    refine stP hf rfl rfl rfl (pM rfl) fun a hf => ?_
    refine cNil ?_
    replace hc := hc.drop k0
    exact hK5 ((out ++ [(⟨e_1, 1⟩ : daily_Reading)]), W (x + 1)) _ _ (Option.some.inj hF).symm ⟨p_2, c_2, hf.keep ⟨rfl, rfl, rfl, rfl, trivial⟩, hc⟩
  · replace hF := condF hb hF
    clear hb
    refine wp_exit ?_
    refine xThen ?_
    refine xThen ?_
    have he := Option.some.inj hF
    rw [← he] at hfin5
    refine cHit ?_
    exact hr5 _ _ _ hfin5 ⟨p_1, c_1, hf.keep ⟨rfl, rfl, rfl, rfl, trivial⟩, hc⟩

def daily_CheckReadings_1 (x : daily_Reading) : Bool :=
  ((daily_in x.Value 0 1000000) && (daily_in x.Weight 1 100))
theorem daily_CheckReadings_1_ok {G : Pers} {Lf : List Ent} {w : World} (x : daily_Reading)   (hc : Ctx G (Lf) w) {res : Bool} (hF : daily_CheckReadings_1 x = res) : Calls Try.prog 114 #[.agg #[.int .i64 x.Value, .int .i64 x.Weight]] w (fun e w => e = .returned (.bool res) ∧ Ctx G (Lf) w) := by
  unfold daily_CheckReadings_1 at hF
  refine fnIn (args := [.agg #[.int .i64 x.Value, .int .i64 x.Weight]]) Try.func114 rfl Try.ntmps114 rfl fun a hf => ?_
  refine wp_seq_k fun K1 h1 => ?_
  refine cReg ?_
  refine stBx (cs := [.int .i64 x.Value, .int .i64 x.Weight]) hf hc rfl rfl rfl rfl fun b_1 a w hf hc => ?_
  refine stP hf rfl rfl rfl (pA rfl) fun a hf => ?_
  refine cNil ?_
  refine h1 _ _ ?_
  refine wp_seq_k fun K2 h2 => ?_
  refine cReg ?_
  refine stP hf rfl rfl rfl (pFA fa_102_0 rfl) fun a hf => ?_
  refine stE hf hc rfl rfl rfl (eLd1 sc_3 rfl (cell_box m0 rfl)) fun a w hf hc => ?_
  refine stE hf hc rfl rfl rfl (eC (v := .bool (daily_in x.Value 0 1000000)) (vs := [.int .i64 x.Value, .int .i64 0, .int .i64 1000000]) (caps := []) en_60 rfl rfl rfl rfl (fun w hc => daily_in_ok x.Value 0 1000000 hc rfl)) fun a w hf hc => ?_
  refine stP hf rfl rfl rfl (pM rfl) fun a hf => ?_
  refine stCut 4 (fun a w => Has 11 a [(1, .pointer (some ⟨b_1, 0, none⟩)), (2, .bool false), (3, .pointer (some ⟨b_1, 0, none⟩)), (4, .int .i64 x.Value), (5, .bool (daily_in x.Value 0 1000000)), (6, .bool (daily_in x.Value 0 1000000)), (10, .bool ((daily_in x.Value 0 1000000) && (daily_in x.Weight 1 100)))] ∧ Ctx G (.box b_1 [.int .i64 x.Value, .int .i64 x.Weight] 102 :: Lf) w) ?_ ?_
  · cases hb : (daily_in x.Value 0 1000000)
    · rw [hb] at hf
      refine stS hf rfl rfl rfl fun a hf => ?_
      refine stS hf rfl rfl rfl fun a hf => ?_
      refine stS hf rfl rfl rfl fun a hf => ?_
      refine stP hf rfl rfl rfl (pPf rfl rfl) fun a hf => ?_
      exact cNil ⟨hf.keep ⟨rfl, rfl, rfl, rfl, rfl, rfl, rfl, trivial⟩, hc⟩
    · rw [hb] at hf
      refine stP hf rfl rfl rfl (pFA fa_102_1 rfl) fun a hf => ?_
      refine stE hf hc rfl rfl rfl (eLd1 sc_3 rfl (cell_box m0 rfl)) fun a w hf hc => ?_
      refine stE hf hc rfl rfl rfl (eC (v := .bool (daily_in x.Weight 1 100)) (vs := [.int .i64 x.Weight, .int .i64 1, .int .i64 100]) (caps := []) en_60 rfl rfl rfl rfl (fun w hc => daily_in_ok x.Weight 1 100 hc rfl)) fun a w hf hc => ?_
      refine stP hf rfl rfl rfl (pPt rfl rfl) fun a hf => ?_
      exact cNil ⟨hf.keep ⟨rfl, rfl, rfl, rfl, rfl, rfl, rfl, trivial⟩, hc⟩
  intro a w ⟨hf, hc⟩
  refine stP hf rfl rfl rfl (pA rfl) fun a hf => ?_
  refine cNil ?_
  refine h2 _ _ ?_
  refine wp_ret ?_
  obtain rfl := hF
  replace hc := hc.drop k0
  exact fnOut1 (by simp) rfl Try.results114 hf hc (show look _ 2 = _ from rfl) ⟨rfl, hc⟩

def daily_every_daily_Reading_1 (x : daily_Reading) : Bool :=
  (!(daily_CheckReadings_1 (⟨x.Value, x.Weight⟩ : daily_Reading)))
theorem daily_every_daily_Reading_1_ok {G : Pers} {Lf : List Ent} {w : World} (x : daily_Reading) {b_ : Nat}  (hc : Ctx G (.box b_ [.func (.func 114) #[] #[]] 172 :: Lf) w) {res : Bool} (hF : daily_every_daily_Reading_1 x = res) : Calls Try.prog 130 #[.agg #[.int .i64 x.Value, .int .i64 x.Weight], .pointer (some ⟨b_, 0, none⟩)] w (fun e w => e = .returned (.bool res) ∧ Ctx G (.box b_ [.func (.func 114) #[] #[]] 172 :: Lf) w) := by
  unfold daily_every_daily_Reading_1 at hF
  refine fnIn (args := [.agg #[.int .i64 x.Value, .int .i64 x.Weight], .pointer (some ⟨b_, 0, none⟩)]) Try.func130 rfl Try.ntmps130 rfl fun a hf => ?_
  refine wp_seq_k fun K1 h1 => ?_
  refine cReg ?_
  refine stBx (cs := [.int .i64 x.Value, .int .i64 x.Weight]) hf hc rfl rfl rfl rfl fun b_1 a w hf hc => ?_
  refine stP hf rfl rfl rfl (pA rfl) fun a hf => ?_
  refine cNil ?_
  refine h1 _ _ ?_
  refine wp_seq_k fun K2 h2 => ?_
  refine cReg ?_
  refine stE hf hc rfl rfl rfl (eLd1 sc_172 rfl (cell_box m1 rfl)) fun a w hf hc => ?_
  refine stE hf hc rfl rfl rfl (eLdN (vs := [.int .i64 x.Value, .int .i64 x.Weight]) ag_102 rfl rfl (cells_box (n := 2) m0 rfl)) fun a w hf hc => ?_
  refine stE hf hc rfl rfl rfl (eC (v := .bool (daily_CheckReadings_1 (⟨x.Value, x.Weight⟩ : daily_Reading))) (vs := [.agg #[.int .i64 x.Value, .int .i64 x.Weight]]) (caps := []) en_114 rfl rfl rfl rfl (fun w hc => daily_CheckReadings_1_ok (⟨x.Value, x.Weight⟩ : daily_Reading) hc rfl)) fun a w hf hc => ?_
  refine stP hf rfl rfl rfl (pNot rfl) fun a hf => ?_
  refine stP hf rfl rfl rfl (pA rfl) fun a hf => ?_
  refine cNil ?_
  refine h2 _ _ ?_
  refine wp_ret ?_
  obtain rfl := hF
  replace hc := hc.drop k0
  exact fnOut1 (by simp) rfl Try.results130 hf hc (show look _ 3 = _ from rfl) ⟨rfl, hc⟩

def slices_IndexFunc_Ldaily_Reading_daily_Reading_b4 (N : Nat) (s_ : List daily_Reading) (x : Int) : Option (Step (Int) (Int)) :=
  cond (decide (x < ((s_.length : Nat) : Int)))
  (Option.bind (getI s_ x) fun e_1 =>
  cond (daily_every_daily_Reading_1 e_1)
  (some (.ret x))
  (some (.cont (W (x + 1)))))
  (some (.brk x))
def slices_IndexFunc_Ldaily_Reading_daily_Reading (N : Nat) (s_ : List daily_Reading) : Option (Int) :=
  Option.bind (loopO (fun s4 => slices_IndexFunc_Ldaily_Reading_daily_Reading_b4 N s_ s4) N 0) fun x4 =>
  exK x4 (fun s4 => some (-1)) some
theorem slices_IndexFunc_Ldaily_Reading_daily_Reading_ok {N : Nat} {G : Pers} {Lf : List Ent} {w : World} (s_ : List daily_Reading) {s__p : Option Addr} {s__c : Nat} {b_ : Nat} (h_s_ : Rd G 2 s__p s__c (s_.map enc_daily_Reading)) (hc : Ctx G (.box b_ [.func (.func 114) #[] #[]] 172 :: Lf) w) {res : Int} (hF : slices_IndexFunc_Ldaily_Reading_daily_Reading N s_ = some res) : Calls Try.prog 144 #[.slice s__p s_.length s__c, .func (.func 130) #[] #[.pointer (some ⟨b_, 0, none⟩)]] w (fun e w => e = .returned (.int .i64 res) ∧ Ctx G (.box b_ [.func (.func 114) #[] #[]] 172 :: Lf) w) := by
  unfold slices_IndexFunc_Ldaily_Reading_daily_Reading at hF
  refine fnIn (args := [.slice s__p s_.length s__c, .func (.func 130) #[] #[.pointer (some ⟨b_, 0, none⟩)]]) Try.func144 rfl Try.ntmps144 rfl fun a hf => ?_
  refine wp_seq_k fun K1 h1 => ?_
  refine cReg ?_
  refine stP hf rfl rfl rfl (pA rfl) fun a hf => ?_
  refine cNil ?_
  refine h1 _ _ ?_
  refine wp_seq_k fun K2 h2 => ?_
  refine wp_seq_k fun K3 h3 => ?_
  refine cReg ?_
  refine stP hf rfl rfl rfl (pM rfl) fun a hf => ?_
  refine stP hf rfl rfl rfl (pLenS Try.underlying96 rfl) fun a hf => ?_
  refine stP hf rfl rfl rfl (pM rfl) fun a hf => ?_
  refine cNil ?_
  refine h3 _ _ ?_
  refine wp_block ?_
  obtain ⟨x4, hx4, hF⟩ := bnd_some hF
  let S4 : Int → Act → World → Prop := (fun (zz : Int) a w => Has 19 a [(0, .slice s__p s_.length s__c), (1, .func (.func 130) #[] #[.pointer (some ⟨b_, 0, none⟩)]), (7, .int .i64 ((s_.length : Nat) : Int)), (8, .int .i64 zz)] ∧ Ctx G (.box b_ [.func (.func 114) #[] #[]] 172 :: Lf) w)
  have hr4 : ∀ (zz : Int) a w, x4 = .go zz → S4 zz a w → K2 a w := by
    rintro x a w rfl ⟨hf, hc⟩
    replace hF := exK_go hF
    refine h2 _ _ ?_
    refine wp_seq_k fun K5 h5 => ?_
    refine cReg ?_
    refine stP hf rfl rfl rfl (pA rfl) fun a hf => ?_
    refine cNil ?_
    refine h5 _ _ ?_
    refine wp_ret ?_
    obtain rfl := Option.some.inj hF
    exact fnOut1 (by simp) rfl Try.results144 hf hc (show look _ 4 = _ from rfl) ⟨rfl, hc⟩
  have ho4 : ∀ r, x4 = .out r → r = res := by
    rintro r rfl
    exact Option.some.inj hF
  refine cLoop N (loopW (S := S4) (x := x4) ?_ N 0 _ _ ⟨hf.keep ⟨rfl, rfl, rfl, rfl, trivial⟩, hc⟩ hx4)
  clear hF hf hc
  rintro x st4 a w KB4 ⟨hf, hc⟩ hF hfin4 hK4
  unfold slices_IndexFunc_Ldaily_Reading_daily_Reading_b4 at hF
  refine wp_seq_k fun K6 h6 => ?_
  refine cReg ?_
  refine stP hf rfl rfl rfl (pLt rfl rfl) fun a hf => ?_
  refine cNil ?_
  refine h6 _ _ ?_
  refine wp_seq_k fun K7 h7 => ?_
  refine cCond (b := (decide (x < ((s_.length : Nat) : Int)))) hf rfl (fun hb => ?_) (fun hb => ?_)
  · replace hF := condT hb hF
    clear hb
    refine wp_skip ?_
    refine h7 _ _ ?_
    refine wp_seq_k fun K8 h8 => ?_
    refine wp_block ?_
    refine wp_seq_k fun K9 h9 => ?_
    refine cReg ?_
    refine stP hf rfl rfl rfl (pM rfl) fun a hf => ?_
    refine stP hf rfl rfl rfl (pA rfl) fun a hf => ?_
    refine cNil ?_
    refine h9 _ _ ?_
    refine wp_seq_k fun K10 h10 => ?_
    refine cReg ?_
    refine stP hf rfl rfl rfl (pM rfl) fun a hf => ?_
    refine stP hf rfl rfl rfl (pM rfl) fun a hf => ?_
    refine stP hf rfl rfl rfl (pM rfl) fun a hf => ?_
    obtain ⟨e_1, he_1, hF⟩ := bnd_some hF
    obtain ⟨b_1, o, qa, qp⟩ := h_s_.atm he_1
    refine stP hf rfl rfl rfl (pIA Try.underlying96 sz_102 rfl rfl qa) fun a hf => ?_
    refine stE hf hc rfl rfl rfl (eLdN (vs := [.int .i64 e_1.Value, .int .i64 e_1.Weight]) ag_102 rfl rfl (cells_pc qp (n := 2) (o' := 0) rfl)) fun a w hf hc => ?_
    refine stE hf hc rfl rfl rfl (eC (v := .bool (daily_every_daily_Reading_1 e_1)) (vs := [.agg #[.int .i64 e_1.Value, .int .i64 e_1.Weight]]) (caps := [.pointer (some ⟨b_, 0, none⟩)]) en_130 rfl rfl rfl rfl (fun w hc => (daily_every_daily_Reading_1_ok e_1 (hc.pick k0) rfl).mono fun e w h => ⟨h.1, (h.2.unpick k0)⟩)) fun a w hf hc => ?_
    refine cNil ?_
    refine h10 _ _ ?_
    refine cCond (b := (daily_every_daily_Reading_1 e_1)) hf rfl (fun hb => ?_) (fun hb => ?_)
    · replace hF := condT hb hF
      clear hb
      refine wp_seq_k fun K11 h11 => ?_
      refine cReg ?_
      refine stP hf rfl rfl rfl (pM rfl) fun a hf => ?_
      refine stP hf rfl rfl rfl (pA rfl) fun a hf => ?_
      refine cNil ?_
      refine h11 _ _ ?_
      refine wp_ret ?_
      refine xBlkR ?_
      refine xThenR ?_
      refine xThenR ?_
      have he := Option.some.inj hF
      rw [← he] at hfin4
      replace hF := ho4 _ hfin4
      refine xBlkR ?_
      refine xThenR ?_
      obtain rfl := hF
      exact fnOut1 (by simp) rfl Try.results144 hf hc (show look _ 4 = _ from rfl) ⟨rfl, hc⟩
    · replace hF := condF hb hF
      clear hb
      refine wp_skip ?_
      refine h8 _ _ ?_
      refine cReg ?_
      refine stP hf rfl rfl rfl (pAdd rfl rfl) fun a hf => ?_
      refine stP hf rfl rfl rfl (pM rfl) fun a hf => ?_
      refine cNil ?_
      exact hK4 (W (x + 1)) _ _ (Option.some.inj hF).symm ⟨hf.keep ⟨rfl, rfl, rfl, rfl, trivial⟩, hc⟩
  · replace hF := condF hb hF
    clear hb
    refine wp_exit ?_
    refine xThen ?_
    refine xThen ?_
    have he := Option.some.inj hF
    rw [← he] at hfin4
    refine cHit ?_
    exact hr4 _ _ _ hfin4 ⟨hf.keep ⟨rfl, rfl, rfl, rfl, trivial⟩, hc⟩

def slices_ContainsFunc_Ldaily_Reading_daily_Reading (N : Nat) (s_ : List daily_Reading) : Option (Bool) :=
  Option.bind (slices_IndexFunc_Ldaily_Reading_daily_Reading N s_) fun r =>
  some (decide (0 ≤ r))
theorem slices_ContainsFunc_Ldaily_Reading_daily_Reading_ok {N : Nat} {G : Pers} {Lf : List Ent} {w : World} (s_ : List daily_Reading) {s__p : Option Addr} {s__c : Nat} {b_ : Nat} (h_s_ : Rd G 2 s__p s__c (s_.map enc_daily_Reading)) (hc : Ctx G (.box b_ [.func (.func 114) #[] #[]] 172 :: Lf) w) {res : Bool} (hF : slices_ContainsFunc_Ldaily_Reading_daily_Reading N s_ = some res) : Calls Try.prog 129 #[.slice s__p s_.length s__c, .func (.func 130) #[] #[.pointer (some ⟨b_, 0, none⟩)]] w (fun e w => e = .returned (.bool res) ∧ Ctx G (.box b_ [.func (.func 114) #[] #[]] 172 :: Lf) w) := by
  unfold slices_ContainsFunc_Ldaily_Reading_daily_Reading at hF
  refine fnIn (args := [.slice s__p s_.length s__c, .func (.func 130) #[] #[.pointer (some ⟨b_, 0, none⟩)]]) Try.func129 rfl Try.ntmps129 rfl fun a hf => ?_
  refine wp_seq_k fun K1 h1 => ?_
  refine cReg ?_
  refine stP hf rfl rfl rfl (pA rfl) fun a hf => ?_
  refine cNil ?_
  refine h1 _ _ ?_
  refine wp_seq_k fun K2 h2 => ?_
  refine cReg ?_
  refine stP hf rfl rfl rfl (pM rfl) fun a hf => ?_
  refine stP hf rfl rfl rfl (pM rfl) fun a hf => ?_
  obtain ⟨r, hr, hF⟩ := bnd_some hF
  refine stE hf hc rfl rfl rfl (eC (v := .int .i64 r) (vs := [.slice s__p s_.length s__c, .func (.func 130) #[] #[.pointer (some ⟨b_, 0, none⟩)]]) (caps := []) en_144 rfl rfl rfl rfl (fun w hc => (slices_IndexFunc_Ldaily_Reading_daily_Reading_ok s_ h_s_ (hc.pick k0) hr).mono fun e w h => ⟨h.1, (h.2.unpick k0)⟩)) fun a w hf hc => ?_
  refine stP hf rfl rfl rfl (pGe rfl rfl) fun a hf => ?_
  refine stP hf rfl rfl rfl (pA rfl) fun a hf => ?_
  refine cNil ?_
  refine h2 _ _ ?_
  refine wp_ret ?_
  obtain rfl := Option.some.inj hF
  exact fnOut1 (by simp) rfl Try.results129 hf hc (show look _ 4 = _ from rfl) ⟨rfl, hc⟩

def daily_every_daily_Reading (N : Nat) (l : List daily_Reading) : Option (Bool) :=
  Option.bind (slices_ContainsFunc_Ldaily_Reading_daily_Reading N l) fun r =>
  some (!r)
theorem daily_every_daily_Reading_ok {N : Nat} {G : Pers} {Lf : List Ent} {w : World} (l : List daily_Reading) {l_p : Option Addr} {l_c : Nat} (h_l : Rd G 2 l_p l_c (l.map enc_daily_Reading)) (hc : Ctx G (Lf) w) {res : Bool} (hF : daily_every_daily_Reading N l = some res) : Calls Try.prog 113 #[.slice l_p l.length l_c, .func (.func 114) #[] #[]] w (fun e w => e = .returned (.bool res) ∧ Ctx G (Lf) w) := by
  unfold daily_every_daily_Reading at hF
  refine fnIn (args := [.slice l_p l.length l_c, .func (.func 114) #[] #[]]) Try.func113 rfl Try.ntmps113 rfl fun a hf => ?_
  refine wp_seq_k fun K1 h1 => ?_
  refine cReg ?_
  refine stBx (cs := [.func (.func 114) #[] #[]]) hf hc rfl rfl rfl rfl fun b_1 a w hf hc => ?_
  refine stP hf rfl rfl rfl (pA rfl) fun a hf => ?_
  refine cNil ?_
  refine h1 _ _ ?_
  refine wp_seq_k fun K2 h2 => ?_
  refine cReg ?_
  refine stP hf rfl rfl rfl (pM rfl) fun a hf => ?_
  refine stP hf rfl rfl rfl (pMF (us := [.pointer (some ⟨b_1, 0, none⟩)]) rfl rfl) fun a hf => ?_
  obtain ⟨r, hr, hF⟩ := bnd_some hF
  refine stE hf hc rfl rfl rfl (eC (v := .bool r) (vs := [.slice l_p l.length l_c, .func (.func 130) #[] #[.pointer (some ⟨b_1, 0, none⟩)]]) (caps := []) en_129 rfl rfl rfl rfl (fun w hc => (slices_ContainsFunc_Ldaily_Reading_daily_Reading_ok l h_l (hc.pick k0) hr).mono fun e w h => ⟨h.1, (h.2.unpick k0)⟩)) fun a w hf hc => ?_
  refine stP hf rfl rfl rfl (pNot rfl) fun a hf => ?_
  refine stP hf rfl rfl rfl (pA rfl) fun a hf => ?_
  refine cNil ?_
  refine h2 _ _ ?_
  refine wp_ret ?_
  obtain rfl := Option.some.inj hF
  replace hc := hc.drop k0
  exact fnOut1 (by simp) rfl Try.results113 hf hc (show look _ 4 = _ from rfl) ⟨rfl, hc⟩

def daily_CheckReadings (N : Nat) (l : List daily_Reading) : Option (Int) :=
  cond (!(daily_in ((l.length : Nat) : Int) 1 30))
  (some 3)
  (Option.bind (daily_every_daily_Reading N l) fun r =>
  cond (!r)
  (some 80)
  (some 0))
theorem daily_CheckReadings_ok {N : Nat} {G : Pers} {Lf : List Ent} {w : World} (l : List daily_Reading) {l_p : Option Addr} {l_c : Nat} (h_l : Rd G 2 l_p l_c (l.map enc_daily_Reading)) (hc : Ctx G (Lf) w) {res : Int} (hF : daily_CheckReadings N l = some res) : Calls Try.prog 87 #[.slice l_p l.length l_c] w (fun e w => e = .returned (.int .i64 res) ∧ Ctx G (Lf) w) := by
  unfold daily_CheckReadings at hF
  refine fnIn (args := [.slice l_p l.length l_c]) Try.func87 rfl Try.ntmps87 rfl fun a hf => ?_
  refine wp_seq_k fun K1 h1 => ?_
  refine cReg ?_
  refine stP hf rfl rfl rfl (pA rfl) fun a hf => ?_
  refine cNil ?_
  refine h1 _ _ ?_
  refine wp_seq_k fun K2 h2 => ?_
  refine wp_block ?_
  refine wp_seq_k fun K3 h3 => ?_
  refine cReg ?_
  refine stP hf rfl rfl rfl (pM rfl) fun a hf => ?_
  refine stP hf rfl rfl rfl (pLenS Try.underlying96 rfl) fun a hf => ?_
  refine stE hf hc rfl rfl rfl (eC (v := .bool (daily_in ((l.length : Nat) : Int) 1 30)) (vs := [.int .i64 ((l.length : Nat) : Int), .int .i64 1, .int .i64 30]) (caps := []) en_60 rfl rfl rfl rfl (fun w hc => daily_in_ok ((l.length : Nat) : Int) 1 30 hc rfl)) fun a w hf hc => ?_
  refine stP hf rfl rfl rfl (pNot rfl) fun a hf => ?_
  refine stP hf rfl rfl rfl (pA rfl) fun a hf => ?_
  refine cNil ?_
  refine h3 _ _ ?_
  refine cCond (b := (!(daily_in ((l.length : Nat) : Int) 1 30))) hf rfl (fun hb => ?_) (fun hb => ?_)
  · replace hF := condT hb hF
    clear hb
    refine wp_seq_k fun K4 h4 => ?_
    refine cReg ?_
    refine stP hf rfl rfl rfl (pA rfl) fun a hf => ?_
    refine cNil ?_
    refine h4 _ _ ?_
    refine wp_ret ?_
    refine xBlkR ?_
    refine xThenR ?_
    obtain rfl := Option.some.inj hF
    exact fnOut1 (by simp) rfl Try.results87 hf hc (show look _ 2 = _ from rfl) ⟨rfl, hc⟩
  · replace hF := condF hb hF
    clear hb
    refine wp_seq_k fun K5 h5 => ?_
    refine cReg ?_
    refine stP hf rfl rfl rfl (pM rfl) fun a hf => ?_
    obtain ⟨r, hr, hF⟩ := bnd_some hF
    refine stE hf hc rfl rfl rfl (eC (v := .bool r) (vs := [.slice l_p l.length l_c, .func (.func 114) #[] #[]]) (caps := []) en_113 rfl rfl rfl rfl (fun w hc => daily_every_daily_Reading_ok l h_l hc hr)) fun a w hf hc => ?_
    refine stP hf rfl rfl rfl (pNot rfl) fun a hf => ?_
    refine stP hf rfl rfl rfl (pA rfl) fun a hf => ?_
    refine cNil ?_
    refine h5 _ _ ?_
    refine cCond (b := (!r)) hf rfl (fun hb => ?_) (fun hb => ?_)
    · replace hF := condT hb hF
      clear hb
      refine wp_seq_k fun K6 h6 => ?_
      refine cReg ?_
      refine stP hf rfl rfl rfl (pA rfl) fun a hf => ?_
      refine cNil ?_
      refine h6 _ _ ?_
      refine wp_ret ?_
      refine xBlkR ?_
      refine xThenR ?_
      obtain rfl := Option.some.inj hF
      exact fnOut1 (by simp) rfl Try.results87 hf hc (show look _ 2 = _ from rfl) ⟨rfl, hc⟩
    · replace hF := condF hb hF
      clear hb
      refine wp_skip ?_
      refine h2 _ _ ?_
      refine wp_seq_k fun K7 h7 => ?_
      refine cReg ?_
      refine stP hf rfl rfl rfl (pA rfl) fun a hf => ?_
      refine cNil ?_
      refine h7 _ _ ?_
      refine wp_ret ?_
      obtain rfl := Option.some.inj hF
      exact fnOut1 (by simp) rfl Try.results87 hf hc (show look _ 2 = _ from rfl) ⟨rfl, hc⟩

def slices_Sort_Lint_int (N : Nat) (x : List Int) : Option ((List Int)) :=
  sortO x
/-! ### Walks of the library -/
end Go.Nilo
namespace Go.Proofs
open Go.Shelf
def Try.lays189_ren : Go.Shelf.Ren := ⟨fun | 189 => 88 | 125 => 116 | 257 => 115 | 128 => 139 | 129 => 140 | 294 => 131 | 295 => 132 | 296 => 133 | 297 => 134 | 298 => 135 | 299 => 136 | 216 => 94 | 300 => 137 | 301 => 138 | 328 => 145 | 329 => 146 | 330 => 147 | 331 => 148 | 332 => 149 | 215 => 120 | 343 => 152 | n => n, fun | 28 => 39 | 3 => 3 | 46 => 175 | 0 => 0 | 51 => 198 | 53 => 200 | 4 => 4 | 183 => 191 | 182 => 190 | 131 => 195 | 5 => 5 | 9 => 9 | 218 => 204 | 222 => 208 | 228 => 212 | 229 => 213 | n => n, fun | n => n⟩
theorem Try.lays189 : Go.Proofs.Lays.n189 Try.prog Try.lays189_ren := {
  mixed := by kernel_rfl
  f125 := Try.func116.trans (congrArg some (by kernel_rfl))
  f128 := Try.func139.trans (congrArg some (by kernel_rfl))
  f129 := Try.func140.trans (congrArg some (by kernel_rfl))
  f189 := Try.func88.trans (congrArg some (by kernel_rfl))
  f215 := Try.func120.trans (congrArg some (by kernel_rfl))
  f216 := Try.func94.trans (congrArg some (by kernel_rfl))
  f257 := Try.func115.trans (congrArg some (by kernel_rfl))
  f294 := Try.func131.trans (congrArg some (by kernel_rfl))
  f295 := Try.func132.trans (congrArg some (by kernel_rfl))
  f296 := Try.func133.trans (congrArg some (by kernel_rfl))
  f297 := Try.func134.trans (congrArg some (by kernel_rfl))
  f298 := Try.func135.trans (congrArg some (by kernel_rfl))
  f299 := Try.func136.trans (congrArg some (by kernel_rfl))
  f300 := Try.func137.trans (congrArg some (by kernel_rfl))
  f301 := Try.func138.trans (congrArg some (by kernel_rfl))
  f328 := Try.func145.trans (congrArg some (by kernel_rfl))
  f329 := Try.func146.trans (congrArg some (by kernel_rfl))
  f330 := Try.func147.trans (congrArg some (by kernel_rfl))
  f331 := Try.func148.trans (congrArg some (by kernel_rfl))
  f332 := Try.func149.trans (congrArg some (by kernel_rfl))
  f343 := Try.func152.trans (congrArg some (by kernel_rfl))
  t0 := Try.underlying0
  a0 := Try.isAgg0
  z0 := Try.sizeOf0
  v0 := Try.zeroValue0
  t3 := Try.underlying3
  a3 := Try.isAgg3
  z3 := Try.sizeOf3
  v3 := Try.zeroValue3
  t4 := Try.underlying4
  a4 := Try.isAgg4
  z4 := Try.sizeOf4
  v4 := Try.zeroValue4
  t5 := Try.underlying5
  a5 := Try.isAgg5
  z5 := Try.sizeOf5
  v5 := Try.zeroValue5
  t9 := Try.underlying9
  a9 := Try.isAgg9
  z9 := Try.sizeOf9
  v9 := Try.zeroValue9
  t28 := Try.underlying39
  a28 := Try.isAgg39
  z28 := Try.sizeOf39
  v28 := Try.zeroValue39
  t46 := Try.underlying175
  a46 := Try.isAgg175
  z46 := Try.sizeOf175
  v46 := Try.zeroValue175
  t51 := Try.underlying198
  a51 := Try.isAgg198
  z51 := Try.sizeOf198
  v51 := Try.zeroValue198
  t53 := Try.underlying200
  a53 := Try.isAgg200
  z53 := Try.sizeOf200
  v53 := Try.zeroValue200
  t131 := Try.underlying195
  a131 := Try.isAgg195
  z131 := Try.sizeOf195
  v131 := Try.zeroValue195
  t182 := Try.underlying190
  a182 := Try.isAgg190
  z182 := Try.sizeOf190
  v182 := Try.zeroValue190
  t183 := Try.underlying191
  a183 := Try.isAgg191
  z183 := Try.sizeOf191
  v183 := Try.zeroValue191
  t218 := Try.underlying204
  a218 := Try.isAgg204
  z218 := Try.sizeOf204
  v218 := Try.zeroValue204
  t222 := Try.underlying208
  a222 := Try.isAgg208
  z222 := Try.sizeOf208
  v222 := Try.zeroValue208
  t228 := Try.underlying212
  a228 := Try.isAgg212
  z228 := Try.sizeOf212
  v228 := Try.zeroValue212
  t229 := Try.underlying213
  a229 := Try.isAgg213
  z229 := Try.sizeOf213
  v229 := Try.zeroValue213 }
def Try.lays20_ren : Go.Shelf.Ren := ⟨fun | 20 => 89 | n => n, fun | 22 => 39 | 3 => 3 | 4 => 4 | 0 => 0 | n => n, fun | n => n⟩
theorem Try.lays20 : Go.Proofs.Lays2.n20 Try.prog Try.lays20_ren := {
  mixed := by kernel_rfl
  f20 := Try.func89.trans (congrArg some (by kernel_rfl))
  t0 := Try.underlying0
  a0 := Try.isAgg0
  z0 := Try.sizeOf0
  v0 := Try.zeroValue0
  t3 := Try.underlying3
  a3 := Try.isAgg3
  z3 := Try.sizeOf3
  v3 := Try.zeroValue3
  t4 := Try.underlying4
  a4 := Try.isAgg4
  z4 := Try.sizeOf4
  v4 := Try.zeroValue4
  t22 := Try.underlying39
  a22 := Try.isAgg39
  z22 := Try.sizeOf39
  v22 := Try.zeroValue39
  i3 := by kernel_rfl }
end Go.Proofs
namespace Go.Nilo
open Go.Proofs

theorem slices_Sort_Lint_int_ok {N : Nat} {G : Pers} {Lf : List Ent} {w : World} (x : List Int) {x_p : Option Addr} {x_c : Nat}  (hc : Ctx G (.row x_p x_c (x.map encI_i64) 3 1 :: Lf) w) {res : (List Int)} (hF : slices_Sort_Lint_int N x = some res) : Calls Try.prog 88 #[.slice x_p x.length x_c] w (fun e w => e = .returned (.tuple #[]) ∧ res.length = x.length ∧ Ctx G (.row x_p x_c (res.map encI_i64) 3 1 :: Lf) w) := by
  unfold slices_Sort_Lint_int at hF
  exact sort_ctx (fun w => sort_nil Go.Proofs.Try.lays189 w) (fun b o c zs w h1 h2 h3 => Go.Proofs.Any.slices_Sort_int Go.Proofs.Try.lays189 b o c zs w h1 h2 h3) hc hF

def slices_Compact_Lint_int (N : Nat) (s_ : List Int) : Option ((List Int)) :=
  compO s_
/-! ### Walks of the library -/

theorem slices_Compact_Lint_int_ok {N : Nat} {G : Pers} {Lf : List Ent} {w : World} (s_ : List Int) {s__p : Option Addr} {s__c : Nat}  (hc : Ctx G (.row s__p s__c (s_.map encI_i64) 3 1 :: Lf) w) {res : (List Int)} (hF : slices_Compact_Lint_int N s_ = some res) : Calls Try.prog 89 #[.slice s__p s_.length s__c] w (fun e w => ∃ (p'1 : Option Addr) (c'1 : Nat), e = .returned (.slice p'1 res.length c'1) ∧ Ctx G (.row p'1 c'1 (res.map encI_i64) 3 1 :: Lf) w) := by
  unfold slices_Compact_Lint_int at hF
  exact compact_ctx (fun a c w => Go.Proofs.Any.slices_Compact_int_empty Go.Proofs.Try.lays20 a c w) (fun b o c zs w h1 h2 h3 => Go.Proofs.Any.slices_Compact_int Go.Proofs.Try.lays20 b o c zs w h1 h2 h3) hc hF

def daily_Reading_costs (x : daily_Reading) (n : Int) : Int :=
  W (x.Weight * (max (W (n - x.Value)) (W (x.Value - n))))
theorem daily_Reading_costs_ok {G : Pers} {Lf : List Ent} {w : World} (x : daily_Reading) (n : Int)   (hc : Ctx G (Lf) w) {res : Int} (hF : daily_Reading_costs x n = res) : Calls Try.prog 90 #[.agg #[.int .i64 x.Value, .int .i64 x.Weight], .int .i64 n] w (fun e w => e = .returned (.int .i64 res) ∧ Ctx G (Lf) w) := by
  unfold daily_Reading_costs at hF
  refine fnIn (args := [.agg #[.int .i64 x.Value, .int .i64 x.Weight], .int .i64 n]) Try.func90 rfl Try.ntmps90 rfl fun a hf => ?_
  refine wp_seq_k fun K1 h1 => ?_
  refine cReg ?_
  refine stBx (cs := [.int .i64 x.Value, .int .i64 x.Weight]) hf hc rfl rfl rfl rfl fun b_1 a w hf hc => ?_
  refine stP hf rfl rfl rfl (pA rfl) fun a hf => ?_
  refine cNil ?_
  refine h1 _ _ ?_
  refine wp_seq_k fun K2 h2 => ?_
  refine cReg ?_
  refine stP hf rfl rfl rfl (pFA fa_102_1 rfl) fun a hf => ?_
  refine stE hf hc rfl rfl rfl (eLd1 sc_3 rfl (cell_box m0 rfl)) fun a w hf hc => ?_
  refine stP hf rfl rfl rfl (pM rfl) fun a hf => ?_
  refine stP hf rfl rfl rfl (pFA fa_102_0 rfl) fun a hf => ?_
  refine stE hf hc rfl rfl rfl (eLd1 sc_3 rfl (cell_box m0 rfl)) fun a w hf hc => ?_
  refine stP hf rfl rfl rfl (pSub rfl rfl) fun a hf => ?_
  refine stP hf rfl rfl rfl (pFA fa_102_0 rfl) fun a hf => ?_
  refine stE hf hc rfl rfl rfl (eLd1 sc_3 rfl (cell_box m0 rfl)) fun a w hf hc => ?_
  refine stP hf rfl rfl rfl (pM rfl) fun a hf => ?_
  refine stP hf rfl rfl rfl (pSub rfl rfl) fun a hf => ?_
  refine stP hf rfl rfl rfl (pMax2 rfl rfl) fun a hf => ?_
  refine stP hf rfl rfl rfl (pMul rfl rfl) fun a hf => ?_
  refine stP hf rfl rfl rfl (pA rfl) fun a hf => ?_
  refine cNil ?_
  refine h2 _ _ ?_
  refine wp_ret ?_
  obtain rfl := hF
  replace hc := hc.drop k0
  exact fnOut1 (by simp) rfl Try.results90 hf hc (show look _ 4 = _ from rfl) ⟨rfl, hc⟩

def daily_Correct_b19 (N : Nat) (l : List daily_Reading) (r_2 : (List Int)) (mp : Int × Int → Option daily_place) (out : List Int) (x_1 : Int) (x_2 : Int) : Option (Step ((List Int) × Int × Int) ((List Int) × Int × Int)) :=
  cond (!(x_1 == ((l.length : Nat) : Int) && x_2 == x_2))
  (Option.bind (getI r_2 (((mp (x_1, x_2)).getD (⟨0, 0⟩ : daily_place)).value)) fun e_1 =>
  Option.bind (room ((out ++ [e_1])).length) fun un =>
  some (.cont ((out ++ [e_1]), W ((((mp (x_1, x_2)).getD (⟨0, 0⟩ : daily_place)).reading) + 1), ((mp (x_1, x_2)).getD (⟨0, 0⟩ : daily_place)).value)))
  (some (.brk (out, x_1, x_2)))
def daily_Correct_j34 (N : Nat) (k : Int) (mp_4 : Int × Int → Option daily_place) (mp_5 : Int × Int → Option Int) : Option (Step (Int × (Int × Int → Option daily_place) × (Int × Int → Option Int)) (Step (Int × (Int × Int → Option daily_place) × (Int × Int → Option Int)) ((List Int) × Int × Int))) :=
  some (.cont (W (k - 1), mp_4, mp_5))
def daily_Correct_b31 (N : Nat) (l : List daily_Reading) (r_2 : (List Int)) (i_1 : Int) (k : Int) (mp_2 : Int × Int → Option daily_place) (mp_3 : Int × Int → Option Int) : Option (Step (Int × (Int × Int → Option daily_place) × (Int × Int → Option Int)) (Step (Int × (Int × Int → Option daily_place) × (Int × Int → Option Int)) ((List Int) × Int × Int))) :=
  cond (decide (0 ≤ k))
  (Option.bind (getI l i_1) fun e_2 =>
  Option.bind (getI r_2 k) fun e_3 =>
  cond (((W (k + 1)) == ((r_2.length : Nat) : Int)) || (decide ((W ((daily_Reading_costs e_2 e_3) + ((mp_3 (W (i_1 + 1), k)).getD 0))) ≤ ((mp_3 (i_1, W (k + 1))).getD 0))))
  (daily_Correct_j34 N k (setG mp_2 (i_1, k) (⟨i_1, k⟩ : daily_place)) (setG mp_3 (i_1, k) (W ((daily_Reading_costs e_2 e_3) + ((mp_3 (W (i_1 + 1), k)).getD 0)))))
  (daily_Correct_j34 N k (setG mp_2 (i_1, k) ((mp_2 (i_1, W (k + 1))).getD (⟨0, 0⟩ : daily_place))) (setG (setG mp_3 (i_1, k) ((mp_3 (i_1, k)).getD 0)) (i_1, k) ((mp_3 (i_1, W (k + 1))).getD 0))))
  (some (.brk (k, mp_2, mp_3)))
def daily_Correct_b15 (N : Nat) (l : List daily_Reading) (r_2 : (List Int)) (i_1 : Int) (mp : Int × Int → Option daily_place) (mp_1 : Int × Int → Option Int) : Option (Step (Int × (Int × Int → Option daily_place) × (Int × Int → Option Int)) ((List Int) × Int × Int)) :=
  cond (decide (0 ≤ i_1))
  (Option.bind (loopO (fun s31 => daily_Correct_b31 N l r_2 i_1 s31.1 s31.2.1 s31.2.2) N (W (((r_2.length : Nat) : Int) - 1), mp, mp_1)) fun x31 =>
  exK x31 (fun s31 => some (.cont (W (i_1 - 1), s31.2.1, s31.2.2))) some)
  (some (.brk (i_1, mp, mp_1)))
def daily_Correct_b9 (N : Nat) (l : List daily_Reading) (values : List Int) (x : Int) : Option (Step ((List Int) × Int) ((List Int) × Int × Int)) :=
  cond (decide (x < ((l.length : Nat) : Int)))
  (Option.bind (getI l x) fun e_4 =>
  Option.bind (room ((values ++ [e_4.Value])).length) fun un_1 =>
  some (.cont ((values ++ [e_4.Value]), W (x + 1))))
  (some (.brk (values, x)))
def daily_Correct (N : Nat) (l : List daily_Reading) : Option ((List Int) × Int × Int) :=
  Option.bind (daily_CheckReadings N l) fun r =>
  cond (r != 0)
  (some (([] : List Int), 0, r))
  (Option.bind (loopO (fun s9 => daily_Correct_b9 N l s9.1 s9.2) N (([] : List Int), 0)) fun x9 =>
  exK x9 (fun s9 => Option.bind (slices_Sort_Lint_int N s9.1) fun r_1 =>
  Option.bind (slices_Compact_Lint_int N r_1) fun r_2 =>
  Option.bind (loopO (fun s15 => daily_Correct_b15 N l r_2 s15.1 s15.2.1 s15.2.2) N (W (((l.length : Nat) : Int) - 1), (fun _ => none : Int × Int → Option daily_place), (fun _ => none : Int × Int → Option Int))) fun x15 =>
  exK x15 (fun s15 => Option.bind (loopO (fun s19 => daily_Correct_b19 N l r_2 s15.2.1 s19.1 s19.2.1 s19.2.2) N (([] : List Int), 0, 0)) fun x19 =>
  exK x19 (fun s19 => some (s19.1, ((s15.2.2 (0, 0)).getD 0), 0)) some) some) some)
theorem daily_Correct_ok {N : Nat} {G : Pers} {Lf : List Ent} {w : World} (l : List daily_Reading) {l_p : Option Addr} {l_c : Nat} (h_l : Rd G 2 l_p l_c (l.map enc_daily_Reading)) (hc : Ctx G (Lf) w) {res : (List Int) × Int × Int} (hF : daily_Correct N l = some res) : Calls Try.prog 51 #[.slice l_p l.length l_c] w (fun e w => ∃ (p'1 : Option Addr) (c'1 : Nat), e = .returned (.tuple #[.slice p'1 res.1.length c'1, .int .i64 res.2.1, .int .i64 res.2.2]) ∧ Ctx G (.row p'1 c'1 (res.1.map encI_i64) 3 1 :: Lf) w) := by
  unfold daily_Correct at hF
  refine fnIn (args := [.slice l_p l.length l_c]) Try.func51 rfl Try.ntmps51 rfl fun a hf => ?_
  refine wp_seq_k fun K1 h1 => ?_
  refine cReg ?_
  refine stP hf rfl rfl rfl (pA rfl) fun a hf => ?_
  refine stP hf rfl rfl rfl (pA rfl) fun a hf => ?_
  refine stP hf rfl rfl rfl (pA rfl) fun a hf => ?_
  refine cNil ?_
  refine h1 _ _ ?_
  refine wp_seq_k fun K2 h2 => ?_
  refine wp_seq_k fun K3 h3 => ?_
  refine cReg ?_
  refine stP hf rfl rfl rfl (pM rfl) fun a hf => ?_
  obtain ⟨r, hr, hF⟩ := bnd_some hF
  refine stE hf hc rfl rfl rfl (eC (v := .int .i64 r) (vs := [.slice l_p l.length l_c]) (caps := []) en_87 rfl rfl rfl rfl (fun w hc => daily_CheckReadings_ok l h_l hc hr)) fun a w hf hc => ?_
  refine stP hf rfl rfl rfl (pA rfl) fun a hf => ?_
  refine cNil ?_
  refine h3 _ _ ?_
  refine wp_seq_k fun K4 h4 => ?_
  refine cReg ?_
  refine stP hf rfl rfl rfl (pM rfl) fun a hf => ?_
  refine stP hf rfl rfl rfl (pNe rfl rfl) fun a hf => ?_
  refine cNil ?_
  refine h4 _ _ ?_
  refine cCond (b := (r != 0)) hf rfl (fun hb => ?_) (fun hb => ?_)
  · replace hF := condT hb hF
    clear hb
    refine wp_seq_k fun K5 h5 => ?_
    refine cReg ?_
    refine stP hf rfl rfl rfl (pM rfl) fun a hf => ?_
    refine stP hf rfl rfl rfl (pA rfl) fun a hf => ?_
    refine stP hf rfl rfl rfl (pA rfl) fun a hf => ?_
    refine stP hf rfl rfl rfl (pA rfl) fun a hf => ?_
    refine cNil ?_
    refine h5 _ _ ?_
    refine wp_ret ?_
    refine xThenR ?_
    obtain rfl := Option.some.inj hF
    replace hc := hc.nilRow 3 1
    exact fnOut3 (by simp) rfl Try.results51 hf hc (show look _ 2 = _ from rfl) (show look _ 3 = _ from rfl) (show look _ 4 = _ from rfl) ⟨none, 0, rfl, hc⟩
  · replace hF := condF hb hF
    clear hb
    refine wp_skip ?_
    refine h2 _ _ ?_
    refine wp_seq_k fun K6 h6 => ?_
    refine cReg ?_
    refine stP hf rfl rfl rfl (pA rfl) fun a hf => ?_
    refine cNil ?_
    refine h6 _ _ ?_
    refine wp_seq_k fun K7 h7 => ?_
    refine wp_seq_k fun K8 h8 => ?_
    refine cReg ?_
    refine stP hf rfl rfl rfl (pM rfl) fun a hf => ?_
    refine stP hf rfl rfl rfl (pLenS Try.underlying96 rfl) fun a hf => ?_
    refine stP hf rfl rfl rfl (pM rfl) fun a hf => ?_
    refine cNil ?_
    refine h8 _ _ ?_
    refine wp_block ?_
    obtain ⟨x9, hx9, hF⟩ := bnd_some hF
    let S9 : ((List Int) × Int) → Act → World → Prop := (fun (zz : (List Int) × Int) a w => ∃ (p_1 : Option Addr) (c_1 : Nat), Has 135 a [(0, .slice l_p l.length l_c), (6, .slice p_1 zz.1.length c_1), (23, .slice l_p l.length l_c), (24, .int .i64 ((l.length : Nat) : Int)), (25, .int .i64 zz.2)] ∧ Ctx G (.row p_1 c_1 (zz.1.map encI_i64) 3 1 :: Lf) w)
    have hr9 : ∀ (zz : (List Int) × Int) a w, x9 = .go zz → S9 zz a w → K7 a w := by
      rintro ⟨values, x⟩ a w rfl ⟨p_1, c_1, hf, hc⟩
      replace hF := exK_go hF
      refine h7 _ _ ?_
      refine wp_seq_k fun K10 h10 => ?_
      refine cReg ?_
      refine stP hf rfl rfl rfl (pM rfl) fun a hf => ?_
      obtain ⟨r_1, hr_1, hF⟩ := bnd_some hF
      refine stC (vs := [.slice p_1 values.length c_1]) (caps := []) hf rfl rfl rfl en_88 rfl rfl rfl rfl (slices_Sort_Lint_int_ok values (hc.pick k0) hr_1) ?_
      rintro _ w ⟨rfl, hl, hc⟩
      refine ⟨_, rfl, fun a hf => ?_⟩
      try rw [← hl] at hf
      try rw [← hl] at hc
      refine cNil ?_
      refine h10 _ _ ?_
      refine wp_seq_k fun K11 h11 => ?_
      refine cReg ?_
      refine stP hf rfl rfl rfl (pM rfl) fun a hf => ?_
      obtain ⟨r_2, hr_2, hF⟩ := bnd_some hF
      refine stC (vs := [.slice p_1 r_1.length c_1]) (caps := []) hf rfl rfl rfl en_89 rfl rfl rfl rfl (slices_Compact_Lint_int_ok r_1 (hc.pick k0) hr_2) ?_
      rintro _ w ⟨p_2, c_2, rfl, hc⟩
      refine ⟨_, rfl, fun a hf => ?_⟩
      refine stP hf rfl rfl rfl (pA rfl) fun a hf => ?_
      refine cNil ?_
      refine h11 _ _ ?_
      refine wp_seq_k fun K12 h12 => ?_
      refine cReg ?_
      refine stGM (kv := kv_156) hf hc rfl rfl fun mb a w hf hc => ?_
      replace hc : Ctx _ (.gm mb (KQ kv_156 (fun j => ((fun _ => none : Int × Int → Option Int) j).map (Value.int .i64)) none) :: _) w := hc
      refine stGM (kv := kv_156) hf hc rfl rfl fun mb_1 a w hf hc => ?_
      replace hc : Ctx _ (.gm mb_1 (KQ kv_156 (fun j => ((fun _ => none : Int × Int → Option daily_place) j).map (fun x : daily_place => .agg #[.int .i64 x.reading, .int .i64 x.value])) none) :: _) w := hc
      refine stP hf rfl rfl rfl (pA rfl) fun a hf => ?_
      refine stP hf rfl rfl rfl (pA rfl) fun a hf => ?_
      refine cNil ?_
      refine h12 _ _ ?_
      refine wp_seq_k fun K13 h13 => ?_
      refine wp_seq_k fun K14 h14 => ?_
      refine cReg ?_
      refine stP hf rfl rfl rfl (pM rfl) fun a hf => ?_
      refine stP hf rfl rfl rfl (pLenS Try.underlying96 rfl) fun a hf => ?_
      refine stP hf rfl rfl rfl (pSub rfl rfl) fun a hf => ?_
      refine stP hf rfl rfl rfl (pA rfl) fun a hf => ?_
      refine cNil ?_
      refine h14 _ _ ?_
      refine wp_block ?_
      obtain ⟨x15, hx15, hF⟩ := bnd_some hF
      let S15 : (Int × (Int × Int → Option daily_place) × (Int × Int → Option Int)) → Act → World → Prop := (fun (zz : Int × (Int × Int → Option daily_place) × (Int × Int → Option Int)) a w => ∃ (p_3 : Option Addr) (c_3 : Nat), Has 135 a [(0, .slice l_p l.length l_c), (6, .slice p_3 r_2.length c_3), (9, .map (some mb)), (10, .map (some mb_1)), (11, .int .i64 zz.1)] ∧ Ctx G (.gm mb_1 (KQ kv_156 (fun j => (zz.2.1 j).map (fun x : daily_place => .agg #[.int .i64 x.reading, .int .i64 x.value])) none) :: .gm mb (KQ kv_156 (fun j => (zz.2.2 j).map (Value.int .i64)) none) :: .row p_3 c_3 (r_2.map encI_i64) 3 1 :: Lf) w)
      have hr15 : ∀ (zz : Int × (Int × Int → Option daily_place) × (Int × Int → Option Int)) a w, x15 = .go zz → S15 zz a w → K13 a w := by
        rintro ⟨i_1, mp, mp_1⟩ a w rfl ⟨p_3, c_3, hf, hc⟩
        replace hF := exK_go hF
        refine h13 _ _ ?_
        refine wp_seq_k fun K16 h16 => ?_
        refine cReg ?_
        refine stP hf rfl rfl rfl (pA rfl) fun a hf => ?_
        refine cNil ?_
        refine h16 _ _ ?_
        refine wp_seq_k fun K17 h17 => ?_
        refine cReg ?_
        refine stP hf rfl rfl rfl (pBuildS (cells := [.int .i64 0, .int .i64 0]) bt_156 rfl rfl) fun a hf => ?_
        refine stAl (cs := [.int .i64 0, .int .i64 0]) hf hc rfl rfl zr_156 rfl fun b_1 a w hf hc => ?_
        refine stSt (vs := [.int .i64 0, .int .i64 0]) hf hc rfl rfl rfl rfl sz_156 rfl rfl u0 fun w hc => ?_
        refine cNil ?_
        refine h17 _ _ ?_
        refine wp_seq_k fun K18 h18 => ?_
        refine wp_block ?_
        obtain ⟨x19, hx19, hF⟩ := bnd_some hF
        let S19 : ((List Int) × Int × Int) → Act → World → Prop := (fun (zz : (List Int) × Int × Int) a w => ∃ (p_4 : Option Addr) (c_4 : Nat) (p_5 : Option Addr) (c_5 : Nat), Has 135 a [(0, .slice l_p l.length l_c), (6, .slice p_4 r_2.length c_4), (9, .map (some mb)), (10, .map (some mb_1)), (16, .slice p_5 zz.1.length c_5), (17, .pointer (some ⟨b_1, 0, none⟩))] ∧ Ctx G (.row p_5 c_5 (zz.1.map encI_i64) 3 1 :: .box b_1 [.int .i64 zz.2.1, .int .i64 zz.2.2] 156 :: .gm mb_1 (KQ kv_156 (fun j => (mp j).map (fun x : daily_place => .agg #[.int .i64 x.reading, .int .i64 x.value])) none) :: .gm mb (KQ kv_156 (fun j => (mp_1 j).map (Value.int .i64)) none) :: .row p_4 c_4 (r_2.map encI_i64) 3 1 :: Lf) w)
        have hr19 : ∀ (zz : (List Int) × Int × Int) a w, x19 = .go zz → S19 zz a w → K18 a w := by
          rintro ⟨out, x_1, x_2⟩ a w rfl ⟨p_4, c_4, p_5, c_5, hf, hc⟩
          replace hF := exK_go hF
          refine h18 _ _ ?_
          refine wp_seq_k fun K20 h20 => ?_
          refine cQ hc follows_mx (by kernel_rfl) ?_
          refine qE hf rfl rfl rfl (Pu.ev (pM rfl)) fun a hf => ?_
          refine qE hf rfl rfl rfl (Pu.ev (pM rfl)) fun a hf => ?_
          refine qE hf rfl rfl rfl (Pu.ev (pBuildS (cells := [.int .i64 0, .int .i64 0]) bt_156 rfl rfl)) fun a hf => ?_
          refine qE hf rfl rfl rfl (gLk (kv := kv_156) (enc := (Value.int .i64)) (z0 := 0) (m := mp_1) (k := (0, 0)) m3 Try.underlying153 kt_156 zr_3 rfl rfl) fun a hf => ?_
          refine qE hf rfl rfl rfl (Pu.ev (pA rfl)) fun a hf => ?_
          refine qE hf rfl rfl rfl (Pu.ev (pA rfl)) fun a hf => ?_
          refine qE hf rfl rfl rfl (Pu.ev (pA rfl)) fun a hf => ?_
          intro w hc
          refine h20 _ _ ?_
          refine wp_ret ?_
          obtain rfl := Option.some.inj hF
          replace hc := hc.drop k4
          replace hc := hc.drop k3
          replace hc := hc.drop k2
          replace hc := hc.drop k1
          exact fnOut3 (by simp) rfl Try.results51 hf hc (show look _ 2 = _ from rfl) (show look _ 3 = _ from rfl) (show look _ 4 = _ from rfl) ⟨p_5, c_5, rfl, hc⟩
        have ho19 : ∀ r, x19 = .out r → r = res := by
          rintro r rfl
          exact Option.some.inj hF
        replace hc := hc.nilRow 3 1
        refine cLoop N (loopW (S := S19) (x := x19) ?_ N (([] : List Int), 0, 0) _ _ ⟨p_3, c_3, none, 0, hf.keep ⟨rfl, rfl, rfl, rfl, rfl, rfl, trivial⟩, hc⟩ hx19)
        clear hF hf hc
        rintro ⟨out, x_1, x_2⟩ st19 a w KB19 ⟨p_4, c_4, p_5, c_5, hf, hc⟩ hF hfin19 hK19
        unfold daily_Correct_b19 at hF
        refine wp_seq_k fun K21 h21 => ?_
        refine wp_seq_k fun K22 h22 => ?_
        refine cReg ?_
        refine stE hf hc rfl rfl rfl (eLdN (vs := [.int .i64 x_1, .int .i64 x_2]) ag_156 rfl rfl (cells_box (n := 2) m1 rfl)) fun a w hf hc => ?_
        refine stP hf rfl rfl rfl (pM rfl) fun a hf => ?_
        refine stP hf rfl rfl rfl (pLenS Try.underlying96 rfl) fun a hf => ?_
        refine stP hf rfl rfl rfl (pFA fa_156_1 rfl) fun a hf => ?_
        refine stE hf hc rfl rfl rfl (eLd1 sc_3 rfl (cell_box m1 rfl)) fun a w hf hc => ?_
        refine stP hf rfl rfl rfl (pBuildS (cells := [.int .i64 ((l.length : Nat) : Int), .int .i64 x_2]) bt_156 rfl rfl) fun a hf => ?_
        refine stP hf rfl rfl rfl (pNeA ge_156 rfl rfl (eqs_156 _ _ _ _)) fun a hf => ?_
        refine cNil ?_
        refine h22 _ _ ?_
        refine cCond (b := (!(x_1 == ((l.length : Nat) : Int) && x_2 == x_2))) hf rfl (fun hb => ?_) (fun hb => ?_)
        · replace hF := condT hb hF
          clear hb
          refine wp_skip ?_
          refine h21 _ _ ?_
          refine wp_thenK fun K23 h23 => ?_
          refine wp_block ?_
          refine wp_seq_k fun K24 h24 => ?_
          refine cReg ?_
          refine stP hf rfl rfl rfl (pM rfl) fun a hf => ?_
          refine stE hf hc rfl rfl rfl (eLdN (vs := [.int .i64 x_1, .int .i64 x_2]) ag_156 rfl rfl (cells_box (n := 2) m1 rfl)) fun a w hf hc => ?_
          refine stE hf hc rfl rfl rfl (gLk (kv := kv_156) (enc := (fun x : daily_place => .agg #[.int .i64 x.reading, .int .i64 x.value])) (z0 := (⟨0, 0⟩ : daily_place)) (m := mp) (k := (x_1, x_2)) m2 Try.underlying154 kt_156 zr_156 rfl rfl) fun a w hf hc => ?_
          refine stSt (vs := [.int .i64 (((mp (x_1, x_2)).getD (⟨0, 0⟩ : daily_place)).reading), .int .i64 (((mp (x_1, x_2)).getD (⟨0, 0⟩ : daily_place)).value)]) hf hc rfl rfl rfl rfl sz_156 rfl rfl u1 fun w hc => ?_
          refine cNil ?_
          refine h24 _ _ ?_
          refine wp_seq_k fun K25 h25 => ?_
          refine cReg ?_
          refine stP hf rfl rfl rfl (pM rfl) fun a hf => ?_
          refine stP hf rfl rfl rfl (pM rfl) fun a hf => ?_
          refine stP hf rfl rfl rfl (pFA fa_156_1 rfl) fun a hf => ?_
          refine stE hf hc rfl rfl rfl (eLd1 sc_3 rfl (cell_box m1 rfl)) fun a w hf hc => ?_
          obtain ⟨e_1, he_1, hF⟩ := bnd_some hF
          obtain ⟨g, rfl, qa, qr⟩ := row_atm hc m4 he_1
          refine stP hf rfl rfl rfl (pIA Try.underlying39 sz_3 rfl rfl qa) fun a hf => ?_
          refine stE hf hc rfl rfl rfl (eLd1 sc_3 rfl (cell_row (sz := 1) (i := (((mp (x_1, x_2)).getD (⟨0, 0⟩ : daily_place)).value).toNat) (j := 0) m4 qr rfl)) fun a w hf hc => ?_
          refine stBS (rows := ([e_1] : List Int).map encI_i64) (vs := [(0, .int .i64 e_1)]) hf hc rfl rfl sl_39 rfl ⟨rfl, rfl, rfl, trivial⟩ rfl rfl fun b_2 a w hf hc => ?_
          obtain ⟨un, hun, hF⟩ := bnd_some hF
          refine stApm (xs := out) (ys := ([e_1] : List Int)) hf hc rfl rfl sl_39 rfl rfl rfl rfl rfl one_encI_i64 (src_row hc m0) (fun _ _ => u1) (by simpa using room_spec hun) fun p_6 c_6 a w hf hc => ?_
          refine stP hf rfl rfl rfl (pA rfl) fun a hf => ?_
          refine cNil ?_
          refine h25 _ _ ?_
          refine cReg ?_
          refine stP hf rfl rfl rfl (pFA fa_156_0 rfl) fun a hf => ?_
          refine stE hf hc rfl rfl rfl (eLd1 sc_3 rfl (cell_box m2 rfl)) fun a w hf hc => ?_
          refine stP hf rfl rfl rfl (pAdd rfl rfl) fun a hf => ?_
          refine stP hf rfl rfl rfl (pFA fa_156_0 rfl) fun a hf => ?_
          refine stSt (vs := [.int .i64 (W ((((mp (x_1, x_2)).getD (⟨0, 0⟩ : daily_place)).reading) + 1))]) hf hc rfl rfl rfl rfl sz_3 rfl rfl u2 fun w hc => ?_
          refine cNil ?_
          refine h23 _ _ ?_
          replace hc := hc.drop k0
          exact hK19 ((out ++ [e_1]), W ((((mp (x_1, x_2)).getD (⟨0, 0⟩ : daily_place)).reading) + 1), ((mp (x_1, x_2)).getD (⟨0, 0⟩ : daily_place)).value) _ _ (Option.some.inj hF).symm ⟨(some ⟨g, 0, none⟩), c_4, p_6, c_6, hf.keep ⟨rfl, rfl, rfl, rfl, rfl, rfl, trivial⟩, hc⟩
        · replace hF := condF hb hF
          clear hb
          refine wp_exit ?_
          refine xThen ?_
          refine xThen ?_
          have he := Option.some.inj hF
          rw [← he] at hfin19
          refine cHit ?_
          exact hr19 _ _ _ hfin19 ⟨p_4, c_4, p_5, c_5, hf.keep ⟨rfl, rfl, rfl, rfl, rfl, rfl, trivial⟩, hc⟩
      have ho15 : ∀ r, x15 = .out r → r = res := by
        rintro r rfl
        exact Option.some.inj hF
      refine cLoop N (loopW (S := S15) (x := x15) ?_ N (W (((l.length : Nat) : Int) - 1), (fun _ => none : Int × Int → Option daily_place), (fun _ => none : Int × Int → Option Int)) _ _ ⟨p_2, c_2, hf.keep ⟨rfl, rfl, rfl, rfl, rfl, trivial⟩, hc⟩ hx15)
      clear hF hf hc
      rintro ⟨i_1, mp, mp_1⟩ st15 a w KB15 ⟨p_3, c_3, hf, hc⟩ hF hfin15 hK15
      unfold daily_Correct_b15 at hF
      refine wp_seq_k fun K26 h26 => ?_
      refine wp_seq_k fun K27 h27 => ?_
      refine cReg ?_
      refine stP hf rfl rfl rfl (pM rfl) fun a hf => ?_
      refine stP hf rfl rfl rfl (pGe rfl rfl) fun a hf => ?_
      refine cNil ?_
      refine h27 _ _ ?_
      refine cCond (b := (decide (0 ≤ i_1))) hf rfl (fun hb => ?_) (fun hb => ?_)
      · replace hF := condT hb hF
        clear hb
        refine wp_skip ?_
        refine h26 _ _ ?_
        refine wp_seq_k fun K28 h28 => ?_
        refine wp_block ?_
        refine wp_seq_k fun K29 h29 => ?_
        refine cReg ?_
        refine stP hf rfl rfl rfl (pM rfl) fun a hf => ?_
        refine stP hf rfl rfl rfl (pLenS Try.underlying39 rfl) fun a hf => ?_
        refine stP hf rfl rfl rfl (pSub rfl rfl) fun a hf => ?_
        refine stP hf rfl rfl rfl (pA rfl) fun a hf => ?_
        refine cNil ?_
        refine h29 _ _ ?_
        refine wp_thenK fun K30 h30 => ?_
        refine wp_block ?_
        obtain ⟨x31, hx31, hF⟩ := bnd_some hF
        let S31 : (Int × (Int × Int → Option daily_place) × (Int × Int → Option Int)) → Act → World → Prop := (fun (zz : Int × (Int × Int → Option daily_place) × (Int × Int → Option Int)) a w => ∃ (p_7 : Option Addr) (c_7 : Nat), Has 135 a [(0, .slice l_p l.length l_c), (6, .slice p_7 r_2.length c_7), (9, .map (some mb)), (10, .map (some mb_1)), (11, .int .i64 i_1), (12, .int .i64 zz.1)] ∧ Ctx G (.gm mb_1 (KQ kv_156 (fun j => (zz.2.1 j).map (fun x : daily_place => .agg #[.int .i64 x.reading, .int .i64 x.value])) none) :: .gm mb (KQ kv_156 (fun j => (zz.2.2 j).map (Value.int .i64)) none) :: .row p_7 c_7 (r_2.map encI_i64) 3 1 :: Lf) w)
        have hr31 : ∀ (zz : Int × (Int × Int → Option daily_place) × (Int × Int → Option Int)) a w, x31 = .go zz → S31 zz a w → K30 a w := by
          rintro ⟨k, mp_2, mp_3⟩ a w rfl ⟨p_7, c_7, hf, hc⟩
          replace hF := exK_go hF
          refine h30 _ _ ?_
          refine h28 _ _ ?_
          refine cReg ?_
          refine stP hf rfl rfl rfl (pM rfl) fun a hf => ?_
          refine stP hf rfl rfl rfl (pSub rfl rfl) fun a hf => ?_
          refine stP hf rfl rfl rfl (pA rfl) fun a hf => ?_
          refine cNil ?_
          exact hK15 (W (i_1 - 1), mp_2, mp_3) _ _ (Option.some.inj hF).symm ⟨p_7, c_7, hf.keep ⟨rfl, rfl, rfl, rfl, rfl, trivial⟩, hc⟩
        have ho31 : ∀ r, x31 = .out r → r = st15 := by
          rintro r rfl
          exact Option.some.inj hF
        refine cLoop N (loopW (S := S31) (x := x31) ?_ N (W (((r_2.length : Nat) : Int) - 1), mp, mp_1) _ _ ⟨p_3, c_3, hf.keep ⟨rfl, rfl, rfl, rfl, rfl, rfl, trivial⟩, hc⟩ hx31)
        clear hF hf hc
        rintro ⟨k, mp_2, mp_3⟩ st31 a w KB31 ⟨p_7, c_7, hf, hc⟩ hF hfin31 hK31
        unfold daily_Correct_b31 at hF
        refine wp_seq_k fun K32 h32 => ?_
        refine wp_seq_k fun K33 h33 => ?_
        refine cReg ?_
        refine stP hf rfl rfl rfl (pM rfl) fun a hf => ?_
        refine stP hf rfl rfl rfl (pGe rfl rfl) fun a hf => ?_
        refine cNil ?_
        refine h33 _ _ ?_
        refine cCond (b := (decide (0 ≤ k))) hf rfl (fun hb => ?_) (fun hb => ?_)
        · replace hF := condT hb hF
          clear hb
          refine wp_skip ?_
          refine h32 _ _ ?_
          refine wp_seq_k fun K34 h34 => ?_
          have hj34 : ∀ (mp_4 : Int × Int → Option daily_place) (mp_5 : Int × Int → Option Int) (p_8 : Option Addr) (c_8 : Nat) a w, Has 135 a [(0, .slice l_p l.length l_c), (6, .slice p_8 r_2.length c_8), (9, .map (some mb)), (10, .map (some mb_1)), (11, .int .i64 i_1), (12, .int .i64 k)] → Ctx G (.gm mb_1 (KQ kv_156 (fun j => (mp_4 j).map (fun x : daily_place => .agg #[.int .i64 x.reading, .int .i64 x.value])) none) :: .gm mb (KQ kv_156 (fun j => (mp_5 j).map (Value.int .i64)) none) :: .row p_8 c_8 (r_2.map encI_i64) 3 1 :: Lf) w → daily_Correct_j34 N k mp_4 mp_5 = some st31 → K34 a w := by
            repeat (clear hF)
            repeat (clear hc)
            repeat (clear hf)
            intro mp_4 mp_5 p_8 c_8 a w hf hc hF
            unfold daily_Correct_j34 at hF
            refine h34 _ _ ?_
            refine cReg ?_
            refine stP hf rfl rfl rfl (pM rfl) fun a hf => ?_
            refine stP hf rfl rfl rfl (pSub rfl rfl) fun a hf => ?_
            refine stP hf rfl rfl rfl (pA rfl) fun a hf => ?_
            refine cNil ?_
            exact hK31 (W (k - 1), mp_4, mp_5) _ _ (Option.some.inj hF).symm ⟨p_8, c_8, hf.keep ⟨rfl, rfl, rfl, rfl, rfl, rfl, trivial⟩, hc⟩
          refine wp_block ?_
          refine wp_seq_k fun K35 h35 => ?_
          refine cReg ?_
          refine stP hf rfl rfl rfl (pM rfl) fun a hf => ?_
          refine stP hf rfl rfl rfl (pM rfl) fun a hf => ?_
          refine stP hf rfl rfl rfl (pBuildS (cells := [.int .i64 i_1, .int .i64 k]) bt_156 rfl rfl) fun a hf => ?_
          refine stP hf rfl rfl rfl (pM rfl) fun a hf => ?_
          refine stP hf rfl rfl rfl (pM rfl) fun a hf => ?_
          refine stP hf rfl rfl rfl (pAdd rfl rfl) fun a hf => ?_
          refine stP hf rfl rfl rfl (pBuildS (cells := [.int .i64 i_1, .int .i64 (W (k + 1))]) bt_156 rfl rfl) fun a hf => ?_
          refine stAl (cs := [.int .i64 0, .int .i64 0]) hf hc rfl rfl zr_156 rfl fun b_3 a w hf hc => ?_
          refine stAl (cs := [.int .i64 0, .int .i64 0]) hf hc rfl rfl zr_156 rfl fun b_4 a w hf hc => ?_
          refine stSt (vs := [.int .i64 i_1, .int .i64 k]) hf hc rfl rfl rfl rfl sz_156 rfl rfl u1 fun w hc => ?_
          refine stSt (vs := [.int .i64 i_1, .int .i64 (W (k + 1))]) hf hc rfl rfl rfl rfl sz_156 rfl rfl u0 fun w hc => ?_
          refine cNil ?_
          refine h35 _ _ ?_
          refine wp_seq_k fun K36 h36 => ?_
          obtain ⟨e_2, he_2, hF⟩ := bnd_some hF
          obtain ⟨b_5, o, qa_1, qp⟩ := h_l.atm he_2
          obtain ⟨e_3, he_3, hF⟩ := bnd_some hF
          obtain ⟨g_1, rfl, qa_2, qr_1⟩ := row_atm hc m4 he_3
          refine cQ hc follows_mx (by kernel_rfl) ?_
          refine qE hf rfl rfl rfl (Pu.ev (pM rfl)) fun a hf => ?_
          refine qE hf rfl rfl rfl (Pu.ev (pM rfl)) fun a hf => ?_
          refine qE hf rfl rfl rfl (Pu.ev (pIA Try.underlying96 sz_102 rfl rfl qa_1)) fun a hf => ?_
          refine qE hf rfl rfl rfl (eLdN (vs := [.int .i64 e_2.Value, .int .i64 e_2.Weight]) ag_102 rfl rfl (cells_pc qp (n := 2) (o' := 0) rfl)) fun a hf => ?_
          refine qE hf rfl rfl rfl (Pu.ev (pM rfl)) fun a hf => ?_
          refine qE hf rfl rfl rfl (Pu.ev (pM rfl)) fun a hf => ?_
          refine qE hf rfl rfl rfl (Pu.ev (pIA Try.underlying39 sz_3 rfl rfl qa_2)) fun a hf => ?_
          refine qE hf rfl rfl rfl (eLd1 sc_3 rfl (cell_row (sz := 1) (i := k.toNat) (j := 0) m4 qr_1 rfl)) fun a hf => ?_
          refine qE hf rfl rfl rfl (eC (v := .int .i64 (daily_Reading_costs e_2 e_3)) (vs := [.agg #[.int .i64 e_2.Value, .int .i64 e_2.Weight], .int .i64 e_3]) (caps := []) en_90 rfl rfl rfl rfl (fun w hc => daily_Reading_costs_ok e_2 e_3 hc rfl)) fun a hf => ?_
          refine qE hf rfl rfl rfl (Pu.ev (pM rfl)) fun a hf => ?_
          refine qE hf rfl rfl rfl (Pu.ev (pM rfl)) fun a hf => ?_
          refine qE hf rfl rfl rfl (Pu.ev (pAdd rfl rfl)) fun a hf => ?_
          refine qE hf rfl rfl rfl (Pu.ev (pM rfl)) fun a hf => ?_
          refine qE hf rfl rfl rfl (Pu.ev (pBuildS (cells := [.int .i64 (W (i_1 + 1)), .int .i64 k]) bt_156 rfl rfl)) fun a hf => ?_
          refine qE hf rfl rfl rfl (gLk (kv := kv_156) (enc := (Value.int .i64)) (z0 := 0) (m := mp_3) (k := (W (i_1 + 1), k)) m3 Try.underlying153 kt_156 zr_3 rfl rfl) fun a hf => ?_
          refine qE hf rfl rfl rfl (Pu.ev (pAdd rfl rfl)) fun a hf => ?_
          refine qE hf rfl rfl rfl (Pu.ev (pA rfl)) fun a hf => ?_
          intro w hc
          refine h36 _ _ ?_
          refine wp_seq_k fun K37 h37 => ?_
          refine cReg ?_
          refine stP hf rfl rfl rfl (pM rfl) fun a hf => ?_
          refine stP hf rfl rfl rfl (pAdd rfl rfl) fun a hf => ?_
          refine stP hf rfl rfl rfl (pM rfl) fun a hf => ?_
          refine stP hf rfl rfl rfl (pLenS Try.underlying39 rfl) fun a hf => ?_
          refine stP hf rfl rfl rfl (pEq rfl rfl) fun a hf => ?_
          refine stP hf rfl rfl rfl (pM rfl) fun a hf => ?_
          refine stCut 6 (fun a w => Has 135 a [(0, .slice l_p l.length l_c), (6, .slice (some ⟨g_1, 0, none⟩) r_2.length c_7), (9, .map (some mb)), (10, .map (some mb_1)), (11, .int .i64 i_1), (12, .int .i64 k), (13, .pointer (some ⟨b_3, 0, none⟩)), (14, .pointer (some ⟨b_4, 0, none⟩)), (15, .int .i64 (W ((daily_Reading_costs e_2 e_3) + ((mp_3 (W (i_1 + 1), k)).getD 0)))), (78, .int .i64 k), (79, .int .i64 (W (k + 1))), (80, .slice (some ⟨g_1, 0, none⟩) r_2.length c_7), (81, .int .i64 ((r_2.length : Nat) : Int)), (82, .bool ((W (k + 1)) == ((r_2.length : Nat) : Int))), (83, .bool ((W (k + 1)) == ((r_2.length : Nat) : Int))), (89, .bool (((W (k + 1)) == ((r_2.length : Nat) : Int)) || (decide ((W ((daily_Reading_costs e_2 e_3) + ((mp_3 (W (i_1 + 1), k)).getD 0))) ≤ ((mp_3 (i_1, W (k + 1))).getD 0)))))] ∧ Ctx G (.box b_4 [.int .i64 i_1, .int .i64 (W (k + 1))] 156 :: .box b_3 [.int .i64 i_1, .int .i64 k] 156 :: .gm mb_1 (KQ kv_156 (fun j => (mp_2 j).map (fun x : daily_place => .agg #[.int .i64 x.reading, .int .i64 x.value])) none) :: .gm mb (KQ kv_156 (fun j => (mp_3 j).map (Value.int .i64)) none) :: .row (some ⟨g_1, 0, none⟩) c_7 (r_2.map encI_i64) 3 1 :: Lf) w) ?_ ?_
          · cases hb : ((W (k + 1)) == ((r_2.length : Nat) : Int))
            · rw [hb] at hf
              refine stP hf rfl rfl rfl (pM rfl) fun a hf => ?_
              refine stP hf rfl rfl rfl (pM rfl) fun a hf => ?_
              refine stE hf hc rfl rfl rfl (eLdN (vs := [.int .i64 i_1, .int .i64 (W (k + 1))]) ag_156 rfl rfl (cells_box (n := 2) m0 rfl)) fun a w hf hc => ?_
              refine stE hf hc rfl rfl rfl (gLk (kv := kv_156) (enc := (Value.int .i64)) (z0 := 0) (m := mp_3) (k := (i_1, W (k + 1))) m3 Try.underlying153 kt_156 zr_3 rfl rfl) fun a w hf hc => ?_
              refine stP hf rfl rfl rfl (pLe rfl rfl) fun a hf => ?_
              refine stP hf rfl rfl rfl (pPf rfl rfl) fun a hf => ?_
              exact cNil ⟨hf.keep ⟨rfl, rfl, rfl, rfl, rfl, rfl, rfl, rfl, rfl, rfl, rfl, rfl, rfl, rfl, rfl, rfl, trivial⟩, hc⟩
            · rw [hb] at hf
              refine stS hf rfl rfl rfl fun a hf => ?_
              refine stS hf rfl rfl rfl fun a hf => ?_
              refine stS hf rfl rfl rfl fun a hf => ?_
              refine stS hf rfl rfl rfl fun a hf => ?_
              refine stS hf rfl rfl rfl fun a hf => ?_
              refine stP hf rfl rfl rfl (pPt rfl rfl) fun a hf => ?_
              exact cNil ⟨hf.keep ⟨rfl, rfl, rfl, rfl, rfl, rfl, rfl, rfl, rfl, rfl, rfl, rfl, rfl, rfl, rfl, rfl, trivial⟩, hc⟩
          intro a w ⟨hf, hc⟩
          refine cNil ?_
          refine h37 _ _ ?_
          refine cCond (b := (((W (k + 1)) == ((r_2.length : Nat) : Int)) || (decide ((W ((daily_Reading_costs e_2 e_3) + ((mp_3 (W (i_1 + 1), k)).getD 0))) ≤ ((mp_3 (i_1, W (k + 1))).getD 0))))) hf rfl (fun hb => ?_) (fun hb => ?_)
          · replace hF := condT hb hF
            clear hb
            refine regionE (fun θ => [⟨none, none, 0, .slice l_p l.length l_c⟩, ⟨none, none, 6, .slice (some ⟨g_1, 0, none⟩) r_2.length c_7⟩, ⟨none, none, 9, .map (some mb)⟩, ⟨none, none, 10, .map (some mb_1)⟩, ⟨none, none, 11, .int .i64 i_1⟩, ⟨none, none, 12, .int .i64 k⟩, ⟨none, none, 13, .pointer (some ⟨b_3, 0, none⟩)⟩, ⟨none, none, 15, .int .i64 (W ((daily_Reading_costs e_2 e_3) + ((mp_3 (W (i_1 + 1), k)).getD 0)))⟩, ⟨some 0, none, 90, .map (some mb)⟩, ⟨some 1, none, 91, .agg #[.int .i64 i_1, .int .i64 k]⟩, ⟨some 2, none, 92, .map (some mb_1)⟩, ⟨some 3, none, 93, .agg #[.int .i64 i_1, .int .i64 k]⟩, ⟨some 4, none, 94, .int .i64 (W ((daily_Reading_costs e_2 e_3) + ((mp_3 (W (i_1 + 1), k)).getD 0)))⟩, ⟨some 5, none, 95, .agg #[.int .i64 i_1, .int .i64 k]⟩]) (fun E θ => .box b_4 [.int .i64 i_1, .int .i64 (W (k + 1))] 156 :: .box b_3 [.int .i64 i_1, .int .i64 k] 156 :: (bif E 7 then .gm mb_1 (KQ kv_156 (fun j => ((setG mp_2 (i_1, k) (⟨i_1, k⟩ : daily_place)) j).map (fun x : daily_place => .agg #[.int .i64 x.reading, .int .i64 x.value])) none) else .gm mb_1 (KQ kv_156 (fun j => (mp_2 j).map (fun x : daily_place => .agg #[.int .i64 x.reading, .int .i64 x.value])) none)) :: (bif E 6 then .gm mb (KQ kv_156 (fun j => ((setG mp_3 (i_1, k) (W ((daily_Reading_costs e_2 e_3) + ((mp_3 (W (i_1 + 1), k)).getD 0)))) j).map (Value.int .i64)) none) else .gm mb (KQ kv_156 (fun j => (mp_3 j).map (Value.int .i64)) none)) :: .row (some ⟨g_1, 0, none⟩) c_7 (r_2.map encI_i64) 3 1 :: Lf) [] (fun a w => Has 135 a [(0, .slice l_p l.length l_c), (6, .slice (some ⟨g_1, 0, none⟩) r_2.length c_7), (9, .map (some mb)), (10, .map (some mb_1)), (11, .int .i64 i_1), (12, .int .i64 k)] ∧ Ctx G (.box b_4 [.int .i64 i_1, .int .i64 (W (k + 1))] 156 :: .box b_3 [.int .i64 i_1, .int .i64 k] 156 :: .gm mb_1 (KQ kv_156 (fun j => ((setG mp_2 (i_1, k) (⟨i_1, k⟩ : daily_place)) j).map (fun x : daily_place => .agg #[.int .i64 x.reading, .int .i64 x.value])) none) :: .gm mb (KQ kv_156 (fun j => ((setG mp_3 (i_1, k) (W ((daily_Reading_costs e_2 e_3) + ((mp_3 (W (i_1 + 1), k)).getD 0)))) j).map (Value.int .i64)) none) :: .row (some ⟨g_1, 0, none⟩) c_7 (r_2.map encI_i64) 3 1 :: Lf) w) follows_mx (by kernel_rfl) (by kernel_rfl) (HasE.of hf ⟨rfl, rfl, rfl, rfl, rfl, rfl, rfl, rfl, trivial, trivial, trivial, trivial, trivial, trivial, trivial⟩) hc ⟨?_, ?_, ?_, ?_, ?_, ?_, ?_, ?_, trivial⟩ ?_ ?_
            · intro E θ a w hD hi hp he hc
              have hf := he.h0
              replace hf := hf.more he 2 rfl onT
              refine stP hf rfl rfl rfl (pM rfl) fun a hf => ?_
              refine cNil ?_
              refine xThenN ?_
              intro ds u hau
              refine ⟨θ, he.put0 hi hau hf rfl 8 rfl rfl, ?_⟩
              exact hc
            · intro E θ a w hD hi hp he hc
              have hf := he.h0
              replace hf := hf.more he 6 rfl onT
              refine stE hf hc rfl rfl rfl (eLdN (vs := [.int .i64 i_1, .int .i64 k]) ag_156 rfl rfl (cells_box (n := 2) m1 rfl)) fun a w hf hc => ?_
              refine cNil ?_
              refine xThenN ?_
              intro ds u hau
              refine ⟨θ, he.put0 hi hau hf rfl 9 rfl rfl, ?_⟩
              exact hc
            · intro E θ a w hD hi hp he hc
              have hf := he.h0
              replace hf := hf.more he 3 rfl onT
              refine stP hf rfl rfl rfl (pM rfl) fun a hf => ?_
              refine cNil ?_
              refine xThenN ?_
              intro ds u hau
              refine ⟨θ, he.put0 hi hau hf rfl 10 rfl rfl, ?_⟩
              exact hc
            · intro E θ a w hD hi hp he hc
              have hf := he.h0
              replace hf := hf.more he 6 rfl onT
              refine stE hf hc rfl rfl rfl (eLdN (vs := [.int .i64 i_1, .int .i64 k]) ag_156 rfl rfl (cells_box (n := 2) m1 rfl)) fun a w hf hc => ?_
              refine cNil ?_
              refine xThenN ?_
              intro ds u hau
              refine ⟨θ, he.put0 hi hau hf rfl 11 rfl rfl, ?_⟩
              exact hc
            · intro E θ a w hD hi hp he hc
              have hf := he.h0
              replace hf := hf.more he 7 rfl onT
              refine stP hf rfl rfl rfl (pM rfl) fun a hf => ?_
              refine cNil ?_
              refine xThenN ?_
              intro ds u hau
              refine ⟨θ, he.put0 hi hau hf rfl 12 rfl rfl, ?_⟩
              exact hc
            · intro E θ a w hD hi hp he hc
              have hf := he.h0
              replace hf := hf.more he 6 rfl onT
              refine stE hf hc rfl rfl rfl (eLdN (vs := [.int .i64 i_1, .int .i64 k]) ag_156 rfl rfl (cells_box (n := 2) m1 rfl)) fun a w hf hc => ?_
              refine cNil ?_
              refine xThenN ?_
              intro ds u hau
              refine ⟨θ, he.put0 hi hau hf rfl 13 rfl rfl, ?_⟩
              exact hc
            · intro E θ a w hD hi hp he hc
              have e0 := hp.of (k := 0) rfl
              have e1 := hp.of (k := 1) rfl
              have e4 := hp.of (k := 4) rfl
              try dsimp only at hc
              rw [hi] at hc
              have hf := he.h0
              replace hf := hf.more he 8 rfl (onP e0)
              replace hf := hf.more he 9 rfl (onP e1)
              replace hf := hf.more he 12 rfl (onP e4)
              refine stGU (kv := kv_156) (enc := (Value.int .i64)) (m := mp_3) (k := (i_1, k)) (v := W ((daily_Reading_costs e_2 e_3) + ((mp_3 (W (i_1 + 1), k)).getD 0))) hf hc rfl Try.underlying153 kt_156 rfl rfl rfl u3 fun w hc => ?_
              refine cNil ?_
              refine xThenN ?_
              intro ds u hau
              refine ⟨θ, he.stay0 hi hau hf rfl, ?_⟩
              try dsimp only
              rw [updE_self E 6]
              exact hc
            · intro E θ a w hD hi hp he hc
              have e2 := hp.of (k := 2) rfl
              have e3 := hp.of (k := 3) rfl
              have e5 := hp.of (k := 5) rfl
              try dsimp only at hc
              rw [hi] at hc
              have hf := he.h0
              replace hf := hf.more he 10 rfl (onP e2)
              replace hf := hf.more he 11 rfl (onP e3)
              replace hf := hf.more he 13 rfl (onP e5)
              refine stGU (kv := kv_156) (enc := (fun x : daily_place => .agg #[.int .i64 x.reading, .int .i64 x.value])) (m := mp_2) (k := (i_1, k)) (v := (⟨i_1, k⟩ : daily_place)) hf hc rfl Try.underlying154 kt_156 rfl rfl rfl u2 fun w hc => ?_
              refine cNil ?_
              refine xThenN ?_
              intro ds u hau
              refine ⟨θ, he.stay0 hi hau hf rfl, ?_⟩
              try dsimp only
              rw [updE_self E 7]
              exact hc
            · intro E θ a w hall he hc
              have hf := he.h0
              have e6 := hall 6 rfl
              have e7 := hall 7 rfl
              replace hf := hf.more he 5 rfl (onT)
              replace hf := hf.more he 4 rfl (onT)
              replace hf := hf.more he 3 rfl (onT)
              replace hf := hf.more he 2 rfl (onT)
              replace hf := hf.more he 1 rfl (onT)
              replace hf := hf.more he 0 rfl (onT)
              try dsimp only at hc
              rw [e6, e7] at hc
              exact ⟨hf.keep ⟨rfl, rfl, rfl, rfl, rfl, rfl, trivial⟩, hc⟩
            rintro a w ⟨hf, hc⟩
            replace hc := hc.drop k1
            replace hc := hc.drop k0
            exact hj34 (setG mp_2 (i_1, k) (⟨i_1, k⟩ : daily_place)) (setG mp_3 (i_1, k) (W ((daily_Reading_costs e_2 e_3) + ((mp_3 (W (i_1 + 1), k)).getD 0)))) (some ⟨g_1, 0, none⟩) c_7 _ _  (hf.keep ⟨rfl, rfl, rfl, rfl, rfl, rfl, trivial⟩) hc hF
          · replace hF := condF hb hF
            clear hb
            refine regionE (fun θ => [⟨none, none, 0, .slice l_p l.length l_c⟩, ⟨none, none, 6, .slice (some ⟨g_1, 0, none⟩) r_2.length c_7⟩, ⟨none, none, 9, .map (some mb)⟩, ⟨none, none, 10, .map (some mb_1)⟩, ⟨none, none, 11, .int .i64 i_1⟩, ⟨none, none, 12, .int .i64 k⟩, ⟨none, none, 13, .pointer (some ⟨b_3, 0, none⟩)⟩, ⟨none, none, 14, .pointer (some ⟨b_4, 0, none⟩)⟩, ⟨some 0, none, 96, .map (some mb)⟩, ⟨some 1, none, 97, .agg #[.int .i64 i_1, .int .i64 k]⟩, ⟨some 2, none, 98, .map (some mb_1)⟩, ⟨some 3, none, 99, .agg #[.int .i64 i_1, .int .i64 k]⟩, ⟨some 4, none, 100, .map (some mb)⟩, ⟨some 5, none, 101, .agg #[.int .i64 i_1, .int .i64 (W (k + 1))]⟩, ⟨some 7, none, 103, .map (some mb_1)⟩, ⟨some 8, none, 104, .agg #[.int .i64 i_1, .int .i64 (W (k + 1))]⟩, ⟨some 9, none, 105, .agg #[.int .i64 (((mp_2 (i_1, W (k + 1))).getD (⟨0, 0⟩ : daily_place)).reading), .int .i64 (((mp_2 (i_1, W (k + 1))).getD (⟨0, 0⟩ : daily_place)).value)]⟩, ⟨some 10, none, 106, .tuple #[.int .i64 ((mp_3 (i_1, k)).getD 0), .int .i64 (((θ 80).c : Nat) : Int)]⟩, ⟨some 11, none, 107, .int .i64 (((θ 80).c : Nat) : Int)⟩, ⟨some 6, none, 102, .int .i64 ((mp_3 (i_1, W (k + 1))).getD 0)⟩]) (fun E θ => .box b_4 [.int .i64 i_1, .int .i64 (W (k + 1))] 156 :: .box b_3 [.int .i64 i_1, .int .i64 k] 156 :: (bif E 13 then .gm mb_1 (KQ kv_156 (fun j => ((setG mp_2 (i_1, k) ((mp_2 (i_1, W (k + 1))).getD (⟨0, 0⟩ : daily_place))) j).map (fun x : daily_place => .agg #[.int .i64 x.reading, .int .i64 x.value])) none) else .gm mb_1 (KQ kv_156 (fun j => (mp_2 j).map (fun x : daily_place => .agg #[.int .i64 x.reading, .int .i64 x.value])) none)) :: (bif E 12 then .gm mb (KQ kv_156 (fun j => ((setG (setG mp_3 (i_1, k) ((mp_3 (i_1, k)).getD 0)) (i_1, k) ((mp_3 (i_1, W (k + 1))).getD 0)) j).map (Value.int .i64)) none) else bif E 10 then .gm mb (KQ kv_156 (fun j => ((setG mp_3 (i_1, k) ((mp_3 (i_1, k)).getD 0)) j).map (Value.int .i64)) (some ((θ 80).c, (i_1, k)))) else .gm mb (KQ kv_156 (fun j => (mp_3 j).map (Value.int .i64)) none)) :: .row (some ⟨g_1, 0, none⟩) c_7 (r_2.map encI_i64) 3 1 :: Lf) [(12, 6), (13, 9), (12, 10), (11, 10)] (fun a w => Has 135 a [(0, .slice l_p l.length l_c), (6, .slice (some ⟨g_1, 0, none⟩) r_2.length c_7), (9, .map (some mb)), (10, .map (some mb_1)), (11, .int .i64 i_1), (12, .int .i64 k)] ∧ Ctx G (.box b_4 [.int .i64 i_1, .int .i64 (W (k + 1))] 156 :: .box b_3 [.int .i64 i_1, .int .i64 k] 156 :: .gm mb_1 (KQ kv_156 (fun j => ((setG mp_2 (i_1, k) ((mp_2 (i_1, W (k + 1))).getD (⟨0, 0⟩ : daily_place))) j).map (fun x : daily_place => .agg #[.int .i64 x.reading, .int .i64 x.value])) none) :: .gm mb (KQ kv_156 (fun j => ((setG (setG mp_3 (i_1, k) ((mp_3 (i_1, k)).getD 0)) (i_1, k) ((mp_3 (i_1, W (k + 1))).getD 0)) j).map (Value.int .i64)) none) :: .row (some ⟨g_1, 0, none⟩) c_7 (r_2.map encI_i64) 3 1 :: Lf) w) follows_mx (by kernel_rfl) (by kernel_rfl) (HasE.of hf ⟨rfl, rfl, rfl, rfl, rfl, rfl, rfl, rfl, trivial, trivial, trivial, trivial, trivial, trivial, trivial, trivial, trivial, trivial, trivial, trivial, trivial⟩) hc ⟨?_, ?_, ?_, ?_, ?_, ?_, ?_, ?_, ?_, ?_, ?_, ?_, ?_, ?_, trivial⟩ ?_ ?_
            · intro E θ a w hD hi hp he hc
              have hf := he.h0
              replace hf := hf.more he 2 rfl onT
              refine stP hf rfl rfl rfl (pM rfl) fun a hf => ?_
              refine cNil ?_
              refine xThenN ?_
              intro ds u hau
              refine ⟨θ, he.put0 hi hau hf rfl 8 rfl rfl, ?_⟩
              exact hc
            · intro E θ a w hD hi hp he hc
              have hf := he.h0
              replace hf := hf.more he 6 rfl onT
              refine stE hf hc rfl rfl rfl (eLdN (vs := [.int .i64 i_1, .int .i64 k]) ag_156 rfl rfl (cells_box (n := 2) m1 rfl)) fun a w hf hc => ?_
              refine cNil ?_
              refine xThenN ?_
              intro ds u hau
              refine ⟨θ, he.put0 hi hau hf rfl 9 rfl rfl, ?_⟩
              exact hc
            · intro E θ a w hD hi hp he hc
              have hf := he.h0
              replace hf := hf.more he 3 rfl onT
              refine stP hf rfl rfl rfl (pM rfl) fun a hf => ?_
              refine cNil ?_
              refine xThenN ?_
              intro ds u hau
              refine ⟨θ, he.put0 hi hau hf rfl 10 rfl rfl, ?_⟩
              exact hc
            · intro E θ a w hD hi hp he hc
              have hf := he.h0
              replace hf := hf.more he 6 rfl onT
              refine stE hf hc rfl rfl rfl (eLdN (vs := [.int .i64 i_1, .int .i64 k]) ag_156 rfl rfl (cells_box (n := 2) m1 rfl)) fun a w hf hc => ?_
              refine cNil ?_
              refine xThenN ?_
              intro ds u hau
              refine ⟨θ, he.put0 hi hau hf rfl 11 rfl rfl, ?_⟩
              exact hc
            · intro E θ a w hD hi hp he hc
              have hf := he.h0
              replace hf := hf.more he 2 rfl onT
              refine stP hf rfl rfl rfl (pM rfl) fun a hf => ?_
              refine cNil ?_
              refine xThenN ?_
              intro ds u hau
              refine ⟨θ, he.put0 hi hau hf rfl 12 rfl rfl, ?_⟩
              exact hc
            · intro E θ a w hD hi hp he hc
              have hf := he.h0
              replace hf := hf.more he 7 rfl onT
              refine stE hf hc rfl rfl rfl (eLdN (vs := [.int .i64 i_1, .int .i64 (W (k + 1))]) ag_156 rfl rfl (cells_box (n := 2) m0 rfl)) fun a w hf hc => ?_
              refine cNil ?_
              refine xThenN ?_
              intro ds u hau
              refine ⟨θ, he.put0 hi hau hf rfl 13 rfl rfl, ?_⟩
              exact hc
            · intro E θ a w hD hi hp he hc
              have e4 := hp.of (k := 4) rfl
              have e5 := hp.of (k := 5) rfl
              have e12 := hD.f 0 rfl hi
              rcases boolEq (E 10) with e10 | e10
              · try dsimp only at hc
                rw [e10, e12] at hc
                have hf := he.h0
                replace hf := hf.more he 12 rfl (onP e4)
                replace hf := hf.more he 13 rfl (onP e5)
                refine stE hf hc rfl rfl rfl (gLk (kv := kv_156) (enc := (Value.int .i64)) (z0 := 0) (m := (setG mp_3 (i_1, k) ((mp_3 (i_1, k)).getD 0))) (k := (i_1, W (k + 1))) m3 Try.underlying153 kt_156 zr_3 rfl rfl) fun a w hf hc => ?_
                replace hf := castV (v' := .int .i64 ((mp_3 (i_1, W (k + 1))).getD 0)) (by simp only [setG_getD]) hf
                refine cNil ?_
                refine xThenN ?_
                intro ds u hau
                refine ⟨θ, he.put0 hi hau hf rfl 19 rfl rfl, ?_⟩
                try dsimp only
                rw [updE_tru 6 e10, updE_fls 6 e12 rfl]
                exact hc
              · try dsimp only at hc
                rw [e10, e12] at hc
                have hf := he.h0
                replace hf := hf.more he 12 rfl (onP e4)
                replace hf := hf.more he 13 rfl (onP e5)
                refine stE hf hc rfl rfl rfl (gLk (kv := kv_156) (enc := (Value.int .i64)) (z0 := 0) (m := mp_3) (k := (i_1, W (k + 1))) m3 Try.underlying153 kt_156 zr_3 rfl rfl) fun a w hf hc => ?_
                refine cNil ?_
                refine xThenN ?_
                intro ds u hau
                refine ⟨θ, he.put0 hi hau hf rfl 19 rfl rfl, ?_⟩
                try dsimp only
                rw [updE_fls 6 e10 rfl, updE_fls 6 e12 rfl]
                exact hc
            · intro E θ a w hD hi hp he hc
              have hf := he.h0
              replace hf := hf.more he 3 rfl onT
              refine stP hf rfl rfl rfl (pM rfl) fun a hf => ?_
              refine cNil ?_
              refine xThenN ?_
              intro ds u hau
              refine ⟨θ, he.put0 hi hau hf rfl 14 rfl rfl, ?_⟩
              exact hc
            · intro E θ a w hD hi hp he hc
              have hf := he.h0
              replace hf := hf.more he 7 rfl onT
              refine stE hf hc rfl rfl rfl (eLdN (vs := [.int .i64 i_1, .int .i64 (W (k + 1))]) ag_156 rfl rfl (cells_box (n := 2) m0 rfl)) fun a w hf hc => ?_
              refine cNil ?_
              refine xThenN ?_
              intro ds u hau
              refine ⟨θ, he.put0 hi hau hf rfl 15 rfl rfl, ?_⟩
              exact hc
            · intro E θ a w hD hi hp he hc
              have e7 := hp.of (k := 7) rfl
              have e8 := hp.of (k := 8) rfl
              have e13 := hD.f 1 rfl hi
              try dsimp only at hc
              rw [e13] at hc
              have hf := he.h0
              replace hf := hf.more he 14 rfl (onP e7)
              replace hf := hf.more he 15 rfl (onP e8)
              refine stE hf hc rfl rfl rfl (gLk (kv := kv_156) (enc := (fun x : daily_place => .agg #[.int .i64 x.reading, .int .i64 x.value])) (z0 := (⟨0, 0⟩ : daily_place)) (m := mp_2) (k := (i_1, W (k + 1))) m2 Try.underlying154 kt_156 zr_156 rfl rfl) fun a w hf hc => ?_
              refine cNil ?_
              refine xThenN ?_
              intro ds u hau
              refine ⟨θ, he.put0 hi hau hf rfl 16 rfl rfl, ?_⟩
              try dsimp only
              rw [updE_fls 9 e13 rfl]
              exact hc
            · intro E θ a w hD hi hp he hc
              have e0 := hp.of (k := 0) rfl
              have e1 := hp.of (k := 1) rfl
              have e12 := hD.f 2 rfl hi
              have e11 := hD.f 3 rfl hi
              try dsimp only at hc
              rw [hi, e12] at hc
              have hf := he.h0
              replace hf := hf.more he 8 rfl (onP e0)
              replace hf := hf.more he 9 rfl (onP e1)
              refine stGE (kv := kv_156) (enc := (Value.int .i64)) (z0 := 0) (m := mp_3) (k := (i_1, k)) hf hc rfl rfl Try.underlying153 kt_156 zr_3 rfl rfl (fun _ => u3) fun stp a w hf hc => ?_
              refine cNil ?_
              refine xThenN ?_
              intro ds u hau
              refine ⟨(setT θ 80 ⟨0, none, stp⟩), he.put hi hau hf rfl [11] ⟨⟨e11, rfl⟩, trivial⟩ ⟨qq, qq, qq, qq, qq, qq, qq, qq, qq, qq, qq, qq, qq, qq, qq, qq, qq, qq, trivial, qq, trivial⟩, ?_⟩
              try dsimp only
              rw [updE_self E 10, updE_fls 10 e12 rfl]
              exact hc
            · intro E θ a w hD hi hp he hc
              have e10 := hp.of (k := 10) rfl
              have hf := he.h0
              replace hf := hf.more he 17 rfl (onP e10)
              refine stP hf rfl rfl rfl (pX rfl rfl) fun a hf => ?_
              refine cNil ?_
              refine xThenN ?_
              intro ds u hau
              refine ⟨θ, he.put0 hi hau hf rfl 18 rfl rfl, ?_⟩
              exact hc
            · intro E θ a w hD hi hp he hc
              have e0 := hp.of (k := 0) rfl
              have e11 := hp.of (k := 11) rfl
              have e6 := hp.of (k := 6) rfl
              have e10 := hp.of (k := 10) rfl
              try dsimp only at hc
              rw [e10, hi] at hc
              have hf := he.h0
              replace hf := hf.more he 8 rfl (onP e0)
              replace hf := hf.more he 18 rfl (onP e11)
              replace hf := hf.more he 19 rfl (onP e6)
              refine stGS kt_156.inj (enc := (Value.int .i64)) (m := (setG mp_3 (i_1, k) ((mp_3 (i_1, k)).getD 0))) (k := (i_1, k)) (v := ((mp_3 (i_1, W (k + 1))).getD 0)) hf hc rfl rfl rfl rfl u3 fun w hc => ?_
              refine cNil ?_
              refine xThenN ?_
              intro ds u hau
              refine ⟨θ, he.stay0 hi hau hf rfl, ?_⟩
              try dsimp only
              rw [updE_tru 12 e10, updE_self E 12]
              exact hc
            · intro E θ a w hD hi hp he hc
              have e2 := hp.of (k := 2) rfl
              have e3 := hp.of (k := 3) rfl
              have e9 := hp.of (k := 9) rfl
              try dsimp only at hc
              rw [hi] at hc
              have hf := he.h0
              replace hf := hf.more he 10 rfl (onP e2)
              replace hf := hf.more he 11 rfl (onP e3)
              replace hf := hf.more he 16 rfl (onP e9)
              refine stGU (kv := kv_156) (enc := (fun x : daily_place => .agg #[.int .i64 x.reading, .int .i64 x.value])) (m := mp_2) (k := (i_1, k)) (v := ((mp_2 (i_1, W (k + 1))).getD (⟨0, 0⟩ : daily_place))) hf hc rfl Try.underlying154 kt_156 rfl rfl rfl u2 fun w hc => ?_
              refine cNil ?_
              refine xThenN ?_
              intro ds u hau
              refine ⟨θ, he.stay0 hi hau hf rfl, ?_⟩
              try dsimp only
              rw [updE_self E 13]
              exact hc
            · intro E θ a w hall he hc
              have hf := he.h0
              have e10 := hall 10 rfl
              have e12 := hall 12 rfl
              have e13 := hall 13 rfl
              replace hf := hf.more he 5 rfl (onT)
              replace hf := hf.more he 4 rfl (onT)
              replace hf := hf.more he 3 rfl (onT)
              replace hf := hf.more he 2 rfl (onT)
              replace hf := hf.more he 1 rfl (onT)
              replace hf := hf.more he 0 rfl (onT)
              try dsimp only at hc
              rw [e10, e12, e13] at hc
              exact ⟨hf.keep ⟨rfl, rfl, rfl, rfl, rfl, rfl, trivial⟩, hc⟩
            rintro a w ⟨hf, hc⟩
            replace hc := hc.drop k1
            replace hc := hc.drop k0
            exact hj34 (setG mp_2 (i_1, k) ((mp_2 (i_1, W (k + 1))).getD (⟨0, 0⟩ : daily_place))) (setG (setG mp_3 (i_1, k) ((mp_3 (i_1, k)).getD 0)) (i_1, k) ((mp_3 (i_1, W (k + 1))).getD 0)) (some ⟨g_1, 0, none⟩) c_7 _ _  (hf.keep ⟨rfl, rfl, rfl, rfl, rfl, rfl, trivial⟩) hc hF
        · replace hF := condF hb hF
          clear hb
          refine wp_exit ?_
          refine xThen ?_
          refine xThen ?_
          have he := Option.some.inj hF
          rw [← he] at hfin31
          refine cHit ?_
          exact hr31 _ _ _ hfin31 ⟨p_7, c_7, hf.keep ⟨rfl, rfl, rfl, rfl, rfl, rfl, trivial⟩, hc⟩
      · replace hF := condF hb hF
        clear hb
        refine wp_exit ?_
        refine xThen ?_
        refine xThen ?_
        have he := Option.some.inj hF
        rw [← he] at hfin15
        refine cHit ?_
        exact hr15 _ _ _ hfin15 ⟨p_3, c_3, hf.keep ⟨rfl, rfl, rfl, rfl, rfl, trivial⟩, hc⟩
    have ho9 : ∀ r, x9 = .out r → r = res := by
      rintro r rfl
      exact Option.some.inj hF
    replace hc := hc.nilRow 3 1
    refine cLoop N (loopW (S := S9) (x := x9) ?_ N (([] : List Int), 0) _ _ ⟨none, 0, hf.keep ⟨rfl, rfl, rfl, rfl, rfl, trivial⟩, hc⟩ hx9)
    clear hF hf hc
    rintro ⟨values, x⟩ st9 a w KB9 ⟨p_1, c_1, hf, hc⟩ hF hfin9 hK9
    unfold daily_Correct_b9 at hF
    refine wp_seq_k fun K38 h38 => ?_
    refine cReg ?_
    refine stP hf rfl rfl rfl (pLt rfl rfl) fun a hf => ?_
    refine cNil ?_
    refine h38 _ _ ?_
    refine wp_seq_k fun K39 h39 => ?_
    refine cCond (b := (decide (x < ((l.length : Nat) : Int)))) hf rfl (fun hb => ?_) (fun hb => ?_)
    · replace hF := condT hb hF
      clear hb
      refine wp_skip ?_
      refine h39 _ _ ?_
      refine wp_seq_k fun K40 h40 => ?_
      refine wp_block ?_
      refine wp_seq_k fun K41 h41 => ?_
      refine cReg ?_
      obtain ⟨e_4, he_4, hF⟩ := bnd_some hF
      obtain ⟨b_6, o_1, qa_3, qp_1⟩ := h_l.atm he_4
      refine stP hf rfl rfl rfl (pIA Try.underlying96 sz_102 rfl rfl qa_3) fun a hf => ?_
      refine stE hf hc rfl rfl rfl (eLdN (vs := [.int .i64 e_4.Value, .int .i64 e_4.Weight]) ag_102 rfl rfl (cells_pc qp_1 (n := 2) (o' := 0) rfl)) fun a w hf hc => ?_
      refine stAl (cs := [.int .i64 0, .int .i64 0]) hf hc rfl rfl zr_102 rfl fun b_7 a w hf hc => ?_
      refine stSt (vs := [.int .i64 e_4.Value, .int .i64 e_4.Weight]) hf hc rfl rfl rfl rfl sz_102 rfl rfl u0 fun w hc => ?_
      refine cNil ?_
      refine h41 _ _ ?_
      refine cReg ?_
      refine stP hf rfl rfl rfl (pM rfl) fun a hf => ?_
      refine stP hf rfl rfl rfl (pFA fa_102_0 rfl) fun a hf => ?_
      refine stE hf hc rfl rfl rfl (eLd1 sc_3 rfl (cell_box m0 rfl)) fun a w hf hc => ?_
      refine stBS (rows := ([e_4.Value] : List Int).map encI_i64) (vs := [(0, .int .i64 e_4.Value)]) hf hc rfl rfl sl_39 rfl ⟨rfl, rfl, rfl, trivial⟩ rfl rfl fun b_8 a w hf hc => ?_
      obtain ⟨un_1, hun_1, hF⟩ := bnd_some hF
      refine stApm (xs := values) (ys := ([e_4.Value] : List Int)) hf hc rfl rfl sl_39 rfl rfl rfl rfl rfl one_encI_i64 (src_row hc m0) (fun _ _ => u2) (by simpa using room_spec hun_1) fun p_9 c_9 a w hf hc => ?_
      refine stP hf rfl rfl rfl (pA rfl) fun a hf => ?_
      refine cNil ?_
      refine h40 _ _ ?_
      refine cReg ?_
      refine stP hf rfl rfl rfl (pAdd rfl rfl) fun a hf => ?_
      refine stP hf rfl rfl rfl (pM rfl) fun a hf => ?_
      refine cNil ?_
      replace hc := hc.drop k1
      replace hc := hc.drop k0
      exact hK9 ((values ++ [e_4.Value]), W (x + 1)) _ _ (Option.some.inj hF).symm ⟨p_9, c_9, hf.keep ⟨rfl, rfl, rfl, rfl, rfl, trivial⟩, hc⟩
    · replace hF := condF hb hF
      clear hb
      refine wp_exit ?_
      refine xThen ?_
      refine xThen ?_
      have he := Option.some.inj hF
      rw [← he] at hfin9
      refine cHit ?_
      exact hr9 _ _ _ hfin9 ⟨p_1, c_1, hf.keep ⟨rfl, rfl, rfl, rfl, rfl, trivial⟩, hc⟩

def daily_Fall_wrong_j3 (N : Nat) (e_1 : Int) : Option (Int) :=
  some e_1
def daily_Fall_wrong_j5 (N : Nat)  : Option (Int) :=
  daily_Fall_wrong_j3 N 4
def daily_Fall_wrong_j7 (N : Nat)  : Option (Int) :=
  daily_Fall_wrong_j3 N 9
def daily_Fall_wrong_j9 (N : Nat)  : Option (Int) :=
  daily_Fall_wrong_j3 N 2
def daily_Fall_wrong (N : Nat) (f_ : daily_Fall) (readings : Int) : Option (Int) :=
  cond (!(daily_in f_.A 0 (W (readings - 1))))
  (daily_Fall_wrong_j9 N)
  (cond (!(daily_in f_.B 0 (W (readings - 1))))
  (daily_Fall_wrong_j9 N)
  (cond (decide (f_.B ≤ f_.A))
  (daily_Fall_wrong_j7 N)
  (cond (!(daily_in f_.Weight 1 100))
  (daily_Fall_wrong_j5 N)
  (daily_Fall_wrong_j3 N 0))))
theorem daily_Fall_wrong_ok {N : Nat} {G : Pers} {Lf : List Ent} {w : World} (f_ : daily_Fall) (readings : Int)   (hc : Ctx G (Lf) w) {res : Int} (hF : daily_Fall_wrong N f_ readings = some res) : Calls Try.prog 92 #[.agg #[.int .i64 f_.A, .int .i64 f_.B, .int .i64 f_.Weight], .int .i64 readings] w (fun e w => e = .returned (.int .i64 res) ∧ Ctx G (Lf) w) := by
  unfold daily_Fall_wrong at hF
  refine fnIn (args := [.agg #[.int .i64 f_.A, .int .i64 f_.B, .int .i64 f_.Weight], .int .i64 readings]) Try.func92 rfl Try.ntmps92 rfl fun a hf => ?_
  refine wp_seq_k fun K1 h1 => ?_
  refine cReg ?_
  refine stBx (cs := [.int .i64 f_.A, .int .i64 f_.B, .int .i64 f_.Weight]) hf hc rfl rfl rfl rfl fun b_1 a w hf hc => ?_
  refine stP hf rfl rfl rfl (pA rfl) fun a hf => ?_
  refine cNil ?_
  refine h1 _ _ ?_
  refine wp_seq_k fun K2 h2 => ?_
  refine cReg ?_
  refine stP hf rfl rfl rfl (pA rfl) fun a hf => ?_
  refine cNil ?_
  refine h2 _ _ ?_
  refine wp_seq_k fun K3 h3 => ?_
  have hj3 : ∀ (e_1 : Int) a w, Has 32 a [(5, .int .i64 e_1)] → Ctx G (Lf) w → daily_Fall_wrong_j3 N e_1 = some res → K3 a w := by
    repeat (clear hF)
    repeat (clear hc)
    repeat (clear hf)
    intro e_1 a w hf hc hF
    unfold daily_Fall_wrong_j3 at hF
    refine h3 _ _ ?_
    refine wp_seq_k fun K4 h4 => ?_
    refine cReg ?_
    refine stP hf rfl rfl rfl (pM rfl) fun a hf => ?_
    refine stP hf rfl rfl rfl (pA rfl) fun a hf => ?_
    refine cNil ?_
    refine h4 _ _ ?_
    refine wp_ret ?_
    obtain rfl := Option.some.inj hF
    exact fnOut1 (by simp) rfl Try.results92 hf hc (show look _ 4 = _ from rfl) ⟨rfl, hc⟩
  refine wp_block ?_
  refine wp_seq_k fun K5 h5 => ?_
  have hj5 : ∀ a w, Has 32 a [] → Ctx G (Lf) w → daily_Fall_wrong_j5 N = some res → K5 a w := by
    repeat (clear hF)
    repeat (clear hc)
    repeat (clear hf)
    intro a w hf hc hF
    unfold daily_Fall_wrong_j5 at hF
    refine h5 _ _ ?_
    refine wp_seq_k fun K6 h6 => ?_
    refine cReg ?_
    refine stP hf rfl rfl rfl (pA rfl) fun a hf => ?_
    refine cNil ?_
    refine h6 _ _ ?_
    refine wp_exit ?_
    refine cHit ?_
    exact hj3 4 _ _  (hf.keep ⟨rfl, trivial⟩) hc hF
  refine wp_block ?_
  refine wp_seq_k fun K7 h7 => ?_
  have hj7 : ∀ a w, Has 32 a [] → Ctx G (Lf) w → daily_Fall_wrong_j7 N = some res → K7 a w := by
    repeat (clear hF)
    repeat (clear hc)
    repeat (clear hf)
    intro a w hf hc hF
    unfold daily_Fall_wrong_j7 at hF
    refine h7 _ _ ?_
    refine wp_seq_k fun K8 h8 => ?_
    refine cReg ?_
    refine stP hf rfl rfl rfl (pA rfl) fun a hf => ?_
    refine cNil ?_
    refine h8 _ _ ?_
    refine wp_exit ?_
    refine cMiss rfl ?_
    refine xThen ?_
    refine cHit ?_
    exact hj3 9 _ _  (hf.keep ⟨rfl, trivial⟩) hc hF
  refine wp_block ?_
  refine wp_seq_k fun K9 h9 => ?_
  have hj9 : ∀ a w, Has 32 a [] → Ctx G (Lf) w → daily_Fall_wrong_j9 N = some res → K9 a w := by
    repeat (clear hF)
    repeat (clear hc)
    repeat (clear hf)
    intro a w hf hc hF
    unfold daily_Fall_wrong_j9 at hF
    refine h9 _ _ ?_
    refine wp_seq_k fun K10 h10 => ?_
    refine cReg ?_
    refine stP hf rfl rfl rfl (pA rfl) fun a hf => ?_
    refine cNil ?_
    refine h10 _ _ ?_
    refine wp_exit ?_
    refine cMiss rfl ?_
    refine xThen ?_
    refine cMiss rfl ?_
    refine xThen ?_
    refine cHit ?_
    exact hj3 2 _ _  (hf.keep ⟨rfl, trivial⟩) hc hF
  refine wp_block ?_
  refine wp_thenK fun K11 h11 => ?_
  refine wp_block ?_
  refine wp_seq_k fun K12 h12 => ?_
  refine wp_seq_k fun K13 h13 => ?_
  refine wp_seq_k fun K14 h14 => ?_
  refine cReg ?_
  refine stP hf rfl rfl rfl (pFA fa_111_0 rfl) fun a hf => ?_
  refine stE hf hc rfl rfl rfl (eLd1 sc_3 rfl (cell_box m0 rfl)) fun a w hf hc => ?_
  refine stP hf rfl rfl rfl (pM rfl) fun a hf => ?_
  refine stP hf rfl rfl rfl (pSub rfl rfl) fun a hf => ?_
  refine stE hf hc rfl rfl rfl (eC (v := .bool (daily_in f_.A 0 (W (readings - 1)))) (vs := [.int .i64 f_.A, .int .i64 0, .int .i64 (W (readings - 1))]) (caps := []) en_60 rfl rfl rfl rfl (fun w hc => daily_in_ok f_.A 0 (W (readings - 1)) hc rfl)) fun a w hf hc => ?_
  refine stP hf rfl rfl rfl (pNot rfl) fun a hf => ?_
  refine stP hf rfl rfl rfl (pA rfl) fun a hf => ?_
  refine cNil ?_
  refine h14 _ _ ?_
  refine cCond (b := (!(daily_in f_.A 0 (W (readings - 1))))) hf rfl (fun hb => ?_) (fun hb => ?_)
  · replace hF := condT hb hF
    clear hb
    refine wp_exit ?_
    refine xThen ?_
    refine xThen ?_
    refine cHit ?_
    refine h11 _ _ ?_
    replace hc := hc.drop k0
    exact hj9  _ _  (hf.keep trivial) hc hF
  · replace hF := condF hb hF
    clear hb
    refine wp_skip ?_
    refine h13 _ _ ?_
    refine wp_seq_k fun K15 h15 => ?_
    refine wp_seq_k fun K16 h16 => ?_
    refine cReg ?_
    refine stP hf rfl rfl rfl (pFA fa_111_1 rfl) fun a hf => ?_
    refine stE hf hc rfl rfl rfl (eLd1 sc_3 rfl (cell_box m0 rfl)) fun a w hf hc => ?_
    refine stP hf rfl rfl rfl (pM rfl) fun a hf => ?_
    refine stP hf rfl rfl rfl (pSub rfl rfl) fun a hf => ?_
    refine stE hf hc rfl rfl rfl (eC (v := .bool (daily_in f_.B 0 (W (readings - 1)))) (vs := [.int .i64 f_.B, .int .i64 0, .int .i64 (W (readings - 1))]) (caps := []) en_60 rfl rfl rfl rfl (fun w hc => daily_in_ok f_.B 0 (W (readings - 1)) hc rfl)) fun a w hf hc => ?_
    refine stP hf rfl rfl rfl (pNot rfl) fun a hf => ?_
    refine stP hf rfl rfl rfl (pA rfl) fun a hf => ?_
    refine cNil ?_
    refine h16 _ _ ?_
    refine cCond (b := (!(daily_in f_.B 0 (W (readings - 1))))) hf rfl (fun hb => ?_) (fun hb => ?_)
    · replace hF := condT hb hF
      clear hb
      refine wp_exit ?_
      refine xThen ?_
      refine xThen ?_
      refine cMiss rfl ?_
      refine xThen ?_
      refine cHit ?_
      replace hc := hc.drop k0
      exact hj9  _ _  (hf.keep trivial) hc hF
    · replace hF := condF hb hF
      clear hb
      refine wp_skip ?_
      refine h15 _ _ ?_
      refine wp_seq_k fun K17 h17 => ?_
      refine wp_seq_k fun K18 h18 => ?_
      refine cReg ?_
      refine stP hf rfl rfl rfl (pFA fa_111_0 rfl) fun a hf => ?_
      refine stE hf hc rfl rfl rfl (eLd1 sc_3 rfl (cell_box m0 rfl)) fun a w hf hc => ?_
      refine stP hf rfl rfl rfl (pFA fa_111_1 rfl) fun a hf => ?_
      refine stE hf hc rfl rfl rfl (eLd1 sc_3 rfl (cell_box m0 rfl)) fun a w hf hc => ?_
      refine stP hf rfl rfl rfl (pGe rfl rfl) fun a hf => ?_
      refine stP hf rfl rfl rfl (pA rfl) fun a hf => ?_
      refine cNil ?_
      refine h18 _ _ ?_
      refine cCond (b := (decide (f_.B ≤ f_.A))) hf rfl (fun hb => ?_) (fun hb => ?_)
      · replace hF := condT hb hF
        clear hb
        refine wp_exit ?_
        refine xThen ?_
        refine xThen ?_
        refine cMiss rfl ?_
        refine xThen ?_
        refine cMiss rfl ?_
        refine xThen ?_
        refine cHit ?_
        replace hc := hc.drop k0
        exact hj7  _ _  (hf.keep trivial) hc hF
      · replace hF := condF hb hF
        clear hb
        refine wp_skip ?_
        refine h17 _ _ ?_
        refine wp_seq_k fun K19 h19 => ?_
        refine cReg ?_
        refine stP hf rfl rfl rfl (pFA fa_111_2 rfl) fun a hf => ?_
        refine stE hf hc rfl rfl rfl (eLd1 sc_3 rfl (cell_box m0 rfl)) fun a w hf hc => ?_
        refine stE hf hc rfl rfl rfl (eC (v := .bool (daily_in f_.Weight 1 100)) (vs := [.int .i64 f_.Weight, .int .i64 1, .int .i64 100]) (caps := []) en_60 rfl rfl rfl rfl (fun w hc => daily_in_ok f_.Weight 1 100 hc rfl)) fun a w hf hc => ?_
        refine stP hf rfl rfl rfl (pNot rfl) fun a hf => ?_
        refine stP hf rfl rfl rfl (pA rfl) fun a hf => ?_
        refine cNil ?_
        refine h19 _ _ ?_
        refine cCond (b := (!(daily_in f_.Weight 1 100))) hf rfl (fun hb => ?_) (fun hb => ?_)
        · replace hF := condT hb hF
          clear hb
          refine wp_exit ?_
          refine xThen ?_
          refine cMiss rfl ?_
          refine xThen ?_
          refine cMiss rfl ?_
          refine xThen ?_
          refine cMiss rfl ?_
          refine xThen ?_
          refine cHit ?_
          replace hc := hc.drop k0
          exact hj5  _ _  (hf.keep trivial) hc hF
        · replace hF := condF hb hF
          clear hb
          refine wp_skip ?_
          refine h12 _ _ ?_
          refine wp_exit ?_
          refine cMiss rfl ?_
          refine xThen ?_
          refine cMiss rfl ?_
          refine xThen ?_
          refine cMiss rfl ?_
          refine xThen ?_
          refine cMiss rfl ?_
          refine xThen ?_
          refine cHit ?_
          replace hc := hc.drop k0
          exact hj3 0 _ _  (hf.keep ⟨rfl, trivial⟩) hc hF

def daily_Proves_b14 (N : Nat) (l : List daily_Reading) (x_1 : Nat → Int) (x_2 : Int) : Option (Step (Int) (Int × Int)) :=
  cond (decide (x_2 < ((l.length : Nat) : Int)))
  (Option.bind (getI l x_2) fun e_2 =>
  Option.bind (inR x_2 30) fun un =>
  cond (decide (e_2.Weight < (x_1 x_2.toNat)))
  (some (.ret (0, 11)))
  (some (.cont (W (x_2 + 1)))))
  (some (.brk x_2))
def daily_Proves_b11 (N : Nat) (l : List daily_Reading) (falls : List daily_Fall) (out : Int) (x : Int) (x_1 : Nat → Int) : Option (Step (Int × Int × (Nat → Int)) (Int × Int)) :=
  cond (decide (x < ((falls.length : Nat) : Int)))
  (Option.bind (getI falls x) fun e_3 =>
  Option.bind (daily_Fall_wrong N e_3 ((l.length : Nat) : Int)) fun r_1 =>
  cond (r_1 != 0)
  (some (.ret (0, r_1)))
  (Option.bind (inR e_3.A 30) fun un_1 =>
  Option.bind (inR e_3.A 30) fun un_2 =>
  Option.bind (inR e_3.B 30) fun un_3 =>
  Option.bind (inR e_3.B 30) fun un_4 =>
  Option.bind (getI l e_3.A) fun e_4 =>
  Option.bind (getI l e_3.B) fun e_5 =>
  some (.cont (W (out + (W (e_3.Weight * (W (e_4.Value - e_5.Value))))), W (x + 1), (setF (setF x_1 e_3.A.toNat (W ((x_1 e_3.A.toNat) + e_3.Weight))) e_3.B.toNat (W (((setF x_1 e_3.A.toNat (W ((x_1 e_3.A.toNat) + e_3.Weight))) e_3.B.toNat) + e_3.Weight)))))))
  (some (.brk (out, x, x_1)))
def daily_Proves_j3 (N : Nat) (l : List daily_Reading) (falls : List daily_Fall) (e_1 : Int) : Option (Int × Int) :=
  cond (e_1 != 0)
  (some (0, e_1))
  (Option.bind (loopO (fun s11 => daily_Proves_b11 N l falls s11.1 s11.2.1 s11.2.2) N (0, 0, (fun _ => 0))) fun x11 =>
  exK x11 (fun s11 => Option.bind (loopO (fun s14 => daily_Proves_b14 N l s11.2.2 s14) N 0) fun x14 =>
  exK x14 (fun s14 => some (s11.1, 0)) some) some)
def daily_Proves (N : Nat) (l : List daily_Reading) (falls : List daily_Fall) : Option (Int × Int) :=
  Option.bind (daily_CheckReadings N l) fun r =>
  cond ((r == 0) && (decide (900 < ((falls.length : Nat) : Int))))
  (daily_Proves_j3 N l falls 3)
  (daily_Proves_j3 N l falls r)
theorem daily_Proves_ok {N : Nat} {G : Pers} {Lf : List Ent} {w : World} (l : List daily_Reading) (falls : List daily_Fall) {l_p : Option Addr} {l_c : Nat} {falls_p : Option Addr} {falls_c : Nat} (h_l : Rd G 2 l_p l_c (l.map enc_daily_Reading)) (h_falls : Rd G 3 falls_p falls_c (falls.map enc_daily_Fall)) (hc : Ctx G (Lf) w) {res : Int × Int} (hF : daily_Proves N l falls = some res) : Calls Try.prog 54 #[.slice l_p l.length l_c, .slice falls_p falls.length falls_c] w (fun e w => e = .returned (.tuple #[.int .i64 res.1, .int .i64 res.2]) ∧ Ctx G (Lf) w) := by
  unfold daily_Proves at hF
  refine fnIn (args := [.slice l_p l.length l_c, .slice falls_p falls.length falls_c]) Try.func54 rfl Try.ntmps54 rfl fun a hf => ?_
  refine wp_seq_k fun K1 h1 => ?_
  refine cReg ?_
  refine stP hf rfl rfl rfl (pA rfl) fun a hf => ?_
  refine stP hf rfl rfl rfl (pA rfl) fun a hf => ?_
  refine cNil ?_
  refine h1 _ _ ?_
  refine wp_seq_k fun K2 h2 => ?_
  refine cReg ?_
  refine stP hf rfl rfl rfl (pM rfl) fun a hf => ?_
  obtain ⟨r, hr, hF⟩ := bnd_some hF
  refine stE hf hc rfl rfl rfl (eC (v := .int .i64 r) (vs := [.slice l_p l.length l_c]) (caps := []) en_87 rfl rfl rfl rfl (fun w hc => daily_CheckReadings_ok l h_l hc hr)) fun a w hf hc => ?_
  refine stP hf rfl rfl rfl (pA rfl) fun a hf => ?_
  refine cNil ?_
  refine h2 _ _ ?_
  refine wp_seq_k fun K3 h3 => ?_
  have hj3 : ∀ (e_1 : Int) a w, Has 89 a [(0, .slice l_p l.length l_c), (1, .slice falls_p falls.length falls_c), (6, .int .i64 e_1)] → Ctx G (Lf) w → daily_Proves_j3 N l falls e_1 = some res → K3 a w := by
    repeat (clear hF)
    repeat (clear hc)
    repeat (clear hf)
    intro e_1 a w hf hc hF
    unfold daily_Proves_j3 at hF
    refine h3 _ _ ?_
    refine wp_seq_k fun K4 h4 => ?_
    refine wp_seq_k fun K5 h5 => ?_
    refine cReg ?_
    refine stP hf rfl rfl rfl (pM rfl) fun a hf => ?_
    refine stP hf rfl rfl rfl (pNe rfl rfl) fun a hf => ?_
    refine cNil ?_
    refine h5 _ _ ?_
    refine cCond (b := (e_1 != 0)) hf rfl (fun hb => ?_) (fun hb => ?_)
    · replace hF := condT hb hF
      clear hb
      refine wp_seq_k fun K6 h6 => ?_
      refine cReg ?_
      refine stP hf rfl rfl rfl (pM rfl) fun a hf => ?_
      refine stP hf rfl rfl rfl (pA rfl) fun a hf => ?_
      refine stP hf rfl rfl rfl (pA rfl) fun a hf => ?_
      refine cNil ?_
      refine h6 _ _ ?_
      refine wp_ret ?_
      refine xThenR ?_
      obtain rfl := Option.some.inj hF
      exact fnOut2 (by simp) rfl Try.results54 hf hc (show look _ 4 = _ from rfl) (show look _ 5 = _ from rfl) ⟨rfl, hc⟩
    · replace hF := condF hb hF
      clear hb
      refine wp_skip ?_
      refine h4 _ _ ?_
      refine wp_seq_k fun K7 h7 => ?_
      refine cReg ?_
      refine stP hf rfl rfl rfl (pA rfl) fun a hf => ?_
      refine cNil ?_
      refine h7 _ _ ?_
      refine wp_seq_k fun K8 h8 => ?_
      refine cReg ?_
      refine stAl (cs := (catc [] 30 encI_i64 (fun _ => 0) [])) hf hc rfl rfl zr_157 rfl fun b_1 a w hf hc => ?_
      refine cNil ?_
      refine h8 _ _ ?_
      refine wp_seq_k fun K9 h9 => ?_
      refine wp_seq_k fun K10 h10 => ?_
      refine cReg ?_
      refine stP hf rfl rfl rfl (pM rfl) fun a hf => ?_
      refine stP hf rfl rfl rfl (pLenS Try.underlying103 rfl) fun a hf => ?_
      refine stP hf rfl rfl rfl (pM rfl) fun a hf => ?_
      refine cNil ?_
      refine h10 _ _ ?_
      refine wp_block ?_
      obtain ⟨x11, hx11, hF⟩ := bnd_some hF
      let S11 : (Int × Int × (Nat → Int)) → Act → World → Prop := (fun (zz : Int × Int × (Nat → Int)) a w => Has 89 a [(0, .slice l_p l.length l_c), (7, .int .i64 zz.1), (8, .pointer (some ⟨b_1, 0, none⟩)), (26, .slice falls_p falls.length falls_c), (27, .int .i64 ((falls.length : Nat) : Int)), (28, .int .i64 zz.2.1)] ∧ Ctx G (.box b_1 (catc [] 30 encI_i64 zz.2.2 []) 157 :: Lf) w)
      have hr11 : ∀ (zz : Int × Int × (Nat → Int)) a w, x11 = .go zz → S11 zz a w → K9 a w := by
        rintro ⟨out, x, x_1⟩ a w rfl ⟨hf, hc⟩
        replace hF := exK_go hF
        refine h9 _ _ ?_
        refine wp_seq_k fun K12 h12 => ?_
        refine wp_seq_k fun K13 h13 => ?_
        refine cReg ?_
        refine stP hf rfl rfl rfl (pM rfl) fun a hf => ?_
        refine stP hf rfl rfl rfl (pLenS Try.underlying96 rfl) fun a hf => ?_
        refine stP hf rfl rfl rfl (pM rfl) fun a hf => ?_
        refine cNil ?_
        refine h13 _ _ ?_
        refine wp_block ?_
        obtain ⟨x14, hx14, hF⟩ := bnd_some hF
        let S14 : Int → Act → World → Prop := (fun (zz : Int) a w => Has 89 a [(7, .int .i64 out), (8, .pointer (some ⟨b_1, 0, none⟩)), (74, .slice l_p l.length l_c), (75, .int .i64 ((l.length : Nat) : Int)), (76, .int .i64 zz)] ∧ Ctx G (.box b_1 (catc [] 30 encI_i64 x_1 []) 157 :: Lf) w)
        have hr14 : ∀ (zz : Int) a w, x14 = .go zz → S14 zz a w → K12 a w := by
          rintro x_2 a w rfl ⟨hf, hc⟩
          replace hF := exK_go hF
          refine h12 _ _ ?_
          refine wp_seq_k fun K15 h15 => ?_
          refine cReg ?_
          refine stP hf rfl rfl rfl (pM rfl) fun a hf => ?_
          refine stP hf rfl rfl rfl (pA rfl) fun a hf => ?_
          refine stP hf rfl rfl rfl (pA rfl) fun a hf => ?_
          refine cNil ?_
          refine h15 _ _ ?_
          refine wp_ret ?_
          obtain rfl := Option.some.inj hF
          replace hc := hc.drop k0
          exact fnOut2 (by simp) rfl Try.results54 hf hc (show look _ 4 = _ from rfl) (show look _ 5 = _ from rfl) ⟨rfl, hc⟩
        have ho14 : ∀ r, x14 = .out r → r = res := by
          rintro r rfl
          exact Option.some.inj hF
        refine cLoop N (loopW (S := S14) (x := x14) ?_ N 0 _ _ ⟨hf.keep ⟨rfl, rfl, rfl, rfl, rfl, trivial⟩, hc⟩ hx14)
        clear hF hf hc
        rintro x_2 st14 a w KB14 ⟨hf, hc⟩ hF hfin14 hK14
        unfold daily_Proves_b14 at hF
        refine wp_seq_k fun K16 h16 => ?_
        refine cReg ?_
        refine stP hf rfl rfl rfl (pLt rfl rfl) fun a hf => ?_
        refine cNil ?_
        refine h16 _ _ ?_
        refine wp_seq_k fun K17 h17 => ?_
        refine cCond (b := (decide (x_2 < ((l.length : Nat) : Int)))) hf rfl (fun hb => ?_) (fun hb => ?_)
        · replace hF := condT hb hF
          clear hb
          refine wp_skip ?_
          refine h17 _ _ ?_
          refine wp_seq_k fun K18 h18 => ?_
          refine wp_block ?_
          refine wp_seq_k fun K19 h19 => ?_
          refine cReg ?_
          refine stP hf rfl rfl rfl (pM rfl) fun a hf => ?_
          obtain ⟨e_2, he_2, hF⟩ := bnd_some hF
          obtain ⟨b_2, o, qa, qp⟩ := h_l.atm he_2
          refine stP hf rfl rfl rfl (pIA Try.underlying96 sz_102 rfl rfl qa) fun a hf => ?_
          refine stE hf hc rfl rfl rfl (eLdN (vs := [.int .i64 e_2.Value, .int .i64 e_2.Weight]) ag_102 rfl rfl (cells_pc qp (n := 2) (o' := 0) rfl)) fun a w hf hc => ?_
          refine stAl (cs := [.int .i64 0, .int .i64 0]) hf hc rfl rfl zr_102 rfl fun b_3 a w hf hc => ?_
          refine stP hf rfl rfl rfl (pA rfl) fun a hf => ?_
          refine stSt (vs := [.int .i64 e_2.Value, .int .i64 e_2.Weight]) hf hc rfl rfl rfl rfl sz_102 rfl rfl u0 fun w hc => ?_
          refine cNil ?_
          refine h19 _ _ ?_
          refine wp_seq_k fun K20 h20 => ?_
          obtain ⟨un, hun, hF⟩ := bnd_some hF
          refine cQ hc follows_mx (by kernel_rfl) ?_
          refine qE hf rfl rfl rfl (Pu.ev (pM rfl)) fun a hf => ?_
          refine qE hf rfl rfl rfl (Pu.ev (pIAA Try.underlying157 sz_3 rfl rfl (inR_spec hun).1 (inR_spec hun).2)) fun a hf => ?_
          refine qE hf rfl rfl rfl (eLd1 sc_3 rfl (cell_arr (j := 0) m1 (fun x => (one_encI_i64 x).1) rfl hun rfl)) fun a hf => ?_
          refine qE hf rfl rfl rfl (Pu.ev (pFA fa_102_1 rfl)) fun a hf => ?_
          refine qE hf rfl rfl rfl (eLd1 sc_3 rfl (cell_box m0 rfl)) fun a hf => ?_
          refine qE hf rfl rfl rfl (Pu.ev (pGt rfl rfl)) fun a hf => ?_
          intro w hc
          refine h20 _ _ ?_
          refine cCond (b := (decide (e_2.Weight < (x_1 x_2.toNat)))) hf rfl (fun hb => ?_) (fun hb => ?_)
          · replace hF := condT hb hF
            clear hb
            refine wp_seq_k fun K21 h21 => ?_
            refine cReg ?_
            refine stP hf rfl rfl rfl (pA rfl) fun a hf => ?_
            refine stP hf rfl rfl rfl (pA rfl) fun a hf => ?_
            refine cNil ?_
            refine h21 _ _ ?_
            refine wp_ret ?_
            refine xBlkR ?_
            refine xThenR ?_
            refine xThenR ?_
            have he := Option.some.inj hF
            rw [← he] at hfin14
            replace hF := ho14 _ hfin14
            refine xBlkR ?_
            refine xThenR ?_
            obtain rfl := hF
            replace hc := hc.drop k1
            replace hc := hc.drop k0
            exact fnOut2 (by simp) rfl Try.results54 hf hc (show look _ 4 = _ from rfl) (show look _ 5 = _ from rfl) ⟨rfl, hc⟩
          · replace hF := condF hb hF
            clear hb
            refine wp_skip ?_
            refine h18 _ _ ?_
            refine cReg ?_
            refine stP hf rfl rfl rfl (pAdd rfl rfl) fun a hf => ?_
            refine stP hf rfl rfl rfl (pM rfl) fun a hf => ?_
            refine cNil ?_
            replace hc := hc.drop k0
            exact hK14 (W (x_2 + 1)) _ _ (Option.some.inj hF).symm ⟨hf.keep ⟨rfl, rfl, rfl, rfl, rfl, trivial⟩, hc⟩
        · replace hF := condF hb hF
          clear hb
          refine wp_exit ?_
          refine xThen ?_
          refine xThen ?_
          have he := Option.some.inj hF
          rw [← he] at hfin14
          refine cHit ?_
          exact hr14 _ _ _ hfin14 ⟨hf.keep ⟨rfl, rfl, rfl, rfl, rfl, trivial⟩, hc⟩
      have ho11 : ∀ r, x11 = .out r → r = res := by
        rintro r rfl
        exact Option.some.inj hF
      refine cLoop N (loopW (S := S11) (x := x11) ?_ N (0, 0, (fun _ => 0)) _ _ ⟨hf.keep ⟨rfl, rfl, rfl, rfl, rfl, rfl, trivial⟩, hc⟩ hx11)
      clear hF hf hc
      rintro ⟨out, x, x_1⟩ st11 a w KB11 ⟨hf, hc⟩ hF hfin11 hK11
      unfold daily_Proves_b11 at hF
      refine wp_seq_k fun K22 h22 => ?_
      refine cReg ?_
      refine stP hf rfl rfl rfl (pLt rfl rfl) fun a hf => ?_
      refine cNil ?_
      refine h22 _ _ ?_
      refine wp_seq_k fun K23 h23 => ?_
      refine cCond (b := (decide (x < ((falls.length : Nat) : Int)))) hf rfl (fun hb => ?_) (fun hb => ?_)
      · replace hF := condT hb hF
        clear hb
        refine wp_skip ?_
        refine h23 _ _ ?_
        refine wp_seq_k fun K24 h24 => ?_
        refine wp_block ?_
        refine wp_seq_k fun K25 h25 => ?_
        refine cReg ?_
        obtain ⟨e_3, he_3, hF⟩ := bnd_some hF
        obtain ⟨b_4, o_1, qa_1, qp_1⟩ := h_falls.atm he_3
        refine stP hf rfl rfl rfl (pIA Try.underlying103 sz_111 rfl rfl qa_1) fun a hf => ?_
        refine stE hf hc rfl rfl rfl (eLdN (vs := [.int .i64 e_3.A, .int .i64 e_3.B, .int .i64 e_3.Weight]) ag_111 rfl rfl (cells_pc qp_1 (n := 3) (o' := 0) rfl)) fun a w hf hc => ?_
        refine stAl (cs := [.int .i64 0, .int .i64 0, .int .i64 0]) hf hc rfl rfl zr_111 rfl fun b_5 a w hf hc => ?_
        refine stSt (vs := [.int .i64 e_3.A, .int .i64 e_3.B, .int .i64 e_3.Weight]) hf hc rfl rfl rfl rfl sz_111 rfl rfl u0 fun w hc => ?_
        refine cNil ?_
        refine h25 _ _ ?_
        refine wp_seq_k fun K26 h26 => ?_
        refine wp_seq_k fun K27 h27 => ?_
        refine cReg ?_
        refine stE hf hc rfl rfl rfl (eLdN (vs := [.int .i64 e_3.A, .int .i64 e_3.B, .int .i64 e_3.Weight]) ag_111 rfl rfl (cells_box (n := 3) m0 rfl)) fun a w hf hc => ?_
        refine stP hf rfl rfl rfl (pM rfl) fun a hf => ?_
        refine stP hf rfl rfl rfl (pLenS Try.underlying96 rfl) fun a hf => ?_
        obtain ⟨r_1, hr_1, hF⟩ := bnd_some hF
        refine stE hf hc rfl rfl rfl (eC (v := .int .i64 r_1) (vs := [.agg #[.int .i64 e_3.A, .int .i64 e_3.B, .int .i64 e_3.Weight], .int .i64 ((l.length : Nat) : Int)]) (caps := []) en_92 rfl rfl rfl rfl (fun w hc => daily_Fall_wrong_ok e_3 ((l.length : Nat) : Int) hc hr_1)) fun a w hf hc => ?_
        refine stP hf rfl rfl rfl (pA rfl) fun a hf => ?_
        refine cNil ?_
        refine h27 _ _ ?_
        refine wp_seq_k fun K28 h28 => ?_
        refine cReg ?_
        refine stP hf rfl rfl rfl (pM rfl) fun a hf => ?_
        refine stP hf rfl rfl rfl (pNe rfl rfl) fun a hf => ?_
        refine cNil ?_
        refine h28 _ _ ?_
        refine cCond (b := (r_1 != 0)) hf rfl (fun hb => ?_) (fun hb => ?_)
        · replace hF := condT hb hF
          clear hb
          refine wp_seq_k fun K29 h29 => ?_
          refine cReg ?_
          refine stP hf rfl rfl rfl (pM rfl) fun a hf => ?_
          refine stP hf rfl rfl rfl (pA rfl) fun a hf => ?_
          refine stP hf rfl rfl rfl (pA rfl) fun a hf => ?_
          refine cNil ?_
          refine h29 _ _ ?_
          refine wp_ret ?_
          refine xThenR ?_
          refine xBlkR ?_
          refine xThenR ?_
          refine xThenR ?_
          have he := Option.some.inj hF
          rw [← he] at hfin11
          replace hF := ho11 _ hfin11
          refine xBlkR ?_
          refine xThenR ?_
          obtain rfl := hF
          replace hc := hc.drop k1
          replace hc := hc.drop k0
          exact fnOut2 (by simp) rfl Try.results54 hf hc (show look _ 4 = _ from rfl) (show look _ 5 = _ from rfl) ⟨rfl, hc⟩
        · replace hF := condF hb hF
          clear hb
          refine wp_skip ?_
          refine h26 _ _ ?_
          refine wp_seq_k fun K30 h30 => ?_
          obtain ⟨un_1, hun_1, hF⟩ := bnd_some hF
          obtain ⟨un_2, hun_2, hF⟩ := bnd_some hF
          refine regionE (fun θ => [⟨none, none, 0, .slice l_p l.length l_c⟩, ⟨none, none, 7, .int .i64 out⟩, ⟨none, none, 8, .pointer (some ⟨b_1, 0, none⟩)⟩, ⟨none, none, 10, .pointer (some ⟨b_5, 0, none⟩)⟩, ⟨none, none, 26, .slice falls_p falls.length falls_c⟩, ⟨none, none, 27, .int .i64 ((falls.length : Nat) : Int)⟩, ⟨none, none, 28, .int .i64 x⟩, ⟨some 0, none, 39, .pointer (some ⟨b_5, 0, none⟩)⟩, ⟨some 1, none, 40, .int .i64 e_3.A⟩, ⟨some 2, none, 41, .pointer (some ⟨b_1, 0 + e_3.A.toNat * 1, none⟩)⟩, ⟨some 3, none, 42, .int .i64 (x_1 e_3.A.toNat)⟩, ⟨some 4, none, 43, .pointer (some ⟨b_5, 2, none⟩)⟩, ⟨some 5, none, 44, .int .i64 e_3.Weight⟩, ⟨some 6, none, 45, .int .i64 (W ((x_1 e_3.A.toNat) + e_3.Weight))⟩, ⟨some 7, none, 46, .pointer (some ⟨b_1, 0 + e_3.A.toNat * 1, none⟩)⟩]) (fun E θ => .box b_5 [.int .i64 e_3.A, .int .i64 e_3.B, .int .i64 e_3.Weight] 111 :: (bif E 8 then .box b_1 (catc [] 30 encI_i64 (setF x_1 e_3.A.toNat (W ((x_1 e_3.A.toNat) + e_3.Weight))) []) 157 else .box b_1 (catc [] 30 encI_i64 x_1 []) 157) :: Lf) [(8, 3)] (fun a w => Has 89 a [(0, .slice l_p l.length l_c), (7, .int .i64 out), (8, .pointer (some ⟨b_1, 0, none⟩)), (10, .pointer (some ⟨b_5, 0, none⟩)), (26, .slice falls_p falls.length falls_c), (27, .int .i64 ((falls.length : Nat) : Int)), (28, .int .i64 x)] ∧ Ctx G (.box b_5 [.int .i64 e_3.A, .int .i64 e_3.B, .int .i64 e_3.Weight] 111 :: .box b_1 (catc [] 30 encI_i64 (setF x_1 e_3.A.toNat (W ((x_1 e_3.A.toNat) + e_3.Weight))) []) 157 :: Lf) w) follows_mx (by kernel_rfl) (by kernel_rfl) (HasE.of hf ⟨rfl, rfl, rfl, rfl, rfl, rfl, rfl, trivial, trivial, trivial, trivial, trivial, trivial, trivial, trivial, trivial⟩) hc ⟨?_, ?_, ?_, ?_, ?_, ?_, ?_, ?_, ?_, trivial⟩ ?_ ?_
          · intro E θ a w hD hi hp he hc
            have hf := he.h0
            replace hf := hf.more he 3 rfl onT
            refine stP hf rfl rfl rfl (pFA fa_111_0 rfl) fun a hf => ?_
            refine cNil ?_
            refine xThenN ?_
            intro ds u hau
            refine ⟨θ, he.put0 hi hau hf rfl 7 rfl rfl, ?_⟩
            exact hc
          · intro E θ a w hD hi hp he hc
            have e0 := hp.of (k := 0) rfl
            have hf := he.h0
            replace hf := hf.more he 7 rfl (onP e0)
            refine stE hf hc rfl rfl rfl (eLd1 sc_3 rfl (cell_box m0 rfl)) fun a w hf hc => ?_
            refine cNil ?_
            refine xThenN ?_
            intro ds u hau
            refine ⟨θ, he.put0 hi hau hf rfl 8 rfl rfl, ?_⟩
            exact hc
          · intro E θ a w hD hi hp he hc
            have e1 := hp.of (k := 1) rfl
            have hf := he.h0
            replace hf := hf.more he 2 rfl onT
            replace hf := hf.more he 8 rfl (onP e1)
            refine stP hf rfl rfl rfl (pIAA Try.underlying157 sz_3 rfl rfl (inR_spec hun_1).1 (inR_spec hun_1).2) fun a hf => ?_
            refine cNil ?_
            refine xThenN ?_
            intro ds u hau
            refine ⟨θ, he.put0 hi hau hf rfl 9 rfl rfl, ?_⟩
            exact hc
          · intro E θ a w hD hi hp he hc
            have e2 := hp.of (k := 2) rfl
            have e8 := hD.f 0 rfl hi
            try dsimp only at hc
            rw [e8] at hc
            have hf := he.h0
            replace hf := hf.more he 9 rfl (onP e2)
            refine stE hf hc rfl rfl rfl (eLd1 sc_3 rfl (cell_arr (j := 0) m1 (fun x => (one_encI_i64 x).1) rfl hun_1 rfl)) fun a w hf hc => ?_
            refine cNil ?_
            refine xThenN ?_
            intro ds u hau
            refine ⟨θ, he.put0 hi hau hf rfl 10 rfl rfl, ?_⟩
            try dsimp only
            rw [updE_fls 3 e8 rfl]
            exact hc
          · intro E θ a w hD hi hp he hc
            have hf := he.h0
            replace hf := hf.more he 3 rfl onT
            refine stP hf rfl rfl rfl (pFA fa_111_2 rfl) fun a hf => ?_
            refine cNil ?_
            refine xThenN ?_
            intro ds u hau
            refine ⟨θ, he.put0 hi hau hf rfl 11 rfl rfl, ?_⟩
            exact hc
          · intro E θ a w hD hi hp he hc
            have e4 := hp.of (k := 4) rfl
            have hf := he.h0
            replace hf := hf.more he 11 rfl (onP e4)
            refine stE hf hc rfl rfl rfl (eLd1 sc_3 rfl (cell_box m0 rfl)) fun a w hf hc => ?_
            refine cNil ?_
            refine xThenN ?_
            intro ds u hau
            refine ⟨θ, he.put0 hi hau hf rfl 12 rfl rfl, ?_⟩
            exact hc
          · intro E θ a w hD hi hp he hc
            have e3 := hp.of (k := 3) rfl
            have e5 := hp.of (k := 5) rfl
            have hf := he.h0
            replace hf := hf.more he 10 rfl (onP e3)
            replace hf := hf.more he 12 rfl (onP e5)
            refine stP hf rfl rfl rfl (pAdd rfl rfl) fun a hf => ?_
            refine cNil ?_
            refine xThenN ?_
            intro ds u hau
            refine ⟨θ, he.put0 hi hau hf rfl 13 rfl rfl, ?_⟩
            exact hc
          · intro E θ a w hD hi hp he hc
            have e1 := hp.of (k := 1) rfl
            have hf := he.h0
            replace hf := hf.more he 2 rfl onT
            replace hf := hf.more he 8 rfl (onP e1)
            refine stP hf rfl rfl rfl (pIAA Try.underlying157 sz_3 rfl rfl (inR_spec hun_2).1 (inR_spec hun_2).2) fun a hf => ?_
            refine cNil ?_
            refine xThenN ?_
            intro ds u hau
            refine ⟨θ, he.put0 hi hau hf rfl 14 rfl rfl, ?_⟩
            exact hc
          · intro E θ a w hD hi hp he hc
            have e6 := hp.of (k := 6) rfl
            have e7 := hp.of (k := 7) rfl
            try dsimp only at hc
            rw [hi] at hc
            have hf := he.h0
            replace hf := hf.more he 13 rfl (onP e6)
            replace hf := hf.more he 14 rfl (onP e7)
            refine stAr (vs := [.int .i64 (W ((x_1 e_3.A.toNat) + e_3.Weight))]) (o' := 0) (z := W ((x_1 e_3.A.toNat) + e_3.Weight)) hf hc rfl rfl rfl rfl sz_3 rfl (fun x => (one_encI_i64 x).1) rfl hun_2 rfl rfl u1 fun w hc => ?_
            refine cNil ?_
            refine xThenN ?_
            intro ds u hau
            refine ⟨θ, he.stay0 hi hau hf rfl, ?_⟩
            try dsimp only
            rw [updE_self E 8]
            exact hc
          · intro E θ a w hall he hc
            have hf := he.h0
            have e8 := hall 8 rfl
            replace hf := hf.more he 6 rfl (onT)
            replace hf := hf.more he 5 rfl (onT)
            replace hf := hf.more he 4 rfl (onT)
            replace hf := hf.more he 3 rfl (onT)
            replace hf := hf.more he 2 rfl (onT)
            replace hf := hf.more he 1 rfl (onT)
            replace hf := hf.more he 0 rfl (onT)
            try dsimp only at hc
            rw [e8] at hc
            exact ⟨hf.keep ⟨rfl, rfl, rfl, rfl, rfl, rfl, rfl, trivial⟩, hc⟩
          rintro a w ⟨hf, hc⟩
          refine h30 _ _ ?_
          refine wp_seq_k fun K31 h31 => ?_
          obtain ⟨un_3, hun_3, hF⟩ := bnd_some hF
          obtain ⟨un_4, hun_4, hF⟩ := bnd_some hF
          refine regionE (fun θ => [⟨none, none, 0, .slice l_p l.length l_c⟩, ⟨none, none, 7, .int .i64 out⟩, ⟨none, none, 8, .pointer (some ⟨b_1, 0, none⟩)⟩, ⟨none, none, 10, .pointer (some ⟨b_5, 0, none⟩)⟩, ⟨none, none, 26, .slice falls_p falls.length falls_c⟩, ⟨none, none, 27, .int .i64 ((falls.length : Nat) : Int)⟩, ⟨none, none, 28, .int .i64 x⟩, ⟨some 0, none, 47, .pointer (some ⟨b_5, 1, none⟩)⟩, ⟨some 1, none, 48, .int .i64 e_3.B⟩, ⟨some 2, none, 49, .pointer (some ⟨b_1, 0 + e_3.B.toNat * 1, none⟩)⟩, ⟨some 3, none, 50, .int .i64 ((setF x_1 e_3.A.toNat (W ((x_1 e_3.A.toNat) + e_3.Weight))) e_3.B.toNat)⟩, ⟨some 4, none, 51, .pointer (some ⟨b_5, 2, none⟩)⟩, ⟨some 5, none, 52, .int .i64 e_3.Weight⟩, ⟨some 6, none, 53, .int .i64 (W (((setF x_1 e_3.A.toNat (W ((x_1 e_3.A.toNat) + e_3.Weight))) e_3.B.toNat) + e_3.Weight))⟩, ⟨some 7, none, 54, .pointer (some ⟨b_1, 0 + e_3.B.toNat * 1, none⟩)⟩]) (fun E θ => .box b_5 [.int .i64 e_3.A, .int .i64 e_3.B, .int .i64 e_3.Weight] 111 :: (bif E 8 then .box b_1 (catc [] 30 encI_i64 (setF (setF x_1 e_3.A.toNat (W ((x_1 e_3.A.toNat) + e_3.Weight))) e_3.B.toNat (W (((setF x_1 e_3.A.toNat (W ((x_1 e_3.A.toNat) + e_3.Weight))) e_3.B.toNat) + e_3.Weight))) []) 157 else .box b_1 (catc [] 30 encI_i64 (setF x_1 e_3.A.toNat (W ((x_1 e_3.A.toNat) + e_3.Weight))) []) 157) :: Lf) [(8, 3)] (fun a w => Has 89 a [(0, .slice l_p l.length l_c), (7, .int .i64 out), (8, .pointer (some ⟨b_1, 0, none⟩)), (10, .pointer (some ⟨b_5, 0, none⟩)), (26, .slice falls_p falls.length falls_c), (27, .int .i64 ((falls.length : Nat) : Int)), (28, .int .i64 x)] ∧ Ctx G (.box b_5 [.int .i64 e_3.A, .int .i64 e_3.B, .int .i64 e_3.Weight] 111 :: .box b_1 (catc [] 30 encI_i64 (setF (setF x_1 e_3.A.toNat (W ((x_1 e_3.A.toNat) + e_3.Weight))) e_3.B.toNat (W (((setF x_1 e_3.A.toNat (W ((x_1 e_3.A.toNat) + e_3.Weight))) e_3.B.toNat) + e_3.Weight))) []) 157 :: Lf) w) follows_mx (by kernel_rfl) (by kernel_rfl) (HasE.of hf ⟨rfl, rfl, rfl, rfl, rfl, rfl, rfl, trivial, trivial, trivial, trivial, trivial, trivial, trivial, trivial, trivial⟩) hc ⟨?_, ?_, ?_, ?_, ?_, ?_, ?_, ?_, ?_, trivial⟩ ?_ ?_
          · intro E θ a w hD hi hp he hc
            have hf := he.h0
            replace hf := hf.more he 3 rfl onT
            refine stP hf rfl rfl rfl (pFA fa_111_1 rfl) fun a hf => ?_
            refine cNil ?_
            refine xThenN ?_
            intro ds u hau
            refine ⟨θ, he.put0 hi hau hf rfl 7 rfl rfl, ?_⟩
            exact hc
          · intro E θ a w hD hi hp he hc
            have e0 := hp.of (k := 0) rfl
            have hf := he.h0
            replace hf := hf.more he 7 rfl (onP e0)
            refine stE hf hc rfl rfl rfl (eLd1 sc_3 rfl (cell_box m0 rfl)) fun a w hf hc => ?_
            refine cNil ?_
            refine xThenN ?_
            intro ds u hau
            refine ⟨θ, he.put0 hi hau hf rfl 8 rfl rfl, ?_⟩
            exact hc
          · intro E θ a w hD hi hp he hc
            have e1 := hp.of (k := 1) rfl
            have hf := he.h0
            replace hf := hf.more he 2 rfl onT
            replace hf := hf.more he 8 rfl (onP e1)
            refine stP hf rfl rfl rfl (pIAA Try.underlying157 sz_3 rfl rfl (inR_spec hun_3).1 (inR_spec hun_3).2) fun a hf => ?_
            refine cNil ?_
            refine xThenN ?_
            intro ds u hau
            refine ⟨θ, he.put0 hi hau hf rfl 9 rfl rfl, ?_⟩
            exact hc
          · intro E θ a w hD hi hp he hc
            have e2 := hp.of (k := 2) rfl
            have e8 := hD.f 0 rfl hi
            try dsimp only at hc
            rw [e8] at hc
            have hf := he.h0
            replace hf := hf.more he 9 rfl (onP e2)
            refine stE hf hc rfl rfl rfl (eLd1 sc_3 rfl (cell_arr (j := 0) m1 (fun x => (one_encI_i64 x).1) rfl hun_3 rfl)) fun a w hf hc => ?_
            refine cNil ?_
            refine xThenN ?_
            intro ds u hau
            refine ⟨θ, he.put0 hi hau hf rfl 10 rfl rfl, ?_⟩
            try dsimp only
            rw [updE_fls 3 e8 rfl]
            exact hc
          · intro E θ a w hD hi hp he hc
            have hf := he.h0
            replace hf := hf.more he 3 rfl onT
            refine stP hf rfl rfl rfl (pFA fa_111_2 rfl) fun a hf => ?_
            refine cNil ?_
            refine xThenN ?_
            intro ds u hau
            refine ⟨θ, he.put0 hi hau hf rfl 11 rfl rfl, ?_⟩
            exact hc
          · intro E θ a w hD hi hp he hc
            have e4 := hp.of (k := 4) rfl
            have hf := he.h0
            replace hf := hf.more he 11 rfl (onP e4)
            refine stE hf hc rfl rfl rfl (eLd1 sc_3 rfl (cell_box m0 rfl)) fun a w hf hc => ?_
            refine cNil ?_
            refine xThenN ?_
            intro ds u hau
            refine ⟨θ, he.put0 hi hau hf rfl 12 rfl rfl, ?_⟩
            exact hc
          · intro E θ a w hD hi hp he hc
            have e3 := hp.of (k := 3) rfl
            have e5 := hp.of (k := 5) rfl
            have hf := he.h0
            replace hf := hf.more he 10 rfl (onP e3)
            replace hf := hf.more he 12 rfl (onP e5)
            refine stP hf rfl rfl rfl (pAdd rfl rfl) fun a hf => ?_
            refine cNil ?_
            refine xThenN ?_
            intro ds u hau
            refine ⟨θ, he.put0 hi hau hf rfl 13 rfl rfl, ?_⟩
            exact hc
          · intro E θ a w hD hi hp he hc
            have e1 := hp.of (k := 1) rfl
            have hf := he.h0
            replace hf := hf.more he 2 rfl onT
            replace hf := hf.more he 8 rfl (onP e1)
            refine stP hf rfl rfl rfl (pIAA Try.underlying157 sz_3 rfl rfl (inR_spec hun_4).1 (inR_spec hun_4).2) fun a hf => ?_
            refine cNil ?_
            refine xThenN ?_
            intro ds u hau
            refine ⟨θ, he.put0 hi hau hf rfl 14 rfl rfl, ?_⟩
            exact hc
          · intro E θ a w hD hi hp he hc
            have e6 := hp.of (k := 6) rfl
            have e7 := hp.of (k := 7) rfl
            try dsimp only at hc
            rw [hi] at hc
            have hf := he.h0
            replace hf := hf.more he 13 rfl (onP e6)
            replace hf := hf.more he 14 rfl (onP e7)
            refine stAr (vs := [.int .i64 (W (((setF x_1 e_3.A.toNat (W ((x_1 e_3.A.toNat) + e_3.Weight))) e_3.B.toNat) + e_3.Weight))]) (o' := 0) (z := W (((setF x_1 e_3.A.toNat (W ((x_1 e_3.A.toNat) + e_3.Weight))) e_3.B.toNat) + e_3.Weight)) hf hc rfl rfl rfl rfl sz_3 rfl (fun x => (one_encI_i64 x).1) rfl hun_4 rfl rfl u1 fun w hc => ?_
            refine cNil ?_
            refine xThenN ?_
            intro ds u hau
            refine ⟨θ, he.stay0 hi hau hf rfl, ?_⟩
            try dsimp only
            rw [updE_self E 8]
            exact hc
          · intro E θ a w hall he hc
            have hf := he.h0
            have e8 := hall 8 rfl
            replace hf := hf.more he 6 rfl (onT)
            replace hf := hf.more he 5 rfl (onT)
            replace hf := hf.more he 4 rfl (onT)
            replace hf := hf.more he 3 rfl (onT)
            replace hf := hf.more he 2 rfl (onT)
            replace hf := hf.more he 1 rfl (onT)
            replace hf := hf.more he 0 rfl (onT)
            try dsimp only at hc
            rw [e8] at hc
            exact ⟨hf.keep ⟨rfl, rfl, rfl, rfl, rfl, rfl, rfl, trivial⟩, hc⟩
          rintro a w ⟨hf, hc⟩
          refine h31 _ _ ?_
          obtain ⟨e_4, he_4, hF⟩ := bnd_some hF
          obtain ⟨b_6, o_2, qa_2, qp_2⟩ := h_l.atm he_4
          obtain ⟨e_5, he_5, hF⟩ := bnd_some hF
          obtain ⟨b_7, o_3, qa_3, qp_3⟩ := h_l.atm he_5
          refine cQ hc follows_mx (by kernel_rfl) ?_
          refine qE hf rfl rfl rfl (Pu.ev (pM rfl)) fun a hf => ?_
          refine qE hf rfl rfl rfl (Pu.ev (pFA fa_111_2 rfl)) fun a hf => ?_
          refine qE hf rfl rfl rfl (eLd1 sc_3 rfl (cell_box m0 rfl)) fun a hf => ?_
          refine qE hf rfl rfl rfl (Pu.ev (pM rfl)) fun a hf => ?_
          refine qE hf rfl rfl rfl (Pu.ev (pFA fa_111_0 rfl)) fun a hf => ?_
          refine qE hf rfl rfl rfl (eLd1 sc_3 rfl (cell_box m0 rfl)) fun a hf => ?_
          refine qE hf rfl rfl rfl (Pu.ev (pIA Try.underlying96 sz_102 rfl rfl qa_2)) fun a hf => ?_
          refine qE hf rfl rfl rfl (Pu.ev (pFA fa_102_0 rfl)) fun a hf => ?_
          refine qE hf rfl rfl rfl (eLd1 sc_3 rfl (cell_pc (j := 0) qp_2 rfl)) fun a hf => ?_
          refine qE hf rfl rfl rfl (Pu.ev (pM rfl)) fun a hf => ?_
          refine qE hf rfl rfl rfl (Pu.ev (pFA fa_111_1 rfl)) fun a hf => ?_
          refine qE hf rfl rfl rfl (eLd1 sc_3 rfl (cell_box m0 rfl)) fun a hf => ?_
          refine qE hf rfl rfl rfl (Pu.ev (pIA Try.underlying96 sz_102 rfl rfl qa_3)) fun a hf => ?_
          refine qE hf rfl rfl rfl (Pu.ev (pFA fa_102_0 rfl)) fun a hf => ?_
          refine qE hf rfl rfl rfl (eLd1 sc_3 rfl (cell_pc (j := 0) qp_3 rfl)) fun a hf => ?_
          refine qE hf rfl rfl rfl (Pu.ev (pSub rfl rfl)) fun a hf => ?_
          refine qE hf rfl rfl rfl (Pu.ev (pMul rfl rfl)) fun a hf => ?_
          refine qE hf rfl rfl rfl (Pu.ev (pAdd rfl rfl)) fun a hf => ?_
          refine qE hf rfl rfl rfl (Pu.ev (pA rfl)) fun a hf => ?_
          intro w hc
          refine h24 _ _ ?_
          refine cReg ?_
          refine stP hf rfl rfl rfl (pAdd rfl rfl) fun a hf => ?_
          refine stP hf rfl rfl rfl (pM rfl) fun a hf => ?_
          refine cNil ?_
          replace hc := hc.drop k0
          exact hK11 (W (out + (W (e_3.Weight * (W (e_4.Value - e_5.Value))))), W (x + 1), (setF (setF x_1 e_3.A.toNat (W ((x_1 e_3.A.toNat) + e_3.Weight))) e_3.B.toNat (W (((setF x_1 e_3.A.toNat (W ((x_1 e_3.A.toNat) + e_3.Weight))) e_3.B.toNat) + e_3.Weight)))) _ _ (Option.some.inj hF).symm ⟨hf.keep ⟨rfl, rfl, rfl, rfl, rfl, rfl, trivial⟩, hc⟩
      · replace hF := condF hb hF
        clear hb
        refine wp_exit ?_
        refine xThen ?_
        refine xThen ?_
        have he := Option.some.inj hF
        rw [← he] at hfin11
        refine cHit ?_
        exact hr11 _ _ _ hfin11 ⟨hf.keep ⟨rfl, rfl, rfl, rfl, rfl, rfl, trivial⟩, hc⟩
  refine wp_seq_k fun K32 h32 => ?_
  refine cReg ?_
  refine stP hf rfl rfl rfl (pM rfl) fun a hf => ?_
  refine stP hf rfl rfl rfl (pEq rfl rfl) fun a hf => ?_
  refine stP hf rfl rfl rfl (pM rfl) fun a hf => ?_
  refine stCut 4 (fun a w => Has 89 a [(0, .slice l_p l.length l_c), (1, .slice falls_p falls.length falls_c), (6, .int .i64 r), (16, .int .i64 r), (17, .bool (r == 0)), (18, .bool (r == 0)), (22, .bool ((r == 0) && (decide (900 < ((falls.length : Nat) : Int)))))] ∧ Ctx G (Lf) w) ?_ ?_
  · cases hb : (r == 0)
    · rw [hb] at hf
      refine stS hf rfl rfl rfl fun a hf => ?_
      refine stS hf rfl rfl rfl fun a hf => ?_
      refine stS hf rfl rfl rfl fun a hf => ?_
      refine stP hf rfl rfl rfl (pPf rfl rfl) fun a hf => ?_
      exact cNil ⟨hf.keep ⟨rfl, rfl, rfl, rfl, rfl, rfl, rfl, trivial⟩, hc⟩
    · rw [hb] at hf
      refine stP hf rfl rfl rfl (pM rfl) fun a hf => ?_
      refine stP hf rfl rfl rfl (pLenS Try.underlying103 rfl) fun a hf => ?_
      refine stP hf rfl rfl rfl (pGt rfl rfl) fun a hf => ?_
      refine stP hf rfl rfl rfl (pPt rfl rfl) fun a hf => ?_
      exact cNil ⟨hf.keep ⟨rfl, rfl, rfl, rfl, rfl, rfl, rfl, trivial⟩, hc⟩
  intro a w ⟨hf, hc⟩
  refine cNil ?_
  refine h32 _ _ ?_
  refine cCond (b := ((r == 0) && (decide (900 < ((falls.length : Nat) : Int))))) hf rfl (fun hb => ?_) (fun hb => ?_)
  · replace hF := condT hb hF
    clear hb
    refine cReg ?_
    refine stP hf rfl rfl rfl (pA rfl) fun a hf => ?_
    refine cNil ?_
    exact hj3 3 _ _  (hf.keep ⟨rfl, rfl, rfl, trivial⟩) hc hF
  · replace hF := condF hb hF
    clear hb
    refine wp_skip ?_
    exact hj3 r _ _  (hf.keep ⟨rfl, rfl, rfl, trivial⟩) hc hF

end Go.Nilo
