/-
  What functions of the Go text compute, as plain functions, and that they do, part 4 of 4. Conditions: what each theorem names.
-/
import Derived.Test.YtepopogbmjfpeaaMs3
import Derived.Test.YtepopogbmjfpeaaProg
set_option linter.unusedVariables false
set_option maxRecDepth 100000
set_option maxHeartbeats 4000000
namespace Go.Nilo
open Go.Proofs


def ref05_flow_j8 (N : Nat) (i_1 : Int) : Option (Step (Int) (api_Ratio)) :=
  some (.cont (W (i_1 + 1)))
def ref05_flow_b4 (N : Nat) (l : List ref05_Mark) (stage : Int) (i_1 : Int) : Option (Step (Int) (api_Ratio)) :=
  cond (decide (i_1 < ((l.length : Nat) : Int)))
  (Option.bind (getI l i_1) fun e_2 =>
  cond (decide (e_2.Stage < stage))
  (ref05_flow_j8 N i_1)
  (Option.bind (cond (i_1 == 0) (some true) (Option.bind (getI l i_1) fun e_3 =>
  some (e_3.Stage == stage))) fun t_1 =>
  cond t_1
  (Option.bind (getI l i_1) fun e_4 =>
  some (.ret (⟨e_4.Flow, 1⟩ : api_Ratio)))
  (Option.bind (getI l (W (i_1 - 1))) fun e_5 =>
  Option.bind (getI l i_1) fun e_6 =>
  Option.bind (ref05_lowest N (W ((W (e_5.Flow * (W (e_6.Stage - stage)))) + (W (e_6.Flow * (W (stage - e_5.Stage)))))) (W (e_6.Stage - e_5.Stage))) fun r =>
  some (.ret r))))
  (some (.brk i_1))
def ref05_flow (N : Nat) (l : List ref05_Mark) (stage : Int) : Option (api_Ratio) :=
  Option.bind (loopO (fun s4 => ref05_flow_b4 N l stage s4) N 0) fun x4 =>
  exK x4 (fun s4 => Option.bind (getI l (W (((l.length : Nat) : Int) - 1))) fun e_1 =>
  some (⟨e_1.Flow, 1⟩ : api_Ratio)) some
theorem ref05_flow_ok {N : Nat} {G : Pers} {Lf : List Ent} {w : World} (l : List ref05_Mark) (stage : Int) {l_p : Option Addr} {l_c : Nat} (h_l : Rd G 2 l_p l_c (l.map enc_ref05_Mark)) (hc : Ctx G (Lf) w) {res : api_Ratio} (hF : ref05_flow N l stage = some res) : Calls Try.prog 70 #[.slice l_p l.length l_c, .int .i64 stage] w (fun e w => e = .returned (.agg #[.int .i64 res.N, .int .i64 res.D]) ∧ Ctx G (Lf) w) := by
  unfold ref05_flow at hF
  refine fnIn (args := [.slice l_p l.length l_c, .int .i64 stage]) Try.func70 rfl Try.ntmps70 rfl fun a hf => ?_
  refine wp_seq_k fun K1 h1 => ?_
  refine cReg ?_
  refine stAl (cs := [.int .i64 0, .int .i64 0]) hf hc rfl rfl zr_37 rfl fun b_1 a w hf hc => ?_
  refine cNil ?_
  refine h1 _ _ ?_
  refine wp_seq_k fun K2 h2 => ?_
  refine wp_seq_k fun K3 h3 => ?_
  refine cReg ?_
  refine stP hf rfl rfl rfl (pA rfl) fun a hf => ?_
  refine cNil ?_
  refine h3 _ _ ?_
  refine wp_block ?_
  obtain ⟨x4, hx4, hF⟩ := bnd_some hF
  let S4 : Int → Act → World → Prop := (fun (zz : Int) a w => Has 76 a [(0, .slice l_p l.length l_c), (1, .int .i64 stage), (4, .pointer (some ⟨b_1, 0, none⟩)), (5, .int .i64 zz)] ∧ Ctx G (.box b_1 [.int .i64 0, .int .i64 0] 37 :: Lf) w)
  have hr4 : ∀ (zz : Int) a w, x4 = .go zz → S4 zz a w → K2 a w := by
    rintro i_1 a w rfl ⟨hf, hc⟩
    replace hF : _ = some res := hF
    refine h2 _ _ ?_
    refine wp_seq_k fun K5 h5 => ?_
    refine cReg ?_
    refine stP hf rfl rfl rfl (pM rfl) fun a hf => ?_
    refine stP hf rfl rfl rfl (pM rfl) fun a hf => ?_
    refine stP hf rfl rfl rfl (pLenS Try.underlying31 rfl) fun a hf => ?_
    refine stP hf rfl rfl rfl (pSub rfl rfl) fun a hf => ?_
    obtain ⟨e_1, he_1, hF⟩ := bnd_some hF
    obtain ⟨b_2, o, qa, qp⟩ := h_l.atm he_1
    refine stP hf rfl rfl rfl (pIA Try.underlying31 sz_134 rfl rfl qa) fun a hf => ?_
    refine stP hf rfl rfl rfl (pFA fa_134_1 rfl) fun a hf => ?_
    refine stE hf hc rfl rfl rfl (eLd1 sc_3 rfl (cell_pc (j := 1) qp rfl)) fun a w hf hc => ?_
    refine stP hf rfl rfl rfl (pBuildS (cells := [.int .i64 e_1.Flow, .int .i64 1]) bt_37 rfl rfl) fun a hf => ?_
    refine stSt (vs := [.int .i64 e_1.Flow, .int .i64 1]) hf hc rfl rfl rfl rfl sz_37 rfl rfl u0 fun w hc => ?_
    refine cNil ?_
    refine h5 _ _ ?_
    refine wp_ret ?_
    obtain rfl := Option.some.inj hF
    exact fnOut1 (by simp) rfl Try.results70 hf hc (rv_cellN (vs := [.int .i64 e_1.Flow, .int .i64 1]) ag_37 rfl rfl (cells_box (n := 2) m0 rfl)) ⟨rfl, (hc.drop k0)⟩
  have ho4 : ∀ r, x4 = .out r → r = res := by
    rintro r rfl
    exact Option.some.inj hF
  refine cLoop N (loopW (S := S4) (x := x4) ?_ N 0 _ _ ⟨hf.keep ⟨rfl, rfl, rfl, rfl, trivial⟩, hc⟩ hx4)
  clear hF hf hc
  rintro i_1 st4 a w KB4 ⟨hf, hc⟩ hF hfin4 hK4
  unfold ref05_flow_b4 at hF
  refine wp_seq_k fun K6 h6 => ?_
  refine wp_seq_k fun K7 h7 => ?_
  refine cReg ?_
  refine stP hf rfl rfl rfl (pM rfl) fun a hf => ?_
  refine stP hf rfl rfl rfl (pM rfl) fun a hf => ?_
  refine stP hf rfl rfl rfl (pLenS Try.underlying31 rfl) fun a hf => ?_
  refine stP hf rfl rfl rfl (pLt rfl rfl) fun a hf => ?_
  refine cNil ?_
  refine h7 _ _ ?_
  refine cCond (b := (decide (i_1 < ((l.length : Nat) : Int)))) hf rfl (fun hb => ?_) (fun hb => ?_)
  · replace hF := condT hb hF
    clear hb
    refine wp_skip ?_
    refine h6 _ _ ?_
    refine wp_seq_k fun K8 h8 => ?_
    have hj8 : ∀ a w, Has 76 a [(0, .slice l_p l.length l_c), (1, .int .i64 stage), (4, .pointer (some ⟨b_1, 0, none⟩)), (5, .int .i64 i_1)] → Ctx G (.box b_1 [.int .i64 0, .int .i64 0] 37 :: Lf) w → ref05_flow_j8 N i_1 = some st4 → K8 a w := by
      intro a w hf hc hF
      unfold ref05_flow_j8 at hF
      refine h8 _ _ ?_
      refine cReg ?_
      refine stP hf rfl rfl rfl (pM rfl) fun a hf => ?_
      refine stP hf rfl rfl rfl (pAdd rfl rfl) fun a hf => ?_
      refine stP hf rfl rfl rfl (pA rfl) fun a hf => ?_
      refine cNil ?_
      exact hK4 (W (i_1 + 1)) _ _ (Option.some.inj hF).symm ⟨hf.keep ⟨rfl, rfl, rfl, rfl, trivial⟩, hc⟩
    refine wp_block ?_
    refine wp_seq_k fun K9 h9 => ?_
    refine wp_seq_k fun K10 h10 => ?_
    refine cReg ?_
    refine stP hf rfl rfl rfl (pM rfl) fun a hf => ?_
    refine stP hf rfl rfl rfl (pM rfl) fun a hf => ?_
    obtain ⟨e_2, he_2, hF⟩ := bnd_some hF
    obtain ⟨b_3, o_1, qa_1, qp_1⟩ := h_l.atm he_2
    refine stP hf rfl rfl rfl (pIA Try.underlying31 sz_134 rfl rfl qa_1) fun a hf => ?_
    refine stP hf rfl rfl rfl (pFA fa_134_0 rfl) fun a hf => ?_
    refine stE hf hc rfl rfl rfl (eLd1 sc_3 rfl (cell_pc (j := 0) qp_1 rfl)) fun a w hf hc => ?_
    refine stP hf rfl rfl rfl (pM rfl) fun a hf => ?_
    refine stP hf rfl rfl rfl (pLt rfl rfl) fun a hf => ?_
    refine cNil ?_
    refine h10 _ _ ?_
    refine cCond (b := (decide (e_2.Stage < stage))) hf rfl (fun hb => ?_) (fun hb => ?_)
    · replace hF := condT hb hF
      clear hb
      refine wp_exit ?_
      refine xThen ?_
      refine cHit ?_
      exact hj8  _ _  (hf.keep ⟨rfl, rfl, rfl, rfl, trivial⟩) hc hF
    · replace hF := condF hb hF
      clear hb
      refine wp_skip ?_
      refine h9 _ _ ?_
      refine wp_seq_k fun K11 h11 => ?_
      refine wp_seq_k fun K12 h12 => ?_
      refine cReg ?_
      refine stP hf rfl rfl rfl (pM rfl) fun a hf => ?_
      refine stP hf rfl rfl rfl (pEq rfl rfl) fun a hf => ?_
      refine stP hf rfl rfl rfl (pM rfl) fun a hf => ?_
      obtain ⟨t_1, ht_1, hF⟩ := bnd_some hF
      refine stCut 8 (fun a w => Has 76 a [(0, .slice l_p l.length l_c), (1, .int .i64 stage), (4, .pointer (some ⟨b_1, 0, none⟩)), (5, .int .i64 i_1), (21, .int .i64 i_1), (22, .bool (i_1 == 0)), (23, .bool (i_1 == 0)), (31, .bool t_1)] ∧ Ctx G (.box b_1 [.int .i64 0, .int .i64 0] 37 :: Lf) w) ?_ ?_
      · cases hb : (i_1 == 0)
        · rw [hb] at hf
          have hF := condF hb ht_1
          refine stP hf rfl rfl rfl (pM rfl) fun a hf => ?_
          refine stP hf rfl rfl rfl (pM rfl) fun a hf => ?_
          obtain ⟨e_3, he_3, hF⟩ := bnd_some hF
          obtain ⟨b_4, o_2, qa_2, qp_2⟩ := h_l.atm he_3
          refine stP hf rfl rfl rfl (pIA Try.underlying31 sz_134 rfl rfl qa_2) fun a hf => ?_
          refine stP hf rfl rfl rfl (pFA fa_134_0 rfl) fun a hf => ?_
          refine stE hf hc rfl rfl rfl (eLd1 sc_3 rfl (cell_pc (j := 0) qp_2 rfl)) fun a w hf hc => ?_
          refine stP hf rfl rfl rfl (pM rfl) fun a hf => ?_
          refine stP hf rfl rfl rfl (pEq rfl rfl) fun a hf => ?_
          refine stP hf rfl rfl rfl (pPf rfl rfl) fun a hf => ?_
          obtain rfl := Option.some.inj hF
          exact cNil ⟨hf.keep ⟨rfl, rfl, rfl, rfl, rfl, rfl, rfl, rfl, trivial⟩, hc⟩
        · rw [hb] at hf
          have hF := condT hb ht_1
          obtain rfl := Option.some.inj hF
          refine stS hf rfl rfl rfl fun a hf => ?_
          refine stS hf rfl rfl rfl fun a hf => ?_
          refine stS hf rfl rfl rfl fun a hf => ?_
          refine stS hf rfl rfl rfl fun a hf => ?_
          refine stS hf rfl rfl rfl fun a hf => ?_
          refine stS hf rfl rfl rfl fun a hf => ?_
          refine stS hf rfl rfl rfl fun a hf => ?_
          refine stP hf rfl rfl rfl (pPt rfl rfl) fun a hf => ?_
          exact cNil ⟨hf.keep ⟨rfl, rfl, rfl, rfl, rfl, rfl, rfl, rfl, trivial⟩, hc⟩
      intro a w ⟨hf, hc⟩
      refine cNil ?_
      refine h12 _ _ ?_
      refine cCond (b := t_1) hf rfl (fun hb => ?_) (fun hb => ?_)
      · replace hF := condT hb hF
        clear hb
        refine wp_seq_k fun K13 h13 => ?_
        refine cReg ?_
        refine stP hf rfl rfl rfl (pM rfl) fun a hf => ?_
        refine stP hf rfl rfl rfl (pM rfl) fun a hf => ?_
        obtain ⟨e_4, he_4, hF⟩ := bnd_some hF
        obtain ⟨b_5, o_3, qa_3, qp_3⟩ := h_l.atm he_4
        refine stP hf rfl rfl rfl (pIA Try.underlying31 sz_134 rfl rfl qa_3) fun a hf => ?_
        refine stP hf rfl rfl rfl (pFA fa_134_1 rfl) fun a hf => ?_
        refine stE hf hc rfl rfl rfl (eLd1 sc_3 rfl (cell_pc (j := 1) qp_3 rfl)) fun a w hf hc => ?_
        refine stP hf rfl rfl rfl (pBuildS (cells := [.int .i64 e_4.Flow, .int .i64 1]) bt_37 rfl rfl) fun a hf => ?_
        refine stSt (vs := [.int .i64 e_4.Flow, .int .i64 1]) hf hc rfl rfl rfl rfl sz_37 rfl rfl u0 fun w hc => ?_
        refine cNil ?_
        refine h13 _ _ ?_
        refine wp_ret ?_
        refine xThenR ?_
        refine xBlkR ?_
        refine xThenR ?_
        refine xThenR ?_
        have he := Option.some.inj hF
        rw [← he] at hfin4
        replace hF := ho4 _ hfin4
        refine xBlkR ?_
        refine xThenR ?_
        obtain rfl := hF
        exact fnOut1 (by simp) rfl Try.results70 hf hc (rv_cellN (vs := [.int .i64 e_4.Flow, .int .i64 1]) ag_37 rfl rfl (cells_box (n := 2) m0 rfl)) ⟨rfl, (hc.drop k0)⟩
      · replace hF := condF hb hF
        clear hb
        refine wp_skip ?_
        refine h11 _ _ ?_
        refine wp_seq_k fun K14 h14 => ?_
        obtain ⟨e_5, he_5, hF⟩ := bnd_some hF
        obtain ⟨b_6, o_4, qa_4, qp_4⟩ := h_l.atm he_5
        obtain ⟨e_6, he_6, hF⟩ := bnd_some hF
        obtain ⟨b_7, o_5, qa_5, qp_5⟩ := h_l.atm he_6
        replace hc := hc.nilRow 0 0
        replace hc := hc.nilRow 0 0
        refine regionE (fun θ => [⟨none, none, 0, .slice l_p l.length l_c⟩, ⟨none, none, 1, .int .i64 stage⟩, ⟨none, none, 4, .pointer (some ⟨b_1, 0, none⟩)⟩, ⟨none, none, 5, .int .i64 i_1⟩, ⟨some 0, none, 38, .slice l_p l.length l_c⟩, ⟨some 1, none, 39, .int .i64 i_1⟩, ⟨some 2, none, 40, .int .i64 (W (i_1 - 1))⟩, ⟨some 3, none, 41, .pointer (some ⟨b_6, o_4, none⟩)⟩, ⟨some 4, none, 42, .agg #[.int .i64 e_5.Stage, .int .i64 e_5.Flow]⟩, ⟨some 5, none, 43, .slice l_p l.length l_c⟩, ⟨some 6, none, 44, .int .i64 i_1⟩, ⟨some 7, none, 45, .pointer (some ⟨b_7, o_5, none⟩)⟩, ⟨some 8, none, 46, .agg #[.int .i64 e_6.Stage, .int .i64 e_6.Flow]⟩, ⟨some 9, none, 6, .pointer (some ⟨(θ 72).b, 0, none⟩)⟩, ⟨some 10, none, 7, .pointer (some ⟨(θ 80).b, 0, none⟩)⟩]) (fun E θ => (bif E 12 then .box (θ 80).b [.int .i64 e_6.Stage, .int .i64 e_6.Flow] 134 else bif E 10 then .box (θ 80).b [.int .i64 0, .int .i64 0] 134 else .row none 0 [] 0 0) :: (bif E 11 then .box (θ 72).b [.int .i64 e_5.Stage, .int .i64 e_5.Flow] 134 else bif E 9 then .box (θ 72).b [.int .i64 0, .int .i64 0] 134 else .row none 0 [] 0 0) :: .box b_1 [.int .i64 0, .int .i64 0] 37 :: Lf) [(11, 9), (12, 10)] (fun a w => ∃ (b_10 : Nat) (b_11 : Nat), Has 76 a [(1, .int .i64 stage), (4, .pointer (some ⟨b_1, 0, none⟩)), (6, .pointer (some ⟨b_10, 0, none⟩)), (7, .pointer (some ⟨b_11, 0, none⟩))] ∧ Ctx G (.box b_11 [.int .i64 e_6.Stage, .int .i64 e_6.Flow] 134 :: .box b_10 [.int .i64 e_5.Stage, .int .i64 e_5.Flow] 134 :: .box b_1 [.int .i64 0, .int .i64 0] 37 :: Lf) w) follows_mx (by kernel_rfl) (by kernel_rfl) (HasE.of hf ⟨rfl, rfl, rfl, rfl, trivial, trivial, trivial, trivial, trivial, trivial, trivial, trivial, trivial, trivial, trivial, trivial⟩) hc ⟨?_, ?_, ?_, ?_, ?_, ?_, ?_, ?_, ?_, ?_, ?_, ?_, ?_, trivial⟩ ?_ ?_
        · intro E θ a w hD hi hp he hc
          have hf := he.h0
          replace hf := hf.more he 0 rfl onT
          refine stP hf rfl rfl rfl (pM rfl) fun a hf => ?_
          refine cNil ?_
          refine xThenN ?_
          intro ds u hau
          refine ⟨θ, he.put0 hi hau hf rfl 4 rfl rfl, ?_⟩
          exact hc
        · intro E θ a w hD hi hp he hc
          have hf := he.h0
          replace hf := hf.more he 3 rfl onT
          refine stP hf rfl rfl rfl (pM rfl) fun a hf => ?_
          refine cNil ?_
          refine xThenN ?_
          intro ds u hau
          refine ⟨θ, he.put0 hi hau hf rfl 5 rfl rfl, ?_⟩
          exact hc
        · intro E θ a w hD hi hp he hc
          have e1 := hp.of (k := 1) rfl
          have hf := he.h0
          replace hf := hf.more he 5 rfl (onP e1)
          refine stP hf rfl rfl rfl (pSub rfl rfl) fun a hf => ?_
          refine cNil ?_
          refine xThenN ?_
          intro ds u hau
          refine ⟨θ, he.put0 hi hau hf rfl 6 rfl rfl, ?_⟩
          exact hc
        · intro E θ a w hD hi hp he hc
          have e0 := hp.of (k := 0) rfl
          have e2 := hp.of (k := 2) rfl
          have hf := he.h0
          replace hf := hf.more he 4 rfl (onP e0)
          replace hf := hf.more he 6 rfl (onP e2)
          refine stP hf rfl rfl rfl (pIA Try.underlying31 sz_134 rfl rfl qa_4) fun a hf => ?_
          refine cNil ?_
          refine xThenN ?_
          intro ds u hau
          refine ⟨θ, he.put0 hi hau hf rfl 7 rfl rfl, ?_⟩
          exact hc
        · intro E θ a w hD hi hp he hc
          have e3 := hp.of (k := 3) rfl
          have hf := he.h0
          replace hf := hf.more he 7 rfl (onP e3)
          refine stE hf hc rfl rfl rfl (eLdN (vs := [.int .i64 e_5.Stage, .int .i64 e_5.Flow]) ag_134 rfl rfl (cells_pc qp_4 (n := 2) (o' := 0) rfl)) fun a w hf hc => ?_
          refine cNil ?_
          refine xThenN ?_
          intro ds u hau
          refine ⟨θ, he.put0 hi hau hf rfl 8 rfl rfl, ?_⟩
          exact hc
        · intro E θ a w hD hi hp he hc
          have hf := he.h0
          replace hf := hf.more he 0 rfl onT
          refine stP hf rfl rfl rfl (pM rfl) fun a hf => ?_
          refine cNil ?_
          refine xThenN ?_
          intro ds u hau
          refine ⟨θ, he.put0 hi hau hf rfl 9 rfl rfl, ?_⟩
          exact hc
        · intro E θ a w hD hi hp he hc
          have hf := he.h0
          replace hf := hf.more he 3 rfl onT
          refine stP hf rfl rfl rfl (pM rfl) fun a hf => ?_
          refine cNil ?_
          refine xThenN ?_
          intro ds u hau
          refine ⟨θ, he.put0 hi hau hf rfl 10 rfl rfl, ?_⟩
          exact hc
        · intro E θ a w hD hi hp he hc
          have e5 := hp.of (k := 5) rfl
          have e6 := hp.of (k := 6) rfl
          have hf := he.h0
          replace hf := hf.more he 9 rfl (onP e5)
          replace hf := hf.more he 10 rfl (onP e6)
          refine stP hf rfl rfl rfl (pIA Try.underlying31 sz_134 rfl rfl qa_5) fun a hf => ?_
          refine cNil ?_
          refine xThenN ?_
          intro ds u hau
          refine ⟨θ, he.put0 hi hau hf rfl 11 rfl rfl, ?_⟩
          exact hc
        · intro E θ a w hD hi hp he hc
          have e7 := hp.of (k := 7) rfl
          have hf := he.h0
          replace hf := hf.more he 11 rfl (onP e7)
          refine stE hf hc rfl rfl rfl (eLdN (vs := [.int .i64 e_6.Stage, .int .i64 e_6.Flow]) ag_134 rfl rfl (cells_pc qp_5 (n := 2) (o' := 0) rfl)) fun a w hf hc => ?_
          refine cNil ?_
          refine xThenN ?_
          intro ds u hau
          refine ⟨θ, he.put0 hi hau hf rfl 12 rfl rfl, ?_⟩
          exact hc
        · intro E θ a w hD hi hp he hc
          have e11 := hD.f 0 rfl hi
          try dsimp only at hc
          rw [hi, e11] at hc
          have hf := he.h0
          refine stAl (cs := [.int .i64 0, .int .i64 0]) hf hc rfl rfl zr_134 rfl fun b_8 a w hf hc => ?_
          refine cNil ?_
          refine xThenN ?_
          intro ds u hau
          replace hc := hc.drop k2
          replace hc := hc.pick k0
          replace hc := hc.pick k1
          refine ⟨(setT θ 72 ⟨b_8, none, 0⟩), he.put hi hau hf rfl [] trivial ⟨qq, qq, qq, qq, qq, qq, qq, qq, qq, qq, qq, qq, qq, qq, qq, trivial⟩, ?_⟩
          try dsimp only
          rw [updE_self E 9, updE_fls 9 e11 rfl]
          exact hc
        · intro E θ a w hD hi hp he hc
          have e12 := hD.f 1 rfl hi
          try dsimp only at hc
          rw [hi, e12] at hc
          have hf := he.h0
          refine stAl (cs := [.int .i64 0, .int .i64 0]) hf hc rfl rfl zr_134 rfl fun b_9 a w hf hc => ?_
          refine cNil ?_
          refine xThenN ?_
          intro ds u hau
          replace hc := hc.drop k1
          refine ⟨(setT θ 80 ⟨b_9, none, 0⟩), he.put hi hau hf rfl [] trivial ⟨qq, qq, qq, qq, qq, qq, qq, qq, qq, qq, qq, qq, qq, qq, qq, trivial⟩, ?_⟩
          try dsimp only
          rw [updE_self E 10, updE_fls 10 e12 rfl]
          exact hc
        · intro E θ a w hD hi hp he hc
          have e4 := hp.of (k := 4) rfl
          have e9 := hp.of (k := 9) rfl
          try dsimp only at hc
          rw [e9, hi] at hc
          have hf := he.h0
          replace hf := hf.more he 8 rfl (onP e4)
          replace hf := hf.more he 13 rfl (onP e9)
          refine stSt (vs := [.int .i64 e_5.Stage, .int .i64 e_5.Flow]) hf hc rfl rfl rfl rfl sz_134 rfl rfl u1 fun w hc => ?_
          refine cNil ?_
          refine xThenN ?_
          intro ds u hau
          refine ⟨θ, he.stay0 hi hau hf rfl, ?_⟩
          try dsimp only
          rw [updE_tru 11 e9, updE_self E 11]
          exact hc
        · intro E θ a w hD hi hp he hc
          have e8 := hp.of (k := 8) rfl
          have e10 := hp.of (k := 10) rfl
          try dsimp only at hc
          rw [e10, hi] at hc
          have hf := he.h0
          replace hf := hf.more he 12 rfl (onP e8)
          replace hf := hf.more he 14 rfl (onP e10)
          refine stSt (vs := [.int .i64 e_6.Stage, .int .i64 e_6.Flow]) hf hc rfl rfl rfl rfl sz_134 rfl rfl u0 fun w hc => ?_
          refine cNil ?_
          refine xThenN ?_
          intro ds u hau
          refine ⟨θ, he.stay0 hi hau hf rfl, ?_⟩
          try dsimp only
          rw [updE_tru 12 e10, updE_self E 12]
          exact hc
        · intro E θ a w hall he hc
          have hf := he.h0
          have e9 := hall 9 rfl
          have e10 := hall 10 rfl
          have e11 := hall 11 rfl
          have e12 := hall 12 rfl
          replace hf := hf.more he 14 rfl (onP e10)
          replace hf := hf.more he 13 rfl (onP e9)
          replace hf := hf.more he 2 rfl (onT)
          replace hf := hf.more he 1 rfl (onT)
          try dsimp only at hc
          rw [e9, e10, e11, e12] at hc
          exact ⟨(θ 72).b, (θ 80).b, hf.keep ⟨rfl, rfl, rfl, rfl, trivial⟩, hc⟩
        rintro a w ⟨b_10, b_11, hf, hc⟩
        refine h14 _ _ ?_
        refine wp_seq_k fun K15 h15 => ?_
        refine cReg ?_
        refine stP hf rfl rfl rfl (pFA fa_134_1 rfl) fun a hf => ?_
        refine stE hf hc rfl rfl rfl (eLd1 sc_3 rfl (cell_box m1 rfl)) fun a w hf hc => ?_
        refine stP hf rfl rfl rfl (pFA fa_134_0 rfl) fun a hf => ?_
        refine stE hf hc rfl rfl rfl (eLd1 sc_3 rfl (cell_box m0 rfl)) fun a w hf hc => ?_
        refine stP hf rfl rfl rfl (pM rfl) fun a hf => ?_
        refine stP hf rfl rfl rfl (pSub rfl rfl) fun a hf => ?_
        refine stP hf rfl rfl rfl (pMul rfl rfl) fun a hf => ?_
        refine stP hf rfl rfl rfl (pFA fa_134_1 rfl) fun a hf => ?_
        refine stE hf hc rfl rfl rfl (eLd1 sc_3 rfl (cell_box m0 rfl)) fun a w hf hc => ?_
        refine stP hf rfl rfl rfl (pM rfl) fun a hf => ?_
        refine stP hf rfl rfl rfl (pFA fa_134_0 rfl) fun a hf => ?_
        refine stE hf hc rfl rfl rfl (eLd1 sc_3 rfl (cell_box m1 rfl)) fun a w hf hc => ?_
        refine stP hf rfl rfl rfl (pSub rfl rfl) fun a hf => ?_
        refine stP hf rfl rfl rfl (pMul rfl rfl) fun a hf => ?_
        refine stP hf rfl rfl rfl (pAdd rfl rfl) fun a hf => ?_
        refine stP hf rfl rfl rfl (pFA fa_134_0 rfl) fun a hf => ?_
        refine stE hf hc rfl rfl rfl (eLd1 sc_3 rfl (cell_box m0 rfl)) fun a w hf hc => ?_
        refine stP hf rfl rfl rfl (pFA fa_134_0 rfl) fun a hf => ?_
        refine stE hf hc rfl rfl rfl (eLd1 sc_3 rfl (cell_box m1 rfl)) fun a w hf hc => ?_
        refine stP hf rfl rfl rfl (pSub rfl rfl) fun a hf => ?_
        obtain ⟨r, hr, hF⟩ := bnd_some hF
        refine stE hf hc rfl rfl rfl (eC (v := .agg #[.int .i64 r.N, .int .i64 r.D]) (vs := [.int .i64 (W ((W (e_5.Flow * (W (e_6.Stage - stage)))) + (W (e_6.Flow * (W (stage - e_5.Stage)))))), .int .i64 (W (e_6.Stage - e_5.Stage))]) (caps := []) en_72 rfl rfl rfl rfl (fun w hc => ref05_lowest_ok (W ((W (e_5.Flow * (W (e_6.Stage - stage)))) + (W (e_6.Flow * (W (stage - e_5.Stage)))))) (W (e_6.Stage - e_5.Stage)) hc hr)) fun a w hf hc => ?_
        refine stSt (vs := [.int .i64 r.N, .int .i64 r.D]) hf hc rfl rfl rfl rfl sz_37 rfl rfl u2 fun w hc => ?_
        refine cNil ?_
        refine h15 _ _ ?_
        refine wp_ret ?_
        refine xBlkR ?_
        refine xThenR ?_
        refine xThenR ?_
        have he := Option.some.inj hF
        rw [← he] at hfin4
        replace hF := ho4 _ hfin4
        refine xBlkR ?_
        refine xThenR ?_
        obtain rfl := hF
        replace hc := hc.drop k1
        replace hc := hc.drop k0
        exact fnOut1 (by simp) rfl Try.results70 hf hc (rv_cellN (vs := [.int .i64 r.N, .int .i64 r.D]) ag_37 rfl rfl (cells_box (n := 2) m0 rfl)) ⟨rfl, (hc.drop k0)⟩
  · replace hF := condF hb hF
    clear hb
    refine wp_exit ?_
    refine xThen ?_
    refine xThen ?_
    have he := Option.some.inj hF
    rw [← he] at hfin4
    refine cHit ?_
    exact hr4 _ _ _ hfin4 ⟨hf.keep ⟨rfl, rfl, rfl, rfl, trivial⟩, hc⟩

def ref05_Means (N : Nat) (l : List ref05_Mark) (stage : Int) (shift : Int) : Option (api_Ratio × Int) :=
  Option.bind (ref05_marks N l) fun r =>
  cond (r != 0)
  (some ((⟨0, 0⟩ : api_Ratio), r))
  (Option.bind (ref05_mixed N l) fun r_1 =>
  cond r_1
  (some ((⟨0, 0⟩ : api_Ratio), 9))
  (cond ((ref05_outside stage (-2000) 2000) || (ref05_outside shift (-300) 300))
  (some ((⟨0, 0⟩ : api_Ratio), 4))
  (Option.bind (ref05_flow N l (W (stage - shift))) fun r_2 =>
  some (r_2, 0))))
theorem ref05_Means_ok {N : Nat} {G : Pers} {Lf : List Ent} {w : World} (l : List ref05_Mark) (stage : Int) (shift : Int) {l_p : Option Addr} {l_c : Nat} (h_l : Rd G 2 l_p l_c (l.map enc_ref05_Mark)) (hc : Ctx G (Lf) w) {res : api_Ratio × Int} (hF : ref05_Means N l stage shift = some res) : Calls Try.prog 18 #[.slice l_p l.length l_c, .int .i64 stage, .int .i64 shift] w (fun e w => e = .returned (.tuple #[.agg #[.int .i64 res.1.N, .int .i64 res.1.D], .int .i64 res.2]) ∧ Ctx G (Lf) w) := by
  unfold ref05_Means at hF
  refine fnIn (args := [.slice l_p l.length l_c, .int .i64 stage, .int .i64 shift]) Try.func18 rfl Try.ntmps18 rfl fun a hf => ?_
  refine wp_seq_k fun K1 h1 => ?_
  refine cReg ?_
  refine stAl (cs := [.int .i64 0, .int .i64 0]) hf hc rfl rfl zr_37 rfl fun b_1 a w hf hc => ?_
  refine stP hf rfl rfl rfl (pA rfl) fun a hf => ?_
  refine cNil ?_
  refine h1 _ _ ?_
  refine wp_seq_k fun K2 h2 => ?_
  refine wp_seq_k fun K3 h3 => ?_
  refine cReg ?_
  refine stP hf rfl rfl rfl (pM rfl) fun a hf => ?_
  obtain ⟨r, hr, hF⟩ := bnd_some hF
  refine stE hf hc rfl rfl rfl (eC (v := .int .i64 r) (vs := [.slice l_p l.length l_c]) (caps := []) en_65 rfl rfl rfl rfl (fun w hc => ref05_marks_ok l h_l hc hr)) fun a w hf hc => ?_
  refine stP hf rfl rfl rfl (pA rfl) fun a hf => ?_
  refine cNil ?_
  refine h3 _ _ ?_
  refine wp_seq_k fun K4 h4 => ?_
  refine cReg ?_
  refine stP hf rfl rfl rfl (pM rfl) fun a hf => ?_
  refine stP hf rfl rfl rfl (pNe rfl rfl) fun a hf => ?_
  refine cNil ?_
  refine h4 _ _ ?_
  refine cCond (b := (r != 0)) hf rfl (fun hb => ?_) (fun hb => ?_)
  · replace hF := condT hb hF
    clear hb
    refine wp_seq_k fun K5 h5 => ?_
    refine cReg ?_
    refine stP hf rfl rfl rfl (pBuildS (cells := [.int .i64 0, .int .i64 0]) bt_37 rfl rfl) fun a hf => ?_
    refine stP hf rfl rfl rfl (pM rfl) fun a hf => ?_
    refine stSt (vs := [.int .i64 0, .int .i64 0]) hf hc rfl rfl rfl rfl sz_37 rfl rfl u0 fun w hc => ?_
    refine stP hf rfl rfl rfl (pA rfl) fun a hf => ?_
    refine cNil ?_
    refine h5 _ _ ?_
    refine wp_ret ?_
    refine xThenR ?_
    obtain rfl := Option.some.inj hF
    exact fnOut2 (by simp) rfl Try.results18 hf hc (rv_cellN (vs := [.int .i64 0, .int .i64 0]) ag_37 rfl rfl (cells_box (n := 2) m0 rfl)) (show look _ 7 = _ from rfl) ⟨rfl, (hc.drop k0)⟩
  · replace hF := condF hb hF
    clear hb
    refine wp_skip ?_
    refine h2 _ _ ?_
    refine wp_seq_k fun K6 h6 => ?_
    refine wp_seq_k fun K7 h7 => ?_
    refine cReg ?_
    refine stP hf rfl rfl rfl (pM rfl) fun a hf => ?_
    obtain ⟨r_1, hr_1, hF⟩ := bnd_some hF
    refine stE hf hc rfl rfl rfl (eC (v := .bool r_1) (vs := [.slice l_p l.length l_c]) (caps := []) en_67 rfl rfl rfl rfl (fun w hc => ref05_mixed_ok l h_l hc hr_1)) fun a w hf hc => ?_
    refine cNil ?_
    refine h7 _ _ ?_
    refine cCond (b := r_1) hf rfl (fun hb => ?_) (fun hb => ?_)
    · replace hF := condT hb hF
      clear hb
      refine wp_seq_k fun K8 h8 => ?_
      refine cReg ?_
      refine stP hf rfl rfl rfl (pBuildS (cells := [.int .i64 0, .int .i64 0]) bt_37 rfl rfl) fun a hf => ?_
      refine stSt (vs := [.int .i64 0, .int .i64 0]) hf hc rfl rfl rfl rfl sz_37 rfl rfl u0 fun w hc => ?_
      refine stP hf rfl rfl rfl (pA rfl) fun a hf => ?_
      refine cNil ?_
      refine h8 _ _ ?_
      refine wp_ret ?_
      refine xThenR ?_
      obtain rfl := Option.some.inj hF
      exact fnOut2 (by simp) rfl Try.results18 hf hc (rv_cellN (vs := [.int .i64 0, .int .i64 0]) ag_37 rfl rfl (cells_box (n := 2) m0 rfl)) (show look _ 7 = _ from rfl) ⟨rfl, (hc.drop k0)⟩
    · replace hF := condF hb hF
      clear hb
      refine wp_skip ?_
      refine h6 _ _ ?_
      refine wp_seq_k fun K9 h9 => ?_
      refine wp_seq_k fun K10 h10 => ?_
      refine cReg ?_
      refine stP hf rfl rfl rfl (pM rfl) fun a hf => ?_
      refine stE hf hc rfl rfl rfl (eC (v := .bool (ref05_outside stage (-2000) 2000)) (vs := [.int .i64 stage, .int .i64 (-2000), .int .i64 2000]) (caps := []) en_66 rfl rfl rfl rfl (fun w hc => ref05_outside_ok stage (-2000) 2000 hc rfl)) fun a w hf hc => ?_
      refine stP hf rfl rfl rfl (pM rfl) fun a hf => ?_
      refine stCut 3 (fun a w => Has 30 a [(0, .slice l_p l.length l_c), (1, .int .i64 stage), (2, .int .i64 shift), (6, .pointer (some ⟨b_1, 0, none⟩)), (18, .int .i64 stage), (19, .bool (ref05_outside stage (-2000) 2000)), (20, .bool (ref05_outside stage (-2000) 2000)), (23, .bool ((ref05_outside stage (-2000) 2000) || (ref05_outside shift (-300) 300)))] ∧ Ctx G (.box b_1 [.int .i64 0, .int .i64 0] 37 :: Lf) w) ?_ ?_
      · cases hb : (ref05_outside stage (-2000) 2000)
        · rw [hb] at hf
          refine stP hf rfl rfl rfl (pM rfl) fun a hf => ?_
          refine stE hf hc rfl rfl rfl (eC (v := .bool (ref05_outside shift (-300) 300)) (vs := [.int .i64 shift, .int .i64 (-300), .int .i64 300]) (caps := []) en_66 rfl rfl rfl rfl (fun w hc => ref05_outside_ok shift (-300) 300 hc rfl)) fun a w hf hc => ?_
          refine stP hf rfl rfl rfl (pPf rfl rfl) fun a hf => ?_
          exact cNil ⟨hf.keep ⟨rfl, rfl, rfl, rfl, rfl, rfl, rfl, rfl, trivial⟩, hc⟩
        · rw [hb] at hf
          refine stS hf rfl rfl rfl fun a hf => ?_
          refine stS hf rfl rfl rfl fun a hf => ?_
          refine stP hf rfl rfl rfl (pPt rfl rfl) fun a hf => ?_
          exact cNil ⟨hf.keep ⟨rfl, rfl, rfl, rfl, rfl, rfl, rfl, rfl, trivial⟩, hc⟩
      intro a w ⟨hf, hc⟩
      refine cNil ?_
      refine h10 _ _ ?_
      refine cCond (b := ((ref05_outside stage (-2000) 2000) || (ref05_outside shift (-300) 300))) hf rfl (fun hb => ?_) (fun hb => ?_)
      · replace hF := condT hb hF
        clear hb
        refine wp_seq_k fun K11 h11 => ?_
        refine cReg ?_
        refine stP hf rfl rfl rfl (pBuildS (cells := [.int .i64 0, .int .i64 0]) bt_37 rfl rfl) fun a hf => ?_
        refine stSt (vs := [.int .i64 0, .int .i64 0]) hf hc rfl rfl rfl rfl sz_37 rfl rfl u0 fun w hc => ?_
        refine stP hf rfl rfl rfl (pA rfl) fun a hf => ?_
        refine cNil ?_
        refine h11 _ _ ?_
        refine wp_ret ?_
        refine xThenR ?_
        obtain rfl := Option.some.inj hF
        exact fnOut2 (by simp) rfl Try.results18 hf hc (rv_cellN (vs := [.int .i64 0, .int .i64 0]) ag_37 rfl rfl (cells_box (n := 2) m0 rfl)) (show look _ 7 = _ from rfl) ⟨rfl, (hc.drop k0)⟩
      · replace hF := condF hb hF
        clear hb
        refine wp_skip ?_
        refine h9 _ _ ?_
        refine wp_seq_k fun K12 h12 => ?_
        refine cReg ?_
        refine stP hf rfl rfl rfl (pM rfl) fun a hf => ?_
        refine stP hf rfl rfl rfl (pM rfl) fun a hf => ?_
        refine stP hf rfl rfl rfl (pM rfl) fun a hf => ?_
        refine stP hf rfl rfl rfl (pSub rfl rfl) fun a hf => ?_
        obtain ⟨r_2, hr_2, hF⟩ := bnd_some hF
        refine stE hf hc rfl rfl rfl (eC (v := .agg #[.int .i64 r_2.N, .int .i64 r_2.D]) (vs := [.slice l_p l.length l_c, .int .i64 (W (stage - shift))]) (caps := []) en_70 rfl rfl rfl rfl (fun w hc => ref05_flow_ok l (W (stage - shift)) h_l hc hr_2)) fun a w hf hc => ?_
        refine stSt (vs := [.int .i64 r_2.N, .int .i64 r_2.D]) hf hc rfl rfl rfl rfl sz_37 rfl rfl u0 fun w hc => ?_
        refine stP hf rfl rfl rfl (pA rfl) fun a hf => ?_
        refine cNil ?_
        refine h12 _ _ ?_
        refine wp_ret ?_
        obtain rfl := Option.some.inj hF
        exact fnOut2 (by simp) rfl Try.results18 hf hc (rv_cellN (vs := [.int .i64 r_2.N, .int .i64 r_2.D]) ag_37 rfl rfl (cells_box (n := 2) m0 rfl)) (show look _ 7 = _ from rfl) ⟨rfl, (hc.drop k0)⟩

def ref05_Rising (N : Nat) (l : List ref05_Mark) (stage : Int) (shift : Int) (rise : Int) (per : Int) : Option (api_Ratio × Int) :=
  Option.bind (ref05_Means N l stage shift) fun r =>
  cond (r.2 != 0)
  (some ((⟨0, 0⟩ : api_Ratio), r.2))
  (cond ((ref05_outside rise (-1000) 1000) || (ref05_outside per 0 1000))
  (some ((⟨0, 0⟩ : api_Ratio), 4))
  (cond (decide ((W (1000 + (W (rise * per)))) < 0))
  (some ((⟨0, 1⟩ : api_Ratio), 0))
  (Option.bind (ref05_lowest N (W (r.1.N * (W (1000 + (W (rise * per)))))) (W (r.1.D * 1000))) fun r_1 =>
  some (r_1, 0))))
theorem ref05_Rising_ok {N : Nat} {G : Pers} {Lf : List Ent} {w : World} (l : List ref05_Mark) (stage : Int) (shift : Int) (rise : Int) (per : Int) {l_p : Option Addr} {l_c : Nat} (h_l : Rd G 2 l_p l_c (l.map enc_ref05_Mark)) (hc : Ctx G (Lf) w) {res : api_Ratio × Int} (hF : ref05_Rising N l stage shift rise per = some res) : Calls Try.prog 21 #[.slice l_p l.length l_c, .int .i64 stage, .int .i64 shift, .int .i64 rise, .int .i64 per] w (fun e w => e = .returned (.tuple #[.agg #[.int .i64 res.1.N, .int .i64 res.1.D], .int .i64 res.2]) ∧ Ctx G (Lf) w) := by
  unfold ref05_Rising at hF
  refine fnIn (args := [.slice l_p l.length l_c, .int .i64 stage, .int .i64 shift, .int .i64 rise, .int .i64 per]) Try.func21 rfl Try.ntmps21 rfl fun a hf => ?_
  refine wp_seq_k fun K1 h1 => ?_
  refine cReg ?_
  refine stAl (cs := [.int .i64 0, .int .i64 0]) hf hc rfl rfl zr_37 rfl fun b_1 a w hf hc => ?_
  refine stP hf rfl rfl rfl (pA rfl) fun a hf => ?_
  refine cNil ?_
  refine h1 _ _ ?_
  refine wp_seq_k fun K2 h2 => ?_
  refine cReg ?_
  refine stP hf rfl rfl rfl (pM rfl) fun a hf => ?_
  refine stP hf rfl rfl rfl (pM rfl) fun a hf => ?_
  refine stP hf rfl rfl rfl (pM rfl) fun a hf => ?_
  obtain ⟨r, hr, hF⟩ := bnd_some hF
  refine stE hf hc rfl rfl rfl (eC (v := .tuple #[.agg #[.int .i64 r.1.N, .int .i64 r.1.D], .int .i64 r.2]) (vs := [.slice l_p l.length l_c, .int .i64 stage, .int .i64 shift]) (caps := []) en_18 rfl rfl rfl rfl (fun w hc => ref05_Means_ok l stage shift h_l hc hr)) fun a w hf hc => ?_
  refine stP hf rfl rfl rfl (pM rfl) fun a hf => ?_
  refine stP hf rfl rfl rfl (pX rfl rfl) fun a hf => ?_
  refine stP hf rfl rfl rfl (pX rfl rfl) fun a hf => ?_
  refine stAl (cs := [.int .i64 0, .int .i64 0]) hf hc rfl rfl zr_37 rfl fun b_2 a w hf hc => ?_
  refine stSt (vs := [.int .i64 r.1.N, .int .i64 r.1.D]) hf hc rfl rfl rfl rfl sz_37 rfl rfl u0 fun w hc => ?_
  refine stP hf rfl rfl rfl (pA rfl) fun a hf => ?_
  refine cNil ?_
  refine h2 _ _ ?_
  refine wp_seq_k fun K3 h3 => ?_
  refine wp_seq_k fun K4 h4 => ?_
  refine cReg ?_
  refine stP hf rfl rfl rfl (pM rfl) fun a hf => ?_
  refine stP hf rfl rfl rfl (pNe rfl rfl) fun a hf => ?_
  refine cNil ?_
  refine h4 _ _ ?_
  refine cCond (b := (r.2 != 0)) hf rfl (fun hb => ?_) (fun hb => ?_)
  · replace hF := condT hb hF
    clear hb
    refine wp_seq_k fun K5 h5 => ?_
    refine cReg ?_
    refine stP hf rfl rfl rfl (pBuildS (cells := [.int .i64 0, .int .i64 0]) bt_37 rfl rfl) fun a hf => ?_
    refine stP hf rfl rfl rfl (pM rfl) fun a hf => ?_
    refine stSt (vs := [.int .i64 0, .int .i64 0]) hf hc rfl rfl rfl rfl sz_37 rfl rfl u1 fun w hc => ?_
    refine stP hf rfl rfl rfl (pA rfl) fun a hf => ?_
    refine cNil ?_
    refine h5 _ _ ?_
    refine wp_ret ?_
    refine xThenR ?_
    obtain rfl := Option.some.inj hF
    replace hc := hc.drop k0
    exact fnOut2 (by simp) rfl Try.results21 hf hc (rv_cellN (vs := [.int .i64 0, .int .i64 0]) ag_37 rfl rfl (cells_box (n := 2) m0 rfl)) (show look _ 11 = _ from rfl) ⟨rfl, (hc.drop k0)⟩
  · replace hF := condF hb hF
    clear hb
    refine wp_skip ?_
    refine h3 _ _ ?_
    refine wp_seq_k fun K6 h6 => ?_
    refine wp_seq_k fun K7 h7 => ?_
    refine cReg ?_
    refine stP hf rfl rfl rfl (pM rfl) fun a hf => ?_
    refine stE hf hc rfl rfl rfl (eC (v := .bool (ref05_outside rise (-1000) 1000)) (vs := [.int .i64 rise, .int .i64 (-1000), .int .i64 1000]) (caps := []) en_66 rfl rfl rfl rfl (fun w hc => ref05_outside_ok rise (-1000) 1000 hc rfl)) fun a w hf hc => ?_
    refine stP hf rfl rfl rfl (pM rfl) fun a hf => ?_
    refine stCut 3 (fun a w => Has 49 a [(3, .int .i64 rise), (4, .int .i64 per), (10, .pointer (some ⟨b_1, 0, none⟩)), (12, .pointer (some ⟨b_2, 0, none⟩)), (25, .int .i64 rise), (26, .bool (ref05_outside rise (-1000) 1000)), (27, .bool (ref05_outside rise (-1000) 1000)), (30, .bool ((ref05_outside rise (-1000) 1000) || (ref05_outside per 0 1000)))] ∧ Ctx G (.box b_2 [.int .i64 r.1.N, .int .i64 r.1.D] 37 :: .box b_1 [.int .i64 0, .int .i64 0] 37 :: Lf) w) ?_ ?_
    · cases hb : (ref05_outside rise (-1000) 1000)
      · rw [hb] at hf
        refine stP hf rfl rfl rfl (pM rfl) fun a hf => ?_
        refine stE hf hc rfl rfl rfl (eC (v := .bool (ref05_outside per 0 1000)) (vs := [.int .i64 per, .int .i64 0, .int .i64 1000]) (caps := []) en_66 rfl rfl rfl rfl (fun w hc => ref05_outside_ok per 0 1000 hc rfl)) fun a w hf hc => ?_
        refine stP hf rfl rfl rfl (pPf rfl rfl) fun a hf => ?_
        exact cNil ⟨hf.keep ⟨rfl, rfl, rfl, rfl, rfl, rfl, rfl, rfl, trivial⟩, hc⟩
      · rw [hb] at hf
        refine stS hf rfl rfl rfl fun a hf => ?_
        refine stS hf rfl rfl rfl fun a hf => ?_
        refine stP hf rfl rfl rfl (pPt rfl rfl) fun a hf => ?_
        exact cNil ⟨hf.keep ⟨rfl, rfl, rfl, rfl, rfl, rfl, rfl, rfl, trivial⟩, hc⟩
    intro a w ⟨hf, hc⟩
    refine cNil ?_
    refine h7 _ _ ?_
    refine cCond (b := ((ref05_outside rise (-1000) 1000) || (ref05_outside per 0 1000))) hf rfl (fun hb => ?_) (fun hb => ?_)
    · replace hF := condT hb hF
      clear hb
      refine wp_seq_k fun K8 h8 => ?_
      refine cReg ?_
      refine stP hf rfl rfl rfl (pBuildS (cells := [.int .i64 0, .int .i64 0]) bt_37 rfl rfl) fun a hf => ?_
      refine stSt (vs := [.int .i64 0, .int .i64 0]) hf hc rfl rfl rfl rfl sz_37 rfl rfl u1 fun w hc => ?_
      refine stP hf rfl rfl rfl (pA rfl) fun a hf => ?_
      refine cNil ?_
      refine h8 _ _ ?_
      refine wp_ret ?_
      refine xThenR ?_
      obtain rfl := Option.some.inj hF
      replace hc := hc.drop k0
      exact fnOut2 (by simp) rfl Try.results21 hf hc (rv_cellN (vs := [.int .i64 0, .int .i64 0]) ag_37 rfl rfl (cells_box (n := 2) m0 rfl)) (show look _ 11 = _ from rfl) ⟨rfl, (hc.drop k0)⟩
    · replace hF := condF hb hF
      clear hb
      refine wp_skip ?_
      refine h6 _ _ ?_
      refine wp_seq_k fun K9 h9 => ?_
      refine wp_seq_k fun K10 h10 => ?_
      refine cReg ?_
      refine stP hf rfl rfl rfl (pM rfl) fun a hf => ?_
      refine stP hf rfl rfl rfl (pM rfl) fun a hf => ?_
      refine stP hf rfl rfl rfl (pMul rfl rfl) fun a hf => ?_
      refine stP hf rfl rfl rfl (pAdd rfl rfl) fun a hf => ?_
      refine stP hf rfl rfl rfl (pLt rfl rfl) fun a hf => ?_
      refine cNil ?_
      refine h10 _ _ ?_
      refine cCond (b := (decide ((W (1000 + (W (rise * per)))) < 0))) hf rfl (fun hb => ?_) (fun hb => ?_)
      · replace hF := condT hb hF
        clear hb
        refine wp_seq_k fun K11 h11 => ?_
        refine cReg ?_
        refine stP hf rfl rfl rfl (pBuildS (cells := [.int .i64 0, .int .i64 1]) bt_37 rfl rfl) fun a hf => ?_
        refine stSt (vs := [.int .i64 0, .int .i64 1]) hf hc rfl rfl rfl rfl sz_37 rfl rfl u1 fun w hc => ?_
        refine stP hf rfl rfl rfl (pA rfl) fun a hf => ?_
        refine cNil ?_
        refine h11 _ _ ?_
        refine wp_ret ?_
        refine xThenR ?_
        obtain rfl := Option.some.inj hF
        replace hc := hc.drop k0
        exact fnOut2 (by simp) rfl Try.results21 hf hc (rv_cellN (vs := [.int .i64 0, .int .i64 1]) ag_37 rfl rfl (cells_box (n := 2) m0 rfl)) (show look _ 11 = _ from rfl) ⟨rfl, (hc.drop k0)⟩
      · replace hF := condF hb hF
        clear hb
        refine wp_skip ?_
        refine h9 _ _ ?_
        refine wp_seq_k fun K12 h12 => ?_
        refine cReg ?_
        refine stP hf rfl rfl rfl (pFA fa_37_0 rfl) fun a hf => ?_
        refine stE hf hc rfl rfl rfl (eLd1 sc_3 rfl (cell_box m0 rfl)) fun a w hf hc => ?_
        refine stP hf rfl rfl rfl (pM rfl) fun a hf => ?_
        refine stP hf rfl rfl rfl (pM rfl) fun a hf => ?_
        refine stP hf rfl rfl rfl (pMul rfl rfl) fun a hf => ?_
        refine stP hf rfl rfl rfl (pAdd rfl rfl) fun a hf => ?_
        refine stP hf rfl rfl rfl (pMul rfl rfl) fun a hf => ?_
        refine stP hf rfl rfl rfl (pFA fa_37_1 rfl) fun a hf => ?_
        refine stE hf hc rfl rfl rfl (eLd1 sc_3 rfl (cell_box m0 rfl)) fun a w hf hc => ?_
        refine stP hf rfl rfl rfl (pMul rfl rfl) fun a hf => ?_
        obtain ⟨r_1, hr_1, hF⟩ := bnd_some hF
        refine stE hf hc rfl rfl rfl (eC (v := .agg #[.int .i64 r_1.N, .int .i64 r_1.D]) (vs := [.int .i64 (W (r.1.N * (W (1000 + (W (rise * per)))))), .int .i64 (W (r.1.D * 1000))]) (caps := []) en_72 rfl rfl rfl rfl (fun w hc => ref05_lowest_ok (W (r.1.N * (W (1000 + (W (rise * per)))))) (W (r.1.D * 1000)) hc hr_1)) fun a w hf hc => ?_
        refine stSt (vs := [.int .i64 r_1.N, .int .i64 r_1.D]) hf hc rfl rfl rfl rfl sz_37 rfl rfl u1 fun w hc => ?_
        refine stP hf rfl rfl rfl (pA rfl) fun a hf => ?_
        refine cNil ?_
        refine h12 _ _ ?_
        refine wp_ret ?_
        obtain rfl := Option.some.inj hF
        replace hc := hc.drop k0
        exact fnOut2 (by simp) rfl Try.results21 hf hc (rv_cellN (vs := [.int .i64 r_1.N, .int .i64 r_1.D]) ag_37 rfl rfl (cells_box (n := 2) m0 rfl)) (show look _ 11 = _ from rfl) ⟨rfl, (hc.drop k0)⟩

def ref05_Passes_j24 (N : Nat) (shift : Int) (l_1 : List Int) : Option (Step ((List Int) × Int) (Step ((List api_Span) × Int) ((List api_Span) × Int))) :=
  some (.cont (l_1, W (shift + 1)))
def ref05_Passes_b18 (N : Nat) (r : ref05_Record) (e_1 : ref05_Gauging) (l : List Int) (shift : Int) : Option (Step ((List Int) × Int) (Step ((List api_Span) × Int) ((List api_Span) × Int))) :=
  cond (decide (shift ≤ 300))
  (Option.bind (ref05_flow N r.Rating (W (e_1.Stage - shift))) fun r_1 =>
  cond ((decide ((W (e_1.Flow.Lo * r_1.D)) ≤ r_1.N)) && (decide (r_1.N ≤ (W (e_1.Flow.Hi * r_1.D)))))
  (Option.bind (room ((l ++ [shift])).length) fun un_1 =>
  ref05_Passes_j24 N shift (l ++ [shift]))
  (ref05_Passes_j24 N shift l))
  (some (.brk (l, shift)))
def ref05_Passes_b9 (N : Nat) (r : ref05_Record) (out : List api_Span) (i_1 : Int) : Option (Step ((List api_Span) × Int) ((List api_Span) × Int)) :=
  cond (decide (i_1 < ((r.Gaugings.length : Nat) : Int)))
  (Option.bind (getI r.Gaugings i_1) fun e_1 =>
  Option.bind (loopO (fun s18 => ref05_Passes_b18 N r e_1 s18.1 s18.2) N (([] : List Int), (-300))) fun x18 =>
  exK x18 (fun s18 => cond (((s18.1.length : Nat) : Int) == 0)
  (some (.ret (([] : List api_Span), 6)))
  (Option.bind (getI s18.1 0) fun e_2 =>
  Option.bind (getI s18.1 (W (((s18.1.length : Nat) : Int) - 1))) fun e_3 =>
  Option.bind (room ((out ++ [(⟨e_2, e_3⟩ : api_Span)])).length) fun un =>
  some (.cont ((out ++ [(⟨e_2, e_3⟩ : api_Span)]), W (i_1 + 1))))) some)
  (some (.brk (out, i_1)))
def ref05_Passes (N : Nat) (r : ref05_Record) : Option ((List api_Span) × Int) :=
  Option.bind (ref05_Check N r) fun r_0 =>
  cond (r_0 != 0)
  (some (([] : List api_Span), r_0))
  (Option.bind (loopO (fun s9 => ref05_Passes_b9 N r s9.1 s9.2) N (([] : List api_Span), 0)) fun x9 =>
  exK x9 (fun s9 => some (s9.1, 0)) some)
theorem ref05_Passes_ok {N : Nat} {G : Pers} {Lf : List Ent} {w : World} (r : ref05_Record) {r_Rating_p : Option Addr} {r_Rating_c : Nat} {r_Gaugings_p : Option Addr} {r_Gaugings_c : Nat} (h_r_Rating : Rd G 2 r_Rating_p r_Rating_c (r.Rating.map enc_ref05_Mark)) (h_r_Gaugings : Rd G 4 r_Gaugings_p r_Gaugings_c (r.Gaugings.map enc_ref05_Gauging)) (hc : Ctx G (Lf) w) {res : (List api_Span) × Int} (hF : ref05_Passes N r = some res) : Calls Try.prog 23 #[.agg #[.slice r_Rating_p r.Rating.length r_Rating_c, .slice r_Gaugings_p r.Gaugings.length r_Gaugings_c]] w (fun e w => ∃ (p'1 : Option Addr) (c'1 : Nat), e = .returned (.tuple #[.slice p'1 res.1.length c'1, .int .i64 res.2]) ∧ Ctx G (.row p'1 c'1 (res.1.map enc_api_Span) 50 2 :: Lf) w) := by
  unfold ref05_Passes at hF
  refine fnIn (args := [.agg #[.slice r_Rating_p r.Rating.length r_Rating_c, .slice r_Gaugings_p r.Gaugings.length r_Gaugings_c]]) Try.func23 rfl Try.ntmps23 rfl fun a hf => ?_
  refine wp_seq_k fun K1 h1 => ?_
  refine cReg ?_
  refine stBx (cs := [.slice r_Rating_p r.Rating.length r_Rating_c, .slice r_Gaugings_p r.Gaugings.length r_Gaugings_c]) hf hc rfl rfl rfl rfl fun b_1 a w hf hc => ?_
  refine stP hf rfl rfl rfl (pA rfl) fun a hf => ?_
  refine stP hf rfl rfl rfl (pA rfl) fun a hf => ?_
  refine cNil ?_
  refine h1 _ _ ?_
  refine wp_seq_k fun K2 h2 => ?_
  refine wp_seq_k fun K3 h3 => ?_
  refine cReg ?_
  refine stE hf hc rfl rfl rfl (eLdN (vs := [.slice r_Rating_p r.Rating.length r_Rating_c, .slice r_Gaugings_p r.Gaugings.length r_Gaugings_c]) ag_34 rfl rfl (cells_box (n := 2) m0 rfl)) fun a w hf hc => ?_
  obtain ⟨r_0, hr_0, hF⟩ := bnd_some hF
  refine stE hf hc rfl rfl rfl (eC (v := .int .i64 r_0) (vs := [.agg #[.slice r_Rating_p r.Rating.length r_Rating_c, .slice r_Gaugings_p r.Gaugings.length r_Gaugings_c]]) (caps := []) en_15 rfl rfl rfl rfl (fun w hc => ref05_Check_ok r h_r_Rating h_r_Gaugings hc hr_0)) fun a w hf hc => ?_
  refine stP hf rfl rfl rfl (pA rfl) fun a hf => ?_
  refine cNil ?_
  refine h3 _ _ ?_
  refine wp_seq_k fun K4 h4 => ?_
  refine cReg ?_
  refine stP hf rfl rfl rfl (pM rfl) fun a hf => ?_
  refine stP hf rfl rfl rfl (pNe rfl rfl) fun a hf => ?_
  refine cNil ?_
  refine h4 _ _ ?_
  refine cCond (b := (r_0 != 0)) hf rfl (fun hb => ?_) (fun hb => ?_)
  · replace hF := condT hb hF
    clear hb
    refine wp_seq_k fun K5 h5 => ?_
    refine cReg ?_
    refine stP hf rfl rfl rfl (pM rfl) fun a hf => ?_
    refine stP hf rfl rfl rfl (pA rfl) fun a hf => ?_
    refine stP hf rfl rfl rfl (pA rfl) fun a hf => ?_
    refine cNil ?_
    refine h5 _ _ ?_
    refine wp_ret ?_
    refine xThenR ?_
    obtain rfl := Option.some.inj hF
    replace hc := hc.nilRow 50 2
    replace hc := hc.drop k1
    exact fnOut2 (by simp) rfl Try.results23 hf hc (show look _ 2 = _ from rfl) (show look _ 3 = _ from rfl) ⟨none, 0, rfl, hc⟩
  · replace hF := condF hb hF
    clear hb
    refine wp_skip ?_
    refine h2 _ _ ?_
    refine wp_seq_k fun K6 h6 => ?_
    refine cReg ?_
    refine stP hf rfl rfl rfl (pA rfl) fun a hf => ?_
    refine cNil ?_
    refine h6 _ _ ?_
    refine wp_seq_k fun K7 h7 => ?_
    refine wp_seq_k fun K8 h8 => ?_
    refine cReg ?_
    refine stP hf rfl rfl rfl (pA rfl) fun a hf => ?_
    refine cNil ?_
    refine h8 _ _ ?_
    refine wp_block ?_
    obtain ⟨x9, hx9, hF⟩ := bnd_some hF
    let S9 : ((List api_Span) × Int) → Act → World → Prop := (fun (zz : (List api_Span) × Int) a w => ∃ (p_1 : Option Addr) (c_1 : Nat), Has 80 a [(1, .pointer (some ⟨b_1, 0, none⟩)), (5, .slice p_1 zz.1.length c_1), (6, .int .i64 zz.2)] ∧ Ctx G (.row p_1 c_1 (zz.1.map enc_api_Span) 50 2 :: .box b_1 [.slice r_Rating_p r.Rating.length r_Rating_c, .slice r_Gaugings_p r.Gaugings.length r_Gaugings_c] 34 :: Lf) w)
    have hr9 : ∀ (zz : (List api_Span) × Int) a w, x9 = .go zz → S9 zz a w → K7 a w := by
      rintro ⟨out, i_1⟩ a w rfl ⟨p_1, c_1, hf, hc⟩
      replace hF : _ = some res := hF
      refine h7 _ _ ?_
      refine wp_seq_k fun K10 h10 => ?_
      refine cReg ?_
      refine stP hf rfl rfl rfl (pM rfl) fun a hf => ?_
      refine stP hf rfl rfl rfl (pA rfl) fun a hf => ?_
      refine stP hf rfl rfl rfl (pA rfl) fun a hf => ?_
      refine cNil ?_
      refine h10 _ _ ?_
      refine wp_ret ?_
      obtain rfl := Option.some.inj hF
      replace hc := hc.drop k1
      exact fnOut2 (by simp) rfl Try.results23 hf hc (show look _ 2 = _ from rfl) (show look _ 3 = _ from rfl) ⟨p_1, c_1, rfl, hc⟩
    have ho9 : ∀ r, x9 = .out r → r = res := by
      rintro r rfl
      exact Option.some.inj hF
    replace hc := hc.nilRow 50 2
    refine cLoop N (loopW (S := S9) (x := x9) ?_ N (([] : List api_Span), 0) _ _ ⟨none, 0, hf.keep ⟨rfl, rfl, rfl, trivial⟩, hc⟩ hx9)
    clear hF hf hc
    rintro ⟨out, i_1⟩ st9 a w KB9 ⟨p_1, c_1, hf, hc⟩ hF hfin9 hK9
    unfold ref05_Passes_b9 at hF
    refine wp_seq_k fun K11 h11 => ?_
    refine wp_seq_k fun K12 h12 => ?_
    refine cReg ?_
    refine stP hf rfl rfl rfl (pM rfl) fun a hf => ?_
    refine stP hf rfl rfl rfl (pFA fa_34_1 rfl) fun a hf => ?_
    refine stE hf hc rfl rfl rfl (eLd1 sc_32 rfl (cell_box m1 rfl)) fun a w hf hc => ?_
    refine stP hf rfl rfl rfl (pLenS Try.underlying32 rfl) fun a hf => ?_
    refine stP hf rfl rfl rfl (pLt rfl rfl) fun a hf => ?_
    refine cNil ?_
    refine h12 _ _ ?_
    refine cCond (b := (decide (i_1 < ((r.Gaugings.length : Nat) : Int)))) hf rfl (fun hb => ?_) (fun hb => ?_)
    · replace hF := condT hb hF
      clear hb
      refine wp_skip ?_
      refine h11 _ _ ?_
      refine wp_seq_k fun K13 h13 => ?_
      refine wp_block ?_
      refine wp_seq_k fun K14 h14 => ?_
      refine cReg ?_
      refine stP hf rfl rfl rfl (pFA fa_34_1 rfl) fun a hf => ?_
      refine stE hf hc rfl rfl rfl (eLd1 sc_32 rfl (cell_box m1 rfl)) fun a w hf hc => ?_
      refine stP hf rfl rfl rfl (pM rfl) fun a hf => ?_
      obtain ⟨e_1, he_1, hF⟩ := bnd_some hF
      obtain ⟨b_2, o, qa, qp⟩ := h_r_Gaugings.atm he_1
      refine stP hf rfl rfl rfl (pIA Try.underlying32 sz_129 rfl rfl qa) fun a hf => ?_
      refine stE hf hc rfl rfl rfl (eLdN (vs := [.int .i64 e_1.Day, .int .i64 e_1.Stage, .int .i64 e_1.Flow.Lo, .int .i64 e_1.Flow.Hi]) ag_129 rfl rfl (cells_pc qp (n := 4) (o' := 0) rfl)) fun a w hf hc => ?_
      refine stAl (cs := [.int .i64 0, .int .i64 0, .int .i64 0, .int .i64 0]) hf hc rfl rfl zr_129 rfl fun b_3 a w hf hc => ?_
      refine stSt (vs := [.int .i64 e_1.Day, .int .i64 e_1.Stage, .int .i64 e_1.Flow.Lo, .int .i64 e_1.Flow.Hi]) hf hc rfl rfl rfl rfl sz_129 rfl rfl u0 fun w hc => ?_
      refine cNil ?_
      refine h14 _ _ ?_
      refine wp_seq_k fun K15 h15 => ?_
      refine cReg ?_
      refine stP hf rfl rfl rfl (pA rfl) fun a hf => ?_
      refine cNil ?_
      refine h15 _ _ ?_
      refine wp_seq_k fun K16 h16 => ?_
      refine wp_seq_k fun K17 h17 => ?_
      refine cReg ?_
      refine stP hf rfl rfl rfl (pA rfl) fun a hf => ?_
      refine cNil ?_
      refine h17 _ _ ?_
      refine wp_block ?_
      obtain ⟨x18, hx18, hF⟩ := bnd_some hF
      let S18 : ((List Int) × Int) → Act → World → Prop := (fun (zz : (List Int) × Int) a w => ∃ (p_2 : Option Addr) (c_2 : Nat), Has 80 a [(1, .pointer (some ⟨b_1, 0, none⟩)), (5, .slice p_1 out.length c_1), (6, .int .i64 i_1), (7, .pointer (some ⟨b_3, 0, none⟩)), (8, .slice p_2 zz.1.length c_2), (9, .int .i64 zz.2)] ∧ Ctx G (.row p_2 c_2 (zz.1.map encI_i64) 3 1 :: .box b_3 [.int .i64 e_1.Day, .int .i64 e_1.Stage, .int .i64 e_1.Flow.Lo, .int .i64 e_1.Flow.Hi] 129 :: .row p_1 c_1 (out.map enc_api_Span) 50 2 :: .box b_1 [.slice r_Rating_p r.Rating.length r_Rating_c, .slice r_Gaugings_p r.Gaugings.length r_Gaugings_c] 34 :: Lf) w)
      have hr18 : ∀ (zz : (List Int) × Int) a w, x18 = .go zz → S18 zz a w → K16 a w := by
        rintro ⟨l, shift⟩ a w rfl ⟨p_2, c_2, hf, hc⟩
        replace hF : _ = some st9 := hF
        refine h16 _ _ ?_
        refine wp_seq_k fun K19 h19 => ?_
        refine wp_seq_k fun K20 h20 => ?_
        refine cReg ?_
        refine stP hf rfl rfl rfl (pM rfl) fun a hf => ?_
        refine stP hf rfl rfl rfl (pLenS Try.underlying61 rfl) fun a hf => ?_
        refine stP hf rfl rfl rfl (pEq rfl rfl) fun a hf => ?_
        refine cNil ?_
        refine h20 _ _ ?_
        refine cCond (b := (((l.length : Nat) : Int) == 0)) hf rfl (fun hb => ?_) (fun hb => ?_)
        · replace hF := condT hb hF
          clear hb
          refine wp_seq_k fun K21 h21 => ?_
          refine cReg ?_
          refine stP hf rfl rfl rfl (pA rfl) fun a hf => ?_
          refine stP hf rfl rfl rfl (pA rfl) fun a hf => ?_
          refine cNil ?_
          refine h21 _ _ ?_
          refine wp_ret ?_
          refine xThenR ?_
          refine xBlkR ?_
          refine xThenR ?_
          refine xThenR ?_
          have he := Option.some.inj hF
          rw [← he] at hfin9
          replace hF := ho9 _ hfin9
          refine xBlkR ?_
          refine xThenR ?_
          obtain rfl := hF
          replace hc := hc.nilRow 50 2
          replace hc := hc.drop k4
          replace hc := hc.drop k3
          replace hc := hc.drop k2
          replace hc := hc.drop k1
          exact fnOut2 (by simp) rfl Try.results23 hf hc (show look _ 2 = _ from rfl) (show look _ 3 = _ from rfl) ⟨none, 0, rfl, hc⟩
        · replace hF := condF hb hF
          clear hb
          refine wp_skip ?_
          refine h19 _ _ ?_
          obtain ⟨e_2, he_2, hF⟩ := bnd_some hF
          obtain ⟨g, rfl, qa_1, qr⟩ := row_atm hc m0 he_2
          obtain ⟨e_3, he_3, hF⟩ := bnd_some hF
          obtain ⟨qa_2, qr_1⟩ := row_atk hc m0 he_3
          obtain ⟨un, hun, hF⟩ := bnd_some hF
          replace hc := hc.nilRow 0 0
          refine regionE (fun θ => [⟨none, none, 1, .pointer (some ⟨b_1, 0, none⟩)⟩, ⟨none, some 13, 5, .slice p_1 out.length c_1⟩, ⟨none, none, 6, .int .i64 i_1⟩, ⟨none, none, 8, .slice (some ⟨g, 0, none⟩) l.length c_2⟩, ⟨some 0, none, 66, .slice p_1 out.length c_1⟩, ⟨some 1, none, 67, .slice (some ⟨g, 0, none⟩) l.length c_2⟩, ⟨some 2, none, 68, .pointer (some ⟨g, (0 : Int).toNat * 1, none⟩)⟩, ⟨some 3, none, 69, .int .i64 e_2⟩, ⟨some 4, none, 70, .slice (some ⟨g, 0, none⟩) l.length c_2⟩, ⟨some 5, none, 71, .slice (some ⟨g, 0, none⟩) l.length c_2⟩, ⟨some 6, none, 72, .int .i64 ((l.length : Nat) : Int)⟩, ⟨some 7, none, 73, .int .i64 (W (((l.length : Nat) : Int) - 1))⟩, ⟨some 8, none, 74, .pointer (some ⟨g, (W (((l.length : Nat) : Int) - 1)).toNat * 1, none⟩)⟩, ⟨some 9, none, 75, .int .i64 e_3⟩, ⟨some 10, none, 76, .agg #[.int .i64 e_2, .int .i64 e_3]⟩, ⟨some 11, none, 77, .slice (some ⟨(θ 88).b, 0, none⟩) 1 1⟩, ⟨some 12, none, 78, .slice ((θ 96).p) ((out ++ [(⟨e_2, e_3⟩ : api_Span)]).length) ((θ 96).c)⟩, ⟨some 13, none, 5, .slice ((θ 96).p) ((out ++ [(⟨e_2, e_3⟩ : api_Span)]).length) ((θ 96).c)⟩]) (fun E θ => (bif E 11 then .row (some ⟨(θ 88).b, 0, none⟩) 1 (([(⟨e_2, e_3⟩ : api_Span)] : List api_Span).map enc_api_Span) 50 2 else .row none 0 [] 0 0) :: .row (some ⟨g, 0, none⟩) c_2 (l.map encI_i64) 3 1 :: .box b_3 [.int .i64 e_1.Day, .int .i64 e_1.Stage, .int .i64 e_1.Flow.Lo, .int .i64 e_1.Flow.Hi] 129 :: (bif E 12 then .row ((θ 96).p) ((θ 96).c) ((out ++ [(⟨e_2, e_3⟩ : api_Span)]).map enc_api_Span) 50 2 else .row p_1 c_1 (out.map enc_api_Span) 50 2) :: .box b_1 [.slice r_Rating_p r.Rating.length r_Rating_c, .slice r_Gaugings_p r.Gaugings.length r_Gaugings_c] 34 :: Lf) [(13, 0), (13, 12)] (fun a w => ∃ (p_4 : Option Addr) (c_4 : Nat) (b_5 : Nat), Has 80 a [(1, .pointer (some ⟨b_1, 0, none⟩)), (6, .int .i64 i_1), (5, .slice p_4 ((out ++ [(⟨e_2, e_3⟩ : api_Span)]).length) c_4)] ∧ Ctx G (.row (some ⟨b_5, 0, none⟩) 1 (([(⟨e_2, e_3⟩ : api_Span)] : List api_Span).map enc_api_Span) 50 2 :: .row (some ⟨g, 0, none⟩) c_2 (l.map encI_i64) 3 1 :: .box b_3 [.int .i64 e_1.Day, .int .i64 e_1.Stage, .int .i64 e_1.Flow.Lo, .int .i64 e_1.Flow.Hi] 129 :: .row p_4 c_4 ((out ++ [(⟨e_2, e_3⟩ : api_Span)]).map enc_api_Span) 50 2 :: .box b_1 [.slice r_Rating_p r.Rating.length r_Rating_c, .slice r_Gaugings_p r.Gaugings.length r_Gaugings_c] 34 :: Lf) w) follows_mx (by kernel_rfl) (by kernel_rfl) (HasE.of hf ⟨rfl, rfl, rfl, rfl, trivial, trivial, trivial, trivial, trivial, trivial, trivial, trivial, trivial, trivial, trivial, trivial, trivial, trivial, trivial⟩) hc ⟨?_, ?_, ?_, ?_, ?_, ?_, ?_, ?_, ?_, ?_, ?_, ?_, ?_, ?_, trivial⟩ ?_ ?_
          · intro E θ a w hD hi hp he hc
            have e13 := hD.f 0 rfl hi
            have hf := he.h0
            replace hf := hf.more he 1 rfl (onN e13)
            refine stP hf rfl rfl rfl (pM rfl) fun a hf => ?_
            refine cNil ?_
            refine xThenN ?_
            intro ds u hau
            refine ⟨θ, he.put0 hi hau hf rfl 4 rfl rfl, ?_⟩
            exact hc
          · intro E θ a w hD hi hp he hc
            have hf := he.h0
            replace hf := hf.more he 3 rfl onT
            refine stP hf rfl rfl rfl (pM rfl) fun a hf => ?_
            refine cNil ?_
            refine xThenN ?_
            intro ds u hau
            refine ⟨θ, he.put0 hi hau hf rfl 5 rfl rfl, ?_⟩
            exact hc
          · intro E θ a w hD hi hp he hc
            have e1 := hp.of (k := 1) rfl
            have hf := he.h0
            replace hf := hf.more he 5 rfl (onP e1)
            refine stP hf rfl rfl rfl (pIA Try.underlying61 sz_3 rfl rfl qa_1) fun a hf => ?_
            refine cNil ?_
            refine xThenN ?_
            intro ds u hau
            refine ⟨θ, he.put0 hi hau hf rfl 6 rfl rfl, ?_⟩
            exact hc
          · intro E θ a w hD hi hp he hc
            have e2 := hp.of (k := 2) rfl
            have hf := he.h0
            replace hf := hf.more he 6 rfl (onP e2)
            refine stE hf hc rfl rfl rfl (eLd1 sc_3 rfl (cell_row (sz := 1) (i := (0 : Int).toNat) (j := 0) m1 qr rfl)) fun a w hf hc => ?_
            refine cNil ?_
            refine xThenN ?_
            intro ds u hau
            refine ⟨θ, he.put0 hi hau hf rfl 7 rfl rfl, ?_⟩
            exact hc
          · intro E θ a w hD hi hp he hc
            have hf := he.h0
            replace hf := hf.more he 3 rfl onT
            refine stP hf rfl rfl rfl (pM rfl) fun a hf => ?_
            refine cNil ?_
            refine xThenN ?_
            intro ds u hau
            refine ⟨θ, he.put0 hi hau hf rfl 8 rfl rfl, ?_⟩
            exact hc
          · intro E θ a w hD hi hp he hc
            have hf := he.h0
            replace hf := hf.more he 3 rfl onT
            refine stP hf rfl rfl rfl (pM rfl) fun a hf => ?_
            refine cNil ?_
            refine xThenN ?_
            intro ds u hau
            refine ⟨θ, he.put0 hi hau hf rfl 9 rfl rfl, ?_⟩
            exact hc
          · intro E θ a w hD hi hp he hc
            have e5 := hp.of (k := 5) rfl
            have hf := he.h0
            replace hf := hf.more he 9 rfl (onP e5)
            refine stP hf rfl rfl rfl (pLenS Try.underlying61 rfl) fun a hf => ?_
            refine cNil ?_
            refine xThenN ?_
            intro ds u hau
            refine ⟨θ, he.put0 hi hau hf rfl 10 rfl rfl, ?_⟩
            exact hc
          · intro E θ a w hD hi hp he hc
            have e6 := hp.of (k := 6) rfl
            have hf := he.h0
            replace hf := hf.more he 10 rfl (onP e6)
            refine stP hf rfl rfl rfl (pSub rfl rfl) fun a hf => ?_
            refine cNil ?_
            refine xThenN ?_
            intro ds u hau
            refine ⟨θ, he.put0 hi hau hf rfl 11 rfl rfl, ?_⟩
            exact hc
          · intro E θ a w hD hi hp he hc
            have e4 := hp.of (k := 4) rfl
            have e7 := hp.of (k := 7) rfl
            have hf := he.h0
            replace hf := hf.more he 8 rfl (onP e4)
            replace hf := hf.more he 11 rfl (onP e7)
            refine stP hf rfl rfl rfl (pIA Try.underlying61 sz_3 rfl rfl qa_2) fun a hf => ?_
            refine cNil ?_
            refine xThenN ?_
            intro ds u hau
            refine ⟨θ, he.put0 hi hau hf rfl 12 rfl rfl, ?_⟩
            exact hc
          · intro E θ a w hD hi hp he hc
            have e8 := hp.of (k := 8) rfl
            have hf := he.h0
            replace hf := hf.more he 12 rfl (onP e8)
            refine stE hf hc rfl rfl rfl (eLd1 sc_3 rfl (cell_row (sz := 1) (i := (W (((l.length : Nat) : Int) - 1)).toNat) (j := 0) m1 qr_1 rfl)) fun a w hf hc => ?_
            refine cNil ?_
            refine xThenN ?_
            intro ds u hau
            refine ⟨θ, he.put0 hi hau hf rfl 13 rfl rfl, ?_⟩
            exact hc
          · intro E θ a w hD hi hp he hc
            have e3 := hp.of (k := 3) rfl
            have e9 := hp.of (k := 9) rfl
            have hf := he.h0
            replace hf := hf.more he 7 rfl (onP e3)
            replace hf := hf.more he 13 rfl (onP e9)
            refine stP hf rfl rfl rfl (pBuildS (cells := [.int .i64 e_2, .int .i64 e_3]) bt_50 rfl rfl) fun a hf => ?_
            refine cNil ?_
            refine xThenN ?_
            intro ds u hau
            refine ⟨θ, he.put0 hi hau hf rfl 14 rfl rfl, ?_⟩
            exact hc
          · intro E θ a w hD hi hp he hc
            have e10 := hp.of (k := 10) rfl
            try dsimp only at hc
            rw [hi] at hc
            have hf := he.h0
            replace hf := hf.more he 14 rfl (onP e10)
            refine stBS (rows := ([(⟨e_2, e_3⟩ : api_Span)] : List api_Span).map enc_api_Span) (vs := [(0, .agg #[.int .i64 e_2, .int .i64 e_3])]) hf hc rfl rfl sl_44 rfl ⟨rfl, rfl, rfl, trivial⟩ rfl rfl fun b_4 a w hf hc => ?_
            refine cNil ?_
            refine xThenN ?_
            intro ds u hau
            replace hc := hc.drop k1
            refine ⟨(setT θ 88 ⟨b_4, none, 0⟩), he.put hi hau hf rfl [] trivial ⟨qq, qq, qq, qq, qq, qq, qq, qq, qq, qq, qq, qq, qq, qq, qq, qq, qq, qq, trivial⟩, ?_⟩
            try dsimp only
            rw [updE_self E 11]
            exact hc
          · intro E θ a w hD hi hp he hc
            have e0 := hp.of (k := 0) rfl
            have e11 := hp.of (k := 11) rfl
            have e13 := hD.f 1 rfl hi
            try dsimp only at hc
            rw [e11, hi] at hc
            have hf := he.h0
            replace hf := hf.more he 4 rfl (onP e0)
            replace hf := hf.more he 15 rfl (onP e11)
            refine stApm (xs := out) (ys := ([(⟨e_2, e_3⟩ : api_Span)] : List api_Span)) hf hc rfl rfl sl_44 rfl rfl rfl rfl rfl one_enc_api_Span (src_row hc m0) (fun _ _ => u3) (by simpa using room_spec hun) fun p_3 c_3 a w hf hc => ?_
            refine cNil ?_
            refine xThenN ?_
            intro ds u hau
            refine ⟨(setT θ 96 ⟨0, p_3, c_3⟩), he.put hi hau hf rfl [13] ⟨⟨e13, rfl⟩, trivial⟩ ⟨qq, qq, qq, qq, qq, qq, qq, qq, qq, qq, qq, qq, qq, qq, qq, qq, qq, trivial, trivial⟩, ?_⟩
            try dsimp only
            rw [updE_tru 12 e11, updE_self E 12]
            exact hc
          · intro E θ a w hD hi hp he hc
            have e12 := hp.of (k := 12) rfl
            have hf := he.h0
            replace hf := hf.more he 16 rfl (onP e12)
            refine stP hf rfl rfl rfl (pA rfl) fun a hf => ?_
            refine cNil ?_
            refine xThenN ?_
            intro ds u hau
            refine ⟨θ, he.put0 hi hau hf rfl 17 rfl rfl, ?_⟩
            exact hc
          · intro E θ a w hall he hc
            have hf := he.h0
            have e11 := hall 11 rfl
            have e12 := hall 12 rfl
            have e13 := hall 13 rfl
            replace hf := hf.more he 17 rfl (onP e13)
            replace hf := hf.more he 2 rfl (onT)
            replace hf := hf.more he 0 rfl (onT)
            try dsimp only at hc
            rw [e11, e12] at hc
            exact ⟨(θ 96).p, (θ 96).c, (θ 88).b, hf.keep ⟨rfl, rfl, rfl, trivial⟩, hc⟩
          rintro a w ⟨p_4, c_4, b_5, hf, hc⟩
          refine h13 _ _ ?_
          refine cReg ?_
          refine stP hf rfl rfl rfl (pM rfl) fun a hf => ?_
          refine stP hf rfl rfl rfl (pAdd rfl rfl) fun a hf => ?_
          refine stP hf rfl rfl rfl (pA rfl) fun a hf => ?_
          refine cNil ?_
          replace hc := hc.drop k2
          replace hc := hc.drop k1
          replace hc := hc.drop k0
          exact hK9 ((out ++ [(⟨e_2, e_3⟩ : api_Span)]), W (i_1 + 1)) _ _ (Option.some.inj hF).symm ⟨p_4, c_4, hf.keep ⟨rfl, rfl, rfl, trivial⟩, hc⟩
      have ho18 : ∀ r, x18 = .out r → r = st9 := by
        rintro r rfl
        exact Option.some.inj hF
      replace hc := hc.nilRow 3 1
      refine cLoop N (loopW (S := S18) (x := x18) ?_ N (([] : List Int), (-300)) _ _ ⟨none, 0, hf.keep ⟨rfl, rfl, rfl, rfl, rfl, rfl, trivial⟩, hc⟩ hx18)
      clear hF hf hc
      rintro ⟨l, shift⟩ st18 a w KB18 ⟨p_2, c_2, hf, hc⟩ hF hfin18 hK18
      unfold ref05_Passes_b18 at hF
      refine wp_seq_k fun K22 h22 => ?_
      refine wp_seq_k fun K23 h23 => ?_
      refine cReg ?_
      refine stP hf rfl rfl rfl (pM rfl) fun a hf => ?_
      refine stP hf rfl rfl rfl (pLe rfl rfl) fun a hf => ?_
      refine cNil ?_
      refine h23 _ _ ?_
      refine cCond (b := (decide (shift ≤ 300))) hf rfl (fun hb => ?_) (fun hb => ?_)
      · replace hF := condT hb hF
        clear hb
        refine wp_skip ?_
        refine h22 _ _ ?_
        refine wp_seq_k fun K24 h24 => ?_
        have hj24 : ∀ (l_1 : List Int) (p_5 : Option Addr) (c_5 : Nat) a w, Has 80 a [(1, .pointer (some ⟨b_1, 0, none⟩)), (5, .slice p_1 out.length c_1), (6, .int .i64 i_1), (7, .pointer (some ⟨b_3, 0, none⟩)), (8, .slice p_5 l_1.length c_5), (9, .int .i64 shift)] → Ctx G (.row p_5 c_5 (l_1.map encI_i64) 3 1 :: .box b_3 [.int .i64 e_1.Day, .int .i64 e_1.Stage, .int .i64 e_1.Flow.Lo, .int .i64 e_1.Flow.Hi] 129 :: .row p_1 c_1 (out.map enc_api_Span) 50 2 :: .box b_1 [.slice r_Rating_p r.Rating.length r_Rating_c, .slice r_Gaugings_p r.Gaugings.length r_Gaugings_c] 34 :: Lf) w → ref05_Passes_j24 N shift l_1 = some st18 → K24 a w := by
          intro l_1 p_5 c_5 a w hf hc hF
          unfold ref05_Passes_j24 at hF
          refine h24 _ _ ?_
          refine cReg ?_
          refine stP hf rfl rfl rfl (pM rfl) fun a hf => ?_
          refine stP hf rfl rfl rfl (pAdd rfl rfl) fun a hf => ?_
          refine stP hf rfl rfl rfl (pA rfl) fun a hf => ?_
          refine cNil ?_
          exact hK18 (l_1, W (shift + 1)) _ _ (Option.some.inj hF).symm ⟨p_5, c_5, hf.keep ⟨rfl, rfl, rfl, rfl, rfl, rfl, trivial⟩, hc⟩
        refine wp_block ?_
        refine wp_seq_k fun K25 h25 => ?_
        refine cReg ?_
        refine stP hf rfl rfl rfl (pFA fa_34_0 rfl) fun a hf => ?_
        refine stE hf hc rfl rfl rfl (eLd1 sc_31 rfl (cell_box m3 rfl)) fun a w hf hc => ?_
        refine stP hf rfl rfl rfl (pFA fa_129_1 rfl) fun a hf => ?_
        refine stE hf hc rfl rfl rfl (eLd1 sc_3 rfl (cell_box m1 rfl)) fun a w hf hc => ?_
        refine stP hf rfl rfl rfl (pM rfl) fun a hf => ?_
        refine stP hf rfl rfl rfl (pSub rfl rfl) fun a hf => ?_
        obtain ⟨r_1, hr_1, hF⟩ := bnd_some hF
        refine stE hf hc rfl rfl rfl (eC (v := .agg #[.int .i64 r_1.N, .int .i64 r_1.D]) (vs := [.slice r_Rating_p r.Rating.length r_Rating_c, .int .i64 (W (e_1.Stage - shift))]) (caps := []) en_70 rfl rfl rfl rfl (fun w hc => ref05_flow_ok r.Rating (W (e_1.Stage - shift)) h_r_Rating hc hr_1)) fun a w hf hc => ?_
        refine stAl (cs := [.int .i64 0, .int .i64 0]) hf hc rfl rfl zr_37 rfl fun b_6 a w hf hc => ?_
        refine stSt (vs := [.int .i64 r_1.N, .int .i64 r_1.D]) hf hc rfl rfl rfl rfl sz_37 rfl rfl u0 fun w hc => ?_
        refine cNil ?_
        refine h25 _ _ ?_
        refine wp_seq_k fun K26 h26 => ?_
        refine cReg ?_
        refine stP hf rfl rfl rfl (pFA fa_37_0 rfl) fun a hf => ?_
        refine stE hf hc rfl rfl rfl (eLd1 sc_3 rfl (cell_box m0 rfl)) fun a w hf hc => ?_
        refine stP hf rfl rfl rfl (pFA fa_129_2 rfl) fun a hf => ?_
        refine stP hf rfl rfl rfl (pFA fa_50_0 rfl) fun a hf => ?_
        refine stE hf hc rfl rfl rfl (eLd1 sc_3 rfl (cell_box m2 rfl)) fun a w hf hc => ?_
        refine stP hf rfl rfl rfl (pFA fa_37_1 rfl) fun a hf => ?_
        refine stE hf hc rfl rfl rfl (eLd1 sc_3 rfl (cell_box m0 rfl)) fun a w hf hc => ?_
        refine stP hf rfl rfl rfl (pMul rfl rfl) fun a hf => ?_
        refine stP hf rfl rfl rfl (pGe rfl rfl) fun a hf => ?_
        refine stP hf rfl rfl rfl (pM rfl) fun a hf => ?_
        refine stCut 10 (fun a w => Has 80 a [(1, .pointer (some ⟨b_1, 0, none⟩)), (5, .slice p_1 out.length c_1), (6, .int .i64 i_1), (7, .pointer (some ⟨b_3, 0, none⟩)), (8, .slice p_2 l.length c_2), (9, .int .i64 shift), (10, .pointer (some ⟨b_6, 0, none⟩)), (39, .pointer (some ⟨b_6, 0, none⟩)), (40, .int .i64 r_1.N), (41, .pointer (some ⟨b_3, 2, none⟩)), (42, .pointer (some ⟨b_3, 2, none⟩)), (43, .int .i64 e_1.Flow.Lo), (44, .pointer (some ⟨b_6, 1, none⟩)), (45, .int .i64 r_1.D), (46, .int .i64 (W (e_1.Flow.Lo * r_1.D))), (47, .bool (decide ((W (e_1.Flow.Lo * r_1.D)) ≤ r_1.N))), (48, .bool (decide ((W (e_1.Flow.Lo * r_1.D)) ≤ r_1.N))), (58, .bool ((decide ((W (e_1.Flow.Lo * r_1.D)) ≤ r_1.N)) && (decide (r_1.N ≤ (W (e_1.Flow.Hi * r_1.D))))))] ∧ Ctx G (.box b_6 [.int .i64 r_1.N, .int .i64 r_1.D] 37 :: .row p_2 c_2 (l.map encI_i64) 3 1 :: .box b_3 [.int .i64 e_1.Day, .int .i64 e_1.Stage, .int .i64 e_1.Flow.Lo, .int .i64 e_1.Flow.Hi] 129 :: .row p_1 c_1 (out.map enc_api_Span) 50 2 :: .box b_1 [.slice r_Rating_p r.Rating.length r_Rating_c, .slice r_Gaugings_p r.Gaugings.length r_Gaugings_c] 34 :: Lf) w) ?_ ?_
        · cases hb : (decide ((W (e_1.Flow.Lo * r_1.D)) ≤ r_1.N))
          · rw [hb] at hf
            refine stS hf rfl rfl rfl fun a hf => ?_
            refine stS hf rfl rfl rfl fun a hf => ?_
            refine stS hf rfl rfl rfl fun a hf => ?_
            refine stS hf rfl rfl rfl fun a hf => ?_
            refine stS hf rfl rfl rfl fun a hf => ?_
            refine stS hf rfl rfl rfl fun a hf => ?_
            refine stS hf rfl rfl rfl fun a hf => ?_
            refine stS hf rfl rfl rfl fun a hf => ?_
            refine stS hf rfl rfl rfl fun a hf => ?_
            refine stP hf rfl rfl rfl (pPf rfl rfl) fun a hf => ?_
            exact cNil ⟨hf.keep ⟨rfl, rfl, rfl, rfl, rfl, rfl, rfl, rfl, rfl, rfl, rfl, rfl, rfl, rfl, rfl, rfl, rfl, rfl, trivial⟩, hc⟩
          · rw [hb] at hf
            refine stP hf rfl rfl rfl (pFA fa_37_0 rfl) fun a hf => ?_
            refine stE hf hc rfl rfl rfl (eLd1 sc_3 rfl (cell_box m0 rfl)) fun a w hf hc => ?_
            refine stP hf rfl rfl rfl (pFA fa_129_2 rfl) fun a hf => ?_
            refine stP hf rfl rfl rfl (pFA fa_50_1 rfl) fun a hf => ?_
            refine stE hf hc rfl rfl rfl (eLd1 sc_3 rfl (cell_box m2 rfl)) fun a w hf hc => ?_
            refine stP hf rfl rfl rfl (pFA fa_37_1 rfl) fun a hf => ?_
            refine stE hf hc rfl rfl rfl (eLd1 sc_3 rfl (cell_box m0 rfl)) fun a w hf hc => ?_
            refine stP hf rfl rfl rfl (pMul rfl rfl) fun a hf => ?_
            refine stP hf rfl rfl rfl (pLe rfl rfl) fun a hf => ?_
            refine stP hf rfl rfl rfl (pPt rfl rfl) fun a hf => ?_
            exact cNil ⟨hf.keep ⟨rfl, rfl, rfl, rfl, rfl, rfl, rfl, rfl, rfl, rfl, rfl, rfl, rfl, rfl, rfl, rfl, rfl, rfl, trivial⟩, hc⟩
        intro a w ⟨hf, hc⟩
        refine cNil ?_
        refine h26 _ _ ?_
        refine cCond (b := ((decide ((W (e_1.Flow.Lo * r_1.D)) ≤ r_1.N)) && (decide (r_1.N ≤ (W (e_1.Flow.Hi * r_1.D)))))) hf rfl (fun hb => ?_) (fun hb => ?_)
        · replace hF := condT hb hF
          clear hb
          refine cReg ?_
          refine stP hf rfl rfl rfl (pM rfl) fun a hf => ?_
          refine stP hf rfl rfl rfl (pM rfl) fun a hf => ?_
          refine stBS (rows := ([shift] : List Int).map encI_i64) (vs := [(0, .int .i64 shift)]) hf hc rfl rfl sl_61 rfl ⟨rfl, rfl, rfl, trivial⟩ rfl rfl fun b_7 a w hf hc => ?_
          obtain ⟨un_1, hun_1, hF⟩ := bnd_some hF
          refine stApm (xs := l) (ys := ([shift] : List Int)) hf hc rfl rfl sl_61 rfl rfl rfl rfl rfl one_encI_i64 (src_row hc m0) (fun _ _ => u2) (by simpa using room_spec hun_1) fun p_6 c_6 a w hf hc => ?_
          refine stP hf rfl rfl rfl (pA rfl) fun a hf => ?_
          refine cNil ?_
          replace hc := hc.drop k1
          replace hc := hc.drop k0
          exact hj24 (l ++ [shift]) p_6 c_6 _ _  (hf.keep ⟨rfl, rfl, rfl, rfl, rfl, rfl, trivial⟩) hc hF
        · replace hF := condF hb hF
          clear hb
          refine wp_skip ?_
          replace hc := hc.drop k0
          exact hj24 l p_2 c_2 _ _  (hf.keep ⟨rfl, rfl, rfl, rfl, rfl, rfl, trivial⟩) hc hF
      · replace hF := condF hb hF
        clear hb
        refine wp_exit ?_
        refine xThen ?_
        refine xThen ?_
        have he := Option.some.inj hF
        rw [← he] at hfin18
        refine cHit ?_
        exact hr18 _ _ _ hfin18 ⟨p_2, c_2, hf.keep ⟨rfl, rfl, rfl, rfl, rfl, rfl, trivial⟩, hc⟩
    · replace hF := condF hb hF
      clear hb
      refine wp_exit ?_
      refine xThen ?_
      refine xThen ?_
      have he := Option.some.inj hF
      rw [← he] at hfin9
      refine cHit ?_
      exact hr9 _ _ _ hfin9 ⟨p_1, c_1, hf.keep ⟨rfl, rfl, rfl, trivial⟩, hc⟩

def kit_Same_shift_Mark_b7 (N : Nat) (a_ : List shift_Mark) (b_ : List shift_Mark) (i_1 : Int) : Option (Step (Int) (Bool)) :=
  cond (decide (i_1 < ((a_.length : Nat) : Int)))
  (Option.bind (getI a_ i_1) fun e_1 =>
  Option.bind (getI b_ i_1) fun e_2 =>
  cond (!(e_1.Stage == e_2.Stage && e_1.Flow == e_2.Flow))
  (some (.ret false))
  (some (.cont (W (i_1 + 1)))))
  (some (.brk i_1))
def kit_Same_shift_Mark (N : Nat) (a_ : List shift_Mark) (b_ : List shift_Mark) : Option (Bool) :=
  cond (((a_.length : Nat) : Int) != ((b_.length : Nat) : Int))
  (some false)
  (Option.bind (loopO (fun s7 => kit_Same_shift_Mark_b7 N a_ b_ s7) N 0) fun x7 =>
  exK x7 (fun s7 => some true) some)
theorem kit_Same_shift_Mark_ok {N : Nat} {G : Pers} {Lf : List Ent} {w : World} (a_ : List shift_Mark) (b_ : List shift_Mark) {a__p : Option Addr} {a__c : Nat} {b__p : Option Addr} {b__c : Nat} (h_a_ : Rd G 2 a__p a__c (a_.map enc_shift_Mark)) (h_b_ : Rd G 2 b__p b__c (b_.map enc_shift_Mark)) (hc : Ctx G (Lf) w) {res : Bool} (hF : kit_Same_shift_Mark N a_ b_ = some res) : Calls Try.prog 74 #[.slice a__p a_.length a__c, .slice b__p b_.length b__c] w (fun e w => e = .returned (.bool res) ∧ Ctx G (Lf) w) := by
  unfold kit_Same_shift_Mark at hF
  refine fnIn (args := [.slice a__p a_.length a__c, .slice b__p b_.length b__c]) Try.func74 rfl Try.ntmps74 rfl fun a hf => ?_
  refine wp_seq_k fun K1 h1 => ?_
  refine cReg ?_
  refine stP hf rfl rfl rfl (pA rfl) fun a hf => ?_
  refine cNil ?_
  refine h1 _ _ ?_
  refine wp_seq_k fun K2 h2 => ?_
  refine wp_seq_k fun K3 h3 => ?_
  refine cReg ?_
  refine stP hf rfl rfl rfl (pM rfl) fun a hf => ?_
  refine stP hf rfl rfl rfl (pLenS Try.underlying22 rfl) fun a hf => ?_
  refine stP hf rfl rfl rfl (pM rfl) fun a hf => ?_
  refine stP hf rfl rfl rfl (pLenS Try.underlying22 rfl) fun a hf => ?_
  refine stP hf rfl rfl rfl (pNe rfl rfl) fun a hf => ?_
  refine cNil ?_
  refine h3 _ _ ?_
  refine cCond (b := (((a_.length : Nat) : Int) != ((b_.length : Nat) : Int))) hf rfl (fun hb => ?_) (fun hb => ?_)
  · replace hF := condT hb hF
    clear hb
    refine wp_seq_k fun K4 h4 => ?_
    refine cReg ?_
    refine stP hf rfl rfl rfl (pA rfl) fun a hf => ?_
    refine cNil ?_
    refine h4 _ _ ?_
    refine wp_ret ?_
    refine xThenR ?_
    obtain rfl := Option.some.inj hF
    exact fnOut1 (by simp) rfl Try.results74 hf hc (show look _ 4 = _ from rfl) ⟨rfl, hc⟩
  · replace hF := condF hb hF
    clear hb
    refine wp_skip ?_
    refine h2 _ _ ?_
    refine wp_seq_k fun K5 h5 => ?_
    refine wp_seq_k fun K6 h6 => ?_
    refine cReg ?_
    refine stP hf rfl rfl rfl (pA rfl) fun a hf => ?_
    refine cNil ?_
    refine h6 _ _ ?_
    refine wp_block ?_
    obtain ⟨x7, hx7, hF⟩ := bnd_some hF
    let S7 : Int → Act → World → Prop := (fun (zz : Int) a w => Has 26 a [(0, .slice a__p a_.length a__c), (1, .slice b__p b_.length b__c), (5, .int .i64 zz)] ∧ Ctx G (Lf) w)
    have hr7 : ∀ (zz : Int) a w, x7 = .go zz → S7 zz a w → K5 a w := by
      rintro i_1 a w rfl ⟨hf, hc⟩
      replace hF : _ = some res := hF
      refine h5 _ _ ?_
      refine wp_seq_k fun K8 h8 => ?_
      refine cReg ?_
      refine stP hf rfl rfl rfl (pA rfl) fun a hf => ?_
      refine cNil ?_
      refine h8 _ _ ?_
      refine wp_ret ?_
      obtain rfl := Option.some.inj hF
      exact fnOut1 (by simp) rfl Try.results74 hf hc (show look _ 4 = _ from rfl) ⟨rfl, hc⟩
    have ho7 : ∀ r, x7 = .out r → r = res := by
      rintro r rfl
      exact Option.some.inj hF
    refine cLoop N (loopW (S := S7) (x := x7) ?_ N 0 _ _ ⟨hf.keep ⟨rfl, rfl, rfl, trivial⟩, hc⟩ hx7)
    clear hF hf hc
    rintro i_1 st7 a w KB7 ⟨hf, hc⟩ hF hfin7 hK7
    unfold kit_Same_shift_Mark_b7 at hF
    refine wp_seq_k fun K9 h9 => ?_
    refine wp_seq_k fun K10 h10 => ?_
    refine cReg ?_
    refine stP hf rfl rfl rfl (pM rfl) fun a hf => ?_
    refine stP hf rfl rfl rfl (pM rfl) fun a hf => ?_
    refine stP hf rfl rfl rfl (pLenS Try.underlying22 rfl) fun a hf => ?_
    refine stP hf rfl rfl rfl (pLt rfl rfl) fun a hf => ?_
    refine cNil ?_
    refine h10 _ _ ?_
    refine cCond (b := (decide (i_1 < ((a_.length : Nat) : Int)))) hf rfl (fun hb => ?_) (fun hb => ?_)
    · replace hF := condT hb hF
      clear hb
      refine wp_skip ?_
      refine h9 _ _ ?_
      refine wp_seq_k fun K11 h11 => ?_
      refine wp_block ?_
      refine wp_seq_k fun K12 h12 => ?_
      obtain ⟨e_1, he_1, hF⟩ := bnd_some hF
      obtain ⟨b_1, o, qa, qp⟩ := h_a_.atm he_1
      obtain ⟨e_2, he_2, hF⟩ := bnd_some hF
      obtain ⟨b_2, o_1, qa_1, qp_1⟩ := h_b_.atm he_2
      refine cQ hc follows_mx (by kernel_rfl) ?_
      refine qE hf rfl rfl rfl (Pu.ev (pM rfl)) fun a hf => ?_
      refine qE hf rfl rfl rfl (Pu.ev (pM rfl)) fun a hf => ?_
      refine qE hf rfl rfl rfl (Pu.ev (pIA Try.underlying22 sz_77 rfl rfl qa)) fun a hf => ?_
      refine qE hf rfl rfl rfl (eLdN (vs := [.int .i64 e_1.Stage, .int .i64 e_1.Flow]) ag_77 rfl rfl (cells_pc qp (n := 2) (o' := 0) rfl)) fun a hf => ?_
      refine qE hf rfl rfl rfl (Pu.ev (pM rfl)) fun a hf => ?_
      refine qE hf rfl rfl rfl (Pu.ev (pM rfl)) fun a hf => ?_
      refine qE hf rfl rfl rfl (Pu.ev (pIA Try.underlying22 sz_77 rfl rfl qa_1)) fun a hf => ?_
      refine qE hf rfl rfl rfl (eLdN (vs := [.int .i64 e_2.Stage, .int .i64 e_2.Flow]) ag_77 rfl rfl (cells_pc qp_1 (n := 2) (o' := 0) rfl)) fun a hf => ?_
      refine qE hf rfl rfl rfl (Pu.ev (pNeA ge_77 rfl rfl (eqs_77 _ _ _ _))) fun a hf => ?_
      intro w hc
      refine h12 _ _ ?_
      refine cCond (b := (!(e_1.Stage == e_2.Stage && e_1.Flow == e_2.Flow))) hf rfl (fun hb => ?_) (fun hb => ?_)
      · replace hF := condT hb hF
        clear hb
        refine wp_seq_k fun K13 h13 => ?_
        refine cReg ?_
        refine stP hf rfl rfl rfl (pA rfl) fun a hf => ?_
        refine cNil ?_
        refine h13 _ _ ?_
        refine wp_ret ?_
        refine xBlkR ?_
        refine xThenR ?_
        refine xThenR ?_
        have he := Option.some.inj hF
        rw [← he] at hfin7
        replace hF := ho7 _ hfin7
        refine xBlkR ?_
        refine xThenR ?_
        obtain rfl := hF
        exact fnOut1 (by simp) rfl Try.results74 hf hc (show look _ 4 = _ from rfl) ⟨rfl, hc⟩
      · replace hF := condF hb hF
        clear hb
        refine wp_skip ?_
        refine h11 _ _ ?_
        refine cReg ?_
        refine stP hf rfl rfl rfl (pM rfl) fun a hf => ?_
        refine stP hf rfl rfl rfl (pAdd rfl rfl) fun a hf => ?_
        refine stP hf rfl rfl rfl (pA rfl) fun a hf => ?_
        refine cNil ?_
        exact hK7 (W (i_1 + 1)) _ _ (Option.some.inj hF).symm ⟨hf.keep ⟨rfl, rfl, rfl, trivial⟩, hc⟩
    · replace hF := condF hb hF
      clear hb
      refine wp_exit ?_
      refine xThen ?_
      refine xThen ?_
      have he := Option.some.inj hF
      rw [← he] at hfin7
      refine cHit ?_
      exact hr7 _ _ _ hfin7 ⟨hf.keep ⟨rfl, rfl, rfl, trivial⟩, hc⟩

def kit_Same_shift_Gauging_b7 (N : Nat) (a_ : List shift_Gauging) (b_ : List shift_Gauging) (i_1 : Int) : Option (Step (Int) (Bool)) :=
  cond (decide (i_1 < ((a_.length : Nat) : Int)))
  (Option.bind (getI a_ i_1) fun e_1 =>
  Option.bind (getI b_ i_1) fun e_2 =>
  cond (!(e_1.Day == e_2.Day && e_1.Stage == e_2.Stage && e_1.Flow.Lo == e_2.Flow.Lo && e_1.Flow.Hi == e_2.Flow.Hi))
  (some (.ret false))
  (some (.cont (W (i_1 + 1)))))
  (some (.brk i_1))
def kit_Same_shift_Gauging (N : Nat) (a_ : List shift_Gauging) (b_ : List shift_Gauging) : Option (Bool) :=
  cond (((a_.length : Nat) : Int) != ((b_.length : Nat) : Int))
  (some false)
  (Option.bind (loopO (fun s7 => kit_Same_shift_Gauging_b7 N a_ b_ s7) N 0) fun x7 =>
  exK x7 (fun s7 => some true) some)
theorem kit_Same_shift_Gauging_ok {N : Nat} {G : Pers} {Lf : List Ent} {w : World} (a_ : List shift_Gauging) (b_ : List shift_Gauging) {a__p : Option Addr} {a__c : Nat} {b__p : Option Addr} {b__c : Nat} (h_a_ : Rd G 4 a__p a__c (a_.map enc_shift_Gauging)) (h_b_ : Rd G 4 b__p b__c (b_.map enc_shift_Gauging)) (hc : Ctx G (Lf) w) {res : Bool} (hF : kit_Same_shift_Gauging N a_ b_ = some res) : Calls Try.prog 75 #[.slice a__p a_.length a__c, .slice b__p b_.length b__c] w (fun e w => e = .returned (.bool res) ∧ Ctx G (Lf) w) := by
  unfold kit_Same_shift_Gauging at hF
  refine fnIn (args := [.slice a__p a_.length a__c, .slice b__p b_.length b__c]) Try.func75 rfl Try.ntmps75 rfl fun a hf => ?_
  refine wp_seq_k fun K1 h1 => ?_
  refine cReg ?_
  refine stP hf rfl rfl rfl (pA rfl) fun a hf => ?_
  refine cNil ?_
  refine h1 _ _ ?_
  refine wp_seq_k fun K2 h2 => ?_
  refine wp_seq_k fun K3 h3 => ?_
  refine cReg ?_
  refine stP hf rfl rfl rfl (pM rfl) fun a hf => ?_
  refine stP hf rfl rfl rfl (pLenS Try.underlying23 rfl) fun a hf => ?_
  refine stP hf rfl rfl rfl (pM rfl) fun a hf => ?_
  refine stP hf rfl rfl rfl (pLenS Try.underlying23 rfl) fun a hf => ?_
  refine stP hf rfl rfl rfl (pNe rfl rfl) fun a hf => ?_
  refine cNil ?_
  refine h3 _ _ ?_
  refine cCond (b := (((a_.length : Nat) : Int) != ((b_.length : Nat) : Int))) hf rfl (fun hb => ?_) (fun hb => ?_)
  · replace hF := condT hb hF
    clear hb
    refine wp_seq_k fun K4 h4 => ?_
    refine cReg ?_
    refine stP hf rfl rfl rfl (pA rfl) fun a hf => ?_
    refine cNil ?_
    refine h4 _ _ ?_
    refine wp_ret ?_
    refine xThenR ?_
    obtain rfl := Option.some.inj hF
    exact fnOut1 (by simp) rfl Try.results75 hf hc (show look _ 4 = _ from rfl) ⟨rfl, hc⟩
  · replace hF := condF hb hF
    clear hb
    refine wp_skip ?_
    refine h2 _ _ ?_
    refine wp_seq_k fun K5 h5 => ?_
    refine wp_seq_k fun K6 h6 => ?_
    refine cReg ?_
    refine stP hf rfl rfl rfl (pA rfl) fun a hf => ?_
    refine cNil ?_
    refine h6 _ _ ?_
    refine wp_block ?_
    obtain ⟨x7, hx7, hF⟩ := bnd_some hF
    let S7 : Int → Act → World → Prop := (fun (zz : Int) a w => Has 26 a [(0, .slice a__p a_.length a__c), (1, .slice b__p b_.length b__c), (5, .int .i64 zz)] ∧ Ctx G (Lf) w)
    have hr7 : ∀ (zz : Int) a w, x7 = .go zz → S7 zz a w → K5 a w := by
      rintro i_1 a w rfl ⟨hf, hc⟩
      replace hF : _ = some res := hF
      refine h5 _ _ ?_
      refine wp_seq_k fun K8 h8 => ?_
      refine cReg ?_
      refine stP hf rfl rfl rfl (pA rfl) fun a hf => ?_
      refine cNil ?_
      refine h8 _ _ ?_
      refine wp_ret ?_
      obtain rfl := Option.some.inj hF
      exact fnOut1 (by simp) rfl Try.results75 hf hc (show look _ 4 = _ from rfl) ⟨rfl, hc⟩
    have ho7 : ∀ r, x7 = .out r → r = res := by
      rintro r rfl
      exact Option.some.inj hF
    refine cLoop N (loopW (S := S7) (x := x7) ?_ N 0 _ _ ⟨hf.keep ⟨rfl, rfl, rfl, trivial⟩, hc⟩ hx7)
    clear hF hf hc
    rintro i_1 st7 a w KB7 ⟨hf, hc⟩ hF hfin7 hK7
    unfold kit_Same_shift_Gauging_b7 at hF
    refine wp_seq_k fun K9 h9 => ?_
    refine wp_seq_k fun K10 h10 => ?_
    refine cReg ?_
    refine stP hf rfl rfl rfl (pM rfl) fun a hf => ?_
    refine stP hf rfl rfl rfl (pM rfl) fun a hf => ?_
    refine stP hf rfl rfl rfl (pLenS Try.underlying23 rfl) fun a hf => ?_
    refine stP hf rfl rfl rfl (pLt rfl rfl) fun a hf => ?_
    refine cNil ?_
    refine h10 _ _ ?_
    refine cCond (b := (decide (i_1 < ((a_.length : Nat) : Int)))) hf rfl (fun hb => ?_) (fun hb => ?_)
    · replace hF := condT hb hF
      clear hb
      refine wp_skip ?_
      refine h9 _ _ ?_
      refine wp_seq_k fun K11 h11 => ?_
      refine wp_block ?_
      refine wp_seq_k fun K12 h12 => ?_
      obtain ⟨e_1, he_1, hF⟩ := bnd_some hF
      obtain ⟨b_1, o, qa, qp⟩ := h_a_.atm he_1
      obtain ⟨e_2, he_2, hF⟩ := bnd_some hF
      obtain ⟨b_2, o_1, qa_1, qp_1⟩ := h_b_.atm he_2
      refine cQ hc follows_mx (by kernel_rfl) ?_
      refine qE hf rfl rfl rfl (Pu.ev (pM rfl)) fun a hf => ?_
      refine qE hf rfl rfl rfl (Pu.ev (pM rfl)) fun a hf => ?_
      refine qE hf rfl rfl rfl (Pu.ev (pIA Try.underlying23 sz_71 rfl rfl qa)) fun a hf => ?_
      refine qE hf rfl rfl rfl (eLdN (vs := [.int .i64 e_1.Day, .int .i64 e_1.Stage, .int .i64 e_1.Flow.Lo, .int .i64 e_1.Flow.Hi]) ag_71 rfl rfl (cells_pc qp (n := 4) (o' := 0) rfl)) fun a hf => ?_
      refine qE hf rfl rfl rfl (Pu.ev (pM rfl)) fun a hf => ?_
      refine qE hf rfl rfl rfl (Pu.ev (pM rfl)) fun a hf => ?_
      refine qE hf rfl rfl rfl (Pu.ev (pIA Try.underlying23 sz_71 rfl rfl qa_1)) fun a hf => ?_
      refine qE hf rfl rfl rfl (eLdN (vs := [.int .i64 e_2.Day, .int .i64 e_2.Stage, .int .i64 e_2.Flow.Lo, .int .i64 e_2.Flow.Hi]) ag_71 rfl rfl (cells_pc qp_1 (n := 4) (o' := 0) rfl)) fun a hf => ?_
      refine qE hf rfl rfl rfl (Pu.ev (pNeA ge_71 rfl rfl (eqs_71 _ _ _ _ _ _ _ _))) fun a hf => ?_
      intro w hc
      refine h12 _ _ ?_
      refine cCond (b := (!(e_1.Day == e_2.Day && e_1.Stage == e_2.Stage && e_1.Flow.Lo == e_2.Flow.Lo && e_1.Flow.Hi == e_2.Flow.Hi))) hf rfl (fun hb => ?_) (fun hb => ?_)
      · replace hF := condT hb hF
        clear hb
        refine wp_seq_k fun K13 h13 => ?_
        refine cReg ?_
        refine stP hf rfl rfl rfl (pA rfl) fun a hf => ?_
        refine cNil ?_
        refine h13 _ _ ?_
        refine wp_ret ?_
        refine xBlkR ?_
        refine xThenR ?_
        refine xThenR ?_
        have he := Option.some.inj hF
        rw [← he] at hfin7
        replace hF := ho7 _ hfin7
        refine xBlkR ?_
        refine xThenR ?_
        obtain rfl := hF
        exact fnOut1 (by simp) rfl Try.results75 hf hc (show look _ 4 = _ from rfl) ⟨rfl, hc⟩
      · replace hF := condF hb hF
        clear hb
        refine wp_skip ?_
        refine h11 _ _ ?_
        refine cReg ?_
        refine stP hf rfl rfl rfl (pM rfl) fun a hf => ?_
        refine stP hf rfl rfl rfl (pAdd rfl rfl) fun a hf => ?_
        refine stP hf rfl rfl rfl (pA rfl) fun a hf => ?_
        refine cNil ?_
        exact hK7 (W (i_1 + 1)) _ _ (Option.some.inj hF).symm ⟨hf.keep ⟨rfl, rfl, rfl, trivial⟩, hc⟩
    · replace hF := condF hb hF
      clear hb
      refine wp_exit ?_
      refine xThen ?_
      refine xThen ?_
      have he := Option.some.inj hF
      rw [← he] at hfin7
      refine cHit ?_
      exact hr7 _ _ _ hfin7 ⟨hf.keep ⟨rfl, rfl, rfl, trivial⟩, hc⟩

def law05_same (N : Nat) (a_ : shift_Record) (b_ : shift_Record) : Option (Bool) :=
  Option.bind (kit_Same_shift_Mark N a_.Rating b_.Rating) fun r =>
  Option.bind (cond r (Option.bind (kit_Same_shift_Gauging N a_.Gaugings b_.Gaugings) fun r_1 =>
  some r_1) (some false)) fun t_1 =>
  some t_1
theorem law05_same_ok {N : Nat} {G : Pers} {Lf : List Ent} {w : World} (a_ : shift_Record) (b_ : shift_Record) {a__Rating_p : Option Addr} {a__Rating_c : Nat} {a__Gaugings_p : Option Addr} {a__Gaugings_c : Nat} {b__Rating_p : Option Addr} {b__Rating_c : Nat} {b__Gaugings_p : Option Addr} {b__Gaugings_c : Nat} (h_a__Rating : Rd G 2 a__Rating_p a__Rating_c (a_.Rating.map enc_shift_Mark)) (h_a__Gaugings : Rd G 4 a__Gaugings_p a__Gaugings_c (a_.Gaugings.map enc_shift_Gauging)) (h_b__Rating : Rd G 2 b__Rating_p b__Rating_c (b_.Rating.map enc_shift_Mark)) (h_b__Gaugings : Rd G 4 b__Gaugings_p b__Gaugings_c (b_.Gaugings.map enc_shift_Gauging)) (hc : Ctx G (Lf) w) {res : Bool} (hF : law05_same N a_ b_ = some res) : Calls Try.prog 25 #[.agg #[.slice a__Rating_p a_.Rating.length a__Rating_c, .slice a__Gaugings_p a_.Gaugings.length a__Gaugings_c], .agg #[.slice b__Rating_p b_.Rating.length b__Rating_c, .slice b__Gaugings_p b_.Gaugings.length b__Gaugings_c]] w (fun e w => e = .returned (.bool res) ∧ Ctx G (Lf) w) := by
  unfold law05_same at hF
  refine fnIn (args := [.agg #[.slice a__Rating_p a_.Rating.length a__Rating_c, .slice a__Gaugings_p a_.Gaugings.length a__Gaugings_c], .agg #[.slice b__Rating_p b_.Rating.length b__Rating_c, .slice b__Gaugings_p b_.Gaugings.length b__Gaugings_c]]) Try.func25 rfl Try.ntmps25 rfl fun a hf => ?_
  refine wp_seq_k fun K1 h1 => ?_
  refine cReg ?_
  refine stBx (cs := [.slice a__Rating_p a_.Rating.length a__Rating_c, .slice a__Gaugings_p a_.Gaugings.length a__Gaugings_c]) hf hc rfl rfl rfl rfl fun b_1 a w hf hc => ?_
  refine stBx (cs := [.slice b__Rating_p b_.Rating.length b__Rating_c, .slice b__Gaugings_p b_.Gaugings.length b__Gaugings_c]) hf hc rfl rfl rfl rfl fun b_2 a w hf hc => ?_
  refine stP hf rfl rfl rfl (pA rfl) fun a hf => ?_
  refine cNil ?_
  refine h1 _ _ ?_
  refine wp_seq_k fun K2 h2 => ?_
  refine cReg ?_
  refine stP hf rfl rfl rfl (pFA fa_25_0 rfl) fun a hf => ?_
  refine stE hf hc rfl rfl rfl (eLd1 sc_22 rfl (cell_box m1 rfl)) fun a w hf hc => ?_
  refine stP hf rfl rfl rfl (pFA fa_25_0 rfl) fun a hf => ?_
  refine stE hf hc rfl rfl rfl (eLd1 sc_22 rfl (cell_box m0 rfl)) fun a w hf hc => ?_
  obtain ⟨r, hr, hF⟩ := bnd_some hF
  refine stE hf hc rfl rfl rfl (eC (v := .bool r) (vs := [.slice a__Rating_p a_.Rating.length a__Rating_c, .slice b__Rating_p b_.Rating.length b__Rating_c]) (caps := []) en_74 rfl rfl rfl rfl (fun w hc => kit_Same_shift_Mark_ok a_.Rating b_.Rating h_a__Rating h_b__Rating hc hr)) fun a w hf hc => ?_
  refine stP hf rfl rfl rfl (pM rfl) fun a hf => ?_
  obtain ⟨t_1, ht_1, hF⟩ := bnd_some hF
  refine stCut 6 (fun a w => Has 17 a [(2, .pointer (some ⟨b_1, 0, none⟩)), (3, .pointer (some ⟨b_2, 0, none⟩)), (4, .bool false), (5, .pointer (some ⟨b_1, 0, none⟩)), (6, .slice a__Rating_p a_.Rating.length a__Rating_c), (7, .pointer (some ⟨b_2, 0, none⟩)), (8, .slice b__Rating_p b_.Rating.length b__Rating_c), (9, .bool r), (10, .bool r), (16, .bool t_1)] ∧ Ctx G (.box b_2 [.slice b__Rating_p b_.Rating.length b__Rating_c, .slice b__Gaugings_p b_.Gaugings.length b__Gaugings_c] 25 :: .box b_1 [.slice a__Rating_p a_.Rating.length a__Rating_c, .slice a__Gaugings_p a_.Gaugings.length a__Gaugings_c] 25 :: Lf) w) ?_ ?_
  · cases hb : r
    · rw [hb] at hf
      have hF := condF hb ht_1
      obtain rfl := Option.some.inj hF
      refine stS hf rfl rfl rfl fun a hf => ?_
      refine stS hf rfl rfl rfl fun a hf => ?_
      refine stS hf rfl rfl rfl fun a hf => ?_
      refine stS hf rfl rfl rfl fun a hf => ?_
      refine stS hf rfl rfl rfl fun a hf => ?_
      refine stP hf rfl rfl rfl (pPf rfl rfl) fun a hf => ?_
      exact cNil ⟨hf.keep ⟨rfl, rfl, rfl, rfl, rfl, rfl, rfl, rfl, rfl, rfl, trivial⟩, hc⟩
    · rw [hb] at hf
      have hF := condT hb ht_1
      refine stP hf rfl rfl rfl (pFA fa_25_1 rfl) fun a hf => ?_
      refine stE hf hc rfl rfl rfl (eLd1 sc_23 rfl (cell_box m1 rfl)) fun a w hf hc => ?_
      refine stP hf rfl rfl rfl (pFA fa_25_1 rfl) fun a hf => ?_
      refine stE hf hc rfl rfl rfl (eLd1 sc_23 rfl (cell_box m0 rfl)) fun a w hf hc => ?_
      obtain ⟨r_1, hr_1, hF⟩ := bnd_some hF
      refine stE hf hc rfl rfl rfl (eC (v := .bool r_1) (vs := [.slice a__Gaugings_p a_.Gaugings.length a__Gaugings_c, .slice b__Gaugings_p b_.Gaugings.length b__Gaugings_c]) (caps := []) en_75 rfl rfl rfl rfl (fun w hc => kit_Same_shift_Gauging_ok a_.Gaugings b_.Gaugings h_a__Gaugings h_b__Gaugings hc hr_1)) fun a w hf hc => ?_
      refine stP hf rfl rfl rfl (pPt rfl rfl) fun a hf => ?_
      obtain rfl := Option.some.inj hF
      exact cNil ⟨hf.keep ⟨rfl, rfl, rfl, rfl, rfl, rfl, rfl, rfl, rfl, rfl, trivial⟩, hc⟩
  intro a w ⟨hf, hc⟩
  refine stP hf rfl rfl rfl (pA rfl) fun a hf => ?_
  refine cNil ?_
  refine h2 _ _ ?_
  refine wp_ret ?_
  obtain rfl := Option.some.inj hF
  replace hc := hc.drop k1
  replace hc := hc.drop k0
  exact fnOut1 (by simp) rfl Try.results25 hf hc (show look _ 4 = _ from rfl) ⟨rfl, hc⟩

def law05_ShiftMeans (N : Nat) (r : shift_Record) (stage : Int) (by_ : Int) (rise : Int) (per : Int) : Option (Bool) :=
  cond ((decide (15 < ((r.Rating.length : Nat) : Int))) || (decide (35 < ((r.Gaugings.length : Nat) : Int))))
  (Option.bind (law05_awake N) fun r_0 =>
  some r_0)
  (Option.bind (law05_CopyRecord N r) fun r_1 =>
  Option.bind (shift_Check N r_1) fun r_2 =>
  Option.bind (law05_Record N r) fun r_3 =>
  Option.bind (ref05_Check N r_3) fun r_4 =>
  cond (r_2 != r_4)
  (some false)
  (Option.bind (shift_Means N r_1.Rating stage by_) fun r_5 =>
  Option.bind (law05_marks N r.Rating) fun r_6 =>
  Option.bind (ref05_Means N r_6 stage by_) fun r_7 =>
  cond ((!(r_5.1.N == r_7.1.N && r_5.1.D == r_7.1.D)) || (r_5.2 != r_7.2))
  (some false)
  (Option.bind (shift_Rising N r_1.Rating stage by_ rise per) fun r_8 =>
  Option.bind (law05_marks N r.Rating) fun r_9 =>
  Option.bind (ref05_Rising N r_9 stage by_ rise per) fun r_10 =>
  cond ((!(r_8.1.N == r_10.1.N && r_8.1.D == r_10.1.D)) || (r_8.2 != r_10.2))
  (some false)
  (Option.bind (shift_Passes N r_1) fun r_11 =>
  Option.bind (law05_Record N r) fun r_12 =>
  Option.bind (ref05_Passes N r_12) fun r_13 =>
  Option.bind (kit_Same_api_Span N r_11.1 r_13.1) fun r_14 =>
  Option.bind (cond (r_14 && (r_11.2 == r_13.2)) (Option.bind (law05_same N r_1 r) fun r_15 =>
  some r_15) (some false)) fun t_1 =>
  Option.bind (cond t_1 (Option.bind (law05_awake N) fun r_16 =>
  some r_16) (some false)) fun t_2 =>
  some t_2))))
theorem law05_ShiftMeans_ok {N : Nat} {G : Pers} {Lf : List Ent} {w : World} (r : shift_Record) (stage : Int) (by_ : Int) (rise : Int) (per : Int) {r_Rating_p : Option Addr} {r_Rating_c : Nat} {r_Gaugings_p : Option Addr} {r_Gaugings_c : Nat} (h_r_Rating : Rd G 2 r_Rating_p r_Rating_c (r.Rating.map enc_shift_Mark)) (h_r_Gaugings : Rd G 4 r_Gaugings_p r_Gaugings_c (r.Gaugings.map enc_shift_Gauging)) (hc : Ctx G (Lf) w) {res : Bool} (hF : law05_ShiftMeans N r stage by_ rise per = some res) : Calls Try.prog 3 #[.agg #[.slice r_Rating_p r.Rating.length r_Rating_c, .slice r_Gaugings_p r.Gaugings.length r_Gaugings_c], .int .i64 stage, .int .i64 by_, .int .i64 rise, .int .i64 per] w (fun e w => e = .returned (.bool res) ∧ Ctx G (Lf) w) := by
  unfold law05_ShiftMeans at hF
  refine fnIn (args := [.agg #[.slice r_Rating_p r.Rating.length r_Rating_c, .slice r_Gaugings_p r.Gaugings.length r_Gaugings_c], .int .i64 stage, .int .i64 by_, .int .i64 rise, .int .i64 per]) Try.func3 rfl Try.ntmps3 rfl fun a hf => ?_
  refine wp_seq_k fun K1 h1 => ?_
  refine cReg ?_
  refine stBx (cs := [.slice r_Rating_p r.Rating.length r_Rating_c, .slice r_Gaugings_p r.Gaugings.length r_Gaugings_c]) hf hc rfl rfl rfl rfl fun b_1 a w hf hc => ?_
  refine stP hf rfl rfl rfl (pA rfl) fun a hf => ?_
  refine cNil ?_
  refine h1 _ _ ?_
  refine wp_seq_k fun K2 h2 => ?_
  refine wp_seq_k fun K3 h3 => ?_
  refine cReg ?_
  refine stP hf rfl rfl rfl (pFA fa_25_0 rfl) fun a hf => ?_
  refine stE hf hc rfl rfl rfl (eLd1 sc_22 rfl (cell_box m0 rfl)) fun a w hf hc => ?_
  refine stP hf rfl rfl rfl (pLenS Try.underlying22 rfl) fun a hf => ?_
  refine stP hf rfl rfl rfl (pGt rfl rfl) fun a hf => ?_
  refine stP hf rfl rfl rfl (pM rfl) fun a hf => ?_
  refine stCut 5 (fun a w => Has 118 a [(1, .int .i64 stage), (2, .int .i64 by_), (3, .int .i64 rise), (4, .int .i64 per), (5, .pointer (some ⟨b_1, 0, none⟩)), (18, .pointer (some ⟨b_1, 0, none⟩)), (19, .slice r_Rating_p r.Rating.length r_Rating_c), (20, .int .i64 ((r.Rating.length : Nat) : Int)), (21, .bool (decide (15 < ((r.Rating.length : Nat) : Int)))), (22, .bool (decide (15 < ((r.Rating.length : Nat) : Int)))), (27, .bool ((decide (15 < ((r.Rating.length : Nat) : Int))) || (decide (35 < ((r.Gaugings.length : Nat) : Int)))))] ∧ Ctx G (.box b_1 [.slice r_Rating_p r.Rating.length r_Rating_c, .slice r_Gaugings_p r.Gaugings.length r_Gaugings_c] 25 :: Lf) w) ?_ ?_
  · cases hb : (decide (15 < ((r.Rating.length : Nat) : Int)))
    · rw [hb] at hf
      refine stP hf rfl rfl rfl (pFA fa_25_1 rfl) fun a hf => ?_
      refine stE hf hc rfl rfl rfl (eLd1 sc_23 rfl (cell_box m0 rfl)) fun a w hf hc => ?_
      refine stP hf rfl rfl rfl (pLenS Try.underlying23 rfl) fun a hf => ?_
      refine stP hf rfl rfl rfl (pGt rfl rfl) fun a hf => ?_
      refine stP hf rfl rfl rfl (pPf rfl rfl) fun a hf => ?_
      exact cNil ⟨hf.keep ⟨rfl, rfl, rfl, rfl, rfl, rfl, rfl, rfl, rfl, rfl, rfl, trivial⟩, hc⟩
    · rw [hb] at hf
      refine stS hf rfl rfl rfl fun a hf => ?_
      refine stS hf rfl rfl rfl fun a hf => ?_
      refine stS hf rfl rfl rfl fun a hf => ?_
      refine stS hf rfl rfl rfl fun a hf => ?_
      refine stP hf rfl rfl rfl (pPt rfl rfl) fun a hf => ?_
      exact cNil ⟨hf.keep ⟨rfl, rfl, rfl, rfl, rfl, rfl, rfl, rfl, rfl, rfl, rfl, trivial⟩, hc⟩
  intro a w ⟨hf, hc⟩
  refine cNil ?_
  refine h3 _ _ ?_
  refine cCond (b := ((decide (15 < ((r.Rating.length : Nat) : Int))) || (decide (35 < ((r.Gaugings.length : Nat) : Int))))) hf rfl (fun hb => ?_) (fun hb => ?_)
  · replace hF := condT hb hF
    clear hb
    refine wp_seq_k fun K4 h4 => ?_
    refine cReg ?_
    obtain ⟨r_0, hr_0, hF⟩ := bnd_some hF
    refine stE hf hc rfl rfl rfl (eC (v := .bool r_0) (vs := []) (caps := []) en_12 rfl rfl rfl rfl (fun w hc => law05_awake_ok hc hr_0)) fun a w hf hc => ?_
    refine stP hf rfl rfl rfl (pA rfl) fun a hf => ?_
    refine cNil ?_
    refine h4 _ _ ?_
    refine wp_ret ?_
    refine xThenR ?_
    obtain rfl := Option.some.inj hF
    replace hc := hc.drop k0
    exact fnOut1 (by simp) rfl Try.results3 hf hc (show look _ 10 = _ from rfl) ⟨rfl, hc⟩
  · replace hF := condF hb hF
    clear hb
    refine wp_skip ?_
    refine h2 _ _ ?_
    refine wp_seq_k fun K5 h5 => ?_
    refine cReg ?_
    refine stE hf hc rfl rfl rfl (eLdN (vs := [.slice r_Rating_p r.Rating.length r_Rating_c, .slice r_Gaugings_p r.Gaugings.length r_Gaugings_c]) ag_25 rfl rfl (cells_box (n := 2) m0 rfl)) fun a w hf hc => ?_
    obtain ⟨r_1, hr_1, hF⟩ := bnd_some hF
    refine stC (vs := [.agg #[.slice r_Rating_p r.Rating.length r_Rating_c, .slice r_Gaugings_p r.Gaugings.length r_Gaugings_c]]) (caps := []) hf rfl rfl rfl en_13 rfl rfl rfl rfl (law05_CopyRecord_ok r h_r_Rating h_r_Gaugings hc hr_1) ?_
    rintro _ w ⟨p_1, c_1, p_2, c_2, rfl, hc⟩
    refine ⟨_, rfl, fun a hf => ?_⟩
    refine stAl (cs := [.slice none 0 0, .slice none 0 0]) hf hc rfl rfl zr_25 rfl fun b_2 a w hf hc => ?_
    refine stSt (vs := [.slice p_1 r_1.Rating.length c_1, .slice p_2 r_1.Gaugings.length c_2]) hf hc rfl rfl rfl rfl sz_25 rfl rfl u0 fun w hc => ?_
    refine cNil ?_
    refine h5 _ _ ?_
    refine wp_seq_k fun K6 h6 => ?_
    refine wp_seq_k fun K7 h7 => ?_
    obtain ⟨r_2, hr_2, hF⟩ := bnd_some hF
    obtain ⟨r_3, hr_3, hF⟩ := bnd_some hF
    obtain ⟨r_4, hr_4, hF⟩ := bnd_some hF
    replace hc := hc.nilRow 0 0
    replace hc := hc.nilRow 0 0
    refine regionE (fun θ => [⟨none, none, 1, .int .i64 stage⟩, ⟨none, none, 2, .int .i64 by_⟩, ⟨none, none, 3, .int .i64 rise⟩, ⟨none, none, 4, .int .i64 per⟩, ⟨none, none, 5, .pointer (some ⟨b_1, 0, none⟩)⟩, ⟨none, none, 11, .pointer (some ⟨b_2, 0, none⟩)⟩, ⟨some 0, none, 31, .agg #[.slice p_1 r_1.Rating.length c_1, .slice p_2 r_1.Gaugings.length c_2]⟩, ⟨some 1, none, 32, .int .i64 r_2⟩, ⟨some 2, none, 33, .agg #[.slice r_Rating_p r.Rating.length r_Rating_c, .slice r_Gaugings_p r.Gaugings.length r_Gaugings_c]⟩, ⟨some 3, none, 34, .agg #[.slice ((θ 24).p) r_3.Rating.length ((θ 24).c), .slice ((θ 25).p) r_3.Gaugings.length ((θ 25).c)]⟩, ⟨some 4, none, 35, .int .i64 r_4⟩, ⟨some 5, none, 36, .bool (r_2 != r_4)⟩]) (fun E θ => (bif E 3 then .row ((θ 25).p) ((θ 25).c) (r_3.Gaugings.map enc_ref05_Gauging) 129 4 else .row none 0 [] 0 0) :: (bif E 3 then .row ((θ 24).p) ((θ 24).c) (r_3.Rating.map enc_ref05_Mark) 134 2 else .row none 0 [] 0 0) :: .box b_2 [.slice p_1 r_1.Rating.length c_1, .slice p_2 r_1.Gaugings.length c_2] 25 :: .row p_1 c_1 (r_1.Rating.map enc_shift_Mark) 77 2 :: .row p_2 c_2 (r_1.Gaugings.map enc_shift_Gauging) 71 4 :: .box b_1 [.slice r_Rating_p r.Rating.length r_Rating_c, .slice r_Gaugings_p r.Gaugings.length r_Gaugings_c] 25 :: Lf) [] (fun a w => ∃ (p_5 : Option Addr) (c_5 : Nat) (p_6 : Option Addr) (c_6 : Nat), Has 118 a [(1, .int .i64 stage), (2, .int .i64 by_), (3, .int .i64 rise), (4, .int .i64 per), (5, .pointer (some ⟨b_1, 0, none⟩)), (11, .pointer (some ⟨b_2, 0, none⟩)), (36, .bool (r_2 != r_4))] ∧ Ctx G (.row p_5 c_5 (r_3.Gaugings.map enc_ref05_Gauging) 129 4 :: .row p_6 c_6 (r_3.Rating.map enc_ref05_Mark) 134 2 :: .box b_2 [.slice p_1 r_1.Rating.length c_1, .slice p_2 r_1.Gaugings.length c_2] 25 :: .row p_1 c_1 (r_1.Rating.map enc_shift_Mark) 77 2 :: .row p_2 c_2 (r_1.Gaugings.map enc_shift_Gauging) 71 4 :: .box b_1 [.slice r_Rating_p r.Rating.length r_Rating_c, .slice r_Gaugings_p r.Gaugings.length r_Gaugings_c] 25 :: Lf) w) follows_mx (by kernel_rfl) (by kernel_rfl) (HasE.of hf ⟨rfl, rfl, rfl, rfl, rfl, rfl, trivial, trivial, trivial, trivial, trivial, trivial, trivial⟩) hc ⟨?_, ?_, ?_, ?_, ?_, ?_, trivial⟩ ?_ ?_
    · intro E θ a w hD hi hp he hc
      have hf := he.h0
      replace hf := hf.more he 5 rfl onT
      refine stE hf hc rfl rfl rfl (eLdN (vs := [.slice p_1 r_1.Rating.length c_1, .slice p_2 r_1.Gaugings.length c_2]) ag_25 rfl rfl (cells_box (n := 2) m2 rfl)) fun a w hf hc => ?_
      refine cNil ?_
      refine xThenN ?_
      intro ds u hau
      refine ⟨θ, he.put0 hi hau hf rfl 6 rfl rfl, ?_⟩
      exact hc
    · intro E θ a w hD hi hp he hc
      have e0 := hp.of (k := 0) rfl
      have hf := he.h0
      replace hf := hf.more he 6 rfl (onP e0)
      refine stE hf hc rfl rfl rfl (eC (v := .int .i64 r_2) (vs := [.agg #[.slice p_1 r_1.Rating.length c_1, .slice p_2 r_1.Gaugings.length c_2]]) (caps := []) en_14 rfl rfl rfl rfl (fun w hc => by obtain ⟨G1, hle1, hrd1, hc, hth1⟩ := lend hc k3; obtain ⟨G2, hle2, hrd2, hc, hth2⟩ := lend hc k3; exact (shift_Check_ok r_1 (hrd1.mono hle2) hrd2 hc hr_2).mono fun e w h => ⟨h.1, ((hth1 _ _ ((hth2 _ _ h.2).unpick k3)).unpick k3)⟩)) fun a w hf hc => ?_
      refine cNil ?_
      refine xThenN ?_
      intro ds u hau
      refine ⟨θ, he.put0 hi hau hf rfl 7 rfl rfl, ?_⟩
      exact hc
    · intro E θ a w hD hi hp he hc
      have hf := he.h0
      replace hf := hf.more he 4 rfl onT
      refine stE hf hc rfl rfl rfl (eLdN (vs := [.slice r_Rating_p r.Rating.length r_Rating_c, .slice r_Gaugings_p r.Gaugings.length r_Gaugings_c]) ag_25 rfl rfl (cells_box (n := 2) m5 rfl)) fun a w hf hc => ?_
      refine cNil ?_
      refine xThenN ?_
      intro ds u hau
      refine ⟨θ, he.put0 hi hau hf rfl 8 rfl rfl, ?_⟩
      exact hc
    · intro E θ a w hD hi hp he hc
      have e2 := hp.of (k := 2) rfl
      try dsimp only at hc
      rw [hi] at hc
      have hf := he.h0
      replace hf := hf.more he 8 rfl (onP e2)
      refine stC (vs := [.agg #[.slice r_Rating_p r.Rating.length r_Rating_c, .slice r_Gaugings_p r.Gaugings.length r_Gaugings_c]]) (caps := []) hf rfl rfl rfl en_16 rfl rfl rfl rfl (law05_Record_ok r h_r_Rating h_r_Gaugings hc hr_3) ?_
      rintro _ w ⟨p_3, c_3, p_4, c_4, rfl, hc⟩
      refine ⟨_, rfl, fun a hf => ?_⟩
      refine cNil ?_
      refine xThenN ?_
      intro ds u hau
      replace hc := hc.drop k3
      replace hc := hc.drop k2
      replace hc := hc.pick k0
      replace hc := hc.pick k1
      refine ⟨(setT (setT θ 24 ⟨0, p_3, c_3⟩) 25 ⟨0, p_4, c_4⟩), he.put hi hau hf rfl [] trivial ⟨qq, qq, qq, qq, qq, qq, qq, qq, qq, qq, qq, qq, trivial⟩, ?_⟩
      try dsimp only
      rw [updE_self E 3]
      exact hc
    · intro E θ a w hD hi hp he hc
      have e3 := hp.of (k := 3) rfl
      try dsimp only at hc
      rw [e3] at hc
      have hf := he.h0
      replace hf := hf.more he 9 rfl (onP e3)
      refine stE hf hc rfl rfl rfl (eC (v := .int .i64 r_4) (vs := [.agg #[.slice ((θ 24).p) r_3.Rating.length ((θ 24).c), .slice ((θ 25).p) r_3.Gaugings.length ((θ 25).c)]]) (caps := []) en_15 rfl rfl rfl rfl (fun w hc => by obtain ⟨G1, hle1, hrd1, hc, hth1⟩ := lend hc k1; obtain ⟨G2, hle2, hrd2, hc, hth2⟩ := lend hc k0; exact (ref05_Check_ok r_3 (hrd1.mono hle2) hrd2 hc hr_4).mono fun e w h => ⟨h.1, ((hth1 _ _ ((hth2 _ _ h.2).unpick k0)).unpick k1)⟩)) fun a w hf hc => ?_
      refine cNil ?_
      refine xThenN ?_
      intro ds u hau
      refine ⟨θ, he.put0 hi hau hf rfl 10 rfl rfl, ?_⟩
      try dsimp only
      rw [updE_tru 4 e3]
      exact hc
    · intro E θ a w hD hi hp he hc
      have e1 := hp.of (k := 1) rfl
      have e4 := hp.of (k := 4) rfl
      have hf := he.h0
      replace hf := hf.more he 7 rfl (onP e1)
      replace hf := hf.more he 10 rfl (onP e4)
      refine stP hf rfl rfl rfl (pNe rfl rfl) fun a hf => ?_
      refine cNil ?_
      refine xThenN ?_
      intro ds u hau
      refine ⟨θ, he.put0 hi hau hf rfl 11 rfl rfl, ?_⟩
      exact hc
    · intro E θ a w hall he hc
      have hf := he.h0
      have e3 := hall 3 rfl
      have e5 := hall 5 rfl
      replace hf := hf.more he 11 rfl (onP e5)
      replace hf := hf.more he 5 rfl (onT)
      replace hf := hf.more he 4 rfl (onT)
      replace hf := hf.more he 3 rfl (onT)
      replace hf := hf.more he 2 rfl (onT)
      replace hf := hf.more he 1 rfl (onT)
      replace hf := hf.more he 0 rfl (onT)
      try dsimp only at hc
      rw [e3] at hc
      exact ⟨(θ 25).p, (θ 25).c, (θ 24).p, (θ 24).c, hf.keep ⟨rfl, rfl, rfl, rfl, rfl, rfl, rfl, trivial⟩, hc⟩
    rintro a w ⟨p_5, c_5, p_6, c_6, hf, hc⟩
    refine h7 _ _ ?_
    refine cCond (b := (r_2 != r_4)) hf rfl (fun hb => ?_) (fun hb => ?_)
    · replace hF := condT hb hF
      clear hb
      refine wp_seq_k fun K8 h8 => ?_
      refine cReg ?_
      refine stP hf rfl rfl rfl (pA rfl) fun a hf => ?_
      refine cNil ?_
      refine h8 _ _ ?_
      refine wp_ret ?_
      refine xThenR ?_
      obtain rfl := Option.some.inj hF
      replace hc := hc.drop k5
      replace hc := hc.drop k4
      replace hc := hc.drop k3
      replace hc := hc.drop k2
      replace hc := hc.drop k1
      replace hc := hc.drop k0
      exact fnOut1 (by simp) rfl Try.results3 hf hc (show look _ 10 = _ from rfl) ⟨rfl, hc⟩
    · replace hF := condF hb hF
      clear hb
      refine wp_skip ?_
      refine h6 _ _ ?_
      refine wp_seq_k fun K9 h9 => ?_
      refine cReg ?_
      refine stP hf rfl rfl rfl (pFA fa_25_0 rfl) fun a hf => ?_
      refine stE hf hc rfl rfl rfl (eLd1 sc_22 rfl (cell_box m2 rfl)) fun a w hf hc => ?_
      refine stP hf rfl rfl rfl (pM rfl) fun a hf => ?_
      refine stP hf rfl rfl rfl (pM rfl) fun a hf => ?_
      obtain ⟨r_5, hr_5, hF⟩ := bnd_some hF
      refine stE hf hc rfl rfl rfl (eC (v := .tuple #[.agg #[.int .i64 r_5.1.N, .int .i64 r_5.1.D], .int .i64 r_5.2]) (vs := [.slice p_1 r_1.Rating.length c_1, .int .i64 stage, .int .i64 by_]) (caps := []) en_17 rfl rfl rfl rfl (fun w hc => by obtain ⟨G1, hle1, hrd1, hc, hth1⟩ := lend hc k3; exact (shift_Means_ok r_1.Rating stage by_ hrd1 hc hr_5).mono fun e w h => ⟨h.1, ((hth1 _ _ h.2).unpick k3)⟩)) fun a w hf hc => ?_
      refine stP hf rfl rfl rfl (pM rfl) fun a hf => ?_
      refine stP hf rfl rfl rfl (pX rfl rfl) fun a hf => ?_
      refine stP hf rfl rfl rfl (pX rfl rfl) fun a hf => ?_
      refine stAl (cs := [.int .i64 0, .int .i64 0]) hf hc rfl rfl zr_37 rfl fun b_3 a w hf hc => ?_
      refine stSt (vs := [.int .i64 r_5.1.N, .int .i64 r_5.1.D]) hf hc rfl rfl rfl rfl sz_37 rfl rfl u0 fun w hc => ?_
      refine stP hf rfl rfl rfl (pA rfl) fun a hf => ?_
      refine cNil ?_
      refine h9 _ _ ?_
      refine wp_seq_k fun K10 h10 => ?_
      refine cReg ?_
      refine stP hf rfl rfl rfl (pFA fa_25_0 rfl) fun a hf => ?_
      refine stE hf hc rfl rfl rfl (eLd1 sc_22 rfl (cell_box m6 rfl)) fun a w hf hc => ?_
      obtain ⟨r_6, hr_6, hF⟩ := bnd_some hF
      refine stC (vs := [.slice r_Rating_p r.Rating.length r_Rating_c]) (caps := []) hf rfl rfl rfl en_19 rfl rfl rfl rfl (law05_marks_ok r.Rating h_r_Rating hc hr_6) ?_
      rintro _ w ⟨p_7, c_7, rfl, hc⟩
      refine ⟨_, rfl, fun a hf => ?_⟩
      refine stP hf rfl rfl rfl (pM rfl) fun a hf => ?_
      refine stP hf rfl rfl rfl (pM rfl) fun a hf => ?_
      obtain ⟨r_7, hr_7, hF⟩ := bnd_some hF
      refine stE hf hc rfl rfl rfl (eC (v := .tuple #[.agg #[.int .i64 r_7.1.N, .int .i64 r_7.1.D], .int .i64 r_7.2]) (vs := [.slice p_7 r_6.length c_7, .int .i64 stage, .int .i64 by_]) (caps := []) en_18 rfl rfl rfl rfl (fun w hc => by obtain ⟨G1, hle1, hrd1, hc, hth1⟩ := lend hc k0; exact (ref05_Means_ok r_6 stage by_ hrd1 hc hr_7).mono fun e w h => ⟨h.1, ((hth1 _ _ h.2).unpick k0)⟩)) fun a w hf hc => ?_
      refine stP hf rfl rfl rfl (pM rfl) fun a hf => ?_
      refine stP hf rfl rfl rfl (pX rfl rfl) fun a hf => ?_
      refine stP hf rfl rfl rfl (pX rfl rfl) fun a hf => ?_
      refine stAl (cs := [.int .i64 0, .int .i64 0]) hf hc rfl rfl zr_37 rfl fun b_4 a w hf hc => ?_
      refine stSt (vs := [.int .i64 r_7.1.N, .int .i64 r_7.1.D]) hf hc rfl rfl rfl rfl sz_37 rfl rfl u0 fun w hc => ?_
      refine stP hf rfl rfl rfl (pA rfl) fun a hf => ?_
      refine cNil ?_
      refine h10 _ _ ?_
      refine wp_seq_k fun K11 h11 => ?_
      refine wp_seq_k fun K12 h12 => ?_
      refine cReg ?_
      refine stE hf hc rfl rfl rfl (eLdN (vs := [.int .i64 r_5.1.N, .int .i64 r_5.1.D]) ag_37 rfl rfl (cells_box (n := 2) m2 rfl)) fun a w hf hc => ?_
      refine stE hf hc rfl rfl rfl (eLdN (vs := [.int .i64 r_7.1.N, .int .i64 r_7.1.D]) ag_37 rfl rfl (cells_box (n := 2) m0 rfl)) fun a w hf hc => ?_
      refine stP hf rfl rfl rfl (pNeA ge_37 rfl rfl (eqs_37 _ _ _ _)) fun a hf => ?_
      refine stP hf rfl rfl rfl (pM rfl) fun a hf => ?_
      refine stCut 4 (fun a w => Has 118 a [(1, .int .i64 stage), (2, .int .i64 by_), (3, .int .i64 rise), (4, .int .i64 per), (5, .pointer (some ⟨b_1, 0, none⟩)), (11, .pointer (some ⟨b_2, 0, none⟩)), (12, .pointer (some ⟨b_3, 0, none⟩)), (13, .int .i64 r_5.2), (14, .pointer (some ⟨b_4, 0, none⟩)), (15, .int .i64 r_7.2), (54, .agg #[.int .i64 r_5.1.N, .int .i64 r_5.1.D]), (55, .agg #[.int .i64 r_7.1.N, .int .i64 r_7.1.D]), (56, .bool (!(r_5.1.N == r_7.1.N && r_5.1.D == r_7.1.D))), (57, .bool (!(r_5.1.N == r_7.1.N && r_5.1.D == r_7.1.D))), (61, .bool ((!(r_5.1.N == r_7.1.N && r_5.1.D == r_7.1.D)) || (r_5.2 != r_7.2)))] ∧ Ctx G (.box b_4 [.int .i64 r_7.1.N, .int .i64 r_7.1.D] 37 :: .row p_7 c_7 (r_6.map enc_ref05_Mark) 134 2 :: .box b_3 [.int .i64 r_5.1.N, .int .i64 r_5.1.D] 37 :: .row p_5 c_5 (r_3.Gaugings.map enc_ref05_Gauging) 129 4 :: .row p_6 c_6 (r_3.Rating.map enc_ref05_Mark) 134 2 :: .box b_2 [.slice p_1 r_1.Rating.length c_1, .slice p_2 r_1.Gaugings.length c_2] 25 :: .row p_1 c_1 (r_1.Rating.map enc_shift_Mark) 77 2 :: .row p_2 c_2 (r_1.Gaugings.map enc_shift_Gauging) 71 4 :: .box b_1 [.slice r_Rating_p r.Rating.length r_Rating_c, .slice r_Gaugings_p r.Gaugings.length r_Gaugings_c] 25 :: Lf) w) ?_ ?_
      · cases hb : (!(r_5.1.N == r_7.1.N && r_5.1.D == r_7.1.D))
        · rw [hb] at hf
          refine stP hf rfl rfl rfl (pM rfl) fun a hf => ?_
          refine stP hf rfl rfl rfl (pM rfl) fun a hf => ?_
          refine stP hf rfl rfl rfl (pNe rfl rfl) fun a hf => ?_
          refine stP hf rfl rfl rfl (pPf rfl rfl) fun a hf => ?_
          exact cNil ⟨hf.keep ⟨rfl, rfl, rfl, rfl, rfl, rfl, rfl, rfl, rfl, rfl, rfl, rfl, rfl, rfl, rfl, trivial⟩, hc⟩
        · rw [hb] at hf
          refine stS hf rfl rfl rfl fun a hf => ?_
          refine stS hf rfl rfl rfl fun a hf => ?_
          refine stS hf rfl rfl rfl fun a hf => ?_
          refine stP hf rfl rfl rfl (pPt rfl rfl) fun a hf => ?_
          exact cNil ⟨hf.keep ⟨rfl, rfl, rfl, rfl, rfl, rfl, rfl, rfl, rfl, rfl, rfl, rfl, rfl, rfl, rfl, trivial⟩, hc⟩
      intro a w ⟨hf, hc⟩
      refine cNil ?_
      refine h12 _ _ ?_
      refine cCond (b := ((!(r_5.1.N == r_7.1.N && r_5.1.D == r_7.1.D)) || (r_5.2 != r_7.2))) hf rfl (fun hb => ?_) (fun hb => ?_)
      · replace hF := condT hb hF
        clear hb
        refine wp_seq_k fun K13 h13 => ?_
        refine cReg ?_
        refine stP hf rfl rfl rfl (pA rfl) fun a hf => ?_
        refine cNil ?_
        refine h13 _ _ ?_
        refine wp_ret ?_
        refine xThenR ?_
        obtain rfl := Option.some.inj hF
        replace hc := hc.drop k8
        replace hc := hc.drop k7
        replace hc := hc.drop k6
        replace hc := hc.drop k5
        replace hc := hc.drop k4
        replace hc := hc.drop k3
        replace hc := hc.drop k2
        replace hc := hc.drop k1
        replace hc := hc.drop k0
        exact fnOut1 (by simp) rfl Try.results3 hf hc (show look _ 10 = _ from rfl) ⟨rfl, hc⟩
      · replace hF := condF hb hF
        clear hb
        refine wp_skip ?_
        refine h11 _ _ ?_
        refine wp_seq_k fun K14 h14 => ?_
        refine cReg ?_
        refine stP hf rfl rfl rfl (pFA fa_25_0 rfl) fun a hf => ?_
        refine stE hf hc rfl rfl rfl (eLd1 sc_22 rfl (cell_box m5 rfl)) fun a w hf hc => ?_
        refine stP hf rfl rfl rfl (pM rfl) fun a hf => ?_
        refine stP hf rfl rfl rfl (pM rfl) fun a hf => ?_
        refine stP hf rfl rfl rfl (pM rfl) fun a hf => ?_
        refine stP hf rfl rfl rfl (pM rfl) fun a hf => ?_
        obtain ⟨r_8, hr_8, hF⟩ := bnd_some hF
        refine stE hf hc rfl rfl rfl (eC (v := .tuple #[.agg #[.int .i64 r_8.1.N, .int .i64 r_8.1.D], .int .i64 r_8.2]) (vs := [.slice p_1 r_1.Rating.length c_1, .int .i64 stage, .int .i64 by_, .int .i64 rise, .int .i64 per]) (caps := []) en_20 rfl rfl rfl rfl (fun w hc => by obtain ⟨G1, hle1, hrd1, hc, hth1⟩ := lend hc k6; exact (shift_Rising_ok r_1.Rating stage by_ rise per hrd1 hc hr_8).mono fun e w h => ⟨h.1, ((hth1 _ _ h.2).unpick k6)⟩)) fun a w hf hc => ?_
        refine stP hf rfl rfl rfl (pM rfl) fun a hf => ?_
        refine stP hf rfl rfl rfl (pX rfl rfl) fun a hf => ?_
        refine stP hf rfl rfl rfl (pX rfl rfl) fun a hf => ?_
        refine stSt (vs := [.int .i64 r_8.1.N, .int .i64 r_8.1.D]) hf hc rfl rfl rfl rfl sz_37 rfl rfl u2 fun w hc => ?_
        refine stP hf rfl rfl rfl (pA rfl) fun a hf => ?_
        refine cNil ?_
        refine h14 _ _ ?_
        refine wp_seq_k fun K15 h15 => ?_
        refine cReg ?_
        refine stP hf rfl rfl rfl (pFA fa_25_0 rfl) fun a hf => ?_
        refine stE hf hc rfl rfl rfl (eLd1 sc_22 rfl (cell_box m8 rfl)) fun a w hf hc => ?_
        obtain ⟨r_9, hr_9, hF⟩ := bnd_some hF
        refine stC (vs := [.slice r_Rating_p r.Rating.length r_Rating_c]) (caps := []) hf rfl rfl rfl en_19 rfl rfl rfl rfl (law05_marks_ok r.Rating h_r_Rating hc hr_9) ?_
        rintro _ w ⟨p_8, c_8, rfl, hc⟩
        refine ⟨_, rfl, fun a hf => ?_⟩
        refine stP hf rfl rfl rfl (pM rfl) fun a hf => ?_
        refine stP hf rfl rfl rfl (pM rfl) fun a hf => ?_
        refine stP hf rfl rfl rfl (pM rfl) fun a hf => ?_
        refine stP hf rfl rfl rfl (pM rfl) fun a hf => ?_
        obtain ⟨r_10, hr_10, hF⟩ := bnd_some hF
        refine stE hf hc rfl rfl rfl (eC (v := .tuple #[.agg #[.int .i64 r_10.1.N, .int .i64 r_10.1.D], .int .i64 r_10.2]) (vs := [.slice p_8 r_9.length c_8, .int .i64 stage, .int .i64 by_, .int .i64 rise, .int .i64 per]) (caps := []) en_21 rfl rfl rfl rfl (fun w hc => by obtain ⟨G1, hle1, hrd1, hc, hth1⟩ := lend hc k0; exact (ref05_Rising_ok r_9 stage by_ rise per hrd1 hc hr_10).mono fun e w h => ⟨h.1, ((hth1 _ _ h.2).unpick k0)⟩)) fun a w hf hc => ?_
        refine stP hf rfl rfl rfl (pM rfl) fun a hf => ?_
        refine stP hf rfl rfl rfl (pX rfl rfl) fun a hf => ?_
        refine stP hf rfl rfl rfl (pX rfl rfl) fun a hf => ?_
        refine stSt (vs := [.int .i64 r_10.1.N, .int .i64 r_10.1.D]) hf hc rfl rfl rfl rfl sz_37 rfl rfl u1 fun w hc => ?_
        refine stP hf rfl rfl rfl (pA rfl) fun a hf => ?_
        refine cNil ?_
        refine h15 _ _ ?_
        refine wp_seq_k fun K16 h16 => ?_
        refine wp_seq_k fun K17 h17 => ?_
        refine cReg ?_
        refine stE hf hc rfl rfl rfl (eLdN (vs := [.int .i64 r_8.1.N, .int .i64 r_8.1.D]) ag_37 rfl rfl (cells_box (n := 2) m3 rfl)) fun a w hf hc => ?_
        refine stE hf hc rfl rfl rfl (eLdN (vs := [.int .i64 r_10.1.N, .int .i64 r_10.1.D]) ag_37 rfl rfl (cells_box (n := 2) m1 rfl)) fun a w hf hc => ?_
        refine stP hf rfl rfl rfl (pNeA ge_37 rfl rfl (eqs_37 _ _ _ _)) fun a hf => ?_
        refine stP hf rfl rfl rfl (pM rfl) fun a hf => ?_
        refine stCut 4 (fun a w => Has 118 a [(5, .pointer (some ⟨b_1, 0, none⟩)), (11, .pointer (some ⟨b_2, 0, none⟩)), (12, .pointer (some ⟨b_3, 0, none⟩)), (13, .int .i64 r_8.2), (14, .pointer (some ⟨b_4, 0, none⟩)), (15, .int .i64 r_10.2), (83, .agg #[.int .i64 r_8.1.N, .int .i64 r_8.1.D]), (84, .agg #[.int .i64 r_10.1.N, .int .i64 r_10.1.D]), (85, .bool (!(r_8.1.N == r_10.1.N && r_8.1.D == r_10.1.D))), (86, .bool (!(r_8.1.N == r_10.1.N && r_8.1.D == r_10.1.D))), (90, .bool ((!(r_8.1.N == r_10.1.N && r_8.1.D == r_10.1.D)) || (r_8.2 != r_10.2)))] ∧ Ctx G (.row p_8 c_8 (r_9.map enc_ref05_Mark) 134 2 :: .box b_4 [.int .i64 r_10.1.N, .int .i64 r_10.1.D] 37 :: .row p_7 c_7 (r_6.map enc_ref05_Mark) 134 2 :: .box b_3 [.int .i64 r_8.1.N, .int .i64 r_8.1.D] 37 :: .row p_5 c_5 (r_3.Gaugings.map enc_ref05_Gauging) 129 4 :: .row p_6 c_6 (r_3.Rating.map enc_ref05_Mark) 134 2 :: .box b_2 [.slice p_1 r_1.Rating.length c_1, .slice p_2 r_1.Gaugings.length c_2] 25 :: .row p_1 c_1 (r_1.Rating.map enc_shift_Mark) 77 2 :: .row p_2 c_2 (r_1.Gaugings.map enc_shift_Gauging) 71 4 :: .box b_1 [.slice r_Rating_p r.Rating.length r_Rating_c, .slice r_Gaugings_p r.Gaugings.length r_Gaugings_c] 25 :: Lf) w) ?_ ?_
        · cases hb : (!(r_8.1.N == r_10.1.N && r_8.1.D == r_10.1.D))
          · rw [hb] at hf
            refine stP hf rfl rfl rfl (pM rfl) fun a hf => ?_
            refine stP hf rfl rfl rfl (pM rfl) fun a hf => ?_
            refine stP hf rfl rfl rfl (pNe rfl rfl) fun a hf => ?_
            refine stP hf rfl rfl rfl (pPf rfl rfl) fun a hf => ?_
            exact cNil ⟨hf.keep ⟨rfl, rfl, rfl, rfl, rfl, rfl, rfl, rfl, rfl, rfl, rfl, trivial⟩, hc⟩
          · rw [hb] at hf
            refine stS hf rfl rfl rfl fun a hf => ?_
            refine stS hf rfl rfl rfl fun a hf => ?_
            refine stS hf rfl rfl rfl fun a hf => ?_
            refine stP hf rfl rfl rfl (pPt rfl rfl) fun a hf => ?_
            exact cNil ⟨hf.keep ⟨rfl, rfl, rfl, rfl, rfl, rfl, rfl, rfl, rfl, rfl, rfl, trivial⟩, hc⟩
        intro a w ⟨hf, hc⟩
        refine cNil ?_
        refine h17 _ _ ?_
        refine cCond (b := ((!(r_8.1.N == r_10.1.N && r_8.1.D == r_10.1.D)) || (r_8.2 != r_10.2))) hf rfl (fun hb => ?_) (fun hb => ?_)
        · replace hF := condT hb hF
          clear hb
          refine wp_seq_k fun K18 h18 => ?_
          refine cReg ?_
          refine stP hf rfl rfl rfl (pA rfl) fun a hf => ?_
          refine cNil ?_
          refine h18 _ _ ?_
          refine wp_ret ?_
          refine xThenR ?_
          obtain rfl := Option.some.inj hF
          replace hc := hc.drop k9
          replace hc := hc.drop k8
          replace hc := hc.drop k7
          replace hc := hc.drop k6
          replace hc := hc.drop k5
          replace hc := hc.drop k4
          replace hc := hc.drop k3
          replace hc := hc.drop k2
          replace hc := hc.drop k1
          replace hc := hc.drop k0
          exact fnOut1 (by simp) rfl Try.results3 hf hc (show look _ 10 = _ from rfl) ⟨rfl, hc⟩
        · replace hF := condF hb hF
          clear hb
          refine wp_skip ?_
          refine h16 _ _ ?_
          refine wp_seq_k fun K19 h19 => ?_
          refine cReg ?_
          refine stE hf hc rfl rfl rfl (eLdN (vs := [.slice p_1 r_1.Rating.length c_1, .slice p_2 r_1.Gaugings.length c_2]) ag_25 rfl rfl (cells_box (n := 2) m6 rfl)) fun a w hf hc => ?_
          obtain ⟨r_11, hr_11, hF⟩ := bnd_some hF
          obtain ⟨G1, hle1, hrd1, hc, hth1⟩ := lend hc k7
          obtain ⟨G2, hle2, hrd2, hc, hth2⟩ := lend hc k7
          refine stC (vs := [.agg #[.slice p_1 r_1.Rating.length c_1, .slice p_2 r_1.Gaugings.length c_2]]) (caps := []) hf rfl rfl rfl en_22 rfl rfl rfl rfl (shift_Passes_ok r_1 (hrd1.mono hle2) hrd2 hc hr_11) ?_
          rintro _ w ⟨p_9, c_9, rfl, hc⟩
          refine ⟨_, rfl, fun a hf => ?_⟩
          replace hc := hth2 _ _ hc
          replace hc := hth1 _ _ hc
          refine stP hf rfl rfl rfl (pM rfl) fun a hf => ?_
          refine stP hf rfl rfl rfl (pX rfl rfl) fun a hf => ?_
          refine stP hf rfl rfl rfl (pX rfl rfl) fun a hf => ?_
          refine stP hf rfl rfl rfl (pA rfl) fun a hf => ?_
          refine stP hf rfl rfl rfl (pA rfl) fun a hf => ?_
          refine cNil ?_
          refine h19 _ _ ?_
          refine wp_seq_k fun K20 h20 => ?_
          refine cReg ?_
          refine stE hf hc rfl rfl rfl (eLdN (vs := [.slice r_Rating_p r.Rating.length r_Rating_c, .slice r_Gaugings_p r.Gaugings.length r_Gaugings_c]) ag_25 rfl rfl (cells_box (n := 2) m10 rfl)) fun a w hf hc => ?_
          obtain ⟨r_12, hr_12, hF⟩ := bnd_some hF
          refine stC (vs := [.agg #[.slice r_Rating_p r.Rating.length r_Rating_c, .slice r_Gaugings_p r.Gaugings.length r_Gaugings_c]]) (caps := []) hf rfl rfl rfl en_16 rfl rfl rfl rfl (law05_Record_ok r h_r_Rating h_r_Gaugings hc hr_12) ?_
          rintro _ w ⟨p_10, c_10, p_11, c_11, rfl, hc⟩
          refine ⟨_, rfl, fun a hf => ?_⟩
          obtain ⟨r_13, hr_13, hF⟩ := bnd_some hF
          obtain ⟨G1, hle1, hrd1, hc, hth1⟩ := lend hc k0
          obtain ⟨G2, hle2, hrd2, hc, hth2⟩ := lend hc k0
          refine stC (vs := [.agg #[.slice p_10 r_12.Rating.length c_10, .slice p_11 r_12.Gaugings.length c_11]]) (caps := []) hf rfl rfl rfl en_23 rfl rfl rfl rfl (ref05_Passes_ok r_12 (hrd1.mono hle2) hrd2 hc hr_13) ?_
          rintro _ w ⟨p_12, c_12, rfl, hc⟩
          refine ⟨_, rfl, fun a hf => ?_⟩
          replace hc := hth2 _ _ hc
          replace hc := hth1 _ _ hc
          refine stP hf rfl rfl rfl (pM rfl) fun a hf => ?_
          refine stP hf rfl rfl rfl (pX rfl rfl) fun a hf => ?_
          refine stP hf rfl rfl rfl (pX rfl rfl) fun a hf => ?_
          refine stP hf rfl rfl rfl (pA rfl) fun a hf => ?_
          refine stP hf rfl rfl rfl (pA rfl) fun a hf => ?_
          refine cNil ?_
          refine h20 _ _ ?_
          refine wp_seq_k fun K21 h21 => ?_
          refine cReg ?_
          refine stP hf rfl rfl rfl (pM rfl) fun a hf => ?_
          refine stP hf rfl rfl rfl (pM rfl) fun a hf => ?_
          obtain ⟨r_14, hr_14, hF⟩ := bnd_some hF
          refine stE hf hc rfl rfl rfl (eC (v := .bool r_14) (vs := [.slice p_9 r_11.1.length c_9, .slice p_12 r_13.1.length c_12]) (caps := []) en_24 rfl rfl rfl rfl (fun w hc => by obtain ⟨G1, hle1, hrd1, hc, hth1⟩ := lend hc k5; obtain ⟨G2, hle2, hrd2, hc, hth2⟩ := lend hc k2; exact (kit_Same_api_Span_ok r_11.1 r_13.1 (hrd1.mono hle2) hrd2 hc hr_14).mono fun e w h => ⟨h.1, ((hth1 _ _ ((hth2 _ _ h.2).unpick k2)).unpick k5)⟩)) fun a w hf hc => ?_
          refine stP hf rfl rfl rfl (pM rfl) fun a hf => ?_
          refine stCut 4 (fun a w => Has 118 a [(5, .pointer (some ⟨b_1, 0, none⟩)), (11, .pointer (some ⟨b_2, 0, none⟩)), (13, .int .i64 r_11.2), (15, .int .i64 r_13.2), (16, .slice p_9 r_11.1.length c_9), (17, .slice p_12 r_13.1.length c_12), (102, .slice p_9 r_11.1.length c_9), (103, .slice p_12 r_13.1.length c_12), (104, .bool r_14), (105, .bool r_14), (109, .bool (r_14 && (r_11.2 == r_13.2)))] ∧ Ctx G (.row p_10 c_10 (r_12.Rating.map enc_ref05_Mark) 134 2 :: .row p_11 c_11 (r_12.Gaugings.map enc_ref05_Gauging) 129 4 :: .row p_12 c_12 (r_13.1.map enc_api_Span) 50 2 :: .row p_1 c_1 (r_1.Rating.map enc_shift_Mark) 77 2 :: .row p_2 c_2 (r_1.Gaugings.map enc_shift_Gauging) 71 4 :: .row p_9 c_9 (r_11.1.map enc_api_Span) 50 2 :: .row p_8 c_8 (r_9.map enc_ref05_Mark) 134 2 :: .box b_4 [.int .i64 r_10.1.N, .int .i64 r_10.1.D] 37 :: .row p_7 c_7 (r_6.map enc_ref05_Mark) 134 2 :: .box b_3 [.int .i64 r_8.1.N, .int .i64 r_8.1.D] 37 :: .row p_5 c_5 (r_3.Gaugings.map enc_ref05_Gauging) 129 4 :: .row p_6 c_6 (r_3.Rating.map enc_ref05_Mark) 134 2 :: .box b_2 [.slice p_1 r_1.Rating.length c_1, .slice p_2 r_1.Gaugings.length c_2] 25 :: .box b_1 [.slice r_Rating_p r.Rating.length r_Rating_c, .slice r_Gaugings_p r.Gaugings.length r_Gaugings_c] 25 :: Lf) w) ?_ ?_
          · cases hb : r_14
            · rw [hb] at hf
              refine stS hf rfl rfl rfl fun a hf => ?_
              refine stS hf rfl rfl rfl fun a hf => ?_
              refine stS hf rfl rfl rfl fun a hf => ?_
              refine stP hf rfl rfl rfl (pPf rfl rfl) fun a hf => ?_
              exact cNil ⟨hf.keep ⟨rfl, rfl, rfl, rfl, rfl, rfl, rfl, rfl, rfl, rfl, rfl, trivial⟩, hc⟩
            · rw [hb] at hf
              refine stP hf rfl rfl rfl (pM rfl) fun a hf => ?_
              refine stP hf rfl rfl rfl (pM rfl) fun a hf => ?_
              refine stP hf rfl rfl rfl (pEq rfl rfl) fun a hf => ?_
              refine stP hf rfl rfl rfl (pPt rfl rfl) fun a hf => ?_
              exact cNil ⟨hf.keep ⟨rfl, rfl, rfl, rfl, rfl, rfl, rfl, rfl, rfl, rfl, rfl, trivial⟩, hc⟩
          intro a w ⟨hf, hc⟩
          refine stP hf rfl rfl rfl (pM rfl) fun a hf => ?_
          obtain ⟨t_1, ht_1, hF⟩ := bnd_some hF
          refine stCut 4 (fun a w => Has 118 a [(5, .pointer (some ⟨b_1, 0, none⟩)), (11, .pointer (some ⟨b_2, 0, none⟩)), (13, .int .i64 r_11.2), (15, .int .i64 r_13.2), (16, .slice p_9 r_11.1.length c_9), (17, .slice p_12 r_13.1.length c_12), (102, .slice p_9 r_11.1.length c_9), (103, .slice p_12 r_13.1.length c_12), (104, .bool r_14), (105, .bool r_14), (109, .bool (r_14 && (r_11.2 == r_13.2))), (110, .bool (r_14 && (r_11.2 == r_13.2))), (114, .bool t_1)] ∧ Ctx G (.row p_10 c_10 (r_12.Rating.map enc_ref05_Mark) 134 2 :: .row p_11 c_11 (r_12.Gaugings.map enc_ref05_Gauging) 129 4 :: .row p_12 c_12 (r_13.1.map enc_api_Span) 50 2 :: .row p_1 c_1 (r_1.Rating.map enc_shift_Mark) 77 2 :: .row p_2 c_2 (r_1.Gaugings.map enc_shift_Gauging) 71 4 :: .row p_9 c_9 (r_11.1.map enc_api_Span) 50 2 :: .row p_8 c_8 (r_9.map enc_ref05_Mark) 134 2 :: .box b_4 [.int .i64 r_10.1.N, .int .i64 r_10.1.D] 37 :: .row p_7 c_7 (r_6.map enc_ref05_Mark) 134 2 :: .box b_3 [.int .i64 r_8.1.N, .int .i64 r_8.1.D] 37 :: .row p_5 c_5 (r_3.Gaugings.map enc_ref05_Gauging) 129 4 :: .row p_6 c_6 (r_3.Rating.map enc_ref05_Mark) 134 2 :: .box b_2 [.slice p_1 r_1.Rating.length c_1, .slice p_2 r_1.Gaugings.length c_2] 25 :: .box b_1 [.slice r_Rating_p r.Rating.length r_Rating_c, .slice r_Gaugings_p r.Gaugings.length r_Gaugings_c] 25 :: Lf) w) ?_ ?_
          · cases hb : (r_14 && (r_11.2 == r_13.2))
            · rw [hb] at hf
              have hF := condF hb ht_1
              obtain rfl := Option.some.inj hF
              refine stS hf rfl rfl rfl fun a hf => ?_
              refine stS hf rfl rfl rfl fun a hf => ?_
              refine stS hf rfl rfl rfl fun a hf => ?_
              refine stP hf rfl rfl rfl (pPf rfl rfl) fun a hf => ?_
              exact cNil ⟨hf.keep ⟨rfl, rfl, rfl, rfl, rfl, rfl, rfl, rfl, rfl, rfl, rfl, rfl, rfl, trivial⟩, hc⟩
            · rw [hb] at hf
              have hF := condT hb ht_1
              refine stE hf hc rfl rfl rfl (eLdN (vs := [.slice p_1 r_1.Rating.length c_1, .slice p_2 r_1.Gaugings.length c_2]) ag_25 rfl rfl (cells_box (n := 2) m12 rfl)) fun a w hf hc => ?_
              refine stE hf hc rfl rfl rfl (eLdN (vs := [.slice r_Rating_p r.Rating.length r_Rating_c, .slice r_Gaugings_p r.Gaugings.length r_Gaugings_c]) ag_25 rfl rfl (cells_box (n := 2) m13 rfl)) fun a w hf hc => ?_
              obtain ⟨r_15, hr_15, hF⟩ := bnd_some hF
              refine stE hf hc rfl rfl rfl (eC (v := .bool r_15) (vs := [.agg #[.slice p_1 r_1.Rating.length c_1, .slice p_2 r_1.Gaugings.length c_2], .agg #[.slice r_Rating_p r.Rating.length r_Rating_c, .slice r_Gaugings_p r.Gaugings.length r_Gaugings_c]]) (caps := []) en_25 rfl rfl rfl rfl (fun w hc => by obtain ⟨G1, hle1, hrd1, hc, hth1⟩ := lend hc k3; obtain ⟨G2, hle2, hrd2, hc, hth2⟩ := lend hc k3; exact (law05_same_ok r_1 r (hrd1.mono hle2) hrd2 ((h_r_Rating.mono hle1).mono hle2) ((h_r_Gaugings.mono hle1).mono hle2) hc hr_15).mono fun e w h => ⟨h.1, ((hth1 _ _ ((hth2 _ _ h.2).unpick k3)).unpick k3)⟩)) fun a w hf hc => ?_
              refine stP hf rfl rfl rfl (pPt rfl rfl) fun a hf => ?_
              obtain rfl := Option.some.inj hF
              exact cNil ⟨hf.keep ⟨rfl, rfl, rfl, rfl, rfl, rfl, rfl, rfl, rfl, rfl, rfl, rfl, rfl, trivial⟩, hc⟩
          intro a w ⟨hf, hc⟩
          refine stP hf rfl rfl rfl (pM rfl) fun a hf => ?_
          obtain ⟨t_2, ht_2, hF⟩ := bnd_some hF
          refine stCut 2 (fun a w => Has 118 a [(5, .pointer (some ⟨b_1, 0, none⟩)), (11, .pointer (some ⟨b_2, 0, none⟩)), (13, .int .i64 r_11.2), (15, .int .i64 r_13.2), (16, .slice p_9 r_11.1.length c_9), (17, .slice p_12 r_13.1.length c_12), (102, .slice p_9 r_11.1.length c_9), (103, .slice p_12 r_13.1.length c_12), (104, .bool r_14), (105, .bool r_14), (109, .bool (r_14 && (r_11.2 == r_13.2))), (110, .bool (r_14 && (r_11.2 == r_13.2))), (114, .bool t_1), (115, .bool t_1), (117, .bool t_2)] ∧ Ctx G (.row p_10 c_10 (r_12.Rating.map enc_ref05_Mark) 134 2 :: .row p_11 c_11 (r_12.Gaugings.map enc_ref05_Gauging) 129 4 :: .row p_12 c_12 (r_13.1.map enc_api_Span) 50 2 :: .row p_1 c_1 (r_1.Rating.map enc_shift_Mark) 77 2 :: .row p_2 c_2 (r_1.Gaugings.map enc_shift_Gauging) 71 4 :: .row p_9 c_9 (r_11.1.map enc_api_Span) 50 2 :: .row p_8 c_8 (r_9.map enc_ref05_Mark) 134 2 :: .box b_4 [.int .i64 r_10.1.N, .int .i64 r_10.1.D] 37 :: .row p_7 c_7 (r_6.map enc_ref05_Mark) 134 2 :: .box b_3 [.int .i64 r_8.1.N, .int .i64 r_8.1.D] 37 :: .row p_5 c_5 (r_3.Gaugings.map enc_ref05_Gauging) 129 4 :: .row p_6 c_6 (r_3.Rating.map enc_ref05_Mark) 134 2 :: .box b_2 [.slice p_1 r_1.Rating.length c_1, .slice p_2 r_1.Gaugings.length c_2] 25 :: .box b_1 [.slice r_Rating_p r.Rating.length r_Rating_c, .slice r_Gaugings_p r.Gaugings.length r_Gaugings_c] 25 :: Lf) w) ?_ ?_
          · cases hb : t_1
            · rw [hb] at hf
              have hF := condF hb ht_2
              obtain rfl := Option.some.inj hF
              refine stS hf rfl rfl rfl fun a hf => ?_
              refine stP hf rfl rfl rfl (pPf rfl rfl) fun a hf => ?_
              exact cNil ⟨hf.keep ⟨rfl, rfl, rfl, rfl, rfl, rfl, rfl, rfl, rfl, rfl, rfl, rfl, rfl, rfl, rfl, trivial⟩, hc⟩
            · rw [hb] at hf
              have hF := condT hb ht_2
              obtain ⟨r_16, hr_16, hF⟩ := bnd_some hF
              refine stE hf hc rfl rfl rfl (eC (v := .bool r_16) (vs := []) (caps := []) en_12 rfl rfl rfl rfl (fun w hc => law05_awake_ok hc hr_16)) fun a w hf hc => ?_
              refine stP hf rfl rfl rfl (pPt rfl rfl) fun a hf => ?_
              obtain rfl := Option.some.inj hF
              exact cNil ⟨hf.keep ⟨rfl, rfl, rfl, rfl, rfl, rfl, rfl, rfl, rfl, rfl, rfl, rfl, rfl, rfl, rfl, trivial⟩, hc⟩
          intro a w ⟨hf, hc⟩
          refine stP hf rfl rfl rfl (pA rfl) fun a hf => ?_
          refine cNil ?_
          refine h21 _ _ ?_
          refine wp_ret ?_
          obtain rfl := Option.some.inj hF
          replace hc := hc.drop k13
          replace hc := hc.drop k12
          replace hc := hc.drop k11
          replace hc := hc.drop k10
          replace hc := hc.drop k9
          replace hc := hc.drop k8
          replace hc := hc.drop k7
          replace hc := hc.drop k6
          replace hc := hc.drop k5
          replace hc := hc.drop k4
          replace hc := hc.drop k3
          replace hc := hc.drop k2
          replace hc := hc.drop k1
          replace hc := hc.drop k0
          exact fnOut1 (by simp) rfl Try.results3 hf hc (show look _ 10 = _ from rfl) ⟨rfl, hc⟩

end Go.Nilo
