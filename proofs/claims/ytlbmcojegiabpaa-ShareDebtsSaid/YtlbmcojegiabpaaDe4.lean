/-
  What functions of the Go text compute, as plain functions, and that they do, part 4 of 4. Conditions: what each theorem names.
-/
import Derived.Test.YtlbmcojegiabpaaDe3
import Derived.Test.YtlbmcojegiabpaaProg
set_option linter.unusedVariables false
set_option maxRecDepth 100000
set_option maxHeartbeats 4000000
namespace Go.Nilo
open Go.Proofs


def law09_ShareDebts (N : Nat) (b_ : share_Border) (index : Int) (start : api_Span) (l : List share_Year) (truth : List share_Truth) : Option (Bool) :=
  cond (((decide (15 < ((b_.Table.length : Nat) : Int))) || (decide (45 < ((l.length : Nat) : Int)))) || (decide (50 < ((truth.length : Nat) : Int))))
  (Option.bind (law09_awake N) fun r =>
  some r)
  (Option.bind (law09_CopyBorder N b_) fun r_1 =>
  Option.bind (kit_Copy_share_Year N l) fun r_2 =>
  Option.bind (kit_Copy_share_Truth N truth) fun r_3 =>
  Option.bind (law09_years N l truth) fun r_4 =>
  Option.bind (share_CheckBorder N r_1) fun r_5 =>
  Option.bind (law09_Border N b_) fun r_6 =>
  Option.bind (ref09_CheckBorder N r_6) fun r_7 =>
  cond (r_5 != r_7)
  (some false)
  (Option.bind (share_Due N r_1 index) fun r_8 =>
  Option.bind (law09_Border N b_) fun r_9 =>
  Option.bind (ref09_Due N r_9 index) fun r_10 =>
  cond ((r_8.1 != r_10.1) || (r_8.2 != r_10.2))
  (some false)
  (Option.bind (share_Owed N r_1 start.Lo r_2 r_3) fun r_11 =>
  Option.bind (law09_Border N b_) fun r_12 =>
  Option.bind (ref09_Owed N r_12 start.Lo r_4.1 r_4.2) fun r_13 =>
  Option.bind (kit_Same_int N r_11.1 r_13.1) fun r_14 =>
  cond ((!r_14) || (r_11.2 != r_13.2))
  (some false)
  (Option.bind (share_Debts N r_1 start r_2) fun r_15 =>
  Option.bind (law09_Border N b_) fun r_16 =>
  Option.bind (ref09_Debts N r_16 start r_4.1) fun r_17 =>
  Option.bind (kit_Same_api_Span N r_15.1 r_17.1) fun r_18 =>
  Option.bind (cond ((r_18 && (r_15.2 == r_17.2)) && (r_1.Credit == b_.Credit)) (Option.bind (kit_Same_share_Point N r_1.Table b_.Table) fun r_19 =>
  some r_19) (some false)) fun t_1 =>
  Option.bind (cond t_1 (Option.bind (kit_Same_share_Year N r_2 l) fun r_20 =>
  some r_20) (some false)) fun t_2 =>
  Option.bind (cond t_2 (Option.bind (kit_Same_share_Truth N r_3 truth) fun r_21 =>
  some r_21) (some false)) fun t_3 =>
  Option.bind (cond t_3 (Option.bind (law09_awake N) fun r_22 =>
  some r_22) (some false)) fun t_4 =>
  some t_4))))
theorem law09_ShareDebts_ok {N : Nat} {G : Pers} {Lf : List Ent} {w : World} (b_ : share_Border) (index : Int) (start : api_Span) (l : List share_Year) (truth : List share_Truth) {b__Table_p : Option Addr} {b__Table_c : Nat} {l_p : Option Addr} {l_c : Nat} {truth_p : Option Addr} {truth_c : Nat} (h_b__Table : Rd G 2 b__Table_p b__Table_c (b_.Table.map enc_share_Point)) (h_l : Rd G 5 l_p l_c (l.map enc_share_Year)) (h_truth : Rd G 2 truth_p truth_c (truth.map enc_share_Truth)) (hc : Ctx G (Lf) w) {res : Bool} (hF : law09_ShareDebts N b_ index start l truth = some res) : Calls Try.prog 8 #[.agg #[.slice b__Table_p b_.Table.length b__Table_c, .int .i64 b_.Credit], .int .i64 index, .agg #[.int .i64 start.Lo, .int .i64 start.Hi], .slice l_p l.length l_c, .slice truth_p truth.length truth_c] w (fun e w => e = .returned (.bool res) ∧ Ctx G (Lf) w) := by
  unfold law09_ShareDebts at hF
  refine fnIn (args := [.agg #[.slice b__Table_p b_.Table.length b__Table_c, .int .i64 b_.Credit], .int .i64 index, .agg #[.int .i64 start.Lo, .int .i64 start.Hi], .slice l_p l.length l_c, .slice truth_p truth.length truth_c]) Try.func8 rfl Try.ntmps8 rfl fun a hf => ?_
  refine wp_seq_k fun K1 h1 => ?_
  refine cReg ?_
  refine stBx (cs := [.slice b__Table_p b_.Table.length b__Table_c, .int .i64 b_.Credit]) hf hc rfl rfl rfl rfl fun b_1 a w hf hc => ?_
  refine stBx (cs := [.int .i64 start.Lo, .int .i64 start.Hi]) hf hc rfl rfl rfl rfl fun b_2 a w hf hc => ?_
  refine stP hf rfl rfl rfl (pA rfl) fun a hf => ?_
  refine cNil ?_
  refine h1 _ _ ?_
  refine wp_seq_k fun K2 h2 => ?_
  refine wp_seq_k fun K3 h3 => ?_
  refine cReg ?_
  refine stP hf rfl rfl rfl (pFA fa_88_0 rfl) fun a hf => ?_
  refine stE hf hc rfl rfl rfl (eLd1 sc_86 rfl (cell_box m1 rfl)) fun a w hf hc => ?_
  refine stP hf rfl rfl rfl (pLenS Try.underlying86 rfl) fun a hf => ?_
  refine stP hf rfl rfl rfl (pGt rfl rfl) fun a hf => ?_
  refine stP hf rfl rfl rfl (pM rfl) fun a hf => ?_
  refine stCut 4 (fun a w => Has 156 a [(1, .int .i64 index), (3, .slice l_p l.length l_c), (4, .slice truth_p truth.length truth_c), (5, .pointer (some ⟨b_1, 0, none⟩)), (7, .pointer (some ⟨b_2, 0, none⟩)), (24, .pointer (some ⟨b_1, 0, none⟩)), (25, .slice b__Table_p b_.Table.length b__Table_c), (26, .int .i64 ((b_.Table.length : Nat) : Int)), (27, .bool (decide (15 < ((b_.Table.length : Nat) : Int)))), (28, .bool (decide (15 < ((b_.Table.length : Nat) : Int)))), (32, .bool ((decide (15 < ((b_.Table.length : Nat) : Int))) || (decide (45 < ((l.length : Nat) : Int)))))] ∧ Ctx G (.box b_2 [.int .i64 start.Lo, .int .i64 start.Hi] 26 :: .box b_1 [.slice b__Table_p b_.Table.length b__Table_c, .int .i64 b_.Credit] 88 :: Lf) w) ?_ ?_
  · cases hb : (decide (15 < ((b_.Table.length : Nat) : Int)))
    · rw [hb] at hf
      refine stP hf rfl rfl rfl (pM rfl) fun a hf => ?_
      refine stP hf rfl rfl rfl (pLenS Try.underlying89 rfl) fun a hf => ?_
      refine stP hf rfl rfl rfl (pGt rfl rfl) fun a hf => ?_
      refine stP hf rfl rfl rfl (pPf rfl rfl) fun a hf => ?_
      exact cNil ⟨hf.keep ⟨rfl, rfl, rfl, rfl, rfl, rfl, rfl, rfl, rfl, rfl, rfl, trivial⟩, hc⟩
    · rw [hb] at hf
      refine stS hf rfl rfl rfl fun a hf => ?_
      refine stS hf rfl rfl rfl fun a hf => ?_
      refine stS hf rfl rfl rfl fun a hf => ?_
      refine stP hf rfl rfl rfl (pPt rfl rfl) fun a hf => ?_
      exact cNil ⟨hf.keep ⟨rfl, rfl, rfl, rfl, rfl, rfl, rfl, rfl, rfl, rfl, rfl, trivial⟩, hc⟩
  intro a w ⟨hf, hc⟩
  refine stP hf rfl rfl rfl (pM rfl) fun a hf => ?_
  refine stCut 4 (fun a w => Has 156 a [(1, .int .i64 index), (3, .slice l_p l.length l_c), (4, .slice truth_p truth.length truth_c), (5, .pointer (some ⟨b_1, 0, none⟩)), (7, .pointer (some ⟨b_2, 0, none⟩)), (24, .pointer (some ⟨b_1, 0, none⟩)), (25, .slice b__Table_p b_.Table.length b__Table_c), (26, .int .i64 ((b_.Table.length : Nat) : Int)), (27, .bool (decide (15 < ((b_.Table.length : Nat) : Int)))), (28, .bool (decide (15 < ((b_.Table.length : Nat) : Int)))), (32, .bool ((decide (15 < ((b_.Table.length : Nat) : Int))) || (decide (45 < ((l.length : Nat) : Int))))), (33, .bool ((decide (15 < ((b_.Table.length : Nat) : Int))) || (decide (45 < ((l.length : Nat) : Int))))), (37, .bool (((decide (15 < ((b_.Table.length : Nat) : Int))) || (decide (45 < ((l.length : Nat) : Int)))) || (decide (50 < ((truth.length : Nat) : Int)))))] ∧ Ctx G (.box b_2 [.int .i64 start.Lo, .int .i64 start.Hi] 26 :: .box b_1 [.slice b__Table_p b_.Table.length b__Table_c, .int .i64 b_.Credit] 88 :: Lf) w) ?_ ?_
  · cases hb : ((decide (15 < ((b_.Table.length : Nat) : Int))) || (decide (45 < ((l.length : Nat) : Int))))
    · rw [hb] at hf
      refine stP hf rfl rfl rfl (pM rfl) fun a hf => ?_
      refine stP hf rfl rfl rfl (pLenS Try.underlying90 rfl) fun a hf => ?_
      refine stP hf rfl rfl rfl (pGt rfl rfl) fun a hf => ?_
      refine stP hf rfl rfl rfl (pPf rfl rfl) fun a hf => ?_
      exact cNil ⟨hf.keep ⟨rfl, rfl, rfl, rfl, rfl, rfl, rfl, rfl, rfl, rfl, rfl, rfl, rfl, trivial⟩, hc⟩
    · rw [hb] at hf
      refine stS hf rfl rfl rfl fun a hf => ?_
      refine stS hf rfl rfl rfl fun a hf => ?_
      refine stS hf rfl rfl rfl fun a hf => ?_
      refine stP hf rfl rfl rfl (pPt rfl rfl) fun a hf => ?_
      exact cNil ⟨hf.keep ⟨rfl, rfl, rfl, rfl, rfl, rfl, rfl, rfl, rfl, rfl, rfl, rfl, rfl, trivial⟩, hc⟩
  intro a w ⟨hf, hc⟩
  refine cNil ?_
  refine h3 _ _ ?_
  refine cCond (b := (((decide (15 < ((b_.Table.length : Nat) : Int))) || (decide (45 < ((l.length : Nat) : Int)))) || (decide (50 < ((truth.length : Nat) : Int))))) hf rfl (fun hb => ?_) (fun hb => ?_)
  · replace hF := condT hb hF
    clear hb
    refine wp_seq_k fun K4 h4 => ?_
    refine cReg ?_
    obtain ⟨r, hr, hF⟩ := bnd_some hF
    refine stE hf hc rfl rfl rfl (eC (v := .bool r) (vs := []) (caps := []) en_13 rfl rfl rfl rfl (fun w hc => law09_awake_ok hc hr)) fun a w hf hc => ?_
    refine stP hf rfl rfl rfl (pA rfl) fun a hf => ?_
    refine cNil ?_
    refine h4 _ _ ?_
    refine wp_ret ?_
    refine xThenR ?_
    obtain rfl := Option.some.inj hF
    replace hc := hc.drop k1
    replace hc := hc.drop k0
    exact fnOut1 (by simp) rfl Try.results8 hf hc (show look _ 10 = _ from rfl) ⟨rfl, hc⟩
  · replace hF := condF hb hF
    clear hb
    refine wp_skip ?_
    refine h2 _ _ ?_
    refine wp_seq_k fun K5 h5 => ?_
    refine cReg ?_
    refine stE hf hc rfl rfl rfl (eLdN (vs := [.slice b__Table_p b_.Table.length b__Table_c, .int .i64 b_.Credit]) ag_88 rfl rfl (cells_box (n := 2) m1 rfl)) fun a w hf hc => ?_
    obtain ⟨r_1, hr_1, hF⟩ := bnd_some hF
    refine stC (vs := [.agg #[.slice b__Table_p b_.Table.length b__Table_c, .int .i64 b_.Credit]]) (caps := []) hf rfl rfl rfl en_43 rfl rfl rfl rfl (law09_CopyBorder_ok b_ h_b__Table hc hr_1) ?_
    rintro _ w ⟨p_1, c_1, rfl, hc⟩
    refine ⟨_, rfl, fun a hf => ?_⟩
    refine stP hf rfl rfl rfl (pM rfl) fun a hf => ?_
    obtain ⟨r_2, hr_2, hF⟩ := bnd_some hF
    refine stC (vs := [.slice l_p l.length l_c]) (caps := []) hf rfl rfl rfl en_44 rfl rfl rfl rfl (kit_Copy_share_Year_ok l h_l hc hr_2) ?_
    rintro _ w ⟨p_2, c_2, rfl, hc⟩
    refine ⟨_, rfl, fun a hf => ?_⟩
    refine stP hf rfl rfl rfl (pM rfl) fun a hf => ?_
    obtain ⟨r_3, hr_3, hF⟩ := bnd_some hF
    refine stC (vs := [.slice truth_p truth.length truth_c]) (caps := []) hf rfl rfl rfl en_45 rfl rfl rfl rfl (kit_Copy_share_Truth_ok truth h_truth hc hr_3) ?_
    rintro _ w ⟨p_3, c_3, rfl, hc⟩
    refine ⟨_, rfl, fun a hf => ?_⟩
    refine stAl (cs := [.slice none 0 0, .int .i64 0]) hf hc rfl rfl zr_88 rfl fun b_3 a w hf hc => ?_
    refine stSt (vs := [.slice p_1 r_1.Table.length c_1, .int .i64 r_1.Credit]) hf hc rfl rfl rfl rfl sz_88 rfl rfl u0 fun w hc => ?_
    refine stP hf rfl rfl rfl (pA rfl) fun a hf => ?_
    refine stP hf rfl rfl rfl (pA rfl) fun a hf => ?_
    refine cNil ?_
    refine h5 _ _ ?_
    refine wp_seq_k fun K6 h6 => ?_
    refine cReg ?_
    refine stP hf rfl rfl rfl (pM rfl) fun a hf => ?_
    refine stP hf rfl rfl rfl (pM rfl) fun a hf => ?_
    obtain ⟨r_4, hr_4, hF⟩ := bnd_some hF
    refine stC (vs := [.slice l_p l.length l_c, .slice truth_p truth.length truth_c]) (caps := []) hf rfl rfl rfl en_46 rfl rfl rfl rfl (law09_years_ok l truth h_l h_truth hc hr_4) ?_
    rintro _ w ⟨p_4, c_4, p_5, c_5, rfl, hc⟩
    refine ⟨_, rfl, fun a hf => ?_⟩
    refine stP hf rfl rfl rfl (pM rfl) fun a hf => ?_
    refine stP hf rfl rfl rfl (pX rfl rfl) fun a hf => ?_
    refine stP hf rfl rfl rfl (pX rfl rfl) fun a hf => ?_
    refine stP hf rfl rfl rfl (pA rfl) fun a hf => ?_
    refine stP hf rfl rfl rfl (pA rfl) fun a hf => ?_
    refine cNil ?_
    refine h6 _ _ ?_
    refine wp_seq_k fun K7 h7 => ?_
    refine wp_seq_k fun K8 h8 => ?_
    obtain ⟨r_5, hr_5, hF⟩ := bnd_some hF
    obtain ⟨r_6, hr_6, hF⟩ := bnd_some hF
    obtain ⟨r_7, hr_7, hF⟩ := bnd_some hF
    replace hc := hc.nilRow 0 0
    refine regionE (fun θ => [⟨none, none, 1, .int .i64 index⟩, ⟨none, none, 3, .slice l_p l.length l_c⟩, ⟨none, none, 4, .slice truth_p truth.length truth_c⟩, ⟨none, none, 5, .pointer (some ⟨b_1, 0, none⟩)⟩, ⟨none, none, 7, .pointer (some ⟨b_2, 0, none⟩)⟩, ⟨none, none, 11, .pointer (some ⟨b_3, 0, none⟩)⟩, ⟨none, none, 12, .slice p_2 r_2.length c_2⟩, ⟨none, none, 13, .slice p_3 r_3.length c_3⟩, ⟨none, none, 14, .slice p_4 r_4.1.length c_4⟩, ⟨none, none, 15, .slice p_5 r_4.2.length c_5⟩, ⟨some 0, none, 51, .agg #[.slice p_1 r_1.Table.length c_1, .int .i64 r_1.Credit]⟩, ⟨some 1, none, 52, .int .i64 r_5⟩, ⟨some 2, none, 53, .agg #[.slice b__Table_p b_.Table.length b__Table_c, .int .i64 b_.Credit]⟩, ⟨some 3, none, 54, .agg #[.slice ((θ 24).p) r_6.Table.length ((θ 24).c), .int .i64 r_6.Credit]⟩, ⟨some 4, none, 55, .int .i64 r_7⟩, ⟨some 5, none, 56, .bool (r_5 != r_7)⟩]) (fun E θ => (bif E 3 then .row ((θ 24).p) ((θ 24).c) (r_6.Table.map enc_ref09_Point) 183 2 else .row none 0 [] 0 0) :: .row p_4 c_4 (r_4.1.map enc_ref09_Year) 179 5 :: .row p_5 c_5 (r_4.2.map enc_ref09_Truth) 180 2 :: .box b_3 [.slice p_1 r_1.Table.length c_1, .int .i64 r_1.Credit] 88 :: .row p_3 c_3 (r_3.map enc_share_Truth) 97 2 :: .row p_2 c_2 (r_2.map enc_share_Year) 94 5 :: .row p_1 c_1 (r_1.Table.map enc_share_Point) 116 2 :: .box b_2 [.int .i64 start.Lo, .int .i64 start.Hi] 26 :: .box b_1 [.slice b__Table_p b_.Table.length b__Table_c, .int .i64 b_.Credit] 88 :: Lf) [] (fun a w => ∃ (p_7 : Option Addr) (c_7 : Nat), Has 156 a [(1, .int .i64 index), (3, .slice l_p l.length l_c), (4, .slice truth_p truth.length truth_c), (5, .pointer (some ⟨b_1, 0, none⟩)), (7, .pointer (some ⟨b_2, 0, none⟩)), (11, .pointer (some ⟨b_3, 0, none⟩)), (12, .slice p_2 r_2.length c_2), (13, .slice p_3 r_3.length c_3), (14, .slice p_4 r_4.1.length c_4), (15, .slice p_5 r_4.2.length c_5), (56, .bool (r_5 != r_7))] ∧ Ctx G (.row p_7 c_7 (r_6.Table.map enc_ref09_Point) 183 2 :: .row p_4 c_4 (r_4.1.map enc_ref09_Year) 179 5 :: .row p_5 c_5 (r_4.2.map enc_ref09_Truth) 180 2 :: .box b_3 [.slice p_1 r_1.Table.length c_1, .int .i64 r_1.Credit] 88 :: .row p_3 c_3 (r_3.map enc_share_Truth) 97 2 :: .row p_2 c_2 (r_2.map enc_share_Year) 94 5 :: .row p_1 c_1 (r_1.Table.map enc_share_Point) 116 2 :: .box b_2 [.int .i64 start.Lo, .int .i64 start.Hi] 26 :: .box b_1 [.slice b__Table_p b_.Table.length b__Table_c, .int .i64 b_.Credit] 88 :: Lf) w) follows_mx (by kernel_rfl) (by kernel_rfl) (HasE.of hf ⟨rfl, rfl, rfl, rfl, rfl, rfl, rfl, rfl, rfl, rfl, trivial, trivial, trivial, trivial, trivial, trivial, trivial⟩) hc ⟨?_, ?_, ?_, ?_, ?_, ?_, trivial⟩ ?_ ?_
    · intro E θ a w hD hi hp he hc
      have hf := he.h0
      replace hf := hf.more he 5 rfl onT
      refine stE hf hc rfl rfl rfl (eLdN (vs := [.slice p_1 r_1.Table.length c_1, .int .i64 r_1.Credit]) ag_88 rfl rfl (cells_box (n := 2) m3 rfl)) fun a w hf hc => ?_
      refine cNil ?_
      refine xThenN ?_
      intro ds u hau
      refine ⟨θ, he.put0 hi hau hf rfl 10 rfl rfl, ?_⟩
      exact hc
    · intro E θ a w hD hi hp he hc
      have e0 := hp.of (k := 0) rfl
      have hf := he.h0
      replace hf := hf.more he 10 rfl (onP e0)
      refine stE hf hc rfl rfl rfl (eC (v := .int .i64 r_5) (vs := [.agg #[.slice p_1 r_1.Table.length c_1, .int .i64 r_1.Credit]]) (caps := []) en_47 rfl rfl rfl rfl (fun w hc => by obtain ⟨G1, hle1, hrd1, hc, hth1⟩ := lend hc k6; exact (share_CheckBorder_ok r_1 hrd1 hc hr_5).mono fun e w h => ⟨h.1, ((hth1 _ _ h.2).unpick k6)⟩)) fun a w hf hc => ?_
      refine cNil ?_
      refine xThenN ?_
      intro ds u hau
      refine ⟨θ, he.put0 hi hau hf rfl 11 rfl rfl, ?_⟩
      exact hc
    · intro E θ a w hD hi hp he hc
      have hf := he.h0
      replace hf := hf.more he 3 rfl onT
      refine stE hf hc rfl rfl rfl (eLdN (vs := [.slice b__Table_p b_.Table.length b__Table_c, .int .i64 b_.Credit]) ag_88 rfl rfl (cells_box (n := 2) m8 rfl)) fun a w hf hc => ?_
      refine cNil ?_
      refine xThenN ?_
      intro ds u hau
      refine ⟨θ, he.put0 hi hau hf rfl 12 rfl rfl, ?_⟩
      exact hc
    · intro E θ a w hD hi hp he hc
      have e2 := hp.of (k := 2) rfl
      try dsimp only at hc
      rw [hi] at hc
      have hf := he.h0
      replace hf := hf.more he 12 rfl (onP e2)
      refine stC (vs := [.agg #[.slice b__Table_p b_.Table.length b__Table_c, .int .i64 b_.Credit]]) (caps := []) hf rfl rfl rfl en_49 rfl rfl rfl rfl (law09_Border_ok b_ h_b__Table hc hr_6) ?_
      rintro _ w ⟨p_6, c_6, rfl, hc⟩
      refine ⟨_, rfl, fun a hf => ?_⟩
      refine cNil ?_
      refine xThenN ?_
      intro ds u hau
      replace hc := hc.drop k1
      refine ⟨(setT θ 24 ⟨0, p_6, c_6⟩), he.put hi hau hf rfl [] trivial ⟨qq, qq, qq, qq, qq, qq, qq, qq, qq, qq, qq, qq, qq, qq, qq, qq, trivial⟩, ?_⟩
      try dsimp only
      rw [updE_self E 3]
      exact hc
    · intro E θ a w hD hi hp he hc
      have e3 := hp.of (k := 3) rfl
      try dsimp only at hc
      rw [e3] at hc
      have hf := he.h0
      replace hf := hf.more he 13 rfl (onP e3)
      refine stE hf hc rfl rfl rfl (eC (v := .int .i64 r_7) (vs := [.agg #[.slice ((θ 24).p) r_6.Table.length ((θ 24).c), .int .i64 r_6.Credit]]) (caps := []) en_48 rfl rfl rfl rfl (fun w hc => by obtain ⟨G1, hle1, hrd1, hc, hth1⟩ := lend hc k0; exact (ref09_CheckBorder_ok r_6 hrd1 hc hr_7).mono fun e w h => ⟨h.1, ((hth1 _ _ h.2).unpick k0)⟩)) fun a w hf hc => ?_
      refine cNil ?_
      refine xThenN ?_
      intro ds u hau
      refine ⟨θ, he.put0 hi hau hf rfl 14 rfl rfl, ?_⟩
      try dsimp only
      rw [updE_tru 4 e3]
      exact hc
    · intro E θ a w hD hi hp he hc
      have e1 := hp.of (k := 1) rfl
      have e4 := hp.of (k := 4) rfl
      have hf := he.h0
      replace hf := hf.more he 11 rfl (onP e1)
      replace hf := hf.more he 14 rfl (onP e4)
      refine stP hf rfl rfl rfl (pNe rfl rfl) fun a hf => ?_
      refine cNil ?_
      refine xThenN ?_
      intro ds u hau
      refine ⟨θ, he.put0 hi hau hf rfl 15 rfl rfl, ?_⟩
      exact hc
    · intro E θ a w hall he hc
      have hf := he.h0
      have e3 := hall 3 rfl
      have e5 := hall 5 rfl
      replace hf := hf.more he 15 rfl (onP e5)
      replace hf := hf.more he 9 rfl (onT)
      replace hf := hf.more he 8 rfl (onT)
      replace hf := hf.more he 7 rfl (onT)
      replace hf := hf.more he 6 rfl (onT)
      replace hf := hf.more he 5 rfl (onT)
      replace hf := hf.more he 4 rfl (onT)
      replace hf := hf.more he 3 rfl (onT)
      replace hf := hf.more he 2 rfl (onT)
      replace hf := hf.more he 1 rfl (onT)
      replace hf := hf.more he 0 rfl (onT)
      try dsimp only at hc
      rw [e3] at hc
      exact ⟨(θ 24).p, (θ 24).c, hf.keep ⟨rfl, rfl, rfl, rfl, rfl, rfl, rfl, rfl, rfl, rfl, rfl, trivial⟩, hc⟩
    rintro a w ⟨p_7, c_7, hf, hc⟩
    refine h8 _ _ ?_
    refine cCond (b := (r_5 != r_7)) hf rfl (fun hb => ?_) (fun hb => ?_)
    · replace hF := condT hb hF
      clear hb
      refine wp_seq_k fun K9 h9 => ?_
      refine cReg ?_
      refine stP hf rfl rfl rfl (pA rfl) fun a hf => ?_
      refine cNil ?_
      refine h9 _ _ ?_
      refine wp_ret ?_
      refine xThenR ?_
      obtain rfl := Option.some.inj hF
      replace hc := hc.drop k8
      replace hc := hc.drop k7
      replace hc := hc.drop k6
      replace hc := hc.drop k5
      replace hc := hc.drop k4
      replace hc := hc.drop k3
      replace hc := hc.drop k2
      replace hc := hc.drop k1
      replace hc := hc.drop k0
      exact fnOut1 (by simp) rfl Try.results8 hf hc (show look _ 10 = _ from rfl) ⟨rfl, hc⟩
    · replace hF := condF hb hF
      clear hb
      refine wp_skip ?_
      refine h7 _ _ ?_
      refine wp_seq_k fun K10 h10 => ?_
      refine cReg ?_
      refine stE hf hc rfl rfl rfl (eLdN (vs := [.slice p_1 r_1.Table.length c_1, .int .i64 r_1.Credit]) ag_88 rfl rfl (cells_box (n := 2) m3 rfl)) fun a w hf hc => ?_
      refine stP hf rfl rfl rfl (pM rfl) fun a hf => ?_
      obtain ⟨r_8, hr_8, hF⟩ := bnd_some hF
      refine stE hf hc rfl rfl rfl (eC (v := .tuple #[.int .i64 r_8.1, .int .i64 r_8.2]) (vs := [.agg #[.slice p_1 r_1.Table.length c_1, .int .i64 r_1.Credit], .int .i64 index]) (caps := []) en_50 rfl rfl rfl rfl (fun w hc => by obtain ⟨G1, hle1, hrd1, hc, hth1⟩ := lend hc k6; exact (share_Due_ok r_1 index hrd1 hc hr_8).mono fun e w h => ⟨h.1, ((hth1 _ _ h.2).unpick k6)⟩)) fun a w hf hc => ?_
      refine stP hf rfl rfl rfl (pM rfl) fun a hf => ?_
      refine stP hf rfl rfl rfl (pX rfl rfl) fun a hf => ?_
      refine stP hf rfl rfl rfl (pX rfl rfl) fun a hf => ?_
      refine stP hf rfl rfl rfl (pA rfl) fun a hf => ?_
      refine stP hf rfl rfl rfl (pA rfl) fun a hf => ?_
      refine cNil ?_
      refine h10 _ _ ?_
      refine wp_seq_k fun K11 h11 => ?_
      refine cReg ?_
      refine stE hf hc rfl rfl rfl (eLdN (vs := [.slice b__Table_p b_.Table.length b__Table_c, .int .i64 b_.Credit]) ag_88 rfl rfl (cells_box (n := 2) m8 rfl)) fun a w hf hc => ?_
      obtain ⟨r_9, hr_9, hF⟩ := bnd_some hF
      refine stC (vs := [.agg #[.slice b__Table_p b_.Table.length b__Table_c, .int .i64 b_.Credit]]) (caps := []) hf rfl rfl rfl en_49 rfl rfl rfl rfl (law09_Border_ok b_ h_b__Table hc hr_9) ?_
      rintro _ w ⟨p_8, c_8, rfl, hc⟩
      refine ⟨_, rfl, fun a hf => ?_⟩
      refine stP hf rfl rfl rfl (pM rfl) fun a hf => ?_
      obtain ⟨r_10, hr_10, hF⟩ := bnd_some hF
      refine stE hf hc rfl rfl rfl (eC (v := .tuple #[.int .i64 r_10.1, .int .i64 r_10.2]) (vs := [.agg #[.slice p_8 r_9.Table.length c_8, .int .i64 r_9.Credit], .int .i64 index]) (caps := []) en_51 rfl rfl rfl rfl (fun w hc => by obtain ⟨G1, hle1, hrd1, hc, hth1⟩ := lend hc k0; exact (ref09_Due_ok r_9 index hrd1 hc hr_10).mono fun e w h => ⟨h.1, ((hth1 _ _ h.2).unpick k0)⟩)) fun a w hf hc => ?_
      refine stP hf rfl rfl rfl (pM rfl) fun a hf => ?_
      refine stP hf rfl rfl rfl (pX rfl rfl) fun a hf => ?_
      refine stP hf rfl rfl rfl (pX rfl rfl) fun a hf => ?_
      refine stP hf rfl rfl rfl (pA rfl) fun a hf => ?_
      refine stP hf rfl rfl rfl (pA rfl) fun a hf => ?_
      refine cNil ?_
      refine h11 _ _ ?_
      refine wp_seq_k fun K12 h12 => ?_
      refine wp_seq_k fun K13 h13 => ?_
      refine cReg ?_
      refine stP hf rfl rfl rfl (pM rfl) fun a hf => ?_
      refine stP hf rfl rfl rfl (pM rfl) fun a hf => ?_
      refine stP hf rfl rfl rfl (pNe rfl rfl) fun a hf => ?_
      refine stP hf rfl rfl rfl (pM rfl) fun a hf => ?_
      refine stCut 4 (fun a w => Has 156 a [(3, .slice l_p l.length l_c), (4, .slice truth_p truth.length truth_c), (5, .pointer (some ⟨b_1, 0, none⟩)), (7, .pointer (some ⟨b_2, 0, none⟩)), (11, .pointer (some ⟨b_3, 0, none⟩)), (12, .slice p_2 r_2.length c_2), (13, .slice p_3 r_3.length c_3), (14, .slice p_4 r_4.1.length c_4), (15, .slice p_5 r_4.2.length c_5), (16, .int .i64 r_8.1), (17, .int .i64 r_8.2), (18, .int .i64 r_10.1), (19, .int .i64 r_10.2), (70, .int .i64 r_8.1), (71, .int .i64 r_10.1), (72, .bool (r_8.1 != r_10.1)), (73, .bool (r_8.1 != r_10.1)), (77, .bool ((r_8.1 != r_10.1) || (r_8.2 != r_10.2)))] ∧ Ctx G (.row p_8 c_8 (r_9.Table.map enc_ref09_Point) 183 2 :: .row p_7 c_7 (r_6.Table.map enc_ref09_Point) 183 2 :: .row p_4 c_4 (r_4.1.map enc_ref09_Year) 179 5 :: .row p_5 c_5 (r_4.2.map enc_ref09_Truth) 180 2 :: .box b_3 [.slice p_1 r_1.Table.length c_1, .int .i64 r_1.Credit] 88 :: .row p_3 c_3 (r_3.map enc_share_Truth) 97 2 :: .row p_2 c_2 (r_2.map enc_share_Year) 94 5 :: .row p_1 c_1 (r_1.Table.map enc_share_Point) 116 2 :: .box b_2 [.int .i64 start.Lo, .int .i64 start.Hi] 26 :: .box b_1 [.slice b__Table_p b_.Table.length b__Table_c, .int .i64 b_.Credit] 88 :: Lf) w) ?_ ?_
      · cases hb : (r_8.1 != r_10.1)
        · rw [hb] at hf
          refine stP hf rfl rfl rfl (pM rfl) fun a hf => ?_
          refine stP hf rfl rfl rfl (pM rfl) fun a hf => ?_
          refine stP hf rfl rfl rfl (pNe rfl rfl) fun a hf => ?_
          refine stP hf rfl rfl rfl (pPf rfl rfl) fun a hf => ?_
          exact cNil ⟨hf.keep ⟨rfl, rfl, rfl, rfl, rfl, rfl, rfl, rfl, rfl, rfl, rfl, rfl, rfl, rfl, rfl, rfl, rfl, rfl, trivial⟩, hc⟩
        · rw [hb] at hf
          refine stS hf rfl rfl rfl fun a hf => ?_
          refine stS hf rfl rfl rfl fun a hf => ?_
          refine stS hf rfl rfl rfl fun a hf => ?_
          refine stP hf rfl rfl rfl (pPt rfl rfl) fun a hf => ?_
          exact cNil ⟨hf.keep ⟨rfl, rfl, rfl, rfl, rfl, rfl, rfl, rfl, rfl, rfl, rfl, rfl, rfl, rfl, rfl, rfl, rfl, rfl, trivial⟩, hc⟩
      intro a w ⟨hf, hc⟩
      refine cNil ?_
      refine h13 _ _ ?_
      refine cCond (b := ((r_8.1 != r_10.1) || (r_8.2 != r_10.2))) hf rfl (fun hb => ?_) (fun hb => ?_)
      · replace hF := condT hb hF
        clear hb
        refine wp_seq_k fun K14 h14 => ?_
        refine cReg ?_
        refine stP hf rfl rfl rfl (pA rfl) fun a hf => ?_
        refine cNil ?_
        refine h14 _ _ ?_
        refine wp_ret ?_
        refine xThenR ?_
        obtain rfl := Option.some.inj hF
        replace hc := hc.drop k9
        replace hc := hc.drop k8
        replace hc := hc.drop k7
        replace hc := hc.drop k6
        replace hc := hc.drop k5
        replace hc := hc.drop k4
        replace hc := hc.drop k3
        replace hc := hc.drop k2
        replace hc := hc.drop k1
        replace hc := hc.drop k0
        exact fnOut1 (by simp) rfl Try.results8 hf hc (show look _ 10 = _ from rfl) ⟨rfl, hc⟩
      · replace hF := condF hb hF
        clear hb
        refine wp_skip ?_
        refine h12 _ _ ?_
        refine wp_seq_k fun K15 h15 => ?_
        refine cReg ?_
        refine stE hf hc rfl rfl rfl (eLdN (vs := [.slice p_1 r_1.Table.length c_1, .int .i64 r_1.Credit]) ag_88 rfl rfl (cells_box (n := 2) m4 rfl)) fun a w hf hc => ?_
        refine stP hf rfl rfl rfl (pFA fa_26_0 rfl) fun a hf => ?_
        refine stE hf hc rfl rfl rfl (eLd1 sc_3 rfl (cell_box m8 rfl)) fun a w hf hc => ?_
        refine stP hf rfl rfl rfl (pM rfl) fun a hf => ?_
        refine stP hf rfl rfl rfl (pM rfl) fun a hf => ?_
        obtain ⟨r_11, hr_11, hF⟩ := bnd_some hF
        obtain ⟨G1, hle1, hrd1, hc, hth1⟩ := lend hc k7
        obtain ⟨G2, hle2, hrd2, hc, hth2⟩ := lend hc k6
        obtain ⟨G3, hle3, hrd3, hc, hth3⟩ := lend hc k5
        refine stC (vs := [.agg #[.slice p_1 r_1.Table.length c_1, .int .i64 r_1.Credit], .int .i64 start.Lo, .slice p_2 r_2.length c_2, .slice p_3 r_3.length c_3]) (caps := []) hf rfl rfl rfl en_52 rfl rfl rfl rfl (share_Owed_ok r_1 start.Lo r_2 r_3 ((hrd1.mono hle2).mono hle3) (hrd2.mono hle3) hrd3 hc hr_11) ?_
        rintro _ w ⟨p_9, c_9, rfl, hc⟩
        refine ⟨_, rfl, fun a hf => ?_⟩
        replace hc := hth3 _ _ hc
        replace hc := hth2 _ _ hc
        replace hc := hth1 _ _ hc
        refine stP hf rfl rfl rfl (pM rfl) fun a hf => ?_
        refine stP hf rfl rfl rfl (pX rfl rfl) fun a hf => ?_
        refine stP hf rfl rfl rfl (pX rfl rfl) fun a hf => ?_
        refine stP hf rfl rfl rfl (pA rfl) fun a hf => ?_
        refine stP hf rfl rfl rfl (pA rfl) fun a hf => ?_
        refine cNil ?_
        refine h15 _ _ ?_
        refine wp_seq_k fun K16 h16 => ?_
        obtain ⟨r_12, hr_12, hF⟩ := bnd_some hF
        obtain ⟨r_13, hr_13, hF⟩ := bnd_some hF
        replace hc := hc.nilRow 0 0
        replace hc := hc.nilRow 0 0
        refine regionE (fun θ => [⟨none, none, 3, .slice l_p l.length l_c⟩, ⟨none, none, 4, .slice truth_p truth.length truth_c⟩, ⟨none, none, 5, .pointer (some ⟨b_1, 0, none⟩)⟩, ⟨none, none, 7, .pointer (some ⟨b_2, 0, none⟩)⟩, ⟨none, none, 11, .pointer (some ⟨b_3, 0, none⟩)⟩, ⟨none, none, 12, .slice p_2 r_2.length c_2⟩, ⟨none, none, 13, .slice p_3 r_3.length c_3⟩, ⟨none, none, 14, .slice p_4 r_4.1.length c_4⟩, ⟨none, none, 15, .slice p_5 r_4.2.length c_5⟩, ⟨none, none, 17, .int .i64 r_11.2⟩, ⟨none, some 11, 19, .int .i64 r_10.2⟩, ⟨none, none, 20, .slice p_9 r_11.1.length c_9⟩, ⟨some 0, none, 88, .agg #[.slice b__Table_p b_.Table.length b__Table_c, .int .i64 b_.Credit]⟩, ⟨some 1, none, 89, .agg #[.slice ((θ 8).p) r_12.Table.length ((θ 8).c), .int .i64 r_12.Credit]⟩, ⟨some 2, none, 90, .pointer (some ⟨b_2, 0, none⟩)⟩, ⟨some 3, none, 91, .int .i64 start.Lo⟩, ⟨some 4, none, 92, .slice p_4 r_4.1.length c_4⟩, ⟨some 5, none, 93, .slice p_5 r_4.2.length c_5⟩, ⟨some 6, none, 94, .tuple #[.slice ((θ 48).p) r_13.1.length ((θ 48).c), .int .i64 r_13.2]⟩, ⟨some 7, none, 87, .tuple #[.slice ((θ 48).p) r_13.1.length ((θ 48).c), .int .i64 r_13.2]⟩, ⟨some 8, none, 95, .slice ((θ 48).p) r_13.1.length ((θ 48).c)⟩, ⟨some 9, none, 96, .int .i64 r_13.2⟩, ⟨some 10, none, 21, .slice ((θ 48).p) r_13.1.length ((θ 48).c)⟩, ⟨some 11, none, 19, .int .i64 r_13.2⟩]) (fun E θ => (bif E 6 then .row ((θ 48).p) ((θ 48).c) (r_13.1.map encI_i64) 3 1 else .row none 0 [] 0 0) :: (bif E 1 then .row ((θ 8).p) ((θ 8).c) (r_12.Table.map enc_ref09_Point) 183 2 else .row none 0 [] 0 0) :: .row p_1 c_1 (r_1.Table.map enc_share_Point) 116 2 :: .row p_2 c_2 (r_2.map enc_share_Year) 94 5 :: .row p_3 c_3 (r_3.map enc_share_Truth) 97 2 :: .row p_9 c_9 (r_11.1.map encI_i64) 3 1 :: .row p_8 c_8 (r_9.Table.map enc_ref09_Point) 183 2 :: .row p_7 c_7 (r_6.Table.map enc_ref09_Point) 183 2 :: .row p_4 c_4 (r_4.1.map enc_ref09_Year) 179 5 :: .row p_5 c_5 (r_4.2.map enc_ref09_Truth) 180 2 :: .box b_3 [.slice p_1 r_1.Table.length c_1, .int .i64 r_1.Credit] 88 :: .box b_2 [.int .i64 start.Lo, .int .i64 start.Hi] 26 :: .box b_1 [.slice b__Table_p b_.Table.length b__Table_c, .int .i64 b_.Credit] 88 :: Lf) [(7, 6), (8, 7), (10, 6)] (fun a w => ∃ (p_12 : Option Addr) (c_12 : Nat) (p_13 : Option Addr) (c_13 : Nat), Has 156 a [(3, .slice l_p l.length l_c), (4, .slice truth_p truth.length truth_c), (5, .pointer (some ⟨b_1, 0, none⟩)), (7, .pointer (some ⟨b_2, 0, none⟩)), (11, .pointer (some ⟨b_3, 0, none⟩)), (12, .slice p_2 r_2.length c_2), (13, .slice p_3 r_3.length c_3), (14, .slice p_4 r_4.1.length c_4), (17, .int .i64 r_11.2), (20, .slice p_9 r_11.1.length c_9), (21, .slice p_12 r_13.1.length c_12), (19, .int .i64 r_13.2)] ∧ Ctx G (.row p_12 c_12 (r_13.1.map encI_i64) 3 1 :: .row p_13 c_13 (r_12.Table.map enc_ref09_Point) 183 2 :: .row p_1 c_1 (r_1.Table.map enc_share_Point) 116 2 :: .row p_2 c_2 (r_2.map enc_share_Year) 94 5 :: .row p_3 c_3 (r_3.map enc_share_Truth) 97 2 :: .row p_9 c_9 (r_11.1.map encI_i64) 3 1 :: .row p_8 c_8 (r_9.Table.map enc_ref09_Point) 183 2 :: .row p_7 c_7 (r_6.Table.map enc_ref09_Point) 183 2 :: .row p_4 c_4 (r_4.1.map enc_ref09_Year) 179 5 :: .row p_5 c_5 (r_4.2.map enc_ref09_Truth) 180 2 :: .box b_3 [.slice p_1 r_1.Table.length c_1, .int .i64 r_1.Credit] 88 :: .box b_2 [.int .i64 start.Lo, .int .i64 start.Hi] 26 :: .box b_1 [.slice b__Table_p b_.Table.length b__Table_c, .int .i64 b_.Credit] 88 :: Lf) w) follows_mx (by kernel_rfl) (by kernel_rfl) (HasE.of hf ⟨rfl, rfl, rfl, rfl, rfl, rfl, rfl, rfl, rfl, rfl, rfl, rfl, trivial, trivial, trivial, trivial, trivial, trivial, trivial, trivial, trivial, trivial, trivial, trivial, trivial⟩) hc ⟨?_, ?_, ?_, ?_, ?_, ?_, ?_, ?_, ?_, ?_, ?_, ?_, trivial⟩ ?_ ?_
        · intro E θ a w hD hi hp he hc
          have hf := he.h0
          replace hf := hf.more he 2 rfl onT
          refine stE hf hc rfl rfl rfl (eLdN (vs := [.slice b__Table_p b_.Table.length b__Table_c, .int .i64 b_.Credit]) ag_88 rfl rfl (cells_box (n := 2) m12 rfl)) fun a w hf hc => ?_
          refine cNil ?_
          refine xThenN ?_
          intro ds u hau
          refine ⟨θ, he.put0 hi hau hf rfl 12 rfl rfl, ?_⟩
          exact hc
        · intro E θ a w hD hi hp he hc
          have e0 := hp.of (k := 0) rfl
          try dsimp only at hc
          rw [hi] at hc
          have hf := he.h0
          replace hf := hf.more he 12 rfl (onP e0)
          refine stC (vs := [.agg #[.slice b__Table_p b_.Table.length b__Table_c, .int .i64 b_.Credit]]) (caps := []) hf rfl rfl rfl en_49 rfl rfl rfl rfl (law09_Border_ok b_ h_b__Table hc hr_12) ?_
          rintro _ w ⟨p_10, c_10, rfl, hc⟩
          refine ⟨_, rfl, fun a hf => ?_⟩
          refine cNil ?_
          refine xThenN ?_
          intro ds u hau
          replace hc := hc.drop k2
          replace hc := hc.pick k0
          replace hc := hc.pick k1
          refine ⟨(setT θ 8 ⟨0, p_10, c_10⟩), he.put hi hau hf rfl [] trivial ⟨qq, qq, qq, qq, qq, qq, qq, qq, qq, qq, qq, qq, qq, qq, qq, qq, qq, qq, qq, qq, qq, qq, qq, qq, trivial⟩, ?_⟩
          try dsimp only
          rw [updE_self E 1]
          exact hc
        · intro E θ a w hD hi hp he hc
          have hf := he.h0
          replace hf := hf.more he 3 rfl onT
          refine stP hf rfl rfl rfl (pFA fa_26_0 rfl) fun a hf => ?_
          refine cNil ?_
          refine xThenN ?_
          intro ds u hau
          refine ⟨θ, he.put0 hi hau hf rfl 14 rfl rfl, ?_⟩
          exact hc
        · intro E θ a w hD hi hp he hc
          have e2 := hp.of (k := 2) rfl
          have hf := he.h0
          replace hf := hf.more he 14 rfl (onP e2)
          refine stE hf hc rfl rfl rfl (eLd1 sc_3 rfl (cell_box m11 rfl)) fun a w hf hc => ?_
          refine cNil ?_
          refine xThenN ?_
          intro ds u hau
          refine ⟨θ, he.put0 hi hau hf rfl 15 rfl rfl, ?_⟩
          exact hc
        · intro E θ a w hD hi hp he hc
          have hf := he.h0
          replace hf := hf.more he 7 rfl onT
          refine stP hf rfl rfl rfl (pM rfl) fun a hf => ?_
          refine cNil ?_
          refine xThenN ?_
          intro ds u hau
          refine ⟨θ, he.put0 hi hau hf rfl 16 rfl rfl, ?_⟩
          exact hc
        · intro E θ a w hD hi hp he hc
          have hf := he.h0
          replace hf := hf.more he 8 rfl onT
          refine stP hf rfl rfl rfl (pM rfl) fun a hf => ?_
          refine cNil ?_
          refine xThenN ?_
          intro ds u hau
          refine ⟨θ, he.put0 hi hau hf rfl 17 rfl rfl, ?_⟩
          exact hc
        · intro E θ a w hD hi hp he hc
          have e1 := hp.of (k := 1) rfl
          have e3 := hp.of (k := 3) rfl
          have e4 := hp.of (k := 4) rfl
          have e5 := hp.of (k := 5) rfl
          have e7 := hD.f 0 rfl hi
          have e8 := hD.f 1 rfl e7
          have e10 := hD.f 2 rfl hi
          try dsimp only at hc
          rw [hi, e1] at hc
          have hf := he.h0
          replace hf := hf.more he 13 rfl (onP e1)
          replace hf := hf.more he 15 rfl (onP e3)
          replace hf := hf.more he 16 rfl (onP e4)
          replace hf := hf.more he 17 rfl (onP e5)
          obtain ⟨G1, hle1, hrd1, hc, hth1⟩ := lend hc k1
          obtain ⟨G2, hle2, hrd2, hc, hth2⟩ := lend hc k7
          obtain ⟨G3, hle3, hrd3, hc, hth3⟩ := lend hc k7
          refine stC (vs := [.agg #[.slice ((θ 8).p) r_12.Table.length ((θ 8).c), .int .i64 r_12.Credit], .int .i64 start.Lo, .slice p_4 r_4.1.length c_4, .slice p_5 r_4.2.length c_5]) (caps := []) hf rfl rfl rfl en_53 rfl rfl rfl rfl (ref09_Owed_ok r_12 start.Lo r_4.1 r_4.2 ((hrd1.mono hle2).mono hle3) (hrd2.mono hle3) hrd3 hc hr_13) ?_
          rintro _ w ⟨p_11, c_11, rfl, hc⟩
          refine ⟨_, rfl, fun a hf => ?_⟩
          replace hc := hth3 _ _ hc
          replace hc := hth2 _ _ hc
          replace hc := hth1 _ _ hc
          refine cNil ?_
          refine xThenN ?_
          intro ds u hau
          replace hc := hc.drop k4
          replace hc := hc.pick k2
          replace hc := hc.pick k2
          replace hc := hc.pick k9
          replace hc := hc.pick k9
          replace hc := hc.pick k9
          replace hc := hc.pick k9
          replace hc := hc.pick k9
          replace hc := hc.pick k9
          replace hc := hc.pick k8
          replace hc := hc.pick k9
          refine ⟨(setT θ 48 ⟨0, p_11, c_11⟩), he.put hi hau hf rfl [7, 8, 10] ⟨⟨e7, rfl⟩, ⟨e8, rfl⟩, ⟨e10, rfl⟩, trivial⟩ ⟨qq, qq, qq, qq, qq, qq, qq, qq, qq, qq, qq, qq, qq, qq, qq, qq, qq, qq, qq, trivial, trivial, qq, trivial, qq, trivial⟩, ?_⟩
          try dsimp only
          rw [updE_self E 6, updE_tru 6 e1]
          exact hc
        · intro E θ a w hD hi hp he hc
          have e6 := hp.of (k := 6) rfl
          have hf := he.h0
          replace hf := hf.more he 18 rfl (onP e6)
          refine stP hf rfl rfl rfl (pM rfl) fun a hf => ?_
          refine cNil ?_
          refine xThenN ?_
          intro ds u hau
          refine ⟨θ, he.put0 hi hau hf rfl 19 rfl rfl, ?_⟩
          exact hc
        · intro E θ a w hD hi hp he hc
          have e7 := hp.of (k := 7) rfl
          have hf := he.h0
          replace hf := hf.more he 19 rfl (onP e7)
          refine stP hf rfl rfl rfl (pX rfl rfl) fun a hf => ?_
          refine cNil ?_
          refine xThenN ?_
          intro ds u hau
          refine ⟨θ, he.put0 hi hau hf rfl 20 rfl rfl, ?_⟩
          exact hc
        · intro E θ a w hD hi hp he hc
          have e7 := hp.of (k := 7) rfl
          have hf := he.h0
          replace hf := hf.more he 19 rfl (onP e7)
          refine stP hf rfl rfl rfl (pX rfl rfl) fun a hf => ?_
          refine cNil ?_
          refine xThenN ?_
          intro ds u hau
          refine ⟨θ, he.put0 hi hau hf rfl 21 rfl rfl, ?_⟩
          exact hc
        · intro E θ a w hD hi hp he hc
          have e8 := hp.of (k := 8) rfl
          have hf := he.h0
          replace hf := hf.more he 20 rfl (onP e8)
          refine stP hf rfl rfl rfl (pA rfl) fun a hf => ?_
          refine cNil ?_
          refine xThenN ?_
          intro ds u hau
          refine ⟨θ, he.put0 hi hau hf rfl 22 rfl rfl, ?_⟩
          exact hc
        · intro E θ a w hD hi hp he hc
          have e9 := hp.of (k := 9) rfl
          have hf := he.h0
          replace hf := hf.more he 21 rfl (onP e9)
          refine stP hf rfl rfl rfl (pA rfl) fun a hf => ?_
          refine cNil ?_
          refine xThenN ?_
          intro ds u hau
          refine ⟨θ, he.put0 hi hau hf rfl 23 rfl rfl, ?_⟩
          exact hc
        · intro E θ a w hall he hc
          have hf := he.h0
          have e1 := hall 1 rfl
          have e6 := hall 6 rfl
          have e10 := hall 10 rfl
          have e11 := hall 11 rfl
          replace hf := hf.more he 23 rfl (onP e11)
          replace hf := hf.more he 22 rfl (onP e10)
          replace hf := hf.more he 11 rfl (onT)
          replace hf := hf.more he 9 rfl (onT)
          replace hf := hf.more he 7 rfl (onT)
          replace hf := hf.more he 6 rfl (onT)
          replace hf := hf.more he 5 rfl (onT)
          replace hf := hf.more he 4 rfl (onT)
          replace hf := hf.more he 3 rfl (onT)
          replace hf := hf.more he 2 rfl (onT)
          replace hf := hf.more he 1 rfl (onT)
          replace hf := hf.more he 0 rfl (onT)
          try dsimp only at hc
          rw [e1, e6] at hc
          exact ⟨(θ 48).p, (θ 48).c, (θ 8).p, (θ 8).c, hf.keep ⟨rfl, rfl, rfl, rfl, rfl, rfl, rfl, rfl, rfl, rfl, rfl, rfl, trivial⟩, hc⟩
        rintro a w ⟨p_12, c_12, p_13, c_13, hf, hc⟩
        refine h16 _ _ ?_
        refine wp_seq_k fun K17 h17 => ?_
        refine wp_seq_k fun K18 h18 => ?_
        refine cReg ?_
        refine stP hf rfl rfl rfl (pM rfl) fun a hf => ?_
        refine stP hf rfl rfl rfl (pM rfl) fun a hf => ?_
        obtain ⟨r_14, hr_14, hF⟩ := bnd_some hF
        refine stE hf hc rfl rfl rfl (eC (v := .bool r_14) (vs := [.slice p_9 r_11.1.length c_9, .slice p_12 r_13.1.length c_12]) (caps := []) en_20 rfl rfl rfl rfl (fun w hc => by obtain ⟨G1, hle1, hrd1, hc, hth1⟩ := lend hc k5; obtain ⟨G2, hle2, hrd2, hc, hth2⟩ := lend hc k0; exact (kit_Same_int_ok r_11.1 r_13.1 (hrd1.mono hle2) hrd2 hc hr_14).mono fun e w h => ⟨h.1, ((hth1 _ _ ((hth2 _ _ h.2).unpick k0)).unpick k5)⟩)) fun a w hf hc => ?_
        refine stP hf rfl rfl rfl (pNot rfl) fun a hf => ?_
        refine stP hf rfl rfl rfl (pM rfl) fun a hf => ?_
        refine stCut 4 (fun a w => Has 156 a [(3, .slice l_p l.length l_c), (4, .slice truth_p truth.length truth_c), (5, .pointer (some ⟨b_1, 0, none⟩)), (7, .pointer (some ⟨b_2, 0, none⟩)), (11, .pointer (some ⟨b_3, 0, none⟩)), (12, .slice p_2 r_2.length c_2), (13, .slice p_3 r_3.length c_3), (14, .slice p_4 r_4.1.length c_4), (17, .int .i64 r_11.2), (20, .slice p_9 r_11.1.length c_9), (21, .slice p_12 r_13.1.length c_12), (19, .int .i64 r_13.2), (97, .slice p_9 r_11.1.length c_9), (98, .slice p_12 r_13.1.length c_12), (99, .bool r_14), (100, .bool (!r_14)), (101, .bool (!r_14)), (105, .bool ((!r_14) || (r_11.2 != r_13.2)))] ∧ Ctx G (.row p_12 c_12 (r_13.1.map encI_i64) 3 1 :: .row p_13 c_13 (r_12.Table.map enc_ref09_Point) 183 2 :: .row p_1 c_1 (r_1.Table.map enc_share_Point) 116 2 :: .row p_2 c_2 (r_2.map enc_share_Year) 94 5 :: .row p_3 c_3 (r_3.map enc_share_Truth) 97 2 :: .row p_9 c_9 (r_11.1.map encI_i64) 3 1 :: .row p_8 c_8 (r_9.Table.map enc_ref09_Point) 183 2 :: .row p_7 c_7 (r_6.Table.map enc_ref09_Point) 183 2 :: .row p_4 c_4 (r_4.1.map enc_ref09_Year) 179 5 :: .row p_5 c_5 (r_4.2.map enc_ref09_Truth) 180 2 :: .box b_3 [.slice p_1 r_1.Table.length c_1, .int .i64 r_1.Credit] 88 :: .box b_2 [.int .i64 start.Lo, .int .i64 start.Hi] 26 :: .box b_1 [.slice b__Table_p b_.Table.length b__Table_c, .int .i64 b_.Credit] 88 :: Lf) w) ?_ ?_
        · cases hb : (!r_14)
          · rw [hb] at hf
            refine stP hf rfl rfl rfl (pM rfl) fun a hf => ?_
            refine stP hf rfl rfl rfl (pM rfl) fun a hf => ?_
            refine stP hf rfl rfl rfl (pNe rfl rfl) fun a hf => ?_
            refine stP hf rfl rfl rfl (pPf rfl rfl) fun a hf => ?_
            exact cNil ⟨hf.keep ⟨rfl, rfl, rfl, rfl, rfl, rfl, rfl, rfl, rfl, rfl, rfl, rfl, rfl, rfl, rfl, rfl, rfl, rfl, trivial⟩, hc⟩
          · rw [hb] at hf
            refine stS hf rfl rfl rfl fun a hf => ?_
            refine stS hf rfl rfl rfl fun a hf => ?_
            refine stS hf rfl rfl rfl fun a hf => ?_
            refine stP hf rfl rfl rfl (pPt rfl rfl) fun a hf => ?_
            exact cNil ⟨hf.keep ⟨rfl, rfl, rfl, rfl, rfl, rfl, rfl, rfl, rfl, rfl, rfl, rfl, rfl, rfl, rfl, rfl, rfl, rfl, trivial⟩, hc⟩
        intro a w ⟨hf, hc⟩
        refine cNil ?_
        refine h18 _ _ ?_
        refine cCond (b := ((!r_14) || (r_11.2 != r_13.2))) hf rfl (fun hb => ?_) (fun hb => ?_)
        · replace hF := condT hb hF
          clear hb
          refine wp_seq_k fun K19 h19 => ?_
          refine cReg ?_
          refine stP hf rfl rfl rfl (pA rfl) fun a hf => ?_
          refine cNil ?_
          refine h19 _ _ ?_
          refine wp_ret ?_
          refine xThenR ?_
          obtain rfl := Option.some.inj hF
          replace hc := hc.drop k12
          replace hc := hc.drop k11
          replace hc := hc.drop k10
          replace hc := hc.drop k9
          replace hc := hc.drop k8
          replace hc := hc.drop k7
          replace hc := hc.drop k6
          replace hc := hc.drop k5
          replace hc := hc.drop k4
          replace hc := hc.drop k3
          replace hc := hc.drop k2
          replace hc := hc.drop k1
          replace hc := hc.drop k0
          exact fnOut1 (by simp) rfl Try.results8 hf hc (show look _ 10 = _ from rfl) ⟨rfl, hc⟩
        · replace hF := condF hb hF
          clear hb
          refine wp_skip ?_
          refine h17 _ _ ?_
          refine wp_seq_k fun K20 h20 => ?_
          refine cReg ?_
          refine stE hf hc rfl rfl rfl (eLdN (vs := [.slice p_1 r_1.Table.length c_1, .int .i64 r_1.Credit]) ag_88 rfl rfl (cells_box (n := 2) m10 rfl)) fun a w hf hc => ?_
          refine stE hf hc rfl rfl rfl (eLdN (vs := [.int .i64 start.Lo, .int .i64 start.Hi]) ag_26 rfl rfl (cells_box (n := 2) m11 rfl)) fun a w hf hc => ?_
          refine stP hf rfl rfl rfl (pM rfl) fun a hf => ?_
          obtain ⟨r_15, hr_15, hF⟩ := bnd_some hF
          obtain ⟨G1, hle1, hrd1, hc, hth1⟩ := lend hc k2
          obtain ⟨G2, hle2, hrd2, hc, hth2⟩ := lend hc k2
          refine stC (vs := [.agg #[.slice p_1 r_1.Table.length c_1, .int .i64 r_1.Credit], .agg #[.int .i64 start.Lo, .int .i64 start.Hi], .slice p_2 r_2.length c_2]) (caps := []) hf rfl rfl rfl en_54 rfl rfl rfl rfl (share_Debts_ok r_1 start r_2 (hrd1.mono hle2) hrd2 hc hr_15) ?_
          rintro _ w ⟨p_14, c_14, rfl, hc⟩
          refine ⟨_, rfl, fun a hf => ?_⟩
          replace hc := hth2 _ _ hc
          replace hc := hth1 _ _ hc
          refine stP hf rfl rfl rfl (pM rfl) fun a hf => ?_
          refine stP hf rfl rfl rfl (pX rfl rfl) fun a hf => ?_
          refine stP hf rfl rfl rfl (pX rfl rfl) fun a hf => ?_
          refine stP hf rfl rfl rfl (pA rfl) fun a hf => ?_
          refine stP hf rfl rfl rfl (pA rfl) fun a hf => ?_
          refine cNil ?_
          refine h20 _ _ ?_
          refine wp_seq_k fun K21 h21 => ?_
          obtain ⟨r_16, hr_16, hF⟩ := bnd_some hF
          obtain ⟨r_17, hr_17, hF⟩ := bnd_some hF
          replace hc := hc.nilRow 0 0
          replace hc := hc.nilRow 0 0
          refine regionE (fun θ => [⟨none, none, 3, .slice l_p l.length l_c⟩, ⟨none, none, 4, .slice truth_p truth.length truth_c⟩, ⟨none, none, 5, .pointer (some ⟨b_1, 0, none⟩)⟩, ⟨none, none, 7, .pointer (some ⟨b_2, 0, none⟩)⟩, ⟨none, none, 11, .pointer (some ⟨b_3, 0, none⟩)⟩, ⟨none, none, 12, .slice p_2 r_2.length c_2⟩, ⟨none, none, 13, .slice p_3 r_3.length c_3⟩, ⟨none, none, 14, .slice p_4 r_4.1.length c_4⟩, ⟨none, none, 17, .int .i64 r_15.2⟩, ⟨none, some 9, 19, .int .i64 r_13.2⟩, ⟨none, none, 22, .slice p_14 r_15.1.length c_14⟩, ⟨some 0, none, 114, .agg #[.slice b__Table_p b_.Table.length b__Table_c, .int .i64 b_.Credit]⟩, ⟨some 1, none, 115, .agg #[.slice ((θ 8).p) r_16.Table.length ((θ 8).c), .int .i64 r_16.Credit]⟩, ⟨some 2, none, 116, .agg #[.int .i64 start.Lo, .int .i64 start.Hi]⟩, ⟨some 3, none, 117, .slice p_4 r_4.1.length c_4⟩, ⟨some 4, none, 118, .tuple #[.slice ((θ 32).p) r_17.1.length ((θ 32).c), .int .i64 r_17.2]⟩, ⟨some 5, none, 113, .tuple #[.slice ((θ 32).p) r_17.1.length ((θ 32).c), .int .i64 r_17.2]⟩, ⟨some 6, none, 119, .slice ((θ 32).p) r_17.1.length ((θ 32).c)⟩, ⟨some 7, none, 120, .int .i64 r_17.2⟩, ⟨some 8, none, 23, .slice ((θ 32).p) r_17.1.length ((θ 32).c)⟩, ⟨some 9, none, 19, .int .i64 r_17.2⟩]) (fun E θ => (bif E 4 then .row ((θ 32).p) ((θ 32).c) (r_17.1.map enc_api_Span) 26 2 else .row none 0 [] 0 0) :: (bif E 1 then .row ((θ 8).p) ((θ 8).c) (r_16.Table.map enc_ref09_Point) 183 2 else .row none 0 [] 0 0) :: .row p_1 c_1 (r_1.Table.map enc_share_Point) 116 2 :: .row p_2 c_2 (r_2.map enc_share_Year) 94 5 :: .row p_14 c_14 (r_15.1.map enc_api_Span) 26 2 :: .row p_12 c_12 (r_13.1.map encI_i64) 3 1 :: .row p_13 c_13 (r_12.Table.map enc_ref09_Point) 183 2 :: .row p_3 c_3 (r_3.map enc_share_Truth) 97 2 :: .row p_9 c_9 (r_11.1.map encI_i64) 3 1 :: .row p_8 c_8 (r_9.Table.map enc_ref09_Point) 183 2 :: .row p_7 c_7 (r_6.Table.map enc_ref09_Point) 183 2 :: .row p_4 c_4 (r_4.1.map enc_ref09_Year) 179 5 :: .row p_5 c_5 (r_4.2.map enc_ref09_Truth) 180 2 :: .box b_3 [.slice p_1 r_1.Table.length c_1, .int .i64 r_1.Credit] 88 :: .box b_2 [.int .i64 start.Lo, .int .i64 start.Hi] 26 :: .box b_1 [.slice b__Table_p b_.Table.length b__Table_c, .int .i64 b_.Credit] 88 :: Lf) [(5, 4), (6, 5), (8, 4)] (fun a w => ∃ (p_17 : Option Addr) (c_17 : Nat) (p_18 : Option Addr) (c_18 : Nat), Has 156 a [(3, .slice l_p l.length l_c), (4, .slice truth_p truth.length truth_c), (5, .pointer (some ⟨b_1, 0, none⟩)), (11, .pointer (some ⟨b_3, 0, none⟩)), (12, .slice p_2 r_2.length c_2), (13, .slice p_3 r_3.length c_3), (17, .int .i64 r_15.2), (22, .slice p_14 r_15.1.length c_14), (23, .slice p_17 r_17.1.length c_17), (19, .int .i64 r_17.2)] ∧ Ctx G (.row p_17 c_17 (r_17.1.map enc_api_Span) 26 2 :: .row p_18 c_18 (r_16.Table.map enc_ref09_Point) 183 2 :: .row p_1 c_1 (r_1.Table.map enc_share_Point) 116 2 :: .row p_2 c_2 (r_2.map enc_share_Year) 94 5 :: .row p_14 c_14 (r_15.1.map enc_api_Span) 26 2 :: .row p_12 c_12 (r_13.1.map encI_i64) 3 1 :: .row p_13 c_13 (r_12.Table.map enc_ref09_Point) 183 2 :: .row p_3 c_3 (r_3.map enc_share_Truth) 97 2 :: .row p_9 c_9 (r_11.1.map encI_i64) 3 1 :: .row p_8 c_8 (r_9.Table.map enc_ref09_Point) 183 2 :: .row p_7 c_7 (r_6.Table.map enc_ref09_Point) 183 2 :: .row p_4 c_4 (r_4.1.map enc_ref09_Year) 179 5 :: .row p_5 c_5 (r_4.2.map enc_ref09_Truth) 180 2 :: .box b_3 [.slice p_1 r_1.Table.length c_1, .int .i64 r_1.Credit] 88 :: .box b_2 [.int .i64 start.Lo, .int .i64 start.Hi] 26 :: .box b_1 [.slice b__Table_p b_.Table.length b__Table_c, .int .i64 b_.Credit] 88 :: Lf) w) follows_mx (by kernel_rfl) (by kernel_rfl) (HasE.of hf ⟨rfl, rfl, rfl, rfl, rfl, rfl, rfl, rfl, rfl, rfl, rfl, trivial, trivial, trivial, trivial, trivial, trivial, trivial, trivial, trivial, trivial, trivial⟩) hc ⟨?_, ?_, ?_, ?_, ?_, ?_, ?_, ?_, ?_, ?_, trivial⟩ ?_ ?_
          · intro E θ a w hD hi hp he hc
            have hf := he.h0
            replace hf := hf.more he 2 rfl onT
            refine stE hf hc rfl rfl rfl (eLdN (vs := [.slice b__Table_p b_.Table.length b__Table_c, .int .i64 b_.Credit]) ag_88 rfl rfl (cells_box (n := 2) m15 rfl)) fun a w hf hc => ?_
            refine cNil ?_
            refine xThenN ?_
            intro ds u hau
            refine ⟨θ, he.put0 hi hau hf rfl 11 rfl rfl, ?_⟩
            exact hc
          · intro E θ a w hD hi hp he hc
            have e0 := hp.of (k := 0) rfl
            try dsimp only at hc
            rw [hi] at hc
            have hf := he.h0
            replace hf := hf.more he 11 rfl (onP e0)
            refine stC (vs := [.agg #[.slice b__Table_p b_.Table.length b__Table_c, .int .i64 b_.Credit]]) (caps := []) hf rfl rfl rfl en_49 rfl rfl rfl rfl (law09_Border_ok b_ h_b__Table hc hr_16) ?_
            rintro _ w ⟨p_15, c_15, rfl, hc⟩
            refine ⟨_, rfl, fun a hf => ?_⟩
            refine cNil ?_
            refine xThenN ?_
            intro ds u hau
            replace hc := hc.drop k2
            replace hc := hc.pick k0
            replace hc := hc.pick k1
            refine ⟨(setT θ 8 ⟨0, p_15, c_15⟩), he.put hi hau hf rfl [] trivial ⟨qq, qq, qq, qq, qq, qq, qq, qq, qq, qq, qq, qq, qq, qq, qq, qq, qq, qq, qq, qq, qq, trivial⟩, ?_⟩
            try dsimp only
            rw [updE_self E 1]
            exact hc
          · intro E θ a w hD hi hp he hc
            have hf := he.h0
            replace hf := hf.more he 3 rfl onT
            refine stE hf hc rfl rfl rfl (eLdN (vs := [.int .i64 start.Lo, .int .i64 start.Hi]) ag_26 rfl rfl (cells_box (n := 2) m14 rfl)) fun a w hf hc => ?_
            refine cNil ?_
            refine xThenN ?_
            intro ds u hau
            refine ⟨θ, he.put0 hi hau hf rfl 13 rfl rfl, ?_⟩
            exact hc
          · intro E θ a w hD hi hp he hc
            have hf := he.h0
            replace hf := hf.more he 7 rfl onT
            refine stP hf rfl rfl rfl (pM rfl) fun a hf => ?_
            refine cNil ?_
            refine xThenN ?_
            intro ds u hau
            refine ⟨θ, he.put0 hi hau hf rfl 14 rfl rfl, ?_⟩
            exact hc
          · intro E θ a w hD hi hp he hc
            have e1 := hp.of (k := 1) rfl
            have e2 := hp.of (k := 2) rfl
            have e3 := hp.of (k := 3) rfl
            have e5 := hD.f 0 rfl hi
            have e6 := hD.f 1 rfl e5
            have e8 := hD.f 2 rfl hi
            try dsimp only at hc
            rw [hi, e1] at hc
            have hf := he.h0
            replace hf := hf.more he 12 rfl (onP e1)
            replace hf := hf.more he 13 rfl (onP e2)
            replace hf := hf.more he 14 rfl (onP e3)
            obtain ⟨G1, hle1, hrd1, hc, hth1⟩ := lend hc k1
            obtain ⟨G2, hle2, hrd2, hc, hth2⟩ := lend hc k10
            refine stC (vs := [.agg #[.slice ((θ 8).p) r_16.Table.length ((θ 8).c), .int .i64 r_16.Credit], .agg #[.int .i64 start.Lo, .int .i64 start.Hi], .slice p_4 r_4.1.length c_4]) (caps := []) hf rfl rfl rfl en_55 rfl rfl rfl rfl (ref09_Debts_ok r_16 start r_4.1 (hrd1.mono hle2) hrd2 hc hr_17) ?_
            rintro _ w ⟨p_16, c_16, rfl, hc⟩
            refine ⟨_, rfl, fun a hf => ?_⟩
            replace hc := hth2 _ _ hc
            replace hc := hth1 _ _ hc
            refine cNil ?_
            refine xThenN ?_
            intro ds u hau
            replace hc := hc.drop k3
            replace hc := hc.pick k1
            replace hc := hc.pick k11
            replace hc := hc.pick k11
            replace hc := hc.pick k11
            replace hc := hc.pick k11
            replace hc := hc.pick k11
            replace hc := hc.pick k11
            replace hc := hc.pick k11
            replace hc := hc.pick k11
            replace hc := hc.pick k11
            replace hc := hc.pick k10
            replace hc := hc.pick k11
            refine ⟨(setT θ 32 ⟨0, p_16, c_16⟩), he.put hi hau hf rfl [5, 6, 8] ⟨⟨e5, rfl⟩, ⟨e6, rfl⟩, ⟨e8, rfl⟩, trivial⟩ ⟨qq, qq, qq, qq, qq, qq, qq, qq, qq, qq, qq, qq, qq, qq, qq, qq, trivial, trivial, qq, trivial, qq, trivial⟩, ?_⟩
            try dsimp only
            rw [updE_self E 4, updE_tru 4 e1]
            exact hc
          · intro E θ a w hD hi hp he hc
            have e4 := hp.of (k := 4) rfl
            have hf := he.h0
            replace hf := hf.more he 15 rfl (onP e4)
            refine stP hf rfl rfl rfl (pM rfl) fun a hf => ?_
            refine cNil ?_
            refine xThenN ?_
            intro ds u hau
            refine ⟨θ, he.put0 hi hau hf rfl 16 rfl rfl, ?_⟩
            exact hc
          · intro E θ a w hD hi hp he hc
            have e5 := hp.of (k := 5) rfl
            have hf := he.h0
            replace hf := hf.more he 16 rfl (onP e5)
            refine stP hf rfl rfl rfl (pX rfl rfl) fun a hf => ?_
            refine cNil ?_
            refine xThenN ?_
            intro ds u hau
            refine ⟨θ, he.put0 hi hau hf rfl 17 rfl rfl, ?_⟩
            exact hc
          · intro E θ a w hD hi hp he hc
            have e5 := hp.of (k := 5) rfl
            have hf := he.h0
            replace hf := hf.more he 16 rfl (onP e5)
            refine stP hf rfl rfl rfl (pX rfl rfl) fun a hf => ?_
            refine cNil ?_
            refine xThenN ?_
            intro ds u hau
            refine ⟨θ, he.put0 hi hau hf rfl 18 rfl rfl, ?_⟩
            exact hc
          · intro E θ a w hD hi hp he hc
            have e6 := hp.of (k := 6) rfl
            have hf := he.h0
            replace hf := hf.more he 17 rfl (onP e6)
            refine stP hf rfl rfl rfl (pA rfl) fun a hf => ?_
            refine cNil ?_
            refine xThenN ?_
            intro ds u hau
            refine ⟨θ, he.put0 hi hau hf rfl 19 rfl rfl, ?_⟩
            exact hc
          · intro E θ a w hD hi hp he hc
            have e7 := hp.of (k := 7) rfl
            have hf := he.h0
            replace hf := hf.more he 18 rfl (onP e7)
            refine stP hf rfl rfl rfl (pA rfl) fun a hf => ?_
            refine cNil ?_
            refine xThenN ?_
            intro ds u hau
            refine ⟨θ, he.put0 hi hau hf rfl 20 rfl rfl, ?_⟩
            exact hc
          · intro E θ a w hall he hc
            have hf := he.h0
            have e1 := hall 1 rfl
            have e4 := hall 4 rfl
            have e8 := hall 8 rfl
            have e9 := hall 9 rfl
            replace hf := hf.more he 20 rfl (onP e9)
            replace hf := hf.more he 19 rfl (onP e8)
            replace hf := hf.more he 10 rfl (onT)
            replace hf := hf.more he 8 rfl (onT)
            replace hf := hf.more he 6 rfl (onT)
            replace hf := hf.more he 5 rfl (onT)
            replace hf := hf.more he 4 rfl (onT)
            replace hf := hf.more he 2 rfl (onT)
            replace hf := hf.more he 1 rfl (onT)
            replace hf := hf.more he 0 rfl (onT)
            try dsimp only at hc
            rw [e1, e4] at hc
            exact ⟨(θ 32).p, (θ 32).c, (θ 8).p, (θ 8).c, hf.keep ⟨rfl, rfl, rfl, rfl, rfl, rfl, rfl, rfl, rfl, rfl, trivial⟩, hc⟩
          rintro a w ⟨p_17, c_17, p_18, c_18, hf, hc⟩
          refine h21 _ _ ?_
          refine wp_seq_k fun K22 h22 => ?_
          refine cReg ?_
          refine stP hf rfl rfl rfl (pM rfl) fun a hf => ?_
          refine stP hf rfl rfl rfl (pM rfl) fun a hf => ?_
          obtain ⟨r_18, hr_18, hF⟩ := bnd_some hF
          refine stE hf hc rfl rfl rfl (eC (v := .bool r_18) (vs := [.slice p_14 r_15.1.length c_14, .slice p_17 r_17.1.length c_17]) (caps := []) en_23 rfl rfl rfl rfl (fun w hc => by obtain ⟨G1, hle1, hrd1, hc, hth1⟩ := lend hc k4; obtain ⟨G2, hle2, hrd2, hc, hth2⟩ := lend hc k0; exact (kit_Same_api_Span_ok r_15.1 r_17.1 (hrd1.mono hle2) hrd2 hc hr_18).mono fun e w h => ⟨h.1, ((hth1 _ _ ((hth2 _ _ h.2).unpick k0)).unpick k4)⟩)) fun a w hf hc => ?_
          refine stP hf rfl rfl rfl (pM rfl) fun a hf => ?_
          refine stCut 4 (fun a w => Has 156 a [(3, .slice l_p l.length l_c), (4, .slice truth_p truth.length truth_c), (5, .pointer (some ⟨b_1, 0, none⟩)), (11, .pointer (some ⟨b_3, 0, none⟩)), (12, .slice p_2 r_2.length c_2), (13, .slice p_3 r_3.length c_3), (17, .int .i64 r_15.2), (22, .slice p_14 r_15.1.length c_14), (23, .slice p_17 r_17.1.length c_17), (19, .int .i64 r_17.2), (121, .slice p_14 r_15.1.length c_14), (122, .slice p_17 r_17.1.length c_17), (123, .bool r_18), (124, .bool r_18), (128, .bool (r_18 && (r_15.2 == r_17.2)))] ∧ Ctx G (.row p_17 c_17 (r_17.1.map enc_api_Span) 26 2 :: .row p_18 c_18 (r_16.Table.map enc_ref09_Point) 183 2 :: .row p_1 c_1 (r_1.Table.map enc_share_Point) 116 2 :: .row p_2 c_2 (r_2.map enc_share_Year) 94 5 :: .row p_14 c_14 (r_15.1.map enc_api_Span) 26 2 :: .row p_12 c_12 (r_13.1.map encI_i64) 3 1 :: .row p_13 c_13 (r_12.Table.map enc_ref09_Point) 183 2 :: .row p_3 c_3 (r_3.map enc_share_Truth) 97 2 :: .row p_9 c_9 (r_11.1.map encI_i64) 3 1 :: .row p_8 c_8 (r_9.Table.map enc_ref09_Point) 183 2 :: .row p_7 c_7 (r_6.Table.map enc_ref09_Point) 183 2 :: .row p_4 c_4 (r_4.1.map enc_ref09_Year) 179 5 :: .row p_5 c_5 (r_4.2.map enc_ref09_Truth) 180 2 :: .box b_3 [.slice p_1 r_1.Table.length c_1, .int .i64 r_1.Credit] 88 :: .box b_2 [.int .i64 start.Lo, .int .i64 start.Hi] 26 :: .box b_1 [.slice b__Table_p b_.Table.length b__Table_c, .int .i64 b_.Credit] 88 :: Lf) w) ?_ ?_
          · cases hb : r_18
            · rw [hb] at hf
              refine stS hf rfl rfl rfl fun a hf => ?_
              refine stS hf rfl rfl rfl fun a hf => ?_
              refine stS hf rfl rfl rfl fun a hf => ?_
              refine stP hf rfl rfl rfl (pPf rfl rfl) fun a hf => ?_
              exact cNil ⟨hf.keep ⟨rfl, rfl, rfl, rfl, rfl, rfl, rfl, rfl, rfl, rfl, rfl, rfl, rfl, rfl, rfl, trivial⟩, hc⟩
            · rw [hb] at hf
              refine stP hf rfl rfl rfl (pM rfl) fun a hf => ?_
              refine stP hf rfl rfl rfl (pM rfl) fun a hf => ?_
              refine stP hf rfl rfl rfl (pEq rfl rfl) fun a hf => ?_
              refine stP hf rfl rfl rfl (pPt rfl rfl) fun a hf => ?_
              exact cNil ⟨hf.keep ⟨rfl, rfl, rfl, rfl, rfl, rfl, rfl, rfl, rfl, rfl, rfl, rfl, rfl, rfl, rfl, trivial⟩, hc⟩
          intro a w ⟨hf, hc⟩
          refine stP hf rfl rfl rfl (pM rfl) fun a hf => ?_
          refine stCut 6 (fun a w => Has 156 a [(3, .slice l_p l.length l_c), (4, .slice truth_p truth.length truth_c), (5, .pointer (some ⟨b_1, 0, none⟩)), (11, .pointer (some ⟨b_3, 0, none⟩)), (12, .slice p_2 r_2.length c_2), (13, .slice p_3 r_3.length c_3), (17, .int .i64 r_15.2), (22, .slice p_14 r_15.1.length c_14), (23, .slice p_17 r_17.1.length c_17), (19, .int .i64 r_17.2), (121, .slice p_14 r_15.1.length c_14), (122, .slice p_17 r_17.1.length c_17), (123, .bool r_18), (124, .bool r_18), (128, .bool (r_18 && (r_15.2 == r_17.2))), (129, .bool (r_18 && (r_15.2 == r_17.2))), (135, .bool ((r_18 && (r_15.2 == r_17.2)) && (r_1.Credit == b_.Credit)))] ∧ Ctx G (.row p_17 c_17 (r_17.1.map enc_api_Span) 26 2 :: .row p_18 c_18 (r_16.Table.map enc_ref09_Point) 183 2 :: .row p_1 c_1 (r_1.Table.map enc_share_Point) 116 2 :: .row p_2 c_2 (r_2.map enc_share_Year) 94 5 :: .row p_14 c_14 (r_15.1.map enc_api_Span) 26 2 :: .row p_12 c_12 (r_13.1.map encI_i64) 3 1 :: .row p_13 c_13 (r_12.Table.map enc_ref09_Point) 183 2 :: .row p_3 c_3 (r_3.map enc_share_Truth) 97 2 :: .row p_9 c_9 (r_11.1.map encI_i64) 3 1 :: .row p_8 c_8 (r_9.Table.map enc_ref09_Point) 183 2 :: .row p_7 c_7 (r_6.Table.map enc_ref09_Point) 183 2 :: .row p_4 c_4 (r_4.1.map enc_ref09_Year) 179 5 :: .row p_5 c_5 (r_4.2.map enc_ref09_Truth) 180 2 :: .box b_3 [.slice p_1 r_1.Table.length c_1, .int .i64 r_1.Credit] 88 :: .box b_2 [.int .i64 start.Lo, .int .i64 start.Hi] 26 :: .box b_1 [.slice b__Table_p b_.Table.length b__Table_c, .int .i64 b_.Credit] 88 :: Lf) w) ?_ ?_
          · cases hb : (r_18 && (r_15.2 == r_17.2))
            · rw [hb] at hf
              refine stS hf rfl rfl rfl fun a hf => ?_
              refine stS hf rfl rfl rfl fun a hf => ?_
              refine stS hf rfl rfl rfl fun a hf => ?_
              refine stS hf rfl rfl rfl fun a hf => ?_
              refine stS hf rfl rfl rfl fun a hf => ?_
              refine stP hf rfl rfl rfl (pPf rfl rfl) fun a hf => ?_
              exact cNil ⟨hf.keep ⟨rfl, rfl, rfl, rfl, rfl, rfl, rfl, rfl, rfl, rfl, rfl, rfl, rfl, rfl, rfl, rfl, rfl, trivial⟩, hc⟩
            · rw [hb] at hf
              refine stP hf rfl rfl rfl (pFA fa_88_1 rfl) fun a hf => ?_
              refine stE hf hc rfl rfl rfl (eLd1 sc_3 rfl (cell_box m13 rfl)) fun a w hf hc => ?_
              refine stP hf rfl rfl rfl (pFA fa_88_1 rfl) fun a hf => ?_
              refine stE hf hc rfl rfl rfl (eLd1 sc_3 rfl (cell_box m15 rfl)) fun a w hf hc => ?_
              refine stP hf rfl rfl rfl (pEq rfl rfl) fun a hf => ?_
              refine stP hf rfl rfl rfl (pPt rfl rfl) fun a hf => ?_
              exact cNil ⟨hf.keep ⟨rfl, rfl, rfl, rfl, rfl, rfl, rfl, rfl, rfl, rfl, rfl, rfl, rfl, rfl, rfl, rfl, rfl, trivial⟩, hc⟩
          intro a w ⟨hf, hc⟩
          refine stP hf rfl rfl rfl (pM rfl) fun a hf => ?_
          obtain ⟨t_1, ht_1, hF⟩ := bnd_some hF
          refine stCut 6 (fun a w => Has 156 a [(3, .slice l_p l.length l_c), (4, .slice truth_p truth.length truth_c), (5, .pointer (some ⟨b_1, 0, none⟩)), (11, .pointer (some ⟨b_3, 0, none⟩)), (12, .slice p_2 r_2.length c_2), (13, .slice p_3 r_3.length c_3), (17, .int .i64 r_15.2), (22, .slice p_14 r_15.1.length c_14), (23, .slice p_17 r_17.1.length c_17), (19, .int .i64 r_17.2), (121, .slice p_14 r_15.1.length c_14), (122, .slice p_17 r_17.1.length c_17), (123, .bool r_18), (124, .bool r_18), (128, .bool (r_18 && (r_15.2 == r_17.2))), (129, .bool (r_18 && (r_15.2 == r_17.2))), (135, .bool ((r_18 && (r_15.2 == r_17.2)) && (r_1.Credit == b_.Credit))), (136, .bool ((r_18 && (r_15.2 == r_17.2)) && (r_1.Credit == b_.Credit))), (142, .bool t_1)] ∧ Ctx G (.row p_17 c_17 (r_17.1.map enc_api_Span) 26 2 :: .row p_18 c_18 (r_16.Table.map enc_ref09_Point) 183 2 :: .row p_1 c_1 (r_1.Table.map enc_share_Point) 116 2 :: .row p_2 c_2 (r_2.map enc_share_Year) 94 5 :: .row p_14 c_14 (r_15.1.map enc_api_Span) 26 2 :: .row p_12 c_12 (r_13.1.map encI_i64) 3 1 :: .row p_13 c_13 (r_12.Table.map enc_ref09_Point) 183 2 :: .row p_3 c_3 (r_3.map enc_share_Truth) 97 2 :: .row p_9 c_9 (r_11.1.map encI_i64) 3 1 :: .row p_8 c_8 (r_9.Table.map enc_ref09_Point) 183 2 :: .row p_7 c_7 (r_6.Table.map enc_ref09_Point) 183 2 :: .row p_4 c_4 (r_4.1.map enc_ref09_Year) 179 5 :: .row p_5 c_5 (r_4.2.map enc_ref09_Truth) 180 2 :: .box b_3 [.slice p_1 r_1.Table.length c_1, .int .i64 r_1.Credit] 88 :: .box b_2 [.int .i64 start.Lo, .int .i64 start.Hi] 26 :: .box b_1 [.slice b__Table_p b_.Table.length b__Table_c, .int .i64 b_.Credit] 88 :: Lf) w) ?_ ?_
          · cases hb : ((r_18 && (r_15.2 == r_17.2)) && (r_1.Credit == b_.Credit))
            · rw [hb] at hf
              have hF := condF hb ht_1
              obtain rfl := Option.some.inj hF
              refine stS hf rfl rfl rfl fun a hf => ?_
              refine stS hf rfl rfl rfl fun a hf => ?_
              refine stS hf rfl rfl rfl fun a hf => ?_
              refine stS hf rfl rfl rfl fun a hf => ?_
              refine stS hf rfl rfl rfl fun a hf => ?_
              refine stP hf rfl rfl rfl (pPf rfl rfl) fun a hf => ?_
              exact cNil ⟨hf.keep ⟨rfl, rfl, rfl, rfl, rfl, rfl, rfl, rfl, rfl, rfl, rfl, rfl, rfl, rfl, rfl, rfl, rfl, rfl, rfl, trivial⟩, hc⟩
            · rw [hb] at hf
              have hF := condT hb ht_1
              refine stP hf rfl rfl rfl (pFA fa_88_0 rfl) fun a hf => ?_
              refine stE hf hc rfl rfl rfl (eLd1 sc_86 rfl (cell_box m13 rfl)) fun a w hf hc => ?_
              refine stP hf rfl rfl rfl (pFA fa_88_0 rfl) fun a hf => ?_
              refine stE hf hc rfl rfl rfl (eLd1 sc_86 rfl (cell_box m15 rfl)) fun a w hf hc => ?_
              obtain ⟨r_19, hr_19, hF⟩ := bnd_some hF
              refine stE hf hc rfl rfl rfl (eC (v := .bool r_19) (vs := [.slice p_1 r_1.Table.length c_1, .slice b__Table_p b_.Table.length b__Table_c]) (caps := []) en_56 rfl rfl rfl rfl (fun w hc => by obtain ⟨G1, hle1, hrd1, hc, hth1⟩ := lend hc k2; exact (kit_Same_share_Point_ok r_1.Table b_.Table hrd1 (h_b__Table.mono hle1) hc hr_19).mono fun e w h => ⟨h.1, ((hth1 _ _ h.2).unpick k2)⟩)) fun a w hf hc => ?_
              refine stP hf rfl rfl rfl (pPt rfl rfl) fun a hf => ?_
              obtain rfl := Option.some.inj hF
              exact cNil ⟨hf.keep ⟨rfl, rfl, rfl, rfl, rfl, rfl, rfl, rfl, rfl, rfl, rfl, rfl, rfl, rfl, rfl, rfl, rfl, rfl, rfl, trivial⟩, hc⟩
          intro a w ⟨hf, hc⟩
          refine stP hf rfl rfl rfl (pM rfl) fun a hf => ?_
          obtain ⟨t_2, ht_2, hF⟩ := bnd_some hF
          refine stCut 4 (fun a w => Has 156 a [(3, .slice l_p l.length l_c), (4, .slice truth_p truth.length truth_c), (5, .pointer (some ⟨b_1, 0, none⟩)), (11, .pointer (some ⟨b_3, 0, none⟩)), (12, .slice p_2 r_2.length c_2), (13, .slice p_3 r_3.length c_3), (17, .int .i64 r_15.2), (22, .slice p_14 r_15.1.length c_14), (23, .slice p_17 r_17.1.length c_17), (19, .int .i64 r_17.2), (121, .slice p_14 r_15.1.length c_14), (122, .slice p_17 r_17.1.length c_17), (123, .bool r_18), (124, .bool r_18), (128, .bool (r_18 && (r_15.2 == r_17.2))), (129, .bool (r_18 && (r_15.2 == r_17.2))), (135, .bool ((r_18 && (r_15.2 == r_17.2)) && (r_1.Credit == b_.Credit))), (136, .bool ((r_18 && (r_15.2 == r_17.2)) && (r_1.Credit == b_.Credit))), (142, .bool t_1), (143, .bool t_1), (147, .bool t_2)] ∧ Ctx G (.row p_17 c_17 (r_17.1.map enc_api_Span) 26 2 :: .row p_18 c_18 (r_16.Table.map enc_ref09_Point) 183 2 :: .row p_1 c_1 (r_1.Table.map enc_share_Point) 116 2 :: .row p_2 c_2 (r_2.map enc_share_Year) 94 5 :: .row p_14 c_14 (r_15.1.map enc_api_Span) 26 2 :: .row p_12 c_12 (r_13.1.map encI_i64) 3 1 :: .row p_13 c_13 (r_12.Table.map enc_ref09_Point) 183 2 :: .row p_3 c_3 (r_3.map enc_share_Truth) 97 2 :: .row p_9 c_9 (r_11.1.map encI_i64) 3 1 :: .row p_8 c_8 (r_9.Table.map enc_ref09_Point) 183 2 :: .row p_7 c_7 (r_6.Table.map enc_ref09_Point) 183 2 :: .row p_4 c_4 (r_4.1.map enc_ref09_Year) 179 5 :: .row p_5 c_5 (r_4.2.map enc_ref09_Truth) 180 2 :: .box b_3 [.slice p_1 r_1.Table.length c_1, .int .i64 r_1.Credit] 88 :: .box b_2 [.int .i64 start.Lo, .int .i64 start.Hi] 26 :: .box b_1 [.slice b__Table_p b_.Table.length b__Table_c, .int .i64 b_.Credit] 88 :: Lf) w) ?_ ?_
          · cases hb : t_1
            · rw [hb] at hf
              have hF := condF hb ht_2
              obtain rfl := Option.some.inj hF
              refine stS hf rfl rfl rfl fun a hf => ?_
              refine stS hf rfl rfl rfl fun a hf => ?_
              refine stS hf rfl rfl rfl fun a hf => ?_
              refine stP hf rfl rfl rfl (pPf rfl rfl) fun a hf => ?_
              exact cNil ⟨hf.keep ⟨rfl, rfl, rfl, rfl, rfl, rfl, rfl, rfl, rfl, rfl, rfl, rfl, rfl, rfl, rfl, rfl, rfl, rfl, rfl, rfl, rfl, trivial⟩, hc⟩
            · rw [hb] at hf
              have hF := condT hb ht_2
              refine stP hf rfl rfl rfl (pM rfl) fun a hf => ?_
              refine stP hf rfl rfl rfl (pM rfl) fun a hf => ?_
              obtain ⟨r_20, hr_20, hF⟩ := bnd_some hF
              refine stE hf hc rfl rfl rfl (eC (v := .bool r_20) (vs := [.slice p_2 r_2.length c_2, .slice l_p l.length l_c]) (caps := []) en_57 rfl rfl rfl rfl (fun w hc => by obtain ⟨G1, hle1, hrd1, hc, hth1⟩ := lend hc k3; exact (kit_Same_share_Year_ok r_2 l hrd1 (h_l.mono hle1) hc hr_20).mono fun e w h => ⟨h.1, ((hth1 _ _ h.2).unpick k3)⟩)) fun a w hf hc => ?_
              refine stP hf rfl rfl rfl (pPt rfl rfl) fun a hf => ?_
              obtain rfl := Option.some.inj hF
              exact cNil ⟨hf.keep ⟨rfl, rfl, rfl, rfl, rfl, rfl, rfl, rfl, rfl, rfl, rfl, rfl, rfl, rfl, rfl, rfl, rfl, rfl, rfl, rfl, rfl, trivial⟩, hc⟩
          intro a w ⟨hf, hc⟩
          refine stP hf rfl rfl rfl (pM rfl) fun a hf => ?_
          obtain ⟨t_3, ht_3, hF⟩ := bnd_some hF
          refine stCut 4 (fun a w => Has 156 a [(3, .slice l_p l.length l_c), (4, .slice truth_p truth.length truth_c), (5, .pointer (some ⟨b_1, 0, none⟩)), (11, .pointer (some ⟨b_3, 0, none⟩)), (12, .slice p_2 r_2.length c_2), (13, .slice p_3 r_3.length c_3), (17, .int .i64 r_15.2), (22, .slice p_14 r_15.1.length c_14), (23, .slice p_17 r_17.1.length c_17), (19, .int .i64 r_17.2), (121, .slice p_14 r_15.1.length c_14), (122, .slice p_17 r_17.1.length c_17), (123, .bool r_18), (124, .bool r_18), (128, .bool (r_18 && (r_15.2 == r_17.2))), (129, .bool (r_18 && (r_15.2 == r_17.2))), (135, .bool ((r_18 && (r_15.2 == r_17.2)) && (r_1.Credit == b_.Credit))), (136, .bool ((r_18 && (r_15.2 == r_17.2)) && (r_1.Credit == b_.Credit))), (142, .bool t_1), (143, .bool t_1), (147, .bool t_2), (148, .bool t_2), (152, .bool t_3)] ∧ Ctx G (.row p_17 c_17 (r_17.1.map enc_api_Span) 26 2 :: .row p_18 c_18 (r_16.Table.map enc_ref09_Point) 183 2 :: .row p_1 c_1 (r_1.Table.map enc_share_Point) 116 2 :: .row p_2 c_2 (r_2.map enc_share_Year) 94 5 :: .row p_14 c_14 (r_15.1.map enc_api_Span) 26 2 :: .row p_12 c_12 (r_13.1.map encI_i64) 3 1 :: .row p_13 c_13 (r_12.Table.map enc_ref09_Point) 183 2 :: .row p_3 c_3 (r_3.map enc_share_Truth) 97 2 :: .row p_9 c_9 (r_11.1.map encI_i64) 3 1 :: .row p_8 c_8 (r_9.Table.map enc_ref09_Point) 183 2 :: .row p_7 c_7 (r_6.Table.map enc_ref09_Point) 183 2 :: .row p_4 c_4 (r_4.1.map enc_ref09_Year) 179 5 :: .row p_5 c_5 (r_4.2.map enc_ref09_Truth) 180 2 :: .box b_3 [.slice p_1 r_1.Table.length c_1, .int .i64 r_1.Credit] 88 :: .box b_2 [.int .i64 start.Lo, .int .i64 start.Hi] 26 :: .box b_1 [.slice b__Table_p b_.Table.length b__Table_c, .int .i64 b_.Credit] 88 :: Lf) w) ?_ ?_
          · cases hb : t_2
            · rw [hb] at hf
              have hF := condF hb ht_3
              obtain rfl := Option.some.inj hF
              refine stS hf rfl rfl rfl fun a hf => ?_
              refine stS hf rfl rfl rfl fun a hf => ?_
              refine stS hf rfl rfl rfl fun a hf => ?_
              refine stP hf rfl rfl rfl (pPf rfl rfl) fun a hf => ?_
              exact cNil ⟨hf.keep ⟨rfl, rfl, rfl, rfl, rfl, rfl, rfl, rfl, rfl, rfl, rfl, rfl, rfl, rfl, rfl, rfl, rfl, rfl, rfl, rfl, rfl, rfl, rfl, trivial⟩, hc⟩
            · rw [hb] at hf
              have hF := condT hb ht_3
              refine stP hf rfl rfl rfl (pM rfl) fun a hf => ?_
              refine stP hf rfl rfl rfl (pM rfl) fun a hf => ?_
              obtain ⟨r_21, hr_21, hF⟩ := bnd_some hF
              refine stE hf hc rfl rfl rfl (eC (v := .bool r_21) (vs := [.slice p_3 r_3.length c_3, .slice truth_p truth.length truth_c]) (caps := []) en_58 rfl rfl rfl rfl (fun w hc => by obtain ⟨G1, hle1, hrd1, hc, hth1⟩ := lend hc k7; exact (kit_Same_share_Truth_ok r_3 truth hrd1 (h_truth.mono hle1) hc hr_21).mono fun e w h => ⟨h.1, ((hth1 _ _ h.2).unpick k7)⟩)) fun a w hf hc => ?_
              refine stP hf rfl rfl rfl (pPt rfl rfl) fun a hf => ?_
              obtain rfl := Option.some.inj hF
              exact cNil ⟨hf.keep ⟨rfl, rfl, rfl, rfl, rfl, rfl, rfl, rfl, rfl, rfl, rfl, rfl, rfl, rfl, rfl, rfl, rfl, rfl, rfl, rfl, rfl, rfl, rfl, trivial⟩, hc⟩
          intro a w ⟨hf, hc⟩
          refine stP hf rfl rfl rfl (pM rfl) fun a hf => ?_
          obtain ⟨t_4, ht_4, hF⟩ := bnd_some hF
          refine stCut 2 (fun a w => Has 156 a [(3, .slice l_p l.length l_c), (4, .slice truth_p truth.length truth_c), (5, .pointer (some ⟨b_1, 0, none⟩)), (11, .pointer (some ⟨b_3, 0, none⟩)), (12, .slice p_2 r_2.length c_2), (13, .slice p_3 r_3.length c_3), (17, .int .i64 r_15.2), (22, .slice p_14 r_15.1.length c_14), (23, .slice p_17 r_17.1.length c_17), (19, .int .i64 r_17.2), (121, .slice p_14 r_15.1.length c_14), (122, .slice p_17 r_17.1.length c_17), (123, .bool r_18), (124, .bool r_18), (128, .bool (r_18 && (r_15.2 == r_17.2))), (129, .bool (r_18 && (r_15.2 == r_17.2))), (135, .bool ((r_18 && (r_15.2 == r_17.2)) && (r_1.Credit == b_.Credit))), (136, .bool ((r_18 && (r_15.2 == r_17.2)) && (r_1.Credit == b_.Credit))), (142, .bool t_1), (143, .bool t_1), (147, .bool t_2), (148, .bool t_2), (152, .bool t_3), (153, .bool t_3), (155, .bool t_4)] ∧ Ctx G (.row p_17 c_17 (r_17.1.map enc_api_Span) 26 2 :: .row p_18 c_18 (r_16.Table.map enc_ref09_Point) 183 2 :: .row p_1 c_1 (r_1.Table.map enc_share_Point) 116 2 :: .row p_2 c_2 (r_2.map enc_share_Year) 94 5 :: .row p_14 c_14 (r_15.1.map enc_api_Span) 26 2 :: .row p_12 c_12 (r_13.1.map encI_i64) 3 1 :: .row p_13 c_13 (r_12.Table.map enc_ref09_Point) 183 2 :: .row p_3 c_3 (r_3.map enc_share_Truth) 97 2 :: .row p_9 c_9 (r_11.1.map encI_i64) 3 1 :: .row p_8 c_8 (r_9.Table.map enc_ref09_Point) 183 2 :: .row p_7 c_7 (r_6.Table.map enc_ref09_Point) 183 2 :: .row p_4 c_4 (r_4.1.map enc_ref09_Year) 179 5 :: .row p_5 c_5 (r_4.2.map enc_ref09_Truth) 180 2 :: .box b_3 [.slice p_1 r_1.Table.length c_1, .int .i64 r_1.Credit] 88 :: .box b_2 [.int .i64 start.Lo, .int .i64 start.Hi] 26 :: .box b_1 [.slice b__Table_p b_.Table.length b__Table_c, .int .i64 b_.Credit] 88 :: Lf) w) ?_ ?_
          · cases hb : t_3
            · rw [hb] at hf
              have hF := condF hb ht_4
              obtain rfl := Option.some.inj hF
              refine stS hf rfl rfl rfl fun a hf => ?_
              refine stP hf rfl rfl rfl (pPf rfl rfl) fun a hf => ?_
              exact cNil ⟨hf.keep ⟨rfl, rfl, rfl, rfl, rfl, rfl, rfl, rfl, rfl, rfl, rfl, rfl, rfl, rfl, rfl, rfl, rfl, rfl, rfl, rfl, rfl, rfl, rfl, rfl, rfl, trivial⟩, hc⟩
            · rw [hb] at hf
              have hF := condT hb ht_4
              obtain ⟨r_22, hr_22, hF⟩ := bnd_some hF
              refine stE hf hc rfl rfl rfl (eC (v := .bool r_22) (vs := []) (caps := []) en_13 rfl rfl rfl rfl (fun w hc => law09_awake_ok hc hr_22)) fun a w hf hc => ?_
              refine stP hf rfl rfl rfl (pPt rfl rfl) fun a hf => ?_
              obtain rfl := Option.some.inj hF
              exact cNil ⟨hf.keep ⟨rfl, rfl, rfl, rfl, rfl, rfl, rfl, rfl, rfl, rfl, rfl, rfl, rfl, rfl, rfl, rfl, rfl, rfl, rfl, rfl, rfl, rfl, rfl, rfl, rfl, trivial⟩, hc⟩
          intro a w ⟨hf, hc⟩
          refine stP hf rfl rfl rfl (pA rfl) fun a hf => ?_
          refine cNil ?_
          refine h22 _ _ ?_
          refine wp_ret ?_
          obtain rfl := Option.some.inj hF
          replace hc := hc.drop k15
          replace hc := hc.drop k14
          replace hc := hc.drop k13
          replace hc := hc.drop k12
          replace hc := hc.drop k11
          replace hc := hc.drop k10
          replace hc := hc.drop k9
          replace hc := hc.drop k8
          replace hc := hc.drop k7
          replace hc := hc.drop k6
          replace hc := hc.drop k5
          replace hc := hc.drop k4
          replace hc := hc.drop k3
          replace hc := hc.drop k2
          replace hc := hc.drop k1
          replace hc := hc.drop k0
          exact fnOut1 (by simp) rfl Try.results8 hf hc (show look _ 10 = _ from rfl) ⟨rfl, hc⟩

end Go.Nilo
