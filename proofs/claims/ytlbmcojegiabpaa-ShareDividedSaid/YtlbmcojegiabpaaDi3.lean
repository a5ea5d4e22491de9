/-
  What functions of the Go text compute, as plain functions, and that they do, part 3 of 3. Conditions: what each theorem names.
-/
import Derived.Test.YtlbmcojegiabpaaDi2
import Derived.Test.YtlbmcojegiabpaaProg
set_option linter.unusedVariables false
set_option maxRecDepth 100000
set_option maxHeartbeats 4000000
namespace Go.Nilo
open Go.Proofs


def share_Payback_b12 (N : Nat) (p_ : share_Pact) (debt_0 : Int) (out : List Int) (x : Int) : Option (Step (Int × (List Int) × Int) ((List Int) × Int)) :=
  cond (decide (x < ((p_.Can.length : Nat) : Int)))
  (Option.bind (getI p_.Can x) fun e_1 =>
  cond (debt_0 == 0)
  (some (.brk (debt_0, out, x)))
  (Option.bind (nz p_.Part) fun un =>
  Option.bind (room ((out ++ [min (min debt_0 e_1) (max p_.Least (W ((W ((W (debt_0 + p_.Part)) - 1)).tdiv p_.Part)))])).length) fun un_1 =>
  some (.cont (W (debt_0 - (min (min debt_0 e_1) (max p_.Least (W ((W ((W (debt_0 + p_.Part)) - 1)).tdiv p_.Part))))), (out ++ [min (min debt_0 e_1) (max p_.Least (W ((W ((W (debt_0 + p_.Part)) - 1)).tdiv p_.Part)))]), W (x + 1)))))
  (some (.brk (debt_0, out, x)))
def share_Payback (N : Nat) (debt : Int) (p_ : share_Pact) : Option ((List Int) × Int) :=
  cond (!(share_water debt))
  (some (([] : List Int), 4))
  (cond (decide (40 < ((p_.Can.length : Nat) : Int)))
  (some (([] : List Int), 3))
  (Option.bind (cond ((!(share_in p_.Least 1 1000000000)) || (!(share_in p_.Part 1 100))) (some true) (Option.bind (share_every_int_s3 N p_.Can) fun r =>
  some (!r))) fun t_1 =>
  cond t_1
  (some (([] : List Int), 100))
  (Option.bind (loopO (fun s12 => share_Payback_b12 N p_ s12.1 s12.2.1 s12.2.2) N (debt, ([] : List Int), 0)) fun x12 =>
  exK x12 (fun s12 => cond (decide (0 < s12.1))
  (some (([] : List Int), 5))
  (some (s12.2.1, 0))) some)))
theorem share_Payback_ok {N : Nat} {G : Pers} {Lf : List Ent} {w : World} (debt : Int) (p_ : share_Pact) {p__Can_p : Option Addr} {p__Can_c : Nat} (h_p__Can : Rd G 1 p__Can_p p__Can_c (p_.Can.map encI_i64)) (hc : Ctx G (Lf) w) {res : (List Int) × Int} (hF : share_Payback N debt p_ = some res) : Calls Try.prog 30 #[.int .i64 debt, .agg #[.int .i64 p_.Least, .int .i64 p_.Part, .slice p__Can_p p_.Can.length p__Can_c]] w (fun e w => ∃ (p'1 : Option Addr) (c'1 : Nat), e = .returned (.tuple #[.slice p'1 res.1.length c'1, .int .i64 res.2]) ∧ Ctx G (.row p'1 c'1 (res.1.map encI_i64) 3 1 :: Lf) w) := by
  unfold share_Payback at hF
  refine fnIn (args := [.int .i64 debt, .agg #[.int .i64 p_.Least, .int .i64 p_.Part, .slice p__Can_p p_.Can.length p__Can_c]]) Try.func30 rfl Try.ntmps30 rfl fun a hf => ?_
  refine wp_seq_k fun K1 h1 => ?_
  refine cReg ?_
  refine stBx (cs := [.int .i64 p_.Least, .int .i64 p_.Part, .slice p__Can_p p_.Can.length p__Can_c]) hf hc rfl rfl rfl rfl fun b_1 a w hf hc => ?_
  refine stP hf rfl rfl rfl (pA rfl) fun a hf => ?_
  refine stP hf rfl rfl rfl (pA rfl) fun a hf => ?_
  refine cNil ?_
  refine h1 _ _ ?_
  refine wp_seq_k fun K2 h2 => ?_
  refine wp_block ?_
  refine wp_seq_k fun K3 h3 => ?_
  refine cReg ?_
  refine stP hf rfl rfl rfl (pM rfl) fun a hf => ?_
  refine stE hf hc rfl rfl rfl (eC (v := .bool (share_water debt)) (vs := [.int .i64 debt]) (caps := []) en_73 rfl rfl rfl rfl (fun w hc => share_water_ok debt hc rfl)) fun a w hf hc => ?_
  refine stP hf rfl rfl rfl (pNot rfl) fun a hf => ?_
  refine stP hf rfl rfl rfl (pA rfl) fun a hf => ?_
  refine cNil ?_
  refine h3 _ _ ?_
  refine cCond (b := (!(share_water debt))) hf rfl (fun hb => ?_) (fun hb => ?_)
  · replace hF := condT hb hF
    clear hb
    refine wp_seq_k fun K4 h4 => ?_
    refine cReg ?_
    refine stP hf rfl rfl rfl (pA rfl) fun a hf => ?_
    refine stP hf rfl rfl rfl (pA rfl) fun a hf => ?_
    refine cNil ?_
    refine h4 _ _ ?_
    refine wp_ret ?_
    refine xBlkR ?_
    refine xThenR ?_
    obtain rfl := Option.some.inj hF
    replace hc := hc.nilRow 3 1
    replace hc := hc.drop k1
    exact fnOut2 (by simp) rfl Try.results30 hf hc (show look _ 4 = _ from rfl) (show look _ 5 = _ from rfl) ⟨none, 0, rfl, hc⟩
  · replace hF := condF hb hF
    clear hb
    refine wp_seq_k fun K5 h5 => ?_
    refine cReg ?_
    refine stP hf rfl rfl rfl (pFA fa_59_2 rfl) fun a hf => ?_
    refine stE hf hc rfl rfl rfl (eLd1 sc_36 rfl (cell_box m0 rfl)) fun a w hf hc => ?_
    refine stP hf rfl rfl rfl (pLenS Try.underlying36 rfl) fun a hf => ?_
    refine stP hf rfl rfl rfl (pGt rfl rfl) fun a hf => ?_
    refine stP hf rfl rfl rfl (pA rfl) fun a hf => ?_
    refine cNil ?_
    refine h5 _ _ ?_
    refine cCond (b := (decide (40 < ((p_.Can.length : Nat) : Int)))) hf rfl (fun hb => ?_) (fun hb => ?_)
    · replace hF := condT hb hF
      clear hb
      refine wp_seq_k fun K6 h6 => ?_
      refine cReg ?_
      refine stP hf rfl rfl rfl (pA rfl) fun a hf => ?_
      refine stP hf rfl rfl rfl (pA rfl) fun a hf => ?_
      refine cNil ?_
      refine h6 _ _ ?_
      refine wp_ret ?_
      refine xBlkR ?_
      refine xThenR ?_
      obtain rfl := Option.some.inj hF
      replace hc := hc.nilRow 3 1
      replace hc := hc.drop k1
      exact fnOut2 (by simp) rfl Try.results30 hf hc (show look _ 4 = _ from rfl) (show look _ 5 = _ from rfl) ⟨none, 0, rfl, hc⟩
    · replace hF := condF hb hF
      clear hb
      refine wp_seq_k fun K7 h7 => ?_
      refine cReg ?_
      refine stP hf rfl rfl rfl (pFA fa_59_0 rfl) fun a hf => ?_
      refine stE hf hc rfl rfl rfl (eLd1 sc_3 rfl (cell_box m0 rfl)) fun a w hf hc => ?_
      refine stE hf hc rfl rfl rfl (eC (v := .bool (share_in p_.Least 1 1000000000)) (vs := [.int .i64 p_.Least, .int .i64 1, .int .i64 1000000000]) (caps := []) en_70 rfl rfl rfl rfl (fun w hc => share_in_ok p_.Least 1 1000000000 hc rfl)) fun a w hf hc => ?_
      refine stP hf rfl rfl rfl (pNot rfl) fun a hf => ?_
      refine stP hf rfl rfl rfl (pM rfl) fun a hf => ?_
      refine stCut 5 (fun a w => Has 70 a [(0, .int .i64 debt), (3, .pointer (some ⟨b_1, 0, none⟩)), (20, .pointer (some ⟨b_1, 0, none⟩)), (21, .int .i64 p_.Least), (22, .bool (share_in p_.Least 1 1000000000)), (23, .bool (!(share_in p_.Least 1 1000000000))), (24, .bool (!(share_in p_.Least 1 1000000000))), (29, .bool ((!(share_in p_.Least 1 1000000000)) || (!(share_in p_.Part 1 100))))] ∧ Ctx G (.box b_1 [.int .i64 p_.Least, .int .i64 p_.Part, .slice p__Can_p p_.Can.length p__Can_c] 59 :: Lf) w) ?_ ?_
      · cases hb : (!(share_in p_.Least 1 1000000000))
        · rw [hb] at hf
          refine stP hf rfl rfl rfl (pFA fa_59_1 rfl) fun a hf => ?_
          refine stE hf hc rfl rfl rfl (eLd1 sc_3 rfl (cell_box m0 rfl)) fun a w hf hc => ?_
          refine stE hf hc rfl rfl rfl (eC (v := .bool (share_in p_.Part 1 100)) (vs := [.int .i64 p_.Part, .int .i64 1, .int .i64 100]) (caps := []) en_70 rfl rfl rfl rfl (fun w hc => share_in_ok p_.Part 1 100 hc rfl)) fun a w hf hc => ?_
          refine stP hf rfl rfl rfl (pNot rfl) fun a hf => ?_
          refine stP hf rfl rfl rfl (pPf rfl rfl) fun a hf => ?_
          exact cNil ⟨hf.keep ⟨rfl, rfl, rfl, rfl, rfl, rfl, rfl, rfl, trivial⟩, hc⟩
        · rw [hb] at hf
          refine stS hf rfl rfl rfl fun a hf => ?_
          refine stS hf rfl rfl rfl fun a hf => ?_
          refine stS hf rfl rfl rfl fun a hf => ?_
          refine stS hf rfl rfl rfl fun a hf => ?_
          refine stP hf rfl rfl rfl (pPt rfl rfl) fun a hf => ?_
          exact cNil ⟨hf.keep ⟨rfl, rfl, rfl, rfl, rfl, rfl, rfl, rfl, trivial⟩, hc⟩
      intro a w ⟨hf, hc⟩
      refine stP hf rfl rfl rfl (pM rfl) fun a hf => ?_
      obtain ⟨t_1, ht_1, hF⟩ := bnd_some hF
      refine stCut 5 (fun a w => Has 70 a [(0, .int .i64 debt), (3, .pointer (some ⟨b_1, 0, none⟩)), (20, .pointer (some ⟨b_1, 0, none⟩)), (21, .int .i64 p_.Least), (22, .bool (share_in p_.Least 1 1000000000)), (23, .bool (!(share_in p_.Least 1 1000000000))), (24, .bool (!(share_in p_.Least 1 1000000000))), (29, .bool ((!(share_in p_.Least 1 1000000000)) || (!(share_in p_.Part 1 100)))), (30, .bool ((!(share_in p_.Least 1 1000000000)) || (!(share_in p_.Part 1 100)))), (35, .bool t_1)] ∧ Ctx G (.box b_1 [.int .i64 p_.Least, .int .i64 p_.Part, .slice p__Can_p p_.Can.length p__Can_c] 59 :: Lf) w) ?_ ?_
      · cases hb : ((!(share_in p_.Least 1 1000000000)) || (!(share_in p_.Part 1 100)))
        · rw [hb] at hf
          have hF := condF hb ht_1
          refine stP hf rfl rfl rfl (pFA fa_59_2 rfl) fun a hf => ?_
          refine stE hf hc rfl rfl rfl (eLd1 sc_36 rfl (cell_box m0 rfl)) fun a w hf hc => ?_
          obtain ⟨r, hr, hF⟩ := bnd_some hF
          refine stE hf hc rfl rfl rfl (eC (v := .bool r) (vs := [.slice p__Can_p p_.Can.length p__Can_c, .func (.func 73) #[] #[]]) (caps := []) en_80 rfl rfl rfl rfl (fun w hc => share_every_int_s3_ok p_.Can h_p__Can hc hr)) fun a w hf hc => ?_
          refine stP hf rfl rfl rfl (pNot rfl) fun a hf => ?_
          refine stP hf rfl rfl rfl (pPf rfl rfl) fun a hf => ?_
          obtain rfl := Option.some.inj hF
          exact cNil ⟨hf.keep ⟨rfl, rfl, rfl, rfl, rfl, rfl, rfl, rfl, rfl, rfl, trivial⟩, hc⟩
        · rw [hb] at hf
          have hF := condT hb ht_1
          obtain rfl := Option.some.inj hF
          refine stS hf rfl rfl rfl fun a hf => ?_
          refine stS hf rfl rfl rfl fun a hf => ?_
          refine stS hf rfl rfl rfl fun a hf => ?_
          refine stS hf rfl rfl rfl fun a hf => ?_
          refine stP hf rfl rfl rfl (pPt rfl rfl) fun a hf => ?_
          exact cNil ⟨hf.keep ⟨rfl, rfl, rfl, rfl, rfl, rfl, rfl, rfl, rfl, rfl, trivial⟩, hc⟩
      intro a w ⟨hf, hc⟩
      refine stP hf rfl rfl rfl (pA rfl) fun a hf => ?_
      refine cNil ?_
      refine h7 _ _ ?_
      refine cCond (b := t_1) hf rfl (fun hb => ?_) (fun hb => ?_)
      · replace hF := condT hb hF
        clear hb
        refine wp_seq_k fun K8 h8 => ?_
        refine cReg ?_
        refine stP hf rfl rfl rfl (pA rfl) fun a hf => ?_
        refine stP hf rfl rfl rfl (pA rfl) fun a hf => ?_
        refine cNil ?_
        refine h8 _ _ ?_
        refine wp_ret ?_
        refine xBlkR ?_
        refine xThenR ?_
        obtain rfl := Option.some.inj hF
        replace hc := hc.nilRow 3 1
        replace hc := hc.drop k1
        exact fnOut2 (by simp) rfl Try.results30 hf hc (show look _ 4 = _ from rfl) (show look _ 5 = _ from rfl) ⟨none, 0, rfl, hc⟩
      · replace hF := condF hb hF
        clear hb
        refine wp_skip ?_
        refine h2 _ _ ?_
        refine wp_seq_k fun K9 h9 => ?_
        refine cReg ?_
        refine stP hf rfl rfl rfl (pA rfl) fun a hf => ?_
        refine cNil ?_
        refine h9 _ _ ?_
        refine wp_seq_k fun K10 h10 => ?_
        refine wp_seq_k fun K11 h11 => ?_
        refine cReg ?_
        refine stP hf rfl rfl rfl (pFA fa_59_2 rfl) fun a hf => ?_
        refine stE hf hc rfl rfl rfl (eLd1 sc_36 rfl (cell_box m0 rfl)) fun a w hf hc => ?_
        refine stP hf rfl rfl rfl (pLenS Try.underlying36 rfl) fun a hf => ?_
        refine stP hf rfl rfl rfl (pM rfl) fun a hf => ?_
        refine cNil ?_
        refine h11 _ _ ?_
        refine wp_block ?_
        obtain ⟨x12, hx12, hF⟩ := bnd_some hF
        let S12 : (Int × (List Int) × Int) → Act → World → Prop := (fun (zz : Int × (List Int) × Int) a w => ∃ (p_1 : Option Addr) (c_1 : Nat), Has 70 a [(0, .int .i64 zz.1), (3, .pointer (some ⟨b_1, 0, none⟩)), (6, .slice p_1 zz.2.1.length c_1), (37, .slice p__Can_p p_.Can.length p__Can_c), (38, .int .i64 ((p_.Can.length : Nat) : Int)), (39, .int .i64 zz.2.2)] ∧ Ctx G (.row p_1 c_1 (zz.2.1.map encI_i64) 3 1 :: .box b_1 [.int .i64 p_.Least, .int .i64 p_.Part, .slice p__Can_p p_.Can.length p__Can_c] 59 :: Lf) w)
        have hr12 : ∀ (zz : Int × (List Int) × Int) a w, x12 = .go zz → S12 zz a w → K10 a w := by
          rintro ⟨debt_0, out, x⟩ a w rfl ⟨p_1, c_1, hf, hc⟩
          replace hF : _ = some res := hF
          refine h10 _ _ ?_
          refine wp_seq_k fun K13 h13 => ?_
          refine wp_seq_k fun K14 h14 => ?_
          refine cReg ?_
          refine stP hf rfl rfl rfl (pM rfl) fun a hf => ?_
          refine stP hf rfl rfl rfl (pGt rfl rfl) fun a hf => ?_
          refine cNil ?_
          refine h14 _ _ ?_
          refine cCond (b := (decide (0 < debt_0))) hf rfl (fun hb => ?_) (fun hb => ?_)
          · replace hF := condT hb hF
            clear hb
            refine wp_seq_k fun K15 h15 => ?_
            refine cReg ?_
            refine stP hf rfl rfl rfl (pA rfl) fun a hf => ?_
            refine stP hf rfl rfl rfl (pA rfl) fun a hf => ?_
            refine cNil ?_
            refine h15 _ _ ?_
            refine wp_ret ?_
            refine xThenR ?_
            obtain rfl := Option.some.inj hF
            replace hc := hc.nilRow 3 1
            replace hc := hc.drop k2
            replace hc := hc.drop k1
            exact fnOut2 (by simp) rfl Try.results30 hf hc (show look _ 4 = _ from rfl) (show look _ 5 = _ from rfl) ⟨none, 0, rfl, hc⟩
          · replace hF := condF hb hF
            clear hb
            refine wp_skip ?_
            refine h13 _ _ ?_
            refine wp_seq_k fun K16 h16 => ?_
            refine cReg ?_
            refine stP hf rfl rfl rfl (pM rfl) fun a hf => ?_
            refine stP hf rfl rfl rfl (pA rfl) fun a hf => ?_
            refine stP hf rfl rfl rfl (pA rfl) fun a hf => ?_
            refine cNil ?_
            refine h16 _ _ ?_
            refine wp_ret ?_
            obtain rfl := Option.some.inj hF
            replace hc := hc.drop k1
            exact fnOut2 (by simp) rfl Try.results30 hf hc (show look _ 4 = _ from rfl) (show look _ 5 = _ from rfl) ⟨p_1, c_1, rfl, hc⟩
        have ho12 : ∀ r, x12 = .out r → r = res := by
          rintro r rfl
          exact Option.some.inj hF
        replace hc := hc.nilRow 3 1
        refine cLoop N (loopW (S := S12) (x := x12) ?_ N (debt, ([] : List Int), 0) _ _ ⟨none, 0, hf.keep ⟨rfl, rfl, rfl, rfl, rfl, rfl, trivial⟩, hc⟩ hx12)
        clear hF hf hc
        rintro ⟨debt_0, out, x⟩ st12 a w KB12 ⟨p_1, c_1, hf, hc⟩ hF hfin12 hK12
        unfold share_Payback_b12 at hF
        refine wp_seq_k fun K17 h17 => ?_
        refine cReg ?_
        refine stP hf rfl rfl rfl (pLt rfl rfl) fun a hf => ?_
        refine cNil ?_
        refine h17 _ _ ?_
        refine wp_seq_k fun K18 h18 => ?_
        refine cCond (b := (decide (x < ((p_.Can.length : Nat) : Int)))) hf rfl (fun hb => ?_) (fun hb => ?_)
        · replace hF := condT hb hF
          clear hb
          refine wp_skip ?_
          refine h18 _ _ ?_
          refine wp_seq_k fun K19 h19 => ?_
          refine wp_block ?_
          refine wp_seq_k fun K20 h20 => ?_
          refine cReg ?_
          obtain ⟨e_1, he_1, hF⟩ := bnd_some hF
          obtain ⟨b_2, o, qa, qp⟩ := h_p__Can.atm he_1
          refine stP hf rfl rfl rfl (pIA Try.underlying36 sz_3 rfl rfl qa) fun a hf => ?_
          refine stE hf hc rfl rfl rfl (eLd1 sc_3 rfl (cell_pc (j := 0) qp rfl)) fun a w hf hc => ?_
          refine stP hf rfl rfl rfl (pA rfl) fun a hf => ?_
          refine cNil ?_
          refine h20 _ _ ?_
          refine wp_seq_k fun K21 h21 => ?_
          refine wp_seq_k fun K22 h22 => ?_
          refine cReg ?_
          refine stP hf rfl rfl rfl (pM rfl) fun a hf => ?_
          refine stP hf rfl rfl rfl (pEq rfl rfl) fun a hf => ?_
          refine cNil ?_
          refine h22 _ _ ?_
          refine cCond (b := (debt_0 == 0)) hf rfl (fun hb => ?_) (fun hb => ?_)
          · replace hF := condT hb hF
            clear hb
            refine wp_exit ?_
            refine xThen ?_
            refine cMiss rfl ?_
            refine xThen ?_
            refine xThen ?_
            have he := Option.some.inj hF
            rw [← he] at hfin12
            refine cHit ?_
            exact hr12 _ _ _ hfin12 ⟨p_1, c_1, hf.keep ⟨rfl, rfl, rfl, rfl, rfl, rfl, trivial⟩, hc⟩
          · replace hF := condF hb hF
            clear hb
            refine wp_skip ?_
            refine h21 _ _ ?_
            refine wp_seq_k fun K23 h23 => ?_
            obtain ⟨un, hun, hF⟩ := bnd_some hF
            refine cQ hc follows_mx (by kernel_rfl) ?_
            refine qE hf rfl rfl rfl (Pu.ev (pM rfl)) fun a hf => ?_
            refine qE hf rfl rfl rfl (Pu.ev (pM rfl)) fun a hf => ?_
            refine qE hf rfl rfl rfl (Pu.ev (pFA fa_59_0 rfl)) fun a hf => ?_
            refine qE hf rfl rfl rfl (eLd1 sc_3 rfl (cell_box m1 rfl)) fun a hf => ?_
            refine qE hf rfl rfl rfl (Pu.ev (pM rfl)) fun a hf => ?_
            refine qE hf rfl rfl rfl (Pu.ev (pFA fa_59_1 rfl)) fun a hf => ?_
            refine qE hf rfl rfl rfl (eLd1 sc_3 rfl (cell_box m1 rfl)) fun a hf => ?_
            refine qE hf rfl rfl rfl (Pu.ev (pAdd rfl rfl)) fun a hf => ?_
            refine qE hf rfl rfl rfl (Pu.ev (pSub rfl rfl)) fun a hf => ?_
            refine qE hf rfl rfl rfl (Pu.ev (pFA fa_59_1 rfl)) fun a hf => ?_
            refine qE hf rfl rfl rfl (eLd1 sc_3 rfl (cell_box m1 rfl)) fun a hf => ?_
            refine qE hf rfl rfl rfl (Pu.ev (pQuo rfl rfl (nz_spec hun))) fun a hf => ?_
            refine qE hf rfl rfl rfl (Pu.ev (pMax2 rfl rfl)) fun a hf => ?_
            refine qE hf rfl rfl rfl (Pu.ev (pMin3 rfl rfl rfl)) fun a hf => ?_
            refine qE hf rfl rfl rfl (Pu.ev (pA rfl)) fun a hf => ?_
            intro w hc
            refine h23 _ _ ?_
            refine wp_seq_k fun K24 h24 => ?_
            refine cReg ?_
            refine stP hf rfl rfl rfl (pM rfl) fun a hf => ?_
            refine stP hf rfl rfl rfl (pM rfl) fun a hf => ?_
            refine stBS (rows := ([min (min debt_0 e_1) (max p_.Least (W ((W ((W (debt_0 + p_.Part)) - 1)).tdiv p_.Part)))] : List Int).map encI_i64) (vs := [(0, .int .i64 (min (min debt_0 e_1) (max p_.Least (W ((W ((W (debt_0 + p_.Part)) - 1)).tdiv p_.Part)))))]) hf hc rfl rfl sl_36 rfl ⟨rfl, rfl, rfl, trivial⟩ rfl rfl fun b_3 a w hf hc => ?_
            obtain ⟨un_1, hun_1, hF⟩ := bnd_some hF
            refine stApm (xs := out) (ys := ([min (min debt_0 e_1) (max p_.Least (W ((W ((W (debt_0 + p_.Part)) - 1)).tdiv p_.Part)))] : List Int)) hf hc rfl rfl sl_36 rfl rfl rfl rfl rfl one_encI_i64 (src_row hc m0) (fun _ _ => u1) (by simpa using room_spec hun_1) fun p_2 c_2 a w hf hc => ?_
            refine stP hf rfl rfl rfl (pA rfl) fun a hf => ?_
            refine cNil ?_
            refine h24 _ _ ?_
            refine cReg ?_
            refine stP hf rfl rfl rfl (pM rfl) fun a hf => ?_
            refine stP hf rfl rfl rfl (pM rfl) fun a hf => ?_
            refine stP hf rfl rfl rfl (pSub rfl rfl) fun a hf => ?_
            refine stP hf rfl rfl rfl (pA rfl) fun a hf => ?_
            refine cNil ?_
            refine h19 _ _ ?_
            refine cReg ?_
            refine stP hf rfl rfl rfl (pAdd rfl rfl) fun a hf => ?_
            refine stP hf rfl rfl rfl (pM rfl) fun a hf => ?_
            refine cNil ?_
            replace hc := hc.drop k0
            exact hK12 (W (debt_0 - (min (min debt_0 e_1) (max p_.Least (W ((W ((W (debt_0 + p_.Part)) - 1)).tdiv p_.Part))))), (out ++ [min (min debt_0 e_1) (max p_.Least (W ((W ((W (debt_0 + p_.Part)) - 1)).tdiv p_.Part)))]), W (x + 1)) _ _ (Option.some.inj hF).symm ⟨p_2, c_2, hf.keep ⟨rfl, rfl, rfl, rfl, rfl, rfl, trivial⟩, hc⟩
        · replace hF := condF hb hF
          clear hb
          refine wp_exit ?_
          refine xThen ?_
          refine xThen ?_
          have he := Option.some.inj hF
          rw [← he] at hfin12
          refine cHit ?_
          exact hr12 _ _ _ hfin12 ⟨p_1, c_1, hf.keep ⟨rfl, rfl, rfl, rfl, rfl, rfl, trivial⟩, hc⟩

def law09_awake (N : Nat)  : Option (Bool) :=
  Option.bind (law09_Two N) fun r =>
  Option.bind (share_Real N r 120) fun r_1 =>
  Option.bind (law09_Two N) fun r_2 =>
  Option.bind (law09_span N 90 185) fun r_3 =>
  Option.bind (share_Shares N r_2 r_3) fun r_4 =>
  Option.bind (law09_Two N) fun r_5 =>
  Option.bind (share_Short N r_5 120) fun r_6 =>
  Option.bind (law09_Line N) fun r_7 =>
  Option.bind (share_Debts N r_7.1 (⟨0, 0⟩ : api_Span) r_7.2) fun r_8 =>
  Option.bind (cond ((((r_1.2 != 0) || (r_4.2 != 0)) || (r_6.2 != 0)) || (r_8.2 != 0)) (some true) (Option.bind (kit_Same_int N r_1.1 ([95, 18] : List Int)) fun r_9 =>
  some (!r_9))) fun t_1 =>
  Option.bind (cond t_1 (some true) (Option.bind (kit_Same_api_Span N r_4.1 ([(⟨85, 120⟩ : api_Span), (⟨0, 54⟩ : api_Span)] : List api_Span)) fun r_10 =>
  some (!r_10))) fun t_2 =>
  Option.bind (cond (t_2 || (r_6.1 != 1)) (some true) (Option.bind (kit_Same_api_Span N r_8.1 ([(⟨(-2), 8⟩ : api_Span), (⟨(-15), (-12)⟩ : api_Span), (⟨0, 0⟩ : api_Span)] : List api_Span)) fun r_11 =>
  some (!r_11))) fun t_3 =>
  cond t_3
  (some false)
  (Option.bind (share_Payback N 100 (⟨15, 4, ([20, 30, 30, 40, 40, 40] : List Int)⟩ : share_Pact)) fun r_12 =>
  Option.bind (share_Turns N ([60, 30, 10] : List Int) 9 0) fun r_13 =>
  Option.bind (share_Turns N ([60, 30, 10] : List Int) 9 1) fun r_14 =>
  Option.bind (share_Divisors N ([60, 30, 10] : List Int) ([6, 3, 0] : List Int) 0) fun r_15 =>
  Option.bind (share_Unfair N ([60, 30, 10] : List Int) ([7, 2, 0] : List Int) 0) fun r_16 =>
  Option.bind (cond (((((r_12.2 == 0) && (r_13.2 == 0)) && (r_14.2 == 0)) && (r_15.2.2 == 0)) && (r_16.2.2 == 0)) (Option.bind (kit_Same_int N r_12.1 ([20, 20, 15, 15, 15, 15] : List Int)) fun r_17 =>
  some r_17) (some false)) fun t_4 =>
  Option.bind (cond t_4 (Option.bind (kit_Same_int N r_13.1 ([6, 3, 0] : List Int)) fun r_18 =>
  some r_18) (some false)) fun t_5 =>
  Option.bind (cond t_5 (Option.bind (kit_Same_int N r_14.1 ([5, 3, 1] : List Int)) fun r_19 =>
  some r_19) (some false)) fun t_6 =>
  some ((((t_6 && (r_15.1.N == 10 && r_15.1.D == 1)) && (r_15.2.1.N == r_15.1.N && r_15.2.1.D == r_15.1.D)) && (r_16.1 == 0)) && (r_16.2.1 == 1)))
theorem law09_awake_ok {N : Nat} {G : Pers} {Lf : List Ent} {w : World}    (hc : Ctx G (Lf) w) {res : Bool} (hF : law09_awake N = some res) : Calls Try.prog 13 #[] w (fun e w => e = .returned (.bool res) ∧ Ctx G (Lf) w) := by
  unfold law09_awake at hF
  refine fnIn (args := []) Try.func13 rfl Try.ntmps13 rfl fun a hf => ?_
  refine wp_seq_k fun K1 h1 => ?_
  refine cReg ?_
  refine stP hf rfl rfl rfl (pA rfl) fun a hf => ?_
  refine cNil ?_
  refine h1 _ _ ?_
  refine wp_seq_k fun K2 h2 => ?_
  refine cReg ?_
  obtain ⟨r, hr, hF⟩ := bnd_some hF
  refine stC (vs := []) (caps := []) hf rfl rfl rfl en_67 rfl rfl rfl rfl (law09_Two_ok hc hr) ?_
  rintro _ w ⟨p_1, c_1, rfl, hc⟩
  refine ⟨_, rfl, fun a hf => ?_⟩
  obtain ⟨r_1, hr_1, hF⟩ := bnd_some hF
  obtain ⟨G1, hle1, hrd1, hc, hth1⟩ := lend hc k0
  refine stC (vs := [.agg #[.int .i64 r.States, .slice p_1 r.Rights.length c_1], .int .i64 120]) (caps := []) hf rfl rfl rfl en_18 rfl rfl rfl rfl (share_Real_ok r 120 hrd1 hc hr_1) ?_
  rintro _ w ⟨p_2, c_2, rfl, hc⟩
  refine ⟨_, rfl, fun a hf => ?_⟩
  replace hc := hth1 _ _ hc
  refine stP hf rfl rfl rfl (pM rfl) fun a hf => ?_
  refine stP hf rfl rfl rfl (pX rfl rfl) fun a hf => ?_
  refine stP hf rfl rfl rfl (pX rfl rfl) fun a hf => ?_
  refine stP hf rfl rfl rfl (pA rfl) fun a hf => ?_
  refine stP hf rfl rfl rfl (pA rfl) fun a hf => ?_
  refine cNil ?_
  refine h2 _ _ ?_
  refine wp_seq_k fun K3 h3 => ?_
  refine cReg ?_
  obtain ⟨r_2, hr_2, hF⟩ := bnd_some hF
  refine stC (vs := []) (caps := []) hf rfl rfl rfl en_67 rfl rfl rfl rfl (law09_Two_ok hc hr_2) ?_
  rintro _ w ⟨p_3, c_3, rfl, hc⟩
  refine ⟨_, rfl, fun a hf => ?_⟩
  obtain ⟨r_3, hr_3, hF⟩ := bnd_some hF
  refine stE hf hc rfl rfl rfl (eC (v := .agg #[.int .i64 r_3.Lo, .int .i64 r_3.Hi]) (vs := [.int .i64 90, .int .i64 185]) (caps := []) en_60 rfl rfl rfl rfl (fun w hc => law09_span_ok 90 185 hc hr_3)) fun a w hf hc => ?_
  obtain ⟨r_4, hr_4, hF⟩ := bnd_some hF
  obtain ⟨G1, hle1, hrd1, hc, hth1⟩ := lend hc k0
  refine stC (vs := [.agg #[.int .i64 r_2.States, .slice p_3 r_2.Rights.length c_3], .agg #[.int .i64 r_3.Lo, .int .i64 r_3.Hi]]) (caps := []) hf rfl rfl rfl en_21 rfl rfl rfl rfl (share_Shares_ok r_2 r_3 hrd1 hc hr_4) ?_
  rintro _ w ⟨p_4, c_4, rfl, hc⟩
  refine ⟨_, rfl, fun a hf => ?_⟩
  replace hc := hth1 _ _ hc
  refine stP hf rfl rfl rfl (pM rfl) fun a hf => ?_
  refine stP hf rfl rfl rfl (pX rfl rfl) fun a hf => ?_
  refine stP hf rfl rfl rfl (pX rfl rfl) fun a hf => ?_
  refine stP hf rfl rfl rfl (pA rfl) fun a hf => ?_
  refine stP hf rfl rfl rfl (pA rfl) fun a hf => ?_
  refine cNil ?_
  refine h3 _ _ ?_
  refine wp_seq_k fun K4 h4 => ?_
  refine cReg ?_
  obtain ⟨r_5, hr_5, hF⟩ := bnd_some hF
  refine stC (vs := []) (caps := []) hf rfl rfl rfl en_67 rfl rfl rfl rfl (law09_Two_ok hc hr_5) ?_
  rintro _ w ⟨p_5, c_5, rfl, hc⟩
  refine ⟨_, rfl, fun a hf => ?_⟩
  obtain ⟨r_6, hr_6, hF⟩ := bnd_some hF
  refine stE hf hc rfl rfl rfl (eC (v := .tuple #[.int .i64 r_6.1, .int .i64 r_6.2]) (vs := [.agg #[.int .i64 r_5.States, .slice p_5 r_5.Rights.length c_5], .int .i64 120]) (caps := []) en_24 rfl rfl rfl rfl (fun w hc => by obtain ⟨G1, hle1, hrd1, hc, hth1⟩ := lend hc k0; exact (share_Short_ok r_5 120 hrd1 hc hr_6).mono fun e w h => ⟨h.1, ((hth1 _ _ h.2).unpick k0)⟩)) fun a w hf hc => ?_
  refine stP hf rfl rfl rfl (pM rfl) fun a hf => ?_
  refine stP hf rfl rfl rfl (pX rfl rfl) fun a hf => ?_
  refine stP hf rfl rfl rfl (pX rfl rfl) fun a hf => ?_
  refine stP hf rfl rfl rfl (pA rfl) fun a hf => ?_
  refine stP hf rfl rfl rfl (pA rfl) fun a hf => ?_
  refine cNil ?_
  refine h4 _ _ ?_
  refine wp_seq_k fun K5 h5 => ?_
  refine cReg ?_
  obtain ⟨r_7, hr_7, hF⟩ := bnd_some hF
  refine stC (vs := []) (caps := []) hf rfl rfl rfl en_68 rfl rfl rfl rfl (law09_Line_ok hc hr_7) ?_
  rintro _ w ⟨p_6, c_6, p_7, c_7, rfl, hc⟩
  refine ⟨_, rfl, fun a hf => ?_⟩
  refine stP hf rfl rfl rfl (pM rfl) fun a hf => ?_
  refine stP hf rfl rfl rfl (pX rfl rfl) fun a hf => ?_
  refine stP hf rfl rfl rfl (pX rfl rfl) fun a hf => ?_
  refine stAl (cs := [.slice none 0 0, .int .i64 0]) hf hc rfl rfl zr_88 rfl fun b_1 a w hf hc => ?_
  refine stSt (vs := [.slice p_6 r_7.1.Table.length c_6, .int .i64 r_7.1.Credit]) hf hc rfl rfl rfl rfl sz_88 rfl rfl u0 fun w hc => ?_
  refine stP hf rfl rfl rfl (pA rfl) fun a hf => ?_
  refine cNil ?_
  refine h5 _ _ ?_
  refine wp_seq_k fun K6 h6 => ?_
  refine cReg ?_
  refine stE hf hc rfl rfl rfl (eLdN (vs := [.slice p_6 r_7.1.Table.length c_6, .int .i64 r_7.1.Credit]) ag_88 rfl rfl (cells_box (n := 2) m0 rfl)) fun a w hf hc => ?_
  refine stP hf rfl rfl rfl (pBuildS (cells := [.int .i64 0, .int .i64 0]) bt_26 rfl rfl) fun a hf => ?_
  refine stP hf rfl rfl rfl (pM rfl) fun a hf => ?_
  obtain ⟨r_8, hr_8, hF⟩ := bnd_some hF
  obtain ⟨G1, hle1, hrd1, hc, hth1⟩ := lend hc k1
  obtain ⟨G2, hle2, hrd2, hc, hth2⟩ := lend hc k1
  refine stC (vs := [.agg #[.slice p_6 r_7.1.Table.length c_6, .int .i64 r_7.1.Credit], .agg #[.int .i64 0, .int .i64 0], .slice p_7 r_7.2.length c_7]) (caps := []) hf rfl rfl rfl en_54 rfl rfl rfl rfl (share_Debts_ok r_7.1 (⟨0, 0⟩ : api_Span) r_7.2 (hrd1.mono hle2) hrd2 hc hr_8) ?_
  rintro _ w ⟨p_8, c_8, rfl, hc⟩
  refine ⟨_, rfl, fun a hf => ?_⟩
  replace hc := hth2 _ _ hc
  replace hc := hth1 _ _ hc
  refine stP hf rfl rfl rfl (pM rfl) fun a hf => ?_
  refine stP hf rfl rfl rfl (pX rfl rfl) fun a hf => ?_
  refine stP hf rfl rfl rfl (pX rfl rfl) fun a hf => ?_
  refine stP hf rfl rfl rfl (pA rfl) fun a hf => ?_
  refine stP hf rfl rfl rfl (pA rfl) fun a hf => ?_
  refine cNil ?_
  refine h6 _ _ ?_
  refine wp_seq_k fun K7 h7 => ?_
  refine wp_seq_k fun K8 h8 => ?_
  refine cReg ?_
  refine stP hf rfl rfl rfl (pM rfl) fun a hf => ?_
  refine stP hf rfl rfl rfl (pNe rfl rfl) fun a hf => ?_
  refine stP hf rfl rfl rfl (pM rfl) fun a hf => ?_
  refine stCut 3 (fun a w => Has 168 a [(1, .slice p_2 r_1.1.length c_2), (2, .int .i64 r_1.2), (3, .slice p_4 r_4.1.length c_4), (4, .int .i64 r_4.2), (5, .int .i64 r_6.1), (6, .int .i64 r_6.2), (9, .slice p_8 r_8.1.length c_8), (10, .int .i64 r_8.2), (46, .int .i64 r_1.2), (47, .bool (r_1.2 != 0)), (48, .bool (r_1.2 != 0)), (51, .bool ((r_1.2 != 0) || (r_4.2 != 0)))] ∧ Ctx G (.row p_6 c_6 (r_7.1.Table.map enc_share_Point) 116 2 :: .row p_7 c_7 (r_7.2.map enc_share_Year) 94 5 :: .row p_8 c_8 (r_8.1.map enc_api_Span) 26 2 :: .box b_1 [.slice p_6 r_7.1.Table.length c_6, .int .i64 r_7.1.Credit] 88 :: .row p_5 c_5 (r_5.Rights.map enc_share_Right) 51 3 :: .row p_3 c_3 (r_2.Rights.map enc_share_Right) 51 3 :: .row p_4 c_4 (r_4.1.map enc_api_Span) 26 2 :: .row p_1 c_1 (r.Rights.map enc_share_Right) 51 3 :: .row p_2 c_2 (r_1.1.map encI_i64) 3 1 :: Lf) w) ?_ ?_
  · cases hb : (r_1.2 != 0)
    · rw [hb] at hf
      refine stP hf rfl rfl rfl (pM rfl) fun a hf => ?_
      refine stP hf rfl rfl rfl (pNe rfl rfl) fun a hf => ?_
      refine stP hf rfl rfl rfl (pPf rfl rfl) fun a hf => ?_
      exact cNil ⟨hf.keep ⟨rfl, rfl, rfl, rfl, rfl, rfl, rfl, rfl, rfl, rfl, rfl, rfl, trivial⟩, hc⟩
    · rw [hb] at hf
      refine stS hf rfl rfl rfl fun a hf => ?_
      refine stS hf rfl rfl rfl fun a hf => ?_
      refine stP hf rfl rfl rfl (pPt rfl rfl) fun a hf => ?_
      exact cNil ⟨hf.keep ⟨rfl, rfl, rfl, rfl, rfl, rfl, rfl, rfl, rfl, rfl, rfl, rfl, trivial⟩, hc⟩
  intro a w ⟨hf, hc⟩
  refine stP hf rfl rfl rfl (pM rfl) fun a hf => ?_
  refine stCut 3 (fun a w => Has 168 a [(1, .slice p_2 r_1.1.length c_2), (2, .int .i64 r_1.2), (3, .slice p_4 r_4.1.length c_4), (4, .int .i64 r_4.2), (5, .int .i64 r_6.1), (6, .int .i64 r_6.2), (9, .slice p_8 r_8.1.length c_8), (10, .int .i64 r_8.2), (46, .int .i64 r_1.2), (47, .bool (r_1.2 != 0)), (48, .bool (r_1.2 != 0)), (51, .bool ((r_1.2 != 0) || (r_4.2 != 0))), (52, .bool ((r_1.2 != 0) || (r_4.2 != 0))), (55, .bool (((r_1.2 != 0) || (r_4.2 != 0)) || (r_6.2 != 0)))] ∧ Ctx G (.row p_6 c_6 (r_7.1.Table.map enc_share_Point) 116 2 :: .row p_7 c_7 (r_7.2.map enc_share_Year) 94 5 :: .row p_8 c_8 (r_8.1.map enc_api_Span) 26 2 :: .box b_1 [.slice p_6 r_7.1.Table.length c_6, .int .i64 r_7.1.Credit] 88 :: .row p_5 c_5 (r_5.Rights.map enc_share_Right) 51 3 :: .row p_3 c_3 (r_2.Rights.map enc_share_Right) 51 3 :: .row p_4 c_4 (r_4.1.map enc_api_Span) 26 2 :: .row p_1 c_1 (r.Rights.map enc_share_Right) 51 3 :: .row p_2 c_2 (r_1.1.map encI_i64) 3 1 :: Lf) w) ?_ ?_
  · cases hb : ((r_1.2 != 0) || (r_4.2 != 0))
    · rw [hb] at hf
      refine stP hf rfl rfl rfl (pM rfl) fun a hf => ?_
      refine stP hf rfl rfl rfl (pNe rfl rfl) fun a hf => ?_
      refine stP hf rfl rfl rfl (pPf rfl rfl) fun a hf => ?_
      exact cNil ⟨hf.keep ⟨rfl, rfl, rfl, rfl, rfl, rfl, rfl, rfl, rfl, rfl, rfl, rfl, rfl, rfl, trivial⟩, hc⟩
    · rw [hb] at hf
      refine stS hf rfl rfl rfl fun a hf => ?_
      refine stS hf rfl rfl rfl fun a hf => ?_
      refine stP hf rfl rfl rfl (pPt rfl rfl) fun a hf => ?_
      exact cNil ⟨hf.keep ⟨rfl, rfl, rfl, rfl, rfl, rfl, rfl, rfl, rfl, rfl, rfl, rfl, rfl, rfl, trivial⟩, hc⟩
  intro a w ⟨hf, hc⟩
  refine stP hf rfl rfl rfl (pM rfl) fun a hf => ?_
  refine stCut 3 (fun a w => Has 168 a [(1, .slice p_2 r_1.1.length c_2), (2, .int .i64 r_1.2), (3, .slice p_4 r_4.1.length c_4), (4, .int .i64 r_4.2), (5, .int .i64 r_6.1), (6, .int .i64 r_6.2), (9, .slice p_8 r_8.1.length c_8), (10, .int .i64 r_8.2), (46, .int .i64 r_1.2), (47, .bool (r_1.2 != 0)), (48, .bool (r_1.2 != 0)), (51, .bool ((r_1.2 != 0) || (r_4.2 != 0))), (52, .bool ((r_1.2 != 0) || (r_4.2 != 0))), (55, .bool (((r_1.2 != 0) || (r_4.2 != 0)) || (r_6.2 != 0))), (56, .bool (((r_1.2 != 0) || (r_4.2 != 0)) || (r_6.2 != 0))), (59, .bool ((((r_1.2 != 0) || (r_4.2 != 0)) || (r_6.2 != 0)) || (r_8.2 != 0)))] ∧ Ctx G (.row p_6 c_6 (r_7.1.Table.map enc_share_Point) 116 2 :: .row p_7 c_7 (r_7.2.map enc_share_Year) 94 5 :: .row p_8 c_8 (r_8.1.map enc_api_Span) 26 2 :: .box b_1 [.slice p_6 r_7.1.Table.length c_6, .int .i64 r_7.1.Credit] 88 :: .row p_5 c_5 (r_5.Rights.map enc_share_Right) 51 3 :: .row p_3 c_3 (r_2.Rights.map enc_share_Right) 51 3 :: .row p_4 c_4 (r_4.1.map enc_api_Span) 26 2 :: .row p_1 c_1 (r.Rights.map enc_share_Right) 51 3 :: .row p_2 c_2 (r_1.1.map encI_i64) 3 1 :: Lf) w) ?_ ?_
  · cases hb : (((r_1.2 != 0) || (r_4.2 != 0)) || (r_6.2 != 0))
    · rw [hb] at hf
      refine stP hf rfl rfl rfl (pM rfl) fun a hf => ?_
      refine stP hf rfl rfl rfl (pNe rfl rfl) fun a hf => ?_
      refine stP hf rfl rfl rfl (pPf rfl rfl) fun a hf => ?_
      exact cNil ⟨hf.keep ⟨rfl, rfl, rfl, rfl, rfl, rfl, rfl, rfl, rfl, rfl, rfl, rfl, rfl, rfl, rfl, rfl, trivial⟩, hc⟩
    · rw [hb] at hf
      refine stS hf rfl rfl rfl fun a hf => ?_
      refine stS hf rfl rfl rfl fun a hf => ?_
      refine stP hf rfl rfl rfl (pPt rfl rfl) fun a hf => ?_
      exact cNil ⟨hf.keep ⟨rfl, rfl, rfl, rfl, rfl, rfl, rfl, rfl, rfl, rfl, rfl, rfl, rfl, rfl, rfl, rfl, trivial⟩, hc⟩
  intro a w ⟨hf, hc⟩
  refine stP hf rfl rfl rfl (pM rfl) fun a hf => ?_
  obtain ⟨t_1, ht_1, hF⟩ := bnd_some hF
  refine stCut 5 (fun a w => Has 168 a [(1, .slice p_2 r_1.1.length c_2), (2, .int .i64 r_1.2), (3, .slice p_4 r_4.1.length c_4), (4, .int .i64 r_4.2), (5, .int .i64 r_6.1), (6, .int .i64 r_6.2), (9, .slice p_8 r_8.1.length c_8), (10, .int .i64 r_8.2), (46, .int .i64 r_1.2), (47, .bool (r_1.2 != 0)), (48, .bool (r_1.2 != 0)), (51, .bool ((r_1.2 != 0) || (r_4.2 != 0))), (52, .bool ((r_1.2 != 0) || (r_4.2 != 0))), (55, .bool (((r_1.2 != 0) || (r_4.2 != 0)) || (r_6.2 != 0))), (56, .bool (((r_1.2 != 0) || (r_4.2 != 0)) || (r_6.2 != 0))), (59, .bool ((((r_1.2 != 0) || (r_4.2 != 0)) || (r_6.2 != 0)) || (r_8.2 != 0))), (60, .bool ((((r_1.2 != 0) || (r_4.2 != 0)) || (r_6.2 != 0)) || (r_8.2 != 0))), (65, .bool t_1)] ∧ Ctx G (.row p_6 c_6 (r_7.1.Table.map enc_share_Point) 116 2 :: .row p_7 c_7 (r_7.2.map enc_share_Year) 94 5 :: .row p_8 c_8 (r_8.1.map enc_api_Span) 26 2 :: .box b_1 [.slice p_6 r_7.1.Table.length c_6, .int .i64 r_7.1.Credit] 88 :: .row p_5 c_5 (r_5.Rights.map enc_share_Right) 51 3 :: .row p_3 c_3 (r_2.Rights.map enc_share_Right) 51 3 :: .row p_4 c_4 (r_4.1.map enc_api_Span) 26 2 :: .row p_1 c_1 (r.Rights.map enc_share_Right) 51 3 :: .row p_2 c_2 (r_1.1.map encI_i64) 3 1 :: Lf) w) ?_ ?_
  · cases hb : ((((r_1.2 != 0) || (r_4.2 != 0)) || (r_6.2 != 0)) || (r_8.2 != 0))
    · rw [hb] at hf
      have hF := condF hb ht_1
      refine stP hf rfl rfl rfl (pM rfl) fun a hf => ?_
      refine stBS (rows := ([95, 18] : List Int).map encI_i64) (vs := [(0, .int .i64 95), (1, .int .i64 18)]) hf hc rfl rfl sl_36 rfl ⟨rfl, rfl, rfl, rfl, rfl, rfl, trivial⟩ rfl rfl fun b_2 a w hf hc => ?_
      obtain ⟨r_9, hr_9, hF⟩ := bnd_some hF
      refine stE hf hc rfl rfl rfl (eC (v := .bool r_9) (vs := [.slice p_2 r_1.1.length c_2, .slice (some ⟨b_2, 0, none⟩) 2 2]) (caps := []) en_20 rfl rfl rfl rfl (fun w hc => by obtain ⟨G1, hle1, hrd1, hc, hth1⟩ := lend hc k9; obtain ⟨G2, hle2, hrd2, hc, hth2⟩ := lend hc k0; exact (kit_Same_int_ok r_1.1 ([95, 18] : List Int) (hrd1.mono hle2) hrd2 hc hr_9).mono fun e w h => ⟨h.1, ((hth1 _ _ ((hth2 _ _ h.2).unpick k0)).unpick k9)⟩)) fun a w hf hc => ?_
      refine stP hf rfl rfl rfl (pNot rfl) fun a hf => ?_
      refine stP hf rfl rfl rfl (pPf rfl rfl) fun a hf => ?_
      replace hc := hc.drop k0
      obtain rfl := Option.some.inj hF
      exact cNil ⟨hf.keep ⟨rfl, rfl, rfl, rfl, rfl, rfl, rfl, rfl, rfl, rfl, rfl, rfl, rfl, rfl, rfl, rfl, rfl, rfl, trivial⟩, hc⟩
    · rw [hb] at hf
      have hF := condT hb ht_1
      obtain rfl := Option.some.inj hF
      refine stS hf rfl rfl rfl fun a hf => ?_
      refine stS hf rfl rfl rfl fun a hf => ?_
      refine stS hf rfl rfl rfl fun a hf => ?_
      refine stS hf rfl rfl rfl fun a hf => ?_
      refine stP hf rfl rfl rfl (pPt rfl rfl) fun a hf => ?_
      exact cNil ⟨hf.keep ⟨rfl, rfl, rfl, rfl, rfl, rfl, rfl, rfl, rfl, rfl, rfl, rfl, rfl, rfl, rfl, rfl, rfl, rfl, trivial⟩, hc⟩
  intro a w ⟨hf, hc⟩
  refine stP hf rfl rfl rfl (pM rfl) fun a hf => ?_
  obtain ⟨t_2, ht_2, hF⟩ := bnd_some hF
  refine stCut 7 (fun a w => Has 168 a [(1, .slice p_2 r_1.1.length c_2), (2, .int .i64 r_1.2), (3, .slice p_4 r_4.1.length c_4), (4, .int .i64 r_4.2), (5, .int .i64 r_6.1), (6, .int .i64 r_6.2), (9, .slice p_8 r_8.1.length c_8), (10, .int .i64 r_8.2), (46, .int .i64 r_1.2), (47, .bool (r_1.2 != 0)), (48, .bool (r_1.2 != 0)), (51, .bool ((r_1.2 != 0) || (r_4.2 != 0))), (52, .bool ((r_1.2 != 0) || (r_4.2 != 0))), (55, .bool (((r_1.2 != 0) || (r_4.2 != 0)) || (r_6.2 != 0))), (56, .bool (((r_1.2 != 0) || (r_4.2 != 0)) || (r_6.2 != 0))), (59, .bool ((((r_1.2 != 0) || (r_4.2 != 0)) || (r_6.2 != 0)) || (r_8.2 != 0))), (60, .bool ((((r_1.2 != 0) || (r_4.2 != 0)) || (r_6.2 != 0)) || (r_8.2 != 0))), (65, .bool t_1), (66, .bool t_1), (73, .bool t_2)] ∧ Ctx G (.row p_6 c_6 (r_7.1.Table.map enc_share_Point) 116 2 :: .row p_7 c_7 (r_7.2.map enc_share_Year) 94 5 :: .row p_8 c_8 (r_8.1.map enc_api_Span) 26 2 :: .box b_1 [.slice p_6 r_7.1.Table.length c_6, .int .i64 r_7.1.Credit] 88 :: .row p_5 c_5 (r_5.Rights.map enc_share_Right) 51 3 :: .row p_3 c_3 (r_2.Rights.map enc_share_Right) 51 3 :: .row p_4 c_4 (r_4.1.map enc_api_Span) 26 2 :: .row p_1 c_1 (r.Rights.map enc_share_Right) 51 3 :: .row p_2 c_2 (r_1.1.map encI_i64) 3 1 :: Lf) w) ?_ ?_
  · cases hb : t_1
    · rw [hb] at hf
      have hF := condF hb ht_2
      refine stP hf rfl rfl rfl (pM rfl) fun a hf => ?_
      refine stP hf rfl rfl rfl (pBuildS (cells := [.int .i64 85, .int .i64 120]) bt_26 rfl rfl) fun a hf => ?_
      refine stP hf rfl rfl rfl (pBuildS (cells := [.int .i64 0, .int .i64 54]) bt_26 rfl rfl) fun a hf => ?_
      refine stBS (rows := ([(⟨85, 120⟩ : api_Span), (⟨0, 54⟩ : api_Span)] : List api_Span).map enc_api_Span) (vs := [(0, .agg #[.int .i64 85, .int .i64 120]), (1, .agg #[.int .i64 0, .int .i64 54])]) hf hc rfl rfl sl_41 rfl ⟨rfl, rfl, rfl, rfl, rfl, rfl, trivial⟩ rfl rfl fun b_3 a w hf hc => ?_
      obtain ⟨r_10, hr_10, hF⟩ := bnd_some hF
      refine stE hf hc rfl rfl rfl (eC (v := .bool r_10) (vs := [.slice p_4 r_4.1.length c_4, .slice (some ⟨b_3, 0, none⟩) 2 2]) (caps := []) en_23 rfl rfl rfl rfl (fun w hc => by obtain ⟨G1, hle1, hrd1, hc, hth1⟩ := lend hc k7; obtain ⟨G2, hle2, hrd2, hc, hth2⟩ := lend hc k0; exact (kit_Same_api_Span_ok r_4.1 ([(⟨85, 120⟩ : api_Span), (⟨0, 54⟩ : api_Span)] : List api_Span) (hrd1.mono hle2) hrd2 hc hr_10).mono fun e w h => ⟨h.1, ((hth1 _ _ ((hth2 _ _ h.2).unpick k0)).unpick k7)⟩)) fun a w hf hc => ?_
      refine stP hf rfl rfl rfl (pNot rfl) fun a hf => ?_
      refine stP hf rfl rfl rfl (pPf rfl rfl) fun a hf => ?_
      replace hc := hc.drop k0
      obtain rfl := Option.some.inj hF
      exact cNil ⟨hf.keep ⟨rfl, rfl, rfl, rfl, rfl, rfl, rfl, rfl, rfl, rfl, rfl, rfl, rfl, rfl, rfl, rfl, rfl, rfl, rfl, rfl, trivial⟩, hc⟩
    · rw [hb] at hf
      have hF := condT hb ht_2
      obtain rfl := Option.some.inj hF
      refine stS hf rfl rfl rfl fun a hf => ?_
      refine stS hf rfl rfl rfl fun a hf => ?_
      refine stS hf rfl rfl rfl fun a hf => ?_
      refine stS hf rfl rfl rfl fun a hf => ?_
      refine stS hf rfl rfl rfl fun a hf => ?_
      refine stS hf rfl rfl rfl fun a hf => ?_
      refine stP hf rfl rfl rfl (pPt rfl rfl) fun a hf => ?_
      exact cNil ⟨hf.keep ⟨rfl, rfl, rfl, rfl, rfl, rfl, rfl, rfl, rfl, rfl, rfl, rfl, rfl, rfl, rfl, rfl, rfl, rfl, rfl, rfl, trivial⟩, hc⟩
  intro a w ⟨hf, hc⟩
  refine stP hf rfl rfl rfl (pM rfl) fun a hf => ?_
  refine stCut 3 (fun a w => Has 168 a [(1, .slice p_2 r_1.1.length c_2), (2, .int .i64 r_1.2), (3, .slice p_4 r_4.1.length c_4), (4, .int .i64 r_4.2), (5, .int .i64 r_6.1), (6, .int .i64 r_6.2), (9, .slice p_8 r_8.1.length c_8), (10, .int .i64 r_8.2), (46, .int .i64 r_1.2), (47, .bool (r_1.2 != 0)), (48, .bool (r_1.2 != 0)), (51, .bool ((r_1.2 != 0) || (r_4.2 != 0))), (52, .bool ((r_1.2 != 0) || (r_4.2 != 0))), (55, .bool (((r_1.2 != 0) || (r_4.2 != 0)) || (r_6.2 != 0))), (56, .bool (((r_1.2 != 0) || (r_4.2 != 0)) || (r_6.2 != 0))), (59, .bool ((((r_1.2 != 0) || (r_4.2 != 0)) || (r_6.2 != 0)) || (r_8.2 != 0))), (60, .bool ((((r_1.2 != 0) || (r_4.2 != 0)) || (r_6.2 != 0)) || (r_8.2 != 0))), (65, .bool t_1), (66, .bool t_1), (73, .bool t_2), (74, .bool t_2), (77, .bool (t_2 || (r_6.1 != 1)))] ∧ Ctx G (.row p_6 c_6 (r_7.1.Table.map enc_share_Point) 116 2 :: .row p_7 c_7 (r_7.2.map enc_share_Year) 94 5 :: .row p_8 c_8 (r_8.1.map enc_api_Span) 26 2 :: .box b_1 [.slice p_6 r_7.1.Table.length c_6, .int .i64 r_7.1.Credit] 88 :: .row p_5 c_5 (r_5.Rights.map enc_share_Right) 51 3 :: .row p_3 c_3 (r_2.Rights.map enc_share_Right) 51 3 :: .row p_4 c_4 (r_4.1.map enc_api_Span) 26 2 :: .row p_1 c_1 (r.Rights.map enc_share_Right) 51 3 :: .row p_2 c_2 (r_1.1.map encI_i64) 3 1 :: Lf) w) ?_ ?_
  · cases hb : t_2
    · rw [hb] at hf
      refine stP hf rfl rfl rfl (pM rfl) fun a hf => ?_
      refine stP hf rfl rfl rfl (pNe rfl rfl) fun a hf => ?_
      refine stP hf rfl rfl rfl (pPf rfl rfl) fun a hf => ?_
      exact cNil ⟨hf.keep ⟨rfl, rfl, rfl, rfl, rfl, rfl, rfl, rfl, rfl, rfl, rfl, rfl, rfl, rfl, rfl, rfl, rfl, rfl, rfl, rfl, rfl, rfl, trivial⟩, hc⟩
    · rw [hb] at hf
      refine stS hf rfl rfl rfl fun a hf => ?_
      refine stS hf rfl rfl rfl fun a hf => ?_
      refine stP hf rfl rfl rfl (pPt rfl rfl) fun a hf => ?_
      exact cNil ⟨hf.keep ⟨rfl, rfl, rfl, rfl, rfl, rfl, rfl, rfl, rfl, rfl, rfl, rfl, rfl, rfl, rfl, rfl, rfl, rfl, rfl, rfl, rfl, rfl, trivial⟩, hc⟩
  intro a w ⟨hf, hc⟩
  refine stP hf rfl rfl rfl (pM rfl) fun a hf => ?_
  obtain ⟨t_3, ht_3, hF⟩ := bnd_some hF
  refine stCut 8 (fun a w => Has 168 a [(1, .slice p_2 r_1.1.length c_2), (2, .int .i64 r_1.2), (3, .slice p_4 r_4.1.length c_4), (4, .int .i64 r_4.2), (5, .int .i64 r_6.1), (6, .int .i64 r_6.2), (9, .slice p_8 r_8.1.length c_8), (10, .int .i64 r_8.2), (46, .int .i64 r_1.2), (47, .bool (r_1.2 != 0)), (48, .bool (r_1.2 != 0)), (51, .bool ((r_1.2 != 0) || (r_4.2 != 0))), (52, .bool ((r_1.2 != 0) || (r_4.2 != 0))), (55, .bool (((r_1.2 != 0) || (r_4.2 != 0)) || (r_6.2 != 0))), (56, .bool (((r_1.2 != 0) || (r_4.2 != 0)) || (r_6.2 != 0))), (59, .bool ((((r_1.2 != 0) || (r_4.2 != 0)) || (r_6.2 != 0)) || (r_8.2 != 0))), (60, .bool ((((r_1.2 != 0) || (r_4.2 != 0)) || (r_6.2 != 0)) || (r_8.2 != 0))), (65, .bool t_1), (66, .bool t_1), (73, .bool t_2), (74, .bool t_2), (77, .bool (t_2 || (r_6.1 != 1))), (78, .bool (t_2 || (r_6.1 != 1))), (86, .bool t_3)] ∧ Ctx G (.row p_6 c_6 (r_7.1.Table.map enc_share_Point) 116 2 :: .row p_7 c_7 (r_7.2.map enc_share_Year) 94 5 :: .row p_8 c_8 (r_8.1.map enc_api_Span) 26 2 :: .box b_1 [.slice p_6 r_7.1.Table.length c_6, .int .i64 r_7.1.Credit] 88 :: .row p_5 c_5 (r_5.Rights.map enc_share_Right) 51 3 :: .row p_3 c_3 (r_2.Rights.map enc_share_Right) 51 3 :: .row p_4 c_4 (r_4.1.map enc_api_Span) 26 2 :: .row p_1 c_1 (r.Rights.map enc_share_Right) 51 3 :: .row p_2 c_2 (r_1.1.map encI_i64) 3 1 :: Lf) w) ?_ ?_
  · cases hb : (t_2 || (r_6.1 != 1))
    · rw [hb] at hf
      have hF := condF hb ht_3
      refine stP hf rfl rfl rfl (pM rfl) fun a hf => ?_
      refine stP hf rfl rfl rfl (pBuildS (cells := [.int .i64 (-2), .int .i64 8]) bt_26 rfl rfl) fun a hf => ?_
      refine stP hf rfl rfl rfl (pBuildS (cells := [.int .i64 (-15), .int .i64 (-12)]) bt_26 rfl rfl) fun a hf => ?_
      refine stP hf rfl rfl rfl (pBuildS (cells := [.int .i64 0, .int .i64 0]) bt_26 rfl rfl) fun a hf => ?_
      refine stBS (rows := ([(⟨(-2), 8⟩ : api_Span), (⟨(-15), (-12)⟩ : api_Span), (⟨0, 0⟩ : api_Span)] : List api_Span).map enc_api_Span) (vs := [(0, .agg #[.int .i64 (-2), .int .i64 8]), (1, .agg #[.int .i64 (-15), .int .i64 (-12)]), (2, .agg #[.int .i64 0, .int .i64 0])]) hf hc rfl rfl sl_41 rfl ⟨rfl, rfl, rfl, rfl, rfl, rfl, rfl, rfl, rfl, trivial⟩ rfl rfl fun b_4 a w hf hc => ?_
      obtain ⟨r_11, hr_11, hF⟩ := bnd_some hF
      refine stE hf hc rfl rfl rfl (eC (v := .bool r_11) (vs := [.slice p_8 r_8.1.length c_8, .slice (some ⟨b_4, 0, none⟩) 3 3]) (caps := []) en_23 rfl rfl rfl rfl (fun w hc => by obtain ⟨G1, hle1, hrd1, hc, hth1⟩ := lend hc k3; obtain ⟨G2, hle2, hrd2, hc, hth2⟩ := lend hc k0; exact (kit_Same_api_Span_ok r_8.1 ([(⟨(-2), 8⟩ : api_Span), (⟨(-15), (-12)⟩ : api_Span), (⟨0, 0⟩ : api_Span)] : List api_Span) (hrd1.mono hle2) hrd2 hc hr_11).mono fun e w h => ⟨h.1, ((hth1 _ _ ((hth2 _ _ h.2).unpick k0)).unpick k3)⟩)) fun a w hf hc => ?_
      refine stP hf rfl rfl rfl (pNot rfl) fun a hf => ?_
      refine stP hf rfl rfl rfl (pPf rfl rfl) fun a hf => ?_
      replace hc := hc.drop k0
      obtain rfl := Option.some.inj hF
      exact cNil ⟨hf.keep ⟨rfl, rfl, rfl, rfl, rfl, rfl, rfl, rfl, rfl, rfl, rfl, rfl, rfl, rfl, rfl, rfl, rfl, rfl, rfl, rfl, rfl, rfl, rfl, rfl, trivial⟩, hc⟩
    · rw [hb] at hf
      have hF := condT hb ht_3
      obtain rfl := Option.some.inj hF
      refine stS hf rfl rfl rfl fun a hf => ?_
      refine stS hf rfl rfl rfl fun a hf => ?_
      refine stS hf rfl rfl rfl fun a hf => ?_
      refine stS hf rfl rfl rfl fun a hf => ?_
      refine stS hf rfl rfl rfl fun a hf => ?_
      refine stS hf rfl rfl rfl fun a hf => ?_
      refine stS hf rfl rfl rfl fun a hf => ?_
      refine stP hf rfl rfl rfl (pPt rfl rfl) fun a hf => ?_
      exact cNil ⟨hf.keep ⟨rfl, rfl, rfl, rfl, rfl, rfl, rfl, rfl, rfl, rfl, rfl, rfl, rfl, rfl, rfl, rfl, rfl, rfl, rfl, rfl, rfl, rfl, rfl, rfl, trivial⟩, hc⟩
  intro a w ⟨hf, hc⟩
  refine cNil ?_
  refine h8 _ _ ?_
  refine cCond (b := t_3) hf rfl (fun hb => ?_) (fun hb => ?_)
  · replace hF := condT hb hF
    clear hb
    refine wp_seq_k fun K9 h9 => ?_
    refine cReg ?_
    refine stP hf rfl rfl rfl (pA rfl) fun a hf => ?_
    refine cNil ?_
    refine h9 _ _ ?_
    refine wp_ret ?_
    refine xThenR ?_
    obtain rfl := Option.some.inj hF
    replace hc := hc.drop k8
    replace hc := hc.drop k7
    replace hc := hc.drop k6
    replace hc := hc.drop k5
    replace hc := hc.drop k4
    replace hc := hc.drop k3
    replace hc := hc.drop k2
    replace hc := hc.drop k1
    replace hc := hc.drop k0
    exact fnOut1 (by simp) rfl Try.results13 hf hc (show look _ 0 = _ from rfl) ⟨rfl, hc⟩
  · replace hF := condF hb hF
    clear hb
    refine wp_skip ?_
    refine h7 _ _ ?_
    refine wp_seq_k fun K10 h10 => ?_
    refine cReg ?_
    refine stBS (rows := ([20, 30, 30, 40, 40, 40] : List Int).map encI_i64) (vs := [(0, .int .i64 20), (1, .int .i64 30), (2, .int .i64 30), (3, .int .i64 40), (4, .int .i64 40), (5, .int .i64 40)]) hf hc rfl rfl sl_36 rfl ⟨rfl, rfl, rfl, rfl, rfl, rfl, rfl, rfl, rfl, rfl, rfl, rfl, rfl, rfl, rfl, rfl, rfl, rfl, trivial⟩ rfl rfl fun b_5 a w hf hc => ?_
    refine stP hf rfl rfl rfl (pBuildS (cells := [.int .i64 15, .int .i64 4, .slice (some ⟨b_5, 0, none⟩) 6 6]) bt_59 rfl rfl) fun a hf => ?_
    obtain ⟨r_12, hr_12, hF⟩ := bnd_some hF
    obtain ⟨G1, hle1, hrd1, hc, hth1⟩ := lend hc k0
    refine stC (vs := [.int .i64 100, .agg #[.int .i64 15, .int .i64 4, .slice (some ⟨b_5, 0, none⟩) 6 6]]) (caps := []) hf rfl rfl rfl en_30 rfl rfl rfl rfl (share_Payback_ok 100 (⟨15, 4, ([20, 30, 30, 40, 40, 40] : List Int)⟩ : share_Pact) hrd1 hc hr_12) ?_
    rintro _ w ⟨p_9, c_9, rfl, hc⟩
    refine ⟨_, rfl, fun a hf => ?_⟩
    replace hc := hth1 _ _ hc
    refine stP hf rfl rfl rfl (pM rfl) fun a hf => ?_
    refine stP hf rfl rfl rfl (pX rfl rfl) fun a hf => ?_
    refine stP hf rfl rfl rfl (pX rfl rfl) fun a hf => ?_
    refine stP hf rfl rfl rfl (pA rfl) fun a hf => ?_
    refine stP hf rfl rfl rfl (pA rfl) fun a hf => ?_
    refine cNil ?_
    refine h10 _ _ ?_
    refine wp_seq_k fun K11 h11 => ?_
    refine cReg ?_
    refine stBS (rows := ([60, 30, 10] : List Int).map encI_i64) (vs := [(0, .int .i64 60), (1, .int .i64 30), (2, .int .i64 10)]) hf hc rfl rfl sl_36 rfl ⟨rfl, rfl, rfl, rfl, rfl, rfl, rfl, rfl, rfl, trivial⟩ rfl rfl fun b_6 a w hf hc => ?_
    obtain ⟨r_13, hr_13, hF⟩ := bnd_some hF
    obtain ⟨G1, hle1, hrd1, hc, hth1⟩ := lend hc k0
    refine stC (vs := [.slice (some ⟨b_6, 0, none⟩) 3 3, .int .i64 9, .int .i64 0]) (caps := []) hf rfl rfl rfl en_34 rfl rfl rfl rfl (share_Turns_ok ([60, 30, 10] : List Int) 9 0 hrd1 hc hr_13) ?_
    rintro _ w ⟨p_10, c_10, rfl, hc⟩
    refine ⟨_, rfl, fun a hf => ?_⟩
    replace hc := hth1 _ _ hc
    refine stP hf rfl rfl rfl (pM rfl) fun a hf => ?_
    refine stP hf rfl rfl rfl (pX rfl rfl) fun a hf => ?_
    refine stP hf rfl rfl rfl (pX rfl rfl) fun a hf => ?_
    refine stP hf rfl rfl rfl (pA rfl) fun a hf => ?_
    refine stP hf rfl rfl rfl (pA rfl) fun a hf => ?_
    refine cNil ?_
    refine h11 _ _ ?_
    refine wp_seq_k fun K12 h12 => ?_
    refine cReg ?_
    refine stBS (rows := ([60, 30, 10] : List Int).map encI_i64) (vs := [(0, .int .i64 60), (1, .int .i64 30), (2, .int .i64 10)]) hf hc rfl rfl sl_36 rfl ⟨rfl, rfl, rfl, rfl, rfl, rfl, rfl, rfl, rfl, trivial⟩ rfl rfl fun b_7 a w hf hc => ?_
    obtain ⟨r_14, hr_14, hF⟩ := bnd_some hF
    obtain ⟨G1, hle1, hrd1, hc, hth1⟩ := lend hc k0
    refine stC (vs := [.slice (some ⟨b_7, 0, none⟩) 3 3, .int .i64 9, .int .i64 1]) (caps := []) hf rfl rfl rfl en_34 rfl rfl rfl rfl (share_Turns_ok ([60, 30, 10] : List Int) 9 1 hrd1 hc hr_14) ?_
    rintro _ w ⟨p_11, c_11, rfl, hc⟩
    refine ⟨_, rfl, fun a hf => ?_⟩
    replace hc := hth1 _ _ hc
    refine stP hf rfl rfl rfl (pM rfl) fun a hf => ?_
    refine stP hf rfl rfl rfl (pX rfl rfl) fun a hf => ?_
    refine stP hf rfl rfl rfl (pX rfl rfl) fun a hf => ?_
    refine stP hf rfl rfl rfl (pA rfl) fun a hf => ?_
    refine stP hf rfl rfl rfl (pA rfl) fun a hf => ?_
    refine cNil ?_
    refine h12 _ _ ?_
    refine wp_seq_k fun K13 h13 => ?_
    refine cReg ?_
    refine stBS (rows := ([60, 30, 10] : List Int).map encI_i64) (vs := [(0, .int .i64 60), (1, .int .i64 30), (2, .int .i64 10)]) hf hc rfl rfl sl_36 rfl ⟨rfl, rfl, rfl, rfl, rfl, rfl, rfl, rfl, rfl, trivial⟩ rfl rfl fun b_8 a w hf hc => ?_
    refine stBS (rows := ([6, 3, 0] : List Int).map encI_i64) (vs := [(0, .int .i64 6), (1, .int .i64 3), (2, .int .i64 0)]) hf hc rfl rfl sl_36 rfl ⟨rfl, rfl, rfl, rfl, rfl, rfl, rfl, rfl, rfl, trivial⟩ rfl rfl fun b_9 a w hf hc => ?_
    obtain ⟨r_15, hr_15, hF⟩ := bnd_some hF
    refine stE hf hc rfl rfl rfl (eC (v := .tuple #[.agg #[.int .i64 r_15.1.N, .int .i64 r_15.1.D], .agg #[.int .i64 r_15.2.1.N, .int .i64 r_15.2.1.D], .int .i64 r_15.2.2]) (vs := [.slice (some ⟨b_8, 0, none⟩) 3 3, .slice (some ⟨b_9, 0, none⟩) 3 3, .int .i64 0]) (caps := []) en_39 rfl rfl rfl rfl (fun w hc => by obtain ⟨G1, hle1, hrd1, hc, hth1⟩ := lend hc k1; obtain ⟨G2, hle2, hrd2, hc, hth2⟩ := lend hc k0; exact (share_Divisors_ok ([60, 30, 10] : List Int) ([6, 3, 0] : List Int) 0 (hrd1.mono hle2) hrd2 hc hr_15).mono fun e w h => ⟨h.1, ((hth1 _ _ ((hth2 _ _ h.2).unpick k0)).unpick k1)⟩)) fun a w hf hc => ?_
    refine stP hf rfl rfl rfl (pM rfl) fun a hf => ?_
    refine stP hf rfl rfl rfl (pX rfl rfl) fun a hf => ?_
    refine stP hf rfl rfl rfl (pX rfl rfl) fun a hf => ?_
    refine stP hf rfl rfl rfl (pX rfl rfl) fun a hf => ?_
    refine stAl (cs := [.int .i64 0, .int .i64 0]) hf hc rfl rfl zr_71 rfl fun b_10 a w hf hc => ?_
    refine stAl (cs := [.int .i64 0, .int .i64 0]) hf hc rfl rfl zr_71 rfl fun b_11 a w hf hc => ?_
    refine stSt (vs := [.int .i64 r_15.1.N, .int .i64 r_15.1.D]) hf hc rfl rfl rfl rfl sz_71 rfl rfl u1 fun w hc => ?_
    refine stSt (vs := [.int .i64 r_15.2.1.N, .int .i64 r_15.2.1.D]) hf hc rfl rfl rfl rfl sz_71 rfl rfl u0 fun w hc => ?_
    refine stP hf rfl rfl rfl (pA rfl) fun a hf => ?_
    refine cNil ?_
    refine h13 _ _ ?_
    refine wp_seq_k fun K14 h14 => ?_
    refine cReg ?_
    refine stBS (rows := ([60, 30, 10] : List Int).map encI_i64) (vs := [(0, .int .i64 60), (1, .int .i64 30), (2, .int .i64 10)]) hf hc rfl rfl sl_36 rfl ⟨rfl, rfl, rfl, rfl, rfl, rfl, rfl, rfl, rfl, trivial⟩ rfl rfl fun b_12 a w hf hc => ?_
    refine stBS (rows := ([7, 2, 0] : List Int).map encI_i64) (vs := [(0, .int .i64 7), (1, .int .i64 2), (2, .int .i64 0)]) hf hc rfl rfl sl_36 rfl ⟨rfl, rfl, rfl, rfl, rfl, rfl, rfl, rfl, rfl, trivial⟩ rfl rfl fun b_13 a w hf hc => ?_
    obtain ⟨r_16, hr_16, hF⟩ := bnd_some hF
    refine stE hf hc rfl rfl rfl (eC (v := .tuple #[.int .i64 r_16.1, .int .i64 r_16.2.1, .int .i64 r_16.2.2]) (vs := [.slice (some ⟨b_12, 0, none⟩) 3 3, .slice (some ⟨b_13, 0, none⟩) 3 3, .int .i64 0]) (caps := []) en_37 rfl rfl rfl rfl (fun w hc => by obtain ⟨G1, hle1, hrd1, hc, hth1⟩ := lend hc k1; obtain ⟨G2, hle2, hrd2, hc, hth2⟩ := lend hc k0; exact (share_Unfair_ok ([60, 30, 10] : List Int) ([7, 2, 0] : List Int) 0 (hrd1.mono hle2) hrd2 hc hr_16).mono fun e w h => ⟨h.1, ((hth1 _ _ ((hth2 _ _ h.2).unpick k0)).unpick k1)⟩)) fun a w hf hc => ?_
    refine stP hf rfl rfl rfl (pM rfl) fun a hf => ?_
    refine stP hf rfl rfl rfl (pX rfl rfl) fun a hf => ?_
    refine stP hf rfl rfl rfl (pX rfl rfl) fun a hf => ?_
    refine stP hf rfl rfl rfl (pX rfl rfl) fun a hf => ?_
    refine stP hf rfl rfl rfl (pA rfl) fun a hf => ?_
    refine stP hf rfl rfl rfl (pA rfl) fun a hf => ?_
    refine stP hf rfl rfl rfl (pA rfl) fun a hf => ?_
    refine cNil ?_
    refine h14 _ _ ?_
    refine wp_seq_k fun K15 h15 => ?_
    refine cReg ?_
    refine stP hf rfl rfl rfl (pM rfl) fun a hf => ?_
    refine stP hf rfl rfl rfl (pEq rfl rfl) fun a hf => ?_
    refine stP hf rfl rfl rfl (pM rfl) fun a hf => ?_
    refine stCut 3 (fun a w => Has 168 a [(2, .int .i64 r_12.2), (4, .int .i64 r_13.2), (6, .int .i64 r_14.2), (10, .int .i64 r_15.2.2), (11, .slice p_9 r_12.1.length c_9), (12, .slice p_10 r_13.1.length c_10), (13, .slice p_11 r_14.1.length c_11), (14, .pointer (some ⟨b_10, 0, none⟩)), (15, .pointer (some ⟨b_11, 0, none⟩)), (16, .int .i64 r_16.1), (17, .int .i64 r_16.2.1), (18, .int .i64 r_16.2.2), (117, .int .i64 r_12.2), (118, .bool (r_12.2 == 0)), (119, .bool (r_12.2 == 0)), (122, .bool ((r_12.2 == 0) && (r_13.2 == 0)))] ∧ Ctx G (.row (some ⟨b_13, 0, none⟩) 3 (([7, 2, 0] : List Int).map encI_i64) 3 1 :: .row (some ⟨b_12, 0, none⟩) 3 (([60, 30, 10] : List Int).map encI_i64) 3 1 :: .box b_11 [.int .i64 r_15.2.1.N, .int .i64 r_15.2.1.D] 71 :: .box b_10 [.int .i64 r_15.1.N, .int .i64 r_15.1.D] 71 :: .row (some ⟨b_9, 0, none⟩) 3 (([6, 3, 0] : List Int).map encI_i64) 3 1 :: .row (some ⟨b_8, 0, none⟩) 3 (([60, 30, 10] : List Int).map encI_i64) 3 1 :: .row (some ⟨b_7, 0, none⟩) 3 (([60, 30, 10] : List Int).map encI_i64) 3 1 :: .row p_11 c_11 (r_14.1.map encI_i64) 3 1 :: .row (some ⟨b_6, 0, none⟩) 3 (([60, 30, 10] : List Int).map encI_i64) 3 1 :: .row p_10 c_10 (r_13.1.map encI_i64) 3 1 :: .row (some ⟨b_5, 0, none⟩) 6 (([20, 30, 30, 40, 40, 40] : List Int).map encI_i64) 3 1 :: .row p_9 c_9 (r_12.1.map encI_i64) 3 1 :: .row p_6 c_6 (r_7.1.Table.map enc_share_Point) 116 2 :: .row p_7 c_7 (r_7.2.map enc_share_Year) 94 5 :: .row p_8 c_8 (r_8.1.map enc_api_Span) 26 2 :: .box b_1 [.slice p_6 r_7.1.Table.length c_6, .int .i64 r_7.1.Credit] 88 :: .row p_5 c_5 (r_5.Rights.map enc_share_Right) 51 3 :: .row p_3 c_3 (r_2.Rights.map enc_share_Right) 51 3 :: .row p_4 c_4 (r_4.1.map enc_api_Span) 26 2 :: .row p_1 c_1 (r.Rights.map enc_share_Right) 51 3 :: .row p_2 c_2 (r_1.1.map encI_i64) 3 1 :: Lf) w) ?_ ?_
    · cases hb : (r_12.2 == 0)
      · rw [hb] at hf
        refine stS hf rfl rfl rfl fun a hf => ?_
        refine stS hf rfl rfl rfl fun a hf => ?_
        refine stP hf rfl rfl rfl (pPf rfl rfl) fun a hf => ?_
        exact cNil ⟨hf.keep ⟨rfl, rfl, rfl, rfl, rfl, rfl, rfl, rfl, rfl, rfl, rfl, rfl, rfl, rfl, rfl, rfl, trivial⟩, hc⟩
      · rw [hb] at hf
        refine stP hf rfl rfl rfl (pM rfl) fun a hf => ?_
        refine stP hf rfl rfl rfl (pEq rfl rfl) fun a hf => ?_
        refine stP hf rfl rfl rfl (pPt rfl rfl) fun a hf => ?_
        exact cNil ⟨hf.keep ⟨rfl, rfl, rfl, rfl, rfl, rfl, rfl, rfl, rfl, rfl, rfl, rfl, rfl, rfl, rfl, rfl, trivial⟩, hc⟩
    intro a w ⟨hf, hc⟩
    refine stP hf rfl rfl rfl (pM rfl) fun a hf => ?_
    refine stCut 3 (fun a w => Has 168 a [(2, .int .i64 r_12.2), (4, .int .i64 r_13.2), (6, .int .i64 r_14.2), (10, .int .i64 r_15.2.2), (11, .slice p_9 r_12.1.length c_9), (12, .slice p_10 r_13.1.length c_10), (13, .slice p_11 r_14.1.length c_11), (14, .pointer (some ⟨b_10, 0, none⟩)), (15, .pointer (some ⟨b_11, 0, none⟩)), (16, .int .i64 r_16.1), (17, .int .i64 r_16.2.1), (18, .int .i64 r_16.2.2), (117, .int .i64 r_12.2), (118, .bool (r_12.2 == 0)), (119, .bool (r_12.2 == 0)), (122, .bool ((r_12.2 == 0) && (r_13.2 == 0))), (123, .bool ((r_12.2 == 0) && (r_13.2 == 0))), (126, .bool (((r_12.2 == 0) && (r_13.2 == 0)) && (r_14.2 == 0)))] ∧ Ctx G (.row (some ⟨b_13, 0, none⟩) 3 (([7, 2, 0] : List Int).map encI_i64) 3 1 :: .row (some ⟨b_12, 0, none⟩) 3 (([60, 30, 10] : List Int).map encI_i64) 3 1 :: .box b_11 [.int .i64 r_15.2.1.N, .int .i64 r_15.2.1.D] 71 :: .box b_10 [.int .i64 r_15.1.N, .int .i64 r_15.1.D] 71 :: .row (some ⟨b_9, 0, none⟩) 3 (([6, 3, 0] : List Int).map encI_i64) 3 1 :: .row (some ⟨b_8, 0, none⟩) 3 (([60, 30, 10] : List Int).map encI_i64) 3 1 :: .row (some ⟨b_7, 0, none⟩) 3 (([60, 30, 10] : List Int).map encI_i64) 3 1 :: .row p_11 c_11 (r_14.1.map encI_i64) 3 1 :: .row (some ⟨b_6, 0, none⟩) 3 (([60, 30, 10] : List Int).map encI_i64) 3 1 :: .row p_10 c_10 (r_13.1.map encI_i64) 3 1 :: .row (some ⟨b_5, 0, none⟩) 6 (([20, 30, 30, 40, 40, 40] : List Int).map encI_i64) 3 1 :: .row p_9 c_9 (r_12.1.map encI_i64) 3 1 :: .row p_6 c_6 (r_7.1.Table.map enc_share_Point) 116 2 :: .row p_7 c_7 (r_7.2.map enc_share_Year) 94 5 :: .row p_8 c_8 (r_8.1.map enc_api_Span) 26 2 :: .box b_1 [.slice p_6 r_7.1.Table.length c_6, .int .i64 r_7.1.Credit] 88 :: .row p_5 c_5 (r_5.Rights.map enc_share_Right) 51 3 :: .row p_3 c_3 (r_2.Rights.map enc_share_Right) 51 3 :: .row p_4 c_4 (r_4.1.map enc_api_Span) 26 2 :: .row p_1 c_1 (r.Rights.map enc_share_Right) 51 3 :: .row p_2 c_2 (r_1.1.map encI_i64) 3 1 :: Lf) w) ?_ ?_
    · cases hb : ((r_12.2 == 0) && (r_13.2 == 0))
      · rw [hb] at hf
        refine stS hf rfl rfl rfl fun a hf => ?_
        refine stS hf rfl rfl rfl fun a hf => ?_
        refine stP hf rfl rfl rfl (pPf rfl rfl) fun a hf => ?_
        exact cNil ⟨hf.keep ⟨rfl, rfl, rfl, rfl, rfl, rfl, rfl, rfl, rfl, rfl, rfl, rfl, rfl, rfl, rfl, rfl, rfl, rfl, trivial⟩, hc⟩
      · rw [hb] at hf
        refine stP hf rfl rfl rfl (pM rfl) fun a hf => ?_
        refine stP hf rfl rfl rfl (pEq rfl rfl) fun a hf => ?_
        refine stP hf rfl rfl rfl (pPt rfl rfl) fun a hf => ?_
        exact cNil ⟨hf.keep ⟨rfl, rfl, rfl, rfl, rfl, rfl, rfl, rfl, rfl, rfl, rfl, rfl, rfl, rfl, rfl, rfl, rfl, rfl, trivial⟩, hc⟩
    intro a w ⟨hf, hc⟩
    refine stP hf rfl rfl rfl (pM rfl) fun a hf => ?_
    refine stCut 3 (fun a w => Has 168 a [(2, .int .i64 r_12.2), (4, .int .i64 r_13.2), (6, .int .i64 r_14.2), (10, .int .i64 r_15.2.2), (11, .slice p_9 r_12.1.length c_9), (12, .slice p_10 r_13.1.length c_10), (13, .slice p_11 r_14.1.length c_11), (14, .pointer (some ⟨b_10, 0, none⟩)), (15, .pointer (some ⟨b_11, 0, none⟩)), (16, .int .i64 r_16.1), (17, .int .i64 r_16.2.1), (18, .int .i64 r_16.2.2), (117, .int .i64 r_12.2), (118, .bool (r_12.2 == 0)), (119, .bool (r_12.2 == 0)), (122, .bool ((r_12.2 == 0) && (r_13.2 == 0))), (123, .bool ((r_12.2 == 0) && (r_13.2 == 0))), (126, .bool (((r_12.2 == 0) && (r_13.2 == 0)) && (r_14.2 == 0))), (127, .bool (((r_12.2 == 0) && (r_13.2 == 0)) && (r_14.2 == 0))), (130, .bool ((((r_12.2 == 0) && (r_13.2 == 0)) && (r_14.2 == 0)) && (r_15.2.2 == 0)))] ∧ Ctx G (.row (some ⟨b_13, 0, none⟩) 3 (([7, 2, 0] : List Int).map encI_i64) 3 1 :: .row (some ⟨b_12, 0, none⟩) 3 (([60, 30, 10] : List Int).map encI_i64) 3 1 :: .box b_11 [.int .i64 r_15.2.1.N, .int .i64 r_15.2.1.D] 71 :: .box b_10 [.int .i64 r_15.1.N, .int .i64 r_15.1.D] 71 :: .row (some ⟨b_9, 0, none⟩) 3 (([6, 3, 0] : List Int).map encI_i64) 3 1 :: .row (some ⟨b_8, 0, none⟩) 3 (([60, 30, 10] : List Int).map encI_i64) 3 1 :: .row (some ⟨b_7, 0, none⟩) 3 (([60, 30, 10] : List Int).map encI_i64) 3 1 :: .row p_11 c_11 (r_14.1.map encI_i64) 3 1 :: .row (some ⟨b_6, 0, none⟩) 3 (([60, 30, 10] : List Int).map encI_i64) 3 1 :: .row p_10 c_10 (r_13.1.map encI_i64) 3 1 :: .row (some ⟨b_5, 0, none⟩) 6 (([20, 30, 30, 40, 40, 40] : List Int).map encI_i64) 3 1 :: .row p_9 c_9 (r_12.1.map encI_i64) 3 1 :: .row p_6 c_6 (r_7.1.Table.map enc_share_Point) 116 2 :: .row p_7 c_7 (r_7.2.map enc_share_Year) 94 5 :: .row p_8 c_8 (r_8.1.map enc_api_Span) 26 2 :: .box b_1 [.slice p_6 r_7.1.Table.length c_6, .int .i64 r_7.1.Credit] 88 :: .row p_5 c_5 (r_5.Rights.map enc_share_Right) 51 3 :: .row p_3 c_3 (r_2.Rights.map enc_share_Right) 51 3 :: .row p_4 c_4 (r_4.1.map enc_api_Span) 26 2 :: .row p_1 c_1 (r.Rights.map enc_share_Right) 51 3 :: .row p_2 c_2 (r_1.1.map encI_i64) 3 1 :: Lf) w) ?_ ?_
    · cases hb : (((r_12.2 == 0) && (r_13.2 == 0)) && (r_14.2 == 0))
      · rw [hb] at hf
        refine stS hf rfl rfl rfl fun a hf => ?_
        refine stS hf rfl rfl rfl fun a hf => ?_
        refine stP hf rfl rfl rfl (pPf rfl rfl) fun a hf => ?_
        exact cNil ⟨hf.keep ⟨rfl, rfl, rfl, rfl, rfl, rfl, rfl, rfl, rfl, rfl, rfl, rfl, rfl, rfl, rfl, rfl, rfl, rfl, rfl, rfl, trivial⟩, hc⟩
      · rw [hb] at hf
        refine stP hf rfl rfl rfl (pM rfl) fun a hf => ?_
        refine stP hf rfl rfl rfl (pEq rfl rfl) fun a hf => ?_
        refine stP hf rfl rfl rfl (pPt rfl rfl) fun a hf => ?_
        exact cNil ⟨hf.keep ⟨rfl, rfl, rfl, rfl, rfl, rfl, rfl, rfl, rfl, rfl, rfl, rfl, rfl, rfl, rfl, rfl, rfl, rfl, rfl, rfl, trivial⟩, hc⟩
    intro a w ⟨hf, hc⟩
    refine stP hf rfl rfl rfl (pM rfl) fun a hf => ?_
    refine stCut 3 (fun a w => Has 168 a [(2, .int .i64 r_12.2), (4, .int .i64 r_13.2), (6, .int .i64 r_14.2), (10, .int .i64 r_15.2.2), (11, .slice p_9 r_12.1.length c_9), (12, .slice p_10 r_13.1.length c_10), (13, .slice p_11 r_14.1.length c_11), (14, .pointer (some ⟨b_10, 0, none⟩)), (15, .pointer (some ⟨b_11, 0, none⟩)), (16, .int .i64 r_16.1), (17, .int .i64 r_16.2.1), (18, .int .i64 r_16.2.2), (117, .int .i64 r_12.2), (118, .bool (r_12.2 == 0)), (119, .bool (r_12.2 == 0)), (122, .bool ((r_12.2 == 0) && (r_13.2 == 0))), (123, .bool ((r_12.2 == 0) && (r_13.2 == 0))), (126, .bool (((r_12.2 == 0) && (r_13.2 == 0)) && (r_14.2 == 0))), (127, .bool (((r_12.2 == 0) && (r_13.2 == 0)) && (r_14.2 == 0))), (130, .bool ((((r_12.2 == 0) && (r_13.2 == 0)) && (r_14.2 == 0)) && (r_15.2.2 == 0))), (131, .bool ((((r_12.2 == 0) && (r_13.2 == 0)) && (r_14.2 == 0)) && (r_15.2.2 == 0))), (134, .bool (((((r_12.2 == 0) && (r_13.2 == 0)) && (r_14.2 == 0)) && (r_15.2.2 == 0)) && (r_16.2.2 == 0)))] ∧ Ctx G (.row (some ⟨b_13, 0, none⟩) 3 (([7, 2, 0] : List Int).map encI_i64) 3 1 :: .row (some ⟨b_12, 0, none⟩) 3 (([60, 30, 10] : List Int).map encI_i64) 3 1 :: .box b_11 [.int .i64 r_15.2.1.N, .int .i64 r_15.2.1.D] 71 :: .box b_10 [.int .i64 r_15.1.N, .int .i64 r_15.1.D] 71 :: .row (some ⟨b_9, 0, none⟩) 3 (([6, 3, 0] : List Int).map encI_i64) 3 1 :: .row (some ⟨b_8, 0, none⟩) 3 (([60, 30, 10] : List Int).map encI_i64) 3 1 :: .row (some ⟨b_7, 0, none⟩) 3 (([60, 30, 10] : List Int).map encI_i64) 3 1 :: .row p_11 c_11 (r_14.1.map encI_i64) 3 1 :: .row (some ⟨b_6, 0, none⟩) 3 (([60, 30, 10] : List Int).map encI_i64) 3 1 :: .row p_10 c_10 (r_13.1.map encI_i64) 3 1 :: .row (some ⟨b_5, 0, none⟩) 6 (([20, 30, 30, 40, 40, 40] : List Int).map encI_i64) 3 1 :: .row p_9 c_9 (r_12.1.map encI_i64) 3 1 :: .row p_6 c_6 (r_7.1.Table.map enc_share_Point) 116 2 :: .row p_7 c_7 (r_7.2.map enc_share_Year) 94 5 :: .row p_8 c_8 (r_8.1.map enc_api_Span) 26 2 :: .box b_1 [.slice p_6 r_7.1.Table.length c_6, .int .i64 r_7.1.Credit] 88 :: .row p_5 c_5 (r_5.Rights.map enc_share_Right) 51 3 :: .row p_3 c_3 (r_2.Rights.map enc_share_Right) 51 3 :: .row p_4 c_4 (r_4.1.map enc_api_Span) 26 2 :: .row p_1 c_1 (r.Rights.map enc_share_Right) 51 3 :: .row p_2 c_2 (r_1.1.map encI_i64) 3 1 :: Lf) w) ?_ ?_
    · cases hb : ((((r_12.2 == 0) && (r_13.2 == 0)) && (r_14.2 == 0)) && (r_15.2.2 == 0))
      · rw [hb] at hf
        refine stS hf rfl rfl rfl fun a hf => ?_
        refine stS hf rfl rfl rfl fun a hf => ?_
        refine stP hf rfl rfl rfl (pPf rfl rfl) fun a hf => ?_
        exact cNil ⟨hf.keep ⟨rfl, rfl, rfl, rfl, rfl, rfl, rfl, rfl, rfl, rfl, rfl, rfl, rfl, rfl, rfl, rfl, rfl, rfl, rfl, rfl, rfl, rfl, trivial⟩, hc⟩
      · rw [hb] at hf
        refine stP hf rfl rfl rfl (pM rfl) fun a hf => ?_
        refine stP hf rfl rfl rfl (pEq rfl rfl) fun a hf => ?_
        refine stP hf rfl rfl rfl (pPt rfl rfl) fun a hf => ?_
        exact cNil ⟨hf.keep ⟨rfl, rfl, rfl, rfl, rfl, rfl, rfl, rfl, rfl, rfl, rfl, rfl, rfl, rfl, rfl, rfl, rfl, rfl, rfl, rfl, rfl, rfl, trivial⟩, hc⟩
    intro a w ⟨hf, hc⟩
    refine stP hf rfl rfl rfl (pM rfl) fun a hf => ?_
    obtain ⟨t_4, ht_4, hF⟩ := bnd_some hF
    refine stCut 4 (fun a w => Has 168 a [(2, .int .i64 r_12.2), (4, .int .i64 r_13.2), (6, .int .i64 r_14.2), (10, .int .i64 r_15.2.2), (11, .slice p_9 r_12.1.length c_9), (12, .slice p_10 r_13.1.length c_10), (13, .slice p_11 r_14.1.length c_11), (14, .pointer (some ⟨b_10, 0, none⟩)), (15, .pointer (some ⟨b_11, 0, none⟩)), (16, .int .i64 r_16.1), (17, .int .i64 r_16.2.1), (18, .int .i64 r_16.2.2), (117, .int .i64 r_12.2), (118, .bool (r_12.2 == 0)), (119, .bool (r_12.2 == 0)), (122, .bool ((r_12.2 == 0) && (r_13.2 == 0))), (123, .bool ((r_12.2 == 0) && (r_13.2 == 0))), (126, .bool (((r_12.2 == 0) && (r_13.2 == 0)) && (r_14.2 == 0))), (127, .bool (((r_12.2 == 0) && (r_13.2 == 0)) && (r_14.2 == 0))), (130, .bool ((((r_12.2 == 0) && (r_13.2 == 0)) && (r_14.2 == 0)) && (r_15.2.2 == 0))), (131, .bool ((((r_12.2 == 0) && (r_13.2 == 0)) && (r_14.2 == 0)) && (r_15.2.2 == 0))), (134, .bool (((((r_12.2 == 0) && (r_13.2 == 0)) && (r_14.2 == 0)) && (r_15.2.2 == 0)) && (r_16.2.2 == 0))), (135, .bool (((((r_12.2 == 0) && (r_13.2 == 0)) && (r_14.2 == 0)) && (r_15.2.2 == 0)) && (r_16.2.2 == 0))), (139, .bool t_4)] ∧ Ctx G (.row (some ⟨b_13, 0, none⟩) 3 (([7, 2, 0] : List Int).map encI_i64) 3 1 :: .row (some ⟨b_12, 0, none⟩) 3 (([60, 30, 10] : List Int).map encI_i64) 3 1 :: .box b_11 [.int .i64 r_15.2.1.N, .int .i64 r_15.2.1.D] 71 :: .box b_10 [.int .i64 r_15.1.N, .int .i64 r_15.1.D] 71 :: .row (some ⟨b_9, 0, none⟩) 3 (([6, 3, 0] : List Int).map encI_i64) 3 1 :: .row (some ⟨b_8, 0, none⟩) 3 (([60, 30, 10] : List Int).map encI_i64) 3 1 :: .row (some ⟨b_7, 0, none⟩) 3 (([60, 30, 10] : List Int).map encI_i64) 3 1 :: .row p_11 c_11 (r_14.1.map encI_i64) 3 1 :: .row (some ⟨b_6, 0, none⟩) 3 (([60, 30, 10] : List Int).map encI_i64) 3 1 :: .row p_10 c_10 (r_13.1.map encI_i64) 3 1 :: .row (some ⟨b_5, 0, none⟩) 6 (([20, 30, 30, 40, 40, 40] : List Int).map encI_i64) 3 1 :: .row p_9 c_9 (r_12.1.map encI_i64) 3 1 :: .row p_6 c_6 (r_7.1.Table.map enc_share_Point) 116 2 :: .row p_7 c_7 (r_7.2.map enc_share_Year) 94 5 :: .row p_8 c_8 (r_8.1.map enc_api_Span) 26 2 :: .box b_1 [.slice p_6 r_7.1.Table.length c_6, .int .i64 r_7.1.Credit] 88 :: .row p_5 c_5 (r_5.Rights.map enc_share_Right) 51 3 :: .row p_3 c_3 (r_2.Rights.map enc_share_Right) 51 3 :: .row p_4 c_4 (r_4.1.map enc_api_Span) 26 2 :: .row p_1 c_1 (r.Rights.map enc_share_Right) 51 3 :: .row p_2 c_2 (r_1.1.map encI_i64) 3 1 :: Lf) w) ?_ ?_
    · cases hb : (((((r_12.2 == 0) && (r_13.2 == 0)) && (r_14.2 == 0)) && (r_15.2.2 == 0)) && (r_16.2.2 == 0))
      · rw [hb] at hf
        have hF := condF hb ht_4
        obtain rfl := Option.some.inj hF
        refine stS hf rfl rfl rfl fun a hf => ?_
        refine stS hf rfl rfl rfl fun a hf => ?_
        refine stS hf rfl rfl rfl fun a hf => ?_
        refine stP hf rfl rfl rfl (pPf rfl rfl) fun a hf => ?_
        exact cNil ⟨hf.keep ⟨rfl, rfl, rfl, rfl, rfl, rfl, rfl, rfl, rfl, rfl, rfl, rfl, rfl, rfl, rfl, rfl, rfl, rfl, rfl, rfl, rfl, rfl, rfl, rfl, trivial⟩, hc⟩
      · rw [hb] at hf
        have hF := condT hb ht_4
        refine stP hf rfl rfl rfl (pM rfl) fun a hf => ?_
        refine stBS (rows := ([20, 20, 15, 15, 15, 15] : List Int).map encI_i64) (vs := [(0, .int .i64 20), (1, .int .i64 20), (2, .int .i64 15), (3, .int .i64 15), (4, .int .i64 15), (5, .int .i64 15)]) hf hc rfl rfl sl_36 rfl ⟨rfl, rfl, rfl, rfl, rfl, rfl, rfl, rfl, rfl, rfl, rfl, rfl, rfl, rfl, rfl, rfl, rfl, rfl, trivial⟩ rfl rfl fun b_14 a w hf hc => ?_
        obtain ⟨r_17, hr_17, hF⟩ := bnd_some hF
        refine stE hf hc rfl rfl rfl (eC (v := .bool r_17) (vs := [.slice p_9 r_12.1.length c_9, .slice (some ⟨b_14, 0, none⟩) 6 6]) (caps := []) en_20 rfl rfl rfl rfl (fun w hc => by obtain ⟨G1, hle1, hrd1, hc, hth1⟩ := lend hc k12; obtain ⟨G2, hle2, hrd2, hc, hth2⟩ := lend hc k0; exact (kit_Same_int_ok r_12.1 ([20, 20, 15, 15, 15, 15] : List Int) (hrd1.mono hle2) hrd2 hc hr_17).mono fun e w h => ⟨h.1, ((hth1 _ _ ((hth2 _ _ h.2).unpick k0)).unpick k12)⟩)) fun a w hf hc => ?_
        refine stP hf rfl rfl rfl (pPt rfl rfl) fun a hf => ?_
        replace hc := hc.drop k0
        obtain rfl := Option.some.inj hF
        exact cNil ⟨hf.keep ⟨rfl, rfl, rfl, rfl, rfl, rfl, rfl, rfl, rfl, rfl, rfl, rfl, rfl, rfl, rfl, rfl, rfl, rfl, rfl, rfl, rfl, rfl, rfl, rfl, trivial⟩, hc⟩
    intro a w ⟨hf, hc⟩
    refine stP hf rfl rfl rfl (pM rfl) fun a hf => ?_
    obtain ⟨t_5, ht_5, hF⟩ := bnd_some hF
    refine stCut 4 (fun a w => Has 168 a [(2, .int .i64 r_12.2), (4, .int .i64 r_13.2), (6, .int .i64 r_14.2), (10, .int .i64 r_15.2.2), (11, .slice p_9 r_12.1.length c_9), (12, .slice p_10 r_13.1.length c_10), (13, .slice p_11 r_14.1.length c_11), (14, .pointer (some ⟨b_10, 0, none⟩)), (15, .pointer (some ⟨b_11, 0, none⟩)), (16, .int .i64 r_16.1), (17, .int .i64 r_16.2.1), (18, .int .i64 r_16.2.2), (117, .int .i64 r_12.2), (118, .bool (r_12.2 == 0)), (119, .bool (r_12.2 == 0)), (122, .bool ((r_12.2 == 0) && (r_13.2 == 0))), (123, .bool ((r_12.2 == 0) && (r_13.2 == 0))), (126, .bool (((r_12.2 == 0) && (r_13.2 == 0)) && (r_14.2 == 0))), (127, .bool (((r_12.2 == 0) && (r_13.2 == 0)) && (r_14.2 == 0))), (130, .bool ((((r_12.2 == 0) && (r_13.2 == 0)) && (r_14.2 == 0)) && (r_15.2.2 == 0))), (131, .bool ((((r_12.2 == 0) && (r_13.2 == 0)) && (r_14.2 == 0)) && (r_15.2.2 == 0))), (134, .bool (((((r_12.2 == 0) && (r_13.2 == 0)) && (r_14.2 == 0)) && (r_15.2.2 == 0)) && (r_16.2.2 == 0))), (135, .bool (((((r_12.2 == 0) && (r_13.2 == 0)) && (r_14.2 == 0)) && (r_15.2.2 == 0)) && (r_16.2.2 == 0))), (139, .bool t_4), (140, .bool t_4), (144, .bool t_5)] ∧ Ctx G (.row (some ⟨b_13, 0, none⟩) 3 (([7, 2, 0] : List Int).map encI_i64) 3 1 :: .row (some ⟨b_12, 0, none⟩) 3 (([60, 30, 10] : List Int).map encI_i64) 3 1 :: .box b_11 [.int .i64 r_15.2.1.N, .int .i64 r_15.2.1.D] 71 :: .box b_10 [.int .i64 r_15.1.N, .int .i64 r_15.1.D] 71 :: .row (some ⟨b_9, 0, none⟩) 3 (([6, 3, 0] : List Int).map encI_i64) 3 1 :: .row (some ⟨b_8, 0, none⟩) 3 (([60, 30, 10] : List Int).map encI_i64) 3 1 :: .row (some ⟨b_7, 0, none⟩) 3 (([60, 30, 10] : List Int).map encI_i64) 3 1 :: .row p_11 c_11 (r_14.1.map encI_i64) 3 1 :: .row (some ⟨b_6, 0, none⟩) 3 (([60, 30, 10] : List Int).map encI_i64) 3 1 :: .row p_10 c_10 (r_13.1.map encI_i64) 3 1 :: .row (some ⟨b_5, 0, none⟩) 6 (([20, 30, 30, 40, 40, 40] : List Int).map encI_i64) 3 1 :: .row p_9 c_9 (r_12.1.map encI_i64) 3 1 :: .row p_6 c_6 (r_7.1.Table.map enc_share_Point) 116 2 :: .row p_7 c_7 (r_7.2.map enc_share_Year) 94 5 :: .row p_8 c_8 (r_8.1.map enc_api_Span) 26 2 :: .box b_1 [.slice p_6 r_7.1.Table.length c_6, .int .i64 r_7.1.Credit] 88 :: .row p_5 c_5 (r_5.Rights.map enc_share_Right) 51 3 :: .row p_3 c_3 (r_2.Rights.map enc_share_Right) 51 3 :: .row p_4 c_4 (r_4.1.map enc_api_Span) 26 2 :: .row p_1 c_1 (r.Rights.map enc_share_Right) 51 3 :: .row p_2 c_2 (r_1.1.map encI_i64) 3 1 :: Lf) w) ?_ ?_
    · cases hb : t_4
      · rw [hb] at hf
        have hF := condF hb ht_5
        obtain rfl := Option.some.inj hF
        refine stS hf rfl rfl rfl fun a hf => ?_
        refine stS hf rfl rfl rfl fun a hf => ?_
        refine stS hf rfl rfl rfl fun a hf => ?_
        refine stP hf rfl rfl rfl (pPf rfl rfl) fun a hf => ?_
        exact cNil ⟨hf.keep ⟨rfl, rfl, rfl, rfl, rfl, rfl, rfl, rfl, rfl, rfl, rfl, rfl, rfl, rfl, rfl, rfl, rfl, rfl, rfl, rfl, rfl, rfl, rfl, rfl, rfl, rfl, trivial⟩, hc⟩
      · rw [hb] at hf
        have hF := condT hb ht_5
        refine stP hf rfl rfl rfl (pM rfl) fun a hf => ?_
        refine stBS (rows := ([6, 3, 0] : List Int).map encI_i64) (vs := [(0, .int .i64 6), (1, .int .i64 3), (2, .int .i64 0)]) hf hc rfl rfl sl_36 rfl ⟨rfl, rfl, rfl, rfl, rfl, rfl, rfl, rfl, rfl, trivial⟩ rfl rfl fun b_15 a w hf hc => ?_
        obtain ⟨r_18, hr_18, hF⟩ := bnd_some hF
        refine stE hf hc rfl rfl rfl (eC (v := .bool r_18) (vs := [.slice p_10 r_13.1.length c_10, .slice (some ⟨b_15, 0, none⟩) 3 3]) (caps := []) en_20 rfl rfl rfl rfl (fun w hc => by obtain ⟨G1, hle1, hrd1, hc, hth1⟩ := lend hc k10; obtain ⟨G2, hle2, hrd2, hc, hth2⟩ := lend hc k0; exact (kit_Same_int_ok r_13.1 ([6, 3, 0] : List Int) (hrd1.mono hle2) hrd2 hc hr_18).mono fun e w h => ⟨h.1, ((hth1 _ _ ((hth2 _ _ h.2).unpick k0)).unpick k10)⟩)) fun a w hf hc => ?_
        refine stP hf rfl rfl rfl (pPt rfl rfl) fun a hf => ?_
        replace hc := hc.drop k0
        obtain rfl := Option.some.inj hF
        exact cNil ⟨hf.keep ⟨rfl, rfl, rfl, rfl, rfl, rfl, rfl, rfl, rfl, rfl, rfl, rfl, rfl, rfl, rfl, rfl, rfl, rfl, rfl, rfl, rfl, rfl, rfl, rfl, rfl, rfl, trivial⟩, hc⟩
    intro a w ⟨hf, hc⟩
    refine stP hf rfl rfl rfl (pM rfl) fun a hf => ?_
    obtain ⟨t_6, ht_6, hF⟩ := bnd_some hF
    refine stCut 4 (fun a w => Has 168 a [(2, .int .i64 r_12.2), (4, .int .i64 r_13.2), (6, .int .i64 r_14.2), (10, .int .i64 r_15.2.2), (11, .slice p_9 r_12.1.length c_9), (12, .slice p_10 r_13.1.length c_10), (13, .slice p_11 r_14.1.length c_11), (14, .pointer (some ⟨b_10, 0, none⟩)), (15, .pointer (some ⟨b_11, 0, none⟩)), (16, .int .i64 r_16.1), (17, .int .i64 r_16.2.1), (18, .int .i64 r_16.2.2), (117, .int .i64 r_12.2), (118, .bool (r_12.2 == 0)), (119, .bool (r_12.2 == 0)), (122, .bool ((r_12.2 == 0) && (r_13.2 == 0))), (123, .bool ((r_12.2 == 0) && (r_13.2 == 0))), (126, .bool (((r_12.2 == 0) && (r_13.2 == 0)) && (r_14.2 == 0))), (127, .bool (((r_12.2 == 0) && (r_13.2 == 0)) && (r_14.2 == 0))), (130, .bool ((((r_12.2 == 0) && (r_13.2 == 0)) && (r_14.2 == 0)) && (r_15.2.2 == 0))), (131, .bool ((((r_12.2 == 0) && (r_13.2 == 0)) && (r_14.2 == 0)) && (r_15.2.2 == 0))), (134, .bool (((((r_12.2 == 0) && (r_13.2 == 0)) && (r_14.2 == 0)) && (r_15.2.2 == 0)) && (r_16.2.2 == 0))), (135, .bool (((((r_12.2 == 0) && (r_13.2 == 0)) && (r_14.2 == 0)) && (r_15.2.2 == 0)) && (r_16.2.2 == 0))), (139, .bool t_4), (140, .bool t_4), (144, .bool t_5), (145, .bool t_5), (149, .bool t_6)] ∧ Ctx G (.row (some ⟨b_13, 0, none⟩) 3 (([7, 2, 0] : List Int).map encI_i64) 3 1 :: .row (some ⟨b_12, 0, none⟩) 3 (([60, 30, 10] : List Int).map encI_i64) 3 1 :: .box b_11 [.int .i64 r_15.2.1.N, .int .i64 r_15.2.1.D] 71 :: .box b_10 [.int .i64 r_15.1.N, .int .i64 r_15.1.D] 71 :: .row (some ⟨b_9, 0, none⟩) 3 (([6, 3, 0] : List Int).map encI_i64) 3 1 :: .row (some ⟨b_8, 0, none⟩) 3 (([60, 30, 10] : List Int).map encI_i64) 3 1 :: .row (some ⟨b_7, 0, none⟩) 3 (([60, 30, 10] : List Int).map encI_i64) 3 1 :: .row p_11 c_11 (r_14.1.map encI_i64) 3 1 :: .row (some ⟨b_6, 0, none⟩) 3 (([60, 30, 10] : List Int).map encI_i64) 3 1 :: .row p_10 c_10 (r_13.1.map encI_i64) 3 1 :: .row (some ⟨b_5, 0, none⟩) 6 (([20, 30, 30, 40, 40, 40] : List Int).map encI_i64) 3 1 :: .row p_9 c_9 (r_12.1.map encI_i64) 3 1 :: .row p_6 c_6 (r_7.1.Table.map enc_share_Point) 116 2 :: .row p_7 c_7 (r_7.2.map enc_share_Year) 94 5 :: .row p_8 c_8 (r_8.1.map enc_api_Span) 26 2 :: .box b_1 [.slice p_6 r_7.1.Table.length c_6, .int .i64 r_7.1.Credit] 88 :: .row p_5 c_5 (r_5.Rights.map enc_share_Right) 51 3 :: .row p_3 c_3 (r_2.Rights.map enc_share_Right) 51 3 :: .row p_4 c_4 (r_4.1.map enc_api_Span) 26 2 :: .row p_1 c_1 (r.Rights.map enc_share_Right) 51 3 :: .row p_2 c_2 (r_1.1.map encI_i64) 3 1 :: Lf) w) ?_ ?_
    · cases hb : t_5
      · rw [hb] at hf
        have hF := condF hb ht_6
        obtain rfl := Option.some.inj hF
        refine stS hf rfl rfl rfl fun a hf => ?_
        refine stS hf rfl rfl rfl fun a hf => ?_
        refine stS hf rfl rfl rfl fun a hf => ?_
        refine stP hf rfl rfl rfl (pPf rfl rfl) fun a hf => ?_
        exact cNil ⟨hf.keep ⟨rfl, rfl, rfl, rfl, rfl, rfl, rfl, rfl, rfl, rfl, rfl, rfl, rfl, rfl, rfl, rfl, rfl, rfl, rfl, rfl, rfl, rfl, rfl, rfl, rfl, rfl, rfl, rfl, trivial⟩, hc⟩
      · rw [hb] at hf
        have hF := condT hb ht_6
        refine stP hf rfl rfl rfl (pM rfl) fun a hf => ?_
        refine stBS (rows := ([5, 3, 1] : List Int).map encI_i64) (vs := [(0, .int .i64 5), (1, .int .i64 3), (2, .int .i64 1)]) hf hc rfl rfl sl_36 rfl ⟨rfl, rfl, rfl, rfl, rfl, rfl, rfl, rfl, rfl, trivial⟩ rfl rfl fun b_16 a w hf hc => ?_
        obtain ⟨r_19, hr_19, hF⟩ := bnd_some hF
        refine stE hf hc rfl rfl rfl (eC (v := .bool r_19) (vs := [.slice p_11 r_14.1.length c_11, .slice (some ⟨b_16, 0, none⟩) 3 3]) (caps := []) en_20 rfl rfl rfl rfl (fun w hc => by obtain ⟨G1, hle1, hrd1, hc, hth1⟩ := lend hc k8; obtain ⟨G2, hle2, hrd2, hc, hth2⟩ := lend hc k0; exact (kit_Same_int_ok r_14.1 ([5, 3, 1] : List Int) (hrd1.mono hle2) hrd2 hc hr_19).mono fun e w h => ⟨h.1, ((hth1 _ _ ((hth2 _ _ h.2).unpick k0)).unpick k8)⟩)) fun a w hf hc => ?_
        refine stP hf rfl rfl rfl (pPt rfl rfl) fun a hf => ?_
        replace hc := hc.drop k0
        obtain rfl := Option.some.inj hF
        exact cNil ⟨hf.keep ⟨rfl, rfl, rfl, rfl, rfl, rfl, rfl, rfl, rfl, rfl, rfl, rfl, rfl, rfl, rfl, rfl, rfl, rfl, rfl, rfl, rfl, rfl, rfl, rfl, rfl, rfl, rfl, rfl, trivial⟩, hc⟩
    intro a w ⟨hf, hc⟩
    refine stP hf rfl rfl rfl (pM rfl) fun a hf => ?_
    refine stCut 4 (fun a w => Has 168 a ((2, .int .i64 r_12.2) :: (4, .int .i64 r_13.2) :: (6, .int .i64 r_14.2) :: (10, .int .i64 r_15.2.2) :: (11, .slice p_9 r_12.1.length c_9) :: (12, .slice p_10 r_13.1.length c_10) :: (13, .slice p_11 r_14.1.length c_11) :: (14, .pointer (some ⟨b_10, 0, none⟩)) :: (15, .pointer (some ⟨b_11, 0, none⟩)) :: (16, .int .i64 r_16.1) :: (17, .int .i64 r_16.2.1) :: (18, .int .i64 r_16.2.2) :: (117, .int .i64 r_12.2) :: (118, .bool (r_12.2 == 0)) :: (119, .bool (r_12.2 == 0)) :: (122, .bool ((r_12.2 == 0) && (r_13.2 == 0))) :: (123, .bool ((r_12.2 == 0) && (r_13.2 == 0))) :: (126, .bool (((r_12.2 == 0) && (r_13.2 == 0)) && (r_14.2 == 0))) :: (127, .bool (((r_12.2 == 0) && (r_13.2 == 0)) && (r_14.2 == 0))) :: (130, .bool ((((r_12.2 == 0) && (r_13.2 == 0)) && (r_14.2 == 0)) && (r_15.2.2 == 0))) :: (131, .bool ((((r_12.2 == 0) && (r_13.2 == 0)) && (r_14.2 == 0)) && (r_15.2.2 == 0))) :: (134, .bool (((((r_12.2 == 0) && (r_13.2 == 0)) && (r_14.2 == 0)) && (r_15.2.2 == 0)) && (r_16.2.2 == 0))) :: (135, .bool (((((r_12.2 == 0) && (r_13.2 == 0)) && (r_14.2 == 0)) && (r_15.2.2 == 0)) && (r_16.2.2 == 0))) :: (139, .bool t_4) :: (140, .bool t_4) :: (144, .bool t_5) :: (145, .bool t_5) :: (149, .bool t_6) :: (150, .bool t_6) :: (154, .bool (t_6 && (r_15.1.N == 10 && r_15.1.D == 1))) :: []) ∧ Ctx G (.row (some ⟨b_13, 0, none⟩) 3 (([7, 2, 0] : List Int).map encI_i64) 3 1 :: .row (some ⟨b_12, 0, none⟩) 3 (([60, 30, 10] : List Int).map encI_i64) 3 1 :: .box b_11 [.int .i64 r_15.2.1.N, .int .i64 r_15.2.1.D] 71 :: .box b_10 [.int .i64 r_15.1.N, .int .i64 r_15.1.D] 71 :: .row (some ⟨b_9, 0, none⟩) 3 (([6, 3, 0] : List Int).map encI_i64) 3 1 :: .row (some ⟨b_8, 0, none⟩) 3 (([60, 30, 10] : List Int).map encI_i64) 3 1 :: .row (some ⟨b_7, 0, none⟩) 3 (([60, 30, 10] : List Int).map encI_i64) 3 1 :: .row p_11 c_11 (r_14.1.map encI_i64) 3 1 :: .row (some ⟨b_6, 0, none⟩) 3 (([60, 30, 10] : List Int).map encI_i64) 3 1 :: .row p_10 c_10 (r_13.1.map encI_i64) 3 1 :: .row (some ⟨b_5, 0, none⟩) 6 (([20, 30, 30, 40, 40, 40] : List Int).map encI_i64) 3 1 :: .row p_9 c_9 (r_12.1.map encI_i64) 3 1 :: .row p_6 c_6 (r_7.1.Table.map enc_share_Point) 116 2 :: .row p_7 c_7 (r_7.2.map enc_share_Year) 94 5 :: .row p_8 c_8 (r_8.1.map enc_api_Span) 26 2 :: .box b_1 [.slice p_6 r_7.1.Table.length c_6, .int .i64 r_7.1.Credit] 88 :: .row p_5 c_5 (r_5.Rights.map enc_share_Right) 51 3 :: .row p_3 c_3 (r_2.Rights.map enc_share_Right) 51 3 :: .row p_4 c_4 (r_4.1.map enc_api_Span) 26 2 :: .row p_1 c_1 (r.Rights.map enc_share_Right) 51 3 :: .row p_2 c_2 (r_1.1.map encI_i64) 3 1 :: Lf) w) ?_ ?_
    · cases hb : t_6
      · rw [hb] at hf
        refine stS hf rfl rfl rfl fun a hf => ?_
        refine stS hf rfl rfl rfl fun a hf => ?_
        refine stS hf rfl rfl rfl fun a hf => ?_
        refine stP hf rfl rfl rfl (pPf rfl rfl) fun a hf => ?_
        exact cNil ⟨hf.keep ⟨rfl, rfl, rfl, rfl, rfl, rfl, rfl, rfl, rfl, rfl, rfl, rfl, rfl, rfl, rfl, rfl, rfl, rfl, rfl, rfl, rfl, rfl, rfl, rfl, rfl, rfl, rfl, rfl, rfl, rfl, trivial⟩, hc⟩
      · rw [hb] at hf
        refine stE hf hc rfl rfl rfl (eLdN (vs := [.int .i64 r_15.1.N, .int .i64 r_15.1.D]) ag_71 rfl rfl (cells_box (n := 2) m3 rfl)) fun a w hf hc => ?_
        refine stP hf rfl rfl rfl (pBuildS (cells := [.int .i64 10, .int .i64 1]) bt_71 rfl rfl) fun a hf => ?_
        refine stP hf rfl rfl rfl (pEqA ge_71 rfl rfl (eqs_71 _ _ _ _)) fun a hf => ?_
        refine stP hf rfl rfl rfl (pPt rfl rfl) fun a hf => ?_
        exact cNil ⟨hf.keep ⟨rfl, rfl, rfl, rfl, rfl, rfl, rfl, rfl, rfl, rfl, rfl, rfl, rfl, rfl, rfl, rfl, rfl, rfl, rfl, rfl, rfl, rfl, rfl, rfl, rfl, rfl, rfl, rfl, rfl, rfl, trivial⟩, hc⟩
    intro a w ⟨hf, hc⟩
    refine stP hf rfl rfl rfl (pM rfl) fun a hf => ?_
    refine stCut 4 (fun a w => Has 168 a ((2, .int .i64 r_12.2) :: (4, .int .i64 r_13.2) :: (6, .int .i64 r_14.2) :: (10, .int .i64 r_15.2.2) :: (11, .slice p_9 r_12.1.length c_9) :: (12, .slice p_10 r_13.1.length c_10) :: (13, .slice p_11 r_14.1.length c_11) :: (14, .pointer (some ⟨b_10, 0, none⟩)) :: (15, .pointer (some ⟨b_11, 0, none⟩)) :: (16, .int .i64 r_16.1) :: (17, .int .i64 r_16.2.1) :: (18, .int .i64 r_16.2.2) :: (117, .int .i64 r_12.2) :: (118, .bool (r_12.2 == 0)) :: (119, .bool (r_12.2 == 0)) :: (122, .bool ((r_12.2 == 0) && (r_13.2 == 0))) :: (123, .bool ((r_12.2 == 0) && (r_13.2 == 0))) :: (126, .bool (((r_12.2 == 0) && (r_13.2 == 0)) && (r_14.2 == 0))) :: (127, .bool (((r_12.2 == 0) && (r_13.2 == 0)) && (r_14.2 == 0))) :: (130, .bool ((((r_12.2 == 0) && (r_13.2 == 0)) && (r_14.2 == 0)) && (r_15.2.2 == 0))) :: (131, .bool ((((r_12.2 == 0) && (r_13.2 == 0)) && (r_14.2 == 0)) && (r_15.2.2 == 0))) :: (134, .bool (((((r_12.2 == 0) && (r_13.2 == 0)) && (r_14.2 == 0)) && (r_15.2.2 == 0)) && (r_16.2.2 == 0))) :: (135, .bool (((((r_12.2 == 0) && (r_13.2 == 0)) && (r_14.2 == 0)) && (r_15.2.2 == 0)) && (r_16.2.2 == 0))) :: (139, .bool t_4) :: (140, .bool t_4) :: (144, .bool t_5) :: (145, .bool t_5) :: (149, .bool t_6) :: (150, .bool t_6) :: (154, .bool (t_6 && (r_15.1.N == 10 && r_15.1.D == 1))) :: (155, .bool (t_6 && (r_15.1.N == 10 && r_15.1.D == 1))) :: (159, .bool ((t_6 && (r_15.1.N == 10 && r_15.1.D == 1)) && (r_15.2.1.N == r_15.1.N && r_15.2.1.D == r_15.1.D))) :: []) ∧ Ctx G (.row (some ⟨b_13, 0, none⟩) 3 (([7, 2, 0] : List Int).map encI_i64) 3 1 :: .row (some ⟨b_12, 0, none⟩) 3 (([60, 30, 10] : List Int).map encI_i64) 3 1 :: .box b_11 [.int .i64 r_15.2.1.N, .int .i64 r_15.2.1.D] 71 :: .box b_10 [.int .i64 r_15.1.N, .int .i64 r_15.1.D] 71 :: .row (some ⟨b_9, 0, none⟩) 3 (([6, 3, 0] : List Int).map encI_i64) 3 1 :: .row (some ⟨b_8, 0, none⟩) 3 (([60, 30, 10] : List Int).map encI_i64) 3 1 :: .row (some ⟨b_7, 0, none⟩) 3 (([60, 30, 10] : List Int).map encI_i64) 3 1 :: .row p_11 c_11 (r_14.1.map encI_i64) 3 1 :: .row (some ⟨b_6, 0, none⟩) 3 (([60, 30, 10] : List Int).map encI_i64) 3 1 :: .row p_10 c_10 (r_13.1.map encI_i64) 3 1 :: .row (some ⟨b_5, 0, none⟩) 6 (([20, 30, 30, 40, 40, 40] : List Int).map encI_i64) 3 1 :: .row p_9 c_9 (r_12.1.map encI_i64) 3 1 :: .row p_6 c_6 (r_7.1.Table.map enc_share_Point) 116 2 :: .row p_7 c_7 (r_7.2.map enc_share_Year) 94 5 :: .row p_8 c_8 (r_8.1.map enc_api_Span) 26 2 :: .box b_1 [.slice p_6 r_7.1.Table.length c_6, .int .i64 r_7.1.Credit] 88 :: .row p_5 c_5 (r_5.Rights.map enc_share_Right) 51 3 :: .row p_3 c_3 (r_2.Rights.map enc_share_Right) 51 3 :: .row p_4 c_4 (r_4.1.map enc_api_Span) 26 2 :: .row p_1 c_1 (r.Rights.map enc_share_Right) 51 3 :: .row p_2 c_2 (r_1.1.map encI_i64) 3 1 :: Lf) w) ?_ ?_
    · cases hb : (t_6 && (r_15.1.N == 10 && r_15.1.D == 1))
      · rw [hb] at hf
        refine stS hf rfl rfl rfl fun a hf => ?_
        refine stS hf rfl rfl rfl fun a hf => ?_
        refine stS hf rfl rfl rfl fun a hf => ?_
        refine stP hf rfl rfl rfl (pPf rfl rfl) fun a hf => ?_
        exact cNil ⟨hf.keep ⟨rfl, rfl, rfl, rfl, rfl, rfl, rfl, rfl, rfl, rfl, rfl, rfl, rfl, rfl, rfl, rfl, rfl, rfl, rfl, rfl, rfl, rfl, rfl, rfl, rfl, rfl, rfl, rfl, rfl, rfl, rfl, rfl, trivial⟩, hc⟩
      · rw [hb] at hf
        refine stE hf hc rfl rfl rfl (eLdN (vs := [.int .i64 r_15.2.1.N, .int .i64 r_15.2.1.D]) ag_71 rfl rfl (cells_box (n := 2) m2 rfl)) fun a w hf hc => ?_
        refine stE hf hc rfl rfl rfl (eLdN (vs := [.int .i64 r_15.1.N, .int .i64 r_15.1.D]) ag_71 rfl rfl (cells_box (n := 2) m3 rfl)) fun a w hf hc => ?_
        refine stP hf rfl rfl rfl (pEqA ge_71 rfl rfl (eqs_71 _ _ _ _)) fun a hf => ?_
        refine stP hf rfl rfl rfl (pPt rfl rfl) fun a hf => ?_
        exact cNil ⟨hf.keep ⟨rfl, rfl, rfl, rfl, rfl, rfl, rfl, rfl, rfl, rfl, rfl, rfl, rfl, rfl, rfl, rfl, rfl, rfl, rfl, rfl, rfl, rfl, rfl, rfl, rfl, rfl, rfl, rfl, rfl, rfl, rfl, rfl, trivial⟩, hc⟩
    intro a w ⟨hf, hc⟩
    refine stP hf rfl rfl rfl (pM rfl) fun a hf => ?_
    refine stCut 3 (fun a w => Has 168 a ((2, .int .i64 r_12.2) :: (4, .int .i64 r_13.2) :: (6, .int .i64 r_14.2) :: (10, .int .i64 r_15.2.2) :: (11, .slice p_9 r_12.1.length c_9) :: (12, .slice p_10 r_13.1.length c_10) :: (13, .slice p_11 r_14.1.length c_11) :: (14, .pointer (some ⟨b_10, 0, none⟩)) :: (15, .pointer (some ⟨b_11, 0, none⟩)) :: (16, .int .i64 r_16.1) :: (17, .int .i64 r_16.2.1) :: (18, .int .i64 r_16.2.2) :: (117, .int .i64 r_12.2) :: (118, .bool (r_12.2 == 0)) :: (119, .bool (r_12.2 == 0)) :: (122, .bool ((r_12.2 == 0) && (r_13.2 == 0))) :: (123, .bool ((r_12.2 == 0) && (r_13.2 == 0))) :: (126, .bool (((r_12.2 == 0) && (r_13.2 == 0)) && (r_14.2 == 0))) :: (127, .bool (((r_12.2 == 0) && (r_13.2 == 0)) && (r_14.2 == 0))) :: (130, .bool ((((r_12.2 == 0) && (r_13.2 == 0)) && (r_14.2 == 0)) && (r_15.2.2 == 0))) :: (131, .bool ((((r_12.2 == 0) && (r_13.2 == 0)) && (r_14.2 == 0)) && (r_15.2.2 == 0))) :: (134, .bool (((((r_12.2 == 0) && (r_13.2 == 0)) && (r_14.2 == 0)) && (r_15.2.2 == 0)) && (r_16.2.2 == 0))) :: (135, .bool (((((r_12.2 == 0) && (r_13.2 == 0)) && (r_14.2 == 0)) && (r_15.2.2 == 0)) && (r_16.2.2 == 0))) :: (139, .bool t_4) :: (140, .bool t_4) :: (144, .bool t_5) :: (145, .bool t_5) :: (149, .bool t_6) :: (150, .bool t_6) :: (154, .bool (t_6 && (r_15.1.N == 10 && r_15.1.D == 1))) :: (155, .bool (t_6 && (r_15.1.N == 10 && r_15.1.D == 1))) :: (159, .bool ((t_6 && (r_15.1.N == 10 && r_15.1.D == 1)) && (r_15.2.1.N == r_15.1.N && r_15.2.1.D == r_15.1.D))) :: (160, .bool ((t_6 && (r_15.1.N == 10 && r_15.1.D == 1)) && (r_15.2.1.N == r_15.1.N && r_15.2.1.D == r_15.1.D))) :: (163, .bool (((t_6 && (r_15.1.N == 10 && r_15.1.D == 1)) && (r_15.2.1.N == r_15.1.N && r_15.2.1.D == r_15.1.D)) && (r_16.1 == 0))) :: []) ∧ Ctx G (.row (some ⟨b_13, 0, none⟩) 3 (([7, 2, 0] : List Int).map encI_i64) 3 1 :: .row (some ⟨b_12, 0, none⟩) 3 (([60, 30, 10] : List Int).map encI_i64) 3 1 :: .box b_11 [.int .i64 r_15.2.1.N, .int .i64 r_15.2.1.D] 71 :: .box b_10 [.int .i64 r_15.1.N, .int .i64 r_15.1.D] 71 :: .row (some ⟨b_9, 0, none⟩) 3 (([6, 3, 0] : List Int).map encI_i64) 3 1 :: .row (some ⟨b_8, 0, none⟩) 3 (([60, 30, 10] : List Int).map encI_i64) 3 1 :: .row (some ⟨b_7, 0, none⟩) 3 (([60, 30, 10] : List Int).map encI_i64) 3 1 :: .row p_11 c_11 (r_14.1.map encI_i64) 3 1 :: .row (some ⟨b_6, 0, none⟩) 3 (([60, 30, 10] : List Int).map encI_i64) 3 1 :: .row p_10 c_10 (r_13.1.map encI_i64) 3 1 :: .row (some ⟨b_5, 0, none⟩) 6 (([20, 30, 30, 40, 40, 40] : List Int).map encI_i64) 3 1 :: .row p_9 c_9 (r_12.1.map encI_i64) 3 1 :: .row p_6 c_6 (r_7.1.Table.map enc_share_Point) 116 2 :: .row p_7 c_7 (r_7.2.map enc_share_Year) 94 5 :: .row p_8 c_8 (r_8.1.map enc_api_Span) 26 2 :: .box b_1 [.slice p_6 r_7.1.Table.length c_6, .int .i64 r_7.1.Credit] 88 :: .row p_5 c_5 (r_5.Rights.map enc_share_Right) 51 3 :: .row p_3 c_3 (r_2.Rights.map enc_share_Right) 51 3 :: .row p_4 c_4 (r_4.1.map enc_api_Span) 26 2 :: .row p_1 c_1 (r.Rights.map enc_share_Right) 51 3 :: .row p_2 c_2 (r_1.1.map encI_i64) 3 1 :: Lf) w) ?_ ?_
    · cases hb : ((t_6 && (r_15.1.N == 10 && r_15.1.D == 1)) && (r_15.2.1.N == r_15.1.N && r_15.2.1.D == r_15.1.D))
      · rw [hb] at hf
        refine stS hf rfl rfl rfl fun a hf => ?_
        refine stS hf rfl rfl rfl fun a hf => ?_
        refine stP hf rfl rfl rfl (pPf rfl rfl) fun a hf => ?_
        exact cNil ⟨hf.keep ⟨rfl, rfl, rfl, rfl, rfl, rfl, rfl, rfl, rfl, rfl, rfl, rfl, rfl, rfl, rfl, rfl, rfl, rfl, rfl, rfl, rfl, rfl, rfl, rfl, rfl, rfl, rfl, rfl, rfl, rfl, rfl, rfl, rfl, rfl, trivial⟩, hc⟩
      · rw [hb] at hf
        refine stP hf rfl rfl rfl (pM rfl) fun a hf => ?_
        refine stP hf rfl rfl rfl (pEq rfl rfl) fun a hf => ?_
        refine stP hf rfl rfl rfl (pPt rfl rfl) fun a hf => ?_
        exact cNil ⟨hf.keep ⟨rfl, rfl, rfl, rfl, rfl, rfl, rfl, rfl, rfl, rfl, rfl, rfl, rfl, rfl, rfl, rfl, rfl, rfl, rfl, rfl, rfl, rfl, rfl, rfl, rfl, rfl, rfl, rfl, rfl, rfl, rfl, rfl, rfl, rfl, trivial⟩, hc⟩
    intro a w ⟨hf, hc⟩
    refine stP hf rfl rfl rfl (pM rfl) fun a hf => ?_
    refine stCut 3 (fun a w => Has 168 a ((2, .int .i64 r_12.2) :: (4, .int .i64 r_13.2) :: (6, .int .i64 r_14.2) :: (10, .int .i64 r_15.2.2) :: (11, .slice p_9 r_12.1.length c_9) :: (12, .slice p_10 r_13.1.length c_10) :: (13, .slice p_11 r_14.1.length c_11) :: (14, .pointer (some ⟨b_10, 0, none⟩)) :: (15, .pointer (some ⟨b_11, 0, none⟩)) :: (16, .int .i64 r_16.1) :: (17, .int .i64 r_16.2.1) :: (18, .int .i64 r_16.2.2) :: (117, .int .i64 r_12.2) :: (118, .bool (r_12.2 == 0)) :: (119, .bool (r_12.2 == 0)) :: (122, .bool ((r_12.2 == 0) && (r_13.2 == 0))) :: (123, .bool ((r_12.2 == 0) && (r_13.2 == 0))) :: (126, .bool (((r_12.2 == 0) && (r_13.2 == 0)) && (r_14.2 == 0))) :: (127, .bool (((r_12.2 == 0) && (r_13.2 == 0)) && (r_14.2 == 0))) :: (130, .bool ((((r_12.2 == 0) && (r_13.2 == 0)) && (r_14.2 == 0)) && (r_15.2.2 == 0))) :: (131, .bool ((((r_12.2 == 0) && (r_13.2 == 0)) && (r_14.2 == 0)) && (r_15.2.2 == 0))) :: (134, .bool (((((r_12.2 == 0) && (r_13.2 == 0)) && (r_14.2 == 0)) && (r_15.2.2 == 0)) && (r_16.2.2 == 0))) :: (135, .bool (((((r_12.2 == 0) && (r_13.2 == 0)) && (r_14.2 == 0)) && (r_15.2.2 == 0)) && (r_16.2.2 == 0))) :: (139, .bool t_4) :: (140, .bool t_4) :: (144, .bool t_5) :: (145, .bool t_5) :: (149, .bool t_6) :: (150, .bool t_6) :: (154, .bool (t_6 && (r_15.1.N == 10 && r_15.1.D == 1))) :: (155, .bool (t_6 && (r_15.1.N == 10 && r_15.1.D == 1))) :: (159, .bool ((t_6 && (r_15.1.N == 10 && r_15.1.D == 1)) && (r_15.2.1.N == r_15.1.N && r_15.2.1.D == r_15.1.D))) :: (160, .bool ((t_6 && (r_15.1.N == 10 && r_15.1.D == 1)) && (r_15.2.1.N == r_15.1.N && r_15.2.1.D == r_15.1.D))) :: (163, .bool (((t_6 && (r_15.1.N == 10 && r_15.1.D == 1)) && (r_15.2.1.N == r_15.1.N && r_15.2.1.D == r_15.1.D)) && (r_16.1 == 0))) :: (164, .bool (((t_6 && (r_15.1.N == 10 && r_15.1.D == 1)) && (r_15.2.1.N == r_15.1.N && r_15.2.1.D == r_15.1.D)) && (r_16.1 == 0))) :: (167, .bool ((((t_6 && (r_15.1.N == 10 && r_15.1.D == 1)) && (r_15.2.1.N == r_15.1.N && r_15.2.1.D == r_15.1.D)) && (r_16.1 == 0)) && (r_16.2.1 == 1))) :: []) ∧ Ctx G (.row (some ⟨b_13, 0, none⟩) 3 (([7, 2, 0] : List Int).map encI_i64) 3 1 :: .row (some ⟨b_12, 0, none⟩) 3 (([60, 30, 10] : List Int).map encI_i64) 3 1 :: .box b_11 [.int .i64 r_15.2.1.N, .int .i64 r_15.2.1.D] 71 :: .box b_10 [.int .i64 r_15.1.N, .int .i64 r_15.1.D] 71 :: .row (some ⟨b_9, 0, none⟩) 3 (([6, 3, 0] : List Int).map encI_i64) 3 1 :: .row (some ⟨b_8, 0, none⟩) 3 (([60, 30, 10] : List Int).map encI_i64) 3 1 :: .row (some ⟨b_7, 0, none⟩) 3 (([60, 30, 10] : List Int).map encI_i64) 3 1 :: .row p_11 c_11 (r_14.1.map encI_i64) 3 1 :: .row (some ⟨b_6, 0, none⟩) 3 (([60, 30, 10] : List Int).map encI_i64) 3 1 :: .row p_10 c_10 (r_13.1.map encI_i64) 3 1 :: .row (some ⟨b_5, 0, none⟩) 6 (([20, 30, 30, 40, 40, 40] : List Int).map encI_i64) 3 1 :: .row p_9 c_9 (r_12.1.map encI_i64) 3 1 :: .row p_6 c_6 (r_7.1.Table.map enc_share_Point) 116 2 :: .row p_7 c_7 (r_7.2.map enc_share_Year) 94 5 :: .row p_8 c_8 (r_8.1.map enc_api_Span) 26 2 :: .box b_1 [.slice p_6 r_7.1.Table.length c_6, .int .i64 r_7.1.Credit] 88 :: .row p_5 c_5 (r_5.Rights.map enc_share_Right) 51 3 :: .row p_3 c_3 (r_2.Rights.map enc_share_Right) 51 3 :: .row p_4 c_4 (r_4.1.map enc_api_Span) 26 2 :: .row p_1 c_1 (r.Rights.map enc_share_Right) 51 3 :: .row p_2 c_2 (r_1.1.map encI_i64) 3 1 :: Lf) w) ?_ ?_
    · cases hb : (((t_6 && (r_15.1.N == 10 && r_15.1.D == 1)) && (r_15.2.1.N == r_15.1.N && r_15.2.1.D == r_15.1.D)) && (r_16.1 == 0))
      · rw [hb] at hf
        refine stS hf rfl rfl rfl fun a hf => ?_
        refine stS hf rfl rfl rfl fun a hf => ?_
        refine stP hf rfl rfl rfl (pPf rfl rfl) fun a hf => ?_
        exact cNil ⟨hf.keep ⟨rfl, rfl, rfl, rfl, rfl, rfl, rfl, rfl, rfl, rfl, rfl, rfl, rfl, rfl, rfl, rfl, rfl, rfl, rfl, rfl, rfl, rfl, rfl, rfl, rfl, rfl, rfl, rfl, rfl, rfl, rfl, rfl, rfl, rfl, rfl, rfl, trivial⟩, hc⟩
      · rw [hb] at hf
        refine stP hf rfl rfl rfl (pM rfl) fun a hf => ?_
        refine stP hf rfl rfl rfl (pEq rfl rfl) fun a hf => ?_
        refine stP hf rfl rfl rfl (pPt rfl rfl) fun a hf => ?_
        exact cNil ⟨hf.keep ⟨rfl, rfl, rfl, rfl, rfl, rfl, rfl, rfl, rfl, rfl, rfl, rfl, rfl, rfl, rfl, rfl, rfl, rfl, rfl, rfl, rfl, rfl, rfl, rfl, rfl, rfl, rfl, rfl, rfl, rfl, rfl, rfl, rfl, rfl, rfl, rfl, trivial⟩, hc⟩
    intro a w ⟨hf, hc⟩
    refine stP hf rfl rfl rfl (pA rfl) fun a hf => ?_
    refine cNil ?_
    refine h15 _ _ ?_
    refine wp_ret ?_
    obtain rfl := Option.some.inj hF
    replace hc := hc.drop k20
    replace hc := hc.drop k19
    replace hc := hc.drop k18
    replace hc := hc.drop k17
    replace hc := hc.drop k16
    replace hc := hc.drop k15
    replace hc := hc.drop k14
    replace hc := hc.drop k13
    replace hc := hc.drop k12
    replace hc := hc.drop k11
    replace hc := hc.drop k10
    replace hc := hc.drop k9
    replace hc := hc.drop k8
    replace hc := hc.drop k7
    replace hc := hc.drop k6
    replace hc := hc.drop k5
    replace hc := hc.drop k4
    replace hc := hc.drop k3
    replace hc := hc.drop k2
    replace hc := hc.drop k1
    replace hc := hc.drop k0
    exact fnOut1 (by simp) rfl Try.results13 hf hc (show look _ 0 = _ from rfl) ⟨rfl, hc⟩

def kit_Copy_int (N : Nat) (l : List Int) : Option ((List Int)) :=
  Option.bind (room (l).length) fun un =>
  some l
theorem kit_Copy_int_ok {N : Nat} {G : Pers} {Lf : List Ent} {w : World} (l : List Int) {l_p : Option Addr} {l_c : Nat} (h_l : Rd G 1 l_p l_c (l.map encI_i64)) (hc : Ctx G (Lf) w) {res : (List Int)} (hF : kit_Copy_int N l = some res) : Calls Try.prog 32 #[.slice l_p l.length l_c] w (fun e w => ∃ (p'1 : Option Addr) (c'1 : Nat), e = .returned (.slice p'1 res.length c'1) ∧ Ctx G (.row p'1 c'1 (res.map encI_i64) 3 1 :: Lf) w) := by
  unfold kit_Copy_int at hF
  refine fnIn (args := [.slice l_p l.length l_c]) Try.func32 rfl Try.ntmps32 rfl fun a hf => ?_
  refine wp_seq_k fun K1 h1 => ?_
  refine cReg ?_
  refine stP hf rfl rfl rfl (pA rfl) fun a hf => ?_
  refine cNil ?_
  refine h1 _ _ ?_
  refine wp_seq_k fun K2 h2 => ?_
  refine cReg ?_
  refine stP hf rfl rfl rfl (pA rfl) fun a hf => ?_
  refine cNil ?_
  refine h2 _ _ ?_
  refine wp_seq_k fun K3 h3 => ?_
  refine cReg ?_
  refine stP hf rfl rfl rfl (pM rfl) fun a hf => ?_
  refine stP hf rfl rfl rfl (pM rfl) fun a hf => ?_
  replace hc := hc.nilRow 3 1
  obtain ⟨un, hun, hF⟩ := bnd_some hF
  refine stApm (xs := ([] : List Int)) (ys := l) hf hc rfl rfl sl_36 rfl rfl rfl rfl rfl one_encI_i64 (src_rd hc h_l) (fun _ _ => u0) (by simpa using room_spec hun) fun p_1 c_1 a w hf hc => ?_
  refine stP hf rfl rfl rfl (pA rfl) fun a hf => ?_
  refine cNil ?_
  refine h3 _ _ ?_
  refine wp_ret ?_
  obtain rfl := Option.some.inj hF
  exact fnOut1 (by simp) rfl Try.results32 hf hc (show look _ 2 = _ from rfl) ⟨p_1, c_1, rfl, hc⟩

def law09_ShareDivided_j30 (N : Nat) (x : Int) : Option (Step (Int) (Bool)) :=
  some (.cont (W (x + 1)))
def law09_ShareDivided_b14 (N : Nat) (between : Int) (r_1 : (List Int) × Int × Int × Int × Int) (r_2 : (List Int) × Int) (r_4 : api_Ratio × api_Ratio × Int) (x : Int) : Option (Step (Int) (Bool)) :=
  cond (decide (x < (5 : Int)))
  (Option.bind (getI ([r_4.1, r_4.2.1, (⟨W ((W ((W (r_4.1.N * r_4.2.1.D)) * (W (between)))) + (W ((W (r_4.2.1.N * r_4.1.D)) * (W (255 - (W (between))))))), W ((W (255 * r_4.1.D)) * r_4.2.1.D)⟩ : api_Ratio), (⟨W ((W (1000 * r_4.1.N)) - r_4.1.D), W (1000 * r_4.1.D)⟩ : api_Ratio), (⟨W ((W (1000 * r_4.2.1.N)) + r_4.2.1.D), W (1000 * r_4.2.1.D)⟩ : api_Ratio)] : List api_Ratio) x) fun e_6 =>
  cond ((((decide (e_6.N < 1)) || (decide (1000000000 < e_6.N))) || (decide (1000000000 < e_6.D))) || (decide ((W (2000000 * e_6.D)) < e_6.N)))
  (law09_ShareDivided_j30 N x)
  (Option.bind (share_Proves N r_1.1 r_2.1 r_1.2.2.1 e_6) fun r_11 =>
  cond ((r_11.2 != 0) || (r_11.1 != (decide (x < 3))))
  (some (.ret false))
  (law09_ShareDivided_j30 N x)))
  (some (.brk x))
def law09_ShareDivided (N : Nat) (numbers : List Int) (a_ : Int) (b_ : Int) (between : Int) : Option (Bool) :=
  Option.bind (kit_New N numbers) fun r =>
  Option.bind (law09_Claimed N (⟨numbers, r.1, r.2⟩ : kit_Stream)) fun r_1 =>
  Option.bind (share_Turns N r_1.1 r_1.2.1 r_1.2.2.1) fun r_2 =>
  Option.bind (share_Unfair N r_1.1 r_2.1 r_1.2.2.1) fun r_3 =>
  Option.bind (share_Divisors N r_1.1 r_2.1 r_1.2.2.1) fun r_4 =>
  Option.bind (cond ((((r_2.2 != 0) || (r_3.2.2 != 5)) || (r_4.2.2 != 0)) || (((r_2.1.length : Nat) : Int) != ((r_1.1.length : Nat) : Int))) (some true) (Option.bind (law09_total N r_2.1) fun r_5 =>
  some (r_5 != r_1.2.1))) fun t_1 =>
  cond (((((((((t_1 || (decide (r_4.1.N < 1))) || (decide (r_4.1.D < 1))) || (decide (r_4.2.1.N < 1))) || (decide (r_4.2.1.D < 1))) || (decide ((W (r_4.2.1.N * r_4.1.D)) < (W (r_4.1.N * r_4.2.1.D))))) || (decide ((W (2000000 * r_4.1.D)) < r_4.1.N))) || (decide (10000 < r_4.1.D))) || (decide ((W (2000000 * r_4.2.1.D)) < r_4.2.1.N))) || (decide (10000 < r_4.2.1.D)))
  (some false)
  (Option.bind (loopO (fun s14 => law09_ShareDivided_b14 N between r_1 r_2 r_4 s14) N 0) fun x14 =>
  exK x14 (fun s14 => Option.bind (nz ((r_2.1.length : Nat) : Int)) fun un =>
  Option.bind (nz ((r_2.1.length : Nat) : Int)) fun un_1 =>
  Option.bind (cond (((W (a_)).tmod ((r_2.1.length : Nat) : Int)) == ((W (b_)).tmod ((r_2.1.length : Nat) : Int))) (some true) (Option.bind (getI r_2.1 ((W (a_)).tmod ((r_2.1.length : Nat) : Int))) fun e_1 =>
  some (e_1 == 0))) fun t_2 =>
  cond t_2
  (Option.bind (law09_awake N) fun r_6 =>
  some r_6)
  (Option.bind (kit_Copy_int N r_2.1) fun r_7 =>
  Option.bind (getI r_7 ((W (a_)).tmod ((r_2.1.length : Nat) : Int))) fun e_2 =>
  Option.bind (getI r_7 ((W (a_)).tmod ((r_2.1.length : Nat) : Int))) fun e_3 =>
  Option.bind (getI (r_7.set ((W (a_)).tmod ((r_2.1.length : Nat) : Int)).toNat (W (e_2 - 1))) ((W (b_)).tmod ((r_2.1.length : Nat) : Int))) fun e_4 =>
  Option.bind (getI (r_7.set ((W (a_)).tmod ((r_2.1.length : Nat) : Int)).toNat (W (e_2 - 1))) ((W (b_)).tmod ((r_2.1.length : Nat) : Int))) fun e_5 =>
  Option.bind (share_Unfair N r_1.1 ((r_7.set ((W (a_)).tmod ((r_2.1.length : Nat) : Int)).toNat (W (e_2 - 1))).set ((W (b_)).tmod ((r_2.1.length : Nat) : Int)).toNat (W (e_4 + 1))) r_1.2.2.1) fun r_8 =>
  Option.bind (share_Divisors N r_1.1 ((r_7.set ((W (a_)).tmod ((r_2.1.length : Nat) : Int)).toNat (W (e_2 - 1))).set ((W (b_)).tmod ((r_2.1.length : Nat) : Int)).toNat (W (e_4 + 1))) r_1.2.2.1) fun r_9 =>
  cond (((r_8.2.2 != 0) && (r_8.2.2 != 5)) || ((r_9.2.2 != 0) && (r_9.2.2 != 7)))
  (some false)
  (Option.bind (cond ((r_8.2.2 == 5) == (r_9.2.2 == 0)) (Option.bind (law09_awake N) fun r_10 =>
  some r_10) (some false)) fun t_3 =>
  some t_3))) some)
theorem law09_ShareDivided_ok {N : Nat} {G : Pers} {Lf : List Ent} {w : World} (numbers : List Int) (a_ : Int) (b_ : Int) (between : Int) {numbers_p : Option Addr} {numbers_c : Nat} (h_numbers : Rd G 1 numbers_p numbers_c (numbers.map encI_u8)) (hc : Ctx G (Lf) w) {res : Bool} (hF : law09_ShareDivided N numbers a_ b_ between = some res) : Calls Try.prog 7 #[.slice numbers_p numbers.length numbers_c, .int .u8 a_, .int .u8 b_, .int .u8 between] w (fun e w => e = .returned (.bool res) ∧ Ctx G (Lf) w) := by
  unfold law09_ShareDivided at hF
  refine fnIn (args := [.slice numbers_p numbers.length numbers_c, .int .u8 a_, .int .u8 b_, .int .u8 between]) Try.func7 rfl Try.ntmps7 rfl fun a hf => ?_
  refine wp_seq_k fun K1 h1 => ?_
  refine cReg ?_
  refine stP hf rfl rfl rfl (pA rfl) fun a hf => ?_
  refine cNil ?_
  refine h1 _ _ ?_
  refine wp_seq_k fun K2 h2 => ?_
  refine cReg ?_
  refine stP hf rfl rfl rfl (pM rfl) fun a hf => ?_
  obtain ⟨r, hr, hF⟩ := bnd_some hF
  refine stC (vs := [.slice numbers_p numbers.length numbers_c]) (caps := []) hf rfl rfl rfl en_27 rfl rfl rfl rfl (kit_New_ok numbers h_numbers hc hr) ?_
  rintro _ w ⟨b_1, rfl, hc⟩
  refine ⟨_, rfl, fun a hf => ?_⟩
  obtain ⟨r_1, hr_1, hF⟩ := bnd_some hF
  refine stC (vs := [.pointer (some ⟨b_1, 0, none⟩)]) (caps := []) hf rfl rfl rfl en_33 rfl rfl rfl rfl (law09_Claimed_ok (⟨numbers, r.1, r.2⟩ : kit_Stream) h_numbers (hc.pick k0) hr_1) ?_
  rintro _ w ⟨p_1, c_1, rfl, hc⟩
  refine ⟨_, rfl, fun a hf => ?_⟩
  refine stP hf rfl rfl rfl (pM rfl) fun a hf => ?_
  refine stP hf rfl rfl rfl (pX rfl rfl) fun a hf => ?_
  refine stP hf rfl rfl rfl (pX rfl rfl) fun a hf => ?_
  refine stP hf rfl rfl rfl (pX rfl rfl) fun a hf => ?_
  refine stP hf rfl rfl rfl (pA rfl) fun a hf => ?_
  refine stP hf rfl rfl rfl (pA rfl) fun a hf => ?_
  refine stP hf rfl rfl rfl (pA rfl) fun a hf => ?_
  refine cNil ?_
  refine h2 _ _ ?_
  refine wp_seq_k fun K3 h3 => ?_
  refine cReg ?_
  refine stP hf rfl rfl rfl (pM rfl) fun a hf => ?_
  refine stP hf rfl rfl rfl (pM rfl) fun a hf => ?_
  refine stP hf rfl rfl rfl (pM rfl) fun a hf => ?_
  obtain ⟨r_2, hr_2, hF⟩ := bnd_some hF
  obtain ⟨G1, hle1, hrd1, hc, hth1⟩ := lend hc k0
  refine stC (vs := [.slice p_1 r_1.1.length c_1, .int .i64 r_1.2.1, .int .i64 r_1.2.2.1]) (caps := []) hf rfl rfl rfl en_34 rfl rfl rfl rfl (share_Turns_ok r_1.1 r_1.2.1 r_1.2.2.1 hrd1 hc hr_2) ?_
  rintro _ w ⟨p_2, c_2, rfl, hc⟩
  refine ⟨_, rfl, fun a hf => ?_⟩
  replace hc := hth1 _ _ hc
  refine stP hf rfl rfl rfl (pM rfl) fun a hf => ?_
  refine stP hf rfl rfl rfl (pX rfl rfl) fun a hf => ?_
  refine stP hf rfl rfl rfl (pX rfl rfl) fun a hf => ?_
  refine stP hf rfl rfl rfl (pA rfl) fun a hf => ?_
  refine stP hf rfl rfl rfl (pA rfl) fun a hf => ?_
  refine cNil ?_
  refine h3 _ _ ?_
  refine wp_seq_k fun K4 h4 => ?_
  refine cReg ?_
  refine stP hf rfl rfl rfl (pM rfl) fun a hf => ?_
  refine stP hf rfl rfl rfl (pM rfl) fun a hf => ?_
  refine stP hf rfl rfl rfl (pM rfl) fun a hf => ?_
  obtain ⟨r_3, hr_3, hF⟩ := bnd_some hF
  refine stE hf hc rfl rfl rfl (eC (v := .tuple #[.int .i64 r_3.1, .int .i64 r_3.2.1, .int .i64 r_3.2.2]) (vs := [.slice p_1 r_1.1.length c_1, .slice p_2 r_2.1.length c_2, .int .i64 r_1.2.2.1]) (caps := []) en_37 rfl rfl rfl rfl (fun w hc => by obtain ⟨G1, hle1, hrd1, hc, hth1⟩ := lend hc k0; obtain ⟨G2, hle2, hrd2, hc, hth2⟩ := lend hc k0; exact (share_Unfair_ok r_1.1 r_2.1 r_1.2.2.1 (hrd1.mono hle2) hrd2 hc hr_3).mono fun e w h => ⟨h.1, ((hth1 _ _ ((hth2 _ _ h.2).unpick k0)).unpick k0)⟩)) fun a w hf hc => ?_
  refine stP hf rfl rfl rfl (pM rfl) fun a hf => ?_
  refine stP hf rfl rfl rfl (pX rfl rfl) fun a hf => ?_
  refine stP hf rfl rfl rfl (pX rfl rfl) fun a hf => ?_
  refine stP hf rfl rfl rfl (pX rfl rfl) fun a hf => ?_
  refine stP hf rfl rfl rfl (pA rfl) fun a hf => ?_
  refine stP hf rfl rfl rfl (pA rfl) fun a hf => ?_
  refine stP hf rfl rfl rfl (pA rfl) fun a hf => ?_
  refine cNil ?_
  refine h4 _ _ ?_
  refine wp_seq_k fun K5 h5 => ?_
  refine cReg ?_
  refine stP hf rfl rfl rfl (pM rfl) fun a hf => ?_
  refine stP hf rfl rfl rfl (pM rfl) fun a hf => ?_
  refine stP hf rfl rfl rfl (pM rfl) fun a hf => ?_
  obtain ⟨r_4, hr_4, hF⟩ := bnd_some hF
  refine stE hf hc rfl rfl rfl (eC (v := .tuple #[.agg #[.int .i64 r_4.1.N, .int .i64 r_4.1.D], .agg #[.int .i64 r_4.2.1.N, .int .i64 r_4.2.1.D], .int .i64 r_4.2.2]) (vs := [.slice p_1 r_1.1.length c_1, .slice p_2 r_2.1.length c_2, .int .i64 r_1.2.2.1]) (caps := []) en_39 rfl rfl rfl rfl (fun w hc => by obtain ⟨G1, hle1, hrd1, hc, hth1⟩ := lend hc k0; obtain ⟨G2, hle2, hrd2, hc, hth2⟩ := lend hc k0; exact (share_Divisors_ok r_1.1 r_2.1 r_1.2.2.1 (hrd1.mono hle2) hrd2 hc hr_4).mono fun e w h => ⟨h.1, ((hth1 _ _ ((hth2 _ _ h.2).unpick k0)).unpick k0)⟩)) fun a w hf hc => ?_
  refine stP hf rfl rfl rfl (pM rfl) fun a hf => ?_
  refine stP hf rfl rfl rfl (pX rfl rfl) fun a hf => ?_
  refine stP hf rfl rfl rfl (pX rfl rfl) fun a hf => ?_
  refine stP hf rfl rfl rfl (pX rfl rfl) fun a hf => ?_
  refine stAl (cs := [.int .i64 0, .int .i64 0]) hf hc rfl rfl zr_71 rfl fun b_2 a w hf hc => ?_
  refine stAl (cs := [.int .i64 0, .int .i64 0]) hf hc rfl rfl zr_71 rfl fun b_3 a w hf hc => ?_
  refine stSt (vs := [.int .i64 r_4.1.N, .int .i64 r_4.1.D]) hf hc rfl rfl rfl rfl sz_71 rfl rfl u1 fun w hc => ?_
  refine stSt (vs := [.int .i64 r_4.2.1.N, .int .i64 r_4.2.1.D]) hf hc rfl rfl rfl rfl sz_71 rfl rfl u0 fun w hc => ?_
  refine stP hf rfl rfl rfl (pA rfl) fun a hf => ?_
  refine cNil ?_
  refine h5 _ _ ?_
  refine wp_seq_k fun K6 h6 => ?_
  refine wp_seq_k fun K7 h7 => ?_
  refine cReg ?_
  refine stP hf rfl rfl rfl (pM rfl) fun a hf => ?_
  refine stP hf rfl rfl rfl (pNe rfl rfl) fun a hf => ?_
  refine stP hf rfl rfl rfl (pM rfl) fun a hf => ?_
  refine stCut 3 (fun a w => Has 311 a [(1, .int .u8 a_), (2, .int .u8 b_), (3, .int .u8 between), (9, .slice p_1 r_1.1.length c_1), (10, .int .i64 r_1.2.1), (11, .int .i64 r_1.2.2.1), (12, .slice p_2 r_2.1.length c_2), (13, .int .i64 r_2.2), (16, .int .i64 r_3.2.2), (17, .pointer (some ⟨b_2, 0, none⟩)), (18, .pointer (some ⟨b_3, 0, none⟩)), (19, .int .i64 r_4.2.2), (61, .int .i64 r_2.2), (62, .bool (r_2.2 != 0)), (63, .bool (r_2.2 != 0)), (66, .bool ((r_2.2 != 0) || (r_3.2.2 != 5)))] ∧ Ctx G (.box b_3 [.int .i64 r_4.2.1.N, .int .i64 r_4.2.1.D] 71 :: .box b_2 [.int .i64 r_4.1.N, .int .i64 r_4.1.D] 71 :: .row p_1 c_1 (r_1.1.map encI_i64) 3 1 :: .row p_2 c_2 (r_2.1.map encI_i64) 3 1 :: .box b_1 [.slice numbers_p numbers.length numbers_c, .int .i64 r_1.2.2.2.1, .int .i64 r_1.2.2.2.2] 161 :: Lf) w) ?_ ?_
  · cases hb : (r_2.2 != 0)
    · rw [hb] at hf
      refine stP hf rfl rfl rfl (pM rfl) fun a hf => ?_
      refine stP hf rfl rfl rfl (pNe rfl rfl) fun a hf => ?_
      refine stP hf rfl rfl rfl (pPf rfl rfl) fun a hf => ?_
      exact cNil ⟨hf.keep ⟨rfl, rfl, rfl, rfl, rfl, rfl, rfl, rfl, rfl, rfl, rfl, rfl, rfl, rfl, rfl, rfl, trivial⟩, hc⟩
    · rw [hb] at hf
      refine stS hf rfl rfl rfl fun a hf => ?_
      refine stS hf rfl rfl rfl fun a hf => ?_
      refine stP hf rfl rfl rfl (pPt rfl rfl) fun a hf => ?_
      exact cNil ⟨hf.keep ⟨rfl, rfl, rfl, rfl, rfl, rfl, rfl, rfl, rfl, rfl, rfl, rfl, rfl, rfl, rfl, rfl, trivial⟩, hc⟩
  intro a w ⟨hf, hc⟩
  refine stP hf rfl rfl rfl (pM rfl) fun a hf => ?_
  refine stCut 3 (fun a w => Has 311 a [(1, .int .u8 a_), (2, .int .u8 b_), (3, .int .u8 between), (9, .slice p_1 r_1.1.length c_1), (10, .int .i64 r_1.2.1), (11, .int .i64 r_1.2.2.1), (12, .slice p_2 r_2.1.length c_2), (13, .int .i64 r_2.2), (16, .int .i64 r_3.2.2), (17, .pointer (some ⟨b_2, 0, none⟩)), (18, .pointer (some ⟨b_3, 0, none⟩)), (19, .int .i64 r_4.2.2), (61, .int .i64 r_2.2), (62, .bool (r_2.2 != 0)), (63, .bool (r_2.2 != 0)), (66, .bool ((r_2.2 != 0) || (r_3.2.2 != 5))), (67, .bool ((r_2.2 != 0) || (r_3.2.2 != 5))), (70, .bool (((r_2.2 != 0) || (r_3.2.2 != 5)) || (r_4.2.2 != 0)))] ∧ Ctx G (.box b_3 [.int .i64 r_4.2.1.N, .int .i64 r_4.2.1.D] 71 :: .box b_2 [.int .i64 r_4.1.N, .int .i64 r_4.1.D] 71 :: .row p_1 c_1 (r_1.1.map encI_i64) 3 1 :: .row p_2 c_2 (r_2.1.map encI_i64) 3 1 :: .box b_1 [.slice numbers_p numbers.length numbers_c, .int .i64 r_1.2.2.2.1, .int .i64 r_1.2.2.2.2] 161 :: Lf) w) ?_ ?_
  · cases hb : ((r_2.2 != 0) || (r_3.2.2 != 5))
    · rw [hb] at hf
      refine stP hf rfl rfl rfl (pM rfl) fun a hf => ?_
      refine stP hf rfl rfl rfl (pNe rfl rfl) fun a hf => ?_
      refine stP hf rfl rfl rfl (pPf rfl rfl) fun a hf => ?_
      exact cNil ⟨hf.keep ⟨rfl, rfl, rfl, rfl, rfl, rfl, rfl, rfl, rfl, rfl, rfl, rfl, rfl, rfl, rfl, rfl, rfl, rfl, trivial⟩, hc⟩
    · rw [hb] at hf
      refine stS hf rfl rfl rfl fun a hf => ?_
      refine stS hf rfl rfl rfl fun a hf => ?_
      refine stP hf rfl rfl rfl (pPt rfl rfl) fun a hf => ?_
      exact cNil ⟨hf.keep ⟨rfl, rfl, rfl, rfl, rfl, rfl, rfl, rfl, rfl, rfl, rfl, rfl, rfl, rfl, rfl, rfl, rfl, rfl, trivial⟩, hc⟩
  intro a w ⟨hf, hc⟩
  refine stP hf rfl rfl rfl (pM rfl) fun a hf => ?_
  refine stCut 6 (fun a w => Has 311 a [(1, .int .u8 a_), (2, .int .u8 b_), (3, .int .u8 between), (9, .slice p_1 r_1.1.length c_1), (10, .int .i64 r_1.2.1), (11, .int .i64 r_1.2.2.1), (12, .slice p_2 r_2.1.length c_2), (13, .int .i64 r_2.2), (16, .int .i64 r_3.2.2), (17, .pointer (some ⟨b_2, 0, none⟩)), (18, .pointer (some ⟨b_3, 0, none⟩)), (19, .int .i64 r_4.2.2), (61, .int .i64 r_2.2), (62, .bool (r_2.2 != 0)), (63, .bool (r_2.2 != 0)), (66, .bool ((r_2.2 != 0) || (r_3.2.2 != 5))), (67, .bool ((r_2.2 != 0) || (r_3.2.2 != 5))), (70, .bool (((r_2.2 != 0) || (r_3.2.2 != 5)) || (r_4.2.2 != 0))), (71, .bool (((r_2.2 != 0) || (r_3.2.2 != 5)) || (r_4.2.2 != 0))), (77, .bool ((((r_2.2 != 0) || (r_3.2.2 != 5)) || (r_4.2.2 != 0)) || (((r_2.1.length : Nat) : Int) != ((r_1.1.length : Nat) : Int))))] ∧ Ctx G (.box b_3 [.int .i64 r_4.2.1.N, .int .i64 r_4.2.1.D] 71 :: .box b_2 [.int .i64 r_4.1.N, .int .i64 r_4.1.D] 71 :: .row p_1 c_1 (r_1.1.map encI_i64) 3 1 :: .row p_2 c_2 (r_2.1.map encI_i64) 3 1 :: .box b_1 [.slice numbers_p numbers.length numbers_c, .int .i64 r_1.2.2.2.1, .int .i64 r_1.2.2.2.2] 161 :: Lf) w) ?_ ?_
  · cases hb : (((r_2.2 != 0) || (r_3.2.2 != 5)) || (r_4.2.2 != 0))
    · rw [hb] at hf
      refine stP hf rfl rfl rfl (pM rfl) fun a hf => ?_
      refine stP hf rfl rfl rfl (pLenS Try.underlying36 rfl) fun a hf => ?_
      refine stP hf rfl rfl rfl (pM rfl) fun a hf => ?_
      refine stP hf rfl rfl rfl (pLenS Try.underlying36 rfl) fun a hf => ?_
      refine stP hf rfl rfl rfl (pNe rfl rfl) fun a hf => ?_
      refine stP hf rfl rfl rfl (pPf rfl rfl) fun a hf => ?_
      exact cNil ⟨hf.keep ⟨rfl, rfl, rfl, rfl, rfl, rfl, rfl, rfl, rfl, rfl, rfl, rfl, rfl, rfl, rfl, rfl, rfl, rfl, rfl, rfl, trivial⟩, hc⟩
    · rw [hb] at hf
      refine stS hf rfl rfl rfl fun a hf => ?_
      refine stS hf rfl rfl rfl fun a hf => ?_
      refine stS hf rfl rfl rfl fun a hf => ?_
      refine stS hf rfl rfl rfl fun a hf => ?_
      refine stS hf rfl rfl rfl fun a hf => ?_
      refine stP hf rfl rfl rfl (pPt rfl rfl) fun a hf => ?_
      exact cNil ⟨hf.keep ⟨rfl, rfl, rfl, rfl, rfl, rfl, rfl, rfl, rfl, rfl, rfl, rfl, rfl, rfl, rfl, rfl, rfl, rfl, rfl, rfl, trivial⟩, hc⟩
  intro a w ⟨hf, hc⟩
  refine stP hf rfl rfl rfl (pM rfl) fun a hf => ?_
  obtain ⟨t_1, ht_1, hF⟩ := bnd_some hF
  refine stCut 5 (fun a w => Has 311 a [(1, .int .u8 a_), (2, .int .u8 b_), (3, .int .u8 between), (9, .slice p_1 r_1.1.length c_1), (10, .int .i64 r_1.2.1), (11, .int .i64 r_1.2.2.1), (12, .slice p_2 r_2.1.length c_2), (13, .int .i64 r_2.2), (16, .int .i64 r_3.2.2), (17, .pointer (some ⟨b_2, 0, none⟩)), (18, .pointer (some ⟨b_3, 0, none⟩)), (19, .int .i64 r_4.2.2), (61, .int .i64 r_2.2), (62, .bool (r_2.2 != 0)), (63, .bool (r_2.2 != 0)), (66, .bool ((r_2.2 != 0) || (r_3.2.2 != 5))), (67, .bool ((r_2.2 != 0) || (r_3.2.2 != 5))), (70, .bool (((r_2.2 != 0) || (r_3.2.2 != 5)) || (r_4.2.2 != 0))), (71, .bool (((r_2.2 != 0) || (r_3.2.2 != 5)) || (r_4.2.2 != 0))), (77, .bool ((((r_2.2 != 0) || (r_3.2.2 != 5)) || (r_4.2.2 != 0)) || (((r_2.1.length : Nat) : Int) != ((r_1.1.length : Nat) : Int)))), (78, .bool ((((r_2.2 != 0) || (r_3.2.2 != 5)) || (r_4.2.2 != 0)) || (((r_2.1.length : Nat) : Int) != ((r_1.1.length : Nat) : Int)))), (83, .bool t_1)] ∧ Ctx G (.box b_3 [.int .i64 r_4.2.1.N, .int .i64 r_4.2.1.D] 71 :: .box b_2 [.int .i64 r_4.1.N, .int .i64 r_4.1.D] 71 :: .row p_1 c_1 (r_1.1.map encI_i64) 3 1 :: .row p_2 c_2 (r_2.1.map encI_i64) 3 1 :: .box b_1 [.slice numbers_p numbers.length numbers_c, .int .i64 r_1.2.2.2.1, .int .i64 r_1.2.2.2.2] 161 :: Lf) w) ?_ ?_
  · cases hb : ((((r_2.2 != 0) || (r_3.2.2 != 5)) || (r_4.2.2 != 0)) || (((r_2.1.length : Nat) : Int) != ((r_1.1.length : Nat) : Int)))
    · rw [hb] at hf
      have hF := condF hb ht_1
      refine stP hf rfl rfl rfl (pM rfl) fun a hf => ?_
      obtain ⟨r_5, hr_5, hF⟩ := bnd_some hF
      refine stE hf hc rfl rfl rfl (eC (v := .int .i64 r_5) (vs := [.slice p_2 r_2.1.length c_2]) (caps := []) en_31 rfl rfl rfl rfl (fun w hc => by obtain ⟨G1, hle1, hrd1, hc, hth1⟩ := lend hc k3; exact (law09_total_ok r_2.1 hrd1 hc hr_5).mono fun e w h => ⟨h.1, ((hth1 _ _ h.2).unpick k3)⟩)) fun a w hf hc => ?_
      refine stP hf rfl rfl rfl (pM rfl) fun a hf => ?_
      refine stP hf rfl rfl rfl (pNe rfl rfl) fun a hf => ?_
      refine stP hf rfl rfl rfl (pPf rfl rfl) fun a hf => ?_
      obtain rfl := Option.some.inj hF
      exact cNil ⟨hf.keep ⟨rfl, rfl, rfl, rfl, rfl, rfl, rfl, rfl, rfl, rfl, rfl, rfl, rfl, rfl, rfl, rfl, rfl, rfl, rfl, rfl, rfl, rfl, trivial⟩, hc⟩
    · rw [hb] at hf
      have hF := condT hb ht_1
      obtain rfl := Option.some.inj hF
      refine stS hf rfl rfl rfl fun a hf => ?_
      refine stS hf rfl rfl rfl fun a hf => ?_
      refine stS hf rfl rfl rfl fun a hf => ?_
      refine stS hf rfl rfl rfl fun a hf => ?_
      refine stP hf rfl rfl rfl (pPt rfl rfl) fun a hf => ?_
      exact cNil ⟨hf.keep ⟨rfl, rfl, rfl, rfl, rfl, rfl, rfl, rfl, rfl, rfl, rfl, rfl, rfl, rfl, rfl, rfl, rfl, rfl, rfl, rfl, rfl, rfl, trivial⟩, hc⟩
  intro a w ⟨hf, hc⟩
  refine stP hf rfl rfl rfl (pM rfl) fun a hf => ?_
  refine stCut 4 (fun a w => Has 311 a [(1, .int .u8 a_), (2, .int .u8 b_), (3, .int .u8 between), (9, .slice p_1 r_1.1.length c_1), (10, .int .i64 r_1.2.1), (11, .int .i64 r_1.2.2.1), (12, .slice p_2 r_2.1.length c_2), (13, .int .i64 r_2.2), (16, .int .i64 r_3.2.2), (17, .pointer (some ⟨b_2, 0, none⟩)), (18, .pointer (some ⟨b_3, 0, none⟩)), (19, .int .i64 r_4.2.2), (61, .int .i64 r_2.2), (62, .bool (r_2.2 != 0)), (63, .bool (r_2.2 != 0)), (66, .bool ((r_2.2 != 0) || (r_3.2.2 != 5))), (67, .bool ((r_2.2 != 0) || (r_3.2.2 != 5))), (70, .bool (((r_2.2 != 0) || (r_3.2.2 != 5)) || (r_4.2.2 != 0))), (71, .bool (((r_2.2 != 0) || (r_3.2.2 != 5)) || (r_4.2.2 != 0))), (77, .bool ((((r_2.2 != 0) || (r_3.2.2 != 5)) || (r_4.2.2 != 0)) || (((r_2.1.length : Nat) : Int) != ((r_1.1.length : Nat) : Int)))), (78, .bool ((((r_2.2 != 0) || (r_3.2.2 != 5)) || (r_4.2.2 != 0)) || (((r_2.1.length : Nat) : Int) != ((r_1.1.length : Nat) : Int)))), (83, .bool t_1), (84, .bool t_1), (88, .bool (t_1 || (decide (r_4.1.N < 1))))] ∧ Ctx G (.box b_3 [.int .i64 r_4.2.1.N, .int .i64 r_4.2.1.D] 71 :: .box b_2 [.int .i64 r_4.1.N, .int .i64 r_4.1.D] 71 :: .row p_1 c_1 (r_1.1.map encI_i64) 3 1 :: .row p_2 c_2 (r_2.1.map encI_i64) 3 1 :: .box b_1 [.slice numbers_p numbers.length numbers_c, .int .i64 r_1.2.2.2.1, .int .i64 r_1.2.2.2.2] 161 :: Lf) w) ?_ ?_
  · cases hb : t_1
    · rw [hb] at hf
      refine stP hf rfl rfl rfl (pFA fa_71_0 rfl) fun a hf => ?_
      refine stE hf hc rfl rfl rfl (eLd1 sc_3 rfl (cell_box m1 rfl)) fun a w hf hc => ?_
      refine stP hf rfl rfl rfl (pLt rfl rfl) fun a hf => ?_
      refine stP hf rfl rfl rfl (pPf rfl rfl) fun a hf => ?_
      exact cNil ⟨hf.keep ⟨rfl, rfl, rfl, rfl, rfl, rfl, rfl, rfl, rfl, rfl, rfl, rfl, rfl, rfl, rfl, rfl, rfl, rfl, rfl, rfl, rfl, rfl, rfl, rfl, trivial⟩, hc⟩
    · rw [hb] at hf
      refine stS hf rfl rfl rfl fun a hf => ?_
      refine stS hf rfl rfl rfl fun a hf => ?_
      refine stS hf rfl rfl rfl fun a hf => ?_
      refine stP hf rfl rfl rfl (pPt rfl rfl) fun a hf => ?_
      exact cNil ⟨hf.keep ⟨rfl, rfl, rfl, rfl, rfl, rfl, rfl, rfl, rfl, rfl, rfl, rfl, rfl, rfl, rfl, rfl, rfl, rfl, rfl, rfl, rfl, rfl, rfl, rfl, trivial⟩, hc⟩
  intro a w ⟨hf, hc⟩
  refine stP hf rfl rfl rfl (pM rfl) fun a hf => ?_
  refine stCut 4 (fun a w => Has 311 a [(1, .int .u8 a_), (2, .int .u8 b_), (3, .int .u8 between), (9, .slice p_1 r_1.1.length c_1), (10, .int .i64 r_1.2.1), (11, .int .i64 r_1.2.2.1), (12, .slice p_2 r_2.1.length c_2), (13, .int .i64 r_2.2), (16, .int .i64 r_3.2.2), (17, .pointer (some ⟨b_2, 0, none⟩)), (18, .pointer (some ⟨b_3, 0, none⟩)), (19, .int .i64 r_4.2.2), (61, .int .i64 r_2.2), (62, .bool (r_2.2 != 0)), (63, .bool (r_2.2 != 0)), (66, .bool ((r_2.2 != 0) || (r_3.2.2 != 5))), (67, .bool ((r_2.2 != 0) || (r_3.2.2 != 5))), (70, .bool (((r_2.2 != 0) || (r_3.2.2 != 5)) || (r_4.2.2 != 0))), (71, .bool (((r_2.2 != 0) || (r_3.2.2 != 5)) || (r_4.2.2 != 0))), (77, .bool ((((r_2.2 != 0) || (r_3.2.2 != 5)) || (r_4.2.2 != 0)) || (((r_2.1.length : Nat) : Int) != ((r_1.1.length : Nat) : Int)))), (78, .bool ((((r_2.2 != 0) || (r_3.2.2 != 5)) || (r_4.2.2 != 0)) || (((r_2.1.length : Nat) : Int) != ((r_1.1.length : Nat) : Int)))), (83, .bool t_1), (84, .bool t_1), (88, .bool (t_1 || (decide (r_4.1.N < 1)))), (89, .bool (t_1 || (decide (r_4.1.N < 1)))), (93, .bool ((t_1 || (decide (r_4.1.N < 1))) || (decide (r_4.1.D < 1))))] ∧ Ctx G (.box b_3 [.int .i64 r_4.2.1.N, .int .i64 r_4.2.1.D] 71 :: .box b_2 [.int .i64 r_4.1.N, .int .i64 r_4.1.D] 71 :: .row p_1 c_1 (r_1.1.map encI_i64) 3 1 :: .row p_2 c_2 (r_2.1.map encI_i64) 3 1 :: .box b_1 [.slice numbers_p numbers.length numbers_c, .int .i64 r_1.2.2.2.1, .int .i64 r_1.2.2.2.2] 161 :: Lf) w) ?_ ?_
  · cases hb : (t_1 || (decide (r_4.1.N < 1)))
    · rw [hb] at hf
      refine stP hf rfl rfl rfl (pFA fa_71_1 rfl) fun a hf => ?_
      refine stE hf hc rfl rfl rfl (eLd1 sc_3 rfl (cell_box m1 rfl)) fun a w hf hc => ?_
      refine stP hf rfl rfl rfl (pLt rfl rfl) fun a hf => ?_
      refine stP hf rfl rfl rfl (pPf rfl rfl) fun a hf => ?_
      exact cNil ⟨hf.keep ⟨rfl, rfl, rfl, rfl, rfl, rfl, rfl, rfl, rfl, rfl, rfl, rfl, rfl, rfl, rfl, rfl, rfl, rfl, rfl, rfl, rfl, rfl, rfl, rfl, rfl, rfl, trivial⟩, hc⟩
    · rw [hb] at hf
      refine stS hf rfl rfl rfl fun a hf => ?_
      refine stS hf rfl rfl rfl fun a hf => ?_
      refine stS hf rfl rfl rfl fun a hf => ?_
      refine stP hf rfl rfl rfl (pPt rfl rfl) fun a hf => ?_
      exact cNil ⟨hf.keep ⟨rfl, rfl, rfl, rfl, rfl, rfl, rfl, rfl, rfl, rfl, rfl, rfl, rfl, rfl, rfl, rfl, rfl, rfl, rfl, rfl, rfl, rfl, rfl, rfl, rfl, rfl, trivial⟩, hc⟩
  intro a w ⟨hf, hc⟩
  refine stP hf rfl rfl rfl (pM rfl) fun a hf => ?_
  refine stCut 4 (fun a w => Has 311 a [(1, .int .u8 a_), (2, .int .u8 b_), (3, .int .u8 between), (9, .slice p_1 r_1.1.length c_1), (10, .int .i64 r_1.2.1), (11, .int .i64 r_1.2.2.1), (12, .slice p_2 r_2.1.length c_2), (13, .int .i64 r_2.2), (16, .int .i64 r_3.2.2), (17, .pointer (some ⟨b_2, 0, none⟩)), (18, .pointer (some ⟨b_3, 0, none⟩)), (19, .int .i64 r_4.2.2), (61, .int .i64 r_2.2), (62, .bool (r_2.2 != 0)), (63, .bool (r_2.2 != 0)), (66, .bool ((r_2.2 != 0) || (r_3.2.2 != 5))), (67, .bool ((r_2.2 != 0) || (r_3.2.2 != 5))), (70, .bool (((r_2.2 != 0) || (r_3.2.2 != 5)) || (r_4.2.2 != 0))), (71, .bool (((r_2.2 != 0) || (r_3.2.2 != 5)) || (r_4.2.2 != 0))), (77, .bool ((((r_2.2 != 0) || (r_3.2.2 != 5)) || (r_4.2.2 != 0)) || (((r_2.1.length : Nat) : Int) != ((r_1.1.length : Nat) : Int)))), (78, .bool ((((r_2.2 != 0) || (r_3.2.2 != 5)) || (r_4.2.2 != 0)) || (((r_2.1.length : Nat) : Int) != ((r_1.1.length : Nat) : Int)))), (83, .bool t_1), (84, .bool t_1), (88, .bool (t_1 || (decide (r_4.1.N < 1)))), (89, .bool (t_1 || (decide (r_4.1.N < 1)))), (93, .bool ((t_1 || (decide (r_4.1.N < 1))) || (decide (r_4.1.D < 1)))), (94, .bool ((t_1 || (decide (r_4.1.N < 1))) || (decide (r_4.1.D < 1)))), (98, .bool (((t_1 || (decide (r_4.1.N < 1))) || (decide (r_4.1.D < 1))) || (decide (r_4.2.1.N < 1))))] ∧ Ctx G (.box b_3 [.int .i64 r_4.2.1.N, .int .i64 r_4.2.1.D] 71 :: .box b_2 [.int .i64 r_4.1.N, .int .i64 r_4.1.D] 71 :: .row p_1 c_1 (r_1.1.map encI_i64) 3 1 :: .row p_2 c_2 (r_2.1.map encI_i64) 3 1 :: .box b_1 [.slice numbers_p numbers.length numbers_c, .int .i64 r_1.2.2.2.1, .int .i64 r_1.2.2.2.2] 161 :: Lf) w) ?_ ?_
  · cases hb : ((t_1 || (decide (r_4.1.N < 1))) || (decide (r_4.1.D < 1)))
    · rw [hb] at hf
      refine stP hf rfl rfl rfl (pFA fa_71_0 rfl) fun a hf => ?_
      refine stE hf hc rfl rfl rfl (eLd1 sc_3 rfl (cell_box m0 rfl)) fun a w hf hc => ?_
      refine stP hf rfl rfl rfl (pLt rfl rfl) fun a hf => ?_
      refine stP hf rfl rfl rfl (pPf rfl rfl) fun a hf => ?_
      exact cNil ⟨hf.keep ⟨rfl, rfl, rfl, rfl, rfl, rfl, rfl, rfl, rfl, rfl, rfl, rfl, rfl, rfl, rfl, rfl, rfl, rfl, rfl, rfl, rfl, rfl, rfl, rfl, rfl, rfl, rfl, rfl, trivial⟩, hc⟩
    · rw [hb] at hf
      refine stS hf rfl rfl rfl fun a hf => ?_
      refine stS hf rfl rfl rfl fun a hf => ?_
      refine stS hf rfl rfl rfl fun a hf => ?_
      refine stP hf rfl rfl rfl (pPt rfl rfl) fun a hf => ?_
      exact cNil ⟨hf.keep ⟨rfl, rfl, rfl, rfl, rfl, rfl, rfl, rfl, rfl, rfl, rfl, rfl, rfl, rfl, rfl, rfl, rfl, rfl, rfl, rfl, rfl, rfl, rfl, rfl, rfl, rfl, rfl, rfl, trivial⟩, hc⟩
  intro a w ⟨hf, hc⟩
  refine stP hf rfl rfl rfl (pM rfl) fun a hf => ?_
  refine stCut 4 (fun a w => Has 311 a ((1, .int .u8 a_) :: (2, .int .u8 b_) :: (3, .int .u8 between) :: (9, .slice p_1 r_1.1.length c_1) :: (10, .int .i64 r_1.2.1) :: (11, .int .i64 r_1.2.2.1) :: (12, .slice p_2 r_2.1.length c_2) :: (13, .int .i64 r_2.2) :: (16, .int .i64 r_3.2.2) :: (17, .pointer (some ⟨b_2, 0, none⟩)) :: (18, .pointer (some ⟨b_3, 0, none⟩)) :: (19, .int .i64 r_4.2.2) :: (61, .int .i64 r_2.2) :: (62, .bool (r_2.2 != 0)) :: (63, .bool (r_2.2 != 0)) :: (66, .bool ((r_2.2 != 0) || (r_3.2.2 != 5))) :: (67, .bool ((r_2.2 != 0) || (r_3.2.2 != 5))) :: (70, .bool (((r_2.2 != 0) || (r_3.2.2 != 5)) || (r_4.2.2 != 0))) :: (71, .bool (((r_2.2 != 0) || (r_3.2.2 != 5)) || (r_4.2.2 != 0))) :: (77, .bool ((((r_2.2 != 0) || (r_3.2.2 != 5)) || (r_4.2.2 != 0)) || (((r_2.1.length : Nat) : Int) != ((r_1.1.length : Nat) : Int)))) :: (78, .bool ((((r_2.2 != 0) || (r_3.2.2 != 5)) || (r_4.2.2 != 0)) || (((r_2.1.length : Nat) : Int) != ((r_1.1.length : Nat) : Int)))) :: (83, .bool t_1) :: (84, .bool t_1) :: (88, .bool (t_1 || (decide (r_4.1.N < 1)))) :: (89, .bool (t_1 || (decide (r_4.1.N < 1)))) :: (93, .bool ((t_1 || (decide (r_4.1.N < 1))) || (decide (r_4.1.D < 1)))) :: (94, .bool ((t_1 || (decide (r_4.1.N < 1))) || (decide (r_4.1.D < 1)))) :: (98, .bool (((t_1 || (decide (r_4.1.N < 1))) || (decide (r_4.1.D < 1))) || (decide (r_4.2.1.N < 1)))) :: (99, .bool (((t_1 || (decide (r_4.1.N < 1))) || (decide (r_4.1.D < 1))) || (decide (r_4.2.1.N < 1)))) :: (103, .bool ((((t_1 || (decide (r_4.1.N < 1))) || (decide (r_4.1.D < 1))) || (decide (r_4.2.1.N < 1))) || (decide (r_4.2.1.D < 1)))) :: []) ∧ Ctx G (.box b_3 [.int .i64 r_4.2.1.N, .int .i64 r_4.2.1.D] 71 :: .box b_2 [.int .i64 r_4.1.N, .int .i64 r_4.1.D] 71 :: .row p_1 c_1 (r_1.1.map encI_i64) 3 1 :: .row p_2 c_2 (r_2.1.map encI_i64) 3 1 :: .box b_1 [.slice numbers_p numbers.length numbers_c, .int .i64 r_1.2.2.2.1, .int .i64 r_1.2.2.2.2] 161 :: Lf) w) ?_ ?_
  · cases hb : (((t_1 || (decide (r_4.1.N < 1))) || (decide (r_4.1.D < 1))) || (decide (r_4.2.1.N < 1)))
    · rw [hb] at hf
      refine stP hf rfl rfl rfl (pFA fa_71_1 rfl) fun a hf => ?_
      refine stE hf hc rfl rfl rfl (eLd1 sc_3 rfl (cell_box m0 rfl)) fun a w hf hc => ?_
      refine stP hf rfl rfl rfl (pLt rfl rfl) fun a hf => ?_
      refine stP hf rfl rfl rfl (pPf rfl rfl) fun a hf => ?_
      exact cNil ⟨hf.keep ⟨rfl, rfl, rfl, rfl, rfl, rfl, rfl, rfl, rfl, rfl, rfl, rfl, rfl, rfl, rfl, rfl, rfl, rfl, rfl, rfl, rfl, rfl, rfl, rfl, rfl, rfl, rfl, rfl, rfl, rfl, trivial⟩, hc⟩
    · rw [hb] at hf
      refine stS hf rfl rfl rfl fun a hf => ?_
      refine stS hf rfl rfl rfl fun a hf => ?_
      refine stS hf rfl rfl rfl fun a hf => ?_
      refine stP hf rfl rfl rfl (pPt rfl rfl) fun a hf => ?_
      exact cNil ⟨hf.keep ⟨rfl, rfl, rfl, rfl, rfl, rfl, rfl, rfl, rfl, rfl, rfl, rfl, rfl, rfl, rfl, rfl, rfl, rfl, rfl, rfl, rfl, rfl, rfl, rfl, rfl, rfl, rfl, rfl, rfl, rfl, trivial⟩, hc⟩
  intro a w ⟨hf, hc⟩
  refine stP hf rfl rfl rfl (pM rfl) fun a hf => ?_
  refine stCut 12 (fun a w => Has 311 a ((1, .int .u8 a_) :: (2, .int .u8 b_) :: (3, .int .u8 between) :: (9, .slice p_1 r_1.1.length c_1) :: (10, .int .i64 r_1.2.1) :: (11, .int .i64 r_1.2.2.1) :: (12, .slice p_2 r_2.1.length c_2) :: (13, .int .i64 r_2.2) :: (16, .int .i64 r_3.2.2) :: (17, .pointer (some ⟨b_2, 0, none⟩)) :: (18, .pointer (some ⟨b_3, 0, none⟩)) :: (19, .int .i64 r_4.2.2) :: (61, .int .i64 r_2.2) :: (62, .bool (r_2.2 != 0)) :: (63, .bool (r_2.2 != 0)) :: (66, .bool ((r_2.2 != 0) || (r_3.2.2 != 5))) :: (67, .bool ((r_2.2 != 0) || (r_3.2.2 != 5))) :: (70, .bool (((r_2.2 != 0) || (r_3.2.2 != 5)) || (r_4.2.2 != 0))) :: (71, .bool (((r_2.2 != 0) || (r_3.2.2 != 5)) || (r_4.2.2 != 0))) :: (77, .bool ((((r_2.2 != 0) || (r_3.2.2 != 5)) || (r_4.2.2 != 0)) || (((r_2.1.length : Nat) : Int) != ((r_1.1.length : Nat) : Int)))) :: (78, .bool ((((r_2.2 != 0) || (r_3.2.2 != 5)) || (r_4.2.2 != 0)) || (((r_2.1.length : Nat) : Int) != ((r_1.1.length : Nat) : Int)))) :: (83, .bool t_1) :: (84, .bool t_1) :: (88, .bool (t_1 || (decide (r_4.1.N < 1)))) :: (89, .bool (t_1 || (decide (r_4.1.N < 1)))) :: (93, .bool ((t_1 || (decide (r_4.1.N < 1))) || (decide (r_4.1.D < 1)))) :: (94, .bool ((t_1 || (decide (r_4.1.N < 1))) || (decide (r_4.1.D < 1)))) :: (98, .bool (((t_1 || (decide (r_4.1.N < 1))) || (decide (r_4.1.D < 1))) || (decide (r_4.2.1.N < 1)))) :: (99, .bool (((t_1 || (decide (r_4.1.N < 1))) || (decide (r_4.1.D < 1))) || (decide (r_4.2.1.N < 1)))) :: (103, .bool ((((t_1 || (decide (r_4.1.N < 1))) || (decide (r_4.1.D < 1))) || (decide (r_4.2.1.N < 1))) || (decide (r_4.2.1.D < 1)))) :: (104, .bool ((((t_1 || (decide (r_4.1.N < 1))) || (decide (r_4.1.D < 1))) || (decide (r_4.2.1.N < 1))) || (decide (r_4.2.1.D < 1)))) :: (116, .bool (((((t_1 || (decide (r_4.1.N < 1))) || (decide (r_4.1.D < 1))) || (decide (r_4.2.1.N < 1))) || (decide (r_4.2.1.D < 1))) || (decide ((W (r_4.2.1.N * r_4.1.D)) < (W (r_4.1.N * r_4.2.1.D)))))) :: []) ∧ Ctx G (.box b_3 [.int .i64 r_4.2.1.N, .int .i64 r_4.2.1.D] 71 :: .box b_2 [.int .i64 r_4.1.N, .int .i64 r_4.1.D] 71 :: .row p_1 c_1 (r_1.1.map encI_i64) 3 1 :: .row p_2 c_2 (r_2.1.map encI_i64) 3 1 :: .box b_1 [.slice numbers_p numbers.length numbers_c, .int .i64 r_1.2.2.2.1, .int .i64 r_1.2.2.2.2] 161 :: Lf) w) ?_ ?_
  · cases hb : ((((t_1 || (decide (r_4.1.N < 1))) || (decide (r_4.1.D < 1))) || (decide (r_4.2.1.N < 1))) || (decide (r_4.2.1.D < 1)))
    · rw [hb] at hf
      refine stP hf rfl rfl rfl (pFA fa_71_0 rfl) fun a hf => ?_
      refine stE hf hc rfl rfl rfl (eLd1 sc_3 rfl (cell_box m1 rfl)) fun a w hf hc => ?_
      refine stP hf rfl rfl rfl (pFA fa_71_1 rfl) fun a hf => ?_
      refine stE hf hc rfl rfl rfl (eLd1 sc_3 rfl (cell_box m0 rfl)) fun a w hf hc => ?_
      refine stP hf rfl rfl rfl (pMul rfl rfl) fun a hf => ?_
      refine stP hf rfl rfl rfl (pFA fa_71_0 rfl) fun a hf => ?_
      refine stE hf hc rfl rfl rfl (eLd1 sc_3 rfl (cell_box m0 rfl)) fun a w hf hc => ?_
      refine stP hf rfl rfl rfl (pFA fa_71_1 rfl) fun a hf => ?_
      refine stE hf hc rfl rfl rfl (eLd1 sc_3 rfl (cell_box m1 rfl)) fun a w hf hc => ?_
      refine stP hf rfl rfl rfl (pMul rfl rfl) fun a hf => ?_
      refine stP hf rfl rfl rfl (pGt rfl rfl) fun a hf => ?_
      refine stP hf rfl rfl rfl (pPf rfl rfl) fun a hf => ?_
      exact cNil ⟨hf.keep ⟨rfl, rfl, rfl, rfl, rfl, rfl, rfl, rfl, rfl, rfl, rfl, rfl, rfl, rfl, rfl, rfl, rfl, rfl, rfl, rfl, rfl, rfl, rfl, rfl, rfl, rfl, rfl, rfl, rfl, rfl, rfl, rfl, trivial⟩, hc⟩
    · rw [hb] at hf
      refine stS hf rfl rfl rfl fun a hf => ?_
      refine stS hf rfl rfl rfl fun a hf => ?_
      refine stS hf rfl rfl rfl fun a hf => ?_
      refine stS hf rfl rfl rfl fun a hf => ?_
      refine stS hf rfl rfl rfl fun a hf => ?_
      refine stS hf rfl rfl rfl fun a hf => ?_
      refine stS hf rfl rfl rfl fun a hf => ?_
      refine stS hf rfl rfl rfl fun a hf => ?_
      refine stS hf rfl rfl rfl fun a hf => ?_
      refine stS hf rfl rfl rfl fun a hf => ?_
      refine stS hf rfl rfl rfl fun a hf => ?_
      refine stP hf rfl rfl rfl (pPt rfl rfl) fun a hf => ?_
      exact cNil ⟨hf.keep ⟨rfl, rfl, rfl, rfl, rfl, rfl, rfl, rfl, rfl, rfl, rfl, rfl, rfl, rfl, rfl, rfl, rfl, rfl, rfl, rfl, rfl, rfl, rfl, rfl, rfl, rfl, rfl, rfl, rfl, rfl, rfl, rfl, trivial⟩, hc⟩
  intro a w ⟨hf, hc⟩
  refine stP hf rfl rfl rfl (pM rfl) fun a hf => ?_
  refine stCut 7 (fun a w => Has 311 a ((1, .int .u8 a_) :: (2, .int .u8 b_) :: (3, .int .u8 between) :: (9, .slice p_1 r_1.1.length c_1) :: (10, .int .i64 r_1.2.1) :: (11, .int .i64 r_1.2.2.1) :: (12, .slice p_2 r_2.1.length c_2) :: (13, .int .i64 r_2.2) :: (16, .int .i64 r_3.2.2) :: (17, .pointer (some ⟨b_2, 0, none⟩)) :: (18, .pointer (some ⟨b_3, 0, none⟩)) :: (19, .int .i64 r_4.2.2) :: (61, .int .i64 r_2.2) :: (62, .bool (r_2.2 != 0)) :: (63, .bool (r_2.2 != 0)) :: (66, .bool ((r_2.2 != 0) || (r_3.2.2 != 5))) :: (67, .bool ((r_2.2 != 0) || (r_3.2.2 != 5))) :: (70, .bool (((r_2.2 != 0) || (r_3.2.2 != 5)) || (r_4.2.2 != 0))) :: (71, .bool (((r_2.2 != 0) || (r_3.2.2 != 5)) || (r_4.2.2 != 0))) :: (77, .bool ((((r_2.2 != 0) || (r_3.2.2 != 5)) || (r_4.2.2 != 0)) || (((r_2.1.length : Nat) : Int) != ((r_1.1.length : Nat) : Int)))) :: (78, .bool ((((r_2.2 != 0) || (r_3.2.2 != 5)) || (r_4.2.2 != 0)) || (((r_2.1.length : Nat) : Int) != ((r_1.1.length : Nat) : Int)))) :: (83, .bool t_1) :: (84, .bool t_1) :: (88, .bool (t_1 || (decide (r_4.1.N < 1)))) :: (89, .bool (t_1 || (decide (r_4.1.N < 1)))) :: (93, .bool ((t_1 || (decide (r_4.1.N < 1))) || (decide (r_4.1.D < 1)))) :: (94, .bool ((t_1 || (decide (r_4.1.N < 1))) || (decide (r_4.1.D < 1)))) :: (98, .bool (((t_1 || (decide (r_4.1.N < 1))) || (decide (r_4.1.D < 1))) || (decide (r_4.2.1.N < 1)))) :: (99, .bool (((t_1 || (decide (r_4.1.N < 1))) || (decide (r_4.1.D < 1))) || (decide (r_4.2.1.N < 1)))) :: (103, .bool ((((t_1 || (decide (r_4.1.N < 1))) || (decide (r_4.1.D < 1))) || (decide (r_4.2.1.N < 1))) || (decide (r_4.2.1.D < 1)))) :: (104, .bool ((((t_1 || (decide (r_4.1.N < 1))) || (decide (r_4.1.D < 1))) || (decide (r_4.2.1.N < 1))) || (decide (r_4.2.1.D < 1)))) :: (116, .bool (((((t_1 || (decide (r_4.1.N < 1))) || (decide (r_4.1.D < 1))) || (decide (r_4.2.1.N < 1))) || (decide (r_4.2.1.D < 1))) || (decide ((W (r_4.2.1.N * r_4.1.D)) < (W (r_4.1.N * r_4.2.1.D)))))) :: (117, .bool (((((t_1 || (decide (r_4.1.N < 1))) || (decide (r_4.1.D < 1))) || (decide (r_4.2.1.N < 1))) || (decide (r_4.2.1.D < 1))) || (decide ((W (r_4.2.1.N * r_4.1.D)) < (W (r_4.1.N * r_4.2.1.D)))))) :: (124, .bool ((((((t_1 || (decide (r_4.1.N < 1))) || (decide (r_4.1.D < 1))) || (decide (r_4.2.1.N < 1))) || (decide (r_4.2.1.D < 1))) || (decide ((W (r_4.2.1.N * r_4.1.D)) < (W (r_4.1.N * r_4.2.1.D))))) || (decide ((W (2000000 * r_4.1.D)) < r_4.1.N)))) :: []) ∧ Ctx G (.box b_3 [.int .i64 r_4.2.1.N, .int .i64 r_4.2.1.D] 71 :: .box b_2 [.int .i64 r_4.1.N, .int .i64 r_4.1.D] 71 :: .row p_1 c_1 (r_1.1.map encI_i64) 3 1 :: .row p_2 c_2 (r_2.1.map encI_i64) 3 1 :: .box b_1 [.slice numbers_p numbers.length numbers_c, .int .i64 r_1.2.2.2.1, .int .i64 r_1.2.2.2.2] 161 :: Lf) w) ?_ ?_
  · cases hb : (((((t_1 || (decide (r_4.1.N < 1))) || (decide (r_4.1.D < 1))) || (decide (r_4.2.1.N < 1))) || (decide (r_4.2.1.D < 1))) || (decide ((W (r_4.2.1.N * r_4.1.D)) < (W (r_4.1.N * r_4.2.1.D)))))
    · rw [hb] at hf
      refine stP hf rfl rfl rfl (pFA fa_71_0 rfl) fun a hf => ?_
      refine stE hf hc rfl rfl rfl (eLd1 sc_3 rfl (cell_box m1 rfl)) fun a w hf hc => ?_
      refine stP hf rfl rfl rfl (pFA fa_71_1 rfl) fun a hf => ?_
      refine stE hf hc rfl rfl rfl (eLd1 sc_3 rfl (cell_box m1 rfl)) fun a w hf hc => ?_
      refine stP hf rfl rfl rfl (pMul rfl rfl) fun a hf => ?_
      refine stP hf rfl rfl rfl (pGt rfl rfl) fun a hf => ?_
      refine stP hf rfl rfl rfl (pPf rfl rfl) fun a hf => ?_
      exact cNil ⟨hf.keep ⟨rfl, rfl, rfl, rfl, rfl, rfl, rfl, rfl, rfl, rfl, rfl, rfl, rfl, rfl, rfl, rfl, rfl, rfl, rfl, rfl, rfl, rfl, rfl, rfl, rfl, rfl, rfl, rfl, rfl, rfl, rfl, rfl, rfl, rfl, trivial⟩, hc⟩
    · rw [hb] at hf
      refine stS hf rfl rfl rfl fun a hf => ?_
      refine stS hf rfl rfl rfl fun a hf => ?_
      refine stS hf rfl rfl rfl fun a hf => ?_
      refine stS hf rfl rfl rfl fun a hf => ?_
      refine stS hf rfl rfl rfl fun a hf => ?_
      refine stS hf rfl rfl rfl fun a hf => ?_
      refine stP hf rfl rfl rfl (pPt rfl rfl) fun a hf => ?_
      exact cNil ⟨hf.keep ⟨rfl, rfl, rfl, rfl, rfl, rfl, rfl, rfl, rfl, rfl, rfl, rfl, rfl, rfl, rfl, rfl, rfl, rfl, rfl, rfl, rfl, rfl, rfl, rfl, rfl, rfl, rfl, rfl, rfl, rfl, rfl, rfl, rfl, rfl, trivial⟩, hc⟩
  intro a w ⟨hf, hc⟩
  refine stP hf rfl rfl rfl (pM rfl) fun a hf => ?_
  refine stCut 4 (fun a w => Has 311 a ((1, .int .u8 a_) :: (2, .int .u8 b_) :: (3, .int .u8 between) :: (9, .slice p_1 r_1.1.length c_1) :: (10, .int .i64 r_1.2.1) :: (11, .int .i64 r_1.2.2.1) :: (12, .slice p_2 r_2.1.length c_2) :: (13, .int .i64 r_2.2) :: (16, .int .i64 r_3.2.2) :: (17, .pointer (some ⟨b_2, 0, none⟩)) :: (18, .pointer (some ⟨b_3, 0, none⟩)) :: (19, .int .i64 r_4.2.2) :: (61, .int .i64 r_2.2) :: (62, .bool (r_2.2 != 0)) :: (63, .bool (r_2.2 != 0)) :: (66, .bool ((r_2.2 != 0) || (r_3.2.2 != 5))) :: (67, .bool ((r_2.2 != 0) || (r_3.2.2 != 5))) :: (70, .bool (((r_2.2 != 0) || (r_3.2.2 != 5)) || (r_4.2.2 != 0))) :: (71, .bool (((r_2.2 != 0) || (r_3.2.2 != 5)) || (r_4.2.2 != 0))) :: (77, .bool ((((r_2.2 != 0) || (r_3.2.2 != 5)) || (r_4.2.2 != 0)) || (((r_2.1.length : Nat) : Int) != ((r_1.1.length : Nat) : Int)))) :: (78, .bool ((((r_2.2 != 0) || (r_3.2.2 != 5)) || (r_4.2.2 != 0)) || (((r_2.1.length : Nat) : Int) != ((r_1.1.length : Nat) : Int)))) :: (83, .bool t_1) :: (84, .bool t_1) :: (88, .bool (t_1 || (decide (r_4.1.N < 1)))) :: (89, .bool (t_1 || (decide (r_4.1.N < 1)))) :: (93, .bool ((t_1 || (decide (r_4.1.N < 1))) || (decide (r_4.1.D < 1)))) :: (94, .bool ((t_1 || (decide (r_4.1.N < 1))) || (decide (r_4.1.D < 1)))) :: (98, .bool (((t_1 || (decide (r_4.1.N < 1))) || (decide (r_4.1.D < 1))) || (decide (r_4.2.1.N < 1)))) :: (99, .bool (((t_1 || (decide (r_4.1.N < 1))) || (decide (r_4.1.D < 1))) || (decide (r_4.2.1.N < 1)))) :: (103, .bool ((((t_1 || (decide (r_4.1.N < 1))) || (decide (r_4.1.D < 1))) || (decide (r_4.2.1.N < 1))) || (decide (r_4.2.1.D < 1)))) :: (104, .bool ((((t_1 || (decide (r_4.1.N < 1))) || (decide (r_4.1.D < 1))) || (decide (r_4.2.1.N < 1))) || (decide (r_4.2.1.D < 1)))) :: (116, .bool (((((t_1 || (decide (r_4.1.N < 1))) || (decide (r_4.1.D < 1))) || (decide (r_4.2.1.N < 1))) || (decide (r_4.2.1.D < 1))) || (decide ((W (r_4.2.1.N * r_4.1.D)) < (W (r_4.1.N * r_4.2.1.D)))))) :: (117, .bool (((((t_1 || (decide (r_4.1.N < 1))) || (decide (r_4.1.D < 1))) || (decide (r_4.2.1.N < 1))) || (decide (r_4.2.1.D < 1))) || (decide ((W (r_4.2.1.N * r_4.1.D)) < (W (r_4.1.N * r_4.2.1.D)))))) :: (124, .bool ((((((t_1 || (decide (r_4.1.N < 1))) || (decide (r_4.1.D < 1))) || (decide (r_4.2.1.N < 1))) || (decide (r_4.2.1.D < 1))) || (decide ((W (r_4.2.1.N * r_4.1.D)) < (W (r_4.1.N * r_4.2.1.D))))) || (decide ((W (2000000 * r_4.1.D)) < r_4.1.N)))) :: (125, .bool ((((((t_1 || (decide (r_4.1.N < 1))) || (decide (r_4.1.D < 1))) || (decide (r_4.2.1.N < 1))) || (decide (r_4.2.1.D < 1))) || (decide ((W (r_4.2.1.N * r_4.1.D)) < (W (r_4.1.N * r_4.2.1.D))))) || (decide ((W (2000000 * r_4.1.D)) < r_4.1.N)))) :: (129, .bool (((((((t_1 || (decide (r_4.1.N < 1))) || (decide (r_4.1.D < 1))) || (decide (r_4.2.1.N < 1))) || (decide (r_4.2.1.D < 1))) || (decide ((W (r_4.2.1.N * r_4.1.D)) < (W (r_4.1.N * r_4.2.1.D))))) || (decide ((W (2000000 * r_4.1.D)) < r_4.1.N))) || (decide (10000 < r_4.1.D)))) :: []) ∧ Ctx G (.box b_3 [.int .i64 r_4.2.1.N, .int .i64 r_4.2.1.D] 71 :: .box b_2 [.int .i64 r_4.1.N, .int .i64 r_4.1.D] 71 :: .row p_1 c_1 (r_1.1.map encI_i64) 3 1 :: .row p_2 c_2 (r_2.1.map encI_i64) 3 1 :: .box b_1 [.slice numbers_p numbers.length numbers_c, .int .i64 r_1.2.2.2.1, .int .i64 r_1.2.2.2.2] 161 :: Lf) w) ?_ ?_
  · cases hb : ((((((t_1 || (decide (r_4.1.N < 1))) || (decide (r_4.1.D < 1))) || (decide (r_4.2.1.N < 1))) || (decide (r_4.2.1.D < 1))) || (decide ((W (r_4.2.1.N * r_4.1.D)) < (W (r_4.1.N * r_4.2.1.D))))) || (decide ((W (2000000 * r_4.1.D)) < r_4.1.N)))
    · rw [hb] at hf
      refine stP hf rfl rfl rfl (pFA fa_71_1 rfl) fun a hf => ?_
      refine stE hf hc rfl rfl rfl (eLd1 sc_3 rfl (cell_box m1 rfl)) fun a w hf hc => ?_
      refine stP hf rfl rfl rfl (pGt rfl rfl) fun a hf => ?_
      refine stP hf rfl rfl rfl (pPf rfl rfl) fun a hf => ?_
      exact cNil ⟨hf.keep ⟨rfl, rfl, rfl, rfl, rfl, rfl, rfl, rfl, rfl, rfl, rfl, rfl, rfl, rfl, rfl, rfl, rfl, rfl, rfl, rfl, rfl, rfl, rfl, rfl, rfl, rfl, rfl, rfl, rfl, rfl, rfl, rfl, rfl, rfl, rfl, rfl, trivial⟩, hc⟩
    · rw [hb] at hf
      refine stS hf rfl rfl rfl fun a hf => ?_
      refine stS hf rfl rfl rfl fun a hf => ?_
      refine stS hf rfl rfl rfl fun a hf => ?_
      refine stP hf rfl rfl rfl (pPt rfl rfl) fun a hf => ?_
      exact cNil ⟨hf.keep ⟨rfl, rfl, rfl, rfl, rfl, rfl, rfl, rfl, rfl, rfl, rfl, rfl, rfl, rfl, rfl, rfl, rfl, rfl, rfl, rfl, rfl, rfl, rfl, rfl, rfl, rfl, rfl, rfl, rfl, rfl, rfl, rfl, rfl, rfl, rfl, rfl, trivial⟩, hc⟩
  intro a w ⟨hf, hc⟩
  refine stP hf rfl rfl rfl (pM rfl) fun a hf => ?_
  refine stCut 7 (fun a w => Has 311 a ((1, .int .u8 a_) :: (2, .int .u8 b_) :: (3, .int .u8 between) :: (9, .slice p_1 r_1.1.length c_1) :: (10, .int .i64 r_1.2.1) :: (11, .int .i64 r_1.2.2.1) :: (12, .slice p_2 r_2.1.length c_2) :: (13, .int .i64 r_2.2) :: (16, .int .i64 r_3.2.2) :: (17, .pointer (some ⟨b_2, 0, none⟩)) :: (18, .pointer (some ⟨b_3, 0, none⟩)) :: (19, .int .i64 r_4.2.2) :: (61, .int .i64 r_2.2) :: (62, .bool (r_2.2 != 0)) :: (63, .bool (r_2.2 != 0)) :: (66, .bool ((r_2.2 != 0) || (r_3.2.2 != 5))) :: (67, .bool ((r_2.2 != 0) || (r_3.2.2 != 5))) :: (70, .bool (((r_2.2 != 0) || (r_3.2.2 != 5)) || (r_4.2.2 != 0))) :: (71, .bool (((r_2.2 != 0) || (r_3.2.2 != 5)) || (r_4.2.2 != 0))) :: (77, .bool ((((r_2.2 != 0) || (r_3.2.2 != 5)) || (r_4.2.2 != 0)) || (((r_2.1.length : Nat) : Int) != ((r_1.1.length : Nat) : Int)))) :: (78, .bool ((((r_2.2 != 0) || (r_3.2.2 != 5)) || (r_4.2.2 != 0)) || (((r_2.1.length : Nat) : Int) != ((r_1.1.length : Nat) : Int)))) :: (83, .bool t_1) :: (84, .bool t_1) :: (88, .bool (t_1 || (decide (r_4.1.N < 1)))) :: (89, .bool (t_1 || (decide (r_4.1.N < 1)))) :: (93, .bool ((t_1 || (decide (r_4.1.N < 1))) || (decide (r_4.1.D < 1)))) :: (94, .bool ((t_1 || (decide (r_4.1.N < 1))) || (decide (r_4.1.D < 1)))) :: (98, .bool (((t_1 || (decide (r_4.1.N < 1))) || (decide (r_4.1.D < 1))) || (decide (r_4.2.1.N < 1)))) :: (99, .bool (((t_1 || (decide (r_4.1.N < 1))) || (decide (r_4.1.D < 1))) || (decide (r_4.2.1.N < 1)))) :: (103, .bool ((((t_1 || (decide (r_4.1.N < 1))) || (decide (r_4.1.D < 1))) || (decide (r_4.2.1.N < 1))) || (decide (r_4.2.1.D < 1)))) :: (104, .bool ((((t_1 || (decide (r_4.1.N < 1))) || (decide (r_4.1.D < 1))) || (decide (r_4.2.1.N < 1))) || (decide (r_4.2.1.D < 1)))) :: (116, .bool (((((t_1 || (decide (r_4.1.N < 1))) || (decide (r_4.1.D < 1))) || (decide (r_4.2.1.N < 1))) || (decide (r_4.2.1.D < 1))) || (decide ((W (r_4.2.1.N * r_4.1.D)) < (W (r_4.1.N * r_4.2.1.D)))))) :: (117, .bool (((((t_1 || (decide (r_4.1.N < 1))) || (decide (r_4.1.D < 1))) || (decide (r_4.2.1.N < 1))) || (decide (r_4.2.1.D < 1))) || (decide ((W (r_4.2.1.N * r_4.1.D)) < (W (r_4.1.N * r_4.2.1.D)))))) :: (124, .bool ((((((t_1 || (decide (r_4.1.N < 1))) || (decide (r_4.1.D < 1))) || (decide (r_4.2.1.N < 1))) || (decide (r_4.2.1.D < 1))) || (decide ((W (r_4.2.1.N * r_4.1.D)) < (W (r_4.1.N * r_4.2.1.D))))) || (decide ((W (2000000 * r_4.1.D)) < r_4.1.N)))) :: (125, .bool ((((((t_1 || (decide (r_4.1.N < 1))) || (decide (r_4.1.D < 1))) || (decide (r_4.2.1.N < 1))) || (decide (r_4.2.1.D < 1))) || (decide ((W (r_4.2.1.N * r_4.1.D)) < (W (r_4.1.N * r_4.2.1.D))))) || (decide ((W (2000000 * r_4.1.D)) < r_4.1.N)))) :: (129, .bool (((((((t_1 || (decide (r_4.1.N < 1))) || (decide (r_4.1.D < 1))) || (decide (r_4.2.1.N < 1))) || (decide (r_4.2.1.D < 1))) || (decide ((W (r_4.2.1.N * r_4.1.D)) < (W (r_4.1.N * r_4.2.1.D))))) || (decide ((W (2000000 * r_4.1.D)) < r_4.1.N))) || (decide (10000 < r_4.1.D)))) :: (130, .bool (((((((t_1 || (decide (r_4.1.N < 1))) || (decide (r_4.1.D < 1))) || (decide (r_4.2.1.N < 1))) || (decide (r_4.2.1.D < 1))) || (decide ((W (r_4.2.1.N * r_4.1.D)) < (W (r_4.1.N * r_4.2.1.D))))) || (decide ((W (2000000 * r_4.1.D)) < r_4.1.N))) || (decide (10000 < r_4.1.D)))) :: (137, .bool ((((((((t_1 || (decide (r_4.1.N < 1))) || (decide (r_4.1.D < 1))) || (decide (r_4.2.1.N < 1))) || (decide (r_4.2.1.D < 1))) || (decide ((W (r_4.2.1.N * r_4.1.D)) < (W (r_4.1.N * r_4.2.1.D))))) || (decide ((W (2000000 * r_4.1.D)) < r_4.1.N))) || (decide (10000 < r_4.1.D))) || (decide ((W (2000000 * r_4.2.1.D)) < r_4.2.1.N)))) :: []) ∧ Ctx G (.box b_3 [.int .i64 r_4.2.1.N, .int .i64 r_4.2.1.D] 71 :: .box b_2 [.int .i64 r_4.1.N, .int .i64 r_4.1.D] 71 :: .row p_1 c_1 (r_1.1.map encI_i64) 3 1 :: .row p_2 c_2 (r_2.1.map encI_i64) 3 1 :: .box b_1 [.slice numbers_p numbers.length numbers_c, .int .i64 r_1.2.2.2.1, .int .i64 r_1.2.2.2.2] 161 :: Lf) w) ?_ ?_
  · cases hb : (((((((t_1 || (decide (r_4.1.N < 1))) || (decide (r_4.1.D < 1))) || (decide (r_4.2.1.N < 1))) || (decide (r_4.2.1.D < 1))) || (decide ((W (r_4.2.1.N * r_4.1.D)) < (W (r_4.1.N * r_4.2.1.D))))) || (decide ((W (2000000 * r_4.1.D)) < r_4.1.N))) || (decide (10000 < r_4.1.D)))
    · rw [hb] at hf
      refine stP hf rfl rfl rfl (pFA fa_71_0 rfl) fun a hf => ?_
      refine stE hf hc rfl rfl rfl (eLd1 sc_3 rfl (cell_box m0 rfl)) fun a w hf hc => ?_
      refine stP hf rfl rfl rfl (pFA fa_71_1 rfl) fun a hf => ?_
      refine stE hf hc rfl rfl rfl (eLd1 sc_3 rfl (cell_box m0 rfl)) fun a w hf hc => ?_
      refine stP hf rfl rfl rfl (pMul rfl rfl) fun a hf => ?_
      refine stP hf rfl rfl rfl (pGt rfl rfl) fun a hf => ?_
      refine stP hf rfl rfl rfl (pPf rfl rfl) fun a hf => ?_
      exact cNil ⟨hf.keep ⟨rfl, rfl, rfl, rfl, rfl, rfl, rfl, rfl, rfl, rfl, rfl, rfl, rfl, rfl, rfl, rfl, rfl, rfl, rfl, rfl, rfl, rfl, rfl, rfl, rfl, rfl, rfl, rfl, rfl, rfl, rfl, rfl, rfl, rfl, rfl, rfl, rfl, rfl, trivial⟩, hc⟩
    · rw [hb] at hf
      refine stS hf rfl rfl rfl fun a hf => ?_
      refine stS hf rfl rfl rfl fun a hf => ?_
      refine stS hf rfl rfl rfl fun a hf => ?_
      refine stS hf rfl rfl rfl fun a hf => ?_
      refine stS hf rfl rfl rfl fun a hf => ?_
      refine stS hf rfl rfl rfl fun a hf => ?_
      refine stP hf rfl rfl rfl (pPt rfl rfl) fun a hf => ?_
      exact cNil ⟨hf.keep ⟨rfl, rfl, rfl, rfl, rfl, rfl, rfl, rfl, rfl, rfl, rfl, rfl, rfl, rfl, rfl, rfl, rfl, rfl, rfl, rfl, rfl, rfl, rfl, rfl, rfl, rfl, rfl, rfl, rfl, rfl, rfl, rfl, rfl, rfl, rfl, rfl, rfl, rfl, trivial⟩, hc⟩
  intro a w ⟨hf, hc⟩
  refine stP hf rfl rfl rfl (pM rfl) fun a hf => ?_
  refine stCut 4 (fun a w => Has 311 a ((1, .int .u8 a_) :: (2, .int .u8 b_) :: (3, .int .u8 between) :: (9, .slice p_1 r_1.1.length c_1) :: (10, .int .i64 r_1.2.1) :: (11, .int .i64 r_1.2.2.1) :: (12, .slice p_2 r_2.1.length c_2) :: (13, .int .i64 r_2.2) :: (16, .int .i64 r_3.2.2) :: (17, .pointer (some ⟨b_2, 0, none⟩)) :: (18, .pointer (some ⟨b_3, 0, none⟩)) :: (19, .int .i64 r_4.2.2) :: (61, .int .i64 r_2.2) :: (62, .bool (r_2.2 != 0)) :: (63, .bool (r_2.2 != 0)) :: (66, .bool ((r_2.2 != 0) || (r_3.2.2 != 5))) :: (67, .bool ((r_2.2 != 0) || (r_3.2.2 != 5))) :: (70, .bool (((r_2.2 != 0) || (r_3.2.2 != 5)) || (r_4.2.2 != 0))) :: (71, .bool (((r_2.2 != 0) || (r_3.2.2 != 5)) || (r_4.2.2 != 0))) :: (77, .bool ((((r_2.2 != 0) || (r_3.2.2 != 5)) || (r_4.2.2 != 0)) || (((r_2.1.length : Nat) : Int) != ((r_1.1.length : Nat) : Int)))) :: (78, .bool ((((r_2.2 != 0) || (r_3.2.2 != 5)) || (r_4.2.2 != 0)) || (((r_2.1.length : Nat) : Int) != ((r_1.1.length : Nat) : Int)))) :: (83, .bool t_1) :: (84, .bool t_1) :: (88, .bool (t_1 || (decide (r_4.1.N < 1)))) :: (89, .bool (t_1 || (decide (r_4.1.N < 1)))) :: (93, .bool ((t_1 || (decide (r_4.1.N < 1))) || (decide (r_4.1.D < 1)))) :: (94, .bool ((t_1 || (decide (r_4.1.N < 1))) || (decide (r_4.1.D < 1)))) :: (98, .bool (((t_1 || (decide (r_4.1.N < 1))) || (decide (r_4.1.D < 1))) || (decide (r_4.2.1.N < 1)))) :: (99, .bool (((t_1 || (decide (r_4.1.N < 1))) || (decide (r_4.1.D < 1))) || (decide (r_4.2.1.N < 1)))) :: (103, .bool ((((t_1 || (decide (r_4.1.N < 1))) || (decide (r_4.1.D < 1))) || (decide (r_4.2.1.N < 1))) || (decide (r_4.2.1.D < 1)))) :: (104, .bool ((((t_1 || (decide (r_4.1.N < 1))) || (decide (r_4.1.D < 1))) || (decide (r_4.2.1.N < 1))) || (decide (r_4.2.1.D < 1)))) :: (116, .bool (((((t_1 || (decide (r_4.1.N < 1))) || (decide (r_4.1.D < 1))) || (decide (r_4.2.1.N < 1))) || (decide (r_4.2.1.D < 1))) || (decide ((W (r_4.2.1.N * r_4.1.D)) < (W (r_4.1.N * r_4.2.1.D)))))) :: (117, .bool (((((t_1 || (decide (r_4.1.N < 1))) || (decide (r_4.1.D < 1))) || (decide (r_4.2.1.N < 1))) || (decide (r_4.2.1.D < 1))) || (decide ((W (r_4.2.1.N * r_4.1.D)) < (W (r_4.1.N * r_4.2.1.D)))))) :: (124, .bool ((((((t_1 || (decide (r_4.1.N < 1))) || (decide (r_4.1.D < 1))) || (decide (r_4.2.1.N < 1))) || (decide (r_4.2.1.D < 1))) || (decide ((W (r_4.2.1.N * r_4.1.D)) < (W (r_4.1.N * r_4.2.1.D))))) || (decide ((W (2000000 * r_4.1.D)) < r_4.1.N)))) :: (125, .bool ((((((t_1 || (decide (r_4.1.N < 1))) || (decide (r_4.1.D < 1))) || (decide (r_4.2.1.N < 1))) || (decide (r_4.2.1.D < 1))) || (decide ((W (r_4.2.1.N * r_4.1.D)) < (W (r_4.1.N * r_4.2.1.D))))) || (decide ((W (2000000 * r_4.1.D)) < r_4.1.N)))) :: (129, .bool (((((((t_1 || (decide (r_4.1.N < 1))) || (decide (r_4.1.D < 1))) || (decide (r_4.2.1.N < 1))) || (decide (r_4.2.1.D < 1))) || (decide ((W (r_4.2.1.N * r_4.1.D)) < (W (r_4.1.N * r_4.2.1.D))))) || (decide ((W (2000000 * r_4.1.D)) < r_4.1.N))) || (decide (10000 < r_4.1.D)))) :: (130, .bool (((((((t_1 || (decide (r_4.1.N < 1))) || (decide (r_4.1.D < 1))) || (decide (r_4.2.1.N < 1))) || (decide (r_4.2.1.D < 1))) || (decide ((W (r_4.2.1.N * r_4.1.D)) < (W (r_4.1.N * r_4.2.1.D))))) || (decide ((W (2000000 * r_4.1.D)) < r_4.1.N))) || (decide (10000 < r_4.1.D)))) :: (137, .bool ((((((((t_1 || (decide (r_4.1.N < 1))) || (decide (r_4.1.D < 1))) || (decide (r_4.2.1.N < 1))) || (decide (r_4.2.1.D < 1))) || (decide ((W (r_4.2.1.N * r_4.1.D)) < (W (r_4.1.N * r_4.2.1.D))))) || (decide ((W (2000000 * r_4.1.D)) < r_4.1.N))) || (decide (10000 < r_4.1.D))) || (decide ((W (2000000 * r_4.2.1.D)) < r_4.2.1.N)))) :: (138, .bool ((((((((t_1 || (decide (r_4.1.N < 1))) || (decide (r_4.1.D < 1))) || (decide (r_4.2.1.N < 1))) || (decide (r_4.2.1.D < 1))) || (decide ((W (r_4.2.1.N * r_4.1.D)) < (W (r_4.1.N * r_4.2.1.D))))) || (decide ((W (2000000 * r_4.1.D)) < r_4.1.N))) || (decide (10000 < r_4.1.D))) || (decide ((W (2000000 * r_4.2.1.D)) < r_4.2.1.N)))) :: (142, .bool (((((((((t_1 || (decide (r_4.1.N < 1))) || (decide (r_4.1.D < 1))) || (decide (r_4.2.1.N < 1))) || (decide (r_4.2.1.D < 1))) || (decide ((W (r_4.2.1.N * r_4.1.D)) < (W (r_4.1.N * r_4.2.1.D))))) || (decide ((W (2000000 * r_4.1.D)) < r_4.1.N))) || (decide (10000 < r_4.1.D))) || (decide ((W (2000000 * r_4.2.1.D)) < r_4.2.1.N))) || (decide (10000 < r_4.2.1.D)))) :: []) ∧ Ctx G (.box b_3 [.int .i64 r_4.2.1.N, .int .i64 r_4.2.1.D] 71 :: .box b_2 [.int .i64 r_4.1.N, .int .i64 r_4.1.D] 71 :: .row p_1 c_1 (r_1.1.map encI_i64) 3 1 :: .row p_2 c_2 (r_2.1.map encI_i64) 3 1 :: .box b_1 [.slice numbers_p numbers.length numbers_c, .int .i64 r_1.2.2.2.1, .int .i64 r_1.2.2.2.2] 161 :: Lf) w) ?_ ?_
  · cases hb : ((((((((t_1 || (decide (r_4.1.N < 1))) || (decide (r_4.1.D < 1))) || (decide (r_4.2.1.N < 1))) || (decide (r_4.2.1.D < 1))) || (decide ((W (r_4.2.1.N * r_4.1.D)) < (W (r_4.1.N * r_4.2.1.D))))) || (decide ((W (2000000 * r_4.1.D)) < r_4.1.N))) || (decide (10000 < r_4.1.D))) || (decide ((W (2000000 * r_4.2.1.D)) < r_4.2.1.N)))
    · rw [hb] at hf
      refine stP hf rfl rfl rfl (pFA fa_71_1 rfl) fun a hf => ?_
      refine stE hf hc rfl rfl rfl (eLd1 sc_3 rfl (cell_box m0 rfl)) fun a w hf hc => ?_
      refine stP hf rfl rfl rfl (pGt rfl rfl) fun a hf => ?_
      refine stP hf rfl rfl rfl (pPf rfl rfl) fun a hf => ?_
      exact cNil ⟨hf.keep ⟨rfl, rfl, rfl, rfl, rfl, rfl, rfl, rfl, rfl, rfl, rfl, rfl, rfl, rfl, rfl, rfl, rfl, rfl, rfl, rfl, rfl, rfl, rfl, rfl, rfl, rfl, rfl, rfl, rfl, rfl, rfl, rfl, rfl, rfl, rfl, rfl, rfl, rfl, rfl, rfl, trivial⟩, hc⟩
    · rw [hb] at hf
      refine stS hf rfl rfl rfl fun a hf => ?_
      refine stS hf rfl rfl rfl fun a hf => ?_
      refine stS hf rfl rfl rfl fun a hf => ?_
      refine stP hf rfl rfl rfl (pPt rfl rfl) fun a hf => ?_
      exact cNil ⟨hf.keep ⟨rfl, rfl, rfl, rfl, rfl, rfl, rfl, rfl, rfl, rfl, rfl, rfl, rfl, rfl, rfl, rfl, rfl, rfl, rfl, rfl, rfl, rfl, rfl, rfl, rfl, rfl, rfl, rfl, rfl, rfl, rfl, rfl, rfl, rfl, rfl, rfl, rfl, rfl, rfl, rfl, trivial⟩, hc⟩
  intro a w ⟨hf, hc⟩
  refine cNil ?_
  refine h7 _ _ ?_
  refine cCond (b := (((((((((t_1 || (decide (r_4.1.N < 1))) || (decide (r_4.1.D < 1))) || (decide (r_4.2.1.N < 1))) || (decide (r_4.2.1.D < 1))) || (decide ((W (r_4.2.1.N * r_4.1.D)) < (W (r_4.1.N * r_4.2.1.D))))) || (decide ((W (2000000 * r_4.1.D)) < r_4.1.N))) || (decide (10000 < r_4.1.D))) || (decide ((W (2000000 * r_4.2.1.D)) < r_4.2.1.N))) || (decide (10000 < r_4.2.1.D)))) hf rfl (fun hb => ?_) (fun hb => ?_)
  · replace hF := condT hb hF
    clear hb
    refine wp_seq_k fun K8 h8 => ?_
    refine cReg ?_
    refine stP hf rfl rfl rfl (pA rfl) fun a hf => ?_
    refine cNil ?_
    refine h8 _ _ ?_
    refine wp_ret ?_
    refine xThenR ?_
    obtain rfl := Option.some.inj hF
    replace hc := hc.drop k4
    replace hc := hc.drop k3
    replace hc := hc.drop k2
    replace hc := hc.drop k1
    replace hc := hc.drop k0
    exact fnOut1 (by simp) rfl Try.results7 hf hc (show look _ 8 = _ from rfl) ⟨rfl, hc⟩
  · replace hF := condF hb hF
    clear hb
    refine wp_skip ?_
    refine h6 _ _ ?_
    refine wp_seq_k fun K9 h9 => ?_
    refine cReg ?_
    refine stP hf rfl rfl rfl (pM rfl) fun a hf => ?_
    refine stP hf rfl rfl rfl (pCv Try.underlying5 Try.underlying3 rfl) fun a hf => ?_
    refine stP hf rfl rfl rfl (pA rfl) fun a hf => ?_
    refine cNil ?_
    refine h9 _ _ ?_
    refine wp_seq_k fun K10 h10 => ?_
    refine cReg ?_
    refine stP hf rfl rfl rfl (pFA fa_71_0 rfl) fun a hf => ?_
    refine stE hf hc rfl rfl rfl (eLd1 sc_3 rfl (cell_box m1 rfl)) fun a w hf hc => ?_
    refine stP hf rfl rfl rfl (pFA fa_71_1 rfl) fun a hf => ?_
    refine stE hf hc rfl rfl rfl (eLd1 sc_3 rfl (cell_box m0 rfl)) fun a w hf hc => ?_
    refine stP hf rfl rfl rfl (pMul rfl rfl) fun a hf => ?_
    refine stP hf rfl rfl rfl (pM rfl) fun a hf => ?_
    refine stP hf rfl rfl rfl (pMul rfl rfl) fun a hf => ?_
    refine stP hf rfl rfl rfl (pFA fa_71_0 rfl) fun a hf => ?_
    refine stE hf hc rfl rfl rfl (eLd1 sc_3 rfl (cell_box m0 rfl)) fun a w hf hc => ?_
    refine stP hf rfl rfl rfl (pFA fa_71_1 rfl) fun a hf => ?_
    refine stE hf hc rfl rfl rfl (eLd1 sc_3 rfl (cell_box m1 rfl)) fun a w hf hc => ?_
    refine stP hf rfl rfl rfl (pMul rfl rfl) fun a hf => ?_
    refine stP hf rfl rfl rfl (pM rfl) fun a hf => ?_
    refine stP hf rfl rfl rfl (pSub rfl rfl) fun a hf => ?_
    refine stP hf rfl rfl rfl (pMul rfl rfl) fun a hf => ?_
    refine stP hf rfl rfl rfl (pAdd rfl rfl) fun a hf => ?_
    refine stP hf rfl rfl rfl (pFA fa_71_1 rfl) fun a hf => ?_
    refine stE hf hc rfl rfl rfl (eLd1 sc_3 rfl (cell_box m1 rfl)) fun a w hf hc => ?_
    refine stP hf rfl rfl rfl (pMul rfl rfl) fun a hf => ?_
    refine stP hf rfl rfl rfl (pFA fa_71_1 rfl) fun a hf => ?_
    refine stE hf hc rfl rfl rfl (eLd1 sc_3 rfl (cell_box m0 rfl)) fun a w hf hc => ?_
    refine stP hf rfl rfl rfl (pMul rfl rfl) fun a hf => ?_
    refine stP hf rfl rfl rfl (pBuildS (cells := [.int .i64 (W ((W ((W (r_4.1.N * r_4.2.1.D)) * (W (between)))) + (W ((W (r_4.2.1.N * r_4.1.D)) * (W (255 - (W (between)))))))), .int .i64 (W ((W (255 * r_4.1.D)) * r_4.2.1.D))]) bt_71 rfl rfl) fun a hf => ?_
    refine stAl (cs := [.int .i64 0, .int .i64 0]) hf hc rfl rfl zr_71 rfl fun b_4 a w hf hc => ?_
    refine stSt (vs := [.int .i64 (W ((W ((W (r_4.1.N * r_4.2.1.D)) * (W (between)))) + (W ((W (r_4.2.1.N * r_4.1.D)) * (W (255 - (W (between)))))))), .int .i64 (W ((W (255 * r_4.1.D)) * r_4.2.1.D))]) hf hc rfl rfl rfl rfl sz_71 rfl rfl u0 fun w hc => ?_
    refine cNil ?_
    refine h10 _ _ ?_
    refine wp_seq_k fun K11 h11 => ?_
    replace hc := hc.nilRow 0 0
    replace hc := hc.nilRow 0 0
    refine regionE (fun θ => (⟨none, none, 1, .int .u8 a_⟩ :: ⟨none, none, 2, .int .u8 b_⟩ :: ⟨none, none, 9, .slice p_1 r_1.1.length c_1⟩ :: ⟨none, none, 11, .int .i64 r_1.2.2.1⟩ :: ⟨none, none, 12, .slice p_2 r_2.1.length c_2⟩ :: ⟨none, none, 17, .pointer (some ⟨b_2, 0, none⟩)⟩ :: ⟨none, none, 18, .pointer (some ⟨b_3, 0, none⟩)⟩ :: ⟨none, none, 21, .pointer (some ⟨b_4, 0, none⟩)⟩ :: ⟨some 0, none, 168, .pointer (some ⟨b_2, 0, none⟩)⟩ :: ⟨some 1, none, 169, .int .i64 r_4.1.N⟩ :: ⟨some 2, none, 170, .int .i64 (W (1000 * r_4.1.N))⟩ :: ⟨some 3, none, 171, .pointer (some ⟨b_2, 1, none⟩)⟩ :: ⟨some 4, none, 172, .int .i64 r_4.1.D⟩ :: ⟨some 5, none, 173, .int .i64 (W ((W (1000 * r_4.1.N)) - r_4.1.D))⟩ :: ⟨some 6, none, 174, .pointer (some ⟨b_2, 1, none⟩)⟩ :: ⟨some 7, none, 175, .int .i64 r_4.1.D⟩ :: ⟨some 8, none, 176, .int .i64 (W (1000 * r_4.1.D))⟩ :: ⟨some 9, none, 177, .agg #[.int .i64 (W ((W (1000 * r_4.1.N)) - r_4.1.D)), .int .i64 (W (1000 * r_4.1.D))]⟩ :: ⟨some 10, none, 178, .pointer (some ⟨b_3, 0, none⟩)⟩ :: ⟨some 11, none, 179, .int .i64 r_4.2.1.N⟩ :: ⟨some 12, none, 180, .int .i64 (W (1000 * r_4.2.1.N))⟩ :: ⟨some 13, none, 181, .pointer (some ⟨b_3, 1, none⟩)⟩ :: ⟨some 14, none, 182, .int .i64 r_4.2.1.D⟩ :: ⟨some 15, none, 183, .int .i64 (W ((W (1000 * r_4.2.1.N)) + r_4.2.1.D))⟩ :: ⟨some 16, none, 184, .pointer (some ⟨b_3, 1, none⟩)⟩ :: ⟨some 17, none, 185, .int .i64 r_4.2.1.D⟩ :: ⟨some 18, none, 186, .int .i64 (W (1000 * r_4.2.1.D))⟩ :: ⟨some 19, none, 187, .agg #[.int .i64 (W ((W (1000 * r_4.2.1.N)) + r_4.2.1.D)), .int .i64 (W (1000 * r_4.2.1.D))]⟩ :: ⟨some 20, none, 22, .pointer (some ⟨(θ 160).b, 0, none⟩)⟩ :: ⟨some 21, none, 23, .pointer (some ⟨(θ 168).b, 0, none⟩)⟩ :: [])) (fun E θ => (bif E 23 then .box (θ 168).b [.int .i64 (W ((W (1000 * r_4.2.1.N)) + r_4.2.1.D)), .int .i64 (W (1000 * r_4.2.1.D))] 71 else bif E 21 then .box (θ 168).b [.int .i64 0, .int .i64 0] 71 else .row none 0 [] 0 0) :: (bif E 22 then .box (θ 160).b [.int .i64 (W ((W (1000 * r_4.1.N)) - r_4.1.D)), .int .i64 (W (1000 * r_4.1.D))] 71 else bif E 20 then .box (θ 160).b [.int .i64 0, .int .i64 0] 71 else .row none 0 [] 0 0) :: .box b_4 [.int .i64 (W ((W ((W (r_4.1.N * r_4.2.1.D)) * (W (between)))) + (W ((W (r_4.2.1.N * r_4.1.D)) * (W (255 - (W (between)))))))), .int .i64 (W ((W (255 * r_4.1.D)) * r_4.2.1.D))] 71 :: .box b_3 [.int .i64 r_4.2.1.N, .int .i64 r_4.2.1.D] 71 :: .box b_2 [.int .i64 r_4.1.N, .int .i64 r_4.1.D] 71 :: .row p_1 c_1 (r_1.1.map encI_i64) 3 1 :: .row p_2 c_2 (r_2.1.map encI_i64) 3 1 :: .box b_1 [.slice numbers_p numbers.length numbers_c, .int .i64 r_1.2.2.2.1, .int .i64 r_1.2.2.2.2] 161 :: Lf) [(22, 20), (23, 21)] (fun a w => ∃ (b_7 : Nat) (b_8 : Nat), Has 311 a [(1, .int .u8 a_), (2, .int .u8 b_), (9, .slice p_1 r_1.1.length c_1), (11, .int .i64 r_1.2.2.1), (12, .slice p_2 r_2.1.length c_2), (17, .pointer (some ⟨b_2, 0, none⟩)), (18, .pointer (some ⟨b_3, 0, none⟩)), (21, .pointer (some ⟨b_4, 0, none⟩)), (22, .pointer (some ⟨b_7, 0, none⟩)), (23, .pointer (some ⟨b_8, 0, none⟩))] ∧ Ctx G (.box b_8 [.int .i64 (W ((W (1000 * r_4.2.1.N)) + r_4.2.1.D)), .int .i64 (W (1000 * r_4.2.1.D))] 71 :: .box b_7 [.int .i64 (W ((W (1000 * r_4.1.N)) - r_4.1.D)), .int .i64 (W (1000 * r_4.1.D))] 71 :: .box b_4 [.int .i64 (W ((W ((W (r_4.1.N * r_4.2.1.D)) * (W (between)))) + (W ((W (r_4.2.1.N * r_4.1.D)) * (W (255 - (W (between)))))))), .int .i64 (W ((W (255 * r_4.1.D)) * r_4.2.1.D))] 71 :: .box b_3 [.int .i64 r_4.2.1.N, .int .i64 r_4.2.1.D] 71 :: .box b_2 [.int .i64 r_4.1.N, .int .i64 r_4.1.D] 71 :: .row p_1 c_1 (r_1.1.map encI_i64) 3 1 :: .row p_2 c_2 (r_2.1.map encI_i64) 3 1 :: .box b_1 [.slice numbers_p numbers.length numbers_c, .int .i64 r_1.2.2.2.1, .int .i64 r_1.2.2.2.2] 161 :: Lf) w) follows_mx (by kernel_rfl) (by kernel_rfl) (HasE.of hf ⟨rfl, rfl, rfl, rfl, rfl, rfl, rfl, rfl, trivial, trivial, trivial, trivial, trivial, trivial, trivial, trivial, trivial, trivial, trivial, trivial, trivial, trivial, trivial, trivial, trivial, trivial, trivial, trivial, trivial, trivial, trivial⟩) hc ⟨?_, ?_, ?_, ?_, ?_, ?_, ?_, ?_, ?_, ?_, ?_, ?_, ?_, ?_, ?_, ?_, ?_, ?_, ?_, ?_, ?_, ?_, ?_, ?_, trivial⟩ ?_ ?_
    · intro E θ a w hD hi hp he hc
      have hf := he.h0
      replace hf := hf.more he 5 rfl onT
      refine stP hf rfl rfl rfl (pFA fa_71_0 rfl) fun a hf => ?_
      refine cNil ?_
      refine xThenN ?_
      intro ds u hau
      refine ⟨θ, he.put0 hi hau hf rfl 8 rfl rfl, ?_⟩
      exact hc
    · intro E θ a w hD hi hp he hc
      have e0 := hp.of (k := 0) rfl
      have hf := he.h0
      replace hf := hf.more he 8 rfl (onP e0)
      refine stE hf hc rfl rfl rfl (eLd1 sc_3 rfl (cell_box m4 rfl)) fun a w hf hc => ?_
      refine cNil ?_
      refine xThenN ?_
      intro ds u hau
      refine ⟨θ, he.put0 hi hau hf rfl 9 rfl rfl, ?_⟩
      exact hc
    · intro E θ a w hD hi hp he hc
      have e1 := hp.of (k := 1) rfl
      have hf := he.h0
      replace hf := hf.more he 9 rfl (onP e1)
      refine stP hf rfl rfl rfl (pMul rfl rfl) fun a hf => ?_
      refine cNil ?_
      refine xThenN ?_
      intro ds u hau
      refine ⟨θ, he.put0 hi hau hf rfl 10 rfl rfl, ?_⟩
      exact hc
    · intro E θ a w hD hi hp he hc
      have hf := he.h0
      replace hf := hf.more he 5 rfl onT
      refine stP hf rfl rfl rfl (pFA fa_71_1 rfl) fun a hf => ?_
      refine cNil ?_
      refine xThenN ?_
      intro ds u hau
      refine ⟨θ, he.put0 hi hau hf rfl 11 rfl rfl, ?_⟩
      exact hc
    · intro E θ a w hD hi hp he hc
      have e3 := hp.of (k := 3) rfl
      have hf := he.h0
      replace hf := hf.more he 11 rfl (onP e3)
      refine stE hf hc rfl rfl rfl (eLd1 sc_3 rfl (cell_box m4 rfl)) fun a w hf hc => ?_
      refine cNil ?_
      refine xThenN ?_
      intro ds u hau
      refine ⟨θ, he.put0 hi hau hf rfl 12 rfl rfl, ?_⟩
      exact hc
    · intro E θ a w hD hi hp he hc
      have e2 := hp.of (k := 2) rfl
      have e4 := hp.of (k := 4) rfl
      have hf := he.h0
      replace hf := hf.more he 10 rfl (onP e2)
      replace hf := hf.more he 12 rfl (onP e4)
      refine stP hf rfl rfl rfl (pSub rfl rfl) fun a hf => ?_
      refine cNil ?_
      refine xThenN ?_
      intro ds u hau
      refine ⟨θ, he.put0 hi hau hf rfl 13 rfl rfl, ?_⟩
      exact hc
    · intro E θ a w hD hi hp he hc
      have hf := he.h0
      replace hf := hf.more he 5 rfl onT
      refine stP hf rfl rfl rfl (pFA fa_71_1 rfl) fun a hf => ?_
      refine cNil ?_
      refine xThenN ?_
      intro ds u hau
      refine ⟨θ, he.put0 hi hau hf rfl 14 rfl rfl, ?_⟩
      exact hc
    · intro E θ a w hD hi hp he hc
      have e6 := hp.of (k := 6) rfl
      have hf := he.h0
      replace hf := hf.more he 14 rfl (onP e6)
      refine stE hf hc rfl rfl rfl (eLd1 sc_3 rfl (cell_box m4 rfl)) fun a w hf hc => ?_
      refine cNil ?_
      refine xThenN ?_
      intro ds u hau
      refine ⟨θ, he.put0 hi hau hf rfl 15 rfl rfl, ?_⟩
      exact hc
    · intro E θ a w hD hi hp he hc
      have e7 := hp.of (k := 7) rfl
      have hf := he.h0
      replace hf := hf.more he 15 rfl (onP e7)
      refine stP hf rfl rfl rfl (pMul rfl rfl) fun a hf => ?_
      refine cNil ?_
      refine xThenN ?_
      intro ds u hau
      refine ⟨θ, he.put0 hi hau hf rfl 16 rfl rfl, ?_⟩
      exact hc
    · intro E θ a w hD hi hp he hc
      have e5 := hp.of (k := 5) rfl
      have e8 := hp.of (k := 8) rfl
      have hf := he.h0
      replace hf := hf.more he 13 rfl (onP e5)
      replace hf := hf.more he 16 rfl (onP e8)
      refine stP hf rfl rfl rfl (pBuildS (cells := [.int .i64 (W ((W (1000 * r_4.1.N)) - r_4.1.D)), .int .i64 (W (1000 * r_4.1.D))]) bt_71 rfl rfl) fun a hf => ?_
      refine cNil ?_
      refine xThenN ?_
      intro ds u hau
      refine ⟨θ, he.put0 hi hau hf rfl 17 rfl rfl, ?_⟩
      exact hc
    · intro E θ a w hD hi hp he hc
      have hf := he.h0
      replace hf := hf.more he 6 rfl onT
      refine stP hf rfl rfl rfl (pFA fa_71_0 rfl) fun a hf => ?_
      refine cNil ?_
      refine xThenN ?_
      intro ds u hau
      refine ⟨θ, he.put0 hi hau hf rfl 18 rfl rfl, ?_⟩
      exact hc
    · intro E θ a w hD hi hp he hc
      have e10 := hp.of (k := 10) rfl
      have hf := he.h0
      replace hf := hf.more he 18 rfl (onP e10)
      refine stE hf hc rfl rfl rfl (eLd1 sc_3 rfl (cell_box m3 rfl)) fun a w hf hc => ?_
      refine cNil ?_
      refine xThenN ?_
      intro ds u hau
      refine ⟨θ, he.put0 hi hau hf rfl 19 rfl rfl, ?_⟩
      exact hc
    · intro E θ a w hD hi hp he hc
      have e11 := hp.of (k := 11) rfl
      have hf := he.h0
      replace hf := hf.more he 19 rfl (onP e11)
      refine stP hf rfl rfl rfl (pMul rfl rfl) fun a hf => ?_
      refine cNil ?_
      refine xThenN ?_
      intro ds u hau
      refine ⟨θ, he.put0 hi hau hf rfl 20 rfl rfl, ?_⟩
      exact hc
    · intro E θ a w hD hi hp he hc
      have hf := he.h0
      replace hf := hf.more he 6 rfl onT
      refine stP hf rfl rfl rfl (pFA fa_71_1 rfl) fun a hf => ?_
      refine cNil ?_
      refine xThenN ?_
      intro ds u hau
      refine ⟨θ, he.put0 hi hau hf rfl 21 rfl rfl, ?_⟩
      exact hc
    · intro E θ a w hD hi hp he hc
      have e13 := hp.of (k := 13) rfl
      have hf := he.h0
      replace hf := hf.more he 21 rfl (onP e13)
      refine stE hf hc rfl rfl rfl (eLd1 sc_3 rfl (cell_box m3 rfl)) fun a w hf hc => ?_
      refine cNil ?_
      refine xThenN ?_
      intro ds u hau
      refine ⟨θ, he.put0 hi hau hf rfl 22 rfl rfl, ?_⟩
      exact hc
    · intro E θ a w hD hi hp he hc
      have e12 := hp.of (k := 12) rfl
      have e14 := hp.of (k := 14) rfl
      have hf := he.h0
      replace hf := hf.more he 20 rfl (onP e12)
      replace hf := hf.more he 22 rfl (onP e14)
      refine stP hf rfl rfl rfl (pAdd rfl rfl) fun a hf => ?_
      refine cNil ?_
      refine xThenN ?_
      intro ds u hau
      refine ⟨θ, he.put0 hi hau hf rfl 23 rfl rfl, ?_⟩
      exact hc
    · intro E θ a w hD hi hp he hc
      have hf := he.h0
      replace hf := hf.more he 6 rfl onT
      refine stP hf rfl rfl rfl (pFA fa_71_1 rfl) fun a hf => ?_
      refine cNil ?_
      refine xThenN ?_
      intro ds u hau
      refine ⟨θ, he.put0 hi hau hf rfl 24 rfl rfl, ?_⟩
      exact hc
    · intro E θ a w hD hi hp he hc
      have e16 := hp.of (k := 16) rfl
      have hf := he.h0
      replace hf := hf.more he 24 rfl (onP e16)
      refine stE hf hc rfl rfl rfl (eLd1 sc_3 rfl (cell_box m3 rfl)) fun a w hf hc => ?_
      refine cNil ?_
      refine xThenN ?_
      intro ds u hau
      refine ⟨θ, he.put0 hi hau hf rfl 25 rfl rfl, ?_⟩
      exact hc
    · intro E θ a w hD hi hp he hc
      have e17 := hp.of (k := 17) rfl
      have hf := he.h0
      replace hf := hf.more he 25 rfl (onP e17)
      refine stP hf rfl rfl rfl (pMul rfl rfl) fun a hf => ?_
      refine cNil ?_
      refine xThenN ?_
      intro ds u hau
      refine ⟨θ, he.put0 hi hau hf rfl 26 rfl rfl, ?_⟩
      exact hc
    · intro E θ a w hD hi hp he hc
      have e15 := hp.of (k := 15) rfl
      have e18 := hp.of (k := 18) rfl
      have hf := he.h0
      replace hf := hf.more he 23 rfl (onP e15)
      replace hf := hf.more he 26 rfl (onP e18)
      refine stP hf rfl rfl rfl (pBuildS (cells := [.int .i64 (W ((W (1000 * r_4.2.1.N)) + r_4.2.1.D)), .int .i64 (W (1000 * r_4.2.1.D))]) bt_71 rfl rfl) fun a hf => ?_
      refine cNil ?_
      refine xThenN ?_
      intro ds u hau
      refine ⟨θ, he.put0 hi hau hf rfl 27 rfl rfl, ?_⟩
      exact hc
    · intro E θ a w hD hi hp he hc
      have e22 := hD.f 0 rfl hi
      try dsimp only at hc
      rw [hi, e22] at hc
      have hf := he.h0
      refine stAl (cs := [.int .i64 0, .int .i64 0]) hf hc rfl rfl zr_71 rfl fun b_5 a w hf hc => ?_
      refine cNil ?_
      refine xThenN ?_
      intro ds u hau
      replace hc := hc.drop k2
      replace hc := hc.pick k0
      replace hc := hc.pick k1
      refine ⟨(setT θ 160 ⟨b_5, none, 0⟩), he.put hi hau hf rfl [] trivial ⟨qq, qq, qq, qq, qq, qq, qq, qq, qq, qq, qq, qq, qq, qq, qq, qq, qq, qq, qq, qq, qq, qq, qq, qq, qq, qq, qq, qq, qq, qq, trivial⟩, ?_⟩
      try dsimp only
      rw [updE_self E 20, updE_fls 20 e22 rfl]
      exact hc
    · intro E θ a w hD hi hp he hc
      have e23 := hD.f 1 rfl hi
      try dsimp only at hc
      rw [hi, e23] at hc
      have hf := he.h0
      refine stAl (cs := [.int .i64 0, .int .i64 0]) hf hc rfl rfl zr_71 rfl fun b_6 a w hf hc => ?_
      refine cNil ?_
      refine xThenN ?_
      intro ds u hau
      replace hc := hc.drop k1
      refine ⟨(setT θ 168 ⟨b_6, none, 0⟩), he.put hi hau hf rfl [] trivial ⟨qq, qq, qq, qq, qq, qq, qq, qq, qq, qq, qq, qq, qq, qq, qq, qq, qq, qq, qq, qq, qq, qq, qq, qq, qq, qq, qq, qq, qq, qq, trivial⟩, ?_⟩
      try dsimp only
      rw [updE_self E 21, updE_fls 21 e23 rfl]
      exact hc
    · intro E θ a w hD hi hp he hc
      have e9 := hp.of (k := 9) rfl
      have e20 := hp.of (k := 20) rfl
      try dsimp only at hc
      rw [e20, hi] at hc
      have hf := he.h0
      replace hf := hf.more he 17 rfl (onP e9)
      replace hf := hf.more he 28 rfl (onP e20)
      refine stSt (vs := [.int .i64 (W ((W (1000 * r_4.1.N)) - r_4.1.D)), .int .i64 (W (1000 * r_4.1.D))]) hf hc rfl rfl rfl rfl sz_71 rfl rfl u1 fun w hc => ?_
      refine cNil ?_
      refine xThenN ?_
      intro ds u hau
      refine ⟨θ, he.stay0 hi hau hf rfl, ?_⟩
      try dsimp only
      rw [updE_tru 22 e20, updE_self E 22]
      exact hc
    · intro E θ a w hD hi hp he hc
      have e19 := hp.of (k := 19) rfl
      have e21 := hp.of (k := 21) rfl
      try dsimp only at hc
      rw [e21, hi] at hc
      have hf := he.h0
      replace hf := hf.more he 27 rfl (onP e19)
      replace hf := hf.more he 29 rfl (onP e21)
      refine stSt (vs := [.int .i64 (W ((W (1000 * r_4.2.1.N)) + r_4.2.1.D)), .int .i64 (W (1000 * r_4.2.1.D))]) hf hc rfl rfl rfl rfl sz_71 rfl rfl u0 fun w hc => ?_
      refine cNil ?_
      refine xThenN ?_
      intro ds u hau
      refine ⟨θ, he.stay0 hi hau hf rfl, ?_⟩
      try dsimp only
      rw [updE_tru 23 e21, updE_self E 23]
      exact hc
    · intro E θ a w hall he hc
      have hf := he.h0
      have e20 := hall 20 rfl
      have e21 := hall 21 rfl
      have e22 := hall 22 rfl
      have e23 := hall 23 rfl
      replace hf := hf.more he 29 rfl (onP e21)
      replace hf := hf.more he 28 rfl (onP e20)
      replace hf := hf.more he 7 rfl (onT)
      replace hf := hf.more he 6 rfl (onT)
      replace hf := hf.more he 5 rfl (onT)
      replace hf := hf.more he 4 rfl (onT)
      replace hf := hf.more he 3 rfl (onT)
      replace hf := hf.more he 2 rfl (onT)
      replace hf := hf.more he 1 rfl (onT)
      replace hf := hf.more he 0 rfl (onT)
      try dsimp only at hc
      rw [e20, e21, e22, e23] at hc
      exact ⟨(θ 160).b, (θ 168).b, hf.keep ⟨rfl, rfl, rfl, rfl, rfl, rfl, rfl, rfl, rfl, rfl, trivial⟩, hc⟩
    rintro a w ⟨b_7, b_8, hf, hc⟩
    refine h11 _ _ ?_
    refine wp_seq_k fun K12 h12 => ?_
    refine wp_seq_k fun K13 h13 => ?_
    refine cReg ?_
    refine stE hf hc rfl rfl rfl (eLdN (vs := [.int .i64 r_4.1.N, .int .i64 r_4.1.D]) ag_71 rfl rfl (cells_box (n := 2) m4 rfl)) fun a w hf hc => ?_
    refine stE hf hc rfl rfl rfl (eLdN (vs := [.int .i64 r_4.2.1.N, .int .i64 r_4.2.1.D]) ag_71 rfl rfl (cells_box (n := 2) m3 rfl)) fun a w hf hc => ?_
    refine stE hf hc rfl rfl rfl (eLdN (vs := [.int .i64 (W ((W ((W (r_4.1.N * r_4.2.1.D)) * (W (between)))) + (W ((W (r_4.2.1.N * r_4.1.D)) * (W (255 - (W (between)))))))), .int .i64 (W ((W (255 * r_4.1.D)) * r_4.2.1.D))]) ag_71 rfl rfl (cells_box (n := 2) m2 rfl)) fun a w hf hc => ?_
    refine stE hf hc rfl rfl rfl (eLdN (vs := [.int .i64 (W ((W (1000 * r_4.1.N)) - r_4.1.D)), .int .i64 (W (1000 * r_4.1.D))]) ag_71 rfl rfl (cells_box (n := 2) m1 rfl)) fun a w hf hc => ?_
    refine stE hf hc rfl rfl rfl (eLdN (vs := [.int .i64 (W ((W (1000 * r_4.2.1.N)) + r_4.2.1.D)), .int .i64 (W (1000 * r_4.2.1.D))]) ag_71 rfl rfl (cells_box (n := 2) m0 rfl)) fun a w hf hc => ?_
    refine stBS (rows := ([r_4.1, r_4.2.1, (⟨W ((W ((W (r_4.1.N * r_4.2.1.D)) * (W (between)))) + (W ((W (r_4.2.1.N * r_4.1.D)) * (W (255 - (W (between))))))), W ((W (255 * r_4.1.D)) * r_4.2.1.D)⟩ : api_Ratio), (⟨W ((W (1000 * r_4.1.N)) - r_4.1.D), W (1000 * r_4.1.D)⟩ : api_Ratio), (⟨W ((W (1000 * r_4.2.1.N)) + r_4.2.1.D), W (1000 * r_4.2.1.D)⟩ : api_Ratio)] : List api_Ratio).map enc_api_Ratio) (vs := [(0, .agg #[.int .i64 r_4.1.N, .int .i64 r_4.1.D]), (1, .agg #[.int .i64 r_4.2.1.N, .int .i64 r_4.2.1.D]), (2, .agg #[.int .i64 (W ((W ((W (r_4.1.N * r_4.2.1.D)) * (W (between)))) + (W ((W (r_4.2.1.N * r_4.1.D)) * (W (255 - (W (between)))))))), .int .i64 (W ((W (255 * r_4.1.D)) * r_4.2.1.D))]), (3, .agg #[.int .i64 (W ((W (1000 * r_4.1.N)) - r_4.1.D)), .int .i64 (W (1000 * r_4.1.D))]), (4, .agg #[.int .i64 (W ((W (1000 * r_4.2.1.N)) + r_4.2.1.D)), .int .i64 (W (1000 * r_4.2.1.D))])]) hf hc rfl rfl sl_84 rfl ⟨rfl, rfl, rfl, rfl, rfl, rfl, rfl, rfl, rfl, rfl, rfl, rfl, rfl, rfl, rfl, trivial⟩ rfl rfl fun b_9 a w hf hc => ?_
    refine stP hf rfl rfl rfl (pLenS Try.underlying84 rfl) fun a hf => ?_
    refine stP hf rfl rfl rfl (pM rfl) fun a hf => ?_
    refine cNil ?_
    refine h13 _ _ ?_
    refine wp_block ?_
    obtain ⟨x14, hx14, hF⟩ := bnd_some hF
    let S14 : Int → Act → World → Prop := (fun (zz : Int) a w => Has 311 a [(1, .int .u8 a_), (2, .int .u8 b_), (9, .slice p_1 r_1.1.length c_1), (11, .int .i64 r_1.2.2.1), (12, .slice p_2 r_2.1.length c_2), (193, .slice (some ⟨b_9, 0, none⟩) 5 5), (194, .int .i64 (5 : Int)), (195, .int .i64 zz)] ∧ Ctx G (.row (some ⟨b_9, 0, none⟩) 5 (([r_4.1, r_4.2.1, (⟨W ((W ((W (r_4.1.N * r_4.2.1.D)) * (W (between)))) + (W ((W (r_4.2.1.N * r_4.1.D)) * (W (255 - (W (between))))))), W ((W (255 * r_4.1.D)) * r_4.2.1.D)⟩ : api_Ratio), (⟨W ((W (1000 * r_4.1.N)) - r_4.1.D), W (1000 * r_4.1.D)⟩ : api_Ratio), (⟨W ((W (1000 * r_4.2.1.N)) + r_4.2.1.D), W (1000 * r_4.2.1.D)⟩ : api_Ratio)] : List api_Ratio).map enc_api_Ratio) 71 2 :: .row p_1 c_1 (r_1.1.map encI_i64) 3 1 :: .row p_2 c_2 (r_2.1.map encI_i64) 3 1 :: Lf) w)
    have hr14 : ∀ (zz : Int) a w, x14 = .go zz → S14 zz a w → K12 a w := by
      rintro x a w rfl ⟨hf, hc⟩
      replace hF : _ = some res := hF
      refine h12 _ _ ?_
      refine wp_seq_k fun K15 h15 => ?_
      obtain ⟨un, hun, hF⟩ := bnd_some hF
      obtain ⟨un_1, hun_1, hF⟩ := bnd_some hF
      refine cQ hc follows_mx (by kernel_rfl) ?_
      refine qE hf rfl rfl rfl (Pu.ev (pM rfl)) fun a hf => ?_
      refine qE hf rfl rfl rfl (Pu.ev (pCv Try.underlying5 Try.underlying3 rfl)) fun a hf => ?_
      refine qE hf rfl rfl rfl (Pu.ev (pM rfl)) fun a hf => ?_
      refine qE hf rfl rfl rfl (Pu.ev (pLenS Try.underlying36 rfl)) fun a hf => ?_
      refine qE hf rfl rfl rfl (Pu.ev (pRem rfl rfl (nz_spec hun))) fun a hf => ?_
      refine qE hf rfl rfl rfl (Pu.ev (pM rfl)) fun a hf => ?_
      refine qE hf rfl rfl rfl (Pu.ev (pCv Try.underlying5 Try.underlying3 rfl)) fun a hf => ?_
      refine qE hf rfl rfl rfl (Pu.ev (pM rfl)) fun a hf => ?_
      refine qE hf rfl rfl rfl (Pu.ev (pLenS Try.underlying36 rfl)) fun a hf => ?_
      refine qE hf rfl rfl rfl (Pu.ev (pRem rfl rfl (nz_spec hun_1))) fun a hf => ?_
      refine qE hf rfl rfl rfl (Pu.ev (pA rfl)) fun a hf => ?_
      refine qE hf rfl rfl rfl (Pu.ev (pA rfl)) fun a hf => ?_
      intro w hc
      refine h15 _ _ ?_
      refine wp_seq_k fun K16 h16 => ?_
      refine wp_seq_k fun K17 h17 => ?_
      refine cReg ?_
      refine stP hf rfl rfl rfl (pM rfl) fun a hf => ?_
      refine stP hf rfl rfl rfl (pM rfl) fun a hf => ?_
      refine stP hf rfl rfl rfl (pEq rfl rfl) fun a hf => ?_
      refine stP hf rfl rfl rfl (pM rfl) fun a hf => ?_
      obtain ⟨t_2, ht_2, hF⟩ := bnd_some hF
      refine stCut 6 (fun a w => Has 311 a [(9, .slice p_1 r_1.1.length c_1), (11, .int .i64 r_1.2.2.1), (12, .slice p_2 r_2.1.length c_2), (28, .int .i64 ((W (a_)).tmod ((r_2.1.length : Nat) : Int))), (29, .int .i64 ((W (b_)).tmod ((r_2.1.length : Nat) : Int))), (248, .int .i64 ((W (a_)).tmod ((r_2.1.length : Nat) : Int))), (249, .int .i64 ((W (b_)).tmod ((r_2.1.length : Nat) : Int))), (250, .bool (((W (a_)).tmod ((r_2.1.length : Nat) : Int)) == ((W (b_)).tmod ((r_2.1.length : Nat) : Int)))), (251, .bool (((W (a_)).tmod ((r_2.1.length : Nat) : Int)) == ((W (b_)).tmod ((r_2.1.length : Nat) : Int)))), (257, .bool t_2)] ∧ Ctx G (.row (some ⟨b_9, 0, none⟩) 5 (([r_4.1, r_4.2.1, (⟨W ((W ((W (r_4.1.N * r_4.2.1.D)) * (W (between)))) + (W ((W (r_4.2.1.N * r_4.1.D)) * (W (255 - (W (between))))))), W ((W (255 * r_4.1.D)) * r_4.2.1.D)⟩ : api_Ratio), (⟨W ((W (1000 * r_4.1.N)) - r_4.1.D), W (1000 * r_4.1.D)⟩ : api_Ratio), (⟨W ((W (1000 * r_4.2.1.N)) + r_4.2.1.D), W (1000 * r_4.2.1.D)⟩ : api_Ratio)] : List api_Ratio).map enc_api_Ratio) 71 2 :: .row p_1 c_1 (r_1.1.map encI_i64) 3 1 :: .row p_2 c_2 (r_2.1.map encI_i64) 3 1 :: Lf) w) ?_ ?_
      · cases hb : (((W (a_)).tmod ((r_2.1.length : Nat) : Int)) == ((W (b_)).tmod ((r_2.1.length : Nat) : Int)))
        · rw [hb] at hf
          have hF := condF hb ht_2
          refine stP hf rfl rfl rfl (pM rfl) fun a hf => ?_
          refine stP hf rfl rfl rfl (pM rfl) fun a hf => ?_
          obtain ⟨e_1, he_1, hF⟩ := bnd_some hF
          obtain ⟨g, rfl, qa, qr⟩ := row_atm hc m2 he_1
          refine stP hf rfl rfl rfl (pIA Try.underlying36 sz_3 rfl rfl qa) fun a hf => ?_
          refine stE hf hc rfl rfl rfl (eLd1 sc_3 rfl (cell_row (sz := 1) (i := ((W (a_)).tmod ((r_2.1.length : Nat) : Int)).toNat) (j := 0) m2 qr rfl)) fun a w hf hc => ?_
          refine stP hf rfl rfl rfl (pEq rfl rfl) fun a hf => ?_
          refine stP hf rfl rfl rfl (pPf rfl rfl) fun a hf => ?_
          obtain rfl := Option.some.inj hF
          exact cNil ⟨hf.keep ⟨rfl, rfl, rfl, rfl, rfl, rfl, rfl, rfl, rfl, rfl, trivial⟩, hc⟩
        · rw [hb] at hf
          have hF := condT hb ht_2
          obtain rfl := Option.some.inj hF
          refine stS hf rfl rfl rfl fun a hf => ?_
          refine stS hf rfl rfl rfl fun a hf => ?_
          refine stS hf rfl rfl rfl fun a hf => ?_
          refine stS hf rfl rfl rfl fun a hf => ?_
          refine stS hf rfl rfl rfl fun a hf => ?_
          refine stP hf rfl rfl rfl (pPt rfl rfl) fun a hf => ?_
          exact cNil ⟨hf.keep ⟨rfl, rfl, rfl, rfl, rfl, rfl, rfl, rfl, rfl, rfl, trivial⟩, hc⟩
      intro a w ⟨hf, hc⟩
      refine cNil ?_
      refine h17 _ _ ?_
      refine cCond (b := t_2) hf rfl (fun hb => ?_) (fun hb => ?_)
      · replace hF := condT hb hF
        clear hb
        refine wp_seq_k fun K18 h18 => ?_
        refine cReg ?_
        obtain ⟨r_6, hr_6, hF⟩ := bnd_some hF
        refine stE hf hc rfl rfl rfl (eC (v := .bool r_6) (vs := []) (caps := []) en_13 rfl rfl rfl rfl (fun w hc => law09_awake_ok hc hr_6)) fun a w hf hc => ?_
        refine stP hf rfl rfl rfl (pA rfl) fun a hf => ?_
        refine cNil ?_
        refine h18 _ _ ?_
        refine wp_ret ?_
        refine xThenR ?_
        obtain rfl := Option.some.inj hF
        replace hc := hc.drop k2
        replace hc := hc.drop k1
        replace hc := hc.drop k0
        exact fnOut1 (by simp) rfl Try.results7 hf hc (show look _ 8 = _ from rfl) ⟨rfl, hc⟩
      · replace hF := condF hb hF
        clear hb
        refine wp_skip ?_
        refine h16 _ _ ?_
        refine wp_seq_k fun K19 h19 => ?_
        refine cReg ?_
        refine stP hf rfl rfl rfl (pM rfl) fun a hf => ?_
        obtain ⟨r_7, hr_7, hF⟩ := bnd_some hF
        obtain ⟨G1, hle1, hrd1, hc, hth1⟩ := lend hc k2
        refine stC (vs := [.slice p_2 r_2.1.length c_2]) (caps := []) hf rfl rfl rfl en_32 rfl rfl rfl rfl (kit_Copy_int_ok r_2.1 hrd1 hc hr_7) ?_
        rintro _ w ⟨p_3, c_3, rfl, hc⟩
        refine ⟨_, rfl, fun a hf => ?_⟩
        replace hc := hth1 _ _ hc
        refine stP hf rfl rfl rfl (pA rfl) fun a hf => ?_
        refine cNil ?_
        refine h19 _ _ ?_
        refine wp_seq_k fun K20 h20 => ?_
        refine cReg ?_
        refine stP hf rfl rfl rfl (pM rfl) fun a hf => ?_
        refine stP hf rfl rfl rfl (pM rfl) fun a hf => ?_
        obtain ⟨e_2, he_2, hF⟩ := bnd_some hF
        obtain ⟨g_1, rfl, qa_1, qr_1⟩ := row_atm hc m1 he_2
        refine stP hf rfl rfl rfl (pIA Try.underlying36 sz_3 rfl rfl qa_1) fun a hf => ?_
        refine stE hf hc rfl rfl rfl (eLd1 sc_3 rfl (cell_row (sz := 1) (i := ((W (a_)).tmod ((r_2.1.length : Nat) : Int)).toNat) (j := 0) m1 qr_1 rfl)) fun a w hf hc => ?_
        refine stP hf rfl rfl rfl (pSub rfl rfl) fun a hf => ?_
        obtain ⟨e_3, he_3, hF⟩ := bnd_some hF
        obtain ⟨qa_2, qr_2⟩ := row_atk hc m1 he_3
        refine stP hf rfl rfl rfl (pIA Try.underlying36 sz_3 rfl rfl qa_2) fun a hf => ?_
        refine stRw (vs := [.int .i64 (W (e_2 - 1))]) (o' := 0) (z := W (e_2 - 1)) (xs := r_7) hf hc rfl rfl rfl rfl sz_3 rfl (fun x => (one_encI_i64 x).1) (getI_lt he_3) (fun _ _ => rfl) rfl u1 fun w hc => ?_
        refine cNil ?_
        refine h20 _ _ ?_
        refine wp_seq_k fun K21 h21 => ?_
        refine cReg ?_
        refine stP hf rfl rfl rfl (pM rfl) fun a hf => ?_
        refine stP hf rfl rfl rfl (pM rfl) fun a hf => ?_
        obtain ⟨e_4, he_4, hF⟩ := bnd_some hF
        obtain ⟨qa_3, qr_3⟩ := row_atk hc m1 he_4
        refine stP hf rfl rfl rfl (pIA Try.underlying36 sz_3 rfl rfl (At.len qa_3 (by simp only [List.length_set]))) fun a hf => ?_
        refine stE hf hc rfl rfl rfl (eLd1 sc_3 rfl (cell_row (sz := 1) (i := ((W (b_)).tmod ((r_2.1.length : Nat) : Int)).toNat) (j := 0) m1 qr_3 rfl)) fun a w hf hc => ?_
        refine stP hf rfl rfl rfl (pAdd rfl rfl) fun a hf => ?_
        obtain ⟨e_5, he_5, hF⟩ := bnd_some hF
        obtain ⟨qa_4, qr_4⟩ := row_atk hc m1 he_5
        refine stP hf rfl rfl rfl (pIA Try.underlying36 sz_3 rfl rfl (At.len qa_4 (by simp only [List.length_set]))) fun a hf => ?_
        refine stRw (vs := [.int .i64 (W (e_4 + 1))]) (o' := 0) (z := W (e_4 + 1)) (xs := (r_7.set ((W (a_)).tmod ((r_2.1.length : Nat) : Int)).toNat (W (e_2 - 1)))) hf hc rfl rfl rfl rfl sz_3 rfl (fun x => (one_encI_i64 x).1) (getI_lt he_5) (fun _ _ => rfl) rfl u1 fun w hc => ?_
        refine cNil ?_
        refine h21 _ _ ?_
        refine wp_seq_k fun K22 h22 => ?_
        refine cReg ?_
        refine stP hf rfl rfl rfl (pM rfl) fun a hf => ?_
        refine stP hf rfl rfl rfl (pM rfl) fun a hf => ?_
        refine stP hf rfl rfl rfl (pM rfl) fun a hf => ?_
        obtain ⟨r_8, hr_8, hF⟩ := bnd_some hF
        refine stE hf hc rfl rfl rfl (eC (v := .tuple #[.int .i64 r_8.1, .int .i64 r_8.2.1, .int .i64 r_8.2.2]) (vs := [.slice p_1 r_1.1.length c_1, .slice (some ⟨g_1, 0, none⟩) r_7.length c_3, .int .i64 r_1.2.2.1]) (caps := []) en_37 rfl rfl rfl rfl (fun w hc => by obtain ⟨G1, hle1, hrd1, hc, hth1⟩ := lend hc k3; obtain ⟨G2, hle2, hrd2, hc, hth2⟩ := lend hc k1; have hq := share_Unfair_ok r_1.1 ((r_7.set ((W (a_)).tmod ((r_2.1.length : Nat) : Int)).toNat (W (e_2 - 1))).set ((W (b_)).tmod ((r_2.1.length : Nat) : Int)).toNat (W (e_4 + 1))) r_1.2.2.1 (hrd1.mono hle2) hrd2 hc hr_8; simp only [List.length_set] at hq; exact (hq).mono fun e w h => ⟨h.1, ((hth1 _ _ ((hth2 _ _ h.2).unpick k1)).unpick k3)⟩)) fun a w hf hc => ?_
        refine stP hf rfl rfl rfl (pM rfl) fun a hf => ?_
        refine stP hf rfl rfl rfl (pX rfl rfl) fun a hf => ?_
        refine stP hf rfl rfl rfl (pX rfl rfl) fun a hf => ?_
        refine stP hf rfl rfl rfl (pX rfl rfl) fun a hf => ?_
        refine stP hf rfl rfl rfl (pA rfl) fun a hf => ?_
        refine cNil ?_
        refine h22 _ _ ?_
        refine wp_seq_k fun K23 h23 => ?_
        refine cReg ?_
        refine stP hf rfl rfl rfl (pM rfl) fun a hf => ?_
        refine stP hf rfl rfl rfl (pM rfl) fun a hf => ?_
        refine stP hf rfl rfl rfl (pM rfl) fun a hf => ?_
        obtain ⟨r_9, hr_9, hF⟩ := bnd_some hF
        refine stE hf hc rfl rfl rfl (eC (v := .tuple #[.agg #[.int .i64 r_9.1.N, .int .i64 r_9.1.D], .agg #[.int .i64 r_9.2.1.N, .int .i64 r_9.2.1.D], .int .i64 r_9.2.2]) (vs := [.slice p_1 r_1.1.length c_1, .slice (some ⟨g_1, 0, none⟩) r_7.length c_3, .int .i64 r_1.2.2.1]) (caps := []) en_39 rfl rfl rfl rfl (fun w hc => by obtain ⟨G1, hle1, hrd1, hc, hth1⟩ := lend hc k3; obtain ⟨G2, hle2, hrd2, hc, hth2⟩ := lend hc k1; have hq := share_Divisors_ok r_1.1 ((r_7.set ((W (a_)).tmod ((r_2.1.length : Nat) : Int)).toNat (W (e_2 - 1))).set ((W (b_)).tmod ((r_2.1.length : Nat) : Int)).toNat (W (e_4 + 1))) r_1.2.2.1 (hrd1.mono hle2) hrd2 hc hr_9; simp only [List.length_set] at hq; exact (hq).mono fun e w h => ⟨h.1, ((hth1 _ _ ((hth2 _ _ h.2).unpick k1)).unpick k3)⟩)) fun a w hf hc => ?_
        refine stP hf rfl rfl rfl (pM rfl) fun a hf => ?_
        refine stP hf rfl rfl rfl (pX rfl rfl) fun a hf => ?_
        refine stP hf rfl rfl rfl (pX rfl rfl) fun a hf => ?_
        refine stP hf rfl rfl rfl (pX rfl rfl) fun a hf => ?_
        refine stP hf rfl rfl rfl (pA rfl) fun a hf => ?_
        refine cNil ?_
        refine h23 _ _ ?_
        refine wp_seq_k fun K24 h24 => ?_
        refine wp_seq_k fun K25 h25 => ?_
        refine cReg ?_
        refine stP hf rfl rfl rfl (pM rfl) fun a hf => ?_
        refine stP hf rfl rfl rfl (pNe rfl rfl) fun a hf => ?_
        refine stP hf rfl rfl rfl (pM rfl) fun a hf => ?_
        refine stCut 3 (fun a w => Has 311 a [(13, .int .i64 r_8.2.2), (16, .int .i64 r_9.2.2), (289, .int .i64 r_8.2.2), (290, .bool (r_8.2.2 != 0)), (291, .bool (r_8.2.2 != 0)), (294, .bool ((r_8.2.2 != 0) && (r_8.2.2 != 5)))] ∧ Ctx G (.row p_2 c_2 (r_2.1.map encI_i64) 3 1 :: .row (some ⟨g_1, 0, none⟩) c_3 (((r_7.set ((W (a_)).tmod ((r_2.1.length : Nat) : Int)).toNat (W (e_2 - 1))).set ((W (b_)).tmod ((r_2.1.length : Nat) : Int)).toNat (W (e_4 + 1))).map encI_i64) 3 1 :: .row (some ⟨b_9, 0, none⟩) 5 (([r_4.1, r_4.2.1, (⟨W ((W ((W (r_4.1.N * r_4.2.1.D)) * (W (between)))) + (W ((W (r_4.2.1.N * r_4.1.D)) * (W (255 - (W (between))))))), W ((W (255 * r_4.1.D)) * r_4.2.1.D)⟩ : api_Ratio), (⟨W ((W (1000 * r_4.1.N)) - r_4.1.D), W (1000 * r_4.1.D)⟩ : api_Ratio), (⟨W ((W (1000 * r_4.2.1.N)) + r_4.2.1.D), W (1000 * r_4.2.1.D)⟩ : api_Ratio)] : List api_Ratio).map enc_api_Ratio) 71 2 :: .row p_1 c_1 (r_1.1.map encI_i64) 3 1 :: Lf) w) ?_ ?_
        · cases hb : (r_8.2.2 != 0)
          · rw [hb] at hf
            refine stS hf rfl rfl rfl fun a hf => ?_
            refine stS hf rfl rfl rfl fun a hf => ?_
            refine stP hf rfl rfl rfl (pPf rfl rfl) fun a hf => ?_
            exact cNil ⟨hf.keep ⟨rfl, rfl, rfl, rfl, rfl, rfl, trivial⟩, hc⟩
          · rw [hb] at hf
            refine stP hf rfl rfl rfl (pM rfl) fun a hf => ?_
            refine stP hf rfl rfl rfl (pNe rfl rfl) fun a hf => ?_
            refine stP hf rfl rfl rfl (pPt rfl rfl) fun a hf => ?_
            exact cNil ⟨hf.keep ⟨rfl, rfl, rfl, rfl, rfl, rfl, trivial⟩, hc⟩
        intro a w ⟨hf, hc⟩
        refine stP hf rfl rfl rfl (pM rfl) fun a hf => ?_
        refine stCut 7 (fun a w => Has 311 a [(13, .int .i64 r_8.2.2), (16, .int .i64 r_9.2.2), (289, .int .i64 r_8.2.2), (290, .bool (r_8.2.2 != 0)), (291, .bool (r_8.2.2 != 0)), (294, .bool ((r_8.2.2 != 0) && (r_8.2.2 != 5))), (295, .bool ((r_8.2.2 != 0) && (r_8.2.2 != 5))), (302, .bool (((r_8.2.2 != 0) && (r_8.2.2 != 5)) || ((r_9.2.2 != 0) && (r_9.2.2 != 7))))] ∧ Ctx G (.row p_2 c_2 (r_2.1.map encI_i64) 3 1 :: .row (some ⟨g_1, 0, none⟩) c_3 (((r_7.set ((W (a_)).tmod ((r_2.1.length : Nat) : Int)).toNat (W (e_2 - 1))).set ((W (b_)).tmod ((r_2.1.length : Nat) : Int)).toNat (W (e_4 + 1))).map encI_i64) 3 1 :: .row (some ⟨b_9, 0, none⟩) 5 (([r_4.1, r_4.2.1, (⟨W ((W ((W (r_4.1.N * r_4.2.1.D)) * (W (between)))) + (W ((W (r_4.2.1.N * r_4.1.D)) * (W (255 - (W (between))))))), W ((W (255 * r_4.1.D)) * r_4.2.1.D)⟩ : api_Ratio), (⟨W ((W (1000 * r_4.1.N)) - r_4.1.D), W (1000 * r_4.1.D)⟩ : api_Ratio), (⟨W ((W (1000 * r_4.2.1.N)) + r_4.2.1.D), W (1000 * r_4.2.1.D)⟩ : api_Ratio)] : List api_Ratio).map enc_api_Ratio) 71 2 :: .row p_1 c_1 (r_1.1.map encI_i64) 3 1 :: Lf) w) ?_ ?_
        · cases hb : ((r_8.2.2 != 0) && (r_8.2.2 != 5))
          · rw [hb] at hf
            refine stP hf rfl rfl rfl (pM rfl) fun a hf => ?_
            refine stP hf rfl rfl rfl (pNe rfl rfl) fun a hf => ?_
            refine stP hf rfl rfl rfl (pM rfl) fun a hf => ?_
            refine stCut 3 (fun a w => Has 311 a [(13, .int .i64 r_8.2.2), (16, .int .i64 r_9.2.2), (289, .int .i64 r_8.2.2), (290, .bool (r_8.2.2 != 0)), (291, .bool (r_8.2.2 != 0)), (294, .bool false), (295, .bool false), (296, .int .i64 r_9.2.2), (297, .bool (r_9.2.2 != 0)), (298, .bool (r_9.2.2 != 0)), (301, .bool ((r_9.2.2 != 0) && (r_9.2.2 != 7)))] ∧ Ctx G (.row p_2 c_2 (r_2.1.map encI_i64) 3 1 :: .row (some ⟨g_1, 0, none⟩) c_3 (((r_7.set ((W (a_)).tmod ((r_2.1.length : Nat) : Int)).toNat (W (e_2 - 1))).set ((W (b_)).tmod ((r_2.1.length : Nat) : Int)).toNat (W (e_4 + 1))).map encI_i64) 3 1 :: .row (some ⟨b_9, 0, none⟩) 5 (([r_4.1, r_4.2.1, (⟨W ((W ((W (r_4.1.N * r_4.2.1.D)) * (W (between)))) + (W ((W (r_4.2.1.N * r_4.1.D)) * (W (255 - (W (between))))))), W ((W (255 * r_4.1.D)) * r_4.2.1.D)⟩ : api_Ratio), (⟨W ((W (1000 * r_4.1.N)) - r_4.1.D), W (1000 * r_4.1.D)⟩ : api_Ratio), (⟨W ((W (1000 * r_4.2.1.N)) + r_4.2.1.D), W (1000 * r_4.2.1.D)⟩ : api_Ratio)] : List api_Ratio).map enc_api_Ratio) 71 2 :: .row p_1 c_1 (r_1.1.map encI_i64) 3 1 :: Lf) w) ?_ ?_
            · cases hb : (r_9.2.2 != 0)
              · rw [hb] at hf
                refine stS hf rfl rfl rfl fun a hf => ?_
                refine stS hf rfl rfl rfl fun a hf => ?_
                refine stP hf rfl rfl rfl (pPf rfl rfl) fun a hf => ?_
                exact cNil ⟨hf.keep ⟨rfl, rfl, rfl, rfl, rfl, rfl, rfl, rfl, rfl, rfl, rfl, trivial⟩, hc⟩
              · rw [hb] at hf
                refine stP hf rfl rfl rfl (pM rfl) fun a hf => ?_
                refine stP hf rfl rfl rfl (pNe rfl rfl) fun a hf => ?_
                refine stP hf rfl rfl rfl (pPt rfl rfl) fun a hf => ?_
                exact cNil ⟨hf.keep ⟨rfl, rfl, rfl, rfl, rfl, rfl, rfl, rfl, rfl, rfl, rfl, trivial⟩, hc⟩
            intro a w ⟨hf, hc⟩
            refine stP hf rfl rfl rfl (pPf rfl rfl) fun a hf => ?_
            exact cNil ⟨hf.keep ⟨rfl, rfl, rfl, rfl, rfl, rfl, rfl, rfl, trivial⟩, hc⟩
          · rw [hb] at hf
            refine stS hf rfl rfl rfl fun a hf => ?_
            refine stS hf rfl rfl rfl fun a hf => ?_
            refine stS hf rfl rfl rfl fun a hf => ?_
            refine stS hf rfl rfl rfl fun a hf => ?_
            refine stS hf rfl rfl rfl fun a hf => ?_
            refine stS hf rfl rfl rfl fun a hf => ?_
            refine stP hf rfl rfl rfl (pPt rfl rfl) fun a hf => ?_
            exact cNil ⟨hf.keep ⟨rfl, rfl, rfl, rfl, rfl, rfl, rfl, rfl, trivial⟩, hc⟩
        intro a w ⟨hf, hc⟩
        refine cNil ?_
        refine h25 _ _ ?_
        refine cCond (b := (((r_8.2.2 != 0) && (r_8.2.2 != 5)) || ((r_9.2.2 != 0) && (r_9.2.2 != 7)))) hf rfl (fun hb => ?_) (fun hb => ?_)
        · replace hF := condT hb hF
          clear hb
          refine wp_seq_k fun K26 h26 => ?_
          refine cReg ?_
          refine stP hf rfl rfl rfl (pA rfl) fun a hf => ?_
          refine cNil ?_
          refine h26 _ _ ?_
          refine wp_ret ?_
          refine xThenR ?_
          obtain rfl := Option.some.inj hF
          replace hc := hc.drop k3
          replace hc := hc.drop k2
          replace hc := hc.drop k1
          replace hc := hc.drop k0
          exact fnOut1 (by simp) rfl Try.results7 hf hc (show look _ 8 = _ from rfl) ⟨rfl, hc⟩
        · replace hF := condF hb hF
          clear hb
          refine wp_skip ?_
          refine h24 _ _ ?_
          refine wp_seq_k fun K27 h27 => ?_
          refine cReg ?_
          refine stP hf rfl rfl rfl (pM rfl) fun a hf => ?_
          refine stP hf rfl rfl rfl (pEq rfl rfl) fun a hf => ?_
          refine stP hf rfl rfl rfl (pM rfl) fun a hf => ?_
          refine stP hf rfl rfl rfl (pEq rfl rfl) fun a hf => ?_
          refine stP hf rfl rfl rfl (pEqB Try.underlying4 rfl rfl) fun a hf => ?_
          refine stP hf rfl rfl rfl (pM rfl) fun a hf => ?_
          obtain ⟨t_3, ht_3, hF⟩ := bnd_some hF
          refine stCut 2 (fun a w => Has 311 a [(13, .int .i64 r_8.2.2), (16, .int .i64 r_9.2.2), (303, .int .i64 r_8.2.2), (304, .bool (r_8.2.2 == 5)), (305, .int .i64 r_9.2.2), (306, .bool (r_9.2.2 == 0)), (307, .bool ((r_8.2.2 == 5) == (r_9.2.2 == 0))), (308, .bool ((r_8.2.2 == 5) == (r_9.2.2 == 0))), (310, .bool t_3)] ∧ Ctx G (.row p_2 c_2 (r_2.1.map encI_i64) 3 1 :: .row (some ⟨g_1, 0, none⟩) c_3 (((r_7.set ((W (a_)).tmod ((r_2.1.length : Nat) : Int)).toNat (W (e_2 - 1))).set ((W (b_)).tmod ((r_2.1.length : Nat) : Int)).toNat (W (e_4 + 1))).map encI_i64) 3 1 :: .row (some ⟨b_9, 0, none⟩) 5 (([r_4.1, r_4.2.1, (⟨W ((W ((W (r_4.1.N * r_4.2.1.D)) * (W (between)))) + (W ((W (r_4.2.1.N * r_4.1.D)) * (W (255 - (W (between))))))), W ((W (255 * r_4.1.D)) * r_4.2.1.D)⟩ : api_Ratio), (⟨W ((W (1000 * r_4.1.N)) - r_4.1.D), W (1000 * r_4.1.D)⟩ : api_Ratio), (⟨W ((W (1000 * r_4.2.1.N)) + r_4.2.1.D), W (1000 * r_4.2.1.D)⟩ : api_Ratio)] : List api_Ratio).map enc_api_Ratio) 71 2 :: .row p_1 c_1 (r_1.1.map encI_i64) 3 1 :: Lf) w) ?_ ?_
          · cases hb : ((r_8.2.2 == 5) == (r_9.2.2 == 0))
            · rw [hb] at hf
              have hF := condF hb ht_3
              obtain rfl := Option.some.inj hF
              refine stS hf rfl rfl rfl fun a hf => ?_
              refine stP hf rfl rfl rfl (pPf rfl rfl) fun a hf => ?_
              exact cNil ⟨hf.keep ⟨rfl, rfl, rfl, rfl, rfl, rfl, rfl, rfl, rfl, trivial⟩, hc⟩
            · rw [hb] at hf
              have hF := condT hb ht_3
              obtain ⟨r_10, hr_10, hF⟩ := bnd_some hF
              refine stE hf hc rfl rfl rfl (eC (v := .bool r_10) (vs := []) (caps := []) en_13 rfl rfl rfl rfl (fun w hc => law09_awake_ok hc hr_10)) fun a w hf hc => ?_
              refine stP hf rfl rfl rfl (pPt rfl rfl) fun a hf => ?_
              obtain rfl := Option.some.inj hF
              exact cNil ⟨hf.keep ⟨rfl, rfl, rfl, rfl, rfl, rfl, rfl, rfl, rfl, trivial⟩, hc⟩
          intro a w ⟨hf, hc⟩
          refine stP hf rfl rfl rfl (pA rfl) fun a hf => ?_
          refine cNil ?_
          refine h27 _ _ ?_
          refine wp_ret ?_
          obtain rfl := Option.some.inj hF
          replace hc := hc.drop k3
          replace hc := hc.drop k2
          replace hc := hc.drop k1
          replace hc := hc.drop k0
          exact fnOut1 (by simp) rfl Try.results7 hf hc (show look _ 8 = _ from rfl) ⟨rfl, hc⟩
    have ho14 : ∀ r, x14 = .out r → r = res := by
      rintro r rfl
      exact Option.some.inj hF
    replace hc := hc.drop k8
    replace hc := hc.drop k5
    replace hc := hc.drop k4
    replace hc := hc.drop k3
    replace hc := hc.drop k2
    replace hc := hc.drop k1
    refine cLoop N (loopW (S := S14) (x := x14) ?_ N 0 _ _ ⟨hf.keep ⟨rfl, rfl, rfl, rfl, rfl, rfl, rfl, rfl, trivial⟩, hc⟩ hx14)
    clear hF hf hc
    rintro x st14 a w KB14 ⟨hf, hc⟩ hF hfin14 hK14
    unfold law09_ShareDivided_b14 at hF
    refine wp_seq_k fun K28 h28 => ?_
    refine cReg ?_
    refine stP hf rfl rfl rfl (pLt rfl rfl) fun a hf => ?_
    refine cNil ?_
    refine h28 _ _ ?_
    refine wp_seq_k fun K29 h29 => ?_
    refine cCond (b := (decide (x < (5 : Int)))) hf rfl (fun hb => ?_) (fun hb => ?_)
    · replace hF := condT hb hF
      clear hb
      refine wp_skip ?_
      refine h29 _ _ ?_
      refine wp_seq_k fun K30 h30 => ?_
      have hj30 : ∀ a w, Has 311 a [(1, .int .u8 a_), (2, .int .u8 b_), (9, .slice p_1 r_1.1.length c_1), (11, .int .i64 r_1.2.2.1), (12, .slice p_2 r_2.1.length c_2), (193, .slice (some ⟨b_9, 0, none⟩) 5 5), (194, .int .i64 (5 : Int)), (195, .int .i64 x)] → Ctx G (.row (some ⟨b_9, 0, none⟩) 5 (([r_4.1, r_4.2.1, (⟨W ((W ((W (r_4.1.N * r_4.2.1.D)) * (W (between)))) + (W ((W (r_4.2.1.N * r_4.1.D)) * (W (255 - (W (between))))))), W ((W (255 * r_4.1.D)) * r_4.2.1.D)⟩ : api_Ratio), (⟨W ((W (1000 * r_4.1.N)) - r_4.1.D), W (1000 * r_4.1.D)⟩ : api_Ratio), (⟨W ((W (1000 * r_4.2.1.N)) + r_4.2.1.D), W (1000 * r_4.2.1.D)⟩ : api_Ratio)] : List api_Ratio).map enc_api_Ratio) 71 2 :: .row p_1 c_1 (r_1.1.map encI_i64) 3 1 :: .row p_2 c_2 (r_2.1.map encI_i64) 3 1 :: Lf) w → law09_ShareDivided_j30 N x = some st14 → K30 a w := by
        intro a w hf hc hF
        unfold law09_ShareDivided_j30 at hF
        refine h30 _ _ ?_
        refine cReg ?_
        refine stP hf rfl rfl rfl (pAdd rfl rfl) fun a hf => ?_
        refine stP hf rfl rfl rfl (pM rfl) fun a hf => ?_
        refine cNil ?_
        exact hK14 (W (x + 1)) _ _ (Option.some.inj hF).symm ⟨hf.keep ⟨rfl, rfl, rfl, rfl, rfl, rfl, rfl, rfl, trivial⟩, hc⟩
      refine wp_block ?_
      refine wp_seq_k fun K31 h31 => ?_
      refine cReg ?_
      refine stP hf rfl rfl rfl (pM rfl) fun a hf => ?_
      obtain ⟨e_6, he_6, hF⟩ := bnd_some hF
      obtain ⟨qa_5, qr_5⟩ := row_atk hc m0 he_6
      refine stP hf rfl rfl rfl (pIA Try.underlying84 sz_71 rfl rfl qa_5) fun a hf => ?_
      refine stE hf hc rfl rfl rfl (eLdN (vs := [.int .i64 e_6.N, .int .i64 e_6.D]) ag_71 rfl rfl (cells_rw (sz := 2) (i := x.toNat) m0 qr_5 (n := 2) (o' := 0) rfl)) fun a w hf hc => ?_
      refine stAl (cs := [.int .i64 0, .int .i64 0]) hf hc rfl rfl zr_71 rfl fun b_10 a w hf hc => ?_
      refine stP hf rfl rfl rfl (pA rfl) fun a hf => ?_
      refine stSt (vs := [.int .i64 e_6.N, .int .i64 e_6.D]) hf hc rfl rfl rfl rfl sz_71 rfl rfl u0 fun w hc => ?_
      refine cNil ?_
      refine h31 _ _ ?_
      refine wp_seq_k fun K32 h32 => ?_
      refine wp_seq_k fun K33 h33 => ?_
      refine cReg ?_
      refine stP hf rfl rfl rfl (pFA fa_71_0 rfl) fun a hf => ?_
      refine stE hf hc rfl rfl rfl (eLd1 sc_3 rfl (cell_box m0 rfl)) fun a w hf hc => ?_
      refine stP hf rfl rfl rfl (pLt rfl rfl) fun a hf => ?_
      refine stP hf rfl rfl rfl (pM rfl) fun a hf => ?_
      refine stCut 4 (fun a w => Has 311 a [(1, .int .u8 a_), (2, .int .u8 b_), (9, .slice p_1 r_1.1.length c_1), (11, .int .i64 r_1.2.2.1), (12, .slice p_2 r_2.1.length c_2), (193, .slice (some ⟨b_9, 0, none⟩) 5 5), (194, .int .i64 (5 : Int)), (195, .int .i64 x), (25, .pointer (some ⟨b_10, 0, none⟩)), (24, .int .i64 x), (200, .pointer (some ⟨b_10, 0, none⟩)), (201, .int .i64 e_6.N), (202, .bool (decide (e_6.N < 1))), (203, .bool (decide (e_6.N < 1))), (207, .bool ((decide (e_6.N < 1)) || (decide (1000000000 < e_6.N))))] ∧ Ctx G (.box b_10 [.int .i64 e_6.N, .int .i64 e_6.D] 71 :: .row (some ⟨b_9, 0, none⟩) 5 (([r_4.1, r_4.2.1, (⟨W ((W ((W (r_4.1.N * r_4.2.1.D)) * (W (between)))) + (W ((W (r_4.2.1.N * r_4.1.D)) * (W (255 - (W (between))))))), W ((W (255 * r_4.1.D)) * r_4.2.1.D)⟩ : api_Ratio), (⟨W ((W (1000 * r_4.1.N)) - r_4.1.D), W (1000 * r_4.1.D)⟩ : api_Ratio), (⟨W ((W (1000 * r_4.2.1.N)) + r_4.2.1.D), W (1000 * r_4.2.1.D)⟩ : api_Ratio)] : List api_Ratio).map enc_api_Ratio) 71 2 :: .row p_1 c_1 (r_1.1.map encI_i64) 3 1 :: .row p_2 c_2 (r_2.1.map encI_i64) 3 1 :: Lf) w) ?_ ?_
      · cases hb : (decide (e_6.N < 1))
        · rw [hb] at hf
          refine stP hf rfl rfl rfl (pFA fa_71_0 rfl) fun a hf => ?_
          refine stE hf hc rfl rfl rfl (eLd1 sc_3 rfl (cell_box m0 rfl)) fun a w hf hc => ?_
          refine stP hf rfl rfl rfl (pGt rfl rfl) fun a hf => ?_
          refine stP hf rfl rfl rfl (pPf rfl rfl) fun a hf => ?_
          exact cNil ⟨hf.keep ⟨rfl, rfl, rfl, rfl, rfl, rfl, rfl, rfl, rfl, rfl, rfl, rfl, rfl, rfl, rfl, trivial⟩, hc⟩
        · rw [hb] at hf
          refine stS hf rfl rfl rfl fun a hf => ?_
          refine stS hf rfl rfl rfl fun a hf => ?_
          refine stS hf rfl rfl rfl fun a hf => ?_
          refine stP hf rfl rfl rfl (pPt rfl rfl) fun a hf => ?_
          exact cNil ⟨hf.keep ⟨rfl, rfl, rfl, rfl, rfl, rfl, rfl, rfl, rfl, rfl, rfl, rfl, rfl, rfl, rfl, trivial⟩, hc⟩
      intro a w ⟨hf, hc⟩
      refine stP hf rfl rfl rfl (pM rfl) fun a hf => ?_
      refine stCut 4 (fun a w => Has 311 a [(1, .int .u8 a_), (2, .int .u8 b_), (9, .slice p_1 r_1.1.length c_1), (11, .int .i64 r_1.2.2.1), (12, .slice p_2 r_2.1.length c_2), (193, .slice (some ⟨b_9, 0, none⟩) 5 5), (194, .int .i64 (5 : Int)), (195, .int .i64 x), (25, .pointer (some ⟨b_10, 0, none⟩)), (24, .int .i64 x), (200, .pointer (some ⟨b_10, 0, none⟩)), (201, .int .i64 e_6.N), (202, .bool (decide (e_6.N < 1))), (203, .bool (decide (e_6.N < 1))), (207, .bool ((decide (e_6.N < 1)) || (decide (1000000000 < e_6.N)))), (208, .bool ((decide (e_6.N < 1)) || (decide (1000000000 < e_6.N)))), (212, .bool (((decide (e_6.N < 1)) || (decide (1000000000 < e_6.N))) || (decide (1000000000 < e_6.D))))] ∧ Ctx G (.box b_10 [.int .i64 e_6.N, .int .i64 e_6.D] 71 :: .row (some ⟨b_9, 0, none⟩) 5 (([r_4.1, r_4.2.1, (⟨W ((W ((W (r_4.1.N * r_4.2.1.D)) * (W (between)))) + (W ((W (r_4.2.1.N * r_4.1.D)) * (W (255 - (W (between))))))), W ((W (255 * r_4.1.D)) * r_4.2.1.D)⟩ : api_Ratio), (⟨W ((W (1000 * r_4.1.N)) - r_4.1.D), W (1000 * r_4.1.D)⟩ : api_Ratio), (⟨W ((W (1000 * r_4.2.1.N)) + r_4.2.1.D), W (1000 * r_4.2.1.D)⟩ : api_Ratio)] : List api_Ratio).map enc_api_Ratio) 71 2 :: .row p_1 c_1 (r_1.1.map encI_i64) 3 1 :: .row p_2 c_2 (r_2.1.map encI_i64) 3 1 :: Lf) w) ?_ ?_
      · cases hb : ((decide (e_6.N < 1)) || (decide (1000000000 < e_6.N)))
        · rw [hb] at hf
          refine stP hf rfl rfl rfl (pFA fa_71_1 rfl) fun a hf => ?_
          refine stE hf hc rfl rfl rfl (eLd1 sc_3 rfl (cell_box m0 rfl)) fun a w hf hc => ?_
          refine stP hf rfl rfl rfl (pGt rfl rfl) fun a hf => ?_
          refine stP hf rfl rfl rfl (pPf rfl rfl) fun a hf => ?_
          exact cNil ⟨hf.keep ⟨rfl, rfl, rfl, rfl, rfl, rfl, rfl, rfl, rfl, rfl, rfl, rfl, rfl, rfl, rfl, rfl, rfl, trivial⟩, hc⟩
        · rw [hb] at hf
          refine stS hf rfl rfl rfl fun a hf => ?_
          refine stS hf rfl rfl rfl fun a hf => ?_
          refine stS hf rfl rfl rfl fun a hf => ?_
          refine stP hf rfl rfl rfl (pPt rfl rfl) fun a hf => ?_
          exact cNil ⟨hf.keep ⟨rfl, rfl, rfl, rfl, rfl, rfl, rfl, rfl, rfl, rfl, rfl, rfl, rfl, rfl, rfl, rfl, rfl, trivial⟩, hc⟩
      intro a w ⟨hf, hc⟩
      refine stP hf rfl rfl rfl (pM rfl) fun a hf => ?_
      refine stCut 7 (fun a w => Has 311 a [(1, .int .u8 a_), (2, .int .u8 b_), (9, .slice p_1 r_1.1.length c_1), (11, .int .i64 r_1.2.2.1), (12, .slice p_2 r_2.1.length c_2), (193, .slice (some ⟨b_9, 0, none⟩) 5 5), (194, .int .i64 (5 : Int)), (195, .int .i64 x), (25, .pointer (some ⟨b_10, 0, none⟩)), (24, .int .i64 x), (200, .pointer (some ⟨b_10, 0, none⟩)), (201, .int .i64 e_6.N), (202, .bool (decide (e_6.N < 1))), (203, .bool (decide (e_6.N < 1))), (207, .bool ((decide (e_6.N < 1)) || (decide (1000000000 < e_6.N)))), (208, .bool ((decide (e_6.N < 1)) || (decide (1000000000 < e_6.N)))), (212, .bool (((decide (e_6.N < 1)) || (decide (1000000000 < e_6.N))) || (decide (1000000000 < e_6.D)))), (213, .bool (((decide (e_6.N < 1)) || (decide (1000000000 < e_6.N))) || (decide (1000000000 < e_6.D)))), (220, .bool ((((decide (e_6.N < 1)) || (decide (1000000000 < e_6.N))) || (decide (1000000000 < e_6.D))) || (decide ((W (2000000 * e_6.D)) < e_6.N))))] ∧ Ctx G (.box b_10 [.int .i64 e_6.N, .int .i64 e_6.D] 71 :: .row (some ⟨b_9, 0, none⟩) 5 (([r_4.1, r_4.2.1, (⟨W ((W ((W (r_4.1.N * r_4.2.1.D)) * (W (between)))) + (W ((W (r_4.2.1.N * r_4.1.D)) * (W (255 - (W (between))))))), W ((W (255 * r_4.1.D)) * r_4.2.1.D)⟩ : api_Ratio), (⟨W ((W (1000 * r_4.1.N)) - r_4.1.D), W (1000 * r_4.1.D)⟩ : api_Ratio), (⟨W ((W (1000 * r_4.2.1.N)) + r_4.2.1.D), W (1000 * r_4.2.1.D)⟩ : api_Ratio)] : List api_Ratio).map enc_api_Ratio) 71 2 :: .row p_1 c_1 (r_1.1.map encI_i64) 3 1 :: .row p_2 c_2 (r_2.1.map encI_i64) 3 1 :: Lf) w) ?_ ?_
      · cases hb : (((decide (e_6.N < 1)) || (decide (1000000000 < e_6.N))) || (decide (1000000000 < e_6.D)))
        · rw [hb] at hf
          refine stP hf rfl rfl rfl (pFA fa_71_0 rfl) fun a hf => ?_
          refine stE hf hc rfl rfl rfl (eLd1 sc_3 rfl (cell_box m0 rfl)) fun a w hf hc => ?_
          refine stP hf rfl rfl rfl (pFA fa_71_1 rfl) fun a hf => ?_
          refine stE hf hc rfl rfl rfl (eLd1 sc_3 rfl (cell_box m0 rfl)) fun a w hf hc => ?_
          refine stP hf rfl rfl rfl (pMul rfl rfl) fun a hf => ?_
          refine stP hf rfl rfl rfl (pGt rfl rfl) fun a hf => ?_
          refine stP hf rfl rfl rfl (pPf rfl rfl) fun a hf => ?_
          exact cNil ⟨hf.keep ⟨rfl, rfl, rfl, rfl, rfl, rfl, rfl, rfl, rfl, rfl, rfl, rfl, rfl, rfl, rfl, rfl, rfl, rfl, rfl, trivial⟩, hc⟩
        · rw [hb] at hf
          refine stS hf rfl rfl rfl fun a hf => ?_
          refine stS hf rfl rfl rfl fun a hf => ?_
          refine stS hf rfl rfl rfl fun a hf => ?_
          refine stS hf rfl rfl rfl fun a hf => ?_
          refine stS hf rfl rfl rfl fun a hf => ?_
          refine stS hf rfl rfl rfl fun a hf => ?_
          refine stP hf rfl rfl rfl (pPt rfl rfl) fun a hf => ?_
          exact cNil ⟨hf.keep ⟨rfl, rfl, rfl, rfl, rfl, rfl, rfl, rfl, rfl, rfl, rfl, rfl, rfl, rfl, rfl, rfl, rfl, rfl, rfl, trivial⟩, hc⟩
      intro a w ⟨hf, hc⟩
      refine cNil ?_
      refine h33 _ _ ?_
      refine cCond (b := ((((decide (e_6.N < 1)) || (decide (1000000000 < e_6.N))) || (decide (1000000000 < e_6.D))) || (decide ((W (2000000 * e_6.D)) < e_6.N)))) hf rfl (fun hb => ?_) (fun hb => ?_)
      · replace hF := condT hb hF
        clear hb
        refine wp_exit ?_
        refine xThen ?_
        refine cHit ?_
        replace hc := hc.drop k0
        exact hj30  _ _  (hf.keep ⟨rfl, rfl, rfl, rfl, rfl, rfl, rfl, rfl, trivial⟩) hc hF
      · replace hF := condF hb hF
        clear hb
        refine wp_skip ?_
        refine h32 _ _ ?_
        refine wp_seq_k fun K34 h34 => ?_
        refine cReg ?_
        refine stP hf rfl rfl rfl (pM rfl) fun a hf => ?_
        refine stP hf rfl rfl rfl (pM rfl) fun a hf => ?_
        refine stP hf rfl rfl rfl (pM rfl) fun a hf => ?_
        refine stE hf hc rfl rfl rfl (eLdN (vs := [.int .i64 e_6.N, .int .i64 e_6.D]) ag_71 rfl rfl (cells_box (n := 2) m0 rfl)) fun a w hf hc => ?_
        obtain ⟨r_11, hr_11, hF⟩ := bnd_some hF
        refine stE hf hc rfl rfl rfl (eC (v := .tuple #[.bool r_11.1, .int .i64 r_11.2]) (vs := [.slice p_1 r_1.1.length c_1, .slice p_2 r_2.1.length c_2, .int .i64 r_1.2.2.1, .agg #[.int .i64 e_6.N, .int .i64 e_6.D]]) (caps := []) en_41 rfl rfl rfl rfl (fun w hc => by obtain ⟨G1, hle1, hrd1, hc, hth1⟩ := lend hc k2; obtain ⟨G2, hle2, hrd2, hc, hth2⟩ := lend hc k2; exact (share_Proves_ok r_1.1 r_2.1 r_1.2.2.1 e_6 (hrd1.mono hle2) hrd2 hc hr_11).mono fun e w h => ⟨h.1, ((hth1 _ _ ((hth2 _ _ h.2).unpick k2)).unpick k2)⟩)) fun a w hf hc => ?_
        refine stP hf rfl rfl rfl (pM rfl) fun a hf => ?_
        refine stP hf rfl rfl rfl (pX rfl rfl) fun a hf => ?_
        refine stP hf rfl rfl rfl (pX rfl rfl) fun a hf => ?_
        refine stP hf rfl rfl rfl (pA rfl) fun a hf => ?_
        refine stP hf rfl rfl rfl (pA rfl) fun a hf => ?_
        refine cNil ?_
        refine h34 _ _ ?_
        refine wp_seq_k fun K35 h35 => ?_
        refine cReg ?_
        refine stP hf rfl rfl rfl (pM rfl) fun a hf => ?_
        refine stP hf rfl rfl rfl (pNe rfl rfl) fun a hf => ?_
        refine stP hf rfl rfl rfl (pM rfl) fun a hf => ?_
        refine stCut 5 (fun a w => Has 311 a [(1, .int .u8 a_), (2, .int .u8 b_), (9, .slice p_1 r_1.1.length c_1), (11, .int .i64 r_1.2.2.1), (12, .slice p_2 r_2.1.length c_2), (193, .slice (some ⟨b_9, 0, none⟩) 5 5), (194, .int .i64 (5 : Int)), (195, .int .i64 x), (24, .int .i64 x), (26, .bool r_11.1), (27, .int .i64 r_11.2), (229, .int .i64 r_11.2), (230, .bool (r_11.2 != 0)), (231, .bool (r_11.2 != 0)), (236, .bool ((r_11.2 != 0) || (r_11.1 != (decide (x < 3)))))] ∧ Ctx G (.box b_10 [.int .i64 e_6.N, .int .i64 e_6.D] 71 :: .row (some ⟨b_9, 0, none⟩) 5 (([r_4.1, r_4.2.1, (⟨W ((W ((W (r_4.1.N * r_4.2.1.D)) * (W (between)))) + (W ((W (r_4.2.1.N * r_4.1.D)) * (W (255 - (W (between))))))), W ((W (255 * r_4.1.D)) * r_4.2.1.D)⟩ : api_Ratio), (⟨W ((W (1000 * r_4.1.N)) - r_4.1.D), W (1000 * r_4.1.D)⟩ : api_Ratio), (⟨W ((W (1000 * r_4.2.1.N)) + r_4.2.1.D), W (1000 * r_4.2.1.D)⟩ : api_Ratio)] : List api_Ratio).map enc_api_Ratio) 71 2 :: .row p_1 c_1 (r_1.1.map encI_i64) 3 1 :: .row p_2 c_2 (r_2.1.map encI_i64) 3 1 :: Lf) w) ?_ ?_
        · cases hb : (r_11.2 != 0)
          · rw [hb] at hf
            refine stP hf rfl rfl rfl (pM rfl) fun a hf => ?_
            refine stP hf rfl rfl rfl (pM rfl) fun a hf => ?_
            refine stP hf rfl rfl rfl (pLt rfl rfl) fun a hf => ?_
            refine stP hf rfl rfl rfl (pNeB Try.underlying4 rfl rfl) fun a hf => ?_
            refine stP hf rfl rfl rfl (pPf rfl rfl) fun a hf => ?_
            exact cNil ⟨hf.keep ⟨rfl, rfl, rfl, rfl, rfl, rfl, rfl, rfl, rfl, rfl, rfl, rfl, rfl, rfl, rfl, trivial⟩, hc⟩
          · rw [hb] at hf
            refine stS hf rfl rfl rfl fun a hf => ?_
            refine stS hf rfl rfl rfl fun a hf => ?_
            refine stS hf rfl rfl rfl fun a hf => ?_
            refine stS hf rfl rfl rfl fun a hf => ?_
            refine stP hf rfl rfl rfl (pPt rfl rfl) fun a hf => ?_
            exact cNil ⟨hf.keep ⟨rfl, rfl, rfl, rfl, rfl, rfl, rfl, rfl, rfl, rfl, rfl, rfl, rfl, rfl, rfl, trivial⟩, hc⟩
        intro a w ⟨hf, hc⟩
        refine cNil ?_
        refine h35 _ _ ?_
        refine cCond (b := ((r_11.2 != 0) || (r_11.1 != (decide (x < 3))))) hf rfl (fun hb => ?_) (fun hb => ?_)
        · replace hF := condT hb hF
          clear hb
          refine wp_seq_k fun K36 h36 => ?_
          refine cReg ?_
          refine stP hf rfl rfl rfl (pA rfl) fun a hf => ?_
          refine cNil ?_
          refine h36 _ _ ?_
          refine wp_ret ?_
          refine xBlkR ?_
          refine xThenR ?_
          refine xThenR ?_
          have he := Option.some.inj hF
          rw [← he] at hfin14
          replace hF := ho14 _ hfin14
          refine xBlkR ?_
          refine xThenR ?_
          obtain rfl := hF
          replace hc := hc.drop k3
          replace hc := hc.drop k2
          replace hc := hc.drop k1
          replace hc := hc.drop k0
          exact fnOut1 (by simp) rfl Try.results7 hf hc (show look _ 8 = _ from rfl) ⟨rfl, hc⟩
        · replace hF := condF hb hF
          clear hb
          refine wp_skip ?_
          replace hc := hc.drop k0
          exact hj30  _ _  (hf.keep ⟨rfl, rfl, rfl, rfl, rfl, rfl, rfl, rfl, trivial⟩) hc hF
    · replace hF := condF hb hF
      clear hb
      refine wp_exit ?_
      refine xThen ?_
      refine xThen ?_
      have he := Option.some.inj hF
      rw [← he] at hfin14
      refine cHit ?_
      exact hr14 _ _ _ hfin14 ⟨hf.keep ⟨rfl, rfl, rfl, rfl, rfl, rfl, rfl, rfl, trivial⟩, hc⟩

end Go.Nilo
