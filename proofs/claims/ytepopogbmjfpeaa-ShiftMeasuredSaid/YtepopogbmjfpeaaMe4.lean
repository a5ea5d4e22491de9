/-
 What functions of the Go text compute, as plain functions, and that they do, part 4 of 5. Conditions: what each theorem names.
-/
import Derived.Test.YtepopogbmjfpeaaMe3
import Derived.Test.YtepopogbmjfpeaaProg
set_option linter.unusedVariables false
set_option linter.unusedSimpArgs false
set_option maxRecDepth 100000
set_option maxHeartbeats 4000000
namespace Go.Nilo
open Go.Proofs


def shift_Between_j16 (N : Nat) (x : Int) (ahead_1 : Int) (mp_1 : Int → Option Int) : Option (Step (Int × Int × (Int → Option Int)) (api_Span × Int)) :=
 some (.cont (ahead_1,W (x + 1),mp_1))
def shift_Between_b12 (N : Nat) (r : shift_Record) (day : Int) (ahead : Int) (x : Int) (mp : Int → Option Int) : Option (Step (Int × Int × (Int → Option Int)) (api_Span × Int)) :=
 cond (decide (x < ((r.Gaugings.length : Nat) : Int)))
 (Option.bind (getI r.Gaugings x) fun e_1 =>
 cond (decide (e_1.Day < day))
 (shift_Between_j16 N x (W (x + 1)) (setM mp e_1.Day x))
 (shift_Between_j16 N x ahead (setM mp e_1.Day x)))
 (some (.brk (ahead,x,mp)))
def shift_Between_j31 (N : Nat) (r : shift_Record) (most : Int) (at_ : Int) (ahead_2 : Int) (l : List api_Span) : Option (api_Span × Int) :=
 Option.bind (shift_can N l most) fun r_2 =>
 cond (!r_2.2)
 (some ((⟨0,0⟩ : api_Span),5))
 (Option.bind (getI r_2.1 ahead_2) fun e_2 =>
 Option.bind (shift_means N r.Rating (W (at_ - e_2.Hi))) fun r_3 =>
 Option.bind (getI r_2.1 ahead_2) fun e_3 =>
 Option.bind (shift_means N r.Rating (W (at_ - e_3.Lo))) fun r_4 =>
 Option.bind (nz r_3.D) fun un =>
 Option.bind (nz r_4.D) fun un_1 =>
 some ((⟨W (r_3.N.tdiv r_3.D),W ((W ((W (r_4.N + r_4.D)) - 1)).tdiv r_4.D)⟩ : api_Span),0))
def shift_Between_j42 (N : Nat) (x_1 : Int) (ahead_3 : Int) (mp_3 : Int → Option Int) : Option (Step (Int × Int × (Int → Option Int)) (api_Span × Int)) :=
 some (.cont (ahead_3,W (x_1 + 1),mp_3))
def shift_Between_b29 (N : Nat) (r : shift_Record) (day : Int) (ahead_2 : Int) (x_1 : Int) (mp_2 : Int → Option Int) : Option (Step (Int × Int × (Int → Option Int)) (api_Span × Int)) :=
 cond (decide (x_1 < ((r.Gaugings.length : Nat) : Int)))
 (Option.bind (getI r.Gaugings x_1) fun e_4 =>
 cond (decide (e_4.Day < day))
 (shift_Between_j42 N x_1 (W (x_1 + 1)) (setM mp_2 e_4.Day x_1))
 (shift_Between_j42 N x_1 ahead_2 (setM mp_2 e_4.Day x_1)))
 (some (.brk (ahead_2,x_1,mp_2)))
def shift_Between (N : Nat) (r : shift_Record) (most : Int) (day : Int) (at_ : Int) : Option (api_Span × Int) :=
 Option.bind (shift_opened N r) (sumK (fun r_0 => cond (r_0 != 0)
 (some ((⟨0,0⟩ : api_Span),r_0))
 (cond (((!(shift_in most 0 18000)) || (!(shift_in day 0 40000))) || (!(shift_stage at_)))
 (some ((⟨0,0⟩ : api_Span),4))
 (Option.bind (loopO (fun s12 => shift_Between_b12 N r day s12.1 s12.2.1 s12.2.2) N (0,0,(fun _ => none : Int → Option Int))) fun x12 =>
 exK x12 (fun s12 => none) some)))
 (fun r_1 => cond (r_1.2 != 0)
 (some ((⟨0,0⟩ : api_Span),r_1.2))
 (cond (((!(shift_in most 0 18000)) || (!(shift_in day 0 40000))) || (!(shift_stage at_)))
 (some ((⟨0,0⟩ : api_Span),4))
 (Option.bind (loopO (fun s29 => shift_Between_b29 N r day s29.1 s29.2.1 s29.2.2) N (0,0,(fun _ => none : Int → Option Int))) fun x29 =>
 exK x29 (fun s29 => cond (!((s29.2.2 day).isSome))
 (Option.bind (slices_Clone_Lapi_Span_api_Span N r_1.1) fun r_5 =>
 Option.bind (slices_Insert_Lapi_Span_api_Span N r_5 s29.1 ([(⟨(-300),300⟩ : api_Span)] : List api_Span)) fun r_6 =>
 shift_Between_j31 N r most at_ s29.1 r_6)
 (shift_Between_j31 N r most at_ s29.1 r_1.1)) some))))
theorem shift_Between_ok {N : Nat} {G : Pers} {Lf : List Ent} {w : World} (r : shift_Record) (most : Int) (day : Int) (at_ : Int) {r_Rating_p : Option Addr} {r_Rating_c : Nat} {r_Gaugings_p : Option Addr} {r_Gaugings_c : Nat} (h_r_Rating : Rd G 2 r_Rating_p r_Rating_c (r.Rating.map enc_shift_Mark)) (h_r_Gaugings : Rd G 4 r_Gaugings_p r_Gaugings_c (r.Gaugings.map enc_shift_Gauging)) (hc : Ctx G (Lf) w) {res : api_Span × Int} (hF : shift_Between N r most day at_ = some res) : Calls Try.prog 29 #[.agg #[.slice r_Rating_p r.Rating.length r_Rating_c,.slice r_Gaugings_p r.Gaugings.length r_Gaugings_c],.int .i64 most,.int .i64 day,.int .i64 at_] w (fun e w => e = .returned (.tuple #[.agg #[.int .i64 res.1.Lo,.int .i64 res.1.Hi],.int .i64 res.2]) ∧ Ctx G (Lf) w) := by
 unfold shift_Between at hF
 refine fnIn (args := [.agg #[.slice r_Rating_p r.Rating.length r_Rating_c,.slice r_Gaugings_p r.Gaugings.length r_Gaugings_c],.int .i64 most,.int .i64 day,.int .i64 at_]) Try.func29 rfl Try.ntmps29 rfl fun a hf => wp_seq_k fun K1 h1 => cReg ?_
 refine stBx (cs := [.slice r_Rating_p r.Rating.length r_Rating_c,.slice r_Gaugings_p r.Gaugings.length r_Gaugings_c]) hf hc rfl rfl rfl rfl fun b_1 a w hf hc => stAl (cs := [.int .i64 0,.int .i64 0]) hf hc rfl rfl zr_50 rfl fun b_2 a w hf hc => stP hf rfl rfl rfl (pA rfl) fun a hf => cNil ?_
 refine h1 _ _ ?_
 refine wp_seq_k fun K2 h2 => cReg ?_
 refine stE hf hc rfl rfl rfl (eLdN (vs := [.slice r_Rating_p r.Rating.length r_Rating_c,.slice r_Gaugings_p r.Gaugings.length r_Gaugings_c]) ag_25 rfl rfl (cells_box (n := 2) m1 rfl)) fun a w hf hc => ?_
 obtain ⟨r_0,hr_0,hF⟩ := bnd_some hF
 cases r_0 with
 | inl r_0 =>
  replace hF := sumKl hF
  refine stC (vs := [.agg #[.slice r_Rating_p r.Rating.length r_Rating_c,.slice r_Gaugings_p r.Gaugings.length r_Gaugings_c]]) (caps := []) hf rfl rfl rfl en_73 rfl rfl rfl rfl (shift_opened_ok r h_r_Rating h_r_Gaugings hc hr_0) ?_
  rintro _ w ⟨rfl,hc⟩
  refine ⟨_,rfl,fun a hf => ?_⟩
  refine stP hf rfl rfl rfl (pM rfl) fun a hf => stP hf rfl rfl rfl (pX rfl rfl) fun a hf => stP hf rfl rfl rfl (pX rfl rfl) fun a hf => stP hf rfl rfl rfl (pA rfl) fun a hf => stP hf rfl rfl rfl (pA rfl) fun a hf => cNil ?_
  refine h2 _ _ ?_
  refine wp_seq_k fun K3 h3 => wp_block ?_
  refine wp_seq_k fun K4 h4 => cReg ?_
  refine stP hf rfl rfl rfl (pM rfl) fun a hf => stP hf rfl rfl rfl (pNe rfl rfl) fun a hf => stP hf rfl rfl rfl (pA rfl) fun a hf => cNil ?_
  refine h4 _ _ ?_
  refine cCond (b := (r_0 != 0)) hf rfl (fun hb => ?_) (fun hb => ?_)
  ·replace hF := condT hb hF
   clear hb
   refine wp_seq_k fun K5 h5 => cReg ?_
   refine stP hf rfl rfl rfl (pBuildS (cells := [.int .i64 0,.int .i64 0]) bt_50 rfl rfl) fun a hf => stP hf rfl rfl rfl (pM rfl) fun a hf => stSt (vs := [.int .i64 0,.int .i64 0]) hf hc rfl rfl rfl rfl sz_50 rfl rfl u0 fun w hc => stP hf rfl rfl rfl (pA rfl) fun a hf => cNil ?_
   refine h5 _ _ ?_
   refine wp_ret ?_
   refine xBlkR ?_
   refine xThenR ?_
   obtain rfl := Option.some.inj hF
   replace hc := hc.drop k1
   exact fnOut2 (by simp) rfl Try.results29 hf hc (rv_cellN (vs := [.int .i64 0,.int .i64 0]) ag_50 rfl rfl (cells_box (n := 2) m0 rfl)) (show look _ 9 = _ from rfl) ⟨rfl,(hc.drop k0)⟩
  ·replace hF := condF hb hF
   clear hb
   refine wp_seq_k fun K6 h6 => cReg ?_
   refine stP hf rfl rfl rfl (pM rfl) fun a hf => stE hf hc rfl rfl rfl (eC (v := .bool (shift_in most 0 18000)) (vs := [.int .i64 most,.int .i64 0,.int .i64 18000]) (caps := []) en_59 rfl rfl rfl rfl (fun w hc => shift_in_ok most 0 18000 hc rfl)) fun a w hf hc => stP hf rfl rfl rfl (pNot rfl) fun a hf => stP hf rfl rfl rfl (pM rfl) fun a hf => stCut 4 (fun a w => Has 130 a [(1,.int .i64 most),(2,.int .i64 day),(3,.int .i64 at_),(4,.pointer (some ⟨b_1,0,none⟩)),(8,.pointer (some ⟨b_2,0,none⟩)),(10,.pointer none),(34,.int .i64 most),(35,.bool (shift_in most 0 18000)),(36,.bool (!(shift_in most 0 18000))),(37,.bool (!(shift_in most 0 18000))),(41,.bool ((!(shift_in most 0 18000)) || (!(shift_in day 0 40000))))] ∧ Ctx G (.box b_2 [.int .i64 0,.int .i64 0] 50::.box b_1 [.slice r_Rating_p r.Rating.length r_Rating_c,.slice r_Gaugings_p r.Gaugings.length r_Gaugings_c] 25::Lf) w) ?_ ?_
   ·cases hb : (!(shift_in most 0 18000))
    ·rw [hb] at hf
     refine stP hf rfl rfl rfl (pM rfl) fun a hf => stE hf hc rfl rfl rfl (eC (v := .bool (shift_in day 0 40000)) (vs := [.int .i64 day,.int .i64 0,.int .i64 40000]) (caps := []) en_59 rfl rfl rfl rfl (fun w hc => shift_in_ok day 0 40000 hc rfl)) fun a w hf hc => stP hf rfl rfl rfl (pNot rfl) fun a hf => stP hf rfl rfl rfl (pPf rfl rfl) fun a hf => cNil ⟨hf.keep ⟨rfl,rfl,rfl,rfl,rfl,rfl,rfl,rfl,rfl,rfl,rfl,trivial⟩,hc⟩
    ·rw [hb] at hf
     refine stS hf rfl rfl rfl fun a hf => stS hf rfl rfl rfl fun a hf => stS hf rfl rfl rfl fun a hf => stP hf rfl rfl rfl (pPt rfl rfl) fun a hf => cNil ⟨hf.keep ⟨rfl,rfl,rfl,rfl,rfl,rfl,rfl,rfl,rfl,rfl,rfl,trivial⟩,hc⟩
   intro a w ⟨hf,hc⟩
   refine stP hf rfl rfl rfl (pM rfl) fun a hf => stCut 4 (fun a w => Has 130 a [(1,.int .i64 most),(2,.int .i64 day),(3,.int .i64 at_),(4,.pointer (some ⟨b_1,0,none⟩)),(8,.pointer (some ⟨b_2,0,none⟩)),(10,.pointer none),(34,.int .i64 most),(35,.bool (shift_in most 0 18000)),(36,.bool (!(shift_in most 0 18000))),(37,.bool (!(shift_in most 0 18000))),(41,.bool ((!(shift_in most 0 18000)) || (!(shift_in day 0 40000)))),(42,.bool ((!(shift_in most 0 18000)) || (!(shift_in day 0 40000)))),(46,.bool (((!(shift_in most 0 18000)) || (!(shift_in day 0 40000))) || (!(shift_stage at_))))] ∧ Ctx G (.box b_2 [.int .i64 0,.int .i64 0] 50::.box b_1 [.slice r_Rating_p r.Rating.length r_Rating_c,.slice r_Gaugings_p r.Gaugings.length r_Gaugings_c] 25::Lf) w) ?_ ?_
   ·cases hb : ((!(shift_in most 0 18000)) || (!(shift_in day 0 40000)))
    ·rw [hb] at hf
     refine stP hf rfl rfl rfl (pM rfl) fun a hf => stE hf hc rfl rfl rfl (eC (v := .bool (shift_stage at_)) (vs := [.int .i64 at_]) (caps := []) en_62 rfl rfl rfl rfl (fun w hc => shift_stage_ok at_ hc rfl)) fun a w hf hc => stP hf rfl rfl rfl (pNot rfl) fun a hf => stP hf rfl rfl rfl (pPf rfl rfl) fun a hf => cNil ⟨hf.keep ⟨rfl,rfl,rfl,rfl,rfl,rfl,rfl,rfl,rfl,rfl,rfl,rfl,rfl,trivial⟩,hc⟩
    ·rw [hb] at hf
     refine stS hf rfl rfl rfl fun a hf => stS hf rfl rfl rfl fun a hf => stS hf rfl rfl rfl fun a hf => stP hf rfl rfl rfl (pPt rfl rfl) fun a hf => cNil ⟨hf.keep ⟨rfl,rfl,rfl,rfl,rfl,rfl,rfl,rfl,rfl,rfl,rfl,rfl,rfl,trivial⟩,hc⟩
   intro a w ⟨hf,hc⟩
   refine stP hf rfl rfl rfl (pA rfl) fun a hf => cNil ?_
   refine h6 _ _ ?_
   refine cCond (b := (((!(shift_in most 0 18000)) || (!(shift_in day 0 40000))) || (!(shift_stage at_)))) hf rfl (fun hb => ?_) (fun hb => ?_)
   ·replace hF := condT hb hF
    clear hb
    refine wp_seq_k fun K7 h7 => cReg ?_
    refine stP hf rfl rfl rfl (pBuildS (cells := [.int .i64 0,.int .i64 0]) bt_50 rfl rfl) fun a hf => stSt (vs := [.int .i64 0,.int .i64 0]) hf hc rfl rfl rfl rfl sz_50 rfl rfl u0 fun w hc => stP hf rfl rfl rfl (pA rfl) fun a hf => cNil ?_
    refine h7 _ _ ?_
    refine wp_ret ?_
    refine xBlkR ?_
    refine xThenR ?_
    obtain rfl := Option.some.inj hF
    replace hc := hc.drop k1
    exact fnOut2 (by simp) rfl Try.results29 hf hc (rv_cellN (vs := [.int .i64 0,.int .i64 0]) ag_50 rfl rfl (cells_box (n := 2) m0 rfl)) (show look _ 9 = _ from rfl) ⟨rfl,(hc.drop k0)⟩
   ·replace hF := condF hb hF
    clear hb
    refine wp_skip ?_
    refine h3 _ _ ?_
    refine wp_seq_k fun K8 h8 => cReg ?_
    refine stMM hf hc rfl rfl fun mb a w hf hc => ?_
    replace hc : Ctx _ (.im mb (fun j => ((fun _ => none : Int → Option Int) j).map (Value.int .i64)) none::_) w := hc
    refine stP hf rfl rfl rfl (pA rfl) fun a hf => cNil ?_
    refine h8 _ _ ?_
    refine wp_seq_k fun K9 h9 => cReg ?_
    refine stP hf rfl rfl rfl (pA rfl) fun a hf => cNil ?_
    refine h9 _ _ ?_
    refine wp_seq_k fun K10 h10 => wp_seq_k fun K11 h11 => cReg ?_
    refine stP hf rfl rfl rfl (pFA fa_25_1 rfl) fun a hf => stE hf hc rfl rfl rfl (eLd1 sc_23 rfl (cell_box m2 rfl)) fun a w hf hc => stP hf rfl rfl rfl (pLenS Try.underlying23 rfl) fun a hf => stP hf rfl rfl rfl (pM rfl) fun a hf => cNil ?_
    refine h11 _ _ ?_
    refine wp_block ?_
    obtain ⟨x12,hx12,hF⟩ := bnd_some hF
    let S12 : (Int × Int × (Int → Option Int)) → Act → World → Prop := (fun (zz : Int × Int × (Int → Option Int)) a w => Has 130 a [(1,.int .i64 most),(2,.int .i64 day),(3,.int .i64 at_),(4,.pointer (some ⟨b_1,0,none⟩)),(8,.pointer (some ⟨b_2,0,none⟩)),(10,.pointer none),(12,.map (some mb)),(13,.int .i64 zz.1),(50,.slice r_Gaugings_p r.Gaugings.length r_Gaugings_c),(51,.int .i64 ((r.Gaugings.length : Nat) : Int)),(52,.int .i64 zz.2.1)] ∧ Ctx G (.im mb (fun j => (zz.2.2 j).map (Value.int .i64)) none::.box b_2 [.int .i64 0,.int .i64 0] 50::.box b_1 [.slice r_Rating_p r.Rating.length r_Rating_c,.slice r_Gaugings_p r.Gaugings.length r_Gaugings_c] 25::Lf) w)
    have hr12 : ∀ (zz : Int × Int × (Int → Option Int)) a w,x12 = .go zz → S12 zz a w → K10 a w := by
     rintro ⟨ahead,x,mp⟩ a w rfl ⟨hf,hc⟩
     replace hF := exK_go hF
     refine h10 _ _ ?_
     refine wp_seq_k fun K13 h13 => noneO hF
    have ho12 : ∀ r,x12 = .out r → r = res := by
     rintro r rfl
     exact Option.some.inj hF
    refine cLoop N (loopW (S := S12) (x := x12) ?_ N (0,0,(fun _ => none : Int → Option Int)) _ _ ⟨hf.keep ⟨rfl,rfl,rfl,rfl,rfl,rfl,rfl,rfl,rfl,rfl,rfl,trivial⟩,hc⟩ hx12)
    clear hF hf hc
    rintro ⟨ahead,x,mp⟩ st12 a w KB12 ⟨hf,hc⟩ hF hfin12 hK12
    unfold shift_Between_b12 at hF
    refine wp_seq_k fun K14 h14 => cReg ?_
    refine stP hf rfl rfl rfl (pLt rfl rfl) fun a hf => cNil ?_
    refine h14 _ _ ?_
    refine wp_seq_k fun K15 h15 => cCond (b := (decide (x < ((r.Gaugings.length : Nat) : Int)))) hf rfl (fun hb => ?_) (fun hb => ?_)
    ·replace hF := condT hb hF
     clear hb
     refine wp_skip ?_
     refine h15 _ _ ?_
     refine wp_seq_k fun K16 h16 => ?_
     have hj16 : ∀ (ahead_1 : Int) (mp_1 : Int → Option Int) a w,Has 130 a [(1,.int .i64 most),(2,.int .i64 day),(3,.int .i64 at_),(4,.pointer (some ⟨b_1,0,none⟩)),(8,.pointer (some ⟨b_2,0,none⟩)),(10,.pointer none),(12,.map (some mb)),(13,.int .i64 ahead_1),(50,.slice r_Gaugings_p r.Gaugings.length r_Gaugings_c),(51,.int .i64 ((r.Gaugings.length : Nat) : Int)),(52,.int .i64 x)] → Ctx G (.im mb (fun j => (mp_1 j).map (Value.int .i64)) none::.box b_2 [.int .i64 0,.int .i64 0] 50::.box b_1 [.slice r_Rating_p r.Rating.length r_Rating_c,.slice r_Gaugings_p r.Gaugings.length r_Gaugings_c] 25::Lf) w → shift_Between_j16 N x ahead_1 mp_1 = some st12 → K16 a w := by
      repeat (clear hF)
      repeat (clear hc)
      repeat (clear hf)
      intro ahead_1 mp_1 a w hf hc hF
      unfold shift_Between_j16 at hF
      refine h16 _ _ ?_
      refine cReg ?_
      refine stP hf rfl rfl rfl (pAdd rfl rfl) fun a hf => stP hf rfl rfl rfl (pM rfl) fun a hf => cNil ?_
      exact hK12 (ahead_1,W (x + 1),mp_1) _ _ (Option.some.inj hF).symm ⟨hf.keep ⟨rfl,rfl,rfl,rfl,rfl,rfl,rfl,rfl,rfl,rfl,rfl,trivial⟩,hc⟩
     refine wp_block ?_
     refine wp_seq_k fun K17 h17 => cReg ?_
     refine stP hf rfl rfl rfl (pM rfl) fun a hf => ?_
     obtain ⟨e_1,he_1,hF⟩ := bnd_some hF
     obtain ⟨b_3,o,qa,qp⟩ := h_r_Gaugings.atm he_1
     refine stP hf rfl rfl rfl (pIA Try.underlying23 sz_71 rfl rfl qa) fun a hf => stE hf hc rfl rfl rfl (eLdN (vs := [.int .i64 e_1.Day,.int .i64 e_1.Stage,.int .i64 e_1.Flow.Lo,.int .i64 e_1.Flow.Hi]) ag_71 rfl rfl (cells_pc qp (n := 4) (o' := 0) rfl)) fun a w hf hc => stAl (cs := [.int .i64 0,.int .i64 0,.int .i64 0,.int .i64 0]) hf hc rfl rfl zr_71 rfl fun b_4 a w hf hc => stP hf rfl rfl rfl (pA rfl) fun a hf => stSt (vs := [.int .i64 e_1.Day,.int .i64 e_1.Stage,.int .i64 e_1.Flow.Lo,.int .i64 e_1.Flow.Hi]) hf hc rfl rfl rfl rfl sz_71 rfl rfl u0 fun w hc => cNil ?_
     refine h17 _ _ ?_
     refine wp_seq_k fun K18 h18 => cReg ?_
     refine stP hf rfl rfl rfl (pM rfl) fun a hf => stP hf rfl rfl rfl (pFA fa_71_0 rfl) fun a hf => stE hf hc rfl rfl rfl (eLd1 sc_3 rfl (cell_box m0 rfl)) fun a w hf hc => stP hf rfl rfl rfl (pM rfl) fun a hf => stMU (enc := (Value.int .i64)) (m := mp) (v := x) hf hc rfl Try.underlying146 Try.underlying3 rfl rfl rfl u1 fun w hc => cNil ?_
     refine h18 _ _ ?_
     refine wp_seq_k fun K19 h19 => cReg ?_
     refine stP hf rfl rfl rfl (pFA fa_71_0 rfl) fun a hf => stE hf hc rfl rfl rfl (eLd1 sc_3 rfl (cell_box m0 rfl)) fun a w hf hc => stP hf rfl rfl rfl (pM rfl) fun a hf => stP hf rfl rfl rfl (pLt rfl rfl) fun a hf => cNil ?_
     refine h19 _ _ ?_
     refine cCond (b := (decide (e_1.Day < day))) hf rfl (fun hb => ?_) (fun hb => ?_)
     ·replace hF := condT hb hF
      clear hb
      refine cReg ?_
      refine stP hf rfl rfl rfl (pM rfl) fun a hf => stP hf rfl rfl rfl (pAdd rfl rfl) fun a hf => stP hf rfl rfl rfl (pA rfl) fun a hf => cNil ?_
      replace hc := hc.drop k0
      exact hj16 (W (x + 1)) (setM mp e_1.Day x) _ _  (hf.keep ⟨rfl,rfl,rfl,rfl,rfl,rfl,rfl,rfl,rfl,rfl,rfl,trivial⟩) hc hF
     ·replace hF := condF hb hF
      clear hb
      refine wp_skip ?_
      replace hc := hc.drop k0
      exact hj16 ahead (setM mp e_1.Day x) _ _  (hf.keep ⟨rfl,rfl,rfl,rfl,rfl,rfl,rfl,rfl,rfl,rfl,rfl,trivial⟩) hc hF
    ·replace hF := condF hb hF
     clear hb
     refine wp_exit ?_
     refine xThen ?_
     refine xThen ?_
     have he := Option.some.inj hF
     rw [← he] at hfin12
     refine cHit ?_
     exact hr12 _ _ _ hfin12 ⟨hf.keep ⟨rfl,rfl,rfl,rfl,rfl,rfl,rfl,rfl,rfl,rfl,rfl,trivial⟩,hc⟩
 | inr r_1 =>
  replace hF := sumKr hF
  have hr_1 := hr_0
  refine stC (vs := [.agg #[.slice r_Rating_p r.Rating.length r_Rating_c,.slice r_Gaugings_p r.Gaugings.length r_Gaugings_c]]) (caps := []) hf rfl rfl rfl en_73 rfl rfl rfl rfl (shift_opened_ok r h_r_Rating h_r_Gaugings hc hr_1) ?_
  rintro _ w ⟨b_5,p_1,c_1,rfl,hc⟩
  refine ⟨_,rfl,fun a hf => ?_⟩
  refine stP hf rfl rfl rfl (pM rfl) fun a hf => stP hf rfl rfl rfl (pX rfl rfl) fun a hf => stP hf rfl rfl rfl (pX rfl rfl) fun a hf => stP hf rfl rfl rfl (pA rfl) fun a hf => stP hf rfl rfl rfl (pA rfl) fun a hf => cNil ?_
  refine h2 _ _ ?_
  refine wp_seq_k fun K20 h20 => wp_block ?_
  refine wp_seq_k fun K21 h21 => cReg ?_
  refine stP hf rfl rfl rfl (pM rfl) fun a hf => stP hf rfl rfl rfl (pNe rfl rfl) fun a hf => stP hf rfl rfl rfl (pA rfl) fun a hf => cNil ?_
  refine h21 _ _ ?_
  refine cCond (b := (r_1.2 != 0)) hf rfl (fun hb => ?_) (fun hb => ?_)
  ·replace hF := condT hb hF
   clear hb
   refine wp_seq_k fun K22 h22 => cReg ?_
   refine stP hf rfl rfl rfl (pBuildS (cells := [.int .i64 0,.int .i64 0]) bt_50 rfl rfl) fun a hf => stP hf rfl rfl rfl (pM rfl) fun a hf => stSt (vs := [.int .i64 0,.int .i64 0]) hf hc rfl rfl rfl rfl sz_50 rfl rfl u2 fun w hc => stP hf rfl rfl rfl (pA rfl) fun a hf => cNil ?_
   refine h22 _ _ ?_
   refine wp_ret ?_
   refine xBlkR ?_
   refine xThenR ?_
   obtain rfl := Option.some.inj hF
   replace hc := hc.drop k3
   replace hc := hc.drop k1
   replace hc := hc.drop k0
   exact fnOut2 (by simp) rfl Try.results29 hf hc (rv_cellN (vs := [.int .i64 0,.int .i64 0]) ag_50 rfl rfl (cells_box (n := 2) m0 rfl)) (show look _ 9 = _ from rfl) ⟨rfl,(hc.drop k0)⟩
  ·replace hF := condF hb hF
   clear hb
   refine wp_seq_k fun K23 h23 => cReg ?_
   refine stP hf rfl rfl rfl (pM rfl) fun a hf => stE hf hc rfl rfl rfl (eC (v := .bool (shift_in most 0 18000)) (vs := [.int .i64 most,.int .i64 0,.int .i64 18000]) (caps := []) en_59 rfl rfl rfl rfl (fun w hc => shift_in_ok most 0 18000 hc rfl)) fun a w hf hc => stP hf rfl rfl rfl (pNot rfl) fun a hf => stP hf rfl rfl rfl (pM rfl) fun a hf => stCut 4 (fun a w => Has 130 a [(1,.int .i64 most),(2,.int .i64 day),(3,.int .i64 at_),(4,.pointer (some ⟨b_1,0,none⟩)),(8,.pointer (some ⟨b_2,0,none⟩)),(10,.pointer (some ⟨b_5,0,none⟩)),(34,.int .i64 most),(35,.bool (shift_in most 0 18000)),(36,.bool (!(shift_in most 0 18000))),(37,.bool (!(shift_in most 0 18000))),(41,.bool ((!(shift_in most 0 18000)) || (!(shift_in day 0 40000))))] ∧ Ctx G (.row p_1 c_1 (r_1.1.map enc_api_Span) 50 2::.box b_5 [.slice r_Rating_p r.Rating.length r_Rating_c,.slice r_Gaugings_p r.Gaugings.length r_Gaugings_c,.slice p_1 r_1.1.length c_1] 140::.box b_2 [.int .i64 0,.int .i64 0] 50::.box b_1 [.slice r_Rating_p r.Rating.length r_Rating_c,.slice r_Gaugings_p r.Gaugings.length r_Gaugings_c] 25::Lf) w) ?_ ?_
   ·cases hb : (!(shift_in most 0 18000))
    ·rw [hb] at hf
     refine stP hf rfl rfl rfl (pM rfl) fun a hf => stE hf hc rfl rfl rfl (eC (v := .bool (shift_in day 0 40000)) (vs := [.int .i64 day,.int .i64 0,.int .i64 40000]) (caps := []) en_59 rfl rfl rfl rfl (fun w hc => shift_in_ok day 0 40000 hc rfl)) fun a w hf hc => stP hf rfl rfl rfl (pNot rfl) fun a hf => stP hf rfl rfl rfl (pPf rfl rfl) fun a hf => cNil ⟨hf.keep ⟨rfl,rfl,rfl,rfl,rfl,rfl,rfl,rfl,rfl,rfl,rfl,trivial⟩,hc⟩
    ·rw [hb] at hf
     refine stS hf rfl rfl rfl fun a hf => stS hf rfl rfl rfl fun a hf => stS hf rfl rfl rfl fun a hf => stP hf rfl rfl rfl (pPt rfl rfl) fun a hf => cNil ⟨hf.keep ⟨rfl,rfl,rfl,rfl,rfl,rfl,rfl,rfl,rfl,rfl,rfl,trivial⟩,hc⟩
   intro a w ⟨hf,hc⟩
   refine stP hf rfl rfl rfl (pM rfl) fun a hf => stCut 4 (fun a w => Has 130 a [(1,.int .i64 most),(2,.int .i64 day),(3,.int .i64 at_),(4,.pointer (some ⟨b_1,0,none⟩)),(8,.pointer (some ⟨b_2,0,none⟩)),(10,.pointer (some ⟨b_5,0,none⟩)),(34,.int .i64 most),(35,.bool (shift_in most 0 18000)),(36,.bool (!(shift_in most 0 18000))),(37,.bool (!(shift_in most 0 18000))),(41,.bool ((!(shift_in most 0 18000)) || (!(shift_in day 0 40000)))),(42,.bool ((!(shift_in most 0 18000)) || (!(shift_in day 0 40000)))),(46,.bool (((!(shift_in most 0 18000)) || (!(shift_in day 0 40000))) || (!(shift_stage at_))))] ∧ Ctx G (.row p_1 c_1 (r_1.1.map enc_api_Span) 50 2::.box b_5 [.slice r_Rating_p r.Rating.length r_Rating_c,.slice r_Gaugings_p r.Gaugings.length r_Gaugings_c,.slice p_1 r_1.1.length c_1] 140::.box b_2 [.int .i64 0,.int .i64 0] 50::.box b_1 [.slice r_Rating_p r.Rating.length r_Rating_c,.slice r_Gaugings_p r.Gaugings.length r_Gaugings_c] 25::Lf) w) ?_ ?_
   ·cases hb : ((!(shift_in most 0 18000)) || (!(shift_in day 0 40000)))
    ·rw [hb] at hf
     refine stP hf rfl rfl rfl (pM rfl) fun a hf => stE hf hc rfl rfl rfl (eC (v := .bool (shift_stage at_)) (vs := [.int .i64 at_]) (caps := []) en_62 rfl rfl rfl rfl (fun w hc => shift_stage_ok at_ hc rfl)) fun a w hf hc => stP hf rfl rfl rfl (pNot rfl) fun a hf => stP hf rfl rfl rfl (pPf rfl rfl) fun a hf => cNil ⟨hf.keep ⟨rfl,rfl,rfl,rfl,rfl,rfl,rfl,rfl,rfl,rfl,rfl,rfl,rfl,trivial⟩,hc⟩
    ·rw [hb] at hf
     refine stS hf rfl rfl rfl fun a hf => stS hf rfl rfl rfl fun a hf => stS hf rfl rfl rfl fun a hf => stP hf rfl rfl rfl (pPt rfl rfl) fun a hf => cNil ⟨hf.keep ⟨rfl,rfl,rfl,rfl,rfl,rfl,rfl,rfl,rfl,rfl,rfl,rfl,rfl,trivial⟩,hc⟩
   intro a w ⟨hf,hc⟩
   refine stP hf rfl rfl rfl (pA rfl) fun a hf => cNil ?_
   refine h23 _ _ ?_
   refine cCond (b := (((!(shift_in most 0 18000)) || (!(shift_in day 0 40000))) || (!(shift_stage at_)))) hf rfl (fun hb => ?_) (fun hb => ?_)
   ·replace hF := condT hb hF
    clear hb
    refine wp_seq_k fun K24 h24 => cReg ?_
    refine stP hf rfl rfl rfl (pBuildS (cells := [.int .i64 0,.int .i64 0]) bt_50 rfl rfl) fun a hf => stSt (vs := [.int .i64 0,.int .i64 0]) hf hc rfl rfl rfl rfl sz_50 rfl rfl u2 fun w hc => stP hf rfl rfl rfl (pA rfl) fun a hf => cNil ?_
    refine h24 _ _ ?_
    refine wp_ret ?_
    refine xBlkR ?_
    refine xThenR ?_
    obtain rfl := Option.some.inj hF
    replace hc := hc.drop k3
    replace hc := hc.drop k1
    replace hc := hc.drop k0
    exact fnOut2 (by simp) rfl Try.results29 hf hc (rv_cellN (vs := [.int .i64 0,.int .i64 0]) ag_50 rfl rfl (cells_box (n := 2) m0 rfl)) (show look _ 9 = _ from rfl) ⟨rfl,(hc.drop k0)⟩
   ·replace hF := condF hb hF
    clear hb
    refine wp_skip ?_
    refine h20 _ _ ?_
    refine wp_seq_k fun K25 h25 => cReg ?_
    refine stMM hf hc rfl rfl fun mb_1 a w hf hc => ?_
    replace hc : Ctx _ (.im mb_1 (fun j => ((fun _ => none : Int → Option Int) j).map (Value.int .i64)) none::_) w := hc
    refine stP hf rfl rfl rfl (pA rfl) fun a hf => cNil ?_
    refine h25 _ _ ?_
    refine wp_seq_k fun K26 h26 => cReg ?_
    refine stP hf rfl rfl rfl (pA rfl) fun a hf => cNil ?_
    refine h26 _ _ ?_
    refine wp_seq_k fun K27 h27 => wp_seq_k fun K28 h28 => cReg ?_
    refine stP hf rfl rfl rfl (pFA fa_25_1 rfl) fun a hf => stE hf hc rfl rfl rfl (eLd1 sc_23 rfl (cell_box m4 rfl)) fun a w hf hc => stP hf rfl rfl rfl (pLenS Try.underlying23 rfl) fun a hf => stP hf rfl rfl rfl (pM rfl) fun a hf => cNil ?_
    refine h28 _ _ ?_
    refine wp_block ?_
    obtain ⟨x29,hx29,hF⟩ := bnd_some hF
    let S29 : (Int × Int × (Int → Option Int)) → Act → World → Prop := (fun (zz : Int × Int × (Int → Option Int)) a w => Has 130 a [(1,.int .i64 most),(2,.int .i64 day),(3,.int .i64 at_),(4,.pointer (some ⟨b_1,0,none⟩)),(8,.pointer (some ⟨b_2,0,none⟩)),(10,.pointer (some ⟨b_5,0,none⟩)),(12,.map (some mb_1)),(13,.int .i64 zz.1),(50,.slice r_Gaugings_p r.Gaugings.length r_Gaugings_c),(51,.int .i64 ((r.Gaugings.length : Nat) : Int)),(52,.int .i64 zz.2.1)] ∧ Ctx G (.im mb_1 (fun j => (zz.2.2 j).map (Value.int .i64)) none::.row p_1 c_1 (r_1.1.map enc_api_Span) 50 2::.box b_5 [.slice r_Rating_p r.Rating.length r_Rating_c,.slice r_Gaugings_p r.Gaugings.length r_Gaugings_c,.slice p_1 r_1.1.length c_1] 140::.box b_2 [.int .i64 0,.int .i64 0] 50::.box b_1 [.slice r_Rating_p r.Rating.length r_Rating_c,.slice r_Gaugings_p r.Gaugings.length r_Gaugings_c] 25::Lf) w)
    have hr29 : ∀ (zz : Int × Int × (Int → Option Int)) a w,x29 = .go zz → S29 zz a w → K27 a w := by
     rintro ⟨ahead_2,x_1,mp_2⟩ a w rfl ⟨hf,hc⟩
     replace hF := exK_go hF
     refine h27 _ _ ?_
     refine wp_seq_k fun K30 h30 => cReg ?_
     refine stP hf rfl rfl rfl (pM rfl) fun a hf => stP hf rfl rfl rfl (pNC rfl) fun a hf => stP hf rfl rfl rfl (pFA fa_140_1 rfl) fun a hf => stE hf hc rfl rfl rfl (eLd1 sc_44 rfl (cell_box m2 rfl)) fun a w hf hc => stP hf rfl rfl rfl (pA rfl) fun a hf => cNil ?_
     refine h30 _ _ ?_
     refine wp_seq_k fun K31 h31 => ?_
     have hj31 : ∀ (l : List api_Span) (p_2 : Option Addr) (c_2 : Nat) a w,Has 130 a [(1,.int .i64 most),(3,.int .i64 at_),(4,.pointer (some ⟨b_1,0,none⟩)),(8,.pointer (some ⟨b_2,0,none⟩)),(13,.int .i64 ahead_2),(16,.slice p_2 l.length c_2)] → Ctx G (.row p_2 c_2 (l.map enc_api_Span) 50 2::.im mb_1 (fun j => (mp_2 j).map (Value.int .i64)) none::.box b_2 [.int .i64 0,.int .i64 0] 50::.box b_1 [.slice r_Rating_p r.Rating.length r_Rating_c,.slice r_Gaugings_p r.Gaugings.length r_Gaugings_c] 25::Lf) w → shift_Between_j31 N r most at_ ahead_2 l = some res → K31 a w := by
      repeat (clear hF)
      repeat (clear hc)
      repeat (clear hf)
      intro l p_2 c_2 a w hf hc hF
      unfold shift_Between_j31 at hF
      refine h31 _ _ ?_
      refine wp_seq_k fun K32 h32 => cReg ?_
      refine stP hf rfl rfl rfl (pM rfl) fun a hf => stP hf rfl rfl rfl (pM rfl) fun a hf => ?_
      obtain ⟨r_2,hr_2,hF⟩ := bnd_some hF
      obtain ⟨G1,hle1,hrd1,hc,hth1⟩ := lend hc k0
      refine stC (vs := [.slice p_2 l.length c_2,.int .i64 most]) (caps := []) hf rfl rfl rfl en_76 rfl rfl rfl rfl (shift_can_ok l most hrd1 hc hr_2) ?_
      rintro _ w ⟨p_3,c_3,rfl,hc⟩
      refine ⟨_,rfl,fun a hf => ?_⟩
      replace hc := hth1 _ _ hc
      refine stP hf rfl rfl rfl (pM rfl) fun a hf => stP hf rfl rfl rfl (pX rfl rfl) fun a hf => stP hf rfl rfl rfl (pX rfl rfl) fun a hf => stP hf rfl rfl rfl (pA rfl) fun a hf => stP hf rfl rfl rfl (pA rfl) fun a hf => cNil ?_
      refine h32 _ _ ?_
      refine wp_seq_k fun K33 h33 => wp_seq_k fun K34 h34 => cReg ?_
      refine stP hf rfl rfl rfl (pM rfl) fun a hf => stP hf rfl rfl rfl (pNot rfl) fun a hf => cNil ?_
      refine h34 _ _ ?_
      refine cCond (b := (!r_2.2)) hf rfl (fun hb => ?_) (fun hb => ?_)
      ·replace hF := condT hb hF
       clear hb
       refine wp_seq_k fun K35 h35 => cReg ?_
       refine stP hf rfl rfl rfl (pBuildS (cells := [.int .i64 0,.int .i64 0]) bt_50 rfl rfl) fun a hf => stSt (vs := [.int .i64 0,.int .i64 0]) hf hc rfl rfl rfl rfl sz_50 rfl rfl u3 fun w hc => stP hf rfl rfl rfl (pA rfl) fun a hf => cNil ?_
       refine h35 _ _ ?_
       refine wp_ret ?_
       refine xThenR ?_
       obtain rfl := Option.some.inj hF
       replace hc := hc.drop k4
       replace hc := hc.drop k2
       replace hc := hc.drop k1
       replace hc := hc.drop k0
       exact fnOut2 (by simp) rfl Try.results29 hf hc (rv_cellN (vs := [.int .i64 0,.int .i64 0]) ag_50 rfl rfl (cells_box (n := 2) m0 rfl)) (show look _ 9 = _ from rfl) ⟨rfl,(hc.drop k0)⟩
      ·replace hF := condF hb hF
       clear hb
       refine wp_skip ?_
       refine h33 _ _ ?_
       refine wp_seq_k fun K36 h36 => ?_
       obtain ⟨e_2,he_2,hF⟩ := bnd_some hF
       obtain ⟨g,rfl,qa_1,qr⟩ := row_atm hc m1 he_2
       obtain ⟨r_3,hr_3,hF⟩ := bnd_some hF
       obtain ⟨e_3,he_3,hF⟩ := bnd_some hF
       obtain ⟨qa_2,qr_1⟩ := row_atk hc m1 he_3
       obtain ⟨r_4,hr_4,hF⟩ := bnd_some hF
       replace hc := hc.nilRow 0 0
       replace hc := hc.nilRow 0 0
       refine regionE (fun θ => [⟨none,none,3,.int .i64 at_⟩,⟨none,none,4,.pointer (some ⟨b_1,0,none⟩)⟩,⟨none,none,8,.pointer (some ⟨b_2,0,none⟩)⟩,⟨none,none,13,.int .i64 ahead_2⟩,⟨none,none,19,.slice (some ⟨g,0,none⟩) r_2.1.length c_3⟩,⟨some 0,none,95,.pointer (some ⟨b_1,0,none⟩)⟩,⟨some 1,none,96,.slice r_Rating_p r.Rating.length r_Rating_c⟩,⟨some 2,none,97,.int .i64 at_⟩,⟨some 3,none,98,.slice (some ⟨g,0,none⟩) r_2.1.length c_3⟩,⟨some 4,none,99,.int .i64 ahead_2⟩,⟨some 5,none,100,.pointer (some ⟨g,ahead_2.toNat * 2,none⟩)⟩,⟨some 6,none,101,.pointer (some ⟨g,ahead_2.toNat * 2 + 1,none⟩)⟩,⟨some 7,none,102,.int .i64 e_2.Hi⟩,⟨some 8,none,103,.int .i64 (W (at_ - e_2.Hi))⟩,⟨some 9,none,104,.agg #[.int .i64 r_3.N,.int .i64 r_3.D]⟩,⟨some 10,none,105,.pointer (some ⟨b_1,0,none⟩)⟩,⟨some 11,none,106,.slice r_Rating_p r.Rating.length r_Rating_c⟩,⟨some 12,none,107,.int .i64 at_⟩,⟨some 13,none,108,.slice (some ⟨g,0,none⟩) r_2.1.length c_3⟩,⟨some 14,none,109,.int .i64 ahead_2⟩,⟨some 15,none,110,.pointer (some ⟨g,ahead_2.toNat * 2,none⟩)⟩,⟨some 16,none,111,.pointer (some ⟨g,ahead_2.toNat * 2 + 0,none⟩)⟩,⟨some 17,none,112,.int .i64 e_3.Lo⟩,⟨some 18,none,113,.int .i64 (W (at_ - e_3.Lo))⟩,⟨some 19,none,114,.agg #[.int .i64 r_4.N,.int .i64 r_4.D]⟩,⟨some 20,none,21,.pointer (some ⟨(θ 160).b,0,none⟩)⟩,⟨some 21,none,22,.pointer (some ⟨(θ 168).b,0,none⟩)⟩]) (fun E θ => (bif E 23 then .box (θ 168).b [.int .i64 r_4.N,.int .i64 r_4.D] 37 else bif E 21 then .box (θ 168).b [.int .i64 0,.int .i64 0] 37 else .row none 0 [] 0 0)::(bif E 22 then .box (θ 160).b [.int .i64 r_3.N,.int .i64 r_3.D] 37 else bif E 20 then .box (θ 160).b [.int .i64 0,.int .i64 0] 37 else .row none 0 [] 0 0)::.row p_2 c_2 (l.map enc_api_Span) 50 2::.row (some ⟨g,0,none⟩) c_3 (r_2.1.map enc_api_Span) 50 2::.im mb_1 (fun j => (mp_2 j).map (Value.int .i64)) none::.box b_2 [.int .i64 0,.int .i64 0] 50::.box b_1 [.slice r_Rating_p r.Rating.length r_Rating_c,.slice r_Gaugings_p r.Gaugings.length r_Gaugings_c] 25::Lf) [(22,20),(23,21)] (fun a w => ∃ (b_8 : Nat) (b_9 : Nat),Has 130 a [(8,.pointer (some ⟨b_2,0,none⟩)),(21,.pointer (some ⟨b_8,0,none⟩)),(22,.pointer (some ⟨b_9,0,none⟩))] ∧ Ctx G (.box b_9 [.int .i64 r_4.N,.int .i64 r_4.D] 37::.box b_8 [.int .i64 r_3.N,.int .i64 r_3.D] 37::.row p_2 c_2 (l.map enc_api_Span) 50 2::.row (some ⟨g,0,none⟩) c_3 (r_2.1.map enc_api_Span) 50 2::.im mb_1 (fun j => (mp_2 j).map (Value.int .i64)) none::.box b_2 [.int .i64 0,.int .i64 0] 50::.box b_1 [.slice r_Rating_p r.Rating.length r_Rating_c,.slice r_Gaugings_p r.Gaugings.length r_Gaugings_c] 25::Lf) w) follows_mx (by kernel_rfl) (by kernel_rfl) (HasE.of hf ⟨rfl,rfl,rfl,rfl,rfl,trivial,trivial,trivial,trivial,trivial,trivial,trivial,trivial,trivial,trivial,trivial,trivial,trivial,trivial,trivial,trivial,trivial,trivial,trivial,trivial,trivial,trivial,trivial⟩) hc ⟨?_,?_,?_,?_,?_,?_,?_,?_,?_,?_,?_,?_,?_,?_,?_,?_,?_,?_,?_,?_,?_,?_,?_,?_,trivial⟩ ?_ ?_
       ·intro E θ a w hD hi hp he hc
        have hf := he.h0
        replace hf := hf.more he 1 rfl onT
        refine stP hf rfl rfl rfl (pFA fa_25_0 rfl) fun a hf => cNil ?_
        refine xThenN ?_
        intro ds u hau
        refine ⟨θ,he.put0 hi hau hf rfl 5 rfl rfl,?_⟩
        exact hc
       ·intro E θ a w hD hi hp he hc
        have e0 := hp.of (k := 0) rfl
        have hf := he.h0
        replace hf := hf.more he 5 rfl (onP e0)
        refine stE hf hc rfl rfl rfl (eLd1 sc_22 rfl (cell_box m6 rfl)) fun a w hf hc => cNil ?_
        refine xThenN ?_
        intro ds u hau
        refine ⟨θ,he.put0 hi hau hf rfl 6 rfl rfl,?_⟩
        exact hc
       ·intro E θ a w hD hi hp he hc
        have hf := he.h0
        replace hf := hf.more he 0 rfl onT
        refine stP hf rfl rfl rfl (pM rfl) fun a hf => cNil ?_
        refine xThenN ?_
        intro ds u hau
        refine ⟨θ,he.put0 hi hau hf rfl 7 rfl rfl,?_⟩
        exact hc
       ·intro E θ a w hD hi hp he hc
        have hf := he.h0
        replace hf := hf.more he 4 rfl onT
        refine stP hf rfl rfl rfl (pM rfl) fun a hf => cNil ?_
        refine xThenN ?_
        intro ds u hau
        refine ⟨θ,he.put0 hi hau hf rfl 8 rfl rfl,?_⟩
        exact hc
       ·intro E θ a w hD hi hp he hc
        have hf := he.h0
        replace hf := hf.more he 3 rfl onT
        refine stP hf rfl rfl rfl (pM rfl) fun a hf => cNil ?_
        refine xThenN ?_
        intro ds u hau
        refine ⟨θ,he.put0 hi hau hf rfl 9 rfl rfl,?_⟩
        exact hc
       ·intro E θ a w hD hi hp he hc
        have e3 := hp.of (k := 3) rfl
        have e4 := hp.of (k := 4) rfl
        have hf := he.h0
        replace hf := hf.more he 8 rfl (onP e3)
        replace hf := hf.more he 9 rfl (onP e4)
        refine stP hf rfl rfl rfl (pIA Try.underlying44 sz_50 rfl rfl qa_1) fun a hf => cNil ?_
        refine xThenN ?_
        intro ds u hau
        refine ⟨θ,he.put0 hi hau hf rfl 10 rfl rfl,?_⟩
        exact hc
       ·intro E θ a w hD hi hp he hc
        have e5 := hp.of (k := 5) rfl
        have hf := he.h0
        replace hf := hf.more he 10 rfl (onP e5)
        refine stP hf rfl rfl rfl (pFA fa_50_1 rfl) fun a hf => cNil ?_
        refine xThenN ?_
        intro ds u hau
        refine ⟨θ,he.put0 hi hau hf rfl 11 rfl rfl,?_⟩
        exact hc
       ·intro E θ a w hD hi hp he hc
        have e6 := hp.of (k := 6) rfl
        have hf := he.h0
        replace hf := hf.more he 11 rfl (onP e6)
        refine stE hf hc rfl rfl rfl (eLd1 sc_3 rfl (cell_row (sz := 2) (i := ahead_2.toNat) (j := 1) m3 qr rfl)) fun a w hf hc => cNil ?_
        refine xThenN ?_
        intro ds u hau
        refine ⟨θ,he.put0 hi hau hf rfl 12 rfl rfl,?_⟩
        exact hc
       ·intro E θ a w hD hi hp he hc
        have e2 := hp.of (k := 2) rfl
        have e7 := hp.of (k := 7) rfl
        have hf := he.h0
        replace hf := hf.more he 7 rfl (onP e2)
        replace hf := hf.more he 12 rfl (onP e7)
        refine stP hf rfl rfl rfl (pSub rfl rfl) fun a hf => cNil ?_
        refine xThenN ?_
        intro ds u hau
        refine ⟨θ,he.put0 hi hau hf rfl 13 rfl rfl,?_⟩
        exact hc
       ·intro E θ a w hD hi hp he hc
        have e1 := hp.of (k := 1) rfl
        have e8 := hp.of (k := 8) rfl
        have hf := he.h0
        replace hf := hf.more he 6 rfl (onP e1)
        replace hf := hf.more he 13 rfl (onP e8)
        refine stE hf hc rfl rfl rfl (eC (v := .agg #[.int .i64 r_3.N,.int .i64 r_3.D]) (vs := [.slice r_Rating_p r.Rating.length r_Rating_c,.int .i64 (W (at_ - e_2.Hi))]) (caps := []) en_69 rfl rfl rfl rfl (fun w hc => shift_means_ok r.Rating (W (at_ - e_2.Hi)) h_r_Rating hc hr_3)) fun a w hf hc => cNil ?_
        refine xThenN ?_
        intro ds u hau
        refine ⟨θ,he.put0 hi hau hf rfl 14 rfl rfl,?_⟩
        exact hc
       ·intro E θ a w hD hi hp he hc
        have hf := he.h0
        replace hf := hf.more he 1 rfl onT
        refine stP hf rfl rfl rfl (pFA fa_25_0 rfl) fun a hf => cNil ?_
        refine xThenN ?_
        intro ds u hau
        refine ⟨θ,he.put0 hi hau hf rfl 15 rfl rfl,?_⟩
        exact hc
       ·intro E θ a w hD hi hp he hc
        have e10 := hp.of (k := 10) rfl
        have hf := he.h0
        replace hf := hf.more he 15 rfl (onP e10)
        refine stE hf hc rfl rfl rfl (eLd1 sc_22 rfl (cell_box m6 rfl)) fun a w hf hc => cNil ?_
        refine xThenN ?_
        intro ds u hau
        refine ⟨θ,he.put0 hi hau hf rfl 16 rfl rfl,?_⟩
        exact hc
       ·intro E θ a w hD hi hp he hc
        have hf := he.h0
        replace hf := hf.more he 0 rfl onT
        refine stP hf rfl rfl rfl (pM rfl) fun a hf => cNil ?_
        refine xThenN ?_
        intro ds u hau
        refine ⟨θ,he.put0 hi hau hf rfl 17 rfl rfl,?_⟩
        exact hc
       ·intro E θ a w hD hi hp he hc
        have hf := he.h0
        replace hf := hf.more he 4 rfl onT
        refine stP hf rfl rfl rfl (pM rfl) fun a hf => cNil ?_
        refine xThenN ?_
        intro ds u hau
        refine ⟨θ,he.put0 hi hau hf rfl 18 rfl rfl,?_⟩
        exact hc
       ·intro E θ a w hD hi hp he hc
        have hf := he.h0
        replace hf := hf.more he 3 rfl onT
        refine stP hf rfl rfl rfl (pM rfl) fun a hf => cNil ?_
        refine xThenN ?_
        intro ds u hau
        refine ⟨θ,he.put0 hi hau hf rfl 19 rfl rfl,?_⟩
        exact hc
       ·intro E θ a w hD hi hp he hc
        have e13 := hp.of (k := 13) rfl
        have e14 := hp.of (k := 14) rfl
        have hf := he.h0
        replace hf := hf.more he 18 rfl (onP e13)
        replace hf := hf.more he 19 rfl (onP e14)
        refine stP hf rfl rfl rfl (pIA Try.underlying44 sz_50 rfl rfl qa_2) fun a hf => cNil ?_
        refine xThenN ?_
        intro ds u hau
        refine ⟨θ,he.put0 hi hau hf rfl 20 rfl rfl,?_⟩
        exact hc
       ·intro E θ a w hD hi hp he hc
        have e15 := hp.of (k := 15) rfl
        have hf := he.h0
        replace hf := hf.more he 20 rfl (onP e15)
        refine stP hf rfl rfl rfl (pFA fa_50_0 rfl) fun a hf => cNil ?_
        refine xThenN ?_
        intro ds u hau
        refine ⟨θ,he.put0 hi hau hf rfl 21 rfl rfl,?_⟩
        exact hc
       ·intro E θ a w hD hi hp he hc
        have e16 := hp.of (k := 16) rfl
        have hf := he.h0
        replace hf := hf.more he 21 rfl (onP e16)
        refine stE hf hc rfl rfl rfl (eLd1 sc_3 rfl (cell_row (sz := 2) (i := ahead_2.toNat) (j := 0) m3 qr_1 rfl)) fun a w hf hc => cNil ?_
        refine xThenN ?_
        intro ds u hau
        refine ⟨θ,he.put0 hi hau hf rfl 22 rfl rfl,?_⟩
        exact hc
       ·intro E θ a w hD hi hp he hc
        have e12 := hp.of (k := 12) rfl
        have e17 := hp.of (k := 17) rfl
        have hf := he.h0
        replace hf := hf.more he 17 rfl (onP e12)
        replace hf := hf.more he 22 rfl (onP e17)
        refine stP hf rfl rfl rfl (pSub rfl rfl) fun a hf => cNil ?_
        refine xThenN ?_
        intro ds u hau
        refine ⟨θ,he.put0 hi hau hf rfl 23 rfl rfl,?_⟩
        exact hc
       ·intro E θ a w hD hi hp he hc
        have e11 := hp.of (k := 11) rfl
        have e18 := hp.of (k := 18) rfl
        have hf := he.h0
        replace hf := hf.more he 16 rfl (onP e11)
        replace hf := hf.more he 23 rfl (onP e18)
        refine stE hf hc rfl rfl rfl (eC (v := .agg #[.int .i64 r_4.N,.int .i64 r_4.D]) (vs := [.slice r_Rating_p r.Rating.length r_Rating_c,.int .i64 (W (at_ - e_3.Lo))]) (caps := []) en_69 rfl rfl rfl rfl (fun w hc => shift_means_ok r.Rating (W (at_ - e_3.Lo)) h_r_Rating hc hr_4)) fun a w hf hc => cNil ?_
        refine xThenN ?_
        intro ds u hau
        refine ⟨θ,he.put0 hi hau hf rfl 24 rfl rfl,?_⟩
        exact hc
       ·intro E θ a w hD hi hp he hc
        have e22 := hD.f 0 rfl hi
        try dsimp only at hc
        rw [hi,e22] at hc
        have hf := he.h0
        refine stAl (cs := [.int .i64 0,.int .i64 0]) hf hc rfl rfl zr_37 rfl fun b_6 a w hf hc => cNil ?_
        refine xThenN ?_
        intro ds u hau
        replace hc := hc.drop k2
        replace hc := hc.pick k0
        replace hc := hc.pick k1
        refine ⟨(setT θ 160 ⟨b_6,none,0⟩),he.put hi hau hf rfl [] trivial ⟨qq,qq,qq,qq,qq,qq,qq,qq,qq,qq,qq,qq,qq,qq,qq,qq,qq,qq,qq,qq,qq,qq,qq,qq,qq,qq,qq,trivial⟩,?_⟩
        try dsimp only
        rw [updE_self E 20,updE_fls 20 e22 rfl]
        exact hc
       ·intro E θ a w hD hi hp he hc
        have e23 := hD.f 1 rfl hi
        try dsimp only at hc
        rw [hi,e23] at hc
        have hf := he.h0
        refine stAl (cs := [.int .i64 0,.int .i64 0]) hf hc rfl rfl zr_37 rfl fun b_7 a w hf hc => cNil ?_
        refine xThenN ?_
        intro ds u hau
        replace hc := hc.drop k1
        refine ⟨(setT θ 168 ⟨b_7,none,0⟩),he.put hi hau hf rfl [] trivial ⟨qq,qq,qq,qq,qq,qq,qq,qq,qq,qq,qq,qq,qq,qq,qq,qq,qq,qq,qq,qq,qq,qq,qq,qq,qq,qq,qq,trivial⟩,?_⟩
        try dsimp only
        rw [updE_self E 21,updE_fls 21 e23 rfl]
        exact hc
       ·intro E θ a w hD hi hp he hc
        have e9 := hp.of (k := 9) rfl
        have e20 := hp.of (k := 20) rfl
        try dsimp only at hc
        rw [e20,hi] at hc
        have hf := he.h0
        replace hf := hf.more he 14 rfl (onP e9)
        replace hf := hf.more he 25 rfl (onP e20)
        refine stSt (vs := [.int .i64 r_3.N,.int .i64 r_3.D]) hf hc rfl rfl rfl rfl sz_37 rfl rfl u1 fun w hc => cNil ?_
        refine xThenN ?_
        intro ds u hau
        refine ⟨θ,he.stay0 hi hau hf rfl,?_⟩
        try dsimp only
        rw [updE_tru 22 e20,updE_self E 22]
        exact hc
       ·intro E θ a w hD hi hp he hc
        have e19 := hp.of (k := 19) rfl
        have e21 := hp.of (k := 21) rfl
        try dsimp only at hc
        rw [e21,hi] at hc
        have hf := he.h0
        replace hf := hf.more he 24 rfl (onP e19)
        replace hf := hf.more he 26 rfl (onP e21)
        refine stSt (vs := [.int .i64 r_4.N,.int .i64 r_4.D]) hf hc rfl rfl rfl rfl sz_37 rfl rfl u0 fun w hc => cNil ?_
        refine xThenN ?_
        intro ds u hau
        refine ⟨θ,he.stay0 hi hau hf rfl,?_⟩
        try dsimp only
        rw [updE_tru 23 e21,updE_self E 23]
        exact hc
       ·intro E θ a w hall he hc
        have hf := he.h0
        have e20 := hall 20 rfl
        have e21 := hall 21 rfl
        have e22 := hall 22 rfl
        have e23 := hall 23 rfl
        replace hf := hf.more he 26 rfl (onP e21)
        replace hf := hf.more he 25 rfl (onP e20)
        replace hf := hf.more he 2 rfl (onT)
        try dsimp only at hc
        rw [e20,e21,e22,e23] at hc
        exact ⟨(θ 160).b,(θ 168).b,hf.keep ⟨rfl,rfl,rfl,trivial⟩,hc⟩
       rintro a w ⟨b_8,b_9,hf,hc⟩
       refine h36 _ _ ?_
       refine wp_seq_k fun K37 h37 => ?_
       obtain ⟨un,hun,hF⟩ := bnd_some hF
       obtain ⟨un_1,hun_1,hF⟩ := bnd_some hF
       refine regionE (fun θ => [⟨none,none,8,.pointer (some ⟨b_2,0,none⟩)⟩,⟨none,none,21,.pointer (some ⟨b_8,0,none⟩)⟩,⟨none,none,22,.pointer (some ⟨b_9,0,none⟩)⟩,⟨some 0,none,115,.pointer (some ⟨b_8,0,none⟩)⟩,⟨some 1,none,116,.int .i64 r_3.N⟩,⟨some 2,none,117,.pointer (some ⟨b_8,1,none⟩)⟩,⟨some 3,none,118,.int .i64 r_3.D⟩,⟨some 4,none,119,.int .i64 (W (r_3.N.tdiv r_3.D))⟩,⟨some 5,none,120,.pointer (some ⟨b_9,0,none⟩)⟩,⟨some 6,none,121,.int .i64 r_4.N⟩,⟨some 7,none,122,.pointer (some ⟨b_9,1,none⟩)⟩,⟨some 8,none,123,.int .i64 r_4.D⟩,⟨some 9,none,124,.int .i64 (W (r_4.N + r_4.D))⟩,⟨some 10,none,125,.int .i64 (W ((W (r_4.N + r_4.D)) - 1))⟩,⟨some 11,none,126,.pointer (some ⟨b_9,1,none⟩)⟩,⟨some 12,none,127,.int .i64 r_4.D⟩,⟨some 13,none,128,.int .i64 (W ((W ((W (r_4.N + r_4.D)) - 1)).tdiv r_4.D))⟩,⟨some 14,none,129,.agg #[.int .i64 (W (r_3.N.tdiv r_3.D)),.int .i64 (W ((W ((W (r_4.N + r_4.D)) - 1)).tdiv r_4.D))]⟩,⟨some 16,none,9,.int .i64 0⟩]) (fun E θ => .box b_9 [.int .i64 r_4.N,.int .i64 r_4.D] 37::.box b_8 [.int .i64 r_3.N,.int .i64 r_3.D] 37::.row p_2 c_2 (l.map enc_api_Span) 50 2::.row (some ⟨g,0,none⟩) c_3 (r_2.1.map enc_api_Span) 50 2::.im mb_1 (fun j => (mp_2 j).map (Value.int .i64)) none::(bif E 15 then .box b_2 [.int .i64 (W (r_3.N.tdiv r_3.D)),.int .i64 (W ((W ((W (r_4.N + r_4.D)) - 1)).tdiv r_4.D))] 50 else .box b_2 [.int .i64 0,.int .i64 0] 50)::.box b_1 [.slice r_Rating_p r.Rating.length r_Rating_c,.slice r_Gaugings_p r.Gaugings.length r_Gaugings_c] 25::Lf) [] (fun a w => Has 130 a [(8,.pointer (some ⟨b_2,0,none⟩)),(9,.int .i64 0)] ∧ Ctx G (.box b_9 [.int .i64 r_4.N,.int .i64 r_4.D] 37::.box b_8 [.int .i64 r_3.N,.int .i64 r_3.D] 37::.row p_2 c_2 (l.map enc_api_Span) 50 2::.row (some ⟨g,0,none⟩) c_3 (r_2.1.map enc_api_Span) 50 2::.im mb_1 (fun j => (mp_2 j).map (Value.int .i64)) none::.box b_2 [.int .i64 (W (r_3.N.tdiv r_3.D)),.int .i64 (W ((W ((W (r_4.N + r_4.D)) - 1)).tdiv r_4.D))] 50::.box b_1 [.slice r_Rating_p r.Rating.length r_Rating_c,.slice r_Gaugings_p r.Gaugings.length r_Gaugings_c] 25::Lf) w) follows_mx (by kernel_rfl) (by kernel_rfl) (HasE.of hf ⟨rfl,rfl,rfl,trivial,trivial,trivial,trivial,trivial,trivial,trivial,trivial,trivial,trivial,trivial,trivial,trivial,trivial,trivial,trivial,trivial⟩) hc ⟨?_,?_,?_,?_,?_,?_,?_,?_,?_,?_,?_,?_,?_,?_,?_,?_,?_,trivial⟩ ?_ ?_
       ·intro E θ a w hD hi hp he hc
        have hf := he.h0
        replace hf := hf.more he 1 rfl onT
        refine stP hf rfl rfl rfl (pFA fa_37_0 rfl) fun a hf => cNil ?_
        refine xThenN ?_
        intro ds u hau
        refine ⟨θ,he.put0 hi hau hf rfl 3 rfl rfl,?_⟩
        exact hc
       ·intro E θ a w hD hi hp he hc
        have e0 := hp.of (k := 0) rfl
        have hf := he.h0
        replace hf := hf.more he 3 rfl (onP e0)
        refine stE hf hc rfl rfl rfl (eLd1 sc_3 rfl (cell_box m1 rfl)) fun a w hf hc => cNil ?_
        refine xThenN ?_
        intro ds u hau
        refine ⟨θ,he.put0 hi hau hf rfl 4 rfl rfl,?_⟩
        exact hc
       ·intro E θ a w hD hi hp he hc
        have hf := he.h0
        replace hf := hf.more he 1 rfl onT
        refine stP hf rfl rfl rfl (pFA fa_37_1 rfl) fun a hf => cNil ?_
        refine xThenN ?_
        intro ds u hau
        refine ⟨θ,he.put0 hi hau hf rfl 5 rfl rfl,?_⟩
        exact hc
       ·intro E θ a w hD hi hp he hc
        have e2 := hp.of (k := 2) rfl
        have hf := he.h0
        replace hf := hf.more he 5 rfl (onP e2)
        refine stE hf hc rfl rfl rfl (eLd1 sc_3 rfl (cell_box m1 rfl)) fun a w hf hc => cNil ?_
        refine xThenN ?_
        intro ds u hau
        refine ⟨θ,he.put0 hi hau hf rfl 6 rfl rfl,?_⟩
        exact hc
       ·intro E θ a w hD hi hp he hc
        have e1 := hp.of (k := 1) rfl
        have e3 := hp.of (k := 3) rfl
        have hf := he.h0
        replace hf := hf.more he 4 rfl (onP e1)
        replace hf := hf.more he 6 rfl (onP e3)
        refine stP hf rfl rfl rfl (pQuo rfl rfl (nz_spec hun)) fun a hf => cNil ?_
        refine xThenN ?_
        intro ds u hau
        refine ⟨θ,he.put0 hi hau hf rfl 7 rfl rfl,?_⟩
        exact hc
       ·intro E θ a w hD hi hp he hc
        have hf := he.h0
        replace hf := hf.more he 2 rfl onT
        refine stP hf rfl rfl rfl (pFA fa_37_0 rfl) fun a hf => cNil ?_
        refine xThenN ?_
        intro ds u hau
        refine ⟨θ,he.put0 hi hau hf rfl 8 rfl rfl,?_⟩
        exact hc
       ·intro E θ a w hD hi hp he hc
        have e5 := hp.of (k := 5) rfl
        have hf := he.h0
        replace hf := hf.more he 8 rfl (onP e5)
        refine stE hf hc rfl rfl rfl (eLd1 sc_3 rfl (cell_box m0 rfl)) fun a w hf hc => cNil ?_
        refine xThenN ?_
        intro ds u hau
        refine ⟨θ,he.put0 hi hau hf rfl 9 rfl rfl,?_⟩
        exact hc
       ·intro E θ a w hD hi hp he hc
        have hf := he.h0
        replace hf := hf.more he 2 rfl onT
        refine stP hf rfl rfl rfl (pFA fa_37_1 rfl) fun a hf => cNil ?_
        refine xThenN ?_
        intro ds u hau
        refine ⟨θ,he.put0 hi hau hf rfl 10 rfl rfl,?_⟩
        exact hc
       ·intro E θ a w hD hi hp he hc
        have e7 := hp.of (k := 7) rfl
        have hf := he.h0
        replace hf := hf.more he 10 rfl (onP e7)
        refine stE hf hc rfl rfl rfl (eLd1 sc_3 rfl (cell_box m0 rfl)) fun a w hf hc => cNil ?_
        refine xThenN ?_
        intro ds u hau
        refine ⟨θ,he.put0 hi hau hf rfl 11 rfl rfl,?_⟩
        exact hc
       ·intro E θ a w hD hi hp he hc
        have e6 := hp.of (k := 6) rfl
        have e8 := hp.of (k := 8) rfl
        have hf := he.h0
        replace hf := hf.more he 9 rfl (onP e6)
        replace hf := hf.more he 11 rfl (onP e8)
        refine stP hf rfl rfl rfl (pAdd rfl rfl) fun a hf => cNil ?_
        refine xThenN ?_
        intro ds u hau
        refine ⟨θ,he.put0 hi hau hf rfl 12 rfl rfl,?_⟩
        exact hc
       ·intro E θ a w hD hi hp he hc
        have e9 := hp.of (k := 9) rfl
        have hf := he.h0
        replace hf := hf.more he 12 rfl (onP e9)
        refine stP hf rfl rfl rfl (pSub rfl rfl) fun a hf => cNil ?_
        refine xThenN ?_
        intro ds u hau
        refine ⟨θ,he.put0 hi hau hf rfl 13 rfl rfl,?_⟩
        exact hc
       ·intro E θ a w hD hi hp he hc
        have hf := he.h0
        replace hf := hf.more he 2 rfl onT
        refine stP hf rfl rfl rfl (pFA fa_37_1 rfl) fun a hf => cNil ?_
        refine xThenN ?_
        intro ds u hau
        refine ⟨θ,he.put0 hi hau hf rfl 14 rfl rfl,?_⟩
        exact hc
       ·intro E θ a w hD hi hp he hc
        have e11 := hp.of (k := 11) rfl
        have hf := he.h0
        replace hf := hf.more he 14 rfl (onP e11)
        refine stE hf hc rfl rfl rfl (eLd1 sc_3 rfl (cell_box m0 rfl)) fun a w hf hc => cNil ?_
        refine xThenN ?_
        intro ds u hau
        refine ⟨θ,he.put0 hi hau hf rfl 15 rfl rfl,?_⟩
        exact hc
       ·intro E θ a w hD hi hp he hc
        have e10 := hp.of (k := 10) rfl
        have e12 := hp.of (k := 12) rfl
        have hf := he.h0
        replace hf := hf.more he 13 rfl (onP e10)
        replace hf := hf.more he 15 rfl (onP e12)
        refine stP hf rfl rfl rfl (pQuo rfl rfl (nz_spec hun_1)) fun a hf => cNil ?_
        refine xThenN ?_
        intro ds u hau
        refine ⟨θ,he.put0 hi hau hf rfl 16 rfl rfl,?_⟩
        exact hc
       ·intro E θ a w hD hi hp he hc
        have e4 := hp.of (k := 4) rfl
        have e13 := hp.of (k := 13) rfl
        have hf := he.h0
        replace hf := hf.more he 7 rfl (onP e4)
        replace hf := hf.more he 16 rfl (onP e13)
        refine stP hf rfl rfl rfl (pBuildS (cells := [.int .i64 (W (r_3.N.tdiv r_3.D)),.int .i64 (W ((W ((W (r_4.N + r_4.D)) - 1)).tdiv r_4.D))]) bt_50 rfl rfl) fun a hf => cNil ?_
        refine xThenN ?_
        intro ds u hau
        refine ⟨θ,he.put0 hi hau hf rfl 17 rfl rfl,?_⟩
        exact hc
       ·intro E θ a w hD hi hp he hc
        have e14 := hp.of (k := 14) rfl
        try dsimp only at hc
        rw [hi] at hc
        have hf := he.h0
        replace hf := hf.more he 0 rfl onT
        replace hf := hf.more he 17 rfl (onP e14)
        refine stSt (vs := [.int .i64 (W (r_3.N.tdiv r_3.D)),.int .i64 (W ((W ((W (r_4.N + r_4.D)) - 1)).tdiv r_4.D))]) hf hc rfl rfl rfl rfl sz_50 rfl rfl u5 fun w hc => cNil ?_
        refine xThenN ?_
        intro ds u hau
        refine ⟨θ,he.stay0 hi hau hf rfl,?_⟩
        try dsimp only
        rw [updE_self E 15]
        exact hc
       ·intro E θ a w hD hi hp he hc
        have hf := he.h0
        refine stP hf rfl rfl rfl (pA rfl) fun a hf => cNil ?_
        refine xThenN ?_
        intro ds u hau
        refine ⟨θ,he.put0 hi hau hf rfl 18 rfl rfl,?_⟩
        exact hc
       ·intro E θ a w hall he hc
        have hf := he.h0
        have e15 := hall 15 rfl
        have e16 := hall 16 rfl
        replace hf := hf.more he 18 rfl (onP e16)
        replace hf := hf.more he 0 rfl (onT)
        try dsimp only at hc
        rw [e15] at hc
        exact ⟨hf.keep ⟨rfl,rfl,trivial⟩,hc⟩
       rintro a w ⟨hf,hc⟩
       refine h37 _ _ ?_
       refine wp_ret ?_
       obtain rfl := Option.some.inj hF
       replace hc := hc.drop k6
       replace hc := hc.drop k4
       replace hc := hc.drop k3
       replace hc := hc.drop k2
       replace hc := hc.drop k1
       replace hc := hc.drop k0
       exact fnOut2 (by simp) rfl Try.results29 hf hc (rv_cellN (vs := [.int .i64 (W (r_3.N.tdiv r_3.D)),.int .i64 (W ((W ((W (r_4.N + r_4.D)) - 1)).tdiv r_4.D))]) ag_50 rfl rfl (cells_box (n := 2) m0 rfl)) (show look _ 9 = _ from rfl) ⟨rfl,(hc.drop k0)⟩
     refine wp_seq_k fun K38 h38 => cReg ?_
     refine stP hf rfl rfl rfl (pM rfl) fun a hf => stP hf rfl rfl rfl (pM rfl) fun a hf => stE hf hc rfl rfl rfl (eLkOk (enc := (Value.int .i64)) (z0 := 0) (m := mp_2) m0 Try.underlying146 Try.underlying3 zr_3 rfl rfl) fun a w hf hc => stP hf rfl rfl rfl (pM rfl) fun a hf => stP hf rfl rfl rfl (pX rfl rfl) fun a hf => stP hf rfl rfl rfl (pX rfl rfl) fun a hf => stP hf rfl rfl rfl (pA rfl) fun a hf => stP hf rfl rfl rfl (pA rfl) fun a hf => cNil ?_
     refine h38 _ _ ?_
     refine wp_seq_k fun K39 h39 => cReg ?_
     refine stP hf rfl rfl rfl (pM rfl) fun a hf => stP hf rfl rfl rfl (pNot rfl) fun a hf => cNil ?_
     refine h39 _ _ ?_
     refine cCond (b := (!((mp_2 day).isSome))) hf rfl (fun hb => ?_) (fun hb => ?_)
     ·replace hF := condT hb hF
      clear hb
      refine cReg ?_
      refine stP hf rfl rfl rfl (pM rfl) fun a hf => ?_
      obtain ⟨r_5,hr_5,hF⟩ := bnd_some hF
      obtain ⟨G1,hle1,hrd1,hc,hth1⟩ := lend hc k1
      refine stC (vs := [.slice p_1 r_1.1.length c_1]) (caps := []) hf rfl rfl rfl en_79 rfl rfl rfl rfl (slices_Clone_Lapi_Span_api_Span_ok r_1.1 hrd1 hc hr_5) ?_
      rintro _ w ⟨p_4,c_4,rfl,hc⟩
      refine ⟨_,rfl,fun a hf => ?_⟩
      replace hc := hth1 _ _ hc
      refine stP hf rfl rfl rfl (pM rfl) fun a hf => stP hf rfl rfl rfl (pBuildS (cells := [.int .i64 (-300),.int .i64 300]) bt_50 rfl rfl) fun a hf => stBS (rows := ([(⟨(-300),300⟩ : api_Span)] : List api_Span).map enc_api_Span) (vs := [(0,.agg #[.int .i64 (-300),.int .i64 300])]) hf hc rfl rfl sl_44 rfl ⟨rfl,rfl,rfl,trivial⟩ rfl rfl fun b_10 a w hf hc => ?_
      obtain ⟨r_6,hr_6,hF⟩ := bnd_some hF
      refine stC (vs := [.slice p_4 r_5.length c_4,.int .i64 ahead_2,.slice (some ⟨b_10,0,none⟩) 1 1]) (caps := []) hf rfl rfl rfl en_78 rfl rfl rfl rfl (slices_Insert_Lapi_Span_api_Span_ok r_5 ahead_2 ([(⟨(-300),300⟩ : api_Span)] : List api_Span) ((hc.pick k0).pick k2) hr_6) ?_
      rintro _ w ⟨p_5,c_5,rfl,hc⟩
      refine ⟨_,rfl,fun a hf => ?_⟩
      refine stP hf rfl rfl rfl (pA rfl) fun a hf => cNil ?_
      replace hc := hc.drop k4
      replace hc := hc.drop k2
      replace hc := hc.drop k1
      exact hj31 r_6 p_5 c_5 _ _  (hf.keep ⟨rfl,rfl,rfl,rfl,rfl,rfl,trivial⟩) hc hF
     ·replace hF := condF hb hF
      clear hb
      refine wp_skip ?_
      replace hc := hc.drop k2
      replace hc := hc.pick k0
      replace hc := hc.pick k1
      exact hj31 r_1.1 p_1 c_1 _ _  (hf.keep ⟨rfl,rfl,rfl,rfl,rfl,rfl,trivial⟩) hc hF
    have ho29 : ∀ r,x29 = .out r → r = res := by
     rintro r rfl
     exact Option.some.inj hF
    refine cLoop N (loopW (S := S29) (x := x29) ?_ N (0,0,(fun _ => none : Int → Option Int)) _ _ ⟨hf.keep ⟨rfl,rfl,rfl,rfl,rfl,rfl,rfl,rfl,rfl,rfl,rfl,trivial⟩,hc⟩ hx29)
    clear hF hf hc
    rintro ⟨ahead_2,x_1,mp_2⟩ st29 a w KB29 ⟨hf,hc⟩ hF hfin29 hK29
    unfold shift_Between_b29 at hF
    refine wp_seq_k fun K40 h40 => cReg ?_
    refine stP hf rfl rfl rfl (pLt rfl rfl) fun a hf => cNil ?_
    refine h40 _ _ ?_
    refine wp_seq_k fun K41 h41 => cCond (b := (decide (x_1 < ((r.Gaugings.length : Nat) : Int)))) hf rfl (fun hb => ?_) (fun hb => ?_)
    ·replace hF := condT hb hF
     clear hb
     refine wp_skip ?_
     refine h41 _ _ ?_
     refine wp_seq_k fun K42 h42 => ?_
     have hj42 : ∀ (ahead_3 : Int) (mp_3 : Int → Option Int) a w,Has 130 a [(1,.int .i64 most),(2,.int .i64 day),(3,.int .i64 at_),(4,.pointer (some ⟨b_1,0,none⟩)),(8,.pointer (some ⟨b_2,0,none⟩)),(10,.pointer (some ⟨b_5,0,none⟩)),(12,.map (some mb_1)),(13,.int .i64 ahead_3),(50,.slice r_Gaugings_p r.Gaugings.length r_Gaugings_c),(51,.int .i64 ((r.Gaugings.length : Nat) : Int)),(52,.int .i64 x_1)] → Ctx G (.im mb_1 (fun j => (mp_3 j).map (Value.int .i64)) none::.row p_1 c_1 (r_1.1.map enc_api_Span) 50 2::.box b_5 [.slice r_Rating_p r.Rating.length r_Rating_c,.slice r_Gaugings_p r.Gaugings.length r_Gaugings_c,.slice p_1 r_1.1.length c_1] 140::.box b_2 [.int .i64 0,.int .i64 0] 50::.box b_1 [.slice r_Rating_p r.Rating.length r_Rating_c,.slice r_Gaugings_p r.Gaugings.length r_Gaugings_c] 25::Lf) w → shift_Between_j42 N x_1 ahead_3 mp_3 = some st29 → K42 a w := by
      repeat (clear hF)
      repeat (clear hc)
      repeat (clear hf)
      intro ahead_3 mp_3 a w hf hc hF
      unfold shift_Between_j42 at hF
      refine h42 _ _ ?_
      refine cReg ?_
      refine stP hf rfl rfl rfl (pAdd rfl rfl) fun a hf => stP hf rfl rfl rfl (pM rfl) fun a hf => cNil ?_
      exact hK29 (ahead_3,W (x_1 + 1),mp_3) _ _ (Option.some.inj hF).symm ⟨hf.keep ⟨rfl,rfl,rfl,rfl,rfl,rfl,rfl,rfl,rfl,rfl,rfl,trivial⟩,hc⟩
     refine wp_block ?_
     refine wp_seq_k fun K43 h43 => cReg ?_
     refine stP hf rfl rfl rfl (pM rfl) fun a hf => ?_
     obtain ⟨e_4,he_4,hF⟩ := bnd_some hF
     obtain ⟨b_11,o_1,qa_3,qp_1⟩ := h_r_Gaugings.atm he_4
     refine stP hf rfl rfl rfl (pIA Try.underlying23 sz_71 rfl rfl qa_3) fun a hf => stE hf hc rfl rfl rfl (eLdN (vs := [.int .i64 e_4.Day,.int .i64 e_4.Stage,.int .i64 e_4.Flow.Lo,.int .i64 e_4.Flow.Hi]) ag_71 rfl rfl (cells_pc qp_1 (n := 4) (o' := 0) rfl)) fun a w hf hc => stAl (cs := [.int .i64 0,.int .i64 0,.int .i64 0,.int .i64 0]) hf hc rfl rfl zr_71 rfl fun b_12 a w hf hc => stP hf rfl rfl rfl (pA rfl) fun a hf => stSt (vs := [.int .i64 e_4.Day,.int .i64 e_4.Stage,.int .i64 e_4.Flow.Lo,.int .i64 e_4.Flow.Hi]) hf hc rfl rfl rfl rfl sz_71 rfl rfl u0 fun w hc => cNil ?_
     refine h43 _ _ ?_
     refine wp_seq_k fun K44 h44 => cReg ?_
     refine stP hf rfl rfl rfl (pM rfl) fun a hf => stP hf rfl rfl rfl (pFA fa_71_0 rfl) fun a hf => stE hf hc rfl rfl rfl (eLd1 sc_3 rfl (cell_box m0 rfl)) fun a w hf hc => stP hf rfl rfl rfl (pM rfl) fun a hf => stMU (enc := (Value.int .i64)) (m := mp_2) (v := x_1) hf hc rfl Try.underlying146 Try.underlying3 rfl rfl rfl u1 fun w hc => cNil ?_
     refine h44 _ _ ?_
     refine wp_seq_k fun K45 h45 => cReg ?_
     refine stP hf rfl rfl rfl (pFA fa_71_0 rfl) fun a hf => stE hf hc rfl rfl rfl (eLd1 sc_3 rfl (cell_box m0 rfl)) fun a w hf hc => stP hf rfl rfl rfl (pM rfl) fun a hf => stP hf rfl rfl rfl (pLt rfl rfl) fun a hf => cNil ?_
     refine h45 _ _ ?_
     refine cCond (b := (decide (e_4.Day < day))) hf rfl (fun hb => ?_) (fun hb => ?_)
     ·replace hF := condT hb hF
      clear hb
      refine cReg ?_
      refine stP hf rfl rfl rfl (pM rfl) fun a hf => stP hf rfl rfl rfl (pAdd rfl rfl) fun a hf => stP hf rfl rfl rfl (pA rfl) fun a hf => cNil ?_
      replace hc := hc.drop k0
      exact hj42 (W (x_1 + 1)) (setM mp_2 e_4.Day x_1) _ _  (hf.keep ⟨rfl,rfl,rfl,rfl,rfl,rfl,rfl,rfl,rfl,rfl,rfl,trivial⟩) hc hF
     ·replace hF := condF hb hF
      clear hb
      refine wp_skip ?_
      replace hc := hc.drop k0
      exact hj42 ahead_2 (setM mp_2 e_4.Day x_1) _ _  (hf.keep ⟨rfl,rfl,rfl,rfl,rfl,rfl,rfl,rfl,rfl,rfl,rfl,trivial⟩) hc hF
    ·replace hF := condF hb hF
     clear hb
     refine wp_exit ?_
     refine xThen ?_
     refine xThen ?_
     have he := Option.some.inj hF
     rw [← he] at hfin29
     refine cHit ?_
     exact hr29 _ _ _ hfin29 ⟨hf.keep ⟨rfl,rfl,rfl,rfl,rfl,rfl,rfl,rfl,rfl,rfl,rfl,trivial⟩,hc⟩

def kit_Same_api_Span_b7 (N : Nat) (a_ : List api_Span) (b_ : List api_Span) (i_1 : Int) : Option (Step (Int) (Bool)) :=
 cond (decide (i_1 < ((a_.length : Nat) : Int)))
 (Option.bind (getI a_ i_1) fun e_1 =>
 Option.bind (getI b_ i_1) fun e_2 =>
 cond (!(e_1.Lo == e_2.Lo && e_1.Hi == e_2.Hi))
 (some (.ret false))
 (some (.cont (W (i_1 + 1)))))
 (some (.brk i_1))
def kit_Same_api_Span (N : Nat) (a_ : List api_Span) (b_ : List api_Span) : Option (Bool) :=
 cond (((a_.length : Nat) : Int) != ((b_.length : Nat) : Int))
 (some false)
 (Option.bind (loopO (fun s7 => kit_Same_api_Span_b7 N a_ b_ s7) N 0) fun x7 =>
 exK x7 (fun s7 => some true) some)
theorem kit_Same_api_Span_ok {N : Nat} {G : Pers} {Lf : List Ent} {w : World} (a_ : List api_Span) (b_ : List api_Span) {a__p : Option Addr} {a__c : Nat} {b__p : Option Addr} {b__c : Nat} (h_a_ : Rd G 2 a__p a__c (a_.map enc_api_Span)) (h_b_ : Rd G 2 b__p b__c (b_.map enc_api_Span)) (hc : Ctx G (Lf) w) {res : Bool} (hF : kit_Same_api_Span N a_ b_ = some res) : Calls Try.prog 24 #[.slice a__p a_.length a__c,.slice b__p b_.length b__c] w (fun e w => e = .returned (.bool res) ∧ Ctx G (Lf) w) := by
 unfold kit_Same_api_Span at hF
 refine fnIn (args := [.slice a__p a_.length a__c,.slice b__p b_.length b__c]) Try.func24 rfl Try.ntmps24 rfl fun a hf => wp_seq_k fun K1 h1 => cReg ?_
 refine stP hf rfl rfl rfl (pA rfl) fun a hf => cNil ?_
 refine h1 _ _ ?_
 refine wp_seq_k fun K2 h2 => wp_seq_k fun K3 h3 => cReg ?_
 refine stP hf rfl rfl rfl (pM rfl) fun a hf => stP hf rfl rfl rfl (pLenS Try.underlying44 rfl) fun a hf => stP hf rfl rfl rfl (pM rfl) fun a hf => stP hf rfl rfl rfl (pLenS Try.underlying44 rfl) fun a hf => stP hf rfl rfl rfl (pNe rfl rfl) fun a hf => cNil ?_
 refine h3 _ _ ?_
 refine cCond (b := (((a_.length : Nat) : Int) != ((b_.length : Nat) : Int))) hf rfl (fun hb => ?_) (fun hb => ?_)
 ·replace hF := condT hb hF
  clear hb
  refine wp_seq_k fun K4 h4 => cReg ?_
  refine stP hf rfl rfl rfl (pA rfl) fun a hf => cNil ?_
  refine h4 _ _ ?_
  refine wp_ret ?_
  refine xThenR ?_
  obtain rfl := Option.some.inj hF
  exact fnOut1 (by simp) rfl Try.results24 hf hc (show look _ 4 = _ from rfl) ⟨rfl,hc⟩
 ·replace hF := condF hb hF
  clear hb
  refine wp_skip ?_
  refine h2 _ _ ?_
  refine wp_seq_k fun K5 h5 => wp_seq_k fun K6 h6 => cReg ?_
  refine stP hf rfl rfl rfl (pA rfl) fun a hf => cNil ?_
  refine h6 _ _ ?_
  refine wp_block ?_
  obtain ⟨x7,hx7,hF⟩ := bnd_some hF
  let S7 : Int → Act → World → Prop := (fun (zz : Int) a w => Has 26 a [(0,.slice a__p a_.length a__c),(1,.slice b__p b_.length b__c),(5,.int .i64 zz)] ∧ Ctx G (Lf) w)
  have hr7 : ∀ (zz : Int) a w,x7 = .go zz → S7 zz a w → K5 a w := by
   rintro i_1 a w rfl ⟨hf,hc⟩
   replace hF := exK_go hF
   refine h5 _ _ ?_
   refine wp_seq_k fun K8 h8 => cReg ?_
   refine stP hf rfl rfl rfl (pA rfl) fun a hf => cNil ?_
   refine h8 _ _ ?_
   refine wp_ret ?_
   obtain rfl := Option.some.inj hF
   exact fnOut1 (by simp) rfl Try.results24 hf hc (show look _ 4 = _ from rfl) ⟨rfl,hc⟩
  have ho7 : ∀ r,x7 = .out r → r = res := by
   rintro r rfl
   exact Option.some.inj hF
  refine cLoop N (loopW (S := S7) (x := x7) ?_ N 0 _ _ ⟨hf.keep ⟨rfl,rfl,rfl,trivial⟩,hc⟩ hx7)
  clear hF hf hc
  rintro i_1 st7 a w KB7 ⟨hf,hc⟩ hF hfin7 hK7
  unfold kit_Same_api_Span_b7 at hF
  refine wp_seq_k fun K9 h9 => wp_seq_k fun K10 h10 => cReg ?_
  refine stP hf rfl rfl rfl (pM rfl) fun a hf => stP hf rfl rfl rfl (pM rfl) fun a hf => stP hf rfl rfl rfl (pLenS Try.underlying44 rfl) fun a hf => stP hf rfl rfl rfl (pLt rfl rfl) fun a hf => cNil ?_
  refine h10 _ _ ?_
  refine cCond (b := (decide (i_1 < ((a_.length : Nat) : Int)))) hf rfl (fun hb => ?_) (fun hb => ?_)
  ·replace hF := condT hb hF
   clear hb
   refine wp_skip ?_
   refine h9 _ _ ?_
   refine wp_seq_k fun K11 h11 => wp_block ?_
   refine wp_seq_k fun K12 h12 => ?_
   obtain ⟨e_1,he_1,hF⟩ := bnd_some hF
   obtain ⟨b_1,o,qa,qp⟩ := h_a_.atm he_1
   obtain ⟨e_2,he_2,hF⟩ := bnd_some hF
   obtain ⟨b_2,o_1,qa_1,qp_1⟩ := h_b_.atm he_2
   refine cQ hc follows_mx (by kernel_rfl) ?_
   refine qE hf rfl rfl rfl (Pu.ev (pM rfl)) fun a hf => qE hf rfl rfl rfl (Pu.ev (pM rfl)) fun a hf => qE hf rfl rfl rfl (Pu.ev (pIA Try.underlying44 sz_50 rfl rfl qa)) fun a hf => qE hf rfl rfl rfl (eLdN (vs := [.int .i64 e_1.Lo,.int .i64 e_1.Hi]) ag_50 rfl rfl (cells_pc qp (n := 2) (o' := 0) rfl)) fun a hf => qE hf rfl rfl rfl (Pu.ev (pM rfl)) fun a hf => qE hf rfl rfl rfl (Pu.ev (pM rfl)) fun a hf => qE hf rfl rfl rfl (Pu.ev (pIA Try.underlying44 sz_50 rfl rfl qa_1)) fun a hf => qE hf rfl rfl rfl (eLdN (vs := [.int .i64 e_2.Lo,.int .i64 e_2.Hi]) ag_50 rfl rfl (cells_pc qp_1 (n := 2) (o' := 0) rfl)) fun a hf => qE hf rfl rfl rfl (Pu.ev (pNeA ge_50 rfl rfl (eqs_50 _ _ _ _))) fun a hf => ?_
   intro w hc
   refine h12 _ _ ?_
   refine cCond (b := (!(e_1.Lo == e_2.Lo && e_1.Hi == e_2.Hi))) hf rfl (fun hb => ?_) (fun hb => ?_)
   ·replace hF := condT hb hF
    clear hb
    refine wp_seq_k fun K13 h13 => cReg ?_
    refine stP hf rfl rfl rfl (pA rfl) fun a hf => cNil ?_
    refine h13 _ _ ?_
    refine wp_ret ?_
    refine xBlkR ?_
    refine xThenR ?_
    refine xThenR ?_
    have he := Option.some.inj hF
    rw [← he] at hfin7
    replace hF := ho7 _ hfin7
    refine xBlkR ?_
    refine xThenR ?_
    obtain rfl := hF
    exact fnOut1 (by simp) rfl Try.results24 hf hc (show look _ 4 = _ from rfl) ⟨rfl,hc⟩
   ·replace hF := condF hb hF
    clear hb
    refine wp_skip ?_
    refine h11 _ _ ?_
    refine cReg ?_
    refine stP hf rfl rfl rfl (pM rfl) fun a hf => stP hf rfl rfl rfl (pAdd rfl rfl) fun a hf => stP hf rfl rfl rfl (pA rfl) fun a hf => cNil ?_
    exact hK7 (W (i_1 + 1)) _ _ (Option.some.inj hF).symm ⟨hf.keep ⟨rfl,rfl,rfl,trivial⟩,hc⟩
  ·replace hF := condF hb hF
   clear hb
   refine wp_exit ?_
   refine xThen ?_
   refine xThen ?_
   have he := Option.some.inj hF
   rw [← he] at hfin7
   refine cHit ?_
   exact hr7 _ _ _ hfin7 ⟨hf.keep ⟨rfl,rfl,rfl,trivial⟩,hc⟩

def kit_Same_int_b7 (N : Nat) (a_ : List Int) (b_ : List Int) (i_1 : Int) : Option (Step (Int) (Bool)) :=
 cond (decide (i_1 < ((a_.length : Nat) : Int)))
 (Option.bind (getI a_ i_1) fun e_1 =>
 Option.bind (getI b_ i_1) fun e_2 =>
 cond (e_1 != e_2)
 (some (.ret false))
 (some (.cont (W (i_1 + 1)))))
 (some (.brk i_1))
def kit_Same_int (N : Nat) (a_ : List Int) (b_ : List Int) : Option (Bool) :=
 cond (((a_.length : Nat) : Int) != ((b_.length : Nat) : Int))
 (some false)
 (Option.bind (loopO (fun s7 => kit_Same_int_b7 N a_ b_ s7) N 0) fun x7 =>
 exK x7 (fun s7 => some true) some)
theorem kit_Same_int_ok {N : Nat} {G : Pers} {Lf : List Ent} {w : World} (a_ : List Int) (b_ : List Int) {a__p : Option Addr} {a__c : Nat} {b__p : Option Addr} {b__c : Nat} (h_a_ : Rd G 1 a__p a__c (a_.map encI_i64)) (h_b_ : Rd G 1 b__p b__c (b_.map encI_i64)) (hc : Ctx G (Lf) w) {res : Bool} (hF : kit_Same_int N a_ b_ = some res) : Calls Try.prog 56 #[.slice a__p a_.length a__c,.slice b__p b_.length b__c] w (fun e w => e = .returned (.bool res) ∧ Ctx G (Lf) w) := by
 unfold kit_Same_int at hF
 refine fnIn (args := [.slice a__p a_.length a__c,.slice b__p b_.length b__c]) Try.func56 rfl Try.ntmps56 rfl fun a hf => wp_seq_k fun K1 h1 => cReg ?_
 refine stP hf rfl rfl rfl (pA rfl) fun a hf => cNil ?_
 refine h1 _ _ ?_
 refine wp_seq_k fun K2 h2 => wp_seq_k fun K3 h3 => cReg ?_
 refine stP hf rfl rfl rfl (pM rfl) fun a hf => stP hf rfl rfl rfl (pLenS Try.underlying61 rfl) fun a hf => stP hf rfl rfl rfl (pM rfl) fun a hf => stP hf rfl rfl rfl (pLenS Try.underlying61 rfl) fun a hf => stP hf rfl rfl rfl (pNe rfl rfl) fun a hf => cNil ?_
 refine h3 _ _ ?_
 refine cCond (b := (((a_.length : Nat) : Int) != ((b_.length : Nat) : Int))) hf rfl (fun hb => ?_) (fun hb => ?_)
 ·replace hF := condT hb hF
  clear hb
  refine wp_seq_k fun K4 h4 => cReg ?_
  refine stP hf rfl rfl rfl (pA rfl) fun a hf => cNil ?_
  refine h4 _ _ ?_
  refine wp_ret ?_
  refine xThenR ?_
  obtain rfl := Option.some.inj hF
  exact fnOut1 (by simp) rfl Try.results56 hf hc (show look _ 4 = _ from rfl) ⟨rfl,hc⟩
 ·replace hF := condF hb hF
  clear hb
  refine wp_skip ?_
  refine h2 _ _ ?_
  refine wp_seq_k fun K5 h5 => wp_seq_k fun K6 h6 => cReg ?_
  refine stP hf rfl rfl rfl (pA rfl) fun a hf => cNil ?_
  refine h6 _ _ ?_
  refine wp_block ?_
  obtain ⟨x7,hx7,hF⟩ := bnd_some hF
  let S7 : Int → Act → World → Prop := (fun (zz : Int) a w => Has 26 a [(0,.slice a__p a_.length a__c),(1,.slice b__p b_.length b__c),(5,.int .i64 zz)] ∧ Ctx G (Lf) w)
  have hr7 : ∀ (zz : Int) a w,x7 = .go zz → S7 zz a w → K5 a w := by
   rintro i_1 a w rfl ⟨hf,hc⟩
   replace hF := exK_go hF
   refine h5 _ _ ?_
   refine wp_seq_k fun K8 h8 => cReg ?_
   refine stP hf rfl rfl rfl (pA rfl) fun a hf => cNil ?_
   refine h8 _ _ ?_
   refine wp_ret ?_
   obtain rfl := Option.some.inj hF
   exact fnOut1 (by simp) rfl Try.results56 hf hc (show look _ 4 = _ from rfl) ⟨rfl,hc⟩
  have ho7 : ∀ r,x7 = .out r → r = res := by
   rintro r rfl
   exact Option.some.inj hF
  refine cLoop N (loopW (S := S7) (x := x7) ?_ N 0 _ _ ⟨hf.keep ⟨rfl,rfl,rfl,trivial⟩,hc⟩ hx7)
  clear hF hf hc
  rintro i_1 st7 a w KB7 ⟨hf,hc⟩ hF hfin7 hK7
  unfold kit_Same_int_b7 at hF
  refine wp_seq_k fun K9 h9 => wp_seq_k fun K10 h10 => cReg ?_
  refine stP hf rfl rfl rfl (pM rfl) fun a hf => stP hf rfl rfl rfl (pM rfl) fun a hf => stP hf rfl rfl rfl (pLenS Try.underlying61 rfl) fun a hf => stP hf rfl rfl rfl (pLt rfl rfl) fun a hf => cNil ?_
  refine h10 _ _ ?_
  refine cCond (b := (decide (i_1 < ((a_.length : Nat) : Int)))) hf rfl (fun hb => ?_) (fun hb => ?_)
  ·replace hF := condT hb hF
   clear hb
   refine wp_skip ?_
   refine h9 _ _ ?_
   refine wp_seq_k fun K11 h11 => wp_block ?_
   refine wp_seq_k fun K12 h12 => ?_
   obtain ⟨e_1,he_1,hF⟩ := bnd_some hF
   obtain ⟨b_1,o,qa,qp⟩ := h_a_.atm he_1
   obtain ⟨e_2,he_2,hF⟩ := bnd_some hF
   obtain ⟨b_2,o_1,qa_1,qp_1⟩ := h_b_.atm he_2
   refine cQ hc follows_mx (by kernel_rfl) ?_
   refine qE hf rfl rfl rfl (Pu.ev (pM rfl)) fun a hf => qE hf rfl rfl rfl (Pu.ev (pM rfl)) fun a hf => qE hf rfl rfl rfl (Pu.ev (pIA Try.underlying61 sz_3 rfl rfl qa)) fun a hf => qE hf rfl rfl rfl (eLd1 sc_3 rfl (cell_pc (j := 0) qp rfl)) fun a hf => qE hf rfl rfl rfl (Pu.ev (pM rfl)) fun a hf => qE hf rfl rfl rfl (Pu.ev (pM rfl)) fun a hf => qE hf rfl rfl rfl (Pu.ev (pIA Try.underlying61 sz_3 rfl rfl qa_1)) fun a hf => qE hf rfl rfl rfl (eLd1 sc_3 rfl (cell_pc (j := 0) qp_1 rfl)) fun a hf => qE hf rfl rfl rfl (Pu.ev (pNe rfl rfl)) fun a hf => ?_
   intro w hc
   refine h12 _ _ ?_
   refine cCond (b := (e_1 != e_2)) hf rfl (fun hb => ?_) (fun hb => ?_)
   ·replace hF := condT hb hF
    clear hb
    refine wp_seq_k fun K13 h13 => cReg ?_
    refine stP hf rfl rfl rfl (pA rfl) fun a hf => cNil ?_
    refine h13 _ _ ?_
    refine wp_ret ?_
    refine xBlkR ?_
    refine xThenR ?_
    refine xThenR ?_
    have he := Option.some.inj hF
    rw [← he] at hfin7
    replace hF := ho7 _ hfin7
    refine xBlkR ?_
    refine xThenR ?_
    obtain rfl := hF
    exact fnOut1 (by simp) rfl Try.results56 hf hc (show look _ 4 = _ from rfl) ⟨rfl,hc⟩
   ·replace hF := condF hb hF
    clear hb
    refine wp_skip ?_
    refine h11 _ _ ?_
    refine cReg ?_
    refine stP hf rfl rfl rfl (pM rfl) fun a hf => stP hf rfl rfl rfl (pAdd rfl rfl) fun a hf => stP hf rfl rfl rfl (pA rfl) fun a hf => cNil ?_
    exact hK7 (W (i_1 + 1)) _ _ (Option.some.inj hF).symm ⟨hf.keep ⟨rfl,rfl,rfl,trivial⟩,hc⟩
  ·replace hF := condF hb hF
   clear hb
   refine wp_exit ?_
   refine xThen ?_
   refine xThen ?_
   have he := Option.some.inj hF
   rw [← he] at hfin7
   refine cHit ?_
   exact hr7 _ _ _ hfin7 ⟨hf.keep ⟨rfl,rfl,rfl,trivial⟩,hc⟩

def law05_awake (N : Nat)  : Option (Bool) :=
 Option.bind (law05_Three N) fun r =>
 Option.bind (shift_Means N r.Rating 13 8) fun r_1 =>
 Option.bind (shift_Means N r.Rating 25 6) fun r_2 =>
 Option.bind (shift_Rising N r.Rating 10 0 4 25) fun r_3 =>
 Option.bind (shift_Rising N r.Rating 10 0 (-50) 25) fun r_4 =>
 cond ((((((((r_1.2 != 0) || (r_2.2 != 0)) || (r_3.2 != 0)) || (r_4.2 != 0)) || (!(r_1.1.N == 50 && r_1.1.D == 1))) || (!(r_2.1.N == 370 && r_2.1.D == 1))) || (!(r_3.1.N == 110 && r_3.1.D == 1))) || (!(r_4.1.N == 0 && r_4.1.D == 1)))
 (some false)
 (Option.bind (shift_Passes N r) fun r_5 =>
 Option.bind (shift_Least N r) fun r_6 =>
 Option.bind (shift_Proves N r ([(⟨0,false⟩ : shift_Turn),(⟨1,true⟩ : shift_Turn),(⟨2,false⟩ : shift_Turn)] : List shift_Turn)) fun r_7 =>
 Option.bind (shift_Can N r 6) fun r_8 =>
 Option.bind (shift_Between N r 6 3 13) fun r_9 =>
 Option.bind (cond (((((r_5.2 == 0) && (r_6.2.2 == 0)) && (r_7.2 == 0)) && (r_8.2 == 0)) && (r_9.2 == 0)) (kit_Same_api_Span N r_5.1 ([(⟨2,4⟩ : api_Span),(⟨0,0⟩ : api_Span),(⟨3,8⟩ : api_Span)] : List api_Span)) (some false)) fun r_10 =>
 Option.bind (cond ((((((r_5.2 == 0) && (r_6.2.2 == 0)) && (r_7.2 == 0)) && (r_8.2 == 0)) && (r_9.2 == 0)) && r_10) (kit_Same_int N r_6.1 ([2,0,3] : List Int)) (some false)) fun r_11 =>
 Option.bind (cond (((((((((r_5.2 == 0) && (r_6.2.2 == 0)) && (r_7.2 == 0)) && (r_8.2 == 0)) && (r_9.2 == 0)) && r_10) && r_11) && (r_6.2.1 == 5)) && (r_7.1 == 5)) (kit_Same_api_Span N r_8.1 ([(⟨2,3⟩ : api_Span),(⟨0,0⟩ : api_Span),(⟨3,4⟩ : api_Span)] : List api_Span)) (some false)) fun r_12 =>
 Option.bind (cond ((((((((((r_5.2 == 0) && (r_6.2.2 == 0)) && (r_7.2 == 0)) && (r_8.2 == 0)) && (r_9.2 == 0)) && r_10) && r_11) && (r_6.2.1 == 5)) && (r_7.1 == 5)) && r_12) (law05_span N 100 190) (some (⟨0,0⟩ : api_Span))) fun r_13 =>
 some (((((((((((r_5.2 == 0) && (r_6.2.2 == 0)) && (r_7.2 == 0)) && (r_8.2 == 0)) && (r_9.2 == 0)) && r_10) && r_11) && (r_6.2.1 == 5)) && (r_7.1 == 5)) && r_12) && (r_9.1.Lo == r_13.Lo && r_9.1.Hi == r_13.Hi)))
theorem law05_awake_ok {N : Nat} {G : Pers} {Lf : List Ent} {w : World}    (hc : Ctx G (Lf) w) {res : Bool} (hF : law05_awake N = some res) : Calls Try.prog 12 #[] w (fun e w => e = .returned (.bool res) ∧ Ctx G (Lf) w) := by
 unfold law05_awake at hF
 refine fnIn (args := []) Try.func12 rfl Try.ntmps12 rfl fun a hf => wp_seq_k fun K1 h1 => cReg ?_
 refine stP hf rfl rfl rfl (pA rfl) fun a hf => cNil ?_
 refine h1 _ _ ?_
 refine wp_seq_k fun K2 h2 => cReg ?_
 obtain ⟨r,hr,hF⟩ := bnd_some hF
 refine stC (vs := []) (caps := []) hf rfl rfl rfl en_55 rfl rfl rfl rfl (law05_Three_ok hc hr) ?_
 rintro _ w ⟨p_1,c_1,p_2,c_2,rfl,hc⟩
 refine ⟨_,rfl,fun a hf => ?_⟩
 refine stAl (cs := [.slice none 0 0,.slice none 0 0]) hf hc rfl rfl zr_25 rfl fun b_1 a w hf hc => stSt (vs := [.slice p_1 r.Rating.length c_1,.slice p_2 r.Gaugings.length c_2]) hf hc rfl rfl rfl rfl sz_25 rfl rfl u0 fun w hc => cNil ?_
 refine h2 _ _ ?_
 refine wp_seq_k fun K3 h3 => cReg ?_
 refine stP hf rfl rfl rfl (pFA fa_25_0 rfl) fun a hf => stE hf hc rfl rfl rfl (eLd1 sc_22 rfl (cell_box m0 rfl)) fun a w hf hc => ?_
 obtain ⟨r_1,hr_1,hF⟩ := bnd_some hF
 refine stE hf hc rfl rfl rfl (eC (v := .tuple #[.agg #[.int .i64 r_1.1.N,.int .i64 r_1.1.D],.int .i64 r_1.2]) (vs := [.slice p_1 r.Rating.length c_1,.int .i64 13,.int .i64 8]) (caps := []) en_17 rfl rfl rfl rfl (fun w hc => by obtain ⟨G1,hle1,hrd1,hc,hth1⟩ := lend hc k1; exact (shift_Means_ok r.Rating 13 8 hrd1 hc hr_1).mono fun e w h => ⟨h.1,((hth1 _ _ h.2).unpick k1)⟩)) fun a w hf hc => stP hf rfl rfl rfl (pM rfl) fun a hf => stP hf rfl rfl rfl (pX rfl rfl) fun a hf => stP hf rfl rfl rfl (pX rfl rfl) fun a hf => stAl (cs := [.int .i64 0,.int .i64 0]) hf hc rfl rfl zr_37 rfl fun b_2 a w hf hc => stSt (vs := [.int .i64 r_1.1.N,.int .i64 r_1.1.D]) hf hc rfl rfl rfl rfl sz_37 rfl rfl u0 fun w hc => stP hf rfl rfl rfl (pA rfl) fun a hf => cNil ?_
 refine h3 _ _ ?_
 refine wp_seq_k fun K4 h4 => cReg ?_
 refine stP hf rfl rfl rfl (pFA fa_25_0 rfl) fun a hf => stE hf hc rfl rfl rfl (eLd1 sc_22 rfl (cell_box m1 rfl)) fun a w hf hc => ?_
 obtain ⟨r_2,hr_2,hF⟩ := bnd_some hF
 refine stE hf hc rfl rfl rfl (eC (v := .tuple #[.agg #[.int .i64 r_2.1.N,.int .i64 r_2.1.D],.int .i64 r_2.2]) (vs := [.slice p_1 r.Rating.length c_1,.int .i64 25,.int .i64 6]) (caps := []) en_17 rfl rfl rfl rfl (fun w hc => by obtain ⟨G1,hle1,hrd1,hc,hth1⟩ := lend hc k2; exact (shift_Means_ok r.Rating 25 6 hrd1 hc hr_2).mono fun e w h => ⟨h.1,((hth1 _ _ h.2).unpick k2)⟩)) fun a w hf hc => stP hf rfl rfl rfl (pM rfl) fun a hf => stP hf rfl rfl rfl (pX rfl rfl) fun a hf => stP hf rfl rfl rfl (pX rfl rfl) fun a hf => stAl (cs := [.int .i64 0,.int .i64 0]) hf hc rfl rfl zr_37 rfl fun b_3 a w hf hc => stSt (vs := [.int .i64 r_2.1.N,.int .i64 r_2.1.D]) hf hc rfl rfl rfl rfl sz_37 rfl rfl u0 fun w hc => stP hf rfl rfl rfl (pA rfl) fun a hf => cNil ?_
 refine h4 _ _ ?_
 refine wp_seq_k fun K5 h5 => cReg ?_
 refine stP hf rfl rfl rfl (pFA fa_25_0 rfl) fun a hf => stE hf hc rfl rfl rfl (eLd1 sc_22 rfl (cell_box m2 rfl)) fun a w hf hc => ?_
 obtain ⟨r_3,hr_3,hF⟩ := bnd_some hF
 refine stE hf hc rfl rfl rfl (eC (v := .tuple #[.agg #[.int .i64 r_3.1.N,.int .i64 r_3.1.D],.int .i64 r_3.2]) (vs := [.slice p_1 r.Rating.length c_1,.int .i64 10,.int .i64 0,.int .i64 4,.int .i64 25]) (caps := []) en_20 rfl rfl rfl rfl (fun w hc => by obtain ⟨G1,hle1,hrd1,hc,hth1⟩ := lend hc k3; exact (shift_Rising_ok r.Rating 10 0 4 25 hrd1 hc hr_3).mono fun e w h => ⟨h.1,((hth1 _ _ h.2).unpick k3)⟩)) fun a w hf hc => stP hf rfl rfl rfl (pM rfl) fun a hf => stP hf rfl rfl rfl (pX rfl rfl) fun a hf => stP hf rfl rfl rfl (pX rfl rfl) fun a hf => stAl (cs := [.int .i64 0,.int .i64 0]) hf hc rfl rfl zr_37 rfl fun b_4 a w hf hc => stSt (vs := [.int .i64 r_3.1.N,.int .i64 r_3.1.D]) hf hc rfl rfl rfl rfl sz_37 rfl rfl u0 fun w hc => stP hf rfl rfl rfl (pA rfl) fun a hf => cNil ?_
 refine h5 _ _ ?_
 refine wp_seq_k fun K6 h6 => cReg ?_
 refine stP hf rfl rfl rfl (pFA fa_25_0 rfl) fun a hf => stE hf hc rfl rfl rfl (eLd1 sc_22 rfl (cell_box m3 rfl)) fun a w hf hc => ?_
 obtain ⟨r_4,hr_4,hF⟩ := bnd_some hF
 refine stE hf hc rfl rfl rfl (eC (v := .tuple #[.agg #[.int .i64 r_4.1.N,.int .i64 r_4.1.D],.int .i64 r_4.2]) (vs := [.slice p_1 r.Rating.length c_1,.int .i64 10,.int .i64 0,.int .i64 (-50),.int .i64 25]) (caps := []) en_20 rfl rfl rfl rfl (fun w hc => by obtain ⟨G1,hle1,hrd1,hc,hth1⟩ := lend hc k4; exact (shift_Rising_ok r.Rating 10 0 (-50) 25 hrd1 hc hr_4).mono fun e w h => ⟨h.1,((hth1 _ _ h.2).unpick k4)⟩)) fun a w hf hc => stP hf rfl rfl rfl (pM rfl) fun a hf => stP hf rfl rfl rfl (pX rfl rfl) fun a hf => stP hf rfl rfl rfl (pX rfl rfl) fun a hf => stAl (cs := [.int .i64 0,.int .i64 0]) hf hc rfl rfl zr_37 rfl fun b_5 a w hf hc => stSt (vs := [.int .i64 r_4.1.N,.int .i64 r_4.1.D]) hf hc rfl rfl rfl rfl sz_37 rfl rfl u0 fun w hc => stP hf rfl rfl rfl (pA rfl) fun a hf => cNil ?_
 refine h6 _ _ ?_
 refine wp_seq_k fun K7 h7 => wp_seq_k fun K8 h8 => cReg ?_
 refine stP hf rfl rfl rfl (pM rfl) fun a hf => stP hf rfl rfl rfl (pNe rfl rfl) fun a hf => stP hf rfl rfl rfl (pM rfl) fun a hf => stCut 3 (fun a w => Has 158 a [(1,.pointer (some ⟨b_1,0,none⟩)),(2,.pointer (some ⟨b_2,0,none⟩)),(3,.int .i64 r_1.2),(4,.pointer (some ⟨b_3,0,none⟩)),(5,.int .i64 r_2.2),(6,.pointer (some ⟨b_4,0,none⟩)),(7,.int .i64 r_3.2),(8,.pointer (some ⟨b_5,0,none⟩)),(9,.int .i64 r_4.2),(42,.int .i64 r_1.2),(43,.bool (r_1.2 != 0)),(44,.bool (r_1.2 != 0)),(47,.bool ((r_1.2 != 0) || (r_2.2 != 0)))] ∧ Ctx G (.box b_5 [.int .i64 r_4.1.N,.int .i64 r_4.1.D] 37::.box b_4 [.int .i64 r_3.1.N,.int .i64 r_3.1.D] 37::.box b_3 [.int .i64 r_2.1.N,.int .i64 r_2.1.D] 37::.box b_2 [.int .i64 r_1.1.N,.int .i64 r_1.1.D] 37::.box b_1 [.slice p_1 r.Rating.length c_1,.slice p_2 r.Gaugings.length c_2] 25::.row p_1 c_1 (r.Rating.map enc_shift_Mark) 77 2::.row p_2 c_2 (r.Gaugings.map enc_shift_Gauging) 71 4::Lf) w) ?_ ?_
 ·cases hb : (r_1.2 != 0)
  ·rw [hb] at hf
   refine stP hf rfl rfl rfl (pM rfl) fun a hf => stP hf rfl rfl rfl (pNe rfl rfl) fun a hf => stP hf rfl rfl rfl (pPf rfl rfl) fun a hf => cNil ⟨hf.keep ⟨rfl,rfl,rfl,rfl,rfl,rfl,rfl,rfl,rfl,rfl,rfl,rfl,rfl,trivial⟩,hc⟩
  ·rw [hb] at hf
   refine stS hf rfl rfl rfl fun a hf => stS hf rfl rfl rfl fun a hf => stP hf rfl rfl rfl (pPt rfl rfl) fun a hf => cNil ⟨hf.keep ⟨rfl,rfl,rfl,rfl,rfl,rfl,rfl,rfl,rfl,rfl,rfl,rfl,rfl,trivial⟩,hc⟩
 intro a w ⟨hf,hc⟩
 refine stP hf rfl rfl rfl (pM rfl) fun a hf => stCut 3 (fun a w => Has 158 a [(1,.pointer (some ⟨b_1,0,none⟩)),(2,.pointer (some ⟨b_2,0,none⟩)),(3,.int .i64 r_1.2),(4,.pointer (some ⟨b_3,0,none⟩)),(5,.int .i64 r_2.2),(6,.pointer (some ⟨b_4,0,none⟩)),(7,.int .i64 r_3.2),(8,.pointer (some ⟨b_5,0,none⟩)),(9,.int .i64 r_4.2),(42,.int .i64 r_1.2),(43,.bool (r_1.2 != 0)),(44,.bool (r_1.2 != 0)),(47,.bool ((r_1.2 != 0) || (r_2.2 != 0))),(48,.bool ((r_1.2 != 0) || (r_2.2 != 0))),(51,.bool (((r_1.2 != 0) || (r_2.2 != 0)) || (r_3.2 != 0)))] ∧ Ctx G (.box b_5 [.int .i64 r_4.1.N,.int .i64 r_4.1.D] 37::.box b_4 [.int .i64 r_3.1.N,.int .i64 r_3.1.D] 37::.box b_3 [.int .i64 r_2.1.N,.int .i64 r_2.1.D] 37::.box b_2 [.int .i64 r_1.1.N,.int .i64 r_1.1.D] 37::.box b_1 [.slice p_1 r.Rating.length c_1,.slice p_2 r.Gaugings.length c_2] 25::.row p_1 c_1 (r.Rating.map enc_shift_Mark) 77 2::.row p_2 c_2 (r.Gaugings.map enc_shift_Gauging) 71 4::Lf) w) ?_ ?_
 ·cases hb : ((r_1.2 != 0) || (r_2.2 != 0))
  ·rw [hb] at hf
   refine stP hf rfl rfl rfl (pM rfl) fun a hf => stP hf rfl rfl rfl (pNe rfl rfl) fun a hf => stP hf rfl rfl rfl (pPf rfl rfl) fun a hf => cNil ⟨hf.keep ⟨rfl,rfl,rfl,rfl,rfl,rfl,rfl,rfl,rfl,rfl,rfl,rfl,rfl,rfl,rfl,trivial⟩,hc⟩
  ·rw [hb] at hf
   refine stS hf rfl rfl rfl fun a hf => stS hf rfl rfl rfl fun a hf => stP hf rfl rfl rfl (pPt rfl rfl) fun a hf => cNil ⟨hf.keep ⟨rfl,rfl,rfl,rfl,rfl,rfl,rfl,rfl,rfl,rfl,rfl,rfl,rfl,rfl,rfl,trivial⟩,hc⟩
 intro a w ⟨hf,hc⟩
 refine stP hf rfl rfl rfl (pM rfl) fun a hf => stCut 3 (fun a w => Has 158 a [(1,.pointer (some ⟨b_1,0,none⟩)),(2,.pointer (some ⟨b_2,0,none⟩)),(3,.int .i64 r_1.2),(4,.pointer (some ⟨b_3,0,none⟩)),(5,.int .i64 r_2.2),(6,.pointer (some ⟨b_4,0,none⟩)),(7,.int .i64 r_3.2),(8,.pointer (some ⟨b_5,0,none⟩)),(9,.int .i64 r_4.2),(42,.int .i64 r_1.2),(43,.bool (r_1.2 != 0)),(44,.bool (r_1.2 != 0)),(47,.bool ((r_1.2 != 0) || (r_2.2 != 0))),(48,.bool ((r_1.2 != 0) || (r_2.2 != 0))),(51,.bool (((r_1.2 != 0) || (r_2.2 != 0)) || (r_3.2 != 0))),(52,.bool (((r_1.2 != 0) || (r_2.2 != 0)) || (r_3.2 != 0))),(55,.bool ((((r_1.2 != 0) || (r_2.2 != 0)) || (r_3.2 != 0)) || (r_4.2 != 0)))] ∧ Ctx G (.box b_5 [.int .i64 r_4.1.N,.int .i64 r_4.1.D] 37::.box b_4 [.int .i64 r_3.1.N,.int .i64 r_3.1.D] 37::.box b_3 [.int .i64 r_2.1.N,.int .i64 r_2.1.D] 37::.box b_2 [.int .i64 r_1.1.N,.int .i64 r_1.1.D] 37::.box b_1 [.slice p_1 r.Rating.length c_1,.slice p_2 r.Gaugings.length c_2] 25::.row p_1 c_1 (r.Rating.map enc_shift_Mark) 77 2::.row p_2 c_2 (r.Gaugings.map enc_shift_Gauging) 71 4::Lf) w) ?_ ?_
 ·cases hb : (((r_1.2 != 0) || (r_2.2 != 0)) || (r_3.2 != 0))
  ·rw [hb] at hf
   refine stP hf rfl rfl rfl (pM rfl) fun a hf => stP hf rfl rfl rfl (pNe rfl rfl) fun a hf => stP hf rfl rfl rfl (pPf rfl rfl) fun a hf => cNil ⟨hf.keep ⟨rfl,rfl,rfl,rfl,rfl,rfl,rfl,rfl,rfl,rfl,rfl,rfl,rfl,rfl,rfl,rfl,rfl,trivial⟩,hc⟩
  ·rw [hb] at hf
   refine stS hf rfl rfl rfl fun a hf => stS hf rfl rfl rfl fun a hf => stP hf rfl rfl rfl (pPt rfl rfl) fun a hf => cNil ⟨hf.keep ⟨rfl,rfl,rfl,rfl,rfl,rfl,rfl,rfl,rfl,rfl,rfl,rfl,rfl,rfl,rfl,rfl,rfl,trivial⟩,hc⟩
 intro a w ⟨hf,hc⟩
 refine stP hf rfl rfl rfl (pM rfl) fun a hf => stCut 4 (fun a w => Has 158 a [(1,.pointer (some ⟨b_1,0,none⟩)),(2,.pointer (some ⟨b_2,0,none⟩)),(3,.int .i64 r_1.2),(4,.pointer (some ⟨b_3,0,none⟩)),(5,.int .i64 r_2.2),(6,.pointer (some ⟨b_4,0,none⟩)),(7,.int .i64 r_3.2),(8,.pointer (some ⟨b_5,0,none⟩)),(9,.int .i64 r_4.2),(42,.int .i64 r_1.2),(43,.bool (r_1.2 != 0)),(44,.bool (r_1.2 != 0)),(47,.bool ((r_1.2 != 0) || (r_2.2 != 0))),(48,.bool ((r_1.2 != 0) || (r_2.2 != 0))),(51,.bool (((r_1.2 != 0) || (r_2.2 != 0)) || (r_3.2 != 0))),(52,.bool (((r_1.2 != 0) || (r_2.2 != 0)) || (r_3.2 != 0))),(55,.bool ((((r_1.2 != 0) || (r_2.2 != 0)) || (r_3.2 != 0)) || (r_4.2 != 0))),(56,.bool ((((r_1.2 != 0) || (r_2.2 != 0)) || (r_3.2 != 0)) || (r_4.2 != 0))),(60,.bool (((((r_1.2 != 0) || (r_2.2 != 0)) || (r_3.2 != 0)) || (r_4.2 != 0)) || (!(r_1.1.N == 50 && r_1.1.D == 1))))] ∧ Ctx G (.box b_5 [.int .i64 r_4.1.N,.int .i64 r_4.1.D] 37::.box b_4 [.int .i64 r_3.1.N,.int .i64 r_3.1.D] 37::.box b_3 [.int .i64 r_2.1.N,.int .i64 r_2.1.D] 37::.box b_2 [.int .i64 r_1.1.N,.int .i64 r_1.1.D] 37::.box b_1 [.slice p_1 r.Rating.length c_1,.slice p_2 r.Gaugings.length c_2] 25::.row p_1 c_1 (r.Rating.map enc_shift_Mark) 77 2::.row p_2 c_2 (r.Gaugings.map enc_shift_Gauging) 71 4::Lf) w) ?_ ?_
 ·cases hb : ((((r_1.2 != 0) || (r_2.2 != 0)) || (r_3.2 != 0)) || (r_4.2 != 0))
  ·rw [hb] at hf
   refine stE hf hc rfl rfl rfl (eLdN (vs := [.int .i64 r_1.1.N,.int .i64 r_1.1.D]) ag_37 rfl rfl (cells_box (n := 2) m3 rfl)) fun a w hf hc => stP hf rfl rfl rfl (pBuildS (cells := [.int .i64 50,.int .i64 1]) bt_37 rfl rfl) fun a hf => stP hf rfl rfl rfl (pNeA ge_37 rfl rfl (eqs_37 _ _ _ _)) fun a hf => stP hf rfl rfl rfl (pPf rfl rfl) fun a hf => cNil ⟨hf.keep ⟨rfl,rfl,rfl,rfl,rfl,rfl,rfl,rfl,rfl,rfl,rfl,rfl,rfl,rfl,rfl,rfl,rfl,rfl,rfl,trivial⟩,hc⟩
  ·rw [hb] at hf
   refine stS hf rfl rfl rfl fun a hf => stS hf rfl rfl rfl fun a hf => stS hf rfl rfl rfl fun a hf => stP hf rfl rfl rfl (pPt rfl rfl) fun a hf => cNil ⟨hf.keep ⟨rfl,rfl,rfl,rfl,rfl,rfl,rfl,rfl,rfl,rfl,rfl,rfl,rfl,rfl,rfl,rfl,rfl,rfl,rfl,trivial⟩,hc⟩
 intro a w ⟨hf,hc⟩
 refine stP hf rfl rfl rfl (pM rfl) fun a hf => stCut 4 (fun a w => Has 158 a [(1,.pointer (some ⟨b_1,0,none⟩)),(2,.pointer (some ⟨b_2,0,none⟩)),(3,.int .i64 r_1.2),(4,.pointer (some ⟨b_3,0,none⟩)),(5,.int .i64 r_2.2),(6,.pointer (some ⟨b_4,0,none⟩)),(7,.int .i64 r_3.2),(8,.pointer (some ⟨b_5,0,none⟩)),(9,.int .i64 r_4.2),(42,.int .i64 r_1.2),(43,.bool (r_1.2 != 0)),(44,.bool (r_1.2 != 0)),(47,.bool ((r_1.2 != 0) || (r_2.2 != 0))),(48,.bool ((r_1.2 != 0) || (r_2.2 != 0))),(51,.bool (((r_1.2 != 0) || (r_2.2 != 0)) || (r_3.2 != 0))),(52,.bool (((r_1.2 != 0) || (r_2.2 != 0)) || (r_3.2 != 0))),(55,.bool ((((r_1.2 != 0) || (r_2.2 != 0)) || (r_3.2 != 0)) || (r_4.2 != 0))),(56,.bool ((((r_1.2 != 0) || (r_2.2 != 0)) || (r_3.2 != 0)) || (r_4.2 != 0))),(60,.bool (((((r_1.2 != 0) || (r_2.2 != 0)) || (r_3.2 != 0)) || (r_4.2 != 0)) || (!(r_1.1.N == 50 && r_1.1.D == 1)))),(61,.bool (((((r_1.2 != 0) || (r_2.2 != 0)) || (r_3.2 != 0)) || (r_4.2 != 0)) || (!(r_1.1.N == 50 && r_1.1.D == 1)))),(65,.bool ((((((r_1.2 != 0) || (r_2.2 != 0)) || (r_3.2 != 0)) || (r_4.2 != 0)) || (!(r_1.1.N == 50 && r_1.1.D == 1))) || (!(r_2.1.N == 370 && r_2.1.D == 1))))] ∧ Ctx G (.box b_5 [.int .i64 r_4.1.N,.int .i64 r_4.1.D] 37::.box b_4 [.int .i64 r_3.1.N,.int .i64 r_3.1.D] 37::.box b_3 [.int .i64 r_2.1.N,.int .i64 r_2.1.D] 37::.box b_2 [.int .i64 r_1.1.N,.int .i64 r_1.1.D] 37::.box b_1 [.slice p_1 r.Rating.length c_1,.slice p_2 r.Gaugings.length c_2] 25::.row p_1 c_1 (r.Rating.map enc_shift_Mark) 77 2::.row p_2 c_2 (r.Gaugings.map enc_shift_Gauging) 71 4::Lf) w) ?_ ?_
 ·cases hb : (((((r_1.2 != 0) || (r_2.2 != 0)) || (r_3.2 != 0)) || (r_4.2 != 0)) || (!(r_1.1.N == 50 && r_1.1.D == 1)))
  ·rw [hb] at hf
   refine stE hf hc rfl rfl rfl (eLdN (vs := [.int .i64 r_2.1.N,.int .i64 r_2.1.D]) ag_37 rfl rfl (cells_box (n := 2) m2 rfl)) fun a w hf hc => stP hf rfl rfl rfl (pBuildS (cells := [.int .i64 370,.int .i64 1]) bt_37 rfl rfl) fun a hf => stP hf rfl rfl rfl (pNeA ge_37 rfl rfl (eqs_37 _ _ _ _)) fun a hf => stP hf rfl rfl rfl (pPf rfl rfl) fun a hf => cNil ⟨hf.keep ⟨rfl,rfl,rfl,rfl,rfl,rfl,rfl,rfl,rfl,rfl,rfl,rfl,rfl,rfl,rfl,rfl,rfl,rfl,rfl,rfl,rfl,trivial⟩,hc⟩
  ·rw [hb] at hf
   refine stS hf rfl rfl rfl fun a hf => stS hf rfl rfl rfl fun a hf => stS hf rfl rfl rfl fun a hf => stP hf rfl rfl rfl (pPt rfl rfl) fun a hf => cNil ⟨hf.keep ⟨rfl,rfl,rfl,rfl,rfl,rfl,rfl,rfl,rfl,rfl,rfl,rfl,rfl,rfl,rfl,rfl,rfl,rfl,rfl,rfl,rfl,trivial⟩,hc⟩
 intro a w ⟨hf,hc⟩
 refine stP hf rfl rfl rfl (pM rfl) fun a hf => stCut 4 (fun a w => Has 158 a [(1,.pointer (some ⟨b_1,0,none⟩)),(2,.pointer (some ⟨b_2,0,none⟩)),(3,.int .i64 r_1.2),(4,.pointer (some ⟨b_3,0,none⟩)),(5,.int .i64 r_2.2),(6,.pointer (some ⟨b_4,0,none⟩)),(7,.int .i64 r_3.2),(8,.pointer (some ⟨b_5,0,none⟩)),(9,.int .i64 r_4.2),(42,.int .i64 r_1.2),(43,.bool (r_1.2 != 0)),(44,.bool (r_1.2 != 0)),(47,.bool ((r_1.2 != 0) || (r_2.2 != 0))),(48,.bool ((r_1.2 != 0) || (r_2.2 != 0))),(51,.bool (((r_1.2 != 0) || (r_2.2 != 0)) || (r_3.2 != 0))),(52,.bool (((r_1.2 != 0) || (r_2.2 != 0)) || (r_3.2 != 0))),(55,.bool ((((r_1.2 != 0) || (r_2.2 != 0)) || (r_3.2 != 0)) || (r_4.2 != 0))),(56,.bool ((((r_1.2 != 0) || (r_2.2 != 0)) || (r_3.2 != 0)) || (r_4.2 != 0))),(60,.bool (((((r_1.2 != 0) || (r_2.2 != 0)) || (r_3.2 != 0)) || (r_4.2 != 0)) || (!(r_1.1.N == 50 && r_1.1.D == 1)))),(61,.bool (((((r_1.2 != 0) || (r_2.2 != 0)) || (r_3.2 != 0)) || (r_4.2 != 0)) || (!(r_1.1.N == 50 && r_1.1.D == 1)))),(65,.bool ((((((r_1.2 != 0) || (r_2.2 != 0)) || (r_3.2 != 0)) || (r_4.2 != 0)) || (!(r_1.1.N == 50 && r_1.1.D == 1))) || (!(r_2.1.N == 370 && r_2.1.D == 1)))),(66,.bool ((((((r_1.2 != 0) || (r_2.2 != 0)) || (r_3.2 != 0)) || (r_4.2 != 0)) || (!(r_1.1.N == 50 && r_1.1.D == 1))) || (!(r_2.1.N == 370 && r_2.1.D == 1)))),(70,.bool (((((((r_1.2 != 0) || (r_2.2 != 0)) || (r_3.2 != 0)) || (r_4.2 != 0)) || (!(r_1.1.N == 50 && r_1.1.D == 1))) || (!(r_2.1.N == 370 && r_2.1.D == 1))) || (!(r_3.1.N == 110 && r_3.1.D == 1))))] ∧ Ctx G (.box b_5 [.int .i64 r_4.1.N,.int .i64 r_4.1.D] 37::.box b_4 [.int .i64 r_3.1.N,.int .i64 r_3.1.D] 37::.box b_3 [.int .i64 r_2.1.N,.int .i64 r_2.1.D] 37::.box b_2 [.int .i64 r_1.1.N,.int .i64 r_1.1.D] 37::.box b_1 [.slice p_1 r.Rating.length c_1,.slice p_2 r.Gaugings.length c_2] 25::.row p_1 c_1 (r.Rating.map enc_shift_Mark) 77 2::.row p_2 c_2 (r.Gaugings.map enc_shift_Gauging) 71 4::Lf) w) ?_ ?_
 ·cases hb : ((((((r_1.2 != 0) || (r_2.2 != 0)) || (r_3.2 != 0)) || (r_4.2 != 0)) || (!(r_1.1.N == 50 && r_1.1.D == 1))) || (!(r_2.1.N == 370 && r_2.1.D == 1)))
  ·rw [hb] at hf
   refine stE hf hc rfl rfl rfl (eLdN (vs := [.int .i64 r_3.1.N,.int .i64 r_3.1.D]) ag_37 rfl rfl (cells_box (n := 2) m1 rfl)) fun a w hf hc => stP hf rfl rfl rfl (pBuildS (cells := [.int .i64 110,.int .i64 1]) bt_37 rfl rfl) fun a hf => stP hf rfl rfl rfl (pNeA ge_37 rfl rfl (eqs_37 _ _ _ _)) fun a hf => stP hf rfl rfl rfl (pPf rfl rfl) fun a hf => cNil ⟨hf.keep ⟨rfl,rfl,rfl,rfl,rfl,rfl,rfl,rfl,rfl,rfl,rfl,rfl,rfl,rfl,rfl,rfl,rfl,rfl,rfl,rfl,rfl,rfl,rfl,trivial⟩,hc⟩
  ·rw [hb] at hf
   refine stS hf rfl rfl rfl fun a hf => stS hf rfl rfl rfl fun a hf => stS hf rfl rfl rfl fun a hf => stP hf rfl rfl rfl (pPt rfl rfl) fun a hf => cNil ⟨hf.keep ⟨rfl,rfl,rfl,rfl,rfl,rfl,rfl,rfl,rfl,rfl,rfl,rfl,rfl,rfl,rfl,rfl,rfl,rfl,rfl,rfl,rfl,rfl,rfl,trivial⟩,hc⟩
 intro a w ⟨hf,hc⟩
 refine stP hf rfl rfl rfl (pM rfl) fun a hf => stCut 4 (fun a w => Has 158 a [(1,.pointer (some ⟨b_1,0,none⟩)),(2,.pointer (some ⟨b_2,0,none⟩)),(3,.int .i64 r_1.2),(4,.pointer (some ⟨b_3,0,none⟩)),(5,.int .i64 r_2.2),(6,.pointer (some ⟨b_4,0,none⟩)),(7,.int .i64 r_3.2),(8,.pointer (some ⟨b_5,0,none⟩)),(9,.int .i64 r_4.2),(42,.int .i64 r_1.2),(43,.bool (r_1.2 != 0)),(44,.bool (r_1.2 != 0)),(47,.bool ((r_1.2 != 0) || (r_2.2 != 0))),(48,.bool ((r_1.2 != 0) || (r_2.2 != 0))),(51,.bool (((r_1.2 != 0) || (r_2.2 != 0)) || (r_3.2 != 0))),(52,.bool (((r_1.2 != 0) || (r_2.2 != 0)) || (r_3.2 != 0))),(55,.bool ((((r_1.2 != 0) || (r_2.2 != 0)) || (r_3.2 != 0)) || (r_4.2 != 0))),(56,.bool ((((r_1.2 != 0) || (r_2.2 != 0)) || (r_3.2 != 0)) || (r_4.2 != 0))),(60,.bool (((((r_1.2 != 0) || (r_2.2 != 0)) || (r_3.2 != 0)) || (r_4.2 != 0)) || (!(r_1.1.N == 50 && r_1.1.D == 1)))),(61,.bool (((((r_1.2 != 0) || (r_2.2 != 0)) || (r_3.2 != 0)) || (r_4.2 != 0)) || (!(r_1.1.N == 50 && r_1.1.D == 1)))),(65,.bool ((((((r_1.2 != 0) || (r_2.2 != 0)) || (r_3.2 != 0)) || (r_4.2 != 0)) || (!(r_1.1.N == 50 && r_1.1.D == 1))) || (!(r_2.1.N == 370 && r_2.1.D == 1)))),(66,.bool ((((((r_1.2 != 0) || (r_2.2 != 0)) || (r_3.2 != 0)) || (r_4.2 != 0)) || (!(r_1.1.N == 50 && r_1.1.D == 1))) || (!(r_2.1.N == 370 && r_2.1.D == 1)))),(70,.bool (((((((r_1.2 != 0) || (r_2.2 != 0)) || (r_3.2 != 0)) || (r_4.2 != 0)) || (!(r_1.1.N == 50 && r_1.1.D == 1))) || (!(r_2.1.N == 370 && r_2.1.D == 1))) || (!(r_3.1.N == 110 && r_3.1.D == 1)))),(71,.bool (((((((r_1.2 != 0) || (r_2.2 != 0)) || (r_3.2 != 0)) || (r_4.2 != 0)) || (!(r_1.1.N == 50 && r_1.1.D == 1))) || (!(r_2.1.N == 370 && r_2.1.D == 1))) || (!(r_3.1.N == 110 && r_3.1.D == 1)))),(75,.bool ((((((((r_1.2 != 0) || (r_2.2 != 0)) || (r_3.2 != 0)) || (r_4.2 != 0)) || (!(r_1.1.N == 50 && r_1.1.D == 1))) || (!(r_2.1.N == 370 && r_2.1.D == 1))) || (!(r_3.1.N == 110 && r_3.1.D == 1))) || (!(r_4.1.N == 0 && r_4.1.D == 1))))] ∧ Ctx G (.box b_5 [.int .i64 r_4.1.N,.int .i64 r_4.1.D] 37::.box b_4 [.int .i64 r_3.1.N,.int .i64 r_3.1.D] 37::.box b_3 [.int .i64 r_2.1.N,.int .i64 r_2.1.D] 37::.box b_2 [.int .i64 r_1.1.N,.int .i64 r_1.1.D] 37::.box b_1 [.slice p_1 r.Rating.length c_1,.slice p_2 r.Gaugings.length c_2] 25::.row p_1 c_1 (r.Rating.map enc_shift_Mark) 77 2::.row p_2 c_2 (r.Gaugings.map enc_shift_Gauging) 71 4::Lf) w) ?_ ?_
 ·cases hb : (((((((r_1.2 != 0) || (r_2.2 != 0)) || (r_3.2 != 0)) || (r_4.2 != 0)) || (!(r_1.1.N == 50 && r_1.1.D == 1))) || (!(r_2.1.N == 370 && r_2.1.D == 1))) || (!(r_3.1.N == 110 && r_3.1.D == 1)))
  ·rw [hb] at hf
   refine stE hf hc rfl rfl rfl (eLdN (vs := [.int .i64 r_4.1.N,.int .i64 r_4.1.D]) ag_37 rfl rfl (cells_box (n := 2) m0 rfl)) fun a w hf hc => stP hf rfl rfl rfl (pBuildS (cells := [.int .i64 0,.int .i64 1]) bt_37 rfl rfl) fun a hf => stP hf rfl rfl rfl (pNeA ge_37 rfl rfl (eqs_37 _ _ _ _)) fun a hf => stP hf rfl rfl rfl (pPf rfl rfl) fun a hf => cNil ⟨hf.keep ⟨rfl,rfl,rfl,rfl,rfl,rfl,rfl,rfl,rfl,rfl,rfl,rfl,rfl,rfl,rfl,rfl,rfl,rfl,rfl,rfl,rfl,rfl,rfl,rfl,rfl,trivial⟩,hc⟩
  ·rw [hb] at hf
   refine stS hf rfl rfl rfl fun a hf => stS hf rfl rfl rfl fun a hf => stS hf rfl rfl rfl fun a hf => stP hf rfl rfl rfl (pPt rfl rfl) fun a hf => cNil ⟨hf.keep ⟨rfl,rfl,rfl,rfl,rfl,rfl,rfl,rfl,rfl,rfl,rfl,rfl,rfl,rfl,rfl,rfl,rfl,rfl,rfl,rfl,rfl,rfl,rfl,rfl,rfl,trivial⟩,hc⟩
 intro a w ⟨hf,hc⟩
 refine cNil ?_
 refine h8 _ _ ?_
 refine cCond (b := ((((((((r_1.2 != 0) || (r_2.2 != 0)) || (r_3.2 != 0)) || (r_4.2 != 0)) || (!(r_1.1.N == 50 && r_1.1.D == 1))) || (!(r_2.1.N == 370 && r_2.1.D == 1))) || (!(r_3.1.N == 110 && r_3.1.D == 1))) || (!(r_4.1.N == 0 && r_4.1.D == 1)))) hf rfl (fun hb => ?_) (fun hb => ?_)
 ·replace hF := condT hb hF
  clear hb
  refine wp_seq_k fun K9 h9 => cReg ?_
  refine stP hf rfl rfl rfl (pA rfl) fun a hf => cNil ?_
  refine h9 _ _ ?_
  refine wp_ret ?_
  refine xThenR ?_
  obtain rfl := Option.some.inj hF
  replace hc := hc.drop k6
  replace hc := hc.drop k5
  replace hc := hc.drop k4
  replace hc := hc.drop k3
  replace hc := hc.drop k2
  replace hc := hc.drop k1
  replace hc := hc.drop k0
  exact fnOut1 (by simp) rfl Try.results12 hf hc (show look _ 0 = _ from rfl) ⟨rfl,hc⟩
 ·replace hF := condF hb hF
  clear hb
  refine wp_skip ?_
  refine h7 _ _ ?_
  refine wp_seq_k fun K10 h10 => cReg ?_
  refine stE hf hc rfl rfl rfl (eLdN (vs := [.slice p_1 r.Rating.length c_1,.slice p_2 r.Gaugings.length c_2]) ag_25 rfl rfl (cells_box (n := 2) m4 rfl)) fun a w hf hc => ?_
  obtain ⟨r_5,hr_5,hF⟩ := bnd_some hF
  obtain ⟨G1,hle1,hrd1,hc,hth1⟩ := lend hc k5
  obtain ⟨G2,hle2,hrd2,hc,hth2⟩ := lend hc k5
  refine stC (vs := [.agg #[.slice p_1 r.Rating.length c_1,.slice p_2 r.Gaugings.length c_2]]) (caps := []) hf rfl rfl rfl en_22 rfl rfl rfl rfl (shift_Passes_ok r (hrd1.mono hle2) hrd2 hc hr_5) ?_
  rintro _ w ⟨p_3,c_3,rfl,hc⟩
  refine ⟨_,rfl,fun a hf => ?_⟩
  replace hc := hth2 _ _ hc
  replace hc := hth1 _ _ hc
  refine stP hf rfl rfl rfl (pM rfl) fun a hf => stP hf rfl rfl rfl (pX rfl rfl) fun a hf => stP hf rfl rfl rfl (pX rfl rfl) fun a hf => stP hf rfl rfl rfl (pA rfl) fun a hf => stP hf rfl rfl rfl (pA rfl) fun a hf => cNil ?_
  refine h10 _ _ ?_
  refine wp_seq_k fun K11 h11 => cReg ?_
  refine stE hf hc rfl rfl rfl (eLdN (vs := [.slice p_1 r.Rating.length c_1,.slice p_2 r.Gaugings.length c_2]) ag_25 rfl rfl (cells_box (n := 2) m7 rfl)) fun a w hf hc => ?_
  obtain ⟨r_6,hr_6,hF⟩ := bnd_some hF
  obtain ⟨G1,hle1,hrd1,hc,hth1⟩ := lend hc k0
  obtain ⟨G2,hle2,hrd2,hc,hth2⟩ := lend hc k0
  refine stC (vs := [.agg #[.slice p_1 r.Rating.length c_1,.slice p_2 r.Gaugings.length c_2]]) (caps := []) hf rfl rfl rfl en_33 rfl rfl rfl rfl (shift_Least_ok r (hrd1.mono hle2) hrd2 hc hr_6) ?_
  rintro _ w ⟨p_4,c_4,rfl,hc⟩
  refine ⟨_,rfl,fun a hf => ?_⟩
  replace hc := hth2 _ _ hc
  replace hc := hth1 _ _ hc
  refine stP hf rfl rfl rfl (pM rfl) fun a hf => stP hf rfl rfl rfl (pX rfl rfl) fun a hf => stP hf rfl rfl rfl (pX rfl rfl) fun a hf => stP hf rfl rfl rfl (pX rfl rfl) fun a hf => stP hf rfl rfl rfl (pA rfl) fun a hf => stP hf rfl rfl rfl (pA rfl) fun a hf => stP hf rfl rfl rfl (pA rfl) fun a hf => cNil ?_
  refine h11 _ _ ?_
  refine wp_seq_k fun K12 h12 => cReg ?_
  refine stE hf hc rfl rfl rfl (eLdN (vs := [.slice p_1 r.Rating.length c_1,.slice p_2 r.Gaugings.length c_2]) ag_25 rfl rfl (cells_box (n := 2) m8 rfl)) fun a w hf hc => stP hf rfl rfl rfl (pBuildS (cells := [.int .i64 0,.bool false]) bt_91 rfl rfl) fun a hf => stP hf rfl rfl rfl (pBuildS (cells := [.int .i64 1,.bool true]) bt_91 rfl rfl) fun a hf => stP hf rfl rfl rfl (pBuildS (cells := [.int .i64 2,.bool false]) bt_91 rfl rfl) fun a hf => stBS (rows := ([(⟨0,false⟩ : shift_Turn),(⟨1,true⟩ : shift_Turn),(⟨2,false⟩ : shift_Turn)] : List shift_Turn).map enc_shift_Turn) (vs := [(0,.agg #[.int .i64 0,.bool false]),(1,.agg #[.int .i64 1,.bool true]),(2,.agg #[.int .i64 2,.bool false])]) hf hc rfl rfl sl_87 rfl ⟨rfl,rfl,rfl,rfl,rfl,rfl,rfl,rfl,rfl,trivial⟩ rfl rfl fun b_6 a w hf hc => ?_
  obtain ⟨r_7,hr_7,hF⟩ := bnd_some hF
  refine stE hf hc rfl rfl rfl (eC (v := .tuple #[.int .i64 r_7.1,.int .i64 r_7.2]) (vs := [.agg #[.slice p_1 r.Rating.length c_1,.slice p_2 r.Gaugings.length c_2],.slice (some ⟨b_6,0,none⟩) 3 3]) (caps := []) en_46 rfl rfl rfl rfl (fun w hc => by obtain ⟨G1,hle1,hrd1,hc,hth1⟩ := lend hc k1; obtain ⟨G2,hle2,hrd2,hc,hth2⟩ := lend hc k1; obtain ⟨G3,hle3,hrd3,hc,hth3⟩ := lend hc k0; exact (shift_Proves_ok r ([(⟨0,false⟩ : shift_Turn),(⟨1,true⟩ : shift_Turn),(⟨2,false⟩ : shift_Turn)] : List shift_Turn) ((hrd1.mono hle2).mono hle3) (hrd2.mono hle3) hrd3 hc hr_7).mono fun e w h => ⟨h.1,((hth1 _ _ ((hth2 _ _ ((hth3 _ _ h.2).unpick k0)).unpick k1)).unpick k1)⟩)) fun a w hf hc => stP hf rfl rfl rfl (pM rfl) fun a hf => stP hf rfl rfl rfl (pX rfl rfl) fun a hf => stP hf rfl rfl rfl (pX rfl rfl) fun a hf => stP hf rfl rfl rfl (pA rfl) fun a hf => stP hf rfl rfl rfl (pA rfl) fun a hf => cNil ?_
  refine h12 _ _ ?_
  refine wp_seq_k fun K13 h13 => cReg ?_
  refine stE hf hc rfl rfl rfl (eLdN (vs := [.slice p_1 r.Rating.length c_1,.slice p_2 r.Gaugings.length c_2]) ag_25 rfl rfl (cells_box (n := 2) m9 rfl)) fun a w hf hc => ?_
  obtain ⟨r_8,hr_8,hF⟩ := bnd_some hF
  obtain ⟨G1,hle1,hrd1,hc,hth1⟩ := lend hc k1
  obtain ⟨G2,hle2,hrd2,hc,hth2⟩ := lend hc k1
  refine stC (vs := [.agg #[.slice p_1 r.Rating.length c_1,.slice p_2 r.Gaugings.length c_2],.int .i64 6]) (caps := []) hf rfl rfl rfl en_27 rfl rfl rfl rfl (shift_Can_ok r 6 (hrd1.mono hle2) hrd2 hc hr_8) ?_
  rintro _ w ⟨p_5,c_5,rfl,hc⟩
  refine ⟨_,rfl,fun a hf => ?_⟩
  replace hc := hth2 _ _ hc
  replace hc := hth1 _ _ hc
  refine stP hf rfl rfl rfl (pM rfl) fun a hf => stP hf rfl rfl rfl (pX rfl rfl) fun a hf => stP hf rfl rfl rfl (pX rfl rfl) fun a hf => stP hf rfl rfl rfl (pA rfl) fun a hf => stP hf rfl rfl rfl (pA rfl) fun a hf => cNil ?_
  refine h13 _ _ ?_
  refine wp_seq_k fun K14 h14 => cReg ?_
  refine stE hf hc rfl rfl rfl (eLdN (vs := [.slice p_1 r.Rating.length c_1,.slice p_2 r.Gaugings.length c_2]) ag_25 rfl rfl (cells_box (n := 2) m10 rfl)) fun a w hf hc => ?_
  obtain ⟨r_9,hr_9,hF⟩ := bnd_some hF
  refine stE hf hc rfl rfl rfl (eC (v := .tuple #[.agg #[.int .i64 r_9.1.Lo,.int .i64 r_9.1.Hi],.int .i64 r_9.2]) (vs := [.agg #[.slice p_1 r.Rating.length c_1,.slice p_2 r.Gaugings.length c_2],.int .i64 6,.int .i64 3,.int .i64 13]) (caps := []) en_29 rfl rfl rfl rfl (fun w hc => by obtain ⟨G1,hle1,hrd1,hc,hth1⟩ := lend hc k0; obtain ⟨G2,hle2,hrd2,hc,hth2⟩ := lend hc k0; exact (shift_Between_ok r 6 3 13 (hrd1.mono hle2) hrd2 hc hr_9).mono fun e w h => ⟨h.1,((hth1 _ _ ((hth2 _ _ h.2).unpick k0)).unpick k0)⟩)) fun a w hf hc => stP hf rfl rfl rfl (pM rfl) fun a hf => stP hf rfl rfl rfl (pX rfl rfl) fun a hf => stP hf rfl rfl rfl (pX rfl rfl) fun a hf => stAl (cs := [.int .i64 0,.int .i64 0]) hf hc rfl rfl zr_50 rfl fun b_7 a w hf hc => stSt (vs := [.int .i64 r_9.1.Lo,.int .i64 r_9.1.Hi]) hf hc rfl rfl rfl rfl sz_50 rfl rfl u0 fun w hc => stP hf rfl rfl rfl (pA rfl) fun a hf => cNil ?_
  refine h14 _ _ ?_
  refine wp_seq_k fun K15 h15 => ?_
  obtain ⟨r_10,hr_10,hF⟩ := bnd_some hF
  obtain ⟨r_11,hr_11,hF⟩ := bnd_some hF
  obtain ⟨r_12,hr_12,hF⟩ := bnd_some hF
  obtain ⟨r_13,hr_13,hF⟩ := bnd_some hF
  replace hc := hc.nilRow 0 0
  replace hc := hc.nilRow 0 0
  replace hc := hc.nilRow 0 0
  refine regionE (fun θ => (⟨none,none,3,.int .i64 r_5.2⟩::⟨none,none,5,.int .i64 r_6.2.2⟩::⟨none,none,7,.int .i64 r_7.2⟩::⟨none,none,9,.int .i64 r_8.2⟩::⟨none,none,10,.slice p_3 r_5.1.length c_3⟩::⟨none,none,11,.slice p_4 r_6.1.length c_4⟩::⟨none,none,12,.int .i64 r_6.2.1⟩::⟨none,none,13,.int .i64 r_7.1⟩::⟨none,none,14,.slice p_5 r_8.1.length c_5⟩::⟨none,none,15,.pointer (some ⟨b_7,0,none⟩)⟩::⟨none,none,16,.int .i64 r_9.2⟩::⟨some 0,none,106,.int .i64 r_5.2⟩::⟨some 1,none,107,.bool (r_5.2 == 0)⟩::⟨some 2,none,108,.bool (r_5.2 == 0)⟩::⟨some 3,none,109,(bif (r_5.2 == 0) then .int .i64 r_6.2.2 else undef)⟩::⟨some 4,none,110,(bif (r_5.2 == 0) then .bool (r_6.2.2 == 0) else undef)⟩::⟨some 5,none,111,.bool ((r_5.2 == 0) && (r_6.2.2 == 0))⟩::⟨some 6,none,112,.bool ((r_5.2 == 0) && (r_6.2.2 == 0))⟩::⟨some 7,none,113,(bif ((r_5.2 == 0) && (r_6.2.2 == 0)) then .int .i64 r_7.2 else undef)⟩::⟨some 8,none,114,(bif ((r_5.2 == 0) && (r_6.2.2 == 0)) then .bool (r_7.2 == 0) else undef)⟩::⟨some 9,none,115,.bool (((r_5.2 == 0) && (r_6.2.2 == 0)) && (r_7.2 == 0))⟩::⟨some 10,none,116,.bool (((r_5.2 == 0) && (r_6.2.2 == 0)) && (r_7.2 == 0))⟩::⟨some 11,none,117,(bif (((r_5.2 == 0) && (r_6.2.2 == 0)) && (r_7.2 == 0)) then .int .i64 r_8.2 else undef)⟩::⟨some 12,none,118,(bif (((r_5.2 == 0) && (r_6.2.2 == 0)) && (r_7.2 == 0)) then .bool (r_8.2 == 0) else undef)⟩::⟨some 13,none,119,.bool ((((r_5.2 == 0) && (r_6.2.2 == 0)) && (r_7.2 == 0)) && (r_8.2 == 0))⟩::⟨some 14,none,120,.bool ((((r_5.2 == 0) && (r_6.2.2 == 0)) && (r_7.2 == 0)) && (r_8.2 == 0))⟩::⟨some 15,none,121,(bif ((((r_5.2 == 0) && (r_6.2.2 == 0)) && (r_7.2 == 0)) && (r_8.2 == 0)) then .int .i64 r_9.2 else undef)⟩::⟨some 16,none,122,(bif ((((r_5.2 == 0) && (r_6.2.2 == 0)) && (r_7.2 == 0)) && (r_8.2 == 0)) then .bool (r_9.2 == 0) else undef)⟩::⟨some 17,none,123,.bool (((((r_5.2 == 0) && (r_6.2.2 == 0)) && (r_7.2 == 0)) && (r_8.2 == 0)) && (r_9.2 == 0))⟩::⟨some 18,none,124,.bool (((((r_5.2 == 0) && (r_6.2.2 == 0)) && (r_7.2 == 0)) && (r_8.2 == 0)) && (r_9.2 == 0))⟩::⟨some 19,none,125,(bif (((((r_5.2 == 0) && (r_6.2.2 == 0)) && (r_7.2 == 0)) && (r_8.2 == 0)) && (r_9.2 == 0)) then .slice p_3 r_5.1.length c_3 else undef)⟩::⟨some 20,none,126,(bif (((((r_5.2 == 0) && (r_6.2.2 == 0)) && (r_7.2 == 0)) && (r_8.2 == 0)) && (r_9.2 == 0)) then .agg #[.int .i64 2,.int .i64 4] else undef)⟩::⟨some 21,none,127,(bif (((((r_5.2 == 0) && (r_6.2.2 == 0)) && (r_7.2 == 0)) && (r_8.2 == 0)) && (r_9.2 == 0)) then .agg #[.int .i64 0,.int .i64 0] else undef)⟩::⟨some 22,none,128,(bif (((((r_5.2 == 0) && (r_6.2.2 == 0)) && (r_7.2 == 0)) && (r_8.2 == 0)) && (r_9.2 == 0)) then .agg #[.int .i64 3,.int .i64 8] else undef)⟩::⟨some 23,none,129,(bif (((((r_5.2 == 0) && (r_6.2.2 == 0)) && (r_7.2 == 0)) && (r_8.2 == 0)) && (r_9.2 == 0)) then .slice (some ⟨(θ 184).b,0,none⟩) 3 3 else undef)⟩::⟨some 24,none,130,(bif (((((r_5.2 == 0) && (r_6.2.2 == 0)) && (r_7.2 == 0)) && (r_8.2 == 0)) && (r_9.2 == 0)) then .bool r_10 else undef)⟩::⟨some 25,none,131,.bool ((((((r_5.2 == 0) && (r_6.2.2 == 0)) && (r_7.2 == 0)) && (r_8.2 == 0)) && (r_9.2 == 0)) && r_10)⟩::⟨some 26,none,132,.bool ((((((r_5.2 == 0) && (r_6.2.2 == 0)) && (r_7.2 == 0)) && (r_8.2 == 0)) && (r_9.2 == 0)) && r_10)⟩::⟨some 27,none,133,(bif ((((((r_5.2 == 0) && (r_6.2.2 == 0)) && (r_7.2 == 0)) && (r_8.2 == 0)) && (r_9.2 == 0)) && r_10) then .slice p_4 r_6.1.length c_4 else undef)⟩::⟨some 28,none,134,(bif ((((((r_5.2 == 0) && (r_6.2.2 == 0)) && (r_7.2 == 0)) && (r_8.2 == 0)) && (r_9.2 == 0)) && r_10) then .slice (some ⟨(θ 224).b,0,none⟩) 3 3 else undef)⟩::⟨some 29,none,135,(bif ((((((r_5.2 == 0) && (r_6.2.2 == 0)) && (r_7.2 == 0)) && (r_8.2 == 0)) && (r_9.2 == 0)) && r_10) then .bool r_11 else undef)⟩::⟨some 30,none,136,.bool (((((((r_5.2 == 0) && (r_6.2.2 == 0)) && (r_7.2 == 0)) && (r_8.2 == 0)) && (r_9.2 == 0)) && r_10) && r_11)⟩::⟨some 31,none,137,.bool (((((((r_5.2 == 0) && (r_6.2.2 == 0)) && (r_7.2 == 0)) && (r_8.2 == 0)) && (r_9.2 == 0)) && r_10) && r_11)⟩::⟨some 32,none,138,(bif (((((((r_5.2 == 0) && (r_6.2.2 == 0)) && (r_7.2 == 0)) && (r_8.2 == 0)) && (r_9.2 == 0)) && r_10) && r_11) then .int .i64 r_6.2.1 else undef)⟩::⟨some 33,none,139,(bif (((((((r_5.2 == 0) && (r_6.2.2 == 0)) && (r_7.2 == 0)) && (r_8.2 == 0)) && (r_9.2 == 0)) && r_10) && r_11) then .bool (r_6.2.1 == 5) else undef)⟩::⟨some 34,none,140,.bool ((((((((r_5.2 == 0) && (r_6.2.2 == 0)) && (r_7.2 == 0)) && (r_8.2 == 0)) && (r_9.2 == 0)) && r_10) && r_11) && (r_6.2.1 == 5))⟩::⟨some 35,none,141,.bool ((((((((r_5.2 == 0) && (r_6.2.2 == 0)) && (r_7.2 == 0)) && (r_8.2 == 0)) && (r_9.2 == 0)) && r_10) && r_11) && (r_6.2.1 == 5))⟩::⟨some 36,none,142,(bif ((((((((r_5.2 == 0) && (r_6.2.2 == 0)) && (r_7.2 == 0)) && (r_8.2 == 0)) && (r_9.2 == 0)) && r_10) && r_11) && (r_6.2.1 == 5)) then .int .i64 r_7.1 else undef)⟩::⟨some 37,none,143,(bif ((((((((r_5.2 == 0) && (r_6.2.2 == 0)) && (r_7.2 == 0)) && (r_8.2 == 0)) && (r_9.2 == 0)) && r_10) && r_11) && (r_6.2.1 == 5)) then .bool (r_7.1 == 5) else undef)⟩::⟨some 38,none,144,.bool (((((((((r_5.2 == 0) && (r_6.2.2 == 0)) && (r_7.2 == 0)) && (r_8.2 == 0)) && (r_9.2 == 0)) && r_10) && r_11) && (r_6.2.1 == 5)) && (r_7.1 == 5))⟩::⟨some 39,none,145,.bool (((((((((r_5.2 == 0) && (r_6.2.2 == 0)) && (r_7.2 == 0)) && (r_8.2 == 0)) && (r_9.2 == 0)) && r_10) && r_11) && (r_6.2.1 == 5)) && (r_7.1 == 5))⟩::⟨some 40,none,146,(bif (((((((((r_5.2 == 0) && (r_6.2.2 == 0)) && (r_7.2 == 0)) && (r_8.2 == 0)) && (r_9.2 == 0)) && r_10) && r_11) && (r_6.2.1 == 5)) && (r_7.1 == 5)) then .slice p_5 r_8.1.length c_5 else undef)⟩::⟨some 41,none,147,(bif (((((((((r_5.2 == 0) && (r_6.2.2 == 0)) && (r_7.2 == 0)) && (r_8.2 == 0)) && (r_9.2 == 0)) && r_10) && r_11) && (r_6.2.1 == 5)) && (r_7.1 == 5)) then .agg #[.int .i64 2,.int .i64 3] else undef)⟩::⟨some 42,none,148,(bif (((((((((r_5.2 == 0) && (r_6.2.2 == 0)) && (r_7.2 == 0)) && (r_8.2 == 0)) && (r_9.2 == 0)) && r_10) && r_11) && (r_6.2.1 == 5)) && (r_7.1 == 5)) then .agg #[.int .i64 0,.int .i64 0] else undef)⟩::⟨some 43,none,149,(bif (((((((((r_5.2 == 0) && (r_6.2.2 == 0)) && (r_7.2 == 0)) && (r_8.2 == 0)) && (r_9.2 == 0)) && r_10) && r_11) && (r_6.2.1 == 5)) && (r_7.1 == 5)) then .agg #[.int .i64 3,.int .i64 4] else undef)⟩::⟨some 44,none,150,(bif (((((((((r_5.2 == 0) && (r_6.2.2 == 0)) && (r_7.2 == 0)) && (r_8.2 == 0)) && (r_9.2 == 0)) && r_10) && r_11) && (r_6.2.1 == 5)) && (r_7.1 == 5)) then .slice (some ⟨(θ 352).b,0,none⟩) 3 3 else undef)⟩::⟨some 45,none,151,(bif (((((((((r_5.2 == 0) && (r_6.2.2 == 0)) && (r_7.2 == 0)) && (r_8.2 == 0)) && (r_9.2 == 0)) && r_10) && r_11) && (r_6.2.1 == 5)) && (r_7.1 == 5)) then .bool r_12 else undef)⟩::⟨some 46,none,152,.bool ((((((((((r_5.2 == 0) && (r_6.2.2 == 0)) && (r_7.2 == 0)) && (r_8.2 == 0)) && (r_9.2 == 0)) && r_10) && r_11) && (r_6.2.1 == 5)) && (r_7.1 == 5)) && r_12)⟩::⟨some 47,none,153,.bool ((((((((((r_5.2 == 0) && (r_6.2.2 == 0)) && (r_7.2 == 0)) && (r_8.2 == 0)) && (r_9.2 == 0)) && r_10) && r_11) && (r_6.2.1 == 5)) && (r_7.1 == 5)) && r_12)⟩::⟨some 48,none,154,(bif ((((((((((r_5.2 == 0) && (r_6.2.2 == 0)) && (r_7.2 == 0)) && (r_8.2 == 0)) && (r_9.2 == 0)) && r_10) && r_11) && (r_6.2.1 == 5)) && (r_7.1 == 5)) && r_12) then .agg #[.int .i64 r_9.1.Lo,.int .i64 r_9.1.Hi] else undef)⟩::⟨some 49,none,155,(bif ((((((((((r_5.2 == 0) && (r_6.2.2 == 0)) && (r_7.2 == 0)) && (r_8.2 == 0)) && (r_9.2 == 0)) && r_10) && r_11) && (r_6.2.1 == 5)) && (r_7.1 == 5)) && r_12) then .agg #[.int .i64 r_13.Lo,.int .i64 r_13.Hi] else undef)⟩::⟨some 50,none,156,(bif ((((((((((r_5.2 == 0) && (r_6.2.2 == 0)) && (r_7.2 == 0)) && (r_8.2 == 0)) && (r_9.2 == 0)) && r_10) && r_11) && (r_6.2.1 == 5)) && (r_7.1 == 5)) && r_12) then .bool (r_9.1.Lo == r_13.Lo && r_9.1.Hi == r_13.Hi) else undef)⟩::⟨some 51,none,157,.bool (((((((((((r_5.2 == 0) && (r_6.2.2 == 0)) && (r_7.2 == 0)) && (r_8.2 == 0)) && (r_9.2 == 0)) && r_10) && r_11) && (r_6.2.1 == 5)) && (r_7.1 == 5)) && r_12) && (r_9.1.Lo == r_13.Lo && r_9.1.Hi == r_13.Hi))⟩::⟨some 52,none,0,.bool (((((((((((r_5.2 == 0) && (r_6.2.2 == 0)) && (r_7.2 == 0)) && (r_8.2 == 0)) && (r_9.2 == 0)) && r_10) && r_11) && (r_6.2.1 == 5)) && (r_7.1 == 5)) && r_12) && (r_9.1.Lo == r_13.Lo && r_9.1.Hi == r_13.Hi))⟩::[])) (fun E θ => (bif E 44 then (gE (((((((((r_5.2 == 0) && (r_6.2.2 == 0)) && (r_7.2 == 0)) && (r_8.2 == 0)) && (r_9.2 == 0)) && r_10) && r_11) && (r_6.2.1 == 5)) && (r_7.1 == 5)) (.row (some ⟨(θ 352).b,0,none⟩) 3 (([(⟨2,3⟩ : api_Span),(⟨0,0⟩ : api_Span),(⟨3,4⟩ : api_Span)] : List api_Span).map enc_api_Span) 50 2)) else .row none 0 [] 0 0)::(bif E 28 then (gE ((((((r_5.2 == 0) && (r_6.2.2 == 0)) && (r_7.2 == 0)) && (r_8.2 == 0)) && (r_9.2 == 0)) && r_10) (.row (some ⟨(θ 224).b,0,none⟩) 3 (([2,0,3] : List Int).map encI_i64) 3 1)) else .row none 0 [] 0 0)::(bif E 23 then (gE (((((r_5.2 == 0) && (r_6.2.2 == 0)) && (r_7.2 == 0)) && (r_8.2 == 0)) && (r_9.2 == 0)) (.row (some ⟨(θ 184).b,0,none⟩) 3 (([(⟨2,4⟩ : api_Span),(⟨0,0⟩ : api_Span),(⟨3,8⟩ : api_Span)] : List api_Span).map enc_api_Span) 50 2)) else .row none 0 [] 0 0)::.box b_7 [.int .i64 r_9.1.Lo,.int .i64 r_9.1.Hi] 50::.row p_1 c_1 (r.Rating.map enc_shift_Mark) 77 2::.row p_2 c_2 (r.Gaugings.map enc_shift_Gauging) 71 4::.row p_5 c_5 (r_8.1.map enc_api_Span) 50 2::.row (some ⟨b_6,0,none⟩) 3 (([(⟨0,false⟩ : shift_Turn),(⟨1,true⟩ : shift_Turn),(⟨2,false⟩ : shift_Turn)] : List shift_Turn).map enc_shift_Turn) 91 2::.row p_4 c_4 (r_6.1.map encI_i64) 3 1::.row p_3 c_3 (r_5.1.map enc_api_Span) 50 2::.box b_5 [.int .i64 r_4.1.N,.int .i64 r_4.1.D] 37::.box b_4 [.int .i64 r_3.1.N,.int .i64 r_3.1.D] 37::.box b_3 [.int .i64 r_2.1.N,.int .i64 r_2.1.D] 37::.box b_2 [.int .i64 r_1.1.N,.int .i64 r_1.1.D] 37::.box b_1 [.slice p_1 r.Rating.length c_1,.slice p_2 r.Gaugings.length c_2] 25::Lf) [] (fun a w => Has 158 a [(0,.bool (((((((((((r_5.2 == 0) && (r_6.2.2 == 0)) && (r_7.2 == 0)) && (r_8.2 == 0)) && (r_9.2 == 0)) && r_10) && r_11) && (r_6.2.1 == 5)) && (r_7.1 == 5)) && r_12) && (r_9.1.Lo == r_13.Lo && r_9.1.Hi == r_13.Hi)))] ∧ Ctx G (.box b_7 [.int .i64 r_9.1.Lo,.int .i64 r_9.1.Hi] 50::.row p_1 c_1 (r.Rating.map enc_shift_Mark) 77 2::.row p_2 c_2 (r.Gaugings.map enc_shift_Gauging) 71 4::.row p_5 c_5 (r_8.1.map enc_api_Span) 50 2::.row (some ⟨b_6,0,none⟩) 3 (([(⟨0,false⟩ : shift_Turn),(⟨1,true⟩ : shift_Turn),(⟨2,false⟩ : shift_Turn)] : List shift_Turn).map enc_shift_Turn) 91 2::.row p_4 c_4 (r_6.1.map encI_i64) 3 1::.row p_3 c_3 (r_5.1.map enc_api_Span) 50 2::.box b_5 [.int .i64 r_4.1.N,.int .i64 r_4.1.D] 37::.box b_4 [.int .i64 r_3.1.N,.int .i64 r_3.1.D] 37::.box b_3 [.int .i64 r_2.1.N,.int .i64 r_2.1.D] 37::.box b_2 [.int .i64 r_1.1.N,.int .i64 r_1.1.D] 37::.box b_1 [.slice p_1 r.Rating.length c_1,.slice p_2 r.Gaugings.length c_2] 25::Lf) w) follows_mx (by kernel_rfl) (by kernel_rfl) (HasE.of hf ⟨rfl,rfl,rfl,rfl,rfl,rfl,rfl,rfl,rfl,rfl,rfl,trivial,trivial,trivial,trivial,trivial,trivial,trivial,trivial,trivial,trivial,trivial,trivial,trivial,trivial,trivial,trivial,trivial,trivial,trivial,trivial,trivial,trivial,trivial,trivial,trivial,trivial,trivial,trivial,trivial,trivial,trivial,trivial,trivial,trivial,trivial,trivial,trivial,trivial,trivial,trivial,trivial,trivial,trivial,trivial,trivial,trivial,trivial,trivial,trivial,trivial,trivial,trivial,trivial,trivial⟩) hc ⟨?_,?_,?_,?_,?_,?_,?_,?_,?_,?_,?_,?_,?_,?_,?_,?_,?_,?_,?_,?_,?_,?_,?_,?_,?_,?_,?_,?_,?_,?_,?_,?_,?_,?_,?_,?_,?_,?_,?_,?_,?_,?_,?_,?_,?_,?_,?_,?_,?_,?_,?_,?_,?_,trivial⟩ ?_ ?_
  ·intro E θ a w hD hi hp he hc
   have hf := he.h0
   replace hf := hf.more he 0 rfl onT
   refine stP hf rfl rfl rfl (pM rfl) fun a hf => cNil ?_
   refine xThenN ?_
   intro ds u hau
   refine ⟨θ,he.put0 hi hau hf rfl 11 rfl rfl,?_⟩
   exact hc
  ·intro E θ a w hD hi hp he hc
   have e0 := hp.of (k := 0) rfl
   have hf := he.h0
   replace hf := hf.more he 11 rfl (onP e0)
   refine stP hf rfl rfl rfl (pEq rfl rfl) fun a hf => cNil ?_
   refine xThenN ?_
   intro ds u hau
   refine ⟨θ,he.put0 hi hau hf rfl 12 rfl rfl,?_⟩
   exact hc
  ·intro E θ a w hD hi hp he hc
   have e1 := hp.of (k := 1) rfl
   have hf := he.h0
   replace hf := hf.more he 12 rfl (onP e1)
   refine stP hf rfl rfl rfl (pM rfl) fun a hf => cNil ?_
   refine xThenN ?_
   intro ds u hau
   refine ⟨θ,he.put0 hi hau hf rfl 13 rfl rfl,?_⟩
   exact hc
  ·intro E θ a w hD hi hp he hc
   have e2 := hp.of (k := 2) rfl
   rcases boolEq (r_5.2 == 0) with hb | hb
   ·have hf := he.h0
    replace hf := hf.more he 1 rfl onT
    replace hf := hf.more he 13 rfl (onP e2)
    replace hf := castB hb hf
    refine stP hf rfl rfl rfl (pM rfl) fun a hf => ?_
    replace hf := castI (u := undef) hb hf
    refine cNil ?_
    refine xThenN ?_
    intro ds u hau
    refine ⟨θ,he.put0 hi hau hf rfl 14 rfl rfl,?_⟩
    exact hc
   ·have hf := he.h0
    replace hf := hf.more he 1 rfl onT
    replace hf := hf.more he 13 rfl (onP e2)
    replace hf := castB hb hf
    refine stS hf rfl rfl rfl fun a hf => ?_
    replace hf := castJ (u := .int .i64 r_6.2.2) hb hf
    refine cNil ?_
    refine xThenN ?_
    intro ds u hau
    refine ⟨θ,he.put0 hi hau hf rfl 14 rfl rfl,?_⟩
    exact hc
  ·intro E θ a w hD hi hp he hc
   have e2 := hp.of (k := 2) rfl
   have e3 := hp.of (k := 3) rfl
   rcases boolEq (r_5.2 == 0) with hb | hb
   ·have hf := he.h0
    replace hf := hf.more he 13 rfl (onP e2)
    replace hf := castB hb hf
    replace hf := hf.more he 14 rfl (onP e3)
    replace hf := castCT hb hf
    refine stP hf rfl rfl rfl (pEq rfl rfl) fun a hf => ?_
    replace hf := castI (u := undef) hb hf
    refine cNil ?_
    refine xThenN ?_
    intro ds u hau
    refine ⟨θ,he.put0 hi hau hf rfl 15 rfl rfl,?_⟩
    exact hc
   ·have hf := he.h0
    replace hf := hf.more he 13 rfl (onP e2)
    replace hf := castB hb hf
    replace hf := hf.more he 14 rfl (onP e3)
    replace hf := castCF hb hf
    refine stS hf rfl rfl rfl fun a hf => ?_
    replace hf := castJ (u := .bool (r_6.2.2 == 0)) hb hf
    refine cNil ?_
    refine xThenN ?_
    intro ds u hau
    refine ⟨θ,he.put0 hi hau hf rfl 15 rfl rfl,?_⟩
    exact hc
  ·intro E θ a w hD hi hp he hc
   have e2 := hp.of (k := 2) rfl
   have e4 := hp.of (k := 4) rfl
   rcases boolEq (r_5.2 == 0) with hb | hb
   ·have hf := he.h0
    replace hf := hf.more he 13 rfl (onP e2)
    replace hf := castB hb hf
    replace hf := hf.more he 15 rfl (onP e4)
    replace hf := castCT hb hf
    refine stP hf rfl rfl rfl (pPt rfl rfl) fun a hf => ?_
    replace hf := castV (v' := .bool ((r_5.2 == 0) && (r_6.2.2 == 0))) (congrArg Value.bool (andT hb)) hf
    refine cNil ?_
    refine xThenN ?_
    intro ds u hau
    refine ⟨θ,he.put0 hi hau hf rfl 16 rfl rfl,?_⟩
    exact hc
   ·have hf := he.h0
    replace hf := hf.more he 13 rfl (onP e2)
    replace hf := castB hb hf
    replace hf := hf.more he 15 rfl (onP e4)
    replace hf := castCF hb hf
    refine stP hf rfl rfl rfl (pPf rfl rfl) fun a hf => ?_
    replace hf := castV (v' := .bool ((r_5.2 == 0) && (r_6.2.2 == 0))) (congrArg Value.bool (andF hb)) hf
    refine cNil ?_
    refine xThenN ?_
    intro ds u hau
    refine ⟨θ,he.put0 hi hau hf rfl 16 rfl rfl,?_⟩
    exact hc
  ·intro E θ a w hD hi hp he hc
   have e5 := hp.of (k := 5) rfl
   have hf := he.h0
   replace hf := hf.more he 16 rfl (onP e5)
   refine stP hf rfl rfl rfl (pM rfl) fun a hf => cNil ?_
   refine xThenN ?_
   intro ds u hau
   refine ⟨θ,he.put0 hi hau hf rfl 17 rfl rfl,?_⟩
   exact hc
  ·intro E θ a w hD hi hp he hc
   have e6 := hp.of (k := 6) rfl
   rcases boolEq ((r_5.2 == 0) && (r_6.2.2 == 0)) with hb | hb
   ·have hf := he.h0
    replace hf := hf.more he 2 rfl onT
    replace hf := hf.more he 17 rfl (onP e6)
    replace hf := castB hb hf
    refine stP hf rfl rfl rfl (pM rfl) fun a hf => ?_
    replace hf := castI (u := undef) hb hf
    refine cNil ?_
    refine xThenN ?_
    intro ds u hau
    refine ⟨θ,he.put0 hi hau hf rfl 18 rfl rfl,?_⟩
    exact hc
   ·have hf := he.h0
    replace hf := hf.more he 2 rfl onT
    replace hf := hf.more he 17 rfl (onP e6)
    replace hf := castB hb hf
    refine stS hf rfl rfl rfl fun a hf => ?_
    replace hf := castJ (u := .int .i64 r_7.2) hb hf
    refine cNil ?_
    refine xThenN ?_
    intro ds u hau
    refine ⟨θ,he.put0 hi hau hf rfl 18 rfl rfl,?_⟩
    exact hc
  ·intro E θ a w hD hi hp he hc
   have e6 := hp.of (k := 6) rfl
   have e7 := hp.of (k := 7) rfl
   rcases boolEq ((r_5.2 == 0) && (r_6.2.2 == 0)) with hb | hb
   ·have hf := he.h0
    replace hf := hf.more he 17 rfl (onP e6)
    replace hf := castB hb hf
    replace hf := hf.more he 18 rfl (onP e7)
    replace hf := castCT hb hf
    refine stP hf rfl rfl rfl (pEq rfl rfl) fun a hf => ?_
    replace hf := castI (u := undef) hb hf
    refine cNil ?_
    refine xThenN ?_
    intro ds u hau
    refine ⟨θ,he.put0 hi hau hf rfl 19 rfl rfl,?_⟩
    exact hc
   ·have hf := he.h0
    replace hf := hf.more he 17 rfl (onP e6)
    replace hf := castB hb hf
    replace hf := hf.more he 18 rfl (onP e7)
    replace hf := castCF hb hf
    refine stS hf rfl rfl rfl fun a hf => ?_
    replace hf := castJ (u := .bool (r_7.2 == 0)) hb hf
    refine cNil ?_
    refine xThenN ?_
    intro ds u hau
    refine ⟨θ,he.put0 hi hau hf rfl 19 rfl rfl,?_⟩
    exact hc
  ·intro E θ a w hD hi hp he hc
   have e6 := hp.of (k := 6) rfl
   have e8 := hp.of (k := 8) rfl
   rcases boolEq ((r_5.2 == 0) && (r_6.2.2 == 0)) with hb | hb
   ·have hf := he.h0
    replace hf := hf.more he 17 rfl (onP e6)
    replace hf := castB hb hf
    replace hf := hf.more he 19 rfl (onP e8)
    replace hf := castCT hb hf
    refine stP hf rfl rfl rfl (pPt rfl rfl) fun a hf => ?_
    replace hf := castV (v' := .bool (((r_5.2 == 0) && (r_6.2.2 == 0)) && (r_7.2 == 0))) (congrArg Value.bool (andT hb)) hf
    refine cNil ?_
    refine xThenN ?_
    intro ds u hau
    refine ⟨θ,he.put0 hi hau hf rfl 20 rfl rfl,?_⟩
    exact hc
   ·have hf := he.h0
    replace hf := hf.more he 17 rfl (onP e6)
    replace hf := castB hb hf
    replace hf := hf.more he 19 rfl (onP e8)
    replace hf := castCF hb hf
    refine stP hf rfl rfl rfl (pPf rfl rfl) fun a hf => ?_
    replace hf := castV (v' := .bool (((r_5.2 == 0) && (r_6.2.2 == 0)) && (r_7.2 == 0))) (congrArg Value.bool (andF hb)) hf
    refine cNil ?_
    refine xThenN ?_
    intro ds u hau
    refine ⟨θ,he.put0 hi hau hf rfl 20 rfl rfl,?_⟩
    exact hc
  ·intro E θ a w hD hi hp he hc
   have e9 := hp.of (k := 9) rfl
   have hf := he.h0
   replace hf := hf.more he 20 rfl (onP e9)
   refine stP hf rfl rfl rfl (pM rfl) fun a hf => cNil ?_
   refine xThenN ?_
   intro ds u hau
   refine ⟨θ,he.put0 hi hau hf rfl 21 rfl rfl,?_⟩
   exact hc
  ·intro E θ a w hD hi hp he hc
   have e10 := hp.of (k := 10) rfl
   rcases boolEq (((r_5.2 == 0) && (r_6.2.2 == 0)) && (r_7.2 == 0)) with hb | hb
   ·have hf := he.h0
    replace hf := hf.more he 3 rfl onT
    replace hf := hf.more he 21 rfl (onP e10)
    replace hf := castB hb hf
    refine stP hf rfl rfl rfl (pM rfl) fun a hf => ?_
    replace hf := castI (u := undef) hb hf
    refine cNil ?_
    refine xThenN ?_
    intro ds u hau
    refine ⟨θ,he.put0 hi hau hf rfl 22 rfl rfl,?_⟩
    exact hc
   ·have hf := he.h0
    replace hf := hf.more he 3 rfl onT
    replace hf := hf.more he 21 rfl (onP e10)
    replace hf := castB hb hf
    refine stS hf rfl rfl rfl fun a hf => ?_
    replace hf := castJ (u := .int .i64 r_8.2) hb hf
    refine cNil ?_
    refine xThenN ?_
    intro ds u hau
    refine ⟨θ,he.put0 hi hau hf rfl 22 rfl rfl,?_⟩
    exact hc
  ·intro E θ a w hD hi hp he hc
   have e10 := hp.of (k := 10) rfl
   have e11 := hp.of (k := 11) rfl
   rcases boolEq (((r_5.2 == 0) && (r_6.2.2 == 0)) && (r_7.2 == 0)) with hb | hb
   ·have hf := he.h0
    replace hf := hf.more he 21 rfl (onP e10)
    replace hf := castB hb hf
    replace hf := hf.more he 22 rfl (onP e11)
    replace hf := castCT hb hf
    refine stP hf rfl rfl rfl (pEq rfl rfl) fun a hf => ?_
    replace hf := castI (u := undef) hb hf
    refine cNil ?_
    refine xThenN ?_
    intro ds u hau
    refine ⟨θ,he.put0 hi hau hf rfl 23 rfl rfl,?_⟩
    exact hc
   ·have hf := he.h0
    replace hf := hf.more he 21 rfl (onP e10)
    replace hf := castB hb hf
    replace hf := hf.more he 22 rfl (onP e11)
    replace hf := castCF hb hf
    refine stS hf rfl rfl rfl fun a hf => ?_
    replace hf := castJ (u := .bool (r_8.2 == 0)) hb hf
    refine cNil ?_
    refine xThenN ?_
    intro ds u hau
    refine ⟨θ,he.put0 hi hau hf rfl 23 rfl rfl,?_⟩
    exact hc
  ·intro E θ a w hD hi hp he hc
   have e10 := hp.of (k := 10) rfl
   have e12 := hp.of (k := 12) rfl
   rcases boolEq (((r_5.2 == 0) && (r_6.2.2 == 0)) && (r_7.2 == 0)) with hb | hb
   ·have hf := he.h0
    replace hf := hf.more he 21 rfl (onP e10)
    replace hf := castB hb hf
    replace hf := hf.more he 23 rfl (onP e12)
    replace hf := castCT hb hf
    refine stP hf rfl rfl rfl (pPt rfl rfl) fun a hf => ?_
    replace hf := castV (v' := .bool ((((r_5.2 == 0) && (r_6.2.2 == 0)) && (r_7.2 == 0)) && (r_8.2 == 0))) (congrArg Value.bool (andT hb)) hf
    refine cNil ?_
    refine xThenN ?_
    intro ds u hau
    refine ⟨θ,he.put0 hi hau hf rfl 24 rfl rfl,?_⟩
    exact hc
   ·have hf := he.h0
    replace hf := hf.more he 21 rfl (onP e10)
    replace hf := castB hb hf
    replace hf := hf.more he 23 rfl (onP e12)
    replace hf := castCF hb hf
    refine stP hf rfl rfl rfl (pPf rfl rfl) fun a hf => ?_
    replace hf := castV (v' := .bool ((((r_5.2 == 0) && (r_6.2.2 == 0)) && (r_7.2 == 0)) && (r_8.2 == 0))) (congrArg Value.bool (andF hb)) hf
    refine cNil ?_
    refine xThenN ?_
    intro ds u hau
    refine ⟨θ,he.put0 hi hau hf rfl 24 rfl rfl,?_⟩
    exact hc
  ·intro E θ a w hD hi hp he hc
   have e13 := hp.of (k := 13) rfl
   have hf := he.h0
   replace hf := hf.more he 24 rfl (onP e13)
   refine stP hf rfl rfl rfl (pM rfl) fun a hf => cNil ?_
   refine xThenN ?_
   intro ds u hau
   refine ⟨θ,he.put0 hi hau hf rfl 25 rfl rfl,?_⟩
   exact hc
  ·intro E θ a w hD hi hp he hc
   have e14 := hp.of (k := 14) rfl
   rcases boolEq ((((r_5.2 == 0) && (r_6.2.2 == 0)) && (r_7.2 == 0)) && (r_8.2 == 0)) with hb | hb
   ·have hf := he.h0
    replace hf := hf.more he 10 rfl onT
    replace hf := hf.more he 25 rfl (onP e14)
    replace hf := castB hb hf
    refine stP hf rfl rfl rfl (pM rfl) fun a hf => ?_
    replace hf := castI (u := undef) hb hf
    refine cNil ?_
    refine xThenN ?_
    intro ds u hau
    refine ⟨θ,he.put0 hi hau hf rfl 26 rfl rfl,?_⟩
    exact hc
   ·have hf := he.h0
    replace hf := hf.more he 10 rfl onT
    replace hf := hf.more he 25 rfl (onP e14)
    replace hf := castB hb hf
    refine stS hf rfl rfl rfl fun a hf => ?_
    replace hf := castJ (u := .int .i64 r_9.2) hb hf
    refine cNil ?_
    refine xThenN ?_
    intro ds u hau
    refine ⟨θ,he.put0 hi hau hf rfl 26 rfl rfl,?_⟩
    exact hc
  ·intro E θ a w hD hi hp he hc
   have e14 := hp.of (k := 14) rfl
   have e15 := hp.of (k := 15) rfl
   rcases boolEq ((((r_5.2 == 0) && (r_6.2.2 == 0)) && (r_7.2 == 0)) && (r_8.2 == 0)) with hb | hb
   ·have hf := he.h0
    replace hf := hf.more he 25 rfl (onP e14)
    replace hf := castB hb hf
    replace hf := hf.more he 26 rfl (onP e15)
    replace hf := castCT hb hf
    refine stP hf rfl rfl rfl (pEq rfl rfl) fun a hf => ?_
    replace hf := castI (u := undef) hb hf
    refine cNil ?_
    refine xThenN ?_
    intro ds u hau
    refine ⟨θ,he.put0 hi hau hf rfl 27 rfl rfl,?_⟩
    exact hc
   ·have hf := he.h0
    replace hf := hf.more he 25 rfl (onP e14)
    replace hf := castB hb hf
    replace hf := hf.more he 26 rfl (onP e15)
    replace hf := castCF hb hf
    refine stS hf rfl rfl rfl fun a hf => ?_
    replace hf := castJ (u := .bool (r_9.2 == 0)) hb hf
    refine cNil ?_
    refine xThenN ?_
    intro ds u hau
    refine ⟨θ,he.put0 hi hau hf rfl 27 rfl rfl,?_⟩
    exact hc
  ·intro E θ a w hD hi hp he hc
   have e14 := hp.of (k := 14) rfl
   have e16 := hp.of (k := 16) rfl
   rcases boolEq ((((r_5.2 == 0) && (r_6.2.2 == 0)) && (r_7.2 == 0)) && (r_8.2 == 0)) with hb | hb
   ·have hf := he.h0
    replace hf := hf.more he 25 rfl (onP e14)
    replace hf := castB hb hf
    replace hf := hf.more he 27 rfl (onP e16)
    replace hf := castCT hb hf
    refine stP hf rfl rfl rfl (pPt rfl rfl) fun a hf => ?_
    replace hf := castV (v' := .bool (((((r_5.2 == 0) && (r_6.2.2 == 0)) && (r_7.2 == 0)) && (r_8.2 == 0)) && (r_9.2 == 0))) (congrArg Value.bool (andT hb)) hf
    refine cNil ?_
    refine xThenN ?_
    intro ds u hau
    refine ⟨θ,he.put0 hi hau hf rfl 28 rfl rfl,?_⟩
    exact hc
   ·have hf := he.h0
    replace hf := hf.more he 25 rfl (onP e14)
    replace hf := castB hb hf
    replace hf := hf.more he 27 rfl (onP e16)
    replace hf := castCF hb hf
    refine stP hf rfl rfl rfl (pPf rfl rfl) fun a hf => ?_
    replace hf := castV (v' := .bool (((((r_5.2 == 0) && (r_6.2.2 == 0)) && (r_7.2 == 0)) && (r_8.2 == 0)) && (r_9.2 == 0))) (congrArg Value.bool (andF hb)) hf
    refine cNil ?_
    refine xThenN ?_
    intro ds u hau
    refine ⟨θ,he.put0 hi hau hf rfl 28 rfl rfl,?_⟩
    exact hc
  ·intro E θ a w hD hi hp he hc
   have e17 := hp.of (k := 17) rfl
   have hf := he.h0
   replace hf := hf.more he 28 rfl (onP e17)
   refine stP hf rfl rfl rfl (pM rfl) fun a hf => cNil ?_
   refine xThenN ?_
   intro ds u hau
   refine ⟨θ,he.put0 hi hau hf rfl 29 rfl rfl,?_⟩
   exact hc
  ·intro E θ a w hD hi hp he hc
   have e18 := hp.of (k := 18) rfl
   rcases boolEq (((((r_5.2 == 0) && (r_6.2.2 == 0)) && (r_7.2 == 0)) && (r_8.2 == 0)) && (r_9.2 == 0)) with hb | hb
   ·have hf := he.h0
    replace hf := hf.more he 4 rfl onT
    replace hf := hf.more he 29 rfl (onP e18)
    replace hf := castB hb hf
    refine stP hf rfl rfl rfl (pM rfl) fun a hf => ?_
    replace hf := castI (u := undef) hb hf
    refine cNil ?_
    refine xThenN ?_
    intro ds u hau
    refine ⟨θ,he.put0 hi hau hf rfl 30 rfl rfl,?_⟩
    exact hc
   ·have hf := he.h0
    replace hf := hf.more he 4 rfl onT
    replace hf := hf.more he 29 rfl (onP e18)
    replace hf := castB hb hf
    refine stS hf rfl rfl rfl fun a hf => ?_
    replace hf := castJ (u := .slice p_3 r_5.1.length c_3) hb hf
    refine cNil ?_
    refine xThenN ?_
    intro ds u hau
    refine ⟨θ,he.put0 hi hau hf rfl 30 rfl rfl,?_⟩
    exact hc
  ·intro E θ a w hD hi hp he hc
   have e18 := hp.of (k := 18) rfl
   rcases boolEq (((((r_5.2 == 0) && (r_6.2.2 == 0)) && (r_7.2 == 0)) && (r_8.2 == 0)) && (r_9.2 == 0)) with hb | hb
   ·have hf := he.h0
    replace hf := hf.more he 29 rfl (onP e18)
    replace hf := castB hb hf
    refine stP hf rfl rfl rfl (pBuildS (cells := [.int .i64 2,.int .i64 4]) bt_50 rfl rfl) fun a hf => ?_
    replace hf := castI (u := undef) hb hf
    refine cNil ?_
    refine xThenN ?_
    intro ds u hau
    refine ⟨θ,he.put0 hi hau hf rfl 31 rfl rfl,?_⟩
    exact hc
   ·have hf := he.h0
    replace hf := hf.more he 29 rfl (onP e18)
    replace hf := castB hb hf
    refine stS hf rfl rfl rfl fun a hf => ?_
    replace hf := castJ (u := .agg #[.int .i64 2,.int .i64 4]) hb hf
    refine cNil ?_
    refine xThenN ?_
    intro ds u hau
    refine ⟨θ,he.put0 hi hau hf rfl 31 rfl rfl,?_⟩
    exact hc
  ·intro E θ a w hD hi hp he hc
   have e18 := hp.of (k := 18) rfl
   rcases boolEq (((((r_5.2 == 0) && (r_6.2.2 == 0)) && (r_7.2 == 0)) && (r_8.2 == 0)) && (r_9.2 == 0)) with hb | hb
   ·have hf := he.h0
    replace hf := hf.more he 29 rfl (onP e18)
    replace hf := castB hb hf
    refine stP hf rfl rfl rfl (pBuildS (cells := [.int .i64 0,.int .i64 0]) bt_50 rfl rfl) fun a hf => ?_
    replace hf := castI (u := undef) hb hf
    refine cNil ?_
    refine xThenN ?_
    intro ds u hau
    refine ⟨θ,he.put0 hi hau hf rfl 32 rfl rfl,?_⟩
    exact hc
   ·have hf := he.h0
    replace hf := hf.more he 29 rfl (onP e18)
    replace hf := castB hb hf
    refine stS hf rfl rfl rfl fun a hf => ?_
    replace hf := castJ (u := .agg #[.int .i64 0,.int .i64 0]) hb hf
    refine cNil ?_
    refine xThenN ?_
    intro ds u hau
    refine ⟨θ,he.put0 hi hau hf rfl 32 rfl rfl,?_⟩
    exact hc
  ·intro E θ a w hD hi hp he hc
   have e18 := hp.of (k := 18) rfl
   rcases boolEq (((((r_5.2 == 0) && (r_6.2.2 == 0)) && (r_7.2 == 0)) && (r_8.2 == 0)) && (r_9.2 == 0)) with hb | hb
   ·have hf := he.h0
    replace hf := hf.more he 29 rfl (onP e18)
    replace hf := castB hb hf
    refine stP hf rfl rfl rfl (pBuildS (cells := [.int .i64 3,.int .i64 8]) bt_50 rfl rfl) fun a hf => ?_
    replace hf := castI (u := undef) hb hf
    refine cNil ?_
    refine xThenN ?_
    intro ds u hau
    refine ⟨θ,he.put0 hi hau hf rfl 33 rfl rfl,?_⟩
    exact hc
   ·have hf := he.h0
    replace hf := hf.more he 29 rfl (onP e18)
    replace hf := castB hb hf
    refine stS hf rfl rfl rfl fun a hf => ?_
    replace hf := castJ (u := .agg #[.int .i64 3,.int .i64 8]) hb hf
    refine cNil ?_
    refine xThenN ?_
    intro ds u hau
    refine ⟨θ,he.put0 hi hau hf rfl 33 rfl rfl,?_⟩
    exact hc
  ·intro E θ a w hD hi hp he hc
   have e18 := hp.of (k := 18) rfl
   have e20 := hp.of (k := 20) rfl
   have e21 := hp.of (k := 21) rfl
   have e22 := hp.of (k := 22) rfl
   try dsimp only at hc
   rw [hi] at hc
   rcases boolEq (((((r_5.2 == 0) && (r_6.2.2 == 0)) && (r_7.2 == 0)) && (r_8.2 == 0)) && (r_9.2 == 0)) with hb | hb
   ·have hf := he.h0
    replace hf := hf.more he 29 rfl (onP e18)
    replace hf := castB hb hf
    replace hf := hf.more he 31 rfl (onP e20)
    replace hf := castCT hb hf
    replace hf := hf.more he 32 rfl (onP e21)
    replace hf := castCT hb hf
    replace hf := hf.more he 33 rfl (onP e22)
    replace hf := castCT hb hf
    refine stBS (rows := ([(⟨2,4⟩ : api_Span),(⟨0,0⟩ : api_Span),(⟨3,8⟩ : api_Span)] : List api_Span).map enc_api_Span) (vs := [(0,.agg #[.int .i64 2,.int .i64 4]),(1,.agg #[.int .i64 0,.int .i64 0]),(2,.agg #[.int .i64 3,.int .i64 8])]) hf hc rfl rfl sl_44 rfl ⟨rfl,rfl,rfl,rfl,rfl,rfl,rfl,rfl,rfl,trivial⟩ rfl rfl fun b_8 a w hf hc => ?_
    replace hf := castI (u := undef) hb hf
    refine cNil ?_
    refine xThenN ?_
    intro ds u hau
    replace hc := hc.drop k3
    replace hc := hc.pick k0
    replace hc := hc.pick k2
    replace hc := hc.pick k2
    refine ⟨(setT θ 184 ⟨b_8,none,0⟩),he.put hi hau hf rfl [] trivial ⟨qq,qq,qq,qq,qq,qq,qq,qq,qq,qq,qq,qq,qq,qq,qq,qq,qq,qq,qq,qq,qq,qq,qq,qq,qq,qq,qq,qq,qq,qq,qq,qq,qq,qq,qq,qq,qq,qq,qq,qq,qq,qq,qq,qq,qq,qq,qq,qq,qq,qq,qq,qq,qq,qq,qq,qq,qq,qq,qq,qq,qq,qq,qq,qq,trivial⟩,?_⟩
    try dsimp only
    rw [updE_self E 23]
    rw [gE_T hb]
    exact hc
   ·have hf := he.h0
    replace hf := hf.more he 29 rfl (onP e18)
    replace hf := castB hb hf
    replace hf := hf.more he 31 rfl (onP e20)
    replace hf := castCF hb hf
    replace hf := hf.more he 32 rfl (onP e21)
    replace hf := castCF hb hf
    replace hf := hf.more he 33 rfl (onP e22)
    replace hf := castCF hb hf
    refine stS hf rfl rfl rfl fun a hf => ?_
    replace hf := castJ (u := .slice (some ⟨(θ 184).b,0,none⟩) 3 3) hb hf
    refine cNil ?_
    refine xThenN ?_
    intro ds u hau
    refine ⟨θ,he.put0 hi hau hf rfl 34 rfl rfl,?_⟩
    try dsimp only
    rw [updE_self E 23]
    rw [gE_F hb]
    exact hc
  ·intro E θ a w hD hi hp he hc
   have e18 := hp.of (k := 18) rfl
   have e19 := hp.of (k := 19) rfl
   have e23 := hp.of (k := 23) rfl
   try dsimp only at hc
   rw [e23] at hc
   rcases boolEq (((((r_5.2 == 0) && (r_6.2.2 == 0)) && (r_7.2 == 0)) && (r_8.2 == 0)) && (r_9.2 == 0)) with hb | hb
   ·have hf := he.h0
    replace hf := hf.more he 29 rfl (onP e18)
    replace hf := castB hb hf
    replace hf := hf.more he 30 rfl (onP e19)
    replace hf := castCT hb hf
    replace hf := hf.more he 34 rfl (onP e23)
    replace hf := castCT hb hf
    rw [gE_T hb] at hc
    refine stE hf hc rfl rfl rfl (eC (v := .bool r_10) (vs := [.slice p_3 r_5.1.length c_3,.slice (some ⟨(θ 184).b,0,none⟩) 3 3]) (caps := []) en_24 rfl rfl rfl rfl (fun w hc => by obtain ⟨G1,hle1,hrd1,hc,hth1⟩ := lend hc k9; obtain ⟨G2,hle2,hrd2,hc,hth2⟩ := lend hc k2; exact (kit_Same_api_Span_ok r_5.1 ([(⟨2,4⟩ : api_Span),(⟨0,0⟩ : api_Span),(⟨3,8⟩ : api_Span)] : List api_Span) (hrd1.mono hle2) hrd2 hc (condT hb hr_10)).mono fun e w h => ⟨h.1,((hth1 _ _ ((hth2 _ _ h.2).unpick k2)).unpick k9)⟩)) fun a w hf hc => ?_
    replace hf := castI (u := undef) hb hf
    refine cNil ?_
    refine xThenN ?_
    intro ds u hau
    refine ⟨θ,he.put0 hi hau hf rfl 35 rfl rfl,?_⟩
    try dsimp only
    rw [updE_tru 24 e23]
    rw [gE_T hb]
    exact hc
   ·have hf := he.h0
    replace hf := hf.more he 29 rfl (onP e18)
    replace hf := castB hb hf
    replace hf := hf.more he 30 rfl (onP e19)
    replace hf := castCF hb hf
    replace hf := hf.more he 34 rfl (onP e23)
    replace hf := castCF hb hf
    rw [gE_F hb] at hc
    refine stS hf rfl rfl rfl fun a hf => ?_
    replace hf := castJ (u := .bool r_10) hb hf
    refine cNil ?_
    refine xThenN ?_
    intro ds u hau
    refine ⟨θ,he.put0 hi hau hf rfl 35 rfl rfl,?_⟩
    try dsimp only
    rw [updE_tru 24 e23]
    rw [gE_F hb]
    exact hc
  ·intro E θ a w hD hi hp he hc
   have e18 := hp.of (k := 18) rfl
   have e24 := hp.of (k := 24) rfl
   rcases boolEq (((((r_5.2 == 0) && (r_6.2.2 == 0)) && (r_7.2 == 0)) && (r_8.2 == 0)) && (r_9.2 == 0)) with hb | hb
   ·have hf := he.h0
    replace hf := hf.more he 29 rfl (onP e18)
    replace hf := castB hb hf
    replace hf := hf.more he 35 rfl (onP e24)
    replace hf := castCT hb hf
    refine stP hf rfl rfl rfl (pPt rfl rfl) fun a hf => ?_
    replace hf := castV (v' := .bool ((((((r_5.2 == 0) && (r_6.2.2 == 0)) && (r_7.2 == 0)) && (r_8.2 == 0)) && (r_9.2 == 0)) && r_10)) (congrArg Value.bool (andT hb)) hf
    refine cNil ?_
    refine xThenN ?_
    intro ds u hau
    refine ⟨θ,he.put0 hi hau hf rfl 36 rfl rfl,?_⟩
    exact hc
   ·have hf := he.h0
    replace hf := hf.more he 29 rfl (onP e18)
    replace hf := castB hb hf
    replace hf := hf.more he 35 rfl (onP e24)
    replace hf := castCF hb hf
    refine stP hf rfl rfl rfl (pPf rfl rfl) fun a hf => ?_
    replace hf := castV (v' := .bool ((((((r_5.2 == 0) && (r_6.2.2 == 0)) && (r_7.2 == 0)) && (r_8.2 == 0)) && (r_9.2 == 0)) && r_10)) (congrArg Value.bool (andF hb)) hf
    refine cNil ?_
    refine xThenN ?_
    intro ds u hau
    refine ⟨θ,he.put0 hi hau hf rfl 36 rfl rfl,?_⟩
    exact hc
  ·intro E θ a w hD hi hp he hc
   have e25 := hp.of (k := 25) rfl
   have hf := he.h0
   replace hf := hf.more he 36 rfl (onP e25)
   refine stP hf rfl rfl rfl (pM rfl) fun a hf => cNil ?_
   refine xThenN ?_
   intro ds u hau
   refine ⟨θ,he.put0 hi hau hf rfl 37 rfl rfl,?_⟩
   exact hc
  ·intro E θ a w hD hi hp he hc
   have e26 := hp.of (k := 26) rfl
   rcases boolEq ((((((r_5.2 == 0) && (r_6.2.2 == 0)) && (r_7.2 == 0)) && (r_8.2 == 0)) && (r_9.2 == 0)) && r_10) with hb | hb
   ·have hf := he.h0
    replace hf := hf.more he 5 rfl onT
    replace hf := hf.more he 37 rfl (onP e26)
    replace hf := castB hb hf
    refine stP hf rfl rfl rfl (pM rfl) fun a hf => ?_
    replace hf := castI (u := undef) hb hf
    refine cNil ?_
    refine xThenN ?_
    intro ds u hau
    refine ⟨θ,he.put0 hi hau hf rfl 38 rfl rfl,?_⟩
    exact hc
   ·have hf := he.h0
    replace hf := hf.more he 5 rfl onT
    replace hf := hf.more he 37 rfl (onP e26)
    replace hf := castB hb hf
    refine stS hf rfl rfl rfl fun a hf => ?_
    replace hf := castJ (u := .slice p_4 r_6.1.length c_4) hb hf
    refine cNil ?_
    refine xThenN ?_
    intro ds u hau
    refine ⟨θ,he.put0 hi hau hf rfl 38 rfl rfl,?_⟩
    exact hc
  ·intro E θ a w hD hi hp he hc
   have e26 := hp.of (k := 26) rfl
   try dsimp only at hc
   rw [hi] at hc
   rcases boolEq ((((((r_5.2 == 0) && (r_6.2.2 == 0)) && (r_7.2 == 0)) && (r_8.2 == 0)) && (r_9.2 == 0)) && r_10) with hb | hb
   ·have hf := he.h0
    replace hf := hf.more he 37 rfl (onP e26)
    replace hf := castB hb hf
    refine stBS (rows := ([2,0,3] : List Int).map encI_i64) (vs := [(0,.int .i64 2),(1,.int .i64 0),(2,.int .i64 3)]) hf hc rfl rfl sl_61 rfl ⟨rfl,rfl,rfl,rfl,rfl,rfl,rfl,rfl,rfl,trivial⟩ rfl rfl fun b_9 a w hf hc => ?_
    replace hf := castI (u := undef) hb hf
    refine cNil ?_
    refine xThenN ?_
    intro ds u hau
    replace hc := hc.drop k2
    replace hc := hc.pick k0
    replace hc := hc.pick k1
    refine ⟨(setT θ 224 ⟨b_9,none,0⟩),he.put hi hau hf rfl [] trivial ⟨qq,qq,qq,qq,qq,qq,qq,qq,qq,qq,qq,qq,qq,qq,qq,qq,qq,qq,qq,qq,qq,qq,qq,qq,qq,qq,qq,qq,qq,qq,qq,qq,qq,qq,qq,qq,qq,qq,qq,qq,qq,qq,qq,qq,qq,qq,qq,qq,qq,qq,qq,qq,qq,qq,qq,qq,qq,qq,qq,qq,qq,qq,qq,qq,trivial⟩,?_⟩
    try dsimp only
    rw [updE_self E 28]
    rw [gE_T hb]
    exact hc
   ·have hf := he.h0
    replace hf := hf.more he 37 rfl (onP e26)
    replace hf := castB hb hf
    refine stS hf rfl rfl rfl fun a hf => ?_
    replace hf := castJ (u := .slice (some ⟨(θ 224).b,0,none⟩) 3 3) hb hf
    refine cNil ?_
    refine xThenN ?_
    intro ds u hau
    refine ⟨θ,he.put0 hi hau hf rfl 39 rfl rfl,?_⟩
    try dsimp only
    rw [updE_self E 28]
    rw [gE_F hb]
    exact hc
  ·intro E θ a w hD hi hp he hc
   have e26 := hp.of (k := 26) rfl
   have e27 := hp.of (k := 27) rfl
   have e28 := hp.of (k := 28) rfl
   try dsimp only at hc
   rw [e28] at hc
   rcases boolEq ((((((r_5.2 == 0) && (r_6.2.2 == 0)) && (r_7.2 == 0)) && (r_8.2 == 0)) && (r_9.2 == 0)) && r_10) with hb | hb
   ·have hf := he.h0
    replace hf := hf.more he 37 rfl (onP e26)
    replace hf := castB hb hf
    replace hf := hf.more he 38 rfl (onP e27)
    replace hf := castCT hb hf
    replace hf := hf.more he 39 rfl (onP e28)
    replace hf := castCT hb hf
    rw [gE_T hb] at hc
    refine stE hf hc rfl rfl rfl (eC (v := .bool r_11) (vs := [.slice p_4 r_6.1.length c_4,.slice (some ⟨(θ 224).b,0,none⟩) 3 3]) (caps := []) en_56 rfl rfl rfl rfl (fun w hc => by obtain ⟨G1,hle1,hrd1,hc,hth1⟩ := lend hc k8; obtain ⟨G2,hle2,hrd2,hc,hth2⟩ := lend hc k1; exact (kit_Same_int_ok r_6.1 ([2,0,3] : List Int) (hrd1.mono hle2) hrd2 hc (condT hb hr_11)).mono fun e w h => ⟨h.1,((hth1 _ _ ((hth2 _ _ h.2).unpick k1)).unpick k8)⟩)) fun a w hf hc => ?_
    replace hf := castI (u := undef) hb hf
    refine cNil ?_
    refine xThenN ?_
    intro ds u hau
    refine ⟨θ,he.put0 hi hau hf rfl 40 rfl rfl,?_⟩
    try dsimp only
    rw [updE_tru 29 e28]
    rw [gE_T hb]
    exact hc
   ·have hf := he.h0
    replace hf := hf.more he 37 rfl (onP e26)
    replace hf := castB hb hf
    replace hf := hf.more he 38 rfl (onP e27)
    replace hf := castCF hb hf
    replace hf := hf.more he 39 rfl (onP e28)
    replace hf := castCF hb hf
    rw [gE_F hb] at hc
    refine stS hf rfl rfl rfl fun a hf => ?_
    replace hf := castJ (u := .bool r_11) hb hf
    refine cNil ?_
    refine xThenN ?_
    intro ds u hau
    refine ⟨θ,he.put0 hi hau hf rfl 40 rfl rfl,?_⟩
    try dsimp only
    rw [updE_tru 29 e28]
    rw [gE_F hb]
    exact hc
  ·intro E θ a w hD hi hp he hc
   have e26 := hp.of (k := 26) rfl
   have e29 := hp.of (k := 29) rfl
   rcases boolEq ((((((r_5.2 == 0) && (r_6.2.2 == 0)) && (r_7.2 == 0)) && (r_8.2 == 0)) && (r_9.2 == 0)) && r_10) with hb | hb
   ·have hf := he.h0
    replace hf := hf.more he 37 rfl (onP e26)
    replace hf := castB hb hf
    replace hf := hf.more he 40 rfl (onP e29)
    replace hf := castCT hb hf
    refine stP hf rfl rfl rfl (pPt rfl rfl) fun a hf => ?_
    replace hf := castV (v' := .bool (((((((r_5.2 == 0) && (r_6.2.2 == 0)) && (r_7.2 == 0)) && (r_8.2 == 0)) && (r_9.2 == 0)) && r_10) && r_11)) (congrArg Value.bool (andT hb)) hf
    refine cNil ?_
    refine xThenN ?_
    intro ds u hau
    refine ⟨θ,he.put0 hi hau hf rfl 41 rfl rfl,?_⟩
    exact hc
   ·have hf := he.h0
    replace hf := hf.more he 37 rfl (onP e26)
    replace hf := castB hb hf
    replace hf := hf.more he 40 rfl (onP e29)
    replace hf := castCF hb hf
    refine stP hf rfl rfl rfl (pPf rfl rfl) fun a hf => ?_
    replace hf := castV (v' := .bool (((((((r_5.2 == 0) && (r_6.2.2 == 0)) && (r_7.2 == 0)) && (r_8.2 == 0)) && (r_9.2 == 0)) && r_10) && r_11)) (congrArg Value.bool (andF hb)) hf
    refine cNil ?_
    refine xThenN ?_
    intro ds u hau
    refine ⟨θ,he.put0 hi hau hf rfl 41 rfl rfl,?_⟩
    exact hc
  ·intro E θ a w hD hi hp he hc
   have e30 := hp.of (k := 30) rfl
   have hf := he.h0
   replace hf := hf.more he 41 rfl (onP e30)
   refine stP hf rfl rfl rfl (pM rfl) fun a hf => cNil ?_
   refine xThenN ?_
   intro ds u hau
   refine ⟨θ,he.put0 hi hau hf rfl 42 rfl rfl,?_⟩
   exact hc
  ·intro E θ a w hD hi hp he hc
   have e31 := hp.of (k := 31) rfl
   rcases boolEq (((((((r_5.2 == 0) && (r_6.2.2 == 0)) && (r_7.2 == 0)) && (r_8.2 == 0)) && (r_9.2 == 0)) && r_10) && r_11) with hb | hb
   ·have hf := he.h0
    replace hf := hf.more he 6 rfl onT
    replace hf := hf.more he 42 rfl (onP e31)
    replace hf := castB hb hf
    refine stP hf rfl rfl rfl (pM rfl) fun a hf => ?_
    replace hf := castI (u := undef) hb hf
    refine cNil ?_
    refine xThenN ?_
    intro ds u hau
    refine ⟨θ,he.put0 hi hau hf rfl 43 rfl rfl,?_⟩
    exact hc
   ·have hf := he.h0
    replace hf := hf.more he 6 rfl onT
    replace hf := hf.more he 42 rfl (onP e31)
    replace hf := castB hb hf
    refine stS hf rfl rfl rfl fun a hf => ?_
    replace hf := castJ (u := .int .i64 r_6.2.1) hb hf
    refine cNil ?_
    refine xThenN ?_
    intro ds u hau
    refine ⟨θ,he.put0 hi hau hf rfl 43 rfl rfl,?_⟩
    exact hc
  ·intro E θ a w hD hi hp he hc
   have e31 := hp.of (k := 31) rfl
   have e32 := hp.of (k := 32) rfl
   rcases boolEq (((((((r_5.2 == 0) && (r_6.2.2 == 0)) && (r_7.2 == 0)) && (r_8.2 == 0)) && (r_9.2 == 0)) && r_10) && r_11) with hb | hb
   ·have hf := he.h0
    replace hf := hf.more he 42 rfl (onP e31)
    replace hf := castB hb hf
    replace hf := hf.more he 43 rfl (onP e32)
    replace hf := castCT hb hf
    refine stP hf rfl rfl rfl (pEq rfl rfl) fun a hf => ?_
    replace hf := castI (u := undef) hb hf
    refine cNil ?_
    refine xThenN ?_
    intro ds u hau
    refine ⟨θ,he.put0 hi hau hf rfl 44 rfl rfl,?_⟩
    exact hc
   ·have hf := he.h0
    replace hf := hf.more he 42 rfl (onP e31)
    replace hf := castB hb hf
    replace hf := hf.more he 43 rfl (onP e32)
    replace hf := castCF hb hf
    refine stS hf rfl rfl rfl fun a hf => ?_
    replace hf := castJ (u := .bool (r_6.2.1 == 5)) hb hf
    refine cNil ?_
    refine xThenN ?_
    intro ds u hau
    refine ⟨θ,he.put0 hi hau hf rfl 44 rfl rfl,?_⟩
    exact hc
  ·intro E θ a w hD hi hp he hc
   have e31 := hp.of (k := 31) rfl
   have e33 := hp.of (k := 33) rfl
   rcases boolEq (((((((r_5.2 == 0) && (r_6.2.2 == 0)) && (r_7.2 == 0)) && (r_8.2 == 0)) && (r_9.2 == 0)) && r_10) && r_11) with hb | hb
   ·have hf := he.h0
    replace hf := hf.more he 42 rfl (onP e31)
    replace hf := castB hb hf
    replace hf := hf.more he 44 rfl (onP e33)
    replace hf := castCT hb hf
    refine stP hf rfl rfl rfl (pPt rfl rfl) fun a hf => ?_
    replace hf := castV (v' := .bool ((((((((r_5.2 == 0) && (r_6.2.2 == 0)) && (r_7.2 == 0)) && (r_8.2 == 0)) && (r_9.2 == 0)) && r_10) && r_11) && (r_6.2.1 == 5))) (congrArg Value.bool (andT hb)) hf
    refine cNil ?_
    refine xThenN ?_
    intro ds u hau
    refine ⟨θ,he.put0 hi hau hf rfl 45 rfl rfl,?_⟩
    exact hc
   ·have hf := he.h0
    replace hf := hf.more he 42 rfl (onP e31)
    replace hf := castB hb hf
    replace hf := hf.more he 44 rfl (onP e33)
    replace hf := castCF hb hf
    refine stP hf rfl rfl rfl (pPf rfl rfl) fun a hf => ?_
    replace hf := castV (v' := .bool ((((((((r_5.2 == 0) && (r_6.2.2 == 0)) && (r_7.2 == 0)) && (r_8.2 == 0)) && (r_9.2 == 0)) && r_10) && r_11) && (r_6.2.1 == 5))) (congrArg Value.bool (andF hb)) hf
    refine cNil ?_
    refine xThenN ?_
    intro ds u hau
    refine ⟨θ,he.put0 hi hau hf rfl 45 rfl rfl,?_⟩
    exact hc
  ·intro E θ a w hD hi hp he hc
   have e34 := hp.of (k := 34) rfl
   have hf := he.h0
   replace hf := hf.more he 45 rfl (onP e34)
   refine stP hf rfl rfl rfl (pM rfl) fun a hf => cNil ?_
   refine xThenN ?_
   intro ds u hau
   refine ⟨θ,he.put0 hi hau hf rfl 46 rfl rfl,?_⟩
   exact hc
  ·intro E θ a w hD hi hp he hc
   have e35 := hp.of (k := 35) rfl
   rcases boolEq ((((((((r_5.2 == 0) && (r_6.2.2 == 0)) && (r_7.2 == 0)) && (r_8.2 == 0)) && (r_9.2 == 0)) && r_10) && r_11) && (r_6.2.1 == 5)) with hb | hb
   ·have hf := he.h0
    replace hf := hf.more he 7 rfl onT
    replace hf := hf.more he 46 rfl (onP e35)
    replace hf := castB hb hf
    refine stP hf rfl rfl rfl (pM rfl) fun a hf => ?_
    replace hf := castI (u := undef) hb hf
    refine cNil ?_
    refine xThenN ?_
    intro ds u hau
    refine ⟨θ,he.put0 hi hau hf rfl 47 rfl rfl,?_⟩
    exact hc
   ·have hf := he.h0
    replace hf := hf.more he 7 rfl onT
    replace hf := hf.more he 46 rfl (onP e35)
    replace hf := castB hb hf
    refine stS hf rfl rfl rfl fun a hf => ?_
    replace hf := castJ (u := .int .i64 r_7.1) hb hf
    refine cNil ?_
    refine xThenN ?_
    intro ds u hau
    refine ⟨θ,he.put0 hi hau hf rfl 47 rfl rfl,?_⟩
    exact hc
  ·intro E θ a w hD hi hp he hc
   have e35 := hp.of (k := 35) rfl
   have e36 := hp.of (k := 36) rfl
   rcases boolEq ((((((((r_5.2 == 0) && (r_6.2.2 == 0)) && (r_7.2 == 0)) && (r_8.2 == 0)) && (r_9.2 == 0)) && r_10) && r_11) && (r_6.2.1 == 5)) with hb | hb
   ·have hf := he.h0
    replace hf := hf.more he 46 rfl (onP e35)
    replace hf := castB hb hf
    replace hf := hf.more he 47 rfl (onP e36)
    replace hf := castCT hb hf
    refine stP hf rfl rfl rfl (pEq rfl rfl) fun a hf => ?_
    replace hf := castI (u := undef) hb hf
    refine cNil ?_
    refine xThenN ?_
    intro ds u hau
    refine ⟨θ,he.put0 hi hau hf rfl 48 rfl rfl,?_⟩
    exact hc
   ·have hf := he.h0
    replace hf := hf.more he 46 rfl (onP e35)
    replace hf := castB hb hf
    replace hf := hf.more he 47 rfl (onP e36)
    replace hf := castCF hb hf
    refine stS hf rfl rfl rfl fun a hf => ?_
    replace hf := castJ (u := .bool (r_7.1 == 5)) hb hf
    refine cNil ?_
    refine xThenN ?_
    intro ds u hau
    refine ⟨θ,he.put0 hi hau hf rfl 48 rfl rfl,?_⟩
    exact hc
  ·intro E θ a w hD hi hp he hc
   have e35 := hp.of (k := 35) rfl
   have e37 := hp.of (k := 37) rfl
   rcases boolEq ((((((((r_5.2 == 0) && (r_6.2.2 == 0)) && (r_7.2 == 0)) && (r_8.2 == 0)) && (r_9.2 == 0)) && r_10) && r_11) && (r_6.2.1 == 5)) with hb | hb
   ·have hf := he.h0
    replace hf := hf.more he 46 rfl (onP e35)
    replace hf := castB hb hf
    replace hf := hf.more he 48 rfl (onP e37)
    replace hf := castCT hb hf
    refine stP hf rfl rfl rfl (pPt rfl rfl) fun a hf => ?_
    replace hf := castV (v' := .bool (((((((((r_5.2 == 0) && (r_6.2.2 == 0)) && (r_7.2 == 0)) && (r_8.2 == 0)) && (r_9.2 == 0)) && r_10) && r_11) && (r_6.2.1 == 5)) && (r_7.1 == 5))) (congrArg Value.bool (andT hb)) hf
    refine cNil ?_
    refine xThenN ?_
    intro ds u hau
    refine ⟨θ,he.put0 hi hau hf rfl 49 rfl rfl,?_⟩
    exact hc
   ·have hf := he.h0
    replace hf := hf.more he 46 rfl (onP e35)
    replace hf := castB hb hf
    replace hf := hf.more he 48 rfl (onP e37)
    replace hf := castCF hb hf
    refine stP hf rfl rfl rfl (pPf rfl rfl) fun a hf => ?_
    replace hf := castV (v' := .bool (((((((((r_5.2 == 0) && (r_6.2.2 == 0)) && (r_7.2 == 0)) && (r_8.2 == 0)) && (r_9.2 == 0)) && r_10) && r_11) && (r_6.2.1 == 5)) && (r_7.1 == 5))) (congrArg Value.bool (andF hb)) hf
    refine cNil ?_
    refine xThenN ?_
    intro ds u hau
    refine ⟨θ,he.put0 hi hau hf rfl 49 rfl rfl,?_⟩
    exact hc
  ·intro E θ a w hD hi hp he hc
   have e38 := hp.of (k := 38) rfl
   have hf := he.h0
   replace hf := hf.more he 49 rfl (onP e38)
   refine stP hf rfl rfl rfl (pM rfl) fun a hf => cNil ?_
   refine xThenN ?_
   intro ds u hau
   refine ⟨θ,he.put0 hi hau hf rfl 50 rfl rfl,?_⟩
   exact hc
  ·intro E θ a w hD hi hp he hc
   have e39 := hp.of (k := 39) rfl
   rcases boolEq (((((((((r_5.2 == 0) && (r_6.2.2 == 0)) && (r_7.2 == 0)) && (r_8.2 == 0)) && (r_9.2 == 0)) && r_10) && r_11) && (r_6.2.1 == 5)) && (r_7.1 == 5)) with hb | hb
   ·have hf := he.h0
    replace hf := hf.more he 8 rfl onT
    replace hf := hf.more he 50 rfl (onP e39)
    replace hf := castB hb hf
    refine stP hf rfl rfl rfl (pM rfl) fun a hf => ?_
    replace hf := castI (u := undef) hb hf
    refine cNil ?_
    refine xThenN ?_
    intro ds u hau
    refine ⟨θ,he.put0 hi hau hf rfl 51 rfl rfl,?_⟩
    exact hc
   ·have hf := he.h0
    replace hf := hf.more he 8 rfl onT
    replace hf := hf.more he 50 rfl (onP e39)
    replace hf := castB hb hf
    refine stS hf rfl rfl rfl fun a hf => ?_
    replace hf := castJ (u := .slice p_5 r_8.1.length c_5) hb hf
    refine cNil ?_
    refine xThenN ?_
    intro ds u hau
    refine ⟨θ,he.put0 hi hau hf rfl 51 rfl rfl,?_⟩
    exact hc
  ·intro E θ a w hD hi hp he hc
   have e39 := hp.of (k := 39) rfl
   rcases boolEq (((((((((r_5.2 == 0) && (r_6.2.2 == 0)) && (r_7.2 == 0)) && (r_8.2 == 0)) && (r_9.2 == 0)) && r_10) && r_11) && (r_6.2.1 == 5)) && (r_7.1 == 5)) with hb | hb
   ·have hf := he.h0
    replace hf := hf.more he 50 rfl (onP e39)
    replace hf := castB hb hf
    refine stP hf rfl rfl rfl (pBuildS (cells := [.int .i64 2,.int .i64 3]) bt_50 rfl rfl) fun a hf => ?_
    replace hf := castI (u := undef) hb hf
    refine cNil ?_
    refine xThenN ?_
    intro ds u hau
    refine ⟨θ,he.put0 hi hau hf rfl 52 rfl rfl,?_⟩
    exact hc
   ·have hf := he.h0
    replace hf := hf.more he 50 rfl (onP e39)
    replace hf := castB hb hf
    refine stS hf rfl rfl rfl fun a hf => ?_
    replace hf := castJ (u := .agg #[.int .i64 2,.int .i64 3]) hb hf
    refine cNil ?_
    refine xThenN ?_
    intro ds u hau
    refine ⟨θ,he.put0 hi hau hf rfl 52 rfl rfl,?_⟩
    exact hc
  ·intro E θ a w hD hi hp he hc
   have e39 := hp.of (k := 39) rfl
   rcases boolEq (((((((((r_5.2 == 0) && (r_6.2.2 == 0)) && (r_7.2 == 0)) && (r_8.2 == 0)) && (r_9.2 == 0)) && r_10) && r_11) && (r_6.2.1 == 5)) && (r_7.1 == 5)) with hb | hb
   ·have hf := he.h0
    replace hf := hf.more he 50 rfl (onP e39)
    replace hf := castB hb hf
    refine stP hf rfl rfl rfl (pBuildS (cells := [.int .i64 0,.int .i64 0]) bt_50 rfl rfl) fun a hf => ?_
    replace hf := castI (u := undef) hb hf
    refine cNil ?_
    refine xThenN ?_
    intro ds u hau
    refine ⟨θ,he.put0 hi hau hf rfl 53 rfl rfl,?_⟩
    exact hc
   ·have hf := he.h0
    replace hf := hf.more he 50 rfl (onP e39)
    replace hf := castB hb hf
    refine stS hf rfl rfl rfl fun a hf => ?_
    replace hf := castJ (u := .agg #[.int .i64 0,.int .i64 0]) hb hf
    refine cNil ?_
    refine xThenN ?_
    intro ds u hau
    refine ⟨θ,he.put0 hi hau hf rfl 53 rfl rfl,?_⟩
    exact hc
  ·intro E θ a w hD hi hp he hc
   have e39 := hp.of (k := 39) rfl
   rcases boolEq (((((((((r_5.2 == 0) && (r_6.2.2 == 0)) && (r_7.2 == 0)) && (r_8.2 == 0)) && (r_9.2 == 0)) && r_10) && r_11) && (r_6.2.1 == 5)) && (r_7.1 == 5)) with hb | hb
   ·have hf := he.h0
    replace hf := hf.more he 50 rfl (onP e39)
    replace hf := castB hb hf
    refine stP hf rfl rfl rfl (pBuildS (cells := [.int .i64 3,.int .i64 4]) bt_50 rfl rfl) fun a hf => ?_
    replace hf := castI (u := undef) hb hf
    refine cNil ?_
    refine xThenN ?_
    intro ds u hau
    refine ⟨θ,he.put0 hi hau hf rfl 54 rfl rfl,?_⟩
    exact hc
   ·have hf := he.h0
    replace hf := hf.more he 50 rfl (onP e39)
    replace hf := castB hb hf
    refine stS hf rfl rfl rfl fun a hf => ?_
    replace hf := castJ (u := .agg #[.int .i64 3,.int .i64 4]) hb hf
    refine cNil ?_
    refine xThenN ?_
    intro ds u hau
    refine ⟨θ,he.put0 hi hau hf rfl 54 rfl rfl,?_⟩
    exact hc
  ·intro E θ a w hD hi hp he hc
   have e39 := hp.of (k := 39) rfl
   have e41 := hp.of (k := 41) rfl
   have e42 := hp.of (k := 42) rfl
   have e43 := hp.of (k := 43) rfl
   try dsimp only at hc
   rw [hi] at hc
   rcases boolEq (((((((((r_5.2 == 0) && (r_6.2.2 == 0)) && (r_7.2 == 0)) && (r_8.2 == 0)) && (r_9.2 == 0)) && r_10) && r_11) && (r_6.2.1 == 5)) && (r_7.1 == 5)) with hb | hb
   ·have hf := he.h0
    replace hf := hf.more he 50 rfl (onP e39)
    replace hf := castB hb hf
    replace hf := hf.more he 52 rfl (onP e41)
    replace hf := castCT hb hf
    replace hf := hf.more he 53 rfl (onP e42)
    replace hf := castCT hb hf
    replace hf := hf.more he 54 rfl (onP e43)
    replace hf := castCT hb hf
    refine stBS (rows := ([(⟨2,3⟩ : api_Span),(⟨0,0⟩ : api_Span),(⟨3,4⟩ : api_Span)] : List api_Span).map enc_api_Span) (vs := [(0,.agg #[.int .i64 2,.int .i64 3]),(1,.agg #[.int .i64 0,.int .i64 0]),(2,.agg #[.int .i64 3,.int .i64 4])]) hf hc rfl rfl sl_44 rfl ⟨rfl,rfl,rfl,rfl,rfl,rfl,rfl,rfl,rfl,trivial⟩ rfl rfl fun b_10 a w hf hc => ?_
    replace hf := castI (u := undef) hb hf
    refine cNil ?_
    refine xThenN ?_
    intro ds u hau
    replace hc := hc.drop k1
    refine ⟨(setT θ 352 ⟨b_10,none,0⟩),he.put hi hau hf rfl [] trivial ⟨qq,qq,qq,qq,qq,qq,qq,qq,qq,qq,qq,qq,qq,qq,qq,qq,qq,qq,qq,qq,qq,qq,qq,qq,qq,qq,qq,qq,qq,qq,qq,qq,qq,qq,qq,qq,qq,qq,qq,qq,qq,qq,qq,qq,qq,qq,qq,qq,qq,qq,qq,qq,qq,qq,qq,qq,qq,qq,qq,qq,qq,qq,qq,qq,trivial⟩,?_⟩
    try dsimp only
    rw [updE_self E 44]
    rw [gE_T hb]
    exact hc
   ·have hf := he.h0
    replace hf := hf.more he 50 rfl (onP e39)
    replace hf := castB hb hf
    replace hf := hf.more he 52 rfl (onP e41)
    replace hf := castCF hb hf
    replace hf := hf.more he 53 rfl (onP e42)
    replace hf := castCF hb hf
    replace hf := hf.more he 54 rfl (onP e43)
    replace hf := castCF hb hf
    refine stS hf rfl rfl rfl fun a hf => ?_
    replace hf := castJ (u := .slice (some ⟨(θ 352).b,0,none⟩) 3 3) hb hf
    refine cNil ?_
    refine xThenN ?_
    intro ds u hau
    refine ⟨θ,he.put0 hi hau hf rfl 55 rfl rfl,?_⟩
    try dsimp only
    rw [updE_self E 44]
    rw [gE_F hb]
    exact hc
  ·intro E θ a w hD hi hp he hc
   have e39 := hp.of (k := 39) rfl
   have e40 := hp.of (k := 40) rfl
   have e44 := hp.of (k := 44) rfl
   try dsimp only at hc
   rw [e44] at hc
   rcases boolEq (((((((((r_5.2 == 0) && (r_6.2.2 == 0)) && (r_7.2 == 0)) && (r_8.2 == 0)) && (r_9.2 == 0)) && r_10) && r_11) && (r_6.2.1 == 5)) && (r_7.1 == 5)) with hb | hb
   ·have hf := he.h0
    replace hf := hf.more he 50 rfl (onP e39)
    replace hf := castB hb hf
    replace hf := hf.more he 51 rfl (onP e40)
    replace hf := castCT hb hf
    replace hf := hf.more he 55 rfl (onP e44)
    replace hf := castCT hb hf
    rw [gE_T hb] at hc
    refine stE hf hc rfl rfl rfl (eC (v := .bool r_12) (vs := [.slice p_5 r_8.1.length c_5,.slice (some ⟨(θ 352).b,0,none⟩) 3 3]) (caps := []) en_24 rfl rfl rfl rfl (fun w hc => by obtain ⟨G1,hle1,hrd1,hc,hth1⟩ := lend hc k6; obtain ⟨G2,hle2,hrd2,hc,hth2⟩ := lend hc k0; exact (kit_Same_api_Span_ok r_8.1 ([(⟨2,3⟩ : api_Span),(⟨0,0⟩ : api_Span),(⟨3,4⟩ : api_Span)] : List api_Span) (hrd1.mono hle2) hrd2 hc (condT hb hr_12)).mono fun e w h => ⟨h.1,((hth1 _ _ ((hth2 _ _ h.2).unpick k0)).unpick k6)⟩)) fun a w hf hc => ?_
    replace hf := castI (u := undef) hb hf
    refine cNil ?_
    refine xThenN ?_
    intro ds u hau
    refine ⟨θ,he.put0 hi hau hf rfl 56 rfl rfl,?_⟩
    try dsimp only
    rw [updE_tru 45 e44]
    rw [gE_T hb]
    exact hc
   ·have hf := he.h0
    replace hf := hf.more he 50 rfl (onP e39)
    replace hf := castB hb hf
    replace hf := hf.more he 51 rfl (onP e40)
    replace hf := castCF hb hf
    replace hf := hf.more he 55 rfl (onP e44)
    replace hf := castCF hb hf
    rw [gE_F hb] at hc
    refine stS hf rfl rfl rfl fun a hf => ?_
    replace hf := castJ (u := .bool r_12) hb hf
    refine cNil ?_
    refine xThenN ?_
    intro ds u hau
    refine ⟨θ,he.put0 hi hau hf rfl 56 rfl rfl,?_⟩
    try dsimp only
    rw [updE_tru 45 e44]
    rw [gE_F hb]
    exact hc
  ·intro E θ a w hD hi hp he hc
   have e39 := hp.of (k := 39) rfl
   have e45 := hp.of (k := 45) rfl
   rcases boolEq (((((((((r_5.2 == 0) && (r_6.2.2 == 0)) && (r_7.2 == 0)) && (r_8.2 == 0)) && (r_9.2 == 0)) && r_10) && r_11) && (r_6.2.1 == 5)) && (r_7.1 == 5)) with hb | hb
   ·have hf := he.h0
    replace hf := hf.more he 50 rfl (onP e39)
    replace hf := castB hb hf
    replace hf := hf.more he 56 rfl (onP e45)
    replace hf := castCT hb hf
    refine stP hf rfl rfl rfl (pPt rfl rfl) fun a hf => ?_
    replace hf := castV (v' := .bool ((((((((((r_5.2 == 0) && (r_6.2.2 == 0)) && (r_7.2 == 0)) && (r_8.2 == 0)) && (r_9.2 == 0)) && r_10) && r_11) && (r_6.2.1 == 5)) && (r_7.1 == 5)) && r_12)) (congrArg Value.bool (andT hb)) hf
    refine cNil ?_
    refine xThenN ?_
    intro ds u hau
    refine ⟨θ,he.put0 hi hau hf rfl 57 rfl rfl,?_⟩
    exact hc
   ·have hf := he.h0
    replace hf := hf.more he 50 rfl (onP e39)
    replace hf := castB hb hf
    replace hf := hf.more he 56 rfl (onP e45)
    replace hf := castCF hb hf
    refine stP hf rfl rfl rfl (pPf rfl rfl) fun a hf => ?_
    replace hf := castV (v' := .bool ((((((((((r_5.2 == 0) && (r_6.2.2 == 0)) && (r_7.2 == 0)) && (r_8.2 == 0)) && (r_9.2 == 0)) && r_10) && r_11) && (r_6.2.1 == 5)) && (r_7.1 == 5)) && r_12)) (congrArg Value.bool (andF hb)) hf
    refine cNil ?_
    refine xThenN ?_
    intro ds u hau
    refine ⟨θ,he.put0 hi hau hf rfl 57 rfl rfl,?_⟩
    exact hc
  ·intro E θ a w hD hi hp he hc
   have e46 := hp.of (k := 46) rfl
   have hf := he.h0
   replace hf := hf.more he 57 rfl (onP e46)
   refine stP hf rfl rfl rfl (pM rfl) fun a hf => cNil ?_
   refine xThenN ?_
   intro ds u hau
   refine ⟨θ,he.put0 hi hau hf rfl 58 rfl rfl,?_⟩
   exact hc
  ·intro E θ a w hD hi hp he hc
   have e47 := hp.of (k := 47) rfl
   rcases boolEq ((((((((((r_5.2 == 0) && (r_6.2.2 == 0)) && (r_7.2 == 0)) && (r_8.2 == 0)) && (r_9.2 == 0)) && r_10) && r_11) && (r_6.2.1 == 5)) && (r_7.1 == 5)) && r_12) with hb | hb
   ·have hf := he.h0
    replace hf := hf.more he 9 rfl onT
    replace hf := hf.more he 58 rfl (onP e47)
    replace hf := castB hb hf
    refine stE hf hc rfl rfl rfl (eLdN (vs := [.int .i64 r_9.1.Lo,.int .i64 r_9.1.Hi]) ag_50 rfl rfl (cells_box (n := 2) m3 rfl)) fun a w hf hc => ?_
    replace hf := castI (u := undef) hb hf
    refine cNil ?_
    refine xThenN ?_
    intro ds u hau
    refine ⟨θ,he.put0 hi hau hf rfl 59 rfl rfl,?_⟩
    exact hc
   ·have hf := he.h0
    replace hf := hf.more he 9 rfl onT
    replace hf := hf.more he 58 rfl (onP e47)
    replace hf := castB hb hf
    refine stS hf rfl rfl rfl fun a hf => ?_
    replace hf := castJ (u := .agg #[.int .i64 r_9.1.Lo,.int .i64 r_9.1.Hi]) hb hf
    refine cNil ?_
    refine xThenN ?_
    intro ds u hau
    refine ⟨θ,he.put0 hi hau hf rfl 59 rfl rfl,?_⟩
    exact hc
  ·intro E θ a w hD hi hp he hc
   have e47 := hp.of (k := 47) rfl
   rcases boolEq ((((((((((r_5.2 == 0) && (r_6.2.2 == 0)) && (r_7.2 == 0)) && (r_8.2 == 0)) && (r_9.2 == 0)) && r_10) && r_11) && (r_6.2.1 == 5)) && (r_7.1 == 5)) && r_12) with hb | hb
   ·have hf := he.h0
    replace hf := hf.more he 58 rfl (onP e47)
    replace hf := castB hb hf
    refine stE hf hc rfl rfl rfl (eC (v := .agg #[.int .i64 r_13.Lo,.int .i64 r_13.Hi]) (vs := [.int .i64 100,.int .i64 190]) (caps := []) en_47 rfl rfl rfl rfl (fun w hc => law05_span_ok 100 190 hc (condT hb hr_13))) fun a w hf hc => ?_
    replace hf := castI (u := undef) hb hf
    refine cNil ?_
    refine xThenN ?_
    intro ds u hau
    refine ⟨θ,he.put0 hi hau hf rfl 60 rfl rfl,?_⟩
    exact hc
   ·have hf := he.h0
    replace hf := hf.more he 58 rfl (onP e47)
    replace hf := castB hb hf
    refine stS hf rfl rfl rfl fun a hf => ?_
    replace hf := castJ (u := .agg #[.int .i64 r_13.Lo,.int .i64 r_13.Hi]) hb hf
    refine cNil ?_
    refine xThenN ?_
    intro ds u hau
    refine ⟨θ,he.put0 hi hau hf rfl 60 rfl rfl,?_⟩
    exact hc
  ·intro E θ a w hD hi hp he hc
   have e47 := hp.of (k := 47) rfl
   have e48 := hp.of (k := 48) rfl
   have e49 := hp.of (k := 49) rfl
   rcases boolEq ((((((((((r_5.2 == 0) && (r_6.2.2 == 0)) && (r_7.2 == 0)) && (r_8.2 == 0)) && (r_9.2 == 0)) && r_10) && r_11) && (r_6.2.1 == 5)) && (r_7.1 == 5)) && r_12) with hb | hb
   ·have hf := he.h0
    replace hf := hf.more he 58 rfl (onP e47)
    replace hf := castB hb hf
    replace hf := hf.more he 59 rfl (onP e48)
    replace hf := castCT hb hf
    replace hf := hf.more he 60 rfl (onP e49)
    replace hf := castCT hb hf
    refine stP hf rfl rfl rfl (pEqA ge_50 rfl rfl (eqs_50 _ _ _ _)) fun a hf => ?_
    replace hf := castI (u := undef) hb hf
    refine cNil ?_
    refine xThenN ?_
    intro ds u hau
    refine ⟨θ,he.put0 hi hau hf rfl 61 rfl rfl,?_⟩
    exact hc
   ·have hf := he.h0
    replace hf := hf.more he 58 rfl (onP e47)
    replace hf := castB hb hf
    replace hf := hf.more he 59 rfl (onP e48)
    replace hf := castCF hb hf
    replace hf := hf.more he 60 rfl (onP e49)
    replace hf := castCF hb hf
    refine stS hf rfl rfl rfl fun a hf => ?_
    replace hf := castJ (u := .bool (r_9.1.Lo == r_13.Lo && r_9.1.Hi == r_13.Hi)) hb hf
    refine cNil ?_
    refine xThenN ?_
    intro ds u hau
    refine ⟨θ,he.put0 hi hau hf rfl 61 rfl rfl,?_⟩
    exact hc
  ·intro E θ a w hD hi hp he hc
   have e47 := hp.of (k := 47) rfl
   have e50 := hp.of (k := 50) rfl
   rcases boolEq ((((((((((r_5.2 == 0) && (r_6.2.2 == 0)) && (r_7.2 == 0)) && (r_8.2 == 0)) && (r_9.2 == 0)) && r_10) && r_11) && (r_6.2.1 == 5)) && (r_7.1 == 5)) && r_12) with hb | hb
   ·have hf := he.h0
    replace hf := hf.more he 58 rfl (onP e47)
    replace hf := castB hb hf
    replace hf := hf.more he 61 rfl (onP e50)
    replace hf := castCT hb hf
    refine stP hf rfl rfl rfl (pPt rfl rfl) fun a hf => ?_
    replace hf := castV (v' := .bool (((((((((((r_5.2 == 0) && (r_6.2.2 == 0)) && (r_7.2 == 0)) && (r_8.2 == 0)) && (r_9.2 == 0)) && r_10) && r_11) && (r_6.2.1 == 5)) && (r_7.1 == 5)) && r_12) && (r_9.1.Lo == r_13.Lo && r_9.1.Hi == r_13.Hi))) (congrArg Value.bool (andT hb)) hf
    refine cNil ?_
    refine xThenN ?_
    intro ds u hau
    refine ⟨θ,he.put0 hi hau hf rfl 62 rfl rfl,?_⟩
    exact hc
   ·have hf := he.h0
    replace hf := hf.more he 58 rfl (onP e47)
    replace hf := castB hb hf
    replace hf := hf.more he 61 rfl (onP e50)
    replace hf := castCF hb hf
    refine stP hf rfl rfl rfl (pPf rfl rfl) fun a hf => ?_
    replace hf := castV (v' := .bool (((((((((((r_5.2 == 0) && (r_6.2.2 == 0)) && (r_7.2 == 0)) && (r_8.2 == 0)) && (r_9.2 == 0)) && r_10) && r_11) && (r_6.2.1 == 5)) && (r_7.1 == 5)) && r_12) && (r_9.1.Lo == r_13.Lo && r_9.1.Hi == r_13.Hi))) (congrArg Value.bool (andF hb)) hf
    refine cNil ?_
    refine xThenN ?_
    intro ds u hau
    refine ⟨θ,he.put0 hi hau hf rfl 62 rfl rfl,?_⟩
    exact hc
  ·intro E θ a w hD hi hp he hc
   have e51 := hp.of (k := 51) rfl
   have hf := he.h0
   replace hf := hf.more he 62 rfl (onP e51)
   refine stP hf rfl rfl rfl (pA rfl) fun a hf => cNil ?_
   refine xThenN ?_
   intro ds u hau
   refine ⟨θ,he.put0 hi hau hf rfl 63 rfl rfl,?_⟩
   exact hc
  ·intro E θ a w hall he hc
   have hf := he.h0
   have e23 := hall 23 rfl
   have e28 := hall 28 rfl
   have e44 := hall 44 rfl
   have e52 := hall 52 rfl
   replace hf := hf.more he 63 rfl (onP e52)
   try dsimp only at hc
   rw [e23,e28,e44] at hc
   replace hc := hc.drop k2
   replace hc := hc.drop k1
   replace hc := hc.drop k0
   exact ⟨hf.keep ⟨rfl,trivial⟩,hc⟩
  rintro a w ⟨hf,hc⟩
  refine h15 _ _ ?_
  refine wp_ret ?_
  obtain rfl := Option.some.inj hF
  replace hc := hc.drop k11
  replace hc := hc.drop k10
  replace hc := hc.drop k9
  replace hc := hc.drop k8
  replace hc := hc.drop k7
  replace hc := hc.drop k6
  replace hc := hc.drop k5
  replace hc := hc.drop k4
  replace hc := hc.drop k3
  replace hc := hc.drop k2
  replace hc := hc.drop k1
  replace hc := hc.drop k0
  exact fnOut1 (by simp) rfl Try.results12 hf hc (show look _ 0 = _ from rfl) ⟨rfl,hc⟩

end Go.Nilo
