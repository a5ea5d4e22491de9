/-
 What functions of the Go text compute, as plain functions, and that they do, part 3 of 4. Conditions: what each theorem names.
-/
import Derived.Test.YtepopogbmjfpeaaSn2
import Derived.Test.YtepopogbmjfpeaaProg
set_option linter.unusedVariables false
set_option linter.unusedSimpArgs false
set_option maxRecDepth 100000
set_option maxHeartbeats 4000000
namespace Go.Nilo
open Go.Proofs


def shift_Proves_j15 (N : Nat) (x : Int) : Option (Step (Int) (Int × Int)) :=
 some (.cont (W (x + 1)))
def shift_Proves_b11 (N : Nat) (l : List shift_Turn) (x : Int) : Option (Step (Int) (Int × Int)) :=
 cond (decide (x < ((l.length : Nat) : Int)))
 (Option.bind (getI l x) fun e_1 =>
 cond (x == 0)
 (shift_Proves_j15 N x)
 (Option.bind (getI l (W (x - 1))) fun e_2 =>
 cond ((decide (e_1.Gauging ≤ e_2.Gauging)) || (e_1.Up == e_2.Up))
 (some (.ret (0,9)))
 (none)))
 (some (.brk x))
def shift_Proves_j36 (N : Nat) (x_1 : Int) (sum_1 : Int) : Option (Step (Int × Int) (Int × Int)) :=
 some (.cont (sum_1,W (x_1 + 1)))
def shift_Proves_b32 (N : Nat) (l : List shift_Turn) (r_2 : (List api_Span) × Int) (sum : Int) (x_1 : Int) : Option (Step (Int × Int) (Int × Int)) :=
 cond (decide (x_1 < ((l.length : Nat) : Int)))
 (Option.bind (getI l x_1) fun e_3 =>
 cond (x_1 == 0)
 (shift_Proves_j36 N x_1 sum)
 (Option.bind (getI l (W (x_1 - 1))) fun e_4 =>
 cond ((decide (e_3.Gauging ≤ e_4.Gauging)) || (e_3.Up == e_4.Up))
 (some (.ret (0,9)))
 (Option.bind (getI r_2.1 e_4.Gauging) fun e_5 =>
 Option.bind (getI r_2.1 e_3.Gauging) fun e_6 =>
 cond e_3.Up
 (shift_Proves_j36 N x_1 (W (sum + (W ((bif (shift_Turn_ends e_4) then (shift_Turn_ends_1 e_5) else (shift_Turn_ends_2 e_5)) - (bif (shift_Turn_ends e_3) then (shift_Turn_ends_1 e_6) else (shift_Turn_ends_2 e_6)))))))
 (shift_Proves_j36 N x_1 (W (sum + (W ((bif (shift_Turn_ends e_3) then (shift_Turn_ends_1 e_6) else (shift_Turn_ends_2 e_6)) - (bif (shift_Turn_ends e_4) then (shift_Turn_ends_1 e_5) else (shift_Turn_ends_2 e_5))))))))))
 (some (.brk (sum,x_1)))
def shift_Proves (N : Nat) (r : shift_Record) (l : List shift_Turn) : Option (Int × Int) :=
 Option.bind (shift_opened N r) (sumK (fun r_0 => cond (r_0 != 0)
 (some (0,r_0))
 (Option.bind (shift_every_shift_Turn N l r) fun r_1 =>
 cond (!r_1)
 (some (0,2))
 (Option.bind (loopO (fun s11 => shift_Proves_b11 N l s11) N 0) fun x11 =>
 exK x11 (fun s11 => some (0,0)) some)))
 (fun r_2 => cond (r_2.2 != 0)
 (some (0,r_2.2))
 (Option.bind (shift_every_shift_Turn N l r) fun r_3 =>
 cond (!r_3)
 (some (0,2))
 (Option.bind (loopO (fun s32 => shift_Proves_b32 N l r_2 s32.1 s32.2) N (0,0)) fun x32 =>
 exK x32 (fun s32 => some (s32.1,0)) some))))
theorem shift_Proves_ok {N : Nat} {G : Pers} {Lf : List Ent} {w : World} (r : shift_Record) (l : List shift_Turn) {r_Rating_p : Option Addr} {r_Rating_c : Nat} {r_Gaugings_p : Option Addr} {r_Gaugings_c : Nat} {l_p : Option Addr} {l_c : Nat} (h_r_Rating : Rd G 2 r_Rating_p r_Rating_c (r.Rating.map enc_shift_Mark)) (h_r_Gaugings : Rd G 4 r_Gaugings_p r_Gaugings_c (r.Gaugings.map enc_shift_Gauging)) (h_l : Rd G 2 l_p l_c (l.map enc_shift_Turn)) (hc : Ctx G (Lf) w) {res : Int × Int} (hF : shift_Proves N r l = some res) : Calls Try.prog 46 #[.agg #[.slice r_Rating_p r.Rating.length r_Rating_c,.slice r_Gaugings_p r.Gaugings.length r_Gaugings_c],.slice l_p l.length l_c] w (fun e w => e = .returned (.tuple #[.int .i64 res.1,.int .i64 res.2]) ∧ Ctx G (Lf) w) := by
 unfold shift_Proves at hF
 refine fnIn (args := [.agg #[.slice r_Rating_p r.Rating.length r_Rating_c,.slice r_Gaugings_p r.Gaugings.length r_Gaugings_c],.slice l_p l.length l_c]) Try.func46 rfl Try.ntmps46 rfl fun a hf => wp_seq_k fun K1 h1 => cReg ?_
 refine stBx (cs := [.slice r_Rating_p r.Rating.length r_Rating_c,.slice r_Gaugings_p r.Gaugings.length r_Gaugings_c]) hf hc rfl rfl rfl rfl fun b_1 a w hf hc => stP hf rfl rfl rfl (pA rfl) fun a hf => stP hf rfl rfl rfl (pA rfl) fun a hf => cNil ?_
 refine h1 _ _ ?_
 refine wp_seq_k fun K2 h2 => cReg ?_
 refine stE hf hc rfl rfl rfl (eLdN (vs := [.slice r_Rating_p r.Rating.length r_Rating_c,.slice r_Gaugings_p r.Gaugings.length r_Gaugings_c]) ag_25 rfl rfl (cells_box (n := 2) m0 rfl)) fun a w hf hc => ?_
 obtain ⟨r_0,hr_0,hF⟩ := bnd_some hF
 cases r_0 with
 | inl r_0 =>
  replace hF := sumKl hF
  refine stC (vs := [.agg #[.slice r_Rating_p r.Rating.length r_Rating_c,.slice r_Gaugings_p r.Gaugings.length r_Gaugings_c]]) (caps := []) hf rfl rfl rfl en_73 rfl rfl rfl rfl (shift_opened_ok r h_r_Rating h_r_Gaugings hc hr_0) ?_
  rintro _ w ⟨rfl,hc⟩
  refine ⟨_,rfl,fun a hf => ?_⟩
  refine stP hf rfl rfl rfl (pM rfl) fun a hf => stP hf rfl rfl rfl (pX rfl rfl) fun a hf => stP hf rfl rfl rfl (pX rfl rfl) fun a hf => stP hf rfl rfl rfl (pA rfl) fun a hf => stP hf rfl rfl rfl (pA rfl) fun a hf => cNil ?_
  refine h2 _ _ ?_
  refine wp_seq_k fun K3 h3 => wp_block ?_
  refine wp_seq_k fun K4 h4 => cReg ?_
  refine stP hf rfl rfl rfl (pM rfl) fun a hf => stP hf rfl rfl rfl (pNe rfl rfl) fun a hf => stP hf rfl rfl rfl (pA rfl) fun a hf => cNil ?_
  refine h4 _ _ ?_
  refine cCond (b := (r_0 != 0)) hf rfl (fun hb => ?_) (fun hb => ?_)
  ·replace hF := condT hb hF
   clear hb
   refine wp_seq_k fun K5 h5 => cReg ?_
   refine stP hf rfl rfl rfl (pM rfl) fun a hf => stP hf rfl rfl rfl (pA rfl) fun a hf => stP hf rfl rfl rfl (pA rfl) fun a hf => cNil ?_
   refine h5 _ _ ?_
   refine wp_ret ?_
   refine xBlkR ?_
   refine xThenR ?_
   obtain rfl := Option.some.inj hF
   replace hc := hc.drop k0
   exact fnOut2 (by simp) rfl Try.results46 hf hc (show look _ 4 = _ from rfl) (show look _ 5 = _ from rfl) ⟨rfl,hc⟩
  ·replace hF := condF hb hF
   clear hb
   refine wp_seq_k fun K6 h6 => cReg ?_
   refine stP hf rfl rfl rfl (pM rfl) fun a hf => stP hf rfl rfl rfl (pMF (us := [.pointer (some ⟨b_1,0,none⟩)]) rfl rfl) fun a hf => ?_
   obtain ⟨r_1,hr_1,hF⟩ := bnd_some hF
   refine stE hf hc rfl rfl rfl (eC (v := .bool r_1) (vs := [.slice l_p l.length l_c,.func (.func 90) #[] #[.pointer (some ⟨b_1,0,none⟩)]]) (caps := []) en_89 rfl rfl rfl rfl (fun w hc => (shift_every_shift_Turn_ok l r h_l h_r_Rating h_r_Gaugings (hc.pick k0) hr_1).mono fun e w h => ⟨h.1,(h.2.unpick k0)⟩)) fun a w hf hc => stP hf rfl rfl rfl (pNot rfl) fun a hf => stP hf rfl rfl rfl (pA rfl) fun a hf => cNil ?_
   refine h6 _ _ ?_
   refine cCond (b := (!r_1)) hf rfl (fun hb => ?_) (fun hb => ?_)
   ·replace hF := condT hb hF
    clear hb
    refine wp_seq_k fun K7 h7 => cReg ?_
    refine stP hf rfl rfl rfl (pA rfl) fun a hf => stP hf rfl rfl rfl (pA rfl) fun a hf => cNil ?_
    refine h7 _ _ ?_
    refine wp_ret ?_
    refine xBlkR ?_
    refine xThenR ?_
    obtain rfl := Option.some.inj hF
    replace hc := hc.drop k0
    exact fnOut2 (by simp) rfl Try.results46 hf hc (show look _ 4 = _ from rfl) (show look _ 5 = _ from rfl) ⟨rfl,hc⟩
   ·replace hF := condF hb hF
    clear hb
    refine wp_skip ?_
    refine h3 _ _ ?_
    refine wp_seq_k fun K8 h8 => cReg ?_
    refine stP hf rfl rfl rfl (pA rfl) fun a hf => cNil ?_
    refine h8 _ _ ?_
    refine wp_seq_k fun K9 h9 => wp_seq_k fun K10 h10 => cReg ?_
    refine stP hf rfl rfl rfl (pM rfl) fun a hf => stP hf rfl rfl rfl (pLenS Try.underlying87 rfl) fun a hf => stP hf rfl rfl rfl (pM rfl) fun a hf => cNil ?_
    refine h10 _ _ ?_
    refine wp_block ?_
    obtain ⟨x11,hx11,hF⟩ := bnd_some hF
    let S11 : Int → Act → World → Prop := (fun (zz : Int) a w => Has 92 a [(1,.slice l_p l.length l_c),(6,.pointer none),(8,.int .i64 0),(28,.slice l_p l.length l_c),(29,.int .i64 ((l.length : Nat) : Int)),(30,.int .i64 zz)] ∧ Ctx G (Lf) w)
    have hr11 : ∀ (zz : Int) a w,x11 = .go zz → S11 zz a w → K9 a w := by
     rintro x a w rfl ⟨hf,hc⟩
     replace hF := exK_go hF
     refine h9 _ _ ?_
     refine wp_seq_k fun K12 h12 => cReg ?_
     refine stP hf rfl rfl rfl (pM rfl) fun a hf => stP hf rfl rfl rfl (pA rfl) fun a hf => stP hf rfl rfl rfl (pA rfl) fun a hf => cNil ?_
     refine h12 _ _ ?_
     refine wp_ret ?_
     obtain rfl := Option.some.inj hF
     exact fnOut2 (by simp) rfl Try.results46 hf hc (show look _ 4 = _ from rfl) (show look _ 5 = _ from rfl) ⟨rfl,hc⟩
    have ho11 : ∀ r,x11 = .out r → r = res := by
     rintro r rfl
     exact Option.some.inj hF
    replace hc := hc.drop k0
    refine cLoop N (loopW (S := S11) (x := x11) ?_ N 0 _ _ ⟨hf.keep ⟨rfl,rfl,rfl,rfl,rfl,rfl,trivial⟩,hc⟩ hx11)
    clear hF hf hc
    rintro x st11 a w KB11 ⟨hf,hc⟩ hF hfin11 hK11
    unfold shift_Proves_b11 at hF
    refine wp_seq_k fun K13 h13 => cReg ?_
    refine stP hf rfl rfl rfl (pLt rfl rfl) fun a hf => cNil ?_
    refine h13 _ _ ?_
    refine wp_seq_k fun K14 h14 => cCond (b := (decide (x < ((l.length : Nat) : Int)))) hf rfl (fun hb => ?_) (fun hb => ?_)
    ·replace hF := condT hb hF
     clear hb
     refine wp_skip ?_
     refine h14 _ _ ?_
     refine wp_seq_k fun K15 h15 => ?_
     have hj15 : ∀ a w,Has 92 a [(1,.slice l_p l.length l_c),(6,.pointer none),(8,.int .i64 0),(28,.slice l_p l.length l_c),(29,.int .i64 ((l.length : Nat) : Int)),(30,.int .i64 x)] → Ctx G (Lf) w → shift_Proves_j15 N x = some st11 → K15 a w := by
      repeat (clear hF)
      repeat (clear hc)
      repeat (clear hf)
      intro a w hf hc hF
      unfold shift_Proves_j15 at hF
      refine h15 _ _ ?_
      refine cReg ?_
      refine stP hf rfl rfl rfl (pAdd rfl rfl) fun a hf => stP hf rfl rfl rfl (pM rfl) fun a hf => cNil ?_
      exact hK11 (W (x + 1)) _ _ (Option.some.inj hF).symm ⟨hf.keep ⟨rfl,rfl,rfl,rfl,rfl,rfl,trivial⟩,hc⟩
     refine wp_block ?_
     refine wp_seq_k fun K16 h16 => cReg ?_
     refine stP hf rfl rfl rfl (pM rfl) fun a hf => ?_
     obtain ⟨e_1,he_1,hF⟩ := bnd_some hF
     obtain ⟨b_2,o,qa,qp⟩ := h_l.atm he_1
     refine stP hf rfl rfl rfl (pIA Try.underlying87 sz_91 rfl rfl qa) fun a hf => stE hf hc rfl rfl rfl (eLdN (vs := [.int .i64 e_1.Gauging,.bool e_1.Up]) ag_91 rfl rfl (cells_pc qp (n := 2) (o' := 0) rfl)) fun a w hf hc => stAl (cs := [.int .i64 0,.bool false]) hf hc rfl rfl zr_91 rfl fun b_3 a w hf hc => stP hf rfl rfl rfl (pA rfl) fun a hf => stSt (vs := [.int .i64 e_1.Gauging,.bool e_1.Up]) hf hc rfl rfl rfl rfl sz_91 rfl rfl u0 fun w hc => cNil ?_
     refine h16 _ _ ?_
     refine wp_seq_k fun K17 h17 => wp_seq_k fun K18 h18 => cReg ?_
     refine stP hf rfl rfl rfl (pM rfl) fun a hf => stP hf rfl rfl rfl (pEq rfl rfl) fun a hf => cNil ?_
     refine h18 _ _ ?_
     refine cCond (b := (x == 0)) hf rfl (fun hb => ?_) (fun hb => ?_)
     ·replace hF := condT hb hF
      clear hb
      refine wp_exit ?_
      refine xThen ?_
      refine cHit ?_
      replace hc := hc.drop k0
      exact hj15  _ _  (hf.keep ⟨rfl,rfl,rfl,rfl,rfl,rfl,trivial⟩) hc hF
     ·replace hF := condF hb hF
      clear hb
      refine wp_skip ?_
      refine h17 _ _ ?_
      refine wp_seq_k fun K19 h19 => cReg ?_
      refine stP hf rfl rfl rfl (pM rfl) fun a hf => stP hf rfl rfl rfl (pM rfl) fun a hf => stP hf rfl rfl rfl (pSub rfl rfl) fun a hf => ?_
      obtain ⟨e_2,he_2,hF⟩ := bnd_some hF
      obtain ⟨b_4,o_1,qa_1,qp_1⟩ := h_l.atm he_2
      refine stP hf rfl rfl rfl (pIA Try.underlying87 sz_91 rfl rfl qa_1) fun a hf => stE hf hc rfl rfl rfl (eLdN (vs := [.int .i64 e_2.Gauging,.bool e_2.Up]) ag_91 rfl rfl (cells_pc qp_1 (n := 2) (o' := 0) rfl)) fun a w hf hc => stAl (cs := [.int .i64 0,.bool false]) hf hc rfl rfl zr_91 rfl fun b_5 a w hf hc => stSt (vs := [.int .i64 e_2.Gauging,.bool e_2.Up]) hf hc rfl rfl rfl rfl sz_91 rfl rfl u0 fun w hc => cNil ?_
      refine h19 _ _ ?_
      refine wp_seq_k fun K20 h20 => wp_seq_k fun K21 h21 => cReg ?_
      refine stP hf rfl rfl rfl (pFA fa_91_0 rfl) fun a hf => stE hf hc rfl rfl rfl (eLd1 sc_3 rfl (cell_box m1 rfl)) fun a w hf hc => stP hf rfl rfl rfl (pFA fa_91_0 rfl) fun a hf => stE hf hc rfl rfl rfl (eLd1 sc_3 rfl (cell_box m0 rfl)) fun a w hf hc => stP hf rfl rfl rfl (pLe rfl rfl) fun a hf => stP hf rfl rfl rfl (pM rfl) fun a hf => stCut 6 (fun a w => Has 92 a [(1,.slice l_p l.length l_c),(6,.pointer none),(8,.int .i64 0),(28,.slice l_p l.length l_c),(29,.int .i64 ((l.length : Nat) : Int)),(30,.int .i64 x),(10,.pointer (some ⟨b_3,0,none⟩)),(11,.pointer (some ⟨b_5,0,none⟩)),(42,.pointer (some ⟨b_3,0,none⟩)),(43,.int .i64 e_1.Gauging),(44,.pointer (some ⟨b_5,0,none⟩)),(45,.int .i64 e_2.Gauging),(46,.bool (decide (e_1.Gauging ≤ e_2.Gauging))),(47,.bool (decide (e_1.Gauging ≤ e_2.Gauging))),(53,.bool ((decide (e_1.Gauging ≤ e_2.Gauging)) || (e_1.Up == e_2.Up)))] ∧ Ctx G (.box b_5 [.int .i64 e_2.Gauging,.bool e_2.Up] 91::.box b_3 [.int .i64 e_1.Gauging,.bool e_1.Up] 91::Lf) w) ?_ ?_
      ·cases hb : (decide (e_1.Gauging ≤ e_2.Gauging))
       ·rw [hb] at hf
        refine stP hf rfl rfl rfl (pFA fa_91_1 rfl) fun a hf => stE hf hc rfl rfl rfl (eLd1 sc_4 rfl (cell_box m1 rfl)) fun a w hf hc => stP hf rfl rfl rfl (pFA fa_91_1 rfl) fun a hf => stE hf hc rfl rfl rfl (eLd1 sc_4 rfl (cell_box m0 rfl)) fun a w hf hc => stP hf rfl rfl rfl (pEqB Try.underlying4 rfl rfl) fun a hf => stP hf rfl rfl rfl (pPf rfl rfl) fun a hf => cNil ⟨hf.keep ⟨rfl,rfl,rfl,rfl,rfl,rfl,rfl,rfl,rfl,rfl,rfl,rfl,rfl,rfl,rfl,trivial⟩,hc⟩
       ·rw [hb] at hf
        refine stS hf rfl rfl rfl fun a hf => stS hf rfl rfl rfl fun a hf => stS hf rfl rfl rfl fun a hf => stS hf rfl rfl rfl fun a hf => stS hf rfl rfl rfl fun a hf => stP hf rfl rfl rfl (pPt rfl rfl) fun a hf => cNil ⟨hf.keep ⟨rfl,rfl,rfl,rfl,rfl,rfl,rfl,rfl,rfl,rfl,rfl,rfl,rfl,rfl,rfl,trivial⟩,hc⟩
      intro a w ⟨hf,hc⟩
      refine cNil ?_
      refine h21 _ _ ?_
      refine cCond (b := ((decide (e_1.Gauging ≤ e_2.Gauging)) || (e_1.Up == e_2.Up))) hf rfl (fun hb => ?_) (fun hb => ?_)
      ·replace hF := condT hb hF
       clear hb
       refine wp_seq_k fun K22 h22 => cReg ?_
       refine stP hf rfl rfl rfl (pA rfl) fun a hf => stP hf rfl rfl rfl (pA rfl) fun a hf => cNil ?_
       refine h22 _ _ ?_
       refine wp_ret ?_
       refine xThenR ?_
       refine xBlkR ?_
       refine xThenR ?_
       refine xThenR ?_
       have he := Option.some.inj hF
       rw [← he] at hfin11
       replace hF := ho11 _ hfin11
       refine xBlkR ?_
       refine xThenR ?_
       obtain rfl := hF
       replace hc := hc.drop k1
       replace hc := hc.drop k0
       exact fnOut2 (by simp) rfl Try.results46 hf hc (show look _ 4 = _ from rfl) (show look _ 5 = _ from rfl) ⟨rfl,hc⟩
      ·replace hF := condF hb hF
       clear hb
       refine wp_skip ?_
       refine h20 _ _ ?_
       refine wp_seq_k fun K23 h23 => noneO hF
    ·replace hF := condF hb hF
     clear hb
     refine wp_exit ?_
     refine xThen ?_
     refine xThen ?_
     have he := Option.some.inj hF
     rw [← he] at hfin11
     refine cHit ?_
     exact hr11 _ _ _ hfin11 ⟨hf.keep ⟨rfl,rfl,rfl,rfl,rfl,rfl,trivial⟩,hc⟩
 | inr r_2 =>
  replace hF := sumKr hF
  have hr_2 := hr_0
  refine stC (vs := [.agg #[.slice r_Rating_p r.Rating.length r_Rating_c,.slice r_Gaugings_p r.Gaugings.length r_Gaugings_c]]) (caps := []) hf rfl rfl rfl en_73 rfl rfl rfl rfl (shift_opened_ok r h_r_Rating h_r_Gaugings hc hr_2) ?_
  rintro _ w ⟨b_6,p_1,c_1,rfl,hc⟩
  refine ⟨_,rfl,fun a hf => ?_⟩
  refine stP hf rfl rfl rfl (pM rfl) fun a hf => stP hf rfl rfl rfl (pX rfl rfl) fun a hf => stP hf rfl rfl rfl (pX rfl rfl) fun a hf => stP hf rfl rfl rfl (pA rfl) fun a hf => stP hf rfl rfl rfl (pA rfl) fun a hf => cNil ?_
  refine h2 _ _ ?_
  refine wp_seq_k fun K24 h24 => wp_block ?_
  refine wp_seq_k fun K25 h25 => cReg ?_
  refine stP hf rfl rfl rfl (pM rfl) fun a hf => stP hf rfl rfl rfl (pNe rfl rfl) fun a hf => stP hf rfl rfl rfl (pA rfl) fun a hf => cNil ?_
  refine h25 _ _ ?_
  refine cCond (b := (r_2.2 != 0)) hf rfl (fun hb => ?_) (fun hb => ?_)
  ·replace hF := condT hb hF
   clear hb
   refine wp_seq_k fun K26 h26 => cReg ?_
   refine stP hf rfl rfl rfl (pM rfl) fun a hf => stP hf rfl rfl rfl (pA rfl) fun a hf => stP hf rfl rfl rfl (pA rfl) fun a hf => cNil ?_
   refine h26 _ _ ?_
   refine wp_ret ?_
   refine xBlkR ?_
   refine xThenR ?_
   obtain rfl := Option.some.inj hF
   replace hc := hc.drop k2
   replace hc := hc.drop k1
   replace hc := hc.drop k0
   exact fnOut2 (by simp) rfl Try.results46 hf hc (show look _ 4 = _ from rfl) (show look _ 5 = _ from rfl) ⟨rfl,hc⟩
  ·replace hF := condF hb hF
   clear hb
   refine wp_seq_k fun K27 h27 => cReg ?_
   refine stP hf rfl rfl rfl (pM rfl) fun a hf => stP hf rfl rfl rfl (pMF (us := [.pointer (some ⟨b_1,0,none⟩)]) rfl rfl) fun a hf => ?_
   obtain ⟨r_3,hr_3,hF⟩ := bnd_some hF
   refine stE hf hc rfl rfl rfl (eC (v := .bool r_3) (vs := [.slice l_p l.length l_c,.func (.func 90) #[] #[.pointer (some ⟨b_1,0,none⟩)]]) (caps := []) en_89 rfl rfl rfl rfl (fun w hc => (shift_every_shift_Turn_ok l r h_l h_r_Rating h_r_Gaugings (hc.pick k2) hr_3).mono fun e w h => ⟨h.1,(h.2.unpick k2)⟩)) fun a w hf hc => stP hf rfl rfl rfl (pNot rfl) fun a hf => stP hf rfl rfl rfl (pA rfl) fun a hf => cNil ?_
   refine h27 _ _ ?_
   refine cCond (b := (!r_3)) hf rfl (fun hb => ?_) (fun hb => ?_)
   ·replace hF := condT hb hF
    clear hb
    refine wp_seq_k fun K28 h28 => cReg ?_
    refine stP hf rfl rfl rfl (pA rfl) fun a hf => stP hf rfl rfl rfl (pA rfl) fun a hf => cNil ?_
    refine h28 _ _ ?_
    refine wp_ret ?_
    refine xBlkR ?_
    refine xThenR ?_
    obtain rfl := Option.some.inj hF
    replace hc := hc.drop k2
    replace hc := hc.drop k1
    replace hc := hc.drop k0
    exact fnOut2 (by simp) rfl Try.results46 hf hc (show look _ 4 = _ from rfl) (show look _ 5 = _ from rfl) ⟨rfl,hc⟩
   ·replace hF := condF hb hF
    clear hb
    refine wp_skip ?_
    refine h24 _ _ ?_
    refine wp_seq_k fun K29 h29 => cReg ?_
    refine stP hf rfl rfl rfl (pA rfl) fun a hf => cNil ?_
    refine h29 _ _ ?_
    refine wp_seq_k fun K30 h30 => wp_seq_k fun K31 h31 => cReg ?_
    refine stP hf rfl rfl rfl (pM rfl) fun a hf => stP hf rfl rfl rfl (pLenS Try.underlying87 rfl) fun a hf => stP hf rfl rfl rfl (pM rfl) fun a hf => cNil ?_
    refine h31 _ _ ?_
    refine wp_block ?_
    obtain ⟨x32,hx32,hF⟩ := bnd_some hF
    let S32 : (Int × Int) → Act → World → Prop := (fun (zz : Int × Int) a w => ∃ (p_2 : Option Addr) (c_2 : Nat),Has 92 a [(1,.slice l_p l.length l_c),(6,.pointer (some ⟨b_6,0,none⟩)),(8,.int .i64 zz.1),(28,.slice l_p l.length l_c),(29,.int .i64 ((l.length : Nat) : Int)),(30,.int .i64 zz.2)] ∧ Ctx G (.row p_2 c_2 (r_2.1.map enc_api_Span) 50 2::.box b_6 [.slice r_Rating_p r.Rating.length r_Rating_c,.slice r_Gaugings_p r.Gaugings.length r_Gaugings_c,.slice p_2 r_2.1.length c_2] 140::Lf) w)
    have hr32 : ∀ (zz : Int × Int) a w,x32 = .go zz → S32 zz a w → K30 a w := by
     rintro ⟨sum,x_1⟩ a w rfl ⟨p_2,c_2,hf,hc⟩
     replace hF := exK_go hF
     refine h30 _ _ ?_
     refine wp_seq_k fun K33 h33 => cReg ?_
     refine stP hf rfl rfl rfl (pM rfl) fun a hf => stP hf rfl rfl rfl (pA rfl) fun a hf => stP hf rfl rfl rfl (pA rfl) fun a hf => cNil ?_
     refine h33 _ _ ?_
     refine wp_ret ?_
     obtain rfl := Option.some.inj hF
     replace hc := hc.drop k1
     replace hc := hc.drop k0
     exact fnOut2 (by simp) rfl Try.results46 hf hc (show look _ 4 = _ from rfl) (show look _ 5 = _ from rfl) ⟨rfl,hc⟩
    have ho32 : ∀ r,x32 = .out r → r = res := by
     rintro r rfl
     exact Option.some.inj hF
    replace hc := hc.drop k2
    refine cLoop N (loopW (S := S32) (x := x32) ?_ N (0,0) _ _ ⟨p_1,c_1,hf.keep ⟨rfl,rfl,rfl,rfl,rfl,rfl,trivial⟩,hc⟩ hx32)
    clear hF hf hc
    rintro ⟨sum,x_1⟩ st32 a w KB32 ⟨p_2,c_2,hf,hc⟩ hF hfin32 hK32
    unfold shift_Proves_b32 at hF
    refine wp_seq_k fun K34 h34 => cReg ?_
    refine stP hf rfl rfl rfl (pLt rfl rfl) fun a hf => cNil ?_
    refine h34 _ _ ?_
    refine wp_seq_k fun K35 h35 => cCond (b := (decide (x_1 < ((l.length : Nat) : Int)))) hf rfl (fun hb => ?_) (fun hb => ?_)
    ·replace hF := condT hb hF
     clear hb
     refine wp_skip ?_
     refine h35 _ _ ?_
     refine wp_seq_k fun K36 h36 => ?_
     have hj36 : ∀ (sum_1 : Int) (p_3 : Option Addr) (c_3 : Nat) a w,Has 92 a [(1,.slice l_p l.length l_c),(6,.pointer (some ⟨b_6,0,none⟩)),(8,.int .i64 sum_1),(28,.slice l_p l.length l_c),(29,.int .i64 ((l.length : Nat) : Int)),(30,.int .i64 x_1)] → Ctx G (.row p_3 c_3 (r_2.1.map enc_api_Span) 50 2::.box b_6 [.slice r_Rating_p r.Rating.length r_Rating_c,.slice r_Gaugings_p r.Gaugings.length r_Gaugings_c,.slice p_3 r_2.1.length c_3] 140::Lf) w → shift_Proves_j36 N x_1 sum_1 = some st32 → K36 a w := by
      repeat (clear hF)
      repeat (clear hc)
      repeat (clear hf)
      intro sum_1 p_3 c_3 a w hf hc hF
      unfold shift_Proves_j36 at hF
      refine h36 _ _ ?_
      refine cReg ?_
      refine stP hf rfl rfl rfl (pAdd rfl rfl) fun a hf => stP hf rfl rfl rfl (pM rfl) fun a hf => cNil ?_
      exact hK32 (sum_1,W (x_1 + 1)) _ _ (Option.some.inj hF).symm ⟨p_3,c_3,hf.keep ⟨rfl,rfl,rfl,rfl,rfl,rfl,trivial⟩,hc⟩
     refine wp_block ?_
     refine wp_seq_k fun K37 h37 => cReg ?_
     refine stP hf rfl rfl rfl (pM rfl) fun a hf => ?_
     obtain ⟨e_3,he_3,hF⟩ := bnd_some hF
     obtain ⟨b_7,o_2,qa_2,qp_2⟩ := h_l.atm he_3
     refine stP hf rfl rfl rfl (pIA Try.underlying87 sz_91 rfl rfl qa_2) fun a hf => stE hf hc rfl rfl rfl (eLdN (vs := [.int .i64 e_3.Gauging,.bool e_3.Up]) ag_91 rfl rfl (cells_pc qp_2 (n := 2) (o' := 0) rfl)) fun a w hf hc => stAl (cs := [.int .i64 0,.bool false]) hf hc rfl rfl zr_91 rfl fun b_8 a w hf hc => stP hf rfl rfl rfl (pA rfl) fun a hf => stSt (vs := [.int .i64 e_3.Gauging,.bool e_3.Up]) hf hc rfl rfl rfl rfl sz_91 rfl rfl u0 fun w hc => cNil ?_
     refine h37 _ _ ?_
     refine wp_seq_k fun K38 h38 => wp_seq_k fun K39 h39 => cReg ?_
     refine stP hf rfl rfl rfl (pM rfl) fun a hf => stP hf rfl rfl rfl (pEq rfl rfl) fun a hf => cNil ?_
     refine h39 _ _ ?_
     refine cCond (b := (x_1 == 0)) hf rfl (fun hb => ?_) (fun hb => ?_)
     ·replace hF := condT hb hF
      clear hb
      refine wp_exit ?_
      refine xThen ?_
      refine cHit ?_
      replace hc := hc.drop k0
      exact hj36 sum p_2 c_2 _ _  (hf.keep ⟨rfl,rfl,rfl,rfl,rfl,rfl,trivial⟩) hc hF
     ·replace hF := condF hb hF
      clear hb
      refine wp_skip ?_
      refine h38 _ _ ?_
      refine wp_seq_k fun K40 h40 => cReg ?_
      refine stP hf rfl rfl rfl (pM rfl) fun a hf => stP hf rfl rfl rfl (pM rfl) fun a hf => stP hf rfl rfl rfl (pSub rfl rfl) fun a hf => ?_
      obtain ⟨e_4,he_4,hF⟩ := bnd_some hF
      obtain ⟨b_9,o_3,qa_3,qp_3⟩ := h_l.atm he_4
      refine stP hf rfl rfl rfl (pIA Try.underlying87 sz_91 rfl rfl qa_3) fun a hf => stE hf hc rfl rfl rfl (eLdN (vs := [.int .i64 e_4.Gauging,.bool e_4.Up]) ag_91 rfl rfl (cells_pc qp_3 (n := 2) (o' := 0) rfl)) fun a w hf hc => stAl (cs := [.int .i64 0,.bool false]) hf hc rfl rfl zr_91 rfl fun b_10 a w hf hc => stSt (vs := [.int .i64 e_4.Gauging,.bool e_4.Up]) hf hc rfl rfl rfl rfl sz_91 rfl rfl u0 fun w hc => cNil ?_
      refine h40 _ _ ?_
      refine wp_seq_k fun K41 h41 => wp_seq_k fun K42 h42 => cReg ?_
      refine stP hf rfl rfl rfl (pFA fa_91_0 rfl) fun a hf => stE hf hc rfl rfl rfl (eLd1 sc_3 rfl (cell_box m1 rfl)) fun a w hf hc => stP hf rfl rfl rfl (pFA fa_91_0 rfl) fun a hf => stE hf hc rfl rfl rfl (eLd1 sc_3 rfl (cell_box m0 rfl)) fun a w hf hc => stP hf rfl rfl rfl (pLe rfl rfl) fun a hf => stP hf rfl rfl rfl (pM rfl) fun a hf => stCut 6 (fun a w => Has 92 a [(1,.slice l_p l.length l_c),(6,.pointer (some ⟨b_6,0,none⟩)),(8,.int .i64 sum),(28,.slice l_p l.length l_c),(29,.int .i64 ((l.length : Nat) : Int)),(30,.int .i64 x_1),(10,.pointer (some ⟨b_8,0,none⟩)),(11,.pointer (some ⟨b_10,0,none⟩)),(42,.pointer (some ⟨b_8,0,none⟩)),(43,.int .i64 e_3.Gauging),(44,.pointer (some ⟨b_10,0,none⟩)),(45,.int .i64 e_4.Gauging),(46,.bool (decide (e_3.Gauging ≤ e_4.Gauging))),(47,.bool (decide (e_3.Gauging ≤ e_4.Gauging))),(53,.bool ((decide (e_3.Gauging ≤ e_4.Gauging)) || (e_3.Up == e_4.Up)))] ∧ Ctx G (.box b_10 [.int .i64 e_4.Gauging,.bool e_4.Up] 91::.box b_8 [.int .i64 e_3.Gauging,.bool e_3.Up] 91::.row p_2 c_2 (r_2.1.map enc_api_Span) 50 2::.box b_6 [.slice r_Rating_p r.Rating.length r_Rating_c,.slice r_Gaugings_p r.Gaugings.length r_Gaugings_c,.slice p_2 r_2.1.length c_2] 140::Lf) w) ?_ ?_
      ·cases hb : (decide (e_3.Gauging ≤ e_4.Gauging))
       ·rw [hb] at hf
        refine stP hf rfl rfl rfl (pFA fa_91_1 rfl) fun a hf => stE hf hc rfl rfl rfl (eLd1 sc_4 rfl (cell_box m1 rfl)) fun a w hf hc => stP hf rfl rfl rfl (pFA fa_91_1 rfl) fun a hf => stE hf hc rfl rfl rfl (eLd1 sc_4 rfl (cell_box m0 rfl)) fun a w hf hc => stP hf rfl rfl rfl (pEqB Try.underlying4 rfl rfl) fun a hf => stP hf rfl rfl rfl (pPf rfl rfl) fun a hf => cNil ⟨hf.keep ⟨rfl,rfl,rfl,rfl,rfl,rfl,rfl,rfl,rfl,rfl,rfl,rfl,rfl,rfl,rfl,trivial⟩,hc⟩
       ·rw [hb] at hf
        refine stS hf rfl rfl rfl fun a hf => stS hf rfl rfl rfl fun a hf => stS hf rfl rfl rfl fun a hf => stS hf rfl rfl rfl fun a hf => stS hf rfl rfl rfl fun a hf => stP hf rfl rfl rfl (pPt rfl rfl) fun a hf => cNil ⟨hf.keep ⟨rfl,rfl,rfl,rfl,rfl,rfl,rfl,rfl,rfl,rfl,rfl,rfl,rfl,rfl,rfl,trivial⟩,hc⟩
      intro a w ⟨hf,hc⟩
      refine cNil ?_
      refine h42 _ _ ?_
      refine cCond (b := ((decide (e_3.Gauging ≤ e_4.Gauging)) || (e_3.Up == e_4.Up))) hf rfl (fun hb => ?_) (fun hb => ?_)
      ·replace hF := condT hb hF
       clear hb
       refine wp_seq_k fun K43 h43 => cReg ?_
       refine stP hf rfl rfl rfl (pA rfl) fun a hf => stP hf rfl rfl rfl (pA rfl) fun a hf => cNil ?_
       refine h43 _ _ ?_
       refine wp_ret ?_
       refine xThenR ?_
       refine xBlkR ?_
       refine xThenR ?_
       refine xThenR ?_
       have he := Option.some.inj hF
       rw [← he] at hfin32
       replace hF := ho32 _ hfin32
       refine xBlkR ?_
       refine xThenR ?_
       obtain rfl := hF
       replace hc := hc.drop k3
       replace hc := hc.drop k2
       replace hc := hc.drop k1
       replace hc := hc.drop k0
       exact fnOut2 (by simp) rfl Try.results46 hf hc (show look _ 4 = _ from rfl) (show look _ 5 = _ from rfl) ⟨rfl,hc⟩
      ·replace hF := condF hb hF
       clear hb
       refine wp_skip ?_
       refine h41 _ _ ?_
       refine wp_seq_k fun K44 h44 => ?_
       obtain ⟨e_5,he_5,hF⟩ := bnd_some hF
       obtain ⟨g,rfl,qa_4,qr⟩ := row_atm hc m2 he_5
       obtain ⟨e_6,he_6,hF⟩ := bnd_some hF
       obtain ⟨qa_5,qr_1⟩ := row_atk hc m2 he_6
       refine cQ hc follows_mx (by kernel_rfl) ?_
       refine qE hf rfl rfl rfl (eLdN (vs := [.int .i64 e_4.Gauging,.bool e_4.Up]) ag_91 rfl rfl (cells_box (n := 2) m0 rfl)) fun a hf => qE hf rfl rfl rfl (eC (v := .agg #[(bif (shift_Turn_ends e_4) then .func (.func 119) #[] #[] else .func (.func 120) #[] #[])]) (vs := [.agg #[.int .i64 e_4.Gauging,.bool e_4.Up]]) (caps := []) en_91 rfl rfl rfl rfl (fun w hc => shift_Turn_ends_ok e_4 hc rfl)) fun a hf => qE hf rfl rfl rfl (Pu.ev (pField1 Try.underlying168 rfl sc_166 rfl rfl)) fun a hf => qE hf rfl rfl rfl (Pu.ev (pM rfl)) fun a hf => qE hf rfl rfl rfl (Pu.ev (pNC rfl)) fun a hf => qE hf rfl rfl rfl (Pu.ev (pFA fa_140_1 rfl)) fun a hf => qE hf rfl rfl rfl (eLd1 sc_44 rfl (cell_box m3 rfl)) fun a hf => qE hf rfl rfl rfl (Pu.ev (pFA fa_91_0 rfl)) fun a hf => qE hf rfl rfl rfl (eLd1 sc_3 rfl (cell_box m0 rfl)) fun a hf => qE hf rfl rfl rfl (Pu.ev (pIA Try.underlying44 sz_50 rfl rfl qa_4)) fun a hf => qE hf rfl rfl rfl (eLdN (vs := [.int .i64 e_5.Lo,.int .i64 e_5.Hi]) ag_50 rfl rfl (cells_rw (sz := 2) (i := e_4.Gauging.toNat) m2 qr (n := 2) (o' := 0) rfl)) fun a hf => qE hf rfl rfl rfl (eCsel (c := (shift_Turn_ends e_4)) (v := .int .i64 (bif (shift_Turn_ends e_4) then (shift_Turn_ends_1 e_5) else (shift_Turn_ends_2 e_5))) (v1 := .int .i64 (shift_Turn_ends_1 e_5)) (v2 := .int .i64 (shift_Turn_ends_2 e_5)) (vs := [.agg #[.int .i64 e_5.Lo,.int .i64 e_5.Hi]]) en_119 en_120 rfl rfl rfl rfl (fun hb => congrArg (Value.int .i64) (bifT hb)) (fun hb => congrArg (Value.int .i64) (bifF hb)) (fun w hc => shift_Turn_ends_1_ok e_5 hc rfl) (fun w hc => shift_Turn_ends_2_ok e_5 hc rfl)) fun a hf => qE hf rfl rfl rfl (eLdN (vs := [.int .i64 e_3.Gauging,.bool e_3.Up]) ag_91 rfl rfl (cells_box (n := 2) m1 rfl)) fun a hf => ?_
       refine qE hf rfl rfl rfl (eC (v := .agg #[(bif (shift_Turn_ends e_3) then .func (.func 119) #[] #[] else .func (.func 120) #[] #[])]) (vs := [.agg #[.int .i64 e_3.Gauging,.bool e_3.Up]]) (caps := []) en_91 rfl rfl rfl rfl (fun w hc => shift_Turn_ends_ok e_3 hc rfl)) fun a hf => qE hf rfl rfl rfl (Pu.ev (pField1 Try.underlying168 rfl sc_166 rfl rfl)) fun a hf => qE hf rfl rfl rfl (Pu.ev (pM rfl)) fun a hf => qE hf rfl rfl rfl (Pu.ev (pNC rfl)) fun a hf => qE hf rfl rfl rfl (Pu.ev (pFA fa_140_1 rfl)) fun a hf => qE hf rfl rfl rfl (eLd1 sc_44 rfl (cell_box m3 rfl)) fun a hf => qE hf rfl rfl rfl (Pu.ev (pFA fa_91_0 rfl)) fun a hf => qE hf rfl rfl rfl (eLd1 sc_3 rfl (cell_box m1 rfl)) fun a hf => qE hf rfl rfl rfl (Pu.ev (pIA Try.underlying44 sz_50 rfl rfl qa_5)) fun a hf => qE hf rfl rfl rfl (eLdN (vs := [.int .i64 e_6.Lo,.int .i64 e_6.Hi]) ag_50 rfl rfl (cells_rw (sz := 2) (i := e_3.Gauging.toNat) m2 qr_1 (n := 2) (o' := 0) rfl)) fun a hf => qE hf rfl rfl rfl (eCsel (c := (shift_Turn_ends e_3)) (v := .int .i64 (bif (shift_Turn_ends e_3) then (shift_Turn_ends_1 e_6) else (shift_Turn_ends_2 e_6))) (v1 := .int .i64 (shift_Turn_ends_1 e_6)) (v2 := .int .i64 (shift_Turn_ends_2 e_6)) (vs := [.agg #[.int .i64 e_6.Lo,.int .i64 e_6.Hi]]) en_119 en_120 rfl rfl rfl rfl (fun hb => congrArg (Value.int .i64) (bifT hb)) (fun hb => congrArg (Value.int .i64) (bifF hb)) (fun w hc => shift_Turn_ends_1_ok e_6 hc rfl) (fun w hc => shift_Turn_ends_2_ok e_6 hc rfl)) fun a hf => qE hf rfl rfl rfl (Pu.ev (pA rfl)) fun a hf => qE hf rfl rfl rfl (Pu.ev (pA rfl)) fun a hf => ?_
       intro w hc
       refine h44 _ _ ?_
       refine wp_seq_k fun K45 h45 => cReg ?_
       refine stP hf rfl rfl rfl (pFA fa_91_1 rfl) fun a hf => stE hf hc rfl rfl rfl (eLd1 sc_4 rfl (cell_box m1 rfl)) fun a w hf hc => cNil ?_
       refine h45 _ _ ?_
       refine cCond (b := e_3.Up) hf rfl (fun hb => ?_) (fun hb => ?_)
       ·replace hF := condT hb hF
        clear hb
        refine cReg ?_
        refine stP hf rfl rfl rfl (pM rfl) fun a hf => stP hf rfl rfl rfl (pM rfl) fun a hf => stP hf rfl rfl rfl (pM rfl) fun a hf => stP hf rfl rfl rfl (pSub rfl rfl) fun a hf => stP hf rfl rfl rfl (pAdd rfl rfl) fun a hf => stP hf rfl rfl rfl (pA rfl) fun a hf => cNil ?_
        replace hc := hc.drop k1
        replace hc := hc.drop k0
        exact hj36 (W (sum + (W ((bif (shift_Turn_ends e_4) then (shift_Turn_ends_1 e_5) else (shift_Turn_ends_2 e_5)) - (bif (shift_Turn_ends e_3) then (shift_Turn_ends_1 e_6) else (shift_Turn_ends_2 e_6)))))) (some ⟨g,0,none⟩) c_2 _ _  (hf.keep ⟨rfl,rfl,rfl,rfl,rfl,rfl,trivial⟩) hc hF
       ·replace hF := condF hb hF
        clear hb
        refine cReg ?_
        refine stP hf rfl rfl rfl (pM rfl) fun a hf => stP hf rfl rfl rfl (pM rfl) fun a hf => stP hf rfl rfl rfl (pM rfl) fun a hf => stP hf rfl rfl rfl (pSub rfl rfl) fun a hf => stP hf rfl rfl rfl (pAdd rfl rfl) fun a hf => stP hf rfl rfl rfl (pA rfl) fun a hf => cNil ?_
        replace hc := hc.drop k1
        replace hc := hc.drop k0
        exact hj36 (W (sum + (W ((bif (shift_Turn_ends e_3) then (shift_Turn_ends_1 e_6) else (shift_Turn_ends_2 e_6)) - (bif (shift_Turn_ends e_4) then (shift_Turn_ends_1 e_5) else (shift_Turn_ends_2 e_5)))))) (some ⟨g,0,none⟩) c_2 _ _  (hf.keep ⟨rfl,rfl,rfl,rfl,rfl,rfl,trivial⟩) hc hF
    ·replace hF := condF hb hF
     clear hb
     refine wp_exit ?_
     refine xThen ?_
     refine xThen ?_
     have he := Option.some.inj hF
     rw [← he] at hfin32
     refine cHit ?_
     exact hr32 _ _ _ hfin32 ⟨p_2,c_2,hf.keep ⟨rfl,rfl,rfl,rfl,rfl,rfl,trivial⟩,hc⟩

def shift_can_j19 (N : Nat) (xv_1 : Int) (x_4 : Int) : Option (Rs (Int × Int)) :=
 some (.go (x_4,xv_1))
def shift_can_r15 (N : Nat) (most : Int) (r : (List (Nat → Int))) (r_1 : (List (Nat → Int))) (x : Int) (x_1 : Int) (x_2 : Int) (xv : Int) (xv_1 : Int) : Option (Rs (Int × Int)) :=
 Option.bind (Option.bind (getI r x) fun e_1 =>
 Option.bind (inR xv 601) fun un =>
 cond ((e_1 xv.toNat) != 1073741824)
 (Option.bind (getI r_1 x) fun e_2 =>
 some (decide ((W ((e_1 xv.toNat) + (e_2 xv.toNat))) ≤ most)))
 (some false)) fun rg =>
 cond rg
 (cond (decide (x_2 < x_1))
 (shift_can_j19 N xv_1 xv_1)
 (shift_can_j19 N xv_1 x_1))
 (some (.go (x_1,x_2)))
def shift_can_b6 (N : Nat) (l : List api_Span) (most : Int) (r : (List (Nat → Int))) (r_1 : (List (Nat → Int))) (out : List api_Span) (x : Int) : Option (Step ((List api_Span) × Int) ((List api_Span) × Bool)) :=
 cond (decide (x < ((l.length : Nat) : Int)))
 (Option.bind (shift_shifts_1 N (rY (fun (zz : Int × Int) (ix_ : (Int × Int)) => shift_can_r15 N most r r_1 x zz.1 zz.2 ix_.1 ix_.2)) (.go (1,0))) fun x15 =>
 rsK x15 (fun zz15 => cond (decide (zz15.2 < zz15.1))
 (some (.ret (([] : List api_Span),false)))
 (Option.bind (room ((out ++ [(⟨zz15.1,zz15.2⟩ : api_Span)])).length) fun un_1 =>
 some (.cont ((out ++ [(⟨zz15.1,zz15.2⟩ : api_Span)]),W (x + 1))))) (fun zz15 => none))
 (some (.brk (out,x)))
def shift_can (N : Nat) (l : List api_Span) (most : Int) : Option ((List api_Span) × Bool) :=
 Option.bind (shift_reckoned N l) fun r =>
 Option.bind (shift_behind N l) fun r_1 =>
 Option.bind (loopO (fun s6 => shift_can_b6 N l most r r_1 s6.1 s6.2) N (([] : List api_Span),0)) fun x6 =>
 exK x6 (fun s6 => some (s6.1,true)) some
theorem shift_can_ok {N : Nat} {G : Pers} {Lf : List Ent} {w : World} (l : List api_Span) (most : Int) {l_p : Option Addr} {l_c : Nat} (h_l : Rd G 2 l_p l_c (l.map enc_api_Span)) (hc : Ctx G (Lf) w) {res : (List api_Span) × Bool} (hF : shift_can N l most = some res) : Calls Try.prog 76 #[.slice l_p l.length l_c,.int .i64 most] w (fun e w => ∃ (p'1 : Option Addr) (c'1 : Nat),e = .returned (.tuple #[.slice p'1 res.1.length c'1,.bool res.2]) ∧ Ctx G (.row p'1 c'1 (res.1.map enc_api_Span) 50 2::Lf) w) := by
 unfold shift_can at hF
 refine fnInM (args := [.slice l_p l.length l_c,.int .i64 most]) Try.func76 rfl Try.ntmps76 rfl fun a hf => wp_seq_k fun K1 h1 => cReg ?_
 refine stBx (cs := [.int .i64 most]) hf hc rfl rfl rfl rfl fun b_1 a w hf hc => stP hf rfl rfl rfl (pA rfl) fun a hf => stP hf rfl rfl rfl (pA rfl) fun a hf => cNil ?_
 refine h1 _ _ ?_
 refine wp_seq_k fun K2 h2 => cReg ?_
 refine stP hf rfl rfl rfl (pM rfl) fun a hf => ?_
 obtain ⟨r,hr,hF⟩ := bnd_some hF
 refine stC (vs := [.slice l_p l.length l_c]) (caps := []) hf rfl rfl rfl en_108 rfl rfl rfl rfl (shift_reckoned_ok l h_l hc hr) ?_
 rintro _ w ⟨p_1,c_1,rfl,hc⟩
 refine ⟨_,rfl,fun a hf => ?_⟩
 refine stP hf rfl rfl rfl (pM rfl) fun a hf => ?_
 obtain ⟨r_1,hr_1,hF⟩ := bnd_some hF
 refine stC (vs := [.slice l_p l.length l_c]) (caps := []) hf rfl rfl rfl en_80 rfl rfl rfl rfl (shift_behind_ok l h_l hc hr_1) ?_
 rintro _ w ⟨p_2,c_2,rfl,hc⟩
 refine ⟨_,rfl,fun a hf => ?_⟩
 refine stAl (cs := [.slice none 0 0]) hf hc rfl rfl zr_152 rfl fun b_2 a w hf hc => stAl (cs := [.slice none 0 0]) hf hc rfl rfl zr_152 rfl fun b_3 a w hf hc => stSt (vs := [.slice p_1 r.length c_1]) hf hc rfl rfl rfl rfl sz_152 rfl rfl u1 fun w hc => stSt (vs := [.slice p_2 r_1.length c_2]) hf hc rfl rfl rfl rfl sz_152 rfl rfl u0 fun w hc => cNil ?_
 refine h2 _ _ ?_
 refine wp_seq_k fun K3 h3 => cReg ?_
 refine stP hf rfl rfl rfl (pA rfl) fun a hf => cNil ?_
 refine h3 _ _ ?_
 refine wp_seq_k fun K4 h4 => wp_seq_k fun K5 h5 => cReg ?_
 refine stP hf rfl rfl rfl (pM rfl) fun a hf => stP hf rfl rfl rfl (pLenS Try.underlying44 rfl) fun a hf => stP hf rfl rfl rfl (pM rfl) fun a hf => cNil ?_
 refine h5 _ _ ?_
 refine wp_block ?_
 obtain ⟨x6,hx6,hF⟩ := bnd_some hF
 let S6 : ((List api_Span) × Int) → Act → World → Prop := (fun (zz : (List api_Span) × Int) a w => ∃ (p_3 : Option Addr) (c_3 : Nat) (p_4 : Option Addr) (c_4 : Nat) (p_5 : Option Addr) (c_5 : Nat) (Ds : List Nat),Has ⟨70,markL Ds⟩ a [(3,.pointer (some ⟨b_1,0,none⟩)),(6,.pointer (some ⟨b_2,0,none⟩)),(7,.pointer (some ⟨b_3,0,none⟩)),(8,.slice p_3 zz.1.length c_3),(18,.int .i64 ((l.length : Nat) : Int)),(19,.int .i64 zz.2)] ∧ Ctx G (.row p_3 c_3 (zz.1.map enc_api_Span) 50 2::.box b_3 [.slice p_5 r_1.length c_5] 152::.box b_2 [.slice p_4 r.length c_4] 152::.row p_5 c_5 (r_1.map encA_155) 155 601::.row p_4 c_4 (r.map encA_155) 155 601::.box b_1 [.int .i64 most] 3::(raws Ds ++ Lf)) w)
 have hr6 : ∀ (zz : (List api_Span) × Int) a w,x6 = .go zz → S6 zz a w → K4 a w := by
  rintro ⟨out,x⟩ a w rfl ⟨p_3,c_3,p_4,c_4,p_5,c_5,Ds,hf,hc⟩
  replace hF := exK_go hF
  refine h4 _ _ ?_
  refine wp_seq_k fun K7 h7 => cReg ?_
  refine stP hf rfl rfl rfl (pM rfl) fun a hf => stP hf rfl rfl rfl (pA rfl) fun a hf => stP hf rfl rfl rfl (pA rfl) fun a hf => cNil ?_
  refine h7 _ _ ?_
  refine wp_ret ?_
  obtain rfl := Option.some.inj hF
  replace hc := hc.drop k5
  replace hc := hc.drop k4
  replace hc := hc.drop k3
  replace hc := hc.drop k2
  replace hc := hc.drop k1
  refine outM hf ?_
  refine outML [.row p_3 c_3 (out.map enc_api_Span) 50 2] Ds hc fun w hc => ?_
  replace hc : Ctx G (.row p_3 c_3 (out.map enc_api_Span) 50 2::Lf) w := hc
  exact outM2 Try.results76 hf hc (show look _ 4 = _ from rfl) (show look _ 5 = _ from rfl) ⟨p_3,c_3,rfl,hc⟩
 have ho6 : ∀ r,x6 = .out r → r = res := by
  rintro r rfl
  exact Option.some.inj hF
 replace hf := markZ hf
 replace hc : Ctx G (.box b_3 [.slice p_2 r_1.length c_2] 152::.box b_2 [.slice p_1 r.length c_1] 152::.row p_2 c_2 (r_1.map encA_155) 155 601::.row p_1 c_1 (r.map encA_155) 155 601::.box b_1 [.int .i64 most] 3::(raws [] ++ Lf)) w := hc
 replace hc := hc.nilRow 50 2
 refine cLoop N (loopW (S := S6) (x := x6) ?_ N (([] : List api_Span),0) _ _ ⟨none,0,p_1,c_1,p_2,c_2,[],hf.keep ⟨rfl,rfl,rfl,rfl,rfl,rfl,trivial⟩,hc⟩ hx6)
 clear hF hf hc
 rintro ⟨out,x⟩ st6 a w KB6 ⟨p_3,c_3,p_4,c_4,p_5,c_5,Ds,hf,hc⟩ hF hfin6 hK6
 unfold shift_can_b6 at hF
 refine wp_seq_k fun K8 h8 => cReg ?_
 refine stP hf rfl rfl rfl (pLt rfl rfl) fun a hf => cNil ?_
 refine h8 _ _ ?_
 refine wp_seq_k fun K9 h9 => cCond (b := (decide (x < ((l.length : Nat) : Int)))) hf rfl (fun hb => ?_) (fun hb => ?_)
 ·replace hF := condT hb hF
  clear hb
  refine wp_skip ?_
  refine h9 _ _ ?_
  refine wp_seq_k fun K10 h10 => wp_block ?_
  refine wp_seq_k fun K11 h11 => cReg ?_
  refine stP hf rfl rfl rfl (pM rfl) fun a hf => stAl (cs := [.int .i64 0]) hf hc rfl rfl zr_3 rfl fun b_4 a w hf hc => stSt (vs := [.int .i64 x]) hf hc rfl rfl rfl rfl sz_3 rfl rfl u0 fun w hc => cNil ?_
  refine h11 _ _ ?_
  refine wp_seq_k fun K12 h12 => cReg ?_
  refine stP hf rfl rfl rfl (pBuildS (cells := [.int .i64 1,.int .i64 0]) bt_50 rfl rfl) fun a hf => stAl (cs := [.int .i64 0,.int .i64 0]) hf hc rfl rfl zr_50 rfl fun b_5 a w hf hc => stSt (vs := [.int .i64 1,.int .i64 0]) hf hc rfl rfl rfl rfl sz_50 rfl rfl u0 fun w hc => cNil ?_
  refine h12 _ _ ?_
  refine wp_seq_k fun K13 h13 => wp_seq_k fun K14 h14 => cReg ?_
  refine stE hf hc rfl rfl rfl (eC (v := .func (.func 113) #[] #[]) (vs := []) (caps := []) en_82 rfl rfl rfl rfl (fun w hc => shift_shifts_ok hc rfl)) fun a w hf hc => cNil ?_
  refine h14 _ _ ?_
  obtain ⟨x15,hx15,hF⟩ := bnd_some hF
  refine cRange (C := []) (C2 := []) (L0 := [.box b_5 [.int .i64 1,.int .i64 0] 50,.box b_4 [.int .i64 x] 3,.row p_3 c_3 (out.map enc_api_Span) 50 2,.box b_3 [.slice p_5 r_1.length c_5] 152,.box b_2 [.slice p_4 r.length c_4] 152,.row p_5 c_5 (r_1.map encA_155) 155 601,.row p_4 c_4 (r.map encA_155) 155 601,.box b_1 [.int .i64 most] 3]) (Lf := (raws Ds ++ Lf)) (encs := fun x : (Int × Int) => [.int .i64 x.1,.int .i64 x.2]) (fun (zz : Int × Int) L => ∃ (p_6 : Option Addr) (c_6 : Nat) (p_7 : Option Addr) (c_7 : Nat),L = [.box b_5 [.int .i64 zz.1,.int .i64 zz.2] 50,.box b_4 [.int .i64 x] 3,.row p_3 c_3 (out.map enc_api_Span) 50 2,.box b_3 [.slice p_7 r_1.length c_7] 152,.box b_2 [.slice p_6 r.length c_6] 152,.row p_7 c_7 (r_1.map encA_155) 155 601,.row p_6 c_6 (r.map encA_155) 155 601,.box b_1 [.int .i64 most] 3]) (fun (zz : Int × Int) (ix_ : (Int × Int)) => shift_can_r15 N most r r_1 x zz.1 zz.2 ix_.1 ix_.2) (1,0) x15 hf hc rfl en_113 (fun _ => rfl) rfl ⟨p_4,c_4,p_5,c_5,rfl⟩ ?_ ?_ ?_ ?_
  ·intro lq mq J L Lx w hy hJ hc
   exact shift_shifts_1_ok  J _ hy _ hJ hc hx15
  ·clear hF hf hc
   rintro lq mq ⟨x_1,x_2⟩ ⟨xv,xv_1⟩ oq _ Lr Lb a w hK0 ⟨p_6,c_6,p_7,c_7,rfl⟩ hF hf hc hK
   replace hf : Has 70 a [(3,.pointer (some ⟨b_1,0,none⟩)),(6,.pointer (some ⟨b_2,0,none⟩)),(7,.pointer (some ⟨b_3,0,none⟩)),(8,.slice p_3 out.length c_3),(9,.pointer (some ⟨b_4,0,none⟩)),(10,.pointer (some ⟨b_5,0,none⟩)),(18,.int .i64 ((l.length : Nat) : Int)),(19,.int .i64 x),(24,.int .i64 xv),(25,.int .i64 xv_1)] := hf.keep ⟨rfl,rfl,rfl,rfl,rfl,rfl,rfl,rfl,rfl,rfl,trivial⟩
   replace hc : Ctx G (.box b_5 [.int .i64 x_1,.int .i64 x_2] 50::.box b_4 [.int .i64 x] 3::.row p_3 c_3 (out.map enc_api_Span) 50 2::.box b_3 [.slice p_7 r_1.length c_7] 152::.box b_2 [.slice p_6 r.length c_6] 152::.row p_7 c_7 (r_1.map encA_155) 155 601::.row p_6 c_6 (r.map encA_155) 155 601::.box b_1 [.int .i64 most] 3::Lr) w := hc
   replace hF : shift_can_r15 N most r r_1 x x_1 x_2 xv xv_1 = some oq := hF
   unfold shift_can_r15 at hF
   refine rSeq fun K16 h16 => rReg (fun _ _ h => h) rfl ?_
   refine stP hf rfl rfl rfl (pA rfl) fun a hf => cNil ?_
   refine h16 _ _ ?_
   refine rReg (fun _ _ h => h) rfl ?_
   refine stP hf rfl rfl rfl (pA rfl) fun a hf => cNil ?_
   refine hK _ _ [.box b_5 [.int .i64 x_1,.int .i64 x_2] 50,.box b_4 [.int .i64 x] 3,.row p_3 c_3 (out.map enc_api_Span) 50 2,.box b_3 [.slice p_7 r_1.length c_7] 152,.box b_2 [.slice p_6 r.length c_6] 152,.row p_7 c_7 (r_1.map encA_155) 155 601,.row p_6 c_6 (r.map encA_155) 155 601,.box b_1 [.int .i64 most] 3] hc fun w hc => ?_
   replace hc : Ctx G (.box b_5 [.int .i64 x_1,.int .i64 x_2] 50::.box b_4 [.int .i64 x] 3::.row p_3 c_3 (out.map enc_api_Span) 50 2::.box b_3 [.slice p_7 r_1.length c_7] 152::.box b_2 [.slice p_6 r.length c_6] 152::.row p_7 c_7 (r_1.map encA_155) 155 601::.row p_6 c_6 (r.map encA_155) 155 601::.box b_1 [.int .i64 most] 3::Lb) w := hc
   refine rThenK fun K17 h17 => rBlock ?_
   refine rSeq fun K18 h18 => ?_
   obtain ⟨rg,hrg,hF⟩ := bnd_some hF
   refine rCut (fun a w => ∃ (p_8 : Option Addr) (c_8 : Nat) (p_9 : Option Addr) (c_9 : Nat),Has 70 a [(3,.pointer (some ⟨b_1,0,none⟩)),(6,.pointer (some ⟨b_2,0,none⟩)),(7,.pointer (some ⟨b_3,0,none⟩)),(8,.slice p_3 out.length c_3),(9,.pointer (some ⟨b_4,0,none⟩)),(10,.pointer (some ⟨b_5,0,none⟩)),(12,.int .i64 xv_1),(18,.int .i64 ((l.length : Nat) : Int)),(19,.int .i64 x),(49,.bool rg)] ∧ Ctx G (.box b_5 [.int .i64 x_1,.int .i64 x_2] 50::.box b_4 [.int .i64 x] 3::.row p_3 c_3 (out.map enc_api_Span) 50 2::.box b_3 [.slice p_9 r_1.length c_9] 152::.box b_2 [.slice p_8 r.length c_8] 152::.row p_9 c_9 (r_1.map encA_155) 155 601::.row p_8 c_8 (r.map encA_155) 155 601::.box b_1 [.int .i64 most] 3::Lb) w) ?_ ?_
   ·clear hF
    have hF := hrg
    clear hrg
    obtain ⟨e_1,he_1,hF⟩ := bnd_some hF
    obtain ⟨g,rfl,qa,qr⟩ := row_atm hc m6 he_1
    obtain ⟨un,hun,hF⟩ := bnd_some hF
    cases hb : ((e_1 xv.toNat) != 1073741824)
    ·replace hF := condF hb hF
     try rw [hb] at hf
     try rw [hb] at hc
     have hb1 := hb
     clear hb
     refine rRegE (fun _ _ h => h) rfl (fun θ => (⟨none,none,3,.pointer (some ⟨b_1,0,none⟩)⟩::⟨none,none,6,.pointer (some ⟨b_2,0,none⟩)⟩::⟨none,none,7,.pointer (some ⟨b_3,0,none⟩)⟩::⟨none,none,8,.slice p_3 out.length c_3⟩::⟨none,none,9,.pointer (some ⟨b_4,0,none⟩)⟩::⟨none,none,10,.pointer (some ⟨b_5,0,none⟩)⟩::⟨none,none,11,.int .i64 xv⟩::⟨none,none,12,.int .i64 xv_1⟩::⟨none,none,18,.int .i64 ((l.length : Nat) : Int)⟩::⟨none,none,19,.int .i64 x⟩::⟨some 0,none,26,.slice (some ⟨g,0,none⟩) r.length c_6⟩::⟨some 1,none,27,.int .i64 x⟩::⟨some 2,none,28,.int .i64 xv⟩::⟨some 3,none,29,.pointer (some ⟨g,x.toNat * 601,none⟩)⟩::⟨some 4,none,30,.pointer (some ⟨g,x.toNat * 601 + xv.toNat * 1,none⟩)⟩::⟨some 5,none,31,.int .i64 (e_1 xv.toNat)⟩::⟨some 6,none,32,.bool false⟩::⟨some 7,none,33,.bool false⟩::⟨some 8,none,34,undef⟩::⟨some 9,none,35,undef⟩::⟨some 10,none,36,undef⟩::⟨some 11,none,37,undef⟩::⟨some 12,none,38,undef⟩::⟨some 13,none,39,undef⟩::⟨some 14,none,40,undef⟩::⟨some 15,none,41,undef⟩::⟨some 16,none,42,undef⟩::⟨some 17,none,43,undef⟩::⟨some 18,none,44,undef⟩::⟨some 19,none,45,undef⟩::⟨some 20,none,46,undef⟩::⟨some 21,none,47,undef⟩::⟨some 22,none,48,undef⟩::⟨some 23,none,49,.bool false⟩::[])) (fun E θ => .box b_5 [.int .i64 x_1,.int .i64 x_2] 50::.box b_4 [.int .i64 x] 3::.row p_3 c_3 (out.map enc_api_Span) 50 2::.box b_3 [.slice p_7 r_1.length c_7] 152::.box b_2 [.slice (some ⟨g,0,none⟩) r.length c_6] 152::.row p_7 c_7 (r_1.map encA_155) 155 601::.row (some ⟨g,0,none⟩) c_6 (r.map encA_155) 155 601::.box b_1 [.int .i64 most] 3::Lb) [] (fun a w => Has 70 a [(3,.pointer (some ⟨b_1,0,none⟩)),(6,.pointer (some ⟨b_2,0,none⟩)),(7,.pointer (some ⟨b_3,0,none⟩)),(8,.slice p_3 out.length c_3),(9,.pointer (some ⟨b_4,0,none⟩)),(10,.pointer (some ⟨b_5,0,none⟩)),(12,.int .i64 xv_1),(18,.int .i64 ((l.length : Nat) : Int)),(19,.int .i64 x),(34,undef),(35,undef),(36,undef),(37,undef),(38,undef),(39,undef),(40,undef),(41,undef),(42,undef),(43,undef),(44,undef),(45,undef),(46,undef),(47,undef),(48,undef),(49,.bool false)] ∧ Ctx G (.box b_5 [.int .i64 x_1,.int .i64 x_2] 50::.box b_4 [.int .i64 x] 3::.row p_3 c_3 (out.map enc_api_Span) 50 2::.box b_3 [.slice p_7 r_1.length c_7] 152::.box b_2 [.slice (some ⟨g,0,none⟩) r.length c_6] 152::.row p_7 c_7 (r_1.map encA_155) 155 601::.row (some ⟨g,0,none⟩) c_6 (r.map encA_155) 155 601::.box b_1 [.int .i64 most] 3::Lb) w) follows_mx (by kernel_rfl) (by kernel_rfl) (HasE.of hf ⟨rfl,rfl,rfl,rfl,rfl,rfl,rfl,rfl,rfl,rfl,trivial,trivial,trivial,trivial,trivial,trivial,trivial,trivial,trivial,trivial,trivial,trivial,trivial,trivial,trivial,trivial,trivial,trivial,trivial,trivial,trivial,trivial,trivial,trivial,trivial⟩) hc ⟨?_,?_,?_,?_,?_,?_,?_,?_,?_,?_,?_,?_,?_,?_,?_,?_,?_,?_,?_,?_,?_,?_,?_,?_,trivial⟩ ?_ ?_
     ·intro E θ a w hD hi hp he hc
      have hf := he.h0
      replace hf := hf.more he 1 rfl onT
      refine stE hf hc rfl rfl rfl (eLd1 sc_152 rfl (cell_box m4 rfl)) fun a w hf hc => cNil ?_
      refine xThenN ?_
      intro ds u hau
      refine ⟨θ,he.put0 hi hau hf rfl 10 rfl rfl,?_⟩
      exact hc
     ·intro E θ a w hD hi hp he hc
      have hf := he.h0
      replace hf := hf.more he 4 rfl onT
      refine stE hf hc rfl rfl rfl (eLd1 sc_3 rfl (cell_box m1 rfl)) fun a w hf hc => cNil ?_
      refine xThenN ?_
      intro ds u hau
      refine ⟨θ,he.put0 hi hau hf rfl 11 rfl rfl,?_⟩
      exact hc
     ·intro E θ a w hD hi hp he hc
      have hf := he.h0
      replace hf := hf.more he 6 rfl onT
      refine stP hf rfl rfl rfl (pM rfl) fun a hf => cNil ?_
      refine xThenN ?_
      intro ds u hau
      refine ⟨θ,he.put0 hi hau hf rfl 12 rfl rfl,?_⟩
      exact hc
     ·intro E θ a w hD hi hp he hc
      have e0 := hp.of (k := 0) rfl
      have e1 := hp.of (k := 1) rfl
      have hf := he.h0
      replace hf := hf.more he 10 rfl (onP e0)
      replace hf := hf.more he 11 rfl (onP e1)
      refine stP hf rfl rfl rfl (pIA Try.underlying152 sz_155 rfl rfl qa) fun a hf => cNil ?_
      refine xThenN ?_
      intro ds u hau
      refine ⟨θ,he.put0 hi hau hf rfl 13 rfl rfl,?_⟩
      exact hc
     ·intro E θ a w hD hi hp he hc
      have e2 := hp.of (k := 2) rfl
      have e3 := hp.of (k := 3) rfl
      have hf := he.h0
      replace hf := hf.more he 12 rfl (onP e2)
      replace hf := hf.more he 13 rfl (onP e3)
      refine stP hf rfl rfl rfl (pIAA Try.underlying155 sz_3 rfl rfl (inR_spec hun).1 (inR_spec hun).2) fun a hf => cNil ?_
      refine xThenN ?_
      intro ds u hau
      refine ⟨θ,he.put0 hi hau hf rfl 14 rfl rfl,?_⟩
      exact hc
     ·intro E θ a w hD hi hp he hc
      have e4 := hp.of (k := 4) rfl
      have hf := he.h0
      replace hf := hf.more he 14 rfl (onP e4)
      refine stE hf hc rfl rfl rfl (eLd1 sc_3 rfl (cell_row (sz := 601) (i := x.toNat) (j := xv.toNat * 1 + 0) m6 qr (catc_cell (fun x => (one_encI_i64 x).1) hun rfl))) fun a w hf hc => cNil ?_
      refine xThenN ?_
      intro ds u hau
      refine ⟨θ,he.put0 hi hau hf rfl 15 rfl rfl,?_⟩
      exact hc
     ·intro E θ a w hD hi hp he hc
      have e5 := hp.of (k := 5) rfl
      have hf := he.h0
      replace hf := hf.more he 15 rfl (onP e5)
      refine stP hf rfl rfl rfl (pNe rfl rfl) fun a hf => ?_
      rw [hb1] at hf
      refine cNil ?_
      refine xThenN ?_
      intro ds u hau
      refine ⟨θ,he.put0 hi hau hf rfl 16 rfl rfl,?_⟩
      exact hc
     ·intro E θ a w hD hi hp he hc
      have e6 := hp.of (k := 6) rfl
      have hf := he.h0
      replace hf := hf.more he 16 rfl (onP e6)
      refine stP hf rfl rfl rfl (pM rfl) fun a hf => cNil ?_
      refine xThenN ?_
      intro ds u hau
      refine ⟨θ,he.put0 hi hau hf rfl 17 rfl rfl,?_⟩
      exact hc
     ·intro E θ a w hD hi hp he hc
      have e7 := hp.of (k := 7) rfl
      have hf := he.h0
      replace hf := hf.more he 1 rfl onT
      replace hf := hf.more he 17 rfl (onP e7)
      refine stS hf rfl rfl rfl fun a hf => cNil ?_
      refine xThenN ?_
      intro ds u hau
      refine ⟨θ,he.put0 hi hau hf rfl 18 rfl rfl,?_⟩
      exact hc
     ·intro E θ a w hD hi hp he hc
      have e7 := hp.of (k := 7) rfl
      have hf := he.h0
      replace hf := hf.more he 4 rfl onT
      replace hf := hf.more he 17 rfl (onP e7)
      refine stS hf rfl rfl rfl fun a hf => cNil ?_
      refine xThenN ?_
      intro ds u hau
      refine ⟨θ,he.put0 hi hau hf rfl 19 rfl rfl,?_⟩
      exact hc
     ·intro E θ a w hD hi hp he hc
      have e7 := hp.of (k := 7) rfl
      have hf := he.h0
      replace hf := hf.more he 6 rfl onT
      replace hf := hf.more he 17 rfl (onP e7)
      refine stS hf rfl rfl rfl fun a hf => cNil ?_
      refine xThenN ?_
      intro ds u hau
      refine ⟨θ,he.put0 hi hau hf rfl 20 rfl rfl,?_⟩
      exact hc
     ·intro E θ a w hD hi hp he hc
      have e7 := hp.of (k := 7) rfl
      have e8 := hp.of (k := 8) rfl
      have e9 := hp.of (k := 9) rfl
      have hf := he.h0
      replace hf := hf.more he 17 rfl (onP e7)
      replace hf := hf.more he 18 rfl (onP e8)
      replace hf := hf.more he 19 rfl (onP e9)
      refine stS hf rfl rfl rfl fun a hf => cNil ?_
      refine xThenN ?_
      intro ds u hau
      refine ⟨θ,he.put0 hi hau hf rfl 21 rfl rfl,?_⟩
      exact hc
     ·intro E θ a w hD hi hp he hc
      have e7 := hp.of (k := 7) rfl
      have e10 := hp.of (k := 10) rfl
      have e11 := hp.of (k := 11) rfl
      have hf := he.h0
      replace hf := hf.more he 17 rfl (onP e7)
      replace hf := hf.more he 20 rfl (onP e10)
      replace hf := hf.more he 21 rfl (onP e11)
      refine stS hf rfl rfl rfl fun a hf => cNil ?_
      refine xThenN ?_
      intro ds u hau
      refine ⟨θ,he.put0 hi hau hf rfl 22 rfl rfl,?_⟩
      exact hc
     ·intro E θ a w hD hi hp he hc
      have e7 := hp.of (k := 7) rfl
      have e12 := hp.of (k := 12) rfl
      have hf := he.h0
      replace hf := hf.more he 17 rfl (onP e7)
      replace hf := hf.more he 22 rfl (onP e12)
      refine stS hf rfl rfl rfl fun a hf => cNil ?_
      refine xThenN ?_
      intro ds u hau
      refine ⟨θ,he.put0 hi hau hf rfl 23 rfl rfl,?_⟩
      exact hc
     ·intro E θ a w hD hi hp he hc
      have e7 := hp.of (k := 7) rfl
      have hf := he.h0
      replace hf := hf.more he 2 rfl onT
      replace hf := hf.more he 17 rfl (onP e7)
      refine stS hf rfl rfl rfl fun a hf => cNil ?_
      refine xThenN ?_
      intro ds u hau
      refine ⟨θ,he.put0 hi hau hf rfl 24 rfl rfl,?_⟩
      exact hc
     ·intro E θ a w hD hi hp he hc
      have e7 := hp.of (k := 7) rfl
      have hf := he.h0
      replace hf := hf.more he 4 rfl onT
      replace hf := hf.more he 17 rfl (onP e7)
      refine stS hf rfl rfl rfl fun a hf => cNil ?_
      refine xThenN ?_
      intro ds u hau
      refine ⟨θ,he.put0 hi hau hf rfl 25 rfl rfl,?_⟩
      exact hc
     ·intro E θ a w hD hi hp he hc
      have e7 := hp.of (k := 7) rfl
      have hf := he.h0
      replace hf := hf.more he 6 rfl onT
      replace hf := hf.more he 17 rfl (onP e7)
      refine stS hf rfl rfl rfl fun a hf => cNil ?_
      refine xThenN ?_
      intro ds u hau
      refine ⟨θ,he.put0 hi hau hf rfl 26 rfl rfl,?_⟩
      exact hc
     ·intro E θ a w hD hi hp he hc
      have e7 := hp.of (k := 7) rfl
      have e14 := hp.of (k := 14) rfl
      have e15 := hp.of (k := 15) rfl
      have hf := he.h0
      replace hf := hf.more he 17 rfl (onP e7)
      replace hf := hf.more he 24 rfl (onP e14)
      replace hf := hf.more he 25 rfl (onP e15)
      refine stS hf rfl rfl rfl fun a hf => cNil ?_
      refine xThenN ?_
      intro ds u hau
      refine ⟨θ,he.put0 hi hau hf rfl 27 rfl rfl,?_⟩
      exact hc
     ·intro E θ a w hD hi hp he hc
      have e7 := hp.of (k := 7) rfl
      have e16 := hp.of (k := 16) rfl
      have e17 := hp.of (k := 17) rfl
      have hf := he.h0
      replace hf := hf.more he 17 rfl (onP e7)
      replace hf := hf.more he 26 rfl (onP e16)
      replace hf := hf.more he 27 rfl (onP e17)
      refine stS hf rfl rfl rfl fun a hf => cNil ?_
      refine xThenN ?_
      intro ds u hau
      refine ⟨θ,he.put0 hi hau hf rfl 28 rfl rfl,?_⟩
      exact hc
     ·intro E θ a w hD hi hp he hc
      have e7 := hp.of (k := 7) rfl
      have e18 := hp.of (k := 18) rfl
      have hf := he.h0
      replace hf := hf.more he 17 rfl (onP e7)
      replace hf := hf.more he 28 rfl (onP e18)
      refine stS hf rfl rfl rfl fun a hf => cNil ?_
      refine xThenN ?_
      intro ds u hau
      refine ⟨θ,he.put0 hi hau hf rfl 29 rfl rfl,?_⟩
      exact hc
     ·intro E θ a w hD hi hp he hc
      have e7 := hp.of (k := 7) rfl
      have e13 := hp.of (k := 13) rfl
      have e19 := hp.of (k := 19) rfl
      have hf := he.h0
      replace hf := hf.more he 17 rfl (onP e7)
      replace hf := hf.more he 23 rfl (onP e13)
      replace hf := hf.more he 29 rfl (onP e19)
      refine stS hf rfl rfl rfl fun a hf => cNil ?_
      refine xThenN ?_
      intro ds u hau
      refine ⟨θ,he.put0 hi hau hf rfl 30 rfl rfl,?_⟩
      exact hc
     ·intro E θ a w hD hi hp he hc
      have e7 := hp.of (k := 7) rfl
      have hf := he.h0
      replace hf := hf.more he 0 rfl onT
      replace hf := hf.more he 17 rfl (onP e7)
      refine stS hf rfl rfl rfl fun a hf => cNil ?_
      refine xThenN ?_
      intro ds u hau
      refine ⟨θ,he.put0 hi hau hf rfl 31 rfl rfl,?_⟩
      exact hc
     ·intro E θ a w hD hi hp he hc
      have e7 := hp.of (k := 7) rfl
      have e20 := hp.of (k := 20) rfl
      have e21 := hp.of (k := 21) rfl
      have hf := he.h0
      replace hf := hf.more he 17 rfl (onP e7)
      replace hf := hf.more he 30 rfl (onP e20)
      replace hf := hf.more he 31 rfl (onP e21)
      refine stS hf rfl rfl rfl fun a hf => cNil ?_
      refine xThenN ?_
      intro ds u hau
      refine ⟨θ,he.put0 hi hau hf rfl 32 rfl rfl,?_⟩
      exact hc
     ·intro E θ a w hD hi hp he hc
      have e7 := hp.of (k := 7) rfl
      have e22 := hp.of (k := 22) rfl
      have hf := he.h0
      replace hf := hf.more he 17 rfl (onP e7)
      replace hf := hf.more he 32 rfl (onP e22)
      refine stP hf rfl rfl rfl (pPf rfl rfl) fun a hf => cNil ?_
      refine xThenN ?_
      intro ds u hau
      refine ⟨θ,he.put0 hi hau hf rfl 33 rfl rfl,?_⟩
      exact hc
     ·intro E θ a w hall he hc
      have hf := he.h0
      have e8 := hall 8 rfl
      have e9 := hall 9 rfl
      have e10 := hall 10 rfl
      have e11 := hall 11 rfl
      have e12 := hall 12 rfl
      have e13 := hall 13 rfl
      have e14 := hall 14 rfl
      have e15 := hall 15 rfl
      have e16 := hall 16 rfl
      have e17 := hall 17 rfl
      have e18 := hall 18 rfl
      have e19 := hall 19 rfl
      have e20 := hall 20 rfl
      have e21 := hall 21 rfl
      have e22 := hall 22 rfl
      have e23 := hall 23 rfl
      replace hf := hf.more he 33 rfl (onP e23)
      replace hf := hf.more he 32 rfl (onP e22)
      replace hf := hf.more he 31 rfl (onP e21)
      replace hf := hf.more he 30 rfl (onP e20)
      replace hf := hf.more he 29 rfl (onP e19)
      replace hf := hf.more he 28 rfl (onP e18)
      replace hf := hf.more he 27 rfl (onP e17)
      replace hf := hf.more he 26 rfl (onP e16)
      replace hf := hf.more he 25 rfl (onP e15)
      replace hf := hf.more he 24 rfl (onP e14)
      replace hf := hf.more he 23 rfl (onP e13)
      replace hf := hf.more he 22 rfl (onP e12)
      replace hf := hf.more he 21 rfl (onP e11)
      replace hf := hf.more he 20 rfl (onP e10)
      replace hf := hf.more he 19 rfl (onP e9)
      replace hf := hf.more he 18 rfl (onP e8)
      replace hf := hf.more he 9 rfl (onT)
      replace hf := hf.more he 8 rfl (onT)
      replace hf := hf.more he 7 rfl (onT)
      replace hf := hf.more he 5 rfl (onT)
      replace hf := hf.more he 4 rfl (onT)
      replace hf := hf.more he 3 rfl (onT)
      replace hf := hf.more he 2 rfl (onT)
      replace hf := hf.more he 1 rfl (onT)
      replace hf := hf.more he 0 rfl (onT)
      exact ⟨hf.keep ⟨rfl,rfl,rfl,rfl,rfl,rfl,rfl,rfl,rfl,rfl,rfl,rfl,rfl,rfl,rfl,rfl,rfl,rfl,rfl,rfl,rfl,rfl,rfl,rfl,rfl,trivial⟩,hc⟩
     rintro a w ⟨hf,hc⟩
     refine xThenN ?_
     obtain rfl := Option.some.inj hF
     exact ⟨(some ⟨g,0,none⟩),c_6,p_7,c_7,hf.keep ⟨rfl,rfl,rfl,rfl,rfl,rfl,rfl,rfl,rfl,rfl,trivial⟩,hc⟩
    ·replace hF := condT hb hF
     try rw [hb] at hf
     try rw [hb] at hc
     have hb1 := hb
     clear hb
     obtain ⟨e_2,he_2,hF⟩ := bnd_some hF
     obtain ⟨g_1,rfl,qa_1,qr_1⟩ := row_atm hc m5 he_2
     refine rRegE (fun _ _ h => h) rfl (fun θ => (⟨none,none,3,.pointer (some ⟨b_1,0,none⟩)⟩::⟨none,none,6,.pointer (some ⟨b_2,0,none⟩)⟩::⟨none,none,7,.pointer (some ⟨b_3,0,none⟩)⟩::⟨none,none,8,.slice p_3 out.length c_3⟩::⟨none,none,9,.pointer (some ⟨b_4,0,none⟩)⟩::⟨none,none,10,.pointer (some ⟨b_5,0,none⟩)⟩::⟨none,none,11,.int .i64 xv⟩::⟨none,none,12,.int .i64 xv_1⟩::⟨none,none,18,.int .i64 ((l.length : Nat) : Int)⟩::⟨none,none,19,.int .i64 x⟩::⟨some 0,none,26,.slice (some ⟨g,0,none⟩) r.length c_6⟩::⟨some 1,none,27,.int .i64 x⟩::⟨some 2,none,28,.int .i64 xv⟩::⟨some 3,none,29,.pointer (some ⟨g,x.toNat * 601,none⟩)⟩::⟨some 4,none,30,.pointer (some ⟨g,x.toNat * 601 + xv.toNat * 1,none⟩)⟩::⟨some 5,none,31,.int .i64 (e_1 xv.toNat)⟩::⟨some 6,none,32,.bool true⟩::⟨some 7,none,33,.bool true⟩::⟨some 8,none,34,.slice (some ⟨g,0,none⟩) r.length c_6⟩::⟨some 9,none,35,.int .i64 x⟩::⟨some 10,none,36,.int .i64 xv⟩::⟨some 11,none,37,.pointer (some ⟨g,x.toNat * 601,none⟩)⟩::⟨some 12,none,38,.pointer (some ⟨g,x.toNat * 601 + xv.toNat * 1,none⟩)⟩::⟨some 13,none,39,.int .i64 (e_1 xv.toNat)⟩::⟨some 14,none,40,.slice (some ⟨g_1,0,none⟩) r_1.length c_7⟩::⟨some 15,none,41,.int .i64 x⟩::⟨some 16,none,42,.int .i64 xv⟩::⟨some 17,none,43,.pointer (some ⟨g_1,x.toNat * 601,none⟩)⟩::⟨some 18,none,44,.pointer (some ⟨g_1,x.toNat * 601 + xv.toNat * 1,none⟩)⟩::⟨some 19,none,45,.int .i64 (e_2 xv.toNat)⟩::⟨some 20,none,46,.int .i64 (W ((e_1 xv.toNat) + (e_2 xv.toNat)))⟩::⟨some 21,none,47,.int .i64 most⟩::⟨some 22,none,48,.bool (decide ((W ((e_1 xv.toNat) + (e_2 xv.toNat))) ≤ most))⟩::⟨some 23,none,49,.bool (decide ((W ((e_1 xv.toNat) + (e_2 xv.toNat))) ≤ most))⟩::[])) (fun E θ => .box b_5 [.int .i64 x_1,.int .i64 x_2] 50::.box b_4 [.int .i64 x] 3::.row p_3 c_3 (out.map enc_api_Span) 50 2::.box b_3 [.slice (some ⟨g_1,0,none⟩) r_1.length c_7] 152::.box b_2 [.slice (some ⟨g,0,none⟩) r.length c_6] 152::.row (some ⟨g_1,0,none⟩) c_7 (r_1.map encA_155) 155 601::.row (some ⟨g,0,none⟩) c_6 (r.map encA_155) 155 601::.box b_1 [.int .i64 most] 3::Lb) [] (fun a w => Has 70 a [(3,.pointer (some ⟨b_1,0,none⟩)),(6,.pointer (some ⟨b_2,0,none⟩)),(7,.pointer (some ⟨b_3,0,none⟩)),(8,.slice p_3 out.length c_3),(9,.pointer (some ⟨b_4,0,none⟩)),(10,.pointer (some ⟨b_5,0,none⟩)),(12,.int .i64 xv_1),(18,.int .i64 ((l.length : Nat) : Int)),(19,.int .i64 x),(34,.slice (some ⟨g,0,none⟩) r.length c_6),(35,.int .i64 x),(36,.int .i64 xv),(37,.pointer (some ⟨g,x.toNat * 601,none⟩)),(38,.pointer (some ⟨g,x.toNat * 601 + xv.toNat * 1,none⟩)),(39,.int .i64 (e_1 xv.toNat)),(40,.slice (some ⟨g_1,0,none⟩) r_1.length c_7),(41,.int .i64 x),(42,.int .i64 xv),(43,.pointer (some ⟨g_1,x.toNat * 601,none⟩)),(44,.pointer (some ⟨g_1,x.toNat * 601 + xv.toNat * 1,none⟩)),(45,.int .i64 (e_2 xv.toNat)),(46,.int .i64 (W ((e_1 xv.toNat) + (e_2 xv.toNat)))),(47,.int .i64 most),(48,.bool (decide ((W ((e_1 xv.toNat) + (e_2 xv.toNat))) ≤ most))),(49,.bool (decide ((W ((e_1 xv.toNat) + (e_2 xv.toNat))) ≤ most)))] ∧ Ctx G (.box b_5 [.int .i64 x_1,.int .i64 x_2] 50::.box b_4 [.int .i64 x] 3::.row p_3 c_3 (out.map enc_api_Span) 50 2::.box b_3 [.slice (some ⟨g_1,0,none⟩) r_1.length c_7] 152::.box b_2 [.slice (some ⟨g,0,none⟩) r.length c_6] 152::.row (some ⟨g_1,0,none⟩) c_7 (r_1.map encA_155) 155 601::.row (some ⟨g,0,none⟩) c_6 (r.map encA_155) 155 601::.box b_1 [.int .i64 most] 3::Lb) w) follows_mx (by kernel_rfl) (by kernel_rfl) (HasE.of hf ⟨rfl,rfl,rfl,rfl,rfl,rfl,rfl,rfl,rfl,rfl,trivial,trivial,trivial,trivial,trivial,trivial,trivial,trivial,trivial,trivial,trivial,trivial,trivial,trivial,trivial,trivial,trivial,trivial,trivial,trivial,trivial,trivial,trivial,trivial,trivial⟩) hc ⟨?_,?_,?_,?_,?_,?_,?_,?_,?_,?_,?_,?_,?_,?_,?_,?_,?_,?_,?_,?_,?_,?_,?_,?_,trivial⟩ ?_ ?_
     ·intro E θ a w hD hi hp he hc
      have hf := he.h0
      replace hf := hf.more he 1 rfl onT
      refine stE hf hc rfl rfl rfl (eLd1 sc_152 rfl (cell_box m4 rfl)) fun a w hf hc => cNil ?_
      refine xThenN ?_
      intro ds u hau
      refine ⟨θ,he.put0 hi hau hf rfl 10 rfl rfl,?_⟩
      exact hc
     ·intro E θ a w hD hi hp he hc
      have hf := he.h0
      replace hf := hf.more he 4 rfl onT
      refine stE hf hc rfl rfl rfl (eLd1 sc_3 rfl (cell_box m1 rfl)) fun a w hf hc => cNil ?_
      refine xThenN ?_
      intro ds u hau
      refine ⟨θ,he.put0 hi hau hf rfl 11 rfl rfl,?_⟩
      exact hc
     ·intro E θ a w hD hi hp he hc
      have hf := he.h0
      replace hf := hf.more he 6 rfl onT
      refine stP hf rfl rfl rfl (pM rfl) fun a hf => cNil ?_
      refine xThenN ?_
      intro ds u hau
      refine ⟨θ,he.put0 hi hau hf rfl 12 rfl rfl,?_⟩
      exact hc
     ·intro E θ a w hD hi hp he hc
      have e0 := hp.of (k := 0) rfl
      have e1 := hp.of (k := 1) rfl
      have hf := he.h0
      replace hf := hf.more he 10 rfl (onP e0)
      replace hf := hf.more he 11 rfl (onP e1)
      refine stP hf rfl rfl rfl (pIA Try.underlying152 sz_155 rfl rfl qa) fun a hf => cNil ?_
      refine xThenN ?_
      intro ds u hau
      refine ⟨θ,he.put0 hi hau hf rfl 13 rfl rfl,?_⟩
      exact hc
     ·intro E θ a w hD hi hp he hc
      have e2 := hp.of (k := 2) rfl
      have e3 := hp.of (k := 3) rfl
      have hf := he.h0
      replace hf := hf.more he 12 rfl (onP e2)
      replace hf := hf.more he 13 rfl (onP e3)
      refine stP hf rfl rfl rfl (pIAA Try.underlying155 sz_3 rfl rfl (inR_spec hun).1 (inR_spec hun).2) fun a hf => cNil ?_
      refine xThenN ?_
      intro ds u hau
      refine ⟨θ,he.put0 hi hau hf rfl 14 rfl rfl,?_⟩
      exact hc
     ·intro E θ a w hD hi hp he hc
      have e4 := hp.of (k := 4) rfl
      have hf := he.h0
      replace hf := hf.more he 14 rfl (onP e4)
      refine stE hf hc rfl rfl rfl (eLd1 sc_3 rfl (cell_row (sz := 601) (i := x.toNat) (j := xv.toNat * 1 + 0) m6 qr (catc_cell (fun x => (one_encI_i64 x).1) hun rfl))) fun a w hf hc => cNil ?_
      refine xThenN ?_
      intro ds u hau
      refine ⟨θ,he.put0 hi hau hf rfl 15 rfl rfl,?_⟩
      exact hc
     ·intro E θ a w hD hi hp he hc
      have e5 := hp.of (k := 5) rfl
      have hf := he.h0
      replace hf := hf.more he 15 rfl (onP e5)
      refine stP hf rfl rfl rfl (pNe rfl rfl) fun a hf => ?_
      rw [hb1] at hf
      refine cNil ?_
      refine xThenN ?_
      intro ds u hau
      refine ⟨θ,he.put0 hi hau hf rfl 16 rfl rfl,?_⟩
      exact hc
     ·intro E θ a w hD hi hp he hc
      have e6 := hp.of (k := 6) rfl
      have hf := he.h0
      replace hf := hf.more he 16 rfl (onP e6)
      refine stP hf rfl rfl rfl (pM rfl) fun a hf => cNil ?_
      refine xThenN ?_
      intro ds u hau
      refine ⟨θ,he.put0 hi hau hf rfl 17 rfl rfl,?_⟩
      exact hc
     ·intro E θ a w hD hi hp he hc
      have e7 := hp.of (k := 7) rfl
      have hf := he.h0
      replace hf := hf.more he 1 rfl onT
      replace hf := hf.more he 17 rfl (onP e7)
      refine stE hf hc rfl rfl rfl (eLd1 sc_152 rfl (cell_box m4 rfl)) fun a w hf hc => cNil ?_
      refine xThenN ?_
      intro ds u hau
      refine ⟨θ,he.put0 hi hau hf rfl 18 rfl rfl,?_⟩
      exact hc
     ·intro E θ a w hD hi hp he hc
      have e7 := hp.of (k := 7) rfl
      have hf := he.h0
      replace hf := hf.more he 4 rfl onT
      replace hf := hf.more he 17 rfl (onP e7)
      refine stE hf hc rfl rfl rfl (eLd1 sc_3 rfl (cell_box m1 rfl)) fun a w hf hc => cNil ?_
      refine xThenN ?_
      intro ds u hau
      refine ⟨θ,he.put0 hi hau hf rfl 19 rfl rfl,?_⟩
      exact hc
     ·intro E θ a w hD hi hp he hc
      have e7 := hp.of (k := 7) rfl
      have hf := he.h0
      replace hf := hf.more he 6 rfl onT
      replace hf := hf.more he 17 rfl (onP e7)
      refine stP hf rfl rfl rfl (pM rfl) fun a hf => cNil ?_
      refine xThenN ?_
      intro ds u hau
      refine ⟨θ,he.put0 hi hau hf rfl 20 rfl rfl,?_⟩
      exact hc
     ·intro E θ a w hD hi hp he hc
      have e7 := hp.of (k := 7) rfl
      have e8 := hp.of (k := 8) rfl
      have e9 := hp.of (k := 9) rfl
      have hf := he.h0
      replace hf := hf.more he 17 rfl (onP e7)
      replace hf := hf.more he 18 rfl (onP e8)
      replace hf := hf.more he 19 rfl (onP e9)
      refine stP hf rfl rfl rfl (pIA Try.underlying152 sz_155 rfl rfl qa) fun a hf => cNil ?_
      refine xThenN ?_
      intro ds u hau
      refine ⟨θ,he.put0 hi hau hf rfl 21 rfl rfl,?_⟩
      exact hc
     ·intro E θ a w hD hi hp he hc
      have e7 := hp.of (k := 7) rfl
      have e10 := hp.of (k := 10) rfl
      have e11 := hp.of (k := 11) rfl
      have hf := he.h0
      replace hf := hf.more he 17 rfl (onP e7)
      replace hf := hf.more he 20 rfl (onP e10)
      replace hf := hf.more he 21 rfl (onP e11)
      refine stP hf rfl rfl rfl (pIAA Try.underlying155 sz_3 rfl rfl (inR_spec hun).1 (inR_spec hun).2) fun a hf => cNil ?_
      refine xThenN ?_
      intro ds u hau
      refine ⟨θ,he.put0 hi hau hf rfl 22 rfl rfl,?_⟩
      exact hc
     ·intro E θ a w hD hi hp he hc
      have e7 := hp.of (k := 7) rfl
      have e12 := hp.of (k := 12) rfl
      have hf := he.h0
      replace hf := hf.more he 17 rfl (onP e7)
      replace hf := hf.more he 22 rfl (onP e12)
      refine stE hf hc rfl rfl rfl (eLd1 sc_3 rfl (cell_row (sz := 601) (i := x.toNat) (j := xv.toNat * 1 + 0) m6 qr (catc_cell (fun x => (one_encI_i64 x).1) hun rfl))) fun a w hf hc => cNil ?_
      refine xThenN ?_
      intro ds u hau
      refine ⟨θ,he.put0 hi hau hf rfl 23 rfl rfl,?_⟩
      exact hc
     ·intro E θ a w hD hi hp he hc
      have e7 := hp.of (k := 7) rfl
      have hf := he.h0
      replace hf := hf.more he 2 rfl onT
      replace hf := hf.more he 17 rfl (onP e7)
      refine stE hf hc rfl rfl rfl (eLd1 sc_152 rfl (cell_box m3 rfl)) fun a w hf hc => cNil ?_
      refine xThenN ?_
      intro ds u hau
      refine ⟨θ,he.put0 hi hau hf rfl 24 rfl rfl,?_⟩
      exact hc
     ·intro E θ a w hD hi hp he hc
      have e7 := hp.of (k := 7) rfl
      have hf := he.h0
      replace hf := hf.more he 4 rfl onT
      replace hf := hf.more he 17 rfl (onP e7)
      refine stE hf hc rfl rfl rfl (eLd1 sc_3 rfl (cell_box m1 rfl)) fun a w hf hc => cNil ?_
      refine xThenN ?_
      intro ds u hau
      refine ⟨θ,he.put0 hi hau hf rfl 25 rfl rfl,?_⟩
      exact hc
     ·intro E θ a w hD hi hp he hc
      have e7 := hp.of (k := 7) rfl
      have hf := he.h0
      replace hf := hf.more he 6 rfl onT
      replace hf := hf.more he 17 rfl (onP e7)
      refine stP hf rfl rfl rfl (pM rfl) fun a hf => cNil ?_
      refine xThenN ?_
      intro ds u hau
      refine ⟨θ,he.put0 hi hau hf rfl 26 rfl rfl,?_⟩
      exact hc
     ·intro E θ a w hD hi hp he hc
      have e7 := hp.of (k := 7) rfl
      have e14 := hp.of (k := 14) rfl
      have e15 := hp.of (k := 15) rfl
      have hf := he.h0
      replace hf := hf.more he 17 rfl (onP e7)
      replace hf := hf.more he 24 rfl (onP e14)
      replace hf := hf.more he 25 rfl (onP e15)
      refine stP hf rfl rfl rfl (pIA Try.underlying152 sz_155 rfl rfl qa_1) fun a hf => cNil ?_
      refine xThenN ?_
      intro ds u hau
      refine ⟨θ,he.put0 hi hau hf rfl 27 rfl rfl,?_⟩
      exact hc
     ·intro E θ a w hD hi hp he hc
      have e7 := hp.of (k := 7) rfl
      have e16 := hp.of (k := 16) rfl
      have e17 := hp.of (k := 17) rfl
      have hf := he.h0
      replace hf := hf.more he 17 rfl (onP e7)
      replace hf := hf.more he 26 rfl (onP e16)
      replace hf := hf.more he 27 rfl (onP e17)
      refine stP hf rfl rfl rfl (pIAA Try.underlying155 sz_3 rfl rfl (inR_spec hun).1 (inR_spec hun).2) fun a hf => cNil ?_
      refine xThenN ?_
      intro ds u hau
      refine ⟨θ,he.put0 hi hau hf rfl 28 rfl rfl,?_⟩
      exact hc
     ·intro E θ a w hD hi hp he hc
      have e7 := hp.of (k := 7) rfl
      have e18 := hp.of (k := 18) rfl
      have hf := he.h0
      replace hf := hf.more he 17 rfl (onP e7)
      replace hf := hf.more he 28 rfl (onP e18)
      refine stE hf hc rfl rfl rfl (eLd1 sc_3 rfl (cell_row (sz := 601) (i := x.toNat) (j := xv.toNat * 1 + 0) m5 qr_1 (catc_cell (fun x => (one_encI_i64 x).1) hun rfl))) fun a w hf hc => cNil ?_
      refine xThenN ?_
      intro ds u hau
      refine ⟨θ,he.put0 hi hau hf rfl 29 rfl rfl,?_⟩
      exact hc
     ·intro E θ a w hD hi hp he hc
      have e7 := hp.of (k := 7) rfl
      have e13 := hp.of (k := 13) rfl
      have e19 := hp.of (k := 19) rfl
      have hf := he.h0
      replace hf := hf.more he 17 rfl (onP e7)
      replace hf := hf.more he 23 rfl (onP e13)
      replace hf := hf.more he 29 rfl (onP e19)
      refine stP hf rfl rfl rfl (pAdd rfl rfl) fun a hf => cNil ?_
      refine xThenN ?_
      intro ds u hau
      refine ⟨θ,he.put0 hi hau hf rfl 30 rfl rfl,?_⟩
      exact hc
     ·intro E θ a w hD hi hp he hc
      have e7 := hp.of (k := 7) rfl
      have hf := he.h0
      replace hf := hf.more he 0 rfl onT
      replace hf := hf.more he 17 rfl (onP e7)
      refine stE hf hc rfl rfl rfl (eLd1 sc_3 rfl (cell_box m7 rfl)) fun a w hf hc => cNil ?_
      refine xThenN ?_
      intro ds u hau
      refine ⟨θ,he.put0 hi hau hf rfl 31 rfl rfl,?_⟩
      exact hc
     ·intro E θ a w hD hi hp he hc
      have e7 := hp.of (k := 7) rfl
      have e20 := hp.of (k := 20) rfl
      have e21 := hp.of (k := 21) rfl
      have hf := he.h0
      replace hf := hf.more he 17 rfl (onP e7)
      replace hf := hf.more he 30 rfl (onP e20)
      replace hf := hf.more he 31 rfl (onP e21)
      refine stP hf rfl rfl rfl (pLe rfl rfl) fun a hf => cNil ?_
      refine xThenN ?_
      intro ds u hau
      refine ⟨θ,he.put0 hi hau hf rfl 32 rfl rfl,?_⟩
      exact hc
     ·intro E θ a w hD hi hp he hc
      have e7 := hp.of (k := 7) rfl
      have e22 := hp.of (k := 22) rfl
      have hf := he.h0
      replace hf := hf.more he 17 rfl (onP e7)
      replace hf := hf.more he 32 rfl (onP e22)
      refine stP hf rfl rfl rfl (pPt rfl rfl) fun a hf => cNil ?_
      refine xThenN ?_
      intro ds u hau
      refine ⟨θ,he.put0 hi hau hf rfl 33 rfl rfl,?_⟩
      exact hc
     ·intro E θ a w hall he hc
      have hf := he.h0
      have e8 := hall 8 rfl
      have e9 := hall 9 rfl
      have e10 := hall 10 rfl
      have e11 := hall 11 rfl
      have e12 := hall 12 rfl
      have e13 := hall 13 rfl
      have e14 := hall 14 rfl
      have e15 := hall 15 rfl
      have e16 := hall 16 rfl
      have e17 := hall 17 rfl
      have e18 := hall 18 rfl
      have e19 := hall 19 rfl
      have e20 := hall 20 rfl
      have e21 := hall 21 rfl
      have e22 := hall 22 rfl
      have e23 := hall 23 rfl
      replace hf := hf.more he 33 rfl (onP e23)
      replace hf := hf.more he 32 rfl (onP e22)
      replace hf := hf.more he 31 rfl (onP e21)
      replace hf := hf.more he 30 rfl (onP e20)
      replace hf := hf.more he 29 rfl (onP e19)
      replace hf := hf.more he 28 rfl (onP e18)
      replace hf := hf.more he 27 rfl (onP e17)
      replace hf := hf.more he 26 rfl (onP e16)
      replace hf := hf.more he 25 rfl (onP e15)
      replace hf := hf.more he 24 rfl (onP e14)
      replace hf := hf.more he 23 rfl (onP e13)
      replace hf := hf.more he 22 rfl (onP e12)
      replace hf := hf.more he 21 rfl (onP e11)
      replace hf := hf.more he 20 rfl (onP e10)
      replace hf := hf.more he 19 rfl (onP e9)
      replace hf := hf.more he 18 rfl (onP e8)
      replace hf := hf.more he 9 rfl (onT)
      replace hf := hf.more he 8 rfl (onT)
      replace hf := hf.more he 7 rfl (onT)
      replace hf := hf.more he 5 rfl (onT)
      replace hf := hf.more he 4 rfl (onT)
      replace hf := hf.more he 3 rfl (onT)
      replace hf := hf.more he 2 rfl (onT)
      replace hf := hf.more he 1 rfl (onT)
      replace hf := hf.more he 0 rfl (onT)
      exact ⟨hf.keep ⟨rfl,rfl,rfl,rfl,rfl,rfl,rfl,rfl,rfl,rfl,rfl,rfl,rfl,rfl,rfl,rfl,rfl,rfl,rfl,rfl,rfl,rfl,rfl,rfl,rfl,trivial⟩,hc⟩
     rintro a w ⟨hf,hc⟩
     refine xThenN ?_
     obtain rfl := Option.some.inj hF
     exact ⟨(some ⟨g,0,none⟩),c_6,(some ⟨g_1,0,none⟩),c_7,hf.keep ⟨rfl,rfl,rfl,rfl,rfl,rfl,rfl,rfl,rfl,rfl,trivial⟩,hc⟩
   rintro a w ⟨p_8,c_8,p_9,c_9,hf,hc⟩
   refine h18 _ _ ?_
   refine rCond (b := rg) hf rfl (fun hb => ?_) (fun hb => ?_)
   ·replace hF := condT hb hF
    clear hb
    refine rSeq fun K19 h19 => ?_
    have hj19 : ∀ (x_4 : Int) a w,Has 70 a [(3,.pointer (some ⟨b_1,0,none⟩)),(6,.pointer (some ⟨b_2,0,none⟩)),(7,.pointer (some ⟨b_3,0,none⟩)),(8,.slice p_3 out.length c_3),(9,.pointer (some ⟨b_4,0,none⟩)),(10,.pointer (some ⟨b_5,0,none⟩)),(12,.int .i64 xv_1),(18,.int .i64 ((l.length : Nat) : Int)),(19,.int .i64 x)] → Ctx G (.box b_5 [.int .i64 x_4,.int .i64 x_2] 50::.box b_4 [.int .i64 x] 3::.row p_3 c_3 (out.map enc_api_Span) 50 2::.box b_3 [.slice p_9 r_1.length c_9] 152::.box b_2 [.slice p_8 r.length c_8] 152::.row p_9 c_9 (r_1.map encA_155) 155 601::.row p_8 c_8 (r.map encA_155) 155 601::.box b_1 [.int .i64 most] 3::Lb) w → shift_can_j19 N xv_1 x_4 = some oq → K19 a w := by
     repeat (clear hF)
     repeat (clear hc)
     repeat (clear hf)
     intro x_4 a w hf hc hF
     unfold shift_can_j19 at hF
     refine h19 _ _ ?_
     refine rReg (fun _ _ h => h) rfl ?_
     refine stP hf rfl rfl rfl (pM rfl) fun a hf => stP hf rfl rfl rfl (pFA fa_50_1 rfl) fun a hf => stSt (vs := [.int .i64 xv_1]) hf hc rfl rfl rfl rfl sz_3 rfl rfl u0 fun w hc => cNil ?_
     refine h17 _ _ ?_
     exact ⟨(x_4,xv_1),_,(Option.some.inj hF).symm,⟨p_8,c_8,p_9,c_9,rfl⟩,hc⟩
    refine rSeq fun K20 h20 => rReg (fun _ _ h => h) rfl ?_
    refine stP hf rfl rfl rfl (pFA fa_50_0 rfl) fun a hf => stE hf hc rfl rfl rfl (eLd1 sc_3 rfl (cell_box m0 rfl)) fun a w hf hc => stP hf rfl rfl rfl (pFA fa_50_1 rfl) fun a hf => stE hf hc rfl rfl rfl (eLd1 sc_3 rfl (cell_box m0 rfl)) fun a w hf hc => stP hf rfl rfl rfl (pGt rfl rfl) fun a hf => cNil ?_
    refine h20 _ _ ?_
    refine rCond (b := (decide (x_2 < x_1))) hf rfl (fun hb => ?_) (fun hb => ?_)
    ·replace hF := condT hb hF
     clear hb
     refine rReg (fun _ _ h => h) rfl ?_
     refine stP hf rfl rfl rfl (pM rfl) fun a hf => stP hf rfl rfl rfl (pFA fa_50_0 rfl) fun a hf => stSt (vs := [.int .i64 xv_1]) hf hc rfl rfl rfl rfl sz_3 rfl rfl u0 fun w hc => cNil ?_
     exact hj19 xv_1 _ _  (hf.keep ⟨rfl,rfl,rfl,rfl,rfl,rfl,rfl,rfl,rfl,trivial⟩) hc hF
    ·replace hF := condF hb hF
     clear hb
     refine rSkip ?_
     exact hj19 x_1 _ _  (hf.keep ⟨rfl,rfl,rfl,rfl,rfl,rfl,rfl,rfl,rfl,trivial⟩) hc hF
   ·replace hF := condF hb hF
    clear hb
    refine rSkip ?_
    refine h17 _ _ ?_
    exact ⟨(x_1,x_2),_,(Option.some.inj hF).symm,⟨p_8,c_8,p_9,c_9,rfl⟩,hc⟩
  ·rintro D_1 ⟨x_1,x_2⟩ _ a w hsF ⟨p_6,c_6,p_7,c_7,rfl⟩ hf hc
   replace hf : Has ⟨70,markL (D_1::Ds)⟩ a [(3,.pointer (some ⟨b_1,0,none⟩)),(6,.pointer (some ⟨b_2,0,none⟩)),(7,.pointer (some ⟨b_3,0,none⟩)),(8,.slice p_3 out.length c_3),(9,.pointer (some ⟨b_4,0,none⟩)),(10,.pointer (some ⟨b_5,0,none⟩)),(18,.int .i64 ((l.length : Nat) : Int)),(19,.int .i64 x)] := hf.keep ⟨rfl,rfl,rfl,rfl,rfl,rfl,rfl,rfl,trivial⟩
   replace hc : Ctx G (.box b_5 [.int .i64 x_1,.int .i64 x_2] 50::.box b_4 [.int .i64 x] 3::.row p_3 c_3 (out.map enc_api_Span) 50 2::.box b_3 [.slice p_7 r_1.length c_7] 152::.box b_2 [.slice p_6 r.length c_6] 152::.row p_7 c_7 (r_1.map encA_155) 155 601::.row p_6 c_6 (r.map encA_155) 155 601::.box b_1 [.int .i64 most] 3::(raws (D_1::Ds) ++ Lf)) w := rawsIn (C := []) (L := [.box b_5 [.int .i64 x_1,.int .i64 x_2] 50,.box b_4 [.int .i64 x] 3,.row p_3 c_3 (out.map enc_api_Span) 50 2,.box b_3 [.slice p_7 r_1.length c_7] 152,.box b_2 [.slice p_6 r.length c_6] 152,.row p_7 c_7 (r_1.map encA_155) 155 601,.row p_6 c_6 (r.map encA_155) 155 601,.box b_1 [.int .i64 most] 3]) hc
   replace hF : (cond (decide (x_2 < x_1)) (some (.ret (([] : List api_Span),false))) (Option.bind (room ((out ++ [(⟨x_1,x_2⟩ : api_Span)])).length) fun un_1 => some (.cont ((out ++ [(⟨x_1,x_2⟩ : api_Span)]),W (x + 1))))) = some st6 := by rcases hsF with rfl | rfl <;> exact hF
   refine h13 _ _ ?_
   refine wp_seq_k fun K21 h21 => wp_seq_k fun K22 h22 => cReg ?_
   refine stP hf rfl rfl rfl (pFA fa_50_0 rfl) fun a hf => stE hf hc rfl rfl rfl (eLd1 sc_3 rfl (cell_box m0 rfl)) fun a w hf hc => stP hf rfl rfl rfl (pFA fa_50_1 rfl) fun a hf => stE hf hc rfl rfl rfl (eLd1 sc_3 rfl (cell_box m0 rfl)) fun a w hf hc => stP hf rfl rfl rfl (pGt rfl rfl) fun a hf => cNil ?_
   refine h22 _ _ ?_
   refine cCond (b := (decide (x_2 < x_1))) hf rfl (fun hb => ?_) (fun hb => ?_)
   ·replace hF := condT hb hF
    clear hb
    refine wp_seq_k fun K23 h23 => cReg ?_
    refine stP hf rfl rfl rfl (pA rfl) fun a hf => stP hf rfl rfl rfl (pA rfl) fun a hf => cNil ?_
    refine h23 _ _ ?_
    refine wp_ret ?_
    refine xThenR ?_
    refine xBlkR ?_
    refine xThenR ?_
    refine xThenR ?_
    have he := Option.some.inj hF
    rw [← he] at hfin6
    replace hF := ho6 _ hfin6
    refine xBlkR ?_
    refine xThenR ?_
    obtain rfl := hF
    replace hc := hc.nilRow 50 2
    replace hc := hc.drop k8
    replace hc := hc.drop k7
    replace hc := hc.drop k6
    replace hc := hc.drop k5
    replace hc := hc.drop k4
    replace hc := hc.drop k3
    replace hc := hc.drop k2
    replace hc := hc.drop k1
    refine outM hf ?_
    refine outML [.row none 0 [] 50 2] (D_1::Ds) hc fun w hc => ?_
    replace hc : Ctx G (.row none 0 [] 50 2::Lf) w := hc
    exact outM2 Try.results76 hf hc (show look _ 4 = _ from rfl) (show look _ 5 = _ from rfl) ⟨none,0,rfl,hc⟩
   ·replace hF := condF hb hF
    clear hb
    refine wp_skip ?_
    refine h21 _ _ ?_
    refine cReg ?_
    refine stP hf rfl rfl rfl (pM rfl) fun a hf => stE hf hc rfl rfl rfl (eLdN (vs := [.int .i64 x_1,.int .i64 x_2]) ag_50 rfl rfl (cells_box (n := 2) m0 rfl)) fun a w hf hc => stBS (rows := ([(⟨x_1,x_2⟩ : api_Span)] : List api_Span).map enc_api_Span) (vs := [(0,.agg #[.int .i64 x_1,.int .i64 x_2])]) hf hc rfl rfl sl_44 rfl ⟨rfl,rfl,rfl,trivial⟩ rfl rfl fun b_6 a w hf hc => ?_
    obtain ⟨un_1,hun_1,hF⟩ := bnd_some hF
    refine stApm (xs := out) (ys := ([(⟨x_1,x_2⟩ : api_Span)] : List api_Span)) hf hc rfl rfl sl_44 rfl rfl rfl rfl rfl one_enc_api_Span (src_row hc m0) (fun _ _ => u3) (by simpa using room_spec hun_1) fun p_10 c_10 a w hf hc => stP hf rfl rfl rfl (pA rfl) fun a hf => cNil ?_
    refine h10 _ _ ?_
    refine cReg ?_
    refine stP hf rfl rfl rfl (pAdd rfl rfl) fun a hf => stP hf rfl rfl rfl (pM rfl) fun a hf => cNil ?_
    replace hc := hc.drop k2
    replace hc := hc.drop k1
    replace hc := hc.drop k0
    exact hK6 ((out ++ [(⟨x_1,x_2⟩ : api_Span)]),W (x + 1)) _ _ (Option.some.inj hF).symm ⟨p_10,c_10,p_6,c_6,p_7,c_7,(D_1::Ds),hf.keep ⟨rfl,rfl,rfl,rfl,rfl,rfl,trivial⟩,hc⟩
  ·rintro D_1 ⟨x_1,x_2⟩ _ a w hsF ⟨p_6,c_6,p_7,c_7,rfl⟩ hf hc
   replace hf : Has ⟨70,markL (D_1::Ds)⟩ a [(3,.pointer (some ⟨b_1,0,none⟩)),(6,.pointer (some ⟨b_2,0,none⟩)),(7,.pointer (some ⟨b_3,0,none⟩)),(8,.slice p_3 out.length c_3),(9,.pointer (some ⟨b_4,0,none⟩)),(10,.pointer (some ⟨b_5,0,none⟩)),(18,.int .i64 ((l.length : Nat) : Int)),(19,.int .i64 x)] := hf.keep ⟨rfl,rfl,rfl,rfl,rfl,rfl,rfl,rfl,trivial⟩
   replace hc : Ctx G (.box b_5 [.int .i64 x_1,.int .i64 x_2] 50::.box b_4 [.int .i64 x] 3::.row p_3 c_3 (out.map enc_api_Span) 50 2::.box b_3 [.slice p_7 r_1.length c_7] 152::.box b_2 [.slice p_6 r.length c_6] 152::.row p_7 c_7 (r_1.map encA_155) 155 601::.row p_6 c_6 (r.map encA_155) 155 601::.box b_1 [.int .i64 most] 3::(raws (D_1::Ds) ++ Lf)) w := rawsIn (C := []) (L := [.box b_5 [.int .i64 x_1,.int .i64 x_2] 50,.box b_4 [.int .i64 x] 3,.row p_3 c_3 (out.map enc_api_Span) 50 2,.box b_3 [.slice p_7 r_1.length c_7] 152,.box b_2 [.slice p_6 r.length c_6] 152,.row p_7 c_7 (r_1.map encA_155) 155 601,.row p_6 c_6 (r.map encA_155) 155 601,.box b_1 [.int .i64 most] 3]) hc
   replace hF : (none) = some st6 := by subst hsF; exact hF
   cases hF
 ·replace hF := condF hb hF
  clear hb
  refine wp_exit ?_
  refine xThen ?_
  refine xThen ?_
  have he := Option.some.inj hF
  rw [← he] at hfin6
  refine cHit ?_
  exact hr6 _ _ _ hfin6 ⟨p_3,c_3,p_4,c_4,p_5,c_5,Ds,hf.keep ⟨rfl,rfl,rfl,rfl,rfl,rfl,trivial⟩,hc⟩

def shift_Can (N : Nat) (r : shift_Record) (most : Int) : Option ((List api_Span) × Int) :=
 Option.bind (shift_opened N r) (sumK (fun r_0 => cond (r_0 != 0)
 (some (([] : List api_Span),r_0))
 (cond (!(shift_in most 0 18000))
 (some (([] : List api_Span),4))
 (none)))
 (fun r_1 => cond (r_1.2 != 0)
 (some (([] : List api_Span),r_1.2))
 (cond (!(shift_in most 0 18000))
 (some (([] : List api_Span),4))
 (Option.bind (shift_can N r_1.1 most) fun r_2 =>
 cond (!r_2.2)
 (some (([] : List api_Span),5))
 (some (r_2.1,0))))))
theorem shift_Can_ok {N : Nat} {G : Pers} {Lf : List Ent} {w : World} (r : shift_Record) (most : Int) {r_Rating_p : Option Addr} {r_Rating_c : Nat} {r_Gaugings_p : Option Addr} {r_Gaugings_c : Nat} (h_r_Rating : Rd G 2 r_Rating_p r_Rating_c (r.Rating.map enc_shift_Mark)) (h_r_Gaugings : Rd G 4 r_Gaugings_p r_Gaugings_c (r.Gaugings.map enc_shift_Gauging)) (hc : Ctx G (Lf) w) {res : (List api_Span) × Int} (hF : shift_Can N r most = some res) : Calls Try.prog 27 #[.agg #[.slice r_Rating_p r.Rating.length r_Rating_c,.slice r_Gaugings_p r.Gaugings.length r_Gaugings_c],.int .i64 most] w (fun e w => ∃ (p'1 : Option Addr) (c'1 : Nat),e = .returned (.tuple #[.slice p'1 res.1.length c'1,.int .i64 res.2]) ∧ Ctx G (.row p'1 c'1 (res.1.map enc_api_Span) 50 2::Lf) w) := by
 unfold shift_Can at hF
 refine fnIn (args := [.agg #[.slice r_Rating_p r.Rating.length r_Rating_c,.slice r_Gaugings_p r.Gaugings.length r_Gaugings_c],.int .i64 most]) Try.func27 rfl Try.ntmps27 rfl fun a hf => wp_seq_k fun K1 h1 => cReg ?_
 refine stBx (cs := [.slice r_Rating_p r.Rating.length r_Rating_c,.slice r_Gaugings_p r.Gaugings.length r_Gaugings_c]) hf hc rfl rfl rfl rfl fun b_1 a w hf hc => stP hf rfl rfl rfl (pA rfl) fun a hf => stP hf rfl rfl rfl (pA rfl) fun a hf => cNil ?_
 refine h1 _ _ ?_
 refine wp_seq_k fun K2 h2 => cReg ?_
 refine stE hf hc rfl rfl rfl (eLdN (vs := [.slice r_Rating_p r.Rating.length r_Rating_c,.slice r_Gaugings_p r.Gaugings.length r_Gaugings_c]) ag_25 rfl rfl (cells_box (n := 2) m0 rfl)) fun a w hf hc => ?_
 obtain ⟨r_0,hr_0,hF⟩ := bnd_some hF
 cases r_0 with
 | inl r_0 =>
  replace hF := sumKl hF
  refine stC (vs := [.agg #[.slice r_Rating_p r.Rating.length r_Rating_c,.slice r_Gaugings_p r.Gaugings.length r_Gaugings_c]]) (caps := []) hf rfl rfl rfl en_73 rfl rfl rfl rfl (shift_opened_ok r h_r_Rating h_r_Gaugings hc hr_0) ?_
  rintro _ w ⟨rfl,hc⟩
  refine ⟨_,rfl,fun a hf => ?_⟩
  refine stP hf rfl rfl rfl (pM rfl) fun a hf => stP hf rfl rfl rfl (pX rfl rfl) fun a hf => stP hf rfl rfl rfl (pX rfl rfl) fun a hf => stP hf rfl rfl rfl (pA rfl) fun a hf => stP hf rfl rfl rfl (pA rfl) fun a hf => cNil ?_
  refine h2 _ _ ?_
  refine wp_seq_k fun K3 h3 => wp_block ?_
  refine wp_seq_k fun K4 h4 => cReg ?_
  refine stP hf rfl rfl rfl (pM rfl) fun a hf => stP hf rfl rfl rfl (pNe rfl rfl) fun a hf => stP hf rfl rfl rfl (pA rfl) fun a hf => cNil ?_
  refine h4 _ _ ?_
  refine cCond (b := (r_0 != 0)) hf rfl (fun hb => ?_) (fun hb => ?_)
  ·replace hF := condT hb hF
   clear hb
   refine wp_seq_k fun K5 h5 => cReg ?_
   refine stP hf rfl rfl rfl (pM rfl) fun a hf => stP hf rfl rfl rfl (pA rfl) fun a hf => stP hf rfl rfl rfl (pA rfl) fun a hf => cNil ?_
   refine h5 _ _ ?_
   refine wp_ret ?_
   refine xBlkR ?_
   refine xThenR ?_
   obtain rfl := Option.some.inj hF
   replace hc := hc.nilRow 50 2
   replace hc := hc.drop k1
   exact fnOut2 (by simp) rfl Try.results27 hf hc (show look _ 4 = _ from rfl) (show look _ 5 = _ from rfl) ⟨none,0,rfl,hc⟩
  ·replace hF := condF hb hF
   clear hb
   refine wp_seq_k fun K6 h6 => cReg ?_
   refine stP hf rfl rfl rfl (pM rfl) fun a hf => stE hf hc rfl rfl rfl (eC (v := .bool (shift_in most 0 18000)) (vs := [.int .i64 most,.int .i64 0,.int .i64 18000]) (caps := []) en_59 rfl rfl rfl rfl (fun w hc => shift_in_ok most 0 18000 hc rfl)) fun a w hf hc => stP hf rfl rfl rfl (pNot rfl) fun a hf => stP hf rfl rfl rfl (pA rfl) fun a hf => cNil ?_
   refine h6 _ _ ?_
   refine cCond (b := (!(shift_in most 0 18000))) hf rfl (fun hb => ?_) (fun hb => ?_)
   ·replace hF := condT hb hF
    clear hb
    refine wp_seq_k fun K7 h7 => cReg ?_
    refine stP hf rfl rfl rfl (pA rfl) fun a hf => stP hf rfl rfl rfl (pA rfl) fun a hf => cNil ?_
    refine h7 _ _ ?_
    refine wp_ret ?_
    refine xBlkR ?_
    refine xThenR ?_
    obtain rfl := Option.some.inj hF
    replace hc := hc.nilRow 50 2
    replace hc := hc.drop k1
    exact fnOut2 (by simp) rfl Try.results27 hf hc (show look _ 4 = _ from rfl) (show look _ 5 = _ from rfl) ⟨none,0,rfl,hc⟩
   ·replace hF := condF hb hF
    clear hb
    refine wp_skip ?_
    refine h3 _ _ ?_
    refine wp_seq_k fun K8 h8 => noneO hF
 | inr r_1 =>
  replace hF := sumKr hF
  have hr_1 := hr_0
  refine stC (vs := [.agg #[.slice r_Rating_p r.Rating.length r_Rating_c,.slice r_Gaugings_p r.Gaugings.length r_Gaugings_c]]) (caps := []) hf rfl rfl rfl en_73 rfl rfl rfl rfl (shift_opened_ok r h_r_Rating h_r_Gaugings hc hr_1) ?_
  rintro _ w ⟨b_2,p_1,c_1,rfl,hc⟩
  refine ⟨_,rfl,fun a hf => ?_⟩
  refine stP hf rfl rfl rfl (pM rfl) fun a hf => stP hf rfl rfl rfl (pX rfl rfl) fun a hf => stP hf rfl rfl rfl (pX rfl rfl) fun a hf => stP hf rfl rfl rfl (pA rfl) fun a hf => stP hf rfl rfl rfl (pA rfl) fun a hf => cNil ?_
  refine h2 _ _ ?_
  refine wp_seq_k fun K9 h9 => wp_block ?_
  refine wp_seq_k fun K10 h10 => cReg ?_
  refine stP hf rfl rfl rfl (pM rfl) fun a hf => stP hf rfl rfl rfl (pNe rfl rfl) fun a hf => stP hf rfl rfl rfl (pA rfl) fun a hf => cNil ?_
  refine h10 _ _ ?_
  refine cCond (b := (r_1.2 != 0)) hf rfl (fun hb => ?_) (fun hb => ?_)
  ·replace hF := condT hb hF
   clear hb
   refine wp_seq_k fun K11 h11 => cReg ?_
   refine stP hf rfl rfl rfl (pM rfl) fun a hf => stP hf rfl rfl rfl (pA rfl) fun a hf => stP hf rfl rfl rfl (pA rfl) fun a hf => cNil ?_
   refine h11 _ _ ?_
   refine wp_ret ?_
   refine xBlkR ?_
   refine xThenR ?_
   obtain rfl := Option.some.inj hF
   replace hc := hc.nilRow 50 2
   replace hc := hc.drop k3
   replace hc := hc.drop k2
   replace hc := hc.drop k1
   exact fnOut2 (by simp) rfl Try.results27 hf hc (show look _ 4 = _ from rfl) (show look _ 5 = _ from rfl) ⟨none,0,rfl,hc⟩
  ·replace hF := condF hb hF
   clear hb
   refine wp_seq_k fun K12 h12 => cReg ?_
   refine stP hf rfl rfl rfl (pM rfl) fun a hf => stE hf hc rfl rfl rfl (eC (v := .bool (shift_in most 0 18000)) (vs := [.int .i64 most,.int .i64 0,.int .i64 18000]) (caps := []) en_59 rfl rfl rfl rfl (fun w hc => shift_in_ok most 0 18000 hc rfl)) fun a w hf hc => stP hf rfl rfl rfl (pNot rfl) fun a hf => stP hf rfl rfl rfl (pA rfl) fun a hf => cNil ?_
   refine h12 _ _ ?_
   refine cCond (b := (!(shift_in most 0 18000))) hf rfl (fun hb => ?_) (fun hb => ?_)
   ·replace hF := condT hb hF
    clear hb
    refine wp_seq_k fun K13 h13 => cReg ?_
    refine stP hf rfl rfl rfl (pA rfl) fun a hf => stP hf rfl rfl rfl (pA rfl) fun a hf => cNil ?_
    refine h13 _ _ ?_
    refine wp_ret ?_
    refine xBlkR ?_
    refine xThenR ?_
    obtain rfl := Option.some.inj hF
    replace hc := hc.nilRow 50 2
    replace hc := hc.drop k3
    replace hc := hc.drop k2
    replace hc := hc.drop k1
    exact fnOut2 (by simp) rfl Try.results27 hf hc (show look _ 4 = _ from rfl) (show look _ 5 = _ from rfl) ⟨none,0,rfl,hc⟩
   ·replace hF := condF hb hF
    clear hb
    refine wp_skip ?_
    refine h9 _ _ ?_
    refine wp_seq_k fun K14 h14 => cReg ?_
    refine stP hf rfl rfl rfl (pM rfl) fun a hf => stP hf rfl rfl rfl (pNC rfl) fun a hf => stP hf rfl rfl rfl (pFA fa_140_1 rfl) fun a hf => stE hf hc rfl rfl rfl (eLd1 sc_44 rfl (cell_box m1 rfl)) fun a w hf hc => stP hf rfl rfl rfl (pM rfl) fun a hf => ?_
    obtain ⟨r_2,hr_2,hF⟩ := bnd_some hF
    obtain ⟨G1,hle1,hrd1,hc,hth1⟩ := lend hc k0
    refine stC (vs := [.slice p_1 r_1.1.length c_1,.int .i64 most]) (caps := []) hf rfl rfl rfl en_76 rfl rfl rfl rfl (shift_can_ok r_1.1 most hrd1 hc hr_2) ?_
    rintro _ w ⟨p_2,c_2,rfl,hc⟩
    refine ⟨_,rfl,fun a hf => ?_⟩
    replace hc := hth1 _ _ hc
    refine stP hf rfl rfl rfl (pM rfl) fun a hf => stP hf rfl rfl rfl (pX rfl rfl) fun a hf => stP hf rfl rfl rfl (pX rfl rfl) fun a hf => stP hf rfl rfl rfl (pA rfl) fun a hf => stP hf rfl rfl rfl (pA rfl) fun a hf => cNil ?_
    refine h14 _ _ ?_
    refine wp_seq_k fun K15 h15 => wp_seq_k fun K16 h16 => cReg ?_
    refine stP hf rfl rfl rfl (pM rfl) fun a hf => stP hf rfl rfl rfl (pNot rfl) fun a hf => cNil ?_
    refine h16 _ _ ?_
    refine cCond (b := (!r_2.2)) hf rfl (fun hb => ?_) (fun hb => ?_)
    ·replace hF := condT hb hF
     clear hb
     refine wp_seq_k fun K17 h17 => cReg ?_
     refine stP hf rfl rfl rfl (pA rfl) fun a hf => stP hf rfl rfl rfl (pA rfl) fun a hf => cNil ?_
     refine h17 _ _ ?_
     refine wp_ret ?_
     refine xThenR ?_
     obtain rfl := Option.some.inj hF
     replace hc := hc.nilRow 50 2
     replace hc := hc.drop k4
     replace hc := hc.drop k3
     replace hc := hc.drop k2
     replace hc := hc.drop k1
     exact fnOut2 (by simp) rfl Try.results27 hf hc (show look _ 4 = _ from rfl) (show look _ 5 = _ from rfl) ⟨none,0,rfl,hc⟩
    ·replace hF := condF hb hF
     clear hb
     refine wp_skip ?_
     refine h15 _ _ ?_
     refine wp_seq_k fun K18 h18 => cReg ?_
     refine stP hf rfl rfl rfl (pM rfl) fun a hf => stP hf rfl rfl rfl (pA rfl) fun a hf => stP hf rfl rfl rfl (pA rfl) fun a hf => cNil ?_
     refine h18 _ _ ?_
     refine wp_ret ?_
     obtain rfl := Option.some.inj hF
     replace hc := hc.drop k3
     replace hc := hc.drop k2
     replace hc := hc.drop k0
     exact fnOut2 (by simp) rfl Try.results27 hf hc (show look _ 4 = _ from rfl) (show look _ 5 = _ from rfl) ⟨p_2,c_2,rfl,hc⟩

def slices_Insert_Lapi_Span_api_Span (N : Nat) (s_ : List api_Span) (i_ : Int) (v : List api_Span) : Option ((List api_Span)) :=
 insO s_ i_ v
/-! ### Walks of the library -/
section
open Go.RowKit Go.Lib
theorem iX78 : (Try.prog.info? 50).map (fun i => (i.zero,i.size,i.bytes)) = some (some (Value.agg #[.int .i64 0,.int .i64 0]),2,16) := by kernel_rfl
theorem soX78 : ∀ w : World,(Go.sizeOf 50).run Try.prog w = .ok 2 w := fun w => by
 obtain ⟨i0,hi0,hz0,hz1,hz2⟩ := info_parts iX78
 simp [Go.sizeOf,typeInfo,hi0,hz1]
theorem szX78 : (Try.prog.info? 50).map (·.size) = some 2 := by kernel_rfl
set_option maxHeartbeats 4000000 in
set_option maxRecDepth 1000000 in
theorem ins_shift78 (b n c i vb m vc : Nat) (cs vs : List Value) (w : World) (hi : i < n) (hm : 0 < m) (hroom : n + m ≤ c) (hc63 : c ≤ 9223372036854775807) (hvb : vb ≠ b)
  (hcl : cs.length = n * 2) (hvl : vs.length = m * 2)
  (hcs : ∀ j v,cs[j]? = some v → w.cell? ⟨b,j,none⟩ = some v) (hsp : ∀ j,j < (n + m) * 2 → (w.cell? ⟨b,j,none⟩).isSome = true) (hfz : ∀ j,j < (n + m) * 2 → w.frozen? ⟨b,j,none⟩ = false)
  (hvs : ∀ j v,vs[j]? = some v → w.cell? ⟨vb,j,none⟩ = some v) (h1c : ∀ v ∈ cs,v.oneCell' = true) (h1v : ∀ v ∈ vs,v.oneCell' = true)
  (tA tB : TypeId) (kA kB : Nat) (hsa : w.shape? vb = some (tA,kA)) (hsb : w.shape? b = some (tB,kB)) (hkB : kB ≠ 0) (hfa : w.frozen? ⟨vb,0,none⟩ = false) (hfe : w.frozen? ⟨vb,kA,none⟩ = false) :
  Calls Try.prog 78 #[.slice (some ⟨b,0,none⟩) n c,.int .i64 i,.slice (some ⟨vb,0,none⟩) m vc] w fun e w' =>
   e = .returned (.slice (some ⟨b,0,none⟩) (n + m) c) ∧ w' = (w.drew.setCells b ((i + m) * 2) (cs.drop (i * 2))).setCells b (i * 2) vs := by
 have hz1 : ¬ ((m : Int) = 0) := by omega
 have hz2 : ¬ ((i : Int) = (n : Int)) := by omega
 have hov : ∀ lb cb,(callFunc 110 #[.slice (some ⟨vb,0,none⟩) m vc,.slice (some ⟨b,(i + m) * 2,none⟩) lb cb]).run Try.prog w = .ok (.value (.bool false)) w := fun lb cb => by
  rw [run_callFunc_extern Try.func110 (by kernel_rfl) (by kernel_rfl) (by kernel_rfl) (e := Extern.SlicesOverlaps.overlaps #[44,44] #[4]) (by kernel_rfl),
   Lib.run_overlaps_apart w 44 4 50 Try.underlying44 2 soX78 ⟨vb,0,none⟩ ⟨b,(i + m) * 2,none⟩ m vc lb cb hvb tA tB kA kB hsa hsb hkB hfa hfe]
  rfl
 have hdl : (cs.drop (i * 2)).length = (n - i) * 2 := by rw [List.length_drop,hcl]; omega
 have hw1 : IntKind.i64.wrap ((i : Int) + (m : Int)) = (i : Int) + (m : Int) := by rw [IntKind.wrap_i64]; omega
 have hb1 : (0 : Int) ≤ (i : Int) + (m : Int) := by omega
 have hin : i ≤ n := by omega
 have htn : ((i : Int) + (m : Int)).toNat = i + m := by omega
 have hb2 : ¬ (c = i + m) := by omega
 have hb3 : (i : Int) ≤ (n : Int) + (m : Int) := by omega
 have hb4 : ¬ (c = i) := by omega
 have hmin1 : Nat.min (n + m - i) (n + m - (i + m)) = n - i := by simp only [Nat.min_def]; split <;> omega
 have hmin2 : Nat.min m (n + m - i) = m := by simp only [Nat.min_def]; split <;> omega
 have hcp1 : ∀ ty dc sc,(Builtin.copy_ #[44,44] ty #[.slice (some ⟨b,(i + m) * 2,none⟩) (n + m - (i + m)) dc,.slice (some ⟨b,i * 2,none⟩) (n + m - i) sc]).run Try.prog w.drew = .ok (goInt (Nat.min (n + m - i) (n + m - (i + m)))) (w.drew.setCells b ((i + m) * 2) (cs.drop (i * 2))) := fun ty dc sc =>
  Go.Nilo.run_copy_rows w.drew _ _ ty 50 b ((i + m) * 2) (n + m - (i + m)) dc ⟨b,i * 2,none⟩ (n + m - i) sc 2 (cs.drop (i * 2)) Try.underlying44 szX78 (by rw [hdl,hmin1])
   (fun j v hj => by rw [Addr.add_lit]; exact hcs (i * 2 + j) v (by rwa [List.getElem?_drop] at hj))
   (fun j hj => hsp _ (by omega)) (fun j hj => hfz _ (by omega)) (fun v hv => h1c v (List.mem_of_mem_drop hv))
 obtain ⟨W1,hW1⟩ : ∃ W1,W1 = w.drew.setCells b ((i + m) * 2) (cs.drop (i * 2)) := ⟨_,rfl⟩
 have hsp1 : ∀ k,k < (n + m) * 2 → (W1.cell? ⟨b,k,none⟩).isSome = true := fun k hk => by
  rw [hW1]
  exact Go.Proofs.isSome_setCells b (cs.drop (i * 2)) ((i + m) * 2) w.drew (fun j hj => hsp _ (by omega)) _ (hsp k hk)
 have hcp2 : ∀ (W : World),(∀ x,W.cell? x = W1.cell? x) → (∀ x,W.frozen? x = W1.frozen? x) → ∀ ty dc,(Builtin.copy_ #[44,44] ty #[.slice (some ⟨b,i * 2,none⟩) (n + m - i) dc,.slice (some ⟨vb,0,none⟩) m vc]).run Try.prog W = .ok (goInt (Nat.min m (n + m - i))) (W.setCells b (i * 2) vs) := fun W hWc hWf ty dc =>
  Go.Nilo.run_copy_rows W _ _ ty 50 b (i * 2) (n + m - i) dc ⟨vb,0,none⟩ m vc 2 vs Try.underlying44 szX78 (by rw [hvl,hmin2])
   (fun j v hj => by
    rw [Addr.add_lit,hWc,hW1,World.cell?_setCells_out b _ _ _ _ (fun h _ => absurd h hvb),Nat.zero_add]
    exact hvs j v hj)
   (fun j hj => by rw [hWc]; exact hsp1 _ (by omega)) (fun j hj => by rw [hWf,hW1,World.frozen?_setCells]; exact hfz _ (by omega)) h1v
 rw [← hW1] at hcp1
 clear hmin1 hmin2
 go_enter Try.func78,Try.ntmps78
 go_wp2_with (simp only [hov])
 go_region_law (refine Go.Proofs.step_copy_runI rfl _ _ 44 44 rfl _ _ (by simp [Act.eval,Act.put]) (by simp [Act.eval,Act.put]) (hcp1 _ _ _) ?_)
 go_wp2_with (at_builtin; refine Go.Proofs.wpList_copy_runI _ rfl _ _ 44 44 rfl _ _ rfl rfl (hcp2 _ (fun _ => rfl) (fun _ => rfl) _ _) ?_)
 go_ret
 first | exact ⟨rfl,rfl⟩ | exact ⟨rfl,by rw [hW1]⟩

set_option maxHeartbeats 4000000 in
set_option maxRecDepth 1000000 in
theorem ins_grow78 (b n c i vb m vc : Nat) (cs vs : List Value) (w : World) (hi : i < n) (hm : 0 < m) (hnc : n ≤ c) (hroom : c < n + m) (hbig : (n + m) * 16 ≤ 140737488355328)
  (hcl : cs.length = n * 2) (hvl : vs.length = m * 2)
  (hcs : ∀ j v,cs[j]? = some v → w.cell? ⟨b,j,none⟩ = some v)
  (hvs : ∀ j v,vs[j]? = some v → w.cell? ⟨vb,j,none⟩ = some v) (h1c : ∀ v ∈ cs,v.oneCell' = true) (h1v : ∀ v ∈ vs,v.oneCell' = true) (hbw : b < w.heap.size) (hvw : vb < w.heap.size) :
  Calls Try.prog 78 #[.slice (some ⟨b,0,none⟩) n c,.int .i64 i,.slice (some ⟨vb,0,none⟩) m vc] w fun e w' =>
   e = .returned (.slice (some ⟨w.heap.size,0,none⟩) (n + m) (grownCap w (n + m) c 50)) ∧
   w' = (((w.alloc (.cells ((cs.take (i * 2)).toArray ++ Builtin.zeroCells (Value.agg #[.int .i64 0,.int .i64 0]).cells (n + m - i) ++ Builtin.zeroCells (Value.agg #[.int .i64 0,.int .i64 0]).cells (grownCap w (n + m) c 50 - (n + m))) 50)).drew.setCells w.heap.size (i * 2) vs).drew).setCells w.heap.size ((i + m) * 2) (cs.drop (i * 2)) := by
 obtain ⟨i0,hi0,hz0,hzs,hzb⟩ := info_parts iX78
 have hz1 : ¬ ((m : Int) = 0) := by omega
 have hz2 : ¬ ((i : Int) = (n : Int)) := by omega
 have hz3 : (c : Int) < (n : Int) + (m : Int) := by omega
 have hkk : (n : Int) + (m : Int) - (i : Int) = ((n + m - i : Nat) : Int) := by omega
 have hik : i + (n + m - i) = n + m := by omega
 have hold : (Builtin.firstCells i0.size i (.slice (some ⟨b,0,none⟩) i c)).run Try.prog w.drew = .ok (cs.take (i * 2)).toArray w.drew := by
  rw [hzs]
  exact run_firstCells_some w.drew 2 i ⟨b,0,none⟩ i c (cs.take (i * 2)) (by rw [List.length_take]; omega) (fun j v hj => by
   rw [Addr.add_lit]
   rw [List.getElem?_take] at hj
   split at hj
   ·rw [Nat.zero_add]; exact hcs j v hj
   ·cases hj)
 have hrz : ∀ ty,(Builtin.append_ #[44,3] ty #[.slice (some ⟨b,0,none⟩) i c,.int .i64 ((n : Int) + (m : Int) - (i : Int))]).run Try.prog w =
   .ok (.slice (some ⟨w.heap.size,0,none⟩) (n + m) (grownCap w (n + m) c 50)) (w.drew.alloc (.cells ((cs.take (i * 2)).toArray ++ Builtin.zeroCells (Value.agg #[.int .i64 0,.int .i64 0]).cells (n + m - i) ++ Builtin.zeroCells (Value.agg #[.int .i64 0,.int .i64 0]).cells (grownCap w (n + m) c 50 - (n + m))) 50)) := fun ty => by
  have h := Lib.run_append_grow_zeros w 44 3 ty 50 i0 _ .i64 .i64 Try.underlying44 Try.underlying3 hi0 hz0 (some ⟨b,0,none⟩) i c (cs.take (i * 2)) hold (n + m - i) (by omega) (by omega) (by omega) (by omega) (by rw [hzb]; omega) (by rw [hzb,hik]; exact growslice_fits hroom hbig)
  rw [hik] at h
  rw [hkk]
  exact h
 obtain ⟨G,hG⟩ : ∃ G,G = grownCap w (n + m) c 50 := ⟨_,rfl⟩
 obtain ⟨ROW,hROW⟩ : ∃ ROW : Array Value,ROW = (cs.take (i * 2)).toArray ++ Builtin.zeroCells (Value.agg #[.int .i64 0,.int .i64 0]).cells (n + m - i) ++ Builtin.zeroCells (Value.agg #[.int .i64 0,.int .i64 0]).cells (G - (n + m)) := ⟨_,rfl⟩
 rw [← hG] at hrz ⊢
 rw [← hROW] at hrz ⊢
 have hRl : (n + m) * 2 ≤ ROW.size := by
  rw [hROW,Array.size_append,Array.size_append,size_zeroCells,size_zeroCells,List.size_toArray,List.length_take]
  have : (Value.agg #[.int .i64 0,.int .i64 0]).cells.size = 2 := by decide
  rw [this]
  omega
 obtain ⟨W1,hW1⟩ : ∃ W1,W1 = w.drew.alloc (.cells ROW 50) := ⟨_,rfl⟩
 rw [← hW1] at hrz
 have hN : ∀ j,j < (n + m) * 2 → (W1.cell? ⟨w.heap.size,j,none⟩).isSome = true := fun j hj => by
  rw [hW1,World.cell?_alloc_at (w := w.drew) ROW _ w.heap.size j rfl,Array.getElem?_eq_getElem (by omega)]; rfl
 have hNf : ∀ j,W1.frozen? ⟨w.heap.size,j,none⟩ = false := fun j => by rw [hW1]; exact World.frozen?_alloc_at (w := w.drew) ROW _ w.heap.size j rfl
 have hOb : ∀ j v,w.cell? ⟨b,j,none⟩ = some v → W1.cell? ⟨b,j,none⟩ = some v := fun j v h => by rw [hW1,World.cell?_alloc_past (w := w.drew) _ b j hbw]; exact h
 have hOv : ∀ j v,w.cell? ⟨vb,j,none⟩ = some v → W1.cell? ⟨vb,j,none⟩ = some v := fun j v h => by rw [hW1,World.cell?_alloc_past (w := w.drew) _ vb j hvw]; exact h
 have hmin1 : Nat.min m (n + m - i) = m := by simp only [Nat.min_def]; split <;> omega
 have hmin2 : Nat.min (n - i) (n + m - (i + m)) = n - i := by simp only [Nat.min_def]; split <;> omega
 have hcpA : ∀ (W : World),(∀ x,W.cell? x = W1.cell? x) → (∀ x,W.frozen? x = W1.frozen? x) → ∀ ty dc,(Builtin.copy_ #[44,44] ty #[.slice (some ⟨w.heap.size,i * 2,none⟩) (n + m - i) dc,.slice (some ⟨vb,0,none⟩) m vc]).run Try.prog W = .ok (goInt (Nat.min m (n + m - i))) (W.setCells w.heap.size (i * 2) vs) := fun W hWc hWf ty dc =>
  Go.Nilo.run_copy_rows W _ _ ty 50 w.heap.size (i * 2) (n + m - i) dc ⟨vb,0,none⟩ m vc 2 vs Try.underlying44 szX78 (by rw [hvl,hmin1])
   (fun j v hj => by rw [Addr.add_lit,hWc,Nat.zero_add]; exact hOv _ v (hvs j v hj))
   (fun j hj => by rw [hWc]; exact hN _ (by omega)) (fun j hj => by rw [hWf]; exact hNf _) h1v
 have hGn : n + m ≤ G := by rw [hG]; exact grownCap_ge w _ _ _
 have hG63 : G ≤ 9223372036854775807 := by
  have := grownCap_le_maxLen w (n + m) c 50 (by unfold maxLen; omega)
  rw [← hG] at this
  unfold maxLen at this
  omega
 have hGi : ¬ (G = i) := by omega
 have hGim : ¬ (G = i + m) := by omega
 have hci : ¬ (c = i) := by omega
 have hbN : b ≠ w.heap.size := by omega
 have hdl : (cs.drop (i * 2)).length = (n - i) * 2 := by rw [List.length_drop,hcl]; omega
 have hcpB : ∀ (W : World),(∀ x,W.cell? x = (W1.setCells w.heap.size (i * 2) vs).cell? x) → (∀ x,W.frozen? x = (W1.setCells w.heap.size (i * 2) vs).frozen? x) → ∀ ty dc sc,(Builtin.copy_ #[44,44] ty #[.slice (some ⟨w.heap.size,(i + m) * 2,none⟩) (n + m - (i + m)) dc,.slice (some ⟨b,i * 2,none⟩) (n - i) sc]).run Try.prog W = .ok (goInt (Nat.min (n - i) (n + m - (i + m)))) (W.setCells w.heap.size ((i + m) * 2) (cs.drop (i * 2))) := fun W hWc hWf ty dc sc =>
  Go.Nilo.run_copy_rows W _ _ ty 50 w.heap.size ((i + m) * 2) (n + m - (i + m)) dc ⟨b,i * 2,none⟩ (n - i) sc 2 (cs.drop (i * 2)) Try.underlying44 szX78 (by rw [hdl,hmin2])
   (fun j v hj => by
    rw [Addr.add_lit,hWc,World.cell?_setCells_out _ _ _ _ _ (fun h _ => absurd h hbN)]
    exact hOb _ v (hcs (i * 2 + j) v (by rwa [List.getElem?_drop] at hj)))
   (fun j hj => by rw [hWc]; exact Go.Proofs.isSome_setCells _ vs _ _ (fun t ht => hN _ (by omega)) _ (hN _ (by omega)))
   (fun j hj => by rw [hWf,World.frozen?_setCells]; exact hNf _) (fun v hv => h1c v (List.mem_of_mem_drop hv))
 subst hW1
 have hE1 : ∀ x,((w.alloc (.cells ROW 50)).drew).cell? x = (w.drew.alloc (.cells ROW 50)).cell? x := fun x => rfl
 have hE2 : ∀ x,((w.alloc (.cells ROW 50)).drew).frozen? x = (w.drew.alloc (.cells ROW 50)).frozen? x := fun x => rfl
 have hF1 : ∀ x,(((w.alloc (.cells ROW 50)).drew.setCells w.heap.size (i * 2) vs).drew).cell? x = ((w.drew.alloc (.cells ROW 50)).setCells w.heap.size (i * 2) vs).cell? x := fun x => rfl
 have hF2 : ∀ x,(((w.alloc (.cells ROW 50)).drew.setCells w.heap.size (i * 2) vs).drew).frozen? x = ((w.drew.alloc (.cells ROW 50)).setCells w.heap.size (i * 2) vs).frozen? x := fun x => rfl
 have hw1 : IntKind.i64.wrap ((i : Int) + (m : Int)) = (i : Int) + (m : Int) := by rw [IntKind.wrap_i64]; omega
 have hb1 : (0 : Int) ≤ (i : Int) + (m : Int) := by omega
 have hin : i ≤ n := by omega
 have htn : ((i : Int) + (m : Int)).toNat = i + m := by omega
 have hb3 : (i : Int) ≤ (n : Int) := by omega
 clear hkk hik hold hROW hG hRl hmin1 hmin2
 go_enter Try.func78,Try.ntmps78
 go_wp2_with (first
  | (at_builtin; refine Lib.wpList_append_run _ rfl _ _ _ _ rfl _ _ rfl rfl _ _ (hrz _) ?_)
  | (at_builtin; refine Go.Proofs.wpList_copy_runI _ rfl _ _ 44 44 rfl _ _ rfl rfl (hcpA _ hE1 hE2 _ _) ?_)
  | (at_builtin; refine Go.Proofs.wpList_copy_runI _ rfl _ _ 44 44 rfl _ _ rfl rfl (hcpB _ (fun _ => rfl) (fun _ => rfl) _ _ _) ?_))
 go_region_law (refine Go.Proofs.step_copy_runI rfl _ _ 44 44 rfl (.slice (some ⟨w.heap.size,(i + m) * 2,none⟩) (n + m - (i + m)) (G - (i + m))) (.slice (some ⟨b,i * 2,none⟩) (n - i) (c - i)) (by simp [Act.eval,Act.put]) (by simp [Act.eval,Act.put]) (hcpB _ hF1 hF2 3 (G - (i + m)) (c - i)) ?_)
 go_wp2
 go_ret
 exact ⟨rfl,rfl⟩

set_option maxHeartbeats 4000000 in
set_option maxRecDepth 1000000 in
theorem ins_end78 (p : Option Addr) (n cap : Nat) (q : Option Addr) (m vc : Nat) (w w' : World) (r : Value) (hm : 0 < m) (hn : n ≤ cap) (hc63 : cap ≤ 9223372036854775807)
  (hr : ∀ ty,(Builtin.append_ #[44,44] ty #[.slice p n cap,.slice q m vc]).run Try.prog w = .ok r w') :
  Calls Try.prog 78 #[.slice p n cap,.int .i64 n,.slice q m vc] w fun e w2 => e = .returned r ∧ w2 = w' := by
 have hz1 : ¬ ((m : Int) = 0) := by omega
 go_enter Try.func78,Try.ntmps78
 go_wp2_with (at_builtin; refine Lib.wpList_append_run _ rfl _ _ _ _ rfl _ _ rfl rfl _ _ (hr _) ?_)
 all_goals (go_ret; exact ⟨rfl,rfl⟩)
end

theorem slices_Insert_Lapi_Span_api_Span_ok {N : Nat} {G : Pers} {Lf : List Ent} {w : World} (s_ : List api_Span) (i_ : Int) (v : List api_Span) {s__p : Option Addr} {s__c : Nat} {v_p : Option Addr} {v_c : Nat}  (hc : Ctx G (.row s__p s__c (s_.map enc_api_Span) 50 2::.row v_p v_c (v.map enc_api_Span) 50 2::Lf) w) {res : (List api_Span)} (hF : slices_Insert_Lapi_Span_api_Span N s_ i_ v = some res) : Calls Try.prog 78 #[.slice s__p s_.length s__c,.int .i64 i_,.slice v_p v.length v_c] w (fun e w => ∃ (p'1 : Option Addr) (c'1 : Nat),e = .returned (.slice p'1 res.length c'1) ∧ Ctx G (.row p'1 c'1 (res.map enc_api_Span) 50 2::.row v_p v_c (v.map enc_api_Span) 50 2::Lf) w) := by
 unfold slices_Insert_Lapi_Span_api_Span at hF
 exact insert_ctx (ty0 := 0) sl_44 (by decide) one_enc_api_Span (fun p n cap q m vc w w' r h1 h2 h3 h4 => ins_end78 p n cap q m vc w w' r h1 h2 h3 h4) (fun _ _ _ _ => rfl) (fun b n c i vb m vc cs vs w h1 h2 h3 h4 h5 h6 h7 h8 h9 h10 h11 h12 h13 tA tB kA kB h14 h15 h16 h17 h18 => ins_shift78 b n c i vb m vc cs vs w h1 h2 h3 h4 h5 h6 h7 h8 h9 h10 h11 h12 h13 tA tB kA kB h14 h15 h16 h17 h18) (fun b n c i vb m vc cs vs w h1 h2 h3 h4 h5 h6 h7 h8 h9 h10 h11 h12 h13 => ins_grow78 b n c i vb m vc cs vs w h1 h2 h3 h4 h5 h6 h7 h8 h9 h10 h11 h12 h13) hc hF

def shift_Between_j16 (N : Nat) (x : Int) (ahead_1 : Int) (mp_1 : Int → Option Int) : Option (Step (Int × Int × (Int → Option Int)) (api_Span × Int)) :=
 some (.cont (ahead_1,W (x + 1),mp_1))
def shift_Between_b12 (N : Nat) (r : shift_Record) (day : Int) (ahead : Int) (x : Int) (mp : Int → Option Int) : Option (Step (Int × Int × (Int → Option Int)) (api_Span × Int)) :=
 cond (decide (x < ((r.Gaugings.length : Nat) : Int)))
 (Option.bind (getI r.Gaugings x) fun e_1 =>
 cond (decide (e_1.Day < day))
 (shift_Between_j16 N x (W (x + 1)) (setM mp e_1.Day x))
 (shift_Between_j16 N x ahead (setM mp e_1.Day x)))
 (some (.brk (ahead,x,mp)))
def shift_Between_j31 (N : Nat) (r : shift_Record) (most : Int) (at_ : Int) (ahead_2 : Int) (l : List api_Span) : Option (api_Span × Int) :=
 Option.bind (shift_can N l most) fun r_2 =>
 cond (!r_2.2)
 (some ((⟨0,0⟩ : api_Span),5))
 (Option.bind (getI r_2.1 ahead_2) fun e_2 =>
 Option.bind (shift_means N r.Rating (W (at_ - e_2.Hi))) fun r_3 =>
 Option.bind (getI r_2.1 ahead_2) fun e_3 =>
 Option.bind (shift_means N r.Rating (W (at_ - e_3.Lo))) fun r_4 =>
 Option.bind (nz r_3.D) fun un =>
 Option.bind (nz r_4.D) fun un_1 =>
 some ((⟨W (r_3.N.tdiv r_3.D),W ((W ((W (r_4.N + r_4.D)) - 1)).tdiv r_4.D)⟩ : api_Span),0))
def shift_Between_j42 (N : Nat) (x_1 : Int) (ahead_3 : Int) (mp_3 : Int → Option Int) : Option (Step (Int × Int × (Int → Option Int)) (api_Span × Int)) :=
 some (.cont (ahead_3,W (x_1 + 1),mp_3))
def shift_Between_b29 (N : Nat) (r : shift_Record) (day : Int) (ahead_2 : Int) (x_1 : Int) (mp_2 : Int → Option Int) : Option (Step (Int × Int × (Int → Option Int)) (api_Span × Int)) :=
 cond (decide (x_1 < ((r.Gaugings.length : Nat) : Int)))
 (Option.bind (getI r.Gaugings x_1) fun e_4 =>
 cond (decide (e_4.Day < day))
 (shift_Between_j42 N x_1 (W (x_1 + 1)) (setM mp_2 e_4.Day x_1))
 (shift_Between_j42 N x_1 ahead_2 (setM mp_2 e_4.Day x_1)))
 (some (.brk (ahead_2,x_1,mp_2)))
def shift_Between (N : Nat) (r : shift_Record) (most : Int) (day : Int) (at_ : Int) : Option (api_Span × Int) :=
 Option.bind (shift_opened N r) (sumK (fun r_0 => cond (r_0 != 0)
 (some ((⟨0,0⟩ : api_Span),r_0))
 (cond (((!(shift_in most 0 18000)) || (!(shift_in day 0 40000))) || (!(shift_stage at_)))
 (some ((⟨0,0⟩ : api_Span),4))
 (Option.bind (loopO (fun s12 => shift_Between_b12 N r day s12.1 s12.2.1 s12.2.2) N (0,0,(fun _ => none : Int → Option Int))) fun x12 =>
 exK x12 (fun s12 => none) some)))
 (fun r_1 => cond (r_1.2 != 0)
 (some ((⟨0,0⟩ : api_Span),r_1.2))
 (cond (((!(shift_in most 0 18000)) || (!(shift_in day 0 40000))) || (!(shift_stage at_)))
 (some ((⟨0,0⟩ : api_Span),4))
 (Option.bind (loopO (fun s29 => shift_Between_b29 N r day s29.1 s29.2.1 s29.2.2) N (0,0,(fun _ => none : Int → Option Int))) fun x29 =>
 exK x29 (fun s29 => cond (!((s29.2.2 day).isSome))
 (Option.bind (slices_Clone_Lapi_Span_api_Span N r_1.1) fun r_5 =>
 Option.bind (slices_Insert_Lapi_Span_api_Span N r_5 s29.1 ([(⟨(-300),300⟩ : api_Span)] : List api_Span)) fun r_6 =>
 shift_Between_j31 N r most at_ s29.1 r_6)
 (shift_Between_j31 N r most at_ s29.1 r_1.1)) some))))
theorem shift_Between_ok {N : Nat} {G : Pers} {Lf : List Ent} {w : World} (r : shift_Record) (most : Int) (day : Int) (at_ : Int) {r_Rating_p : Option Addr} {r_Rating_c : Nat} {r_Gaugings_p : Option Addr} {r_Gaugings_c : Nat} (h_r_Rating : Rd G 2 r_Rating_p r_Rating_c (r.Rating.map enc_shift_Mark)) (h_r_Gaugings : Rd G 4 r_Gaugings_p r_Gaugings_c (r.Gaugings.map enc_shift_Gauging)) (hc : Ctx G (Lf) w) {res : api_Span × Int} (hF : shift_Between N r most day at_ = some res) : Calls Try.prog 29 #[.agg #[.slice r_Rating_p r.Rating.length r_Rating_c,.slice r_Gaugings_p r.Gaugings.length r_Gaugings_c],.int .i64 most,.int .i64 day,.int .i64 at_] w (fun e w => e = .returned (.tuple #[.agg #[.int .i64 res.1.Lo,.int .i64 res.1.Hi],.int .i64 res.2]) ∧ Ctx G (Lf) w) := by
 unfold shift_Between at hF
 refine fnIn (args := [.agg #[.slice r_Rating_p r.Rating.length r_Rating_c,.slice r_Gaugings_p r.Gaugings.length r_Gaugings_c],.int .i64 most,.int .i64 day,.int .i64 at_]) Try.func29 rfl Try.ntmps29 rfl fun a hf => wp_seq_k fun K1 h1 => cReg ?_
 refine stBx (cs := [.slice r_Rating_p r.Rating.length r_Rating_c,.slice r_Gaugings_p r.Gaugings.length r_Gaugings_c]) hf hc rfl rfl rfl rfl fun b_1 a w hf hc => stAl (cs := [.int .i64 0,.int .i64 0]) hf hc rfl rfl zr_50 rfl fun b_2 a w hf hc => stP hf rfl rfl rfl (pA rfl) fun a hf => cNil ?_
 refine h1 _ _ ?_
 refine wp_seq_k fun K2 h2 => cReg ?_
 refine stE hf hc rfl rfl rfl (eLdN (vs := [.slice r_Rating_p r.Rating.length r_Rating_c,.slice r_Gaugings_p r.Gaugings.length r_Gaugings_c]) ag_25 rfl rfl (cells_box (n := 2) m1 rfl)) fun a w hf hc => ?_
 obtain ⟨r_0,hr_0,hF⟩ := bnd_some hF
 cases r_0 with
 | inl r_0 =>
  replace hF := sumKl hF
  refine stC (vs := [.agg #[.slice r_Rating_p r.Rating.length r_Rating_c,.slice r_Gaugings_p r.Gaugings.length r_Gaugings_c]]) (caps := []) hf rfl rfl rfl en_73 rfl rfl rfl rfl (shift_opened_ok r h_r_Rating h_r_Gaugings hc hr_0) ?_
  rintro _ w ⟨rfl,hc⟩
  refine ⟨_,rfl,fun a hf => ?_⟩
  refine stP hf rfl rfl rfl (pM rfl) fun a hf => stP hf rfl rfl rfl (pX rfl rfl) fun a hf => stP hf rfl rfl rfl (pX rfl rfl) fun a hf => stP hf rfl rfl rfl (pA rfl) fun a hf => stP hf rfl rfl rfl (pA rfl) fun a hf => cNil ?_
  refine h2 _ _ ?_
  refine wp_seq_k fun K3 h3 => wp_block ?_
  refine wp_seq_k fun K4 h4 => cReg ?_
  refine stP hf rfl rfl rfl (pM rfl) fun a hf => stP hf rfl rfl rfl (pNe rfl rfl) fun a hf => stP hf rfl rfl rfl (pA rfl) fun a hf => cNil ?_
  refine h4 _ _ ?_
  refine cCond (b := (r_0 != 0)) hf rfl (fun hb => ?_) (fun hb => ?_)
  ·replace hF := condT hb hF
   clear hb
   refine wp_seq_k fun K5 h5 => cReg ?_
   refine stP hf rfl rfl rfl (pBuildS (cells := [.int .i64 0,.int .i64 0]) bt_50 rfl rfl) fun a hf => stP hf rfl rfl rfl (pM rfl) fun a hf => stSt (vs := [.int .i64 0,.int .i64 0]) hf hc rfl rfl rfl rfl sz_50 rfl rfl u0 fun w hc => stP hf rfl rfl rfl (pA rfl) fun a hf => cNil ?_
   refine h5 _ _ ?_
   refine wp_ret ?_
   refine xBlkR ?_
   refine xThenR ?_
   obtain rfl := Option.some.inj hF
   replace hc := hc.drop k1
   exact fnOut2 (by simp) rfl Try.results29 hf hc (rv_cellN (vs := [.int .i64 0,.int .i64 0]) ag_50 rfl rfl (cells_box (n := 2) m0 rfl)) (show look _ 9 = _ from rfl) ⟨rfl,(hc.drop k0)⟩
  ·replace hF := condF hb hF
   clear hb
   refine wp_seq_k fun K6 h6 => cReg ?_
   refine stP hf rfl rfl rfl (pM rfl) fun a hf => stE hf hc rfl rfl rfl (eC (v := .bool (shift_in most 0 18000)) (vs := [.int .i64 most,.int .i64 0,.int .i64 18000]) (caps := []) en_59 rfl rfl rfl rfl (fun w hc => shift_in_ok most 0 18000 hc rfl)) fun a w hf hc => stP hf rfl rfl rfl (pNot rfl) fun a hf => stP hf rfl rfl rfl (pM rfl) fun a hf => stCut 4 (fun a w => Has 130 a [(1,.int .i64 most),(2,.int .i64 day),(3,.int .i64 at_),(4,.pointer (some ⟨b_1,0,none⟩)),(8,.pointer (some ⟨b_2,0,none⟩)),(10,.pointer none),(34,.int .i64 most),(35,.bool (shift_in most 0 18000)),(36,.bool (!(shift_in most 0 18000))),(37,.bool (!(shift_in most 0 18000))),(41,.bool ((!(shift_in most 0 18000)) || (!(shift_in day 0 40000))))] ∧ Ctx G (.box b_2 [.int .i64 0,.int .i64 0] 50::.box b_1 [.slice r_Rating_p r.Rating.length r_Rating_c,.slice r_Gaugings_p r.Gaugings.length r_Gaugings_c] 25::Lf) w) ?_ ?_
   ·cases hb : (!(shift_in most 0 18000))
    ·rw [hb] at hf
     refine stP hf rfl rfl rfl (pM rfl) fun a hf => stE hf hc rfl rfl rfl (eC (v := .bool (shift_in day 0 40000)) (vs := [.int .i64 day,.int .i64 0,.int .i64 40000]) (caps := []) en_59 rfl rfl rfl rfl (fun w hc => shift_in_ok day 0 40000 hc rfl)) fun a w hf hc => stP hf rfl rfl rfl (pNot rfl) fun a hf => stP hf rfl rfl rfl (pPf rfl rfl) fun a hf => cNil ⟨hf.keep ⟨rfl,rfl,rfl,rfl,rfl,rfl,rfl,rfl,rfl,rfl,rfl,trivial⟩,hc⟩
    ·rw [hb] at hf
     refine stS hf rfl rfl rfl fun a hf => stS hf rfl rfl rfl fun a hf => stS hf rfl rfl rfl fun a hf => stP hf rfl rfl rfl (pPt rfl rfl) fun a hf => cNil ⟨hf.keep ⟨rfl,rfl,rfl,rfl,rfl,rfl,rfl,rfl,rfl,rfl,rfl,trivial⟩,hc⟩
   intro a w ⟨hf,hc⟩
   refine stP hf rfl rfl rfl (pM rfl) fun a hf => stCut 4 (fun a w => Has 130 a [(1,.int .i64 most),(2,.int .i64 day),(3,.int .i64 at_),(4,.pointer (some ⟨b_1,0,none⟩)),(8,.pointer (some ⟨b_2,0,none⟩)),(10,.pointer none),(34,.int .i64 most),(35,.bool (shift_in most 0 18000)),(36,.bool (!(shift_in most 0 18000))),(37,.bool (!(shift_in most 0 18000))),(41,.bool ((!(shift_in most 0 18000)) || (!(shift_in day 0 40000)))),(42,.bool ((!(shift_in most 0 18000)) || (!(shift_in day 0 40000)))),(46,.bool (((!(shift_in most 0 18000)) || (!(shift_in day 0 40000))) || (!(shift_stage at_))))] ∧ Ctx G (.box b_2 [.int .i64 0,.int .i64 0] 50::.box b_1 [.slice r_Rating_p r.Rating.length r_Rating_c,.slice r_Gaugings_p r.Gaugings.length r_Gaugings_c] 25::Lf) w) ?_ ?_
   ·cases hb : ((!(shift_in most 0 18000)) || (!(shift_in day 0 40000)))
    ·rw [hb] at hf
     refine stP hf rfl rfl rfl (pM rfl) fun a hf => stE hf hc rfl rfl rfl (eC (v := .bool (shift_stage at_)) (vs := [.int .i64 at_]) (caps := []) en_62 rfl rfl rfl rfl (fun w hc => shift_stage_ok at_ hc rfl)) fun a w hf hc => stP hf rfl rfl rfl (pNot rfl) fun a hf => stP hf rfl rfl rfl (pPf rfl rfl) fun a hf => cNil ⟨hf.keep ⟨rfl,rfl,rfl,rfl,rfl,rfl,rfl,rfl,rfl,rfl,rfl,rfl,rfl,trivial⟩,hc⟩
    ·rw [hb] at hf
     refine stS hf rfl rfl rfl fun a hf => stS hf rfl rfl rfl fun a hf => stS hf rfl rfl rfl fun a hf => stP hf rfl rfl rfl (pPt rfl rfl) fun a hf => cNil ⟨hf.keep ⟨rfl,rfl,rfl,rfl,rfl,rfl,rfl,rfl,rfl,rfl,rfl,rfl,rfl,trivial⟩,hc⟩
   intro a w ⟨hf,hc⟩
   refine stP hf rfl rfl rfl (pA rfl) fun a hf => cNil ?_
   refine h6 _ _ ?_
   refine cCond (b := (((!(shift_in most 0 18000)) || (!(shift_in day 0 40000))) || (!(shift_stage at_)))) hf rfl (fun hb => ?_) (fun hb => ?_)
   ·replace hF := condT hb hF
    clear hb
    refine wp_seq_k fun K7 h7 => cReg ?_
    refine stP hf rfl rfl rfl (pBuildS (cells := [.int .i64 0,.int .i64 0]) bt_50 rfl rfl) fun a hf => stSt (vs := [.int .i64 0,.int .i64 0]) hf hc rfl rfl rfl rfl sz_50 rfl rfl u0 fun w hc => stP hf rfl rfl rfl (pA rfl) fun a hf => cNil ?_
    refine h7 _ _ ?_
    refine wp_ret ?_
    refine xBlkR ?_
    refine xThenR ?_
    obtain rfl := Option.some.inj hF
    replace hc := hc.drop k1
    exact fnOut2 (by simp) rfl Try.results29 hf hc (rv_cellN (vs := [.int .i64 0,.int .i64 0]) ag_50 rfl rfl (cells_box (n := 2) m0 rfl)) (show look _ 9 = _ from rfl) ⟨rfl,(hc.drop k0)⟩
   ·replace hF := condF hb hF
    clear hb
    refine wp_skip ?_
    refine h3 _ _ ?_
    refine wp_seq_k fun K8 h8 => cReg ?_
    refine stMM hf hc rfl rfl fun mb a w hf hc => ?_
    replace hc : Ctx _ (.im mb (fun j => ((fun _ => none : Int → Option Int) j).map (Value.int .i64)) none::_) w := hc
    refine stP hf rfl rfl rfl (pA rfl) fun a hf => cNil ?_
    refine h8 _ _ ?_
    refine wp_seq_k fun K9 h9 => cReg ?_
    refine stP hf rfl rfl rfl (pA rfl) fun a hf => cNil ?_
    refine h9 _ _ ?_
    refine wp_seq_k fun K10 h10 => wp_seq_k fun K11 h11 => cReg ?_
    refine stP hf rfl rfl rfl (pFA fa_25_1 rfl) fun a hf => stE hf hc rfl rfl rfl (eLd1 sc_23 rfl (cell_box m2 rfl)) fun a w hf hc => stP hf rfl rfl rfl (pLenS Try.underlying23 rfl) fun a hf => stP hf rfl rfl rfl (pM rfl) fun a hf => cNil ?_
    refine h11 _ _ ?_
    refine wp_block ?_
    obtain ⟨x12,hx12,hF⟩ := bnd_some hF
    let S12 : (Int × Int × (Int → Option Int)) → Act → World → Prop := (fun (zz : Int × Int × (Int → Option Int)) a w => Has 130 a [(1,.int .i64 most),(2,.int .i64 day),(3,.int .i64 at_),(4,.pointer (some ⟨b_1,0,none⟩)),(8,.pointer (some ⟨b_2,0,none⟩)),(10,.pointer none),(12,.map (some mb)),(13,.int .i64 zz.1),(50,.slice r_Gaugings_p r.Gaugings.length r_Gaugings_c),(51,.int .i64 ((r.Gaugings.length : Nat) : Int)),(52,.int .i64 zz.2.1)] ∧ Ctx G (.im mb (fun j => (zz.2.2 j).map (Value.int .i64)) none::.box b_2 [.int .i64 0,.int .i64 0] 50::.box b_1 [.slice r_Rating_p r.Rating.length r_Rating_c,.slice r_Gaugings_p r.Gaugings.length r_Gaugings_c] 25::Lf) w)
    have hr12 : ∀ (zz : Int × Int × (Int → Option Int)) a w,x12 = .go zz → S12 zz a w → K10 a w := by
     rintro ⟨ahead,x,mp⟩ a w rfl ⟨hf,hc⟩
     replace hF := exK_go hF
     refine h10 _ _ ?_
     refine wp_seq_k fun K13 h13 => noneO hF
    have ho12 : ∀ r,x12 = .out r → r = res := by
     rintro r rfl
     exact Option.some.inj hF
    refine cLoop N (loopW (S := S12) (x := x12) ?_ N (0,0,(fun _ => none : Int → Option Int)) _ _ ⟨hf.keep ⟨rfl,rfl,rfl,rfl,rfl,rfl,rfl,rfl,rfl,rfl,rfl,trivial⟩,hc⟩ hx12)
    clear hF hf hc
    rintro ⟨ahead,x,mp⟩ st12 a w KB12 ⟨hf,hc⟩ hF hfin12 hK12
    unfold shift_Between_b12 at hF
    refine wp_seq_k fun K14 h14 => cReg ?_
    refine stP hf rfl rfl rfl (pLt rfl rfl) fun a hf => cNil ?_
    refine h14 _ _ ?_
    refine wp_seq_k fun K15 h15 => cCond (b := (decide (x < ((r.Gaugings.length : Nat) : Int)))) hf rfl (fun hb => ?_) (fun hb => ?_)
    ·replace hF := condT hb hF
     clear hb
     refine wp_skip ?_
     refine h15 _ _ ?_
     refine wp_seq_k fun K16 h16 => ?_
     have hj16 : ∀ (ahead_1 : Int) (mp_1 : Int → Option Int) a w,Has 130 a [(1,.int .i64 most),(2,.int .i64 day),(3,.int .i64 at_),(4,.pointer (some ⟨b_1,0,none⟩)),(8,.pointer (some ⟨b_2,0,none⟩)),(10,.pointer none),(12,.map (some mb)),(13,.int .i64 ahead_1),(50,.slice r_Gaugings_p r.Gaugings.length r_Gaugings_c),(51,.int .i64 ((r.Gaugings.length : Nat) : Int)),(52,.int .i64 x)] → Ctx G (.im mb (fun j => (mp_1 j).map (Value.int .i64)) none::.box b_2 [.int .i64 0,.int .i64 0] 50::.box b_1 [.slice r_Rating_p r.Rating.length r_Rating_c,.slice r_Gaugings_p r.Gaugings.length r_Gaugings_c] 25::Lf) w → shift_Between_j16 N x ahead_1 mp_1 = some st12 → K16 a w := by
      repeat (clear hF)
      repeat (clear hc)
      repeat (clear hf)
      intro ahead_1 mp_1 a w hf hc hF
      unfold shift_Between_j16 at hF
      refine h16 _ _ ?_
      refine cReg ?_
      refine stP hf rfl rfl rfl (pAdd rfl rfl) fun a hf => stP hf rfl rfl rfl (pM rfl) fun a hf => cNil ?_
      exact hK12 (ahead_1,W (x + 1),mp_1) _ _ (Option.some.inj hF).symm ⟨hf.keep ⟨rfl,rfl,rfl,rfl,rfl,rfl,rfl,rfl,rfl,rfl,rfl,trivial⟩,hc⟩
     refine wp_block ?_
     refine wp_seq_k fun K17 h17 => cReg ?_
     refine stP hf rfl rfl rfl (pM rfl) fun a hf => ?_
     obtain ⟨e_1,he_1,hF⟩ := bnd_some hF
     obtain ⟨b_3,o,qa,qp⟩ := h_r_Gaugings.atm he_1
     refine stP hf rfl rfl rfl (pIA Try.underlying23 sz_71 rfl rfl qa) fun a hf => stE hf hc rfl rfl rfl (eLdN (vs := [.int .i64 e_1.Day,.int .i64 e_1.Stage,.int .i64 e_1.Flow.Lo,.int .i64 e_1.Flow.Hi]) ag_71 rfl rfl (cells_pc qp (n := 4) (o' := 0) rfl)) fun a w hf hc => stAl (cs := [.int .i64 0,.int .i64 0,.int .i64 0,.int .i64 0]) hf hc rfl rfl zr_71 rfl fun b_4 a w hf hc => stP hf rfl rfl rfl (pA rfl) fun a hf => stSt (vs := [.int .i64 e_1.Day,.int .i64 e_1.Stage,.int .i64 e_1.Flow.Lo,.int .i64 e_1.Flow.Hi]) hf hc rfl rfl rfl rfl sz_71 rfl rfl u0 fun w hc => cNil ?_
     refine h17 _ _ ?_
     refine wp_seq_k fun K18 h18 => cReg ?_
     refine stP hf rfl rfl rfl (pM rfl) fun a hf => stP hf rfl rfl rfl (pFA fa_71_0 rfl) fun a hf => stE hf hc rfl rfl rfl (eLd1 sc_3 rfl (cell_box m0 rfl)) fun a w hf hc => stP hf rfl rfl rfl (pM rfl) fun a hf => stMU (enc := (Value.int .i64)) (m := mp) (v := x) hf hc rfl Try.underlying146 Try.underlying3 rfl rfl rfl u1 fun w hc => cNil ?_
     refine h18 _ _ ?_
     refine wp_seq_k fun K19 h19 => cReg ?_
     refine stP hf rfl rfl rfl (pFA fa_71_0 rfl) fun a hf => stE hf hc rfl rfl rfl (eLd1 sc_3 rfl (cell_box m0 rfl)) fun a w hf hc => stP hf rfl rfl rfl (pM rfl) fun a hf => stP hf rfl rfl rfl (pLt rfl rfl) fun a hf => cNil ?_
     refine h19 _ _ ?_
     refine cCond (b := (decide (e_1.Day < day))) hf rfl (fun hb => ?_) (fun hb => ?_)
     ·replace hF := condT hb hF
      clear hb
      refine cReg ?_
      refine stP hf rfl rfl rfl (pM rfl) fun a hf => stP hf rfl rfl rfl (pAdd rfl rfl) fun a hf => stP hf rfl rfl rfl (pA rfl) fun a hf => cNil ?_
      replace hc := hc.drop k0
      exact hj16 (W (x + 1)) (setM mp e_1.Day x) _ _  (hf.keep ⟨rfl,rfl,rfl,rfl,rfl,rfl,rfl,rfl,rfl,rfl,rfl,trivial⟩) hc hF
     ·replace hF := condF hb hF
      clear hb
      refine wp_skip ?_
      replace hc := hc.drop k0
      exact hj16 ahead (setM mp e_1.Day x) _ _  (hf.keep ⟨rfl,rfl,rfl,rfl,rfl,rfl,rfl,rfl,rfl,rfl,rfl,trivial⟩) hc hF
    ·replace hF := condF hb hF
     clear hb
     refine wp_exit ?_
     refine xThen ?_
     refine xThen ?_
     have he := Option.some.inj hF
     rw [← he] at hfin12
     refine cHit ?_
     exact hr12 _ _ _ hfin12 ⟨hf.keep ⟨rfl,rfl,rfl,rfl,rfl,rfl,rfl,rfl,rfl,rfl,rfl,trivial⟩,hc⟩
 | inr r_1 =>
  replace hF := sumKr hF
  have hr_1 := hr_0
  refine stC (vs := [.agg #[.slice r_Rating_p r.Rating.length r_Rating_c,.slice r_Gaugings_p r.Gaugings.length r_Gaugings_c]]) (caps := []) hf rfl rfl rfl en_73 rfl rfl rfl rfl (shift_opened_ok r h_r_Rating h_r_Gaugings hc hr_1) ?_
  rintro _ w ⟨b_5,p_1,c_1,rfl,hc⟩
  refine ⟨_,rfl,fun a hf => ?_⟩
  refine stP hf rfl rfl rfl (pM rfl) fun a hf => stP hf rfl rfl rfl (pX rfl rfl) fun a hf => stP hf rfl rfl rfl (pX rfl rfl) fun a hf => stP hf rfl rfl rfl (pA rfl) fun a hf => stP hf rfl rfl rfl (pA rfl) fun a hf => cNil ?_
  refine h2 _ _ ?_
  refine wp_seq_k fun K20 h20 => wp_block ?_
  refine wp_seq_k fun K21 h21 => cReg ?_
  refine stP hf rfl rfl rfl (pM rfl) fun a hf => stP hf rfl rfl rfl (pNe rfl rfl) fun a hf => stP hf rfl rfl rfl (pA rfl) fun a hf => cNil ?_
  refine h21 _ _ ?_
  refine cCond (b := (r_1.2 != 0)) hf rfl (fun hb => ?_) (fun hb => ?_)
  ·replace hF := condT hb hF
   clear hb
   refine wp_seq_k fun K22 h22 => cReg ?_
   refine stP hf rfl rfl rfl (pBuildS (cells := [.int .i64 0,.int .i64 0]) bt_50 rfl rfl) fun a hf => stP hf rfl rfl rfl (pM rfl) fun a hf => stSt (vs := [.int .i64 0,.int .i64 0]) hf hc rfl rfl rfl rfl sz_50 rfl rfl u2 fun w hc => stP hf rfl rfl rfl (pA rfl) fun a hf => cNil ?_
   refine h22 _ _ ?_
   refine wp_ret ?_
   refine xBlkR ?_
   refine xThenR ?_
   obtain rfl := Option.some.inj hF
   replace hc := hc.drop k3
   replace hc := hc.drop k1
   replace hc := hc.drop k0
   exact fnOut2 (by simp) rfl Try.results29 hf hc (rv_cellN (vs := [.int .i64 0,.int .i64 0]) ag_50 rfl rfl (cells_box (n := 2) m0 rfl)) (show look _ 9 = _ from rfl) ⟨rfl,(hc.drop k0)⟩
  ·replace hF := condF hb hF
   clear hb
   refine wp_seq_k fun K23 h23 => cReg ?_
   refine stP hf rfl rfl rfl (pM rfl) fun a hf => stE hf hc rfl rfl rfl (eC (v := .bool (shift_in most 0 18000)) (vs := [.int .i64 most,.int .i64 0,.int .i64 18000]) (caps := []) en_59 rfl rfl rfl rfl (fun w hc => shift_in_ok most 0 18000 hc rfl)) fun a w hf hc => stP hf rfl rfl rfl (pNot rfl) fun a hf => stP hf rfl rfl rfl (pM rfl) fun a hf => stCut 4 (fun a w => Has 130 a [(1,.int .i64 most),(2,.int .i64 day),(3,.int .i64 at_),(4,.pointer (some ⟨b_1,0,none⟩)),(8,.pointer (some ⟨b_2,0,none⟩)),(10,.pointer (some ⟨b_5,0,none⟩)),(34,.int .i64 most),(35,.bool (shift_in most 0 18000)),(36,.bool (!(shift_in most 0 18000))),(37,.bool (!(shift_in most 0 18000))),(41,.bool ((!(shift_in most 0 18000)) || (!(shift_in day 0 40000))))] ∧ Ctx G (.row p_1 c_1 (r_1.1.map enc_api_Span) 50 2::.box b_5 [.slice r_Rating_p r.Rating.length r_Rating_c,.slice r_Gaugings_p r.Gaugings.length r_Gaugings_c,.slice p_1 r_1.1.length c_1] 140::.box b_2 [.int .i64 0,.int .i64 0] 50::.box b_1 [.slice r_Rating_p r.Rating.length r_Rating_c,.slice r_Gaugings_p r.Gaugings.length r_Gaugings_c] 25::Lf) w) ?_ ?_
   ·cases hb : (!(shift_in most 0 18000))
    ·rw [hb] at hf
     refine stP hf rfl rfl rfl (pM rfl) fun a hf => stE hf hc rfl rfl rfl (eC (v := .bool (shift_in day 0 40000)) (vs := [.int .i64 day,.int .i64 0,.int .i64 40000]) (caps := []) en_59 rfl rfl rfl rfl (fun w hc => shift_in_ok day 0 40000 hc rfl)) fun a w hf hc => stP hf rfl rfl rfl (pNot rfl) fun a hf => stP hf rfl rfl rfl (pPf rfl rfl) fun a hf => cNil ⟨hf.keep ⟨rfl,rfl,rfl,rfl,rfl,rfl,rfl,rfl,rfl,rfl,rfl,trivial⟩,hc⟩
    ·rw [hb] at hf
     refine stS hf rfl rfl rfl fun a hf => stS hf rfl rfl rfl fun a hf => stS hf rfl rfl rfl fun a hf => stP hf rfl rfl rfl (pPt rfl rfl) fun a hf => cNil ⟨hf.keep ⟨rfl,rfl,rfl,rfl,rfl,rfl,rfl,rfl,rfl,rfl,rfl,trivial⟩,hc⟩
   intro a w ⟨hf,hc⟩
   refine stP hf rfl rfl rfl (pM rfl) fun a hf => stCut 4 (fun a w => Has 130 a [(1,.int .i64 most),(2,.int .i64 day),(3,.int .i64 at_),(4,.pointer (some ⟨b_1,0,none⟩)),(8,.pointer (some ⟨b_2,0,none⟩)),(10,.pointer (some ⟨b_5,0,none⟩)),(34,.int .i64 most),(35,.bool (shift_in most 0 18000)),(36,.bool (!(shift_in most 0 18000))),(37,.bool (!(shift_in most 0 18000))),(41,.bool ((!(shift_in most 0 18000)) || (!(shift_in day 0 40000)))),(42,.bool ((!(shift_in most 0 18000)) || (!(shift_in day 0 40000)))),(46,.bool (((!(shift_in most 0 18000)) || (!(shift_in day 0 40000))) || (!(shift_stage at_))))] ∧ Ctx G (.row p_1 c_1 (r_1.1.map enc_api_Span) 50 2::.box b_5 [.slice r_Rating_p r.Rating.length r_Rating_c,.slice r_Gaugings_p r.Gaugings.length r_Gaugings_c,.slice p_1 r_1.1.length c_1] 140::.box b_2 [.int .i64 0,.int .i64 0] 50::.box b_1 [.slice r_Rating_p r.Rating.length r_Rating_c,.slice r_Gaugings_p r.Gaugings.length r_Gaugings_c] 25::Lf) w) ?_ ?_
   ·cases hb : ((!(shift_in most 0 18000)) || (!(shift_in day 0 40000)))
    ·rw [hb] at hf
     refine stP hf rfl rfl rfl (pM rfl) fun a hf => stE hf hc rfl rfl rfl (eC (v := .bool (shift_stage at_)) (vs := [.int .i64 at_]) (caps := []) en_62 rfl rfl rfl rfl (fun w hc => shift_stage_ok at_ hc rfl)) fun a w hf hc => stP hf rfl rfl rfl (pNot rfl) fun a hf => stP hf rfl rfl rfl (pPf rfl rfl) fun a hf => cNil ⟨hf.keep ⟨rfl,rfl,rfl,rfl,rfl,rfl,rfl,rfl,rfl,rfl,rfl,rfl,rfl,trivial⟩,hc⟩
    ·rw [hb] at hf
     refine stS hf rfl rfl rfl fun a hf => stS hf rfl rfl rfl fun a hf => stS hf rfl rfl rfl fun a hf => stP hf rfl rfl rfl (pPt rfl rfl) fun a hf => cNil ⟨hf.keep ⟨rfl,rfl,rfl,rfl,rfl,rfl,rfl,rfl,rfl,rfl,rfl,rfl,rfl,trivial⟩,hc⟩
   intro a w ⟨hf,hc⟩
   refine stP hf rfl rfl rfl (pA rfl) fun a hf => cNil ?_
   refine h23 _ _ ?_
   refine cCond (b := (((!(shift_in most 0 18000)) || (!(shift_in day 0 40000))) || (!(shift_stage at_)))) hf rfl (fun hb => ?_) (fun hb => ?_)
   ·replace hF := condT hb hF
    clear hb
    refine wp_seq_k fun K24 h24 => cReg ?_
    refine stP hf rfl rfl rfl (pBuildS (cells := [.int .i64 0,.int .i64 0]) bt_50 rfl rfl) fun a hf => stSt (vs := [.int .i64 0,.int .i64 0]) hf hc rfl rfl rfl rfl sz_50 rfl rfl u2 fun w hc => stP hf rfl rfl rfl (pA rfl) fun a hf => cNil ?_
    refine h24 _ _ ?_
    refine wp_ret ?_
    refine xBlkR ?_
    refine xThenR ?_
    obtain rfl := Option.some.inj hF
    replace hc := hc.drop k3
    replace hc := hc.drop k1
    replace hc := hc.drop k0
    exact fnOut2 (by simp) rfl Try.results29 hf hc (rv_cellN (vs := [.int .i64 0,.int .i64 0]) ag_50 rfl rfl (cells_box (n := 2) m0 rfl)) (show look _ 9 = _ from rfl) ⟨rfl,(hc.drop k0)⟩
   ·replace hF := condF hb hF
    clear hb
    refine wp_skip ?_
    refine h20 _ _ ?_
    refine wp_seq_k fun K25 h25 => cReg ?_
    refine stMM hf hc rfl rfl fun mb_1 a w hf hc => ?_
    replace hc : Ctx _ (.im mb_1 (fun j => ((fun _ => none : Int → Option Int) j).map (Value.int .i64)) none::_) w := hc
    refine stP hf rfl rfl rfl (pA rfl) fun a hf => cNil ?_
    refine h25 _ _ ?_
    refine wp_seq_k fun K26 h26 => cReg ?_
    refine stP hf rfl rfl rfl (pA rfl) fun a hf => cNil ?_
    refine h26 _ _ ?_
    refine wp_seq_k fun K27 h27 => wp_seq_k fun K28 h28 => cReg ?_
    refine stP hf rfl rfl rfl (pFA fa_25_1 rfl) fun a hf => stE hf hc rfl rfl rfl (eLd1 sc_23 rfl (cell_box m4 rfl)) fun a w hf hc => stP hf rfl rfl rfl (pLenS Try.underlying23 rfl) fun a hf => stP hf rfl rfl rfl (pM rfl) fun a hf => cNil ?_
    refine h28 _ _ ?_
    refine wp_block ?_
    obtain ⟨x29,hx29,hF⟩ := bnd_some hF
    let S29 : (Int × Int × (Int → Option Int)) → Act → World → Prop := (fun (zz : Int × Int × (Int → Option Int)) a w => Has 130 a [(1,.int .i64 most),(2,.int .i64 day),(3,.int .i64 at_),(4,.pointer (some ⟨b_1,0,none⟩)),(8,.pointer (some ⟨b_2,0,none⟩)),(10,.pointer (some ⟨b_5,0,none⟩)),(12,.map (some mb_1)),(13,.int .i64 zz.1),(50,.slice r_Gaugings_p r.Gaugings.length r_Gaugings_c),(51,.int .i64 ((r.Gaugings.length : Nat) : Int)),(52,.int .i64 zz.2.1)] ∧ Ctx G (.im mb_1 (fun j => (zz.2.2 j).map (Value.int .i64)) none::.row p_1 c_1 (r_1.1.map enc_api_Span) 50 2::.box b_5 [.slice r_Rating_p r.Rating.length r_Rating_c,.slice r_Gaugings_p r.Gaugings.length r_Gaugings_c,.slice p_1 r_1.1.length c_1] 140::.box b_2 [.int .i64 0,.int .i64 0] 50::.box b_1 [.slice r_Rating_p r.Rating.length r_Rating_c,.slice r_Gaugings_p r.Gaugings.length r_Gaugings_c] 25::Lf) w)
    have hr29 : ∀ (zz : Int × Int × (Int → Option Int)) a w,x29 = .go zz → S29 zz a w → K27 a w := by
     rintro ⟨ahead_2,x_1,mp_2⟩ a w rfl ⟨hf,hc⟩
     replace hF := exK_go hF
     refine h27 _ _ ?_
     refine wp_seq_k fun K30 h30 => cReg ?_
     refine stP hf rfl rfl rfl (pM rfl) fun a hf => stP hf rfl rfl rfl (pNC rfl) fun a hf => stP hf rfl rfl rfl (pFA fa_140_1 rfl) fun a hf => stE hf hc rfl rfl rfl (eLd1 sc_44 rfl (cell_box m2 rfl)) fun a w hf hc => stP hf rfl rfl rfl (pA rfl) fun a hf => cNil ?_
     refine h30 _ _ ?_
     refine wp_seq_k fun K31 h31 => ?_
     have hj31 : ∀ (l : List api_Span) (p_2 : Option Addr) (c_2 : Nat) a w,Has 130 a [(1,.int .i64 most),(3,.int .i64 at_),(4,.pointer (some ⟨b_1,0,none⟩)),(8,.pointer (some ⟨b_2,0,none⟩)),(13,.int .i64 ahead_2),(16,.slice p_2 l.length c_2)] → Ctx G (.row p_2 c_2 (l.map enc_api_Span) 50 2::.im mb_1 (fun j => (mp_2 j).map (Value.int .i64)) none::.box b_2 [.int .i64 0,.int .i64 0] 50::.box b_1 [.slice r_Rating_p r.Rating.length r_Rating_c,.slice r_Gaugings_p r.Gaugings.length r_Gaugings_c] 25::Lf) w → shift_Between_j31 N r most at_ ahead_2 l = some res → K31 a w := by
      repeat (clear hF)
      repeat (clear hc)
      repeat (clear hf)
      intro l p_2 c_2 a w hf hc hF
      unfold shift_Between_j31 at hF
      refine h31 _ _ ?_
      refine wp_seq_k fun K32 h32 => cReg ?_
      refine stP hf rfl rfl rfl (pM rfl) fun a hf => stP hf rfl rfl rfl (pM rfl) fun a hf => ?_
      obtain ⟨r_2,hr_2,hF⟩ := bnd_some hF
      obtain ⟨G1,hle1,hrd1,hc,hth1⟩ := lend hc k0
      refine stC (vs := [.slice p_2 l.length c_2,.int .i64 most]) (caps := []) hf rfl rfl rfl en_76 rfl rfl rfl rfl (shift_can_ok l most hrd1 hc hr_2) ?_
      rintro _ w ⟨p_3,c_3,rfl,hc⟩
      refine ⟨_,rfl,fun a hf => ?_⟩
      replace hc := hth1 _ _ hc
      refine stP hf rfl rfl rfl (pM rfl) fun a hf => stP hf rfl rfl rfl (pX rfl rfl) fun a hf => stP hf rfl rfl rfl (pX rfl rfl) fun a hf => stP hf rfl rfl rfl (pA rfl) fun a hf => stP hf rfl rfl rfl (pA rfl) fun a hf => cNil ?_
      refine h32 _ _ ?_
      refine wp_seq_k fun K33 h33 => wp_seq_k fun K34 h34 => cReg ?_
      refine stP hf rfl rfl rfl (pM rfl) fun a hf => stP hf rfl rfl rfl (pNot rfl) fun a hf => cNil ?_
      refine h34 _ _ ?_
      refine cCond (b := (!r_2.2)) hf rfl (fun hb => ?_) (fun hb => ?_)
      ·replace hF := condT hb hF
       clear hb
       refine wp_seq_k fun K35 h35 => cReg ?_
       refine stP hf rfl rfl rfl (pBuildS (cells := [.int .i64 0,.int .i64 0]) bt_50 rfl rfl) fun a hf => stSt (vs := [.int .i64 0,.int .i64 0]) hf hc rfl rfl rfl rfl sz_50 rfl rfl u3 fun w hc => stP hf rfl rfl rfl (pA rfl) fun a hf => cNil ?_
       refine h35 _ _ ?_
       refine wp_ret ?_
       refine xThenR ?_
       obtain rfl := Option.some.inj hF
       replace hc := hc.drop k4
       replace hc := hc.drop k2
       replace hc := hc.drop k1
       replace hc := hc.drop k0
       exact fnOut2 (by simp) rfl Try.results29 hf hc (rv_cellN (vs := [.int .i64 0,.int .i64 0]) ag_50 rfl rfl (cells_box (n := 2) m0 rfl)) (show look _ 9 = _ from rfl) ⟨rfl,(hc.drop k0)⟩
      ·replace hF := condF hb hF
       clear hb
       refine wp_skip ?_
       refine h33 _ _ ?_
       refine wp_seq_k fun K36 h36 => ?_
       obtain ⟨e_2,he_2,hF⟩ := bnd_some hF
       obtain ⟨g,rfl,qa_1,qr⟩ := row_atm hc m1 he_2
       obtain ⟨r_3,hr_3,hF⟩ := bnd_some hF
       obtain ⟨e_3,he_3,hF⟩ := bnd_some hF
       obtain ⟨qa_2,qr_1⟩ := row_atk hc m1 he_3
       obtain ⟨r_4,hr_4,hF⟩ := bnd_some hF
       replace hc := hc.nilRow 0 0
       replace hc := hc.nilRow 0 0
       refine regionE (fun θ => [⟨none,none,3,.int .i64 at_⟩,⟨none,none,4,.pointer (some ⟨b_1,0,none⟩)⟩,⟨none,none,8,.pointer (some ⟨b_2,0,none⟩)⟩,⟨none,none,13,.int .i64 ahead_2⟩,⟨none,none,19,.slice (some ⟨g,0,none⟩) r_2.1.length c_3⟩,⟨some 0,none,95,.pointer (some ⟨b_1,0,none⟩)⟩,⟨some 1,none,96,.slice r_Rating_p r.Rating.length r_Rating_c⟩,⟨some 2,none,97,.int .i64 at_⟩,⟨some 3,none,98,.slice (some ⟨g,0,none⟩) r_2.1.length c_3⟩,⟨some 4,none,99,.int .i64 ahead_2⟩,⟨some 5,none,100,.pointer (some ⟨g,ahead_2.toNat * 2,none⟩)⟩,⟨some 6,none,101,.pointer (some ⟨g,ahead_2.toNat * 2 + 1,none⟩)⟩,⟨some 7,none,102,.int .i64 e_2.Hi⟩,⟨some 8,none,103,.int .i64 (W (at_ - e_2.Hi))⟩,⟨some 9,none,104,.agg #[.int .i64 r_3.N,.int .i64 r_3.D]⟩,⟨some 10,none,105,.pointer (some ⟨b_1,0,none⟩)⟩,⟨some 11,none,106,.slice r_Rating_p r.Rating.length r_Rating_c⟩,⟨some 12,none,107,.int .i64 at_⟩,⟨some 13,none,108,.slice (some ⟨g,0,none⟩) r_2.1.length c_3⟩,⟨some 14,none,109,.int .i64 ahead_2⟩,⟨some 15,none,110,.pointer (some ⟨g,ahead_2.toNat * 2,none⟩)⟩,⟨some 16,none,111,.pointer (some ⟨g,ahead_2.toNat * 2 + 0,none⟩)⟩,⟨some 17,none,112,.int .i64 e_3.Lo⟩,⟨some 18,none,113,.int .i64 (W (at_ - e_3.Lo))⟩,⟨some 19,none,114,.agg #[.int .i64 r_4.N,.int .i64 r_4.D]⟩,⟨some 20,none,21,.pointer (some ⟨(θ 160).b,0,none⟩)⟩,⟨some 21,none,22,.pointer (some ⟨(θ 168).b,0,none⟩)⟩]) (fun E θ => (bif E 23 then .box (θ 168).b [.int .i64 r_4.N,.int .i64 r_4.D] 37 else bif E 21 then .box (θ 168).b [.int .i64 0,.int .i64 0] 37 else .row none 0 [] 0 0)::(bif E 22 then .box (θ 160).b [.int .i64 r_3.N,.int .i64 r_3.D] 37 else bif E 20 then .box (θ 160).b [.int .i64 0,.int .i64 0] 37 else .row none 0 [] 0 0)::.row p_2 c_2 (l.map enc_api_Span) 50 2::.row (some ⟨g,0,none⟩) c_3 (r_2.1.map enc_api_Span) 50 2::.im mb_1 (fun j => (mp_2 j).map (Value.int .i64)) none::.box b_2 [.int .i64 0,.int .i64 0] 50::.box b_1 [.slice r_Rating_p r.Rating.length r_Rating_c,.slice r_Gaugings_p r.Gaugings.length r_Gaugings_c] 25::Lf) [(22,20),(23,21)] (fun a w => ∃ (b_8 : Nat) (b_9 : Nat),Has 130 a [(8,.pointer (some ⟨b_2,0,none⟩)),(21,.pointer (some ⟨b_8,0,none⟩)),(22,.pointer (some ⟨b_9,0,none⟩))] ∧ Ctx G (.box b_9 [.int .i64 r_4.N,.int .i64 r_4.D] 37::.box b_8 [.int .i64 r_3.N,.int .i64 r_3.D] 37::.row p_2 c_2 (l.map enc_api_Span) 50 2::.row (some ⟨g,0,none⟩) c_3 (r_2.1.map enc_api_Span) 50 2::.im mb_1 (fun j => (mp_2 j).map (Value.int .i64)) none::.box b_2 [.int .i64 0,.int .i64 0] 50::.box b_1 [.slice r_Rating_p r.Rating.length r_Rating_c,.slice r_Gaugings_p r.Gaugings.length r_Gaugings_c] 25::Lf) w) follows_mx (by kernel_rfl) (by kernel_rfl) (HasE.of hf ⟨rfl,rfl,rfl,rfl,rfl,trivial,trivial,trivial,trivial,trivial,trivial,trivial,trivial,trivial,trivial,trivial,trivial,trivial,trivial,trivial,trivial,trivial,trivial,trivial,trivial,trivial,trivial,trivial⟩) hc ⟨?_,?_,?_,?_,?_,?_,?_,?_,?_,?_,?_,?_,?_,?_,?_,?_,?_,?_,?_,?_,?_,?_,?_,?_,trivial⟩ ?_ ?_
       ·intro E θ a w hD hi hp he hc
        have hf := he.h0
        replace hf := hf.more he 1 rfl onT
        refine stP hf rfl rfl rfl (pFA fa_25_0 rfl) fun a hf => cNil ?_
        refine xThenN ?_
        intro ds u hau
        refine ⟨θ,he.put0 hi hau hf rfl 5 rfl rfl,?_⟩
        exact hc
       ·intro E θ a w hD hi hp he hc
        have e0 := hp.of (k := 0) rfl
        have hf := he.h0
        replace hf := hf.more he 5 rfl (onP e0)
        refine stE hf hc rfl rfl rfl (eLd1 sc_22 rfl (cell_box m6 rfl)) fun a w hf hc => cNil ?_
        refine xThenN ?_
        intro ds u hau
        refine ⟨θ,he.put0 hi hau hf rfl 6 rfl rfl,?_⟩
        exact hc
       ·intro E θ a w hD hi hp he hc
        have hf := he.h0
        replace hf := hf.more he 0 rfl onT
        refine stP hf rfl rfl rfl (pM rfl) fun a hf => cNil ?_
        refine xThenN ?_
        intro ds u hau
        refine ⟨θ,he.put0 hi hau hf rfl 7 rfl rfl,?_⟩
        exact hc
       ·intro E θ a w hD hi hp he hc
        have hf := he.h0
        replace hf := hf.more he 4 rfl onT
        refine stP hf rfl rfl rfl (pM rfl) fun a hf => cNil ?_
        refine xThenN ?_
        intro ds u hau
        refine ⟨θ,he.put0 hi hau hf rfl 8 rfl rfl,?_⟩
        exact hc
       ·intro E θ a w hD hi hp he hc
        have hf := he.h0
        replace hf := hf.more he 3 rfl onT
        refine stP hf rfl rfl rfl (pM rfl) fun a hf => cNil ?_
        refine xThenN ?_
        intro ds u hau
        refine ⟨θ,he.put0 hi hau hf rfl 9 rfl rfl,?_⟩
        exact hc
       ·intro E θ a w hD hi hp he hc
        have e3 := hp.of (k := 3) rfl
        have e4 := hp.of (k := 4) rfl
        have hf := he.h0
        replace hf := hf.more he 8 rfl (onP e3)
        replace hf := hf.more he 9 rfl (onP e4)
        refine stP hf rfl rfl rfl (pIA Try.underlying44 sz_50 rfl rfl qa_1) fun a hf => cNil ?_
        refine xThenN ?_
        intro ds u hau
        refine ⟨θ,he.put0 hi hau hf rfl 10 rfl rfl,?_⟩
        exact hc
       ·intro E θ a w hD hi hp he hc
        have e5 := hp.of (k := 5) rfl
        have hf := he.h0
        replace hf := hf.more he 10 rfl (onP e5)
        refine stP hf rfl rfl rfl (pFA fa_50_1 rfl) fun a hf => cNil ?_
        refine xThenN ?_
        intro ds u hau
        refine ⟨θ,he.put0 hi hau hf rfl 11 rfl rfl,?_⟩
        exact hc
       ·intro E θ a w hD hi hp he hc
        have e6 := hp.of (k := 6) rfl
        have hf := he.h0
        replace hf := hf.more he 11 rfl (onP e6)
        refine stE hf hc rfl rfl rfl (eLd1 sc_3 rfl (cell_row (sz := 2) (i := ahead_2.toNat) (j := 1) m3 qr rfl)) fun a w hf hc => cNil ?_
        refine xThenN ?_
        intro ds u hau
        refine ⟨θ,he.put0 hi hau hf rfl 12 rfl rfl,?_⟩
        exact hc
       ·intro E θ a w hD hi hp he hc
        have e2 := hp.of (k := 2) rfl
        have e7 := hp.of (k := 7) rfl
        have hf := he.h0
        replace hf := hf.more he 7 rfl (onP e2)
        replace hf := hf.more he 12 rfl (onP e7)
        refine stP hf rfl rfl rfl (pSub rfl rfl) fun a hf => cNil ?_
        refine xThenN ?_
        intro ds u hau
        refine ⟨θ,he.put0 hi hau hf rfl 13 rfl rfl,?_⟩
        exact hc
       ·intro E θ a w hD hi hp he hc
        have e1 := hp.of (k := 1) rfl
        have e8 := hp.of (k := 8) rfl
        have hf := he.h0
        replace hf := hf.more he 6 rfl (onP e1)
        replace hf := hf.more he 13 rfl (onP e8)
        refine stE hf hc rfl rfl rfl (eC (v := .agg #[.int .i64 r_3.N,.int .i64 r_3.D]) (vs := [.slice r_Rating_p r.Rating.length r_Rating_c,.int .i64 (W (at_ - e_2.Hi))]) (caps := []) en_69 rfl rfl rfl rfl (fun w hc => shift_means_ok r.Rating (W (at_ - e_2.Hi)) h_r_Rating hc hr_3)) fun a w hf hc => cNil ?_
        refine xThenN ?_
        intro ds u hau
        refine ⟨θ,he.put0 hi hau hf rfl 14 rfl rfl,?_⟩
        exact hc
       ·intro E θ a w hD hi hp he hc
        have hf := he.h0
        replace hf := hf.more he 1 rfl onT
        refine stP hf rfl rfl rfl (pFA fa_25_0 rfl) fun a hf => cNil ?_
        refine xThenN ?_
        intro ds u hau
        refine ⟨θ,he.put0 hi hau hf rfl 15 rfl rfl,?_⟩
        exact hc
       ·intro E θ a w hD hi hp he hc
        have e10 := hp.of (k := 10) rfl
        have hf := he.h0
        replace hf := hf.more he 15 rfl (onP e10)
        refine stE hf hc rfl rfl rfl (eLd1 sc_22 rfl (cell_box m6 rfl)) fun a w hf hc => cNil ?_
        refine xThenN ?_
        intro ds u hau
        refine ⟨θ,he.put0 hi hau hf rfl 16 rfl rfl,?_⟩
        exact hc
       ·intro E θ a w hD hi hp he hc
        have hf := he.h0
        replace hf := hf.more he 0 rfl onT
        refine stP hf rfl rfl rfl (pM rfl) fun a hf => cNil ?_
        refine xThenN ?_
        intro ds u hau
        refine ⟨θ,he.put0 hi hau hf rfl 17 rfl rfl,?_⟩
        exact hc
       ·intro E θ a w hD hi hp he hc
        have hf := he.h0
        replace hf := hf.more he 4 rfl onT
        refine stP hf rfl rfl rfl (pM rfl) fun a hf => cNil ?_
        refine xThenN ?_
        intro ds u hau
        refine ⟨θ,he.put0 hi hau hf rfl 18 rfl rfl,?_⟩
        exact hc
       ·intro E θ a w hD hi hp he hc
        have hf := he.h0
        replace hf := hf.more he 3 rfl onT
        refine stP hf rfl rfl rfl (pM rfl) fun a hf => cNil ?_
        refine xThenN ?_
        intro ds u hau
        refine ⟨θ,he.put0 hi hau hf rfl 19 rfl rfl,?_⟩
        exact hc
       ·intro E θ a w hD hi hp he hc
        have e13 := hp.of (k := 13) rfl
        have e14 := hp.of (k := 14) rfl
        have hf := he.h0
        replace hf := hf.more he 18 rfl (onP e13)
        replace hf := hf.more he 19 rfl (onP e14)
        refine stP hf rfl rfl rfl (pIA Try.underlying44 sz_50 rfl rfl qa_2) fun a hf => cNil ?_
        refine xThenN ?_
        intro ds u hau
        refine ⟨θ,he.put0 hi hau hf rfl 20 rfl rfl,?_⟩
        exact hc
       ·intro E θ a w hD hi hp he hc
        have e15 := hp.of (k := 15) rfl
        have hf := he.h0
        replace hf := hf.more he 20 rfl (onP e15)
        refine stP hf rfl rfl rfl (pFA fa_50_0 rfl) fun a hf => cNil ?_
        refine xThenN ?_
        intro ds u hau
        refine ⟨θ,he.put0 hi hau hf rfl 21 rfl rfl,?_⟩
        exact hc
       ·intro E θ a w hD hi hp he hc
        have e16 := hp.of (k := 16) rfl
        have hf := he.h0
        replace hf := hf.more he 21 rfl (onP e16)
        refine stE hf hc rfl rfl rfl (eLd1 sc_3 rfl (cell_row (sz := 2) (i := ahead_2.toNat) (j := 0) m3 qr_1 rfl)) fun a w hf hc => cNil ?_
        refine xThenN ?_
        intro ds u hau
        refine ⟨θ,he.put0 hi hau hf rfl 22 rfl rfl,?_⟩
        exact hc
       ·intro E θ a w hD hi hp he hc
        have e12 := hp.of (k := 12) rfl
        have e17 := hp.of (k := 17) rfl
        have hf := he.h0
        replace hf := hf.more he 17 rfl (onP e12)
        replace hf := hf.more he 22 rfl (onP e17)
        refine stP hf rfl rfl rfl (pSub rfl rfl) fun a hf => cNil ?_
        refine xThenN ?_
        intro ds u hau
        refine ⟨θ,he.put0 hi hau hf rfl 23 rfl rfl,?_⟩
        exact hc
       ·intro E θ a w hD hi hp he hc
        have e11 := hp.of (k := 11) rfl
        have e18 := hp.of (k := 18) rfl
        have hf := he.h0
        replace hf := hf.more he 16 rfl (onP e11)
        replace hf := hf.more he 23 rfl (onP e18)
        refine stE hf hc rfl rfl rfl (eC (v := .agg #[.int .i64 r_4.N,.int .i64 r_4.D]) (vs := [.slice r_Rating_p r.Rating.length r_Rating_c,.int .i64 (W (at_ - e_3.Lo))]) (caps := []) en_69 rfl rfl rfl rfl (fun w hc => shift_means_ok r.Rating (W (at_ - e_3.Lo)) h_r_Rating hc hr_4)) fun a w hf hc => cNil ?_
        refine xThenN ?_
        intro ds u hau
        refine ⟨θ,he.put0 hi hau hf rfl 24 rfl rfl,?_⟩
        exact hc
       ·intro E θ a w hD hi hp he hc
        have e22 := hD.f 0 rfl hi
        try dsimp only at hc
        rw [hi,e22] at hc
        have hf := he.h0
        refine stAl (cs := [.int .i64 0,.int .i64 0]) hf hc rfl rfl zr_37 rfl fun b_6 a w hf hc => cNil ?_
        refine xThenN ?_
        intro ds u hau
        replace hc := hc.drop k2
        replace hc := hc.pick k0
        replace hc := hc.pick k1
        refine ⟨(setT θ 160 ⟨b_6,none,0⟩),he.put hi hau hf rfl [] trivial ⟨qq,qq,qq,qq,qq,qq,qq,qq,qq,qq,qq,qq,qq,qq,qq,qq,qq,qq,qq,qq,qq,qq,qq,qq,qq,qq,qq,trivial⟩,?_⟩
        try dsimp only
        rw [updE_self E 20,updE_fls 20 e22 rfl]
        exact hc
       ·intro E θ a w hD hi hp he hc
        have e23 := hD.f 1 rfl hi
        try dsimp only at hc
        rw [hi,e23] at hc
        have hf := he.h0
        refine stAl (cs := [.int .i64 0,.int .i64 0]) hf hc rfl rfl zr_37 rfl fun b_7 a w hf hc => cNil ?_
        refine xThenN ?_
        intro ds u hau
        replace hc := hc.drop k1
        refine ⟨(setT θ 168 ⟨b_7,none,0⟩),he.put hi hau hf rfl [] trivial ⟨qq,qq,qq,qq,qq,qq,qq,qq,qq,qq,qq,qq,qq,qq,qq,qq,qq,qq,qq,qq,qq,qq,qq,qq,qq,qq,qq,trivial⟩,?_⟩
        try dsimp only
        rw [updE_self E 21,updE_fls 21 e23 rfl]
        exact hc
       ·intro E θ a w hD hi hp he hc
        have e9 := hp.of (k := 9) rfl
        have e20 := hp.of (k := 20) rfl
        try dsimp only at hc
        rw [e20,hi] at hc
        have hf := he.h0
        replace hf := hf.more he 14 rfl (onP e9)
        replace hf := hf.more he 25 rfl (onP e20)
        refine stSt (vs := [.int .i64 r_3.N,.int .i64 r_3.D]) hf hc rfl rfl rfl rfl sz_37 rfl rfl u1 fun w hc => cNil ?_
        refine xThenN ?_
        intro ds u hau
        refine ⟨θ,he.stay0 hi hau hf rfl,?_⟩
        try dsimp only
        rw [updE_tru 22 e20,updE_self E 22]
        exact hc
       ·intro E θ a w hD hi hp he hc
        have e19 := hp.of (k := 19) rfl
        have e21 := hp.of (k := 21) rfl
        try dsimp only at hc
        rw [e21,hi] at hc
        have hf := he.h0
        replace hf := hf.more he 24 rfl (onP e19)
        replace hf := hf.more he 26 rfl (onP e21)
        refine stSt (vs := [.int .i64 r_4.N,.int .i64 r_4.D]) hf hc rfl rfl rfl rfl sz_37 rfl rfl u0 fun w hc => cNil ?_
        refine xThenN ?_
        intro ds u hau
        refine ⟨θ,he.stay0 hi hau hf rfl,?_⟩
        try dsimp only
        rw [updE_tru 23 e21,updE_self E 23]
        exact hc
       ·intro E θ a w hall he hc
        have hf := he.h0
        have e20 := hall 20 rfl
        have e21 := hall 21 rfl
        have e22 := hall 22 rfl
        have e23 := hall 23 rfl
        replace hf := hf.more he 26 rfl (onP e21)
        replace hf := hf.more he 25 rfl (onP e20)
        replace hf := hf.more he 2 rfl (onT)
        try dsimp only at hc
        rw [e20,e21,e22,e23] at hc
        exact ⟨(θ 160).b,(θ 168).b,hf.keep ⟨rfl,rfl,rfl,trivial⟩,hc⟩
       rintro a w ⟨b_8,b_9,hf,hc⟩
       refine h36 _ _ ?_
       refine wp_seq_k fun K37 h37 => ?_
       obtain ⟨un,hun,hF⟩ := bnd_some hF
       obtain ⟨un_1,hun_1,hF⟩ := bnd_some hF
       refine regionE (fun θ => [⟨none,none,8,.pointer (some ⟨b_2,0,none⟩)⟩,⟨none,none,21,.pointer (some ⟨b_8,0,none⟩)⟩,⟨none,none,22,.pointer (some ⟨b_9,0,none⟩)⟩,⟨some 0,none,115,.pointer (some ⟨b_8,0,none⟩)⟩,⟨some 1,none,116,.int .i64 r_3.N⟩,⟨some 2,none,117,.pointer (some ⟨b_8,1,none⟩)⟩,⟨some 3,none,118,.int .i64 r_3.D⟩,⟨some 4,none,119,.int .i64 (W (r_3.N.tdiv r_3.D))⟩,⟨some 5,none,120,.pointer (some ⟨b_9,0,none⟩)⟩,⟨some 6,none,121,.int .i64 r_4.N⟩,⟨some 7,none,122,.pointer (some ⟨b_9,1,none⟩)⟩,⟨some 8,none,123,.int .i64 r_4.D⟩,⟨some 9,none,124,.int .i64 (W (r_4.N + r_4.D))⟩,⟨some 10,none,125,.int .i64 (W ((W (r_4.N + r_4.D)) - 1))⟩,⟨some 11,none,126,.pointer (some ⟨b_9,1,none⟩)⟩,⟨some 12,none,127,.int .i64 r_4.D⟩,⟨some 13,none,128,.int .i64 (W ((W ((W (r_4.N + r_4.D)) - 1)).tdiv r_4.D))⟩,⟨some 14,none,129,.agg #[.int .i64 (W (r_3.N.tdiv r_3.D)),.int .i64 (W ((W ((W (r_4.N + r_4.D)) - 1)).tdiv r_4.D))]⟩,⟨some 16,none,9,.int .i64 0⟩]) (fun E θ => .box b_9 [.int .i64 r_4.N,.int .i64 r_4.D] 37::.box b_8 [.int .i64 r_3.N,.int .i64 r_3.D] 37::.row p_2 c_2 (l.map enc_api_Span) 50 2::.row (some ⟨g,0,none⟩) c_3 (r_2.1.map enc_api_Span) 50 2::.im mb_1 (fun j => (mp_2 j).map (Value.int .i64)) none::(bif E 15 then .box b_2 [.int .i64 (W (r_3.N.tdiv r_3.D)),.int .i64 (W ((W ((W (r_4.N + r_4.D)) - 1)).tdiv r_4.D))] 50 else .box b_2 [.int .i64 0,.int .i64 0] 50)::.box b_1 [.slice r_Rating_p r.Rating.length r_Rating_c,.slice r_Gaugings_p r.Gaugings.length r_Gaugings_c] 25::Lf) [] (fun a w => Has 130 a [(8,.pointer (some ⟨b_2,0,none⟩)),(9,.int .i64 0)] ∧ Ctx G (.box b_9 [.int .i64 r_4.N,.int .i64 r_4.D] 37::.box b_8 [.int .i64 r_3.N,.int .i64 r_3.D] 37::.row p_2 c_2 (l.map enc_api_Span) 50 2::.row (some ⟨g,0,none⟩) c_3 (r_2.1.map enc_api_Span) 50 2::.im mb_1 (fun j => (mp_2 j).map (Value.int .i64)) none::.box b_2 [.int .i64 (W (r_3.N.tdiv r_3.D)),.int .i64 (W ((W ((W (r_4.N + r_4.D)) - 1)).tdiv r_4.D))] 50::.box b_1 [.slice r_Rating_p r.Rating.length r_Rating_c,.slice r_Gaugings_p r.Gaugings.length r_Gaugings_c] 25::Lf) w) follows_mx (by kernel_rfl) (by kernel_rfl) (HasE.of hf ⟨rfl,rfl,rfl,trivial,trivial,trivial,trivial,trivial,trivial,trivial,trivial,trivial,trivial,trivial,trivial,trivial,trivial,trivial,trivial,trivial⟩) hc ⟨?_,?_,?_,?_,?_,?_,?_,?_,?_,?_,?_,?_,?_,?_,?_,?_,?_,trivial⟩ ?_ ?_
       ·intro E θ a w hD hi hp he hc
        have hf := he.h0
        replace hf := hf.more he 1 rfl onT
        refine stP hf rfl rfl rfl (pFA fa_37_0 rfl) fun a hf => cNil ?_
        refine xThenN ?_
        intro ds u hau
        refine ⟨θ,he.put0 hi hau hf rfl 3 rfl rfl,?_⟩
        exact hc
       ·intro E θ a w hD hi hp he hc
        have e0 := hp.of (k := 0) rfl
        have hf := he.h0
        replace hf := hf.more he 3 rfl (onP e0)
        refine stE hf hc rfl rfl rfl (eLd1 sc_3 rfl (cell_box m1 rfl)) fun a w hf hc => cNil ?_
        refine xThenN ?_
        intro ds u hau
        refine ⟨θ,he.put0 hi hau hf rfl 4 rfl rfl,?_⟩
        exact hc
       ·intro E θ a w hD hi hp he hc
        have hf := he.h0
        replace hf := hf.more he 1 rfl onT
        refine stP hf rfl rfl rfl (pFA fa_37_1 rfl) fun a hf => cNil ?_
        refine xThenN ?_
        intro ds u hau
        refine ⟨θ,he.put0 hi hau hf rfl 5 rfl rfl,?_⟩
        exact hc
       ·intro E θ a w hD hi hp he hc
        have e2 := hp.of (k := 2) rfl
        have hf := he.h0
        replace hf := hf.more he 5 rfl (onP e2)
        refine stE hf hc rfl rfl rfl (eLd1 sc_3 rfl (cell_box m1 rfl)) fun a w hf hc => cNil ?_
        refine xThenN ?_
        intro ds u hau
        refine ⟨θ,he.put0 hi hau hf rfl 6 rfl rfl,?_⟩
        exact hc
       ·intro E θ a w hD hi hp he hc
        have e1 := hp.of (k := 1) rfl
        have e3 := hp.of (k := 3) rfl
        have hf := he.h0
        replace hf := hf.more he 4 rfl (onP e1)
        replace hf := hf.more he 6 rfl (onP e3)
        refine stP hf rfl rfl rfl (pQuo rfl rfl (nz_spec hun)) fun a hf => cNil ?_
        refine xThenN ?_
        intro ds u hau
        refine ⟨θ,he.put0 hi hau hf rfl 7 rfl rfl,?_⟩
        exact hc
       ·intro E θ a w hD hi hp he hc
        have hf := he.h0
        replace hf := hf.more he 2 rfl onT
        refine stP hf rfl rfl rfl (pFA fa_37_0 rfl) fun a hf => cNil ?_
        refine xThenN ?_
        intro ds u hau
        refine ⟨θ,he.put0 hi hau hf rfl 8 rfl rfl,?_⟩
        exact hc
       ·intro E θ a w hD hi hp he hc
        have e5 := hp.of (k := 5) rfl
        have hf := he.h0
        replace hf := hf.more he 8 rfl (onP e5)
        refine stE hf hc rfl rfl rfl (eLd1 sc_3 rfl (cell_box m0 rfl)) fun a w hf hc => cNil ?_
        refine xThenN ?_
        intro ds u hau
        refine ⟨θ,he.put0 hi hau hf rfl 9 rfl rfl,?_⟩
        exact hc
       ·intro E θ a w hD hi hp he hc
        have hf := he.h0
        replace hf := hf.more he 2 rfl onT
        refine stP hf rfl rfl rfl (pFA fa_37_1 rfl) fun a hf => cNil ?_
        refine xThenN ?_
        intro ds u hau
        refine ⟨θ,he.put0 hi hau hf rfl 10 rfl rfl,?_⟩
        exact hc
       ·intro E θ a w hD hi hp he hc
        have e7 := hp.of (k := 7) rfl
        have hf := he.h0
        replace hf := hf.more he 10 rfl (onP e7)
        refine stE hf hc rfl rfl rfl (eLd1 sc_3 rfl (cell_box m0 rfl)) fun a w hf hc => cNil ?_
        refine xThenN ?_
        intro ds u hau
        refine ⟨θ,he.put0 hi hau hf rfl 11 rfl rfl,?_⟩
        exact hc
       ·intro E θ a w hD hi hp he hc
        have e6 := hp.of (k := 6) rfl
        have e8 := hp.of (k := 8) rfl
        have hf := he.h0
        replace hf := hf.more he 9 rfl (onP e6)
        replace hf := hf.more he 11 rfl (onP e8)
        refine stP hf rfl rfl rfl (pAdd rfl rfl) fun a hf => cNil ?_
        refine xThenN ?_
        intro ds u hau
        refine ⟨θ,he.put0 hi hau hf rfl 12 rfl rfl,?_⟩
        exact hc
       ·intro E θ a w hD hi hp he hc
        have e9 := hp.of (k := 9) rfl
        have hf := he.h0
        replace hf := hf.more he 12 rfl (onP e9)
        refine stP hf rfl rfl rfl (pSub rfl rfl) fun a hf => cNil ?_
        refine xThenN ?_
        intro ds u hau
        refine ⟨θ,he.put0 hi hau hf rfl 13 rfl rfl,?_⟩
        exact hc
       ·intro E θ a w hD hi hp he hc
        have hf := he.h0
        replace hf := hf.more he 2 rfl onT
        refine stP hf rfl rfl rfl (pFA fa_37_1 rfl) fun a hf => cNil ?_
        refine xThenN ?_
        intro ds u hau
        refine ⟨θ,he.put0 hi hau hf rfl 14 rfl rfl,?_⟩
        exact hc
       ·intro E θ a w hD hi hp he hc
        have e11 := hp.of (k := 11) rfl
        have hf := he.h0
        replace hf := hf.more he 14 rfl (onP e11)
        refine stE hf hc rfl rfl rfl (eLd1 sc_3 rfl (cell_box m0 rfl)) fun a w hf hc => cNil ?_
        refine xThenN ?_
        intro ds u hau
        refine ⟨θ,he.put0 hi hau hf rfl 15 rfl rfl,?_⟩
        exact hc
       ·intro E θ a w hD hi hp he hc
        have e10 := hp.of (k := 10) rfl
        have e12 := hp.of (k := 12) rfl
        have hf := he.h0
        replace hf := hf.more he 13 rfl (onP e10)
        replace hf := hf.more he 15 rfl (onP e12)
        refine stP hf rfl rfl rfl (pQuo rfl rfl (nz_spec hun_1)) fun a hf => cNil ?_
        refine xThenN ?_
        intro ds u hau
        refine ⟨θ,he.put0 hi hau hf rfl 16 rfl rfl,?_⟩
        exact hc
       ·intro E θ a w hD hi hp he hc
        have e4 := hp.of (k := 4) rfl
        have e13 := hp.of (k := 13) rfl
        have hf := he.h0
        replace hf := hf.more he 7 rfl (onP e4)
        replace hf := hf.more he 16 rfl (onP e13)
        refine stP hf rfl rfl rfl (pBuildS (cells := [.int .i64 (W (r_3.N.tdiv r_3.D)),.int .i64 (W ((W ((W (r_4.N + r_4.D)) - 1)).tdiv r_4.D))]) bt_50 rfl rfl) fun a hf => cNil ?_
        refine xThenN ?_
        intro ds u hau
        refine ⟨θ,he.put0 hi hau hf rfl 17 rfl rfl,?_⟩
        exact hc
       ·intro E θ a w hD hi hp he hc
        have e14 := hp.of (k := 14) rfl
        try dsimp only at hc
        rw [hi] at hc
        have hf := he.h0
        replace hf := hf.more he 0 rfl onT
        replace hf := hf.more he 17 rfl (onP e14)
        refine stSt (vs := [.int .i64 (W (r_3.N.tdiv r_3.D)),.int .i64 (W ((W ((W (r_4.N + r_4.D)) - 1)).tdiv r_4.D))]) hf hc rfl rfl rfl rfl sz_50 rfl rfl u5 fun w hc => cNil ?_
        refine xThenN ?_
        intro ds u hau
        refine ⟨θ,he.stay0 hi hau hf rfl,?_⟩
        try dsimp only
        rw [updE_self E 15]
        exact hc
       ·intro E θ a w hD hi hp he hc
        have hf := he.h0
        refine stP hf rfl rfl rfl (pA rfl) fun a hf => cNil ?_
        refine xThenN ?_
        intro ds u hau
        refine ⟨θ,he.put0 hi hau hf rfl 18 rfl rfl,?_⟩
        exact hc
       ·intro E θ a w hall he hc
        have hf := he.h0
        have e15 := hall 15 rfl
        have e16 := hall 16 rfl
        replace hf := hf.more he 18 rfl (onP e16)
        replace hf := hf.more he 0 rfl (onT)
        try dsimp only at hc
        rw [e15] at hc
        exact ⟨hf.keep ⟨rfl,rfl,trivial⟩,hc⟩
       rintro a w ⟨hf,hc⟩
       refine h37 _ _ ?_
       refine wp_ret ?_
       obtain rfl := Option.some.inj hF
       replace hc := hc.drop k6
       replace hc := hc.drop k4
       replace hc := hc.drop k3
       replace hc := hc.drop k2
       replace hc := hc.drop k1
       replace hc := hc.drop k0
       exact fnOut2 (by simp) rfl Try.results29 hf hc (rv_cellN (vs := [.int .i64 (W (r_3.N.tdiv r_3.D)),.int .i64 (W ((W ((W (r_4.N + r_4.D)) - 1)).tdiv r_4.D))]) ag_50 rfl rfl (cells_box (n := 2) m0 rfl)) (show look _ 9 = _ from rfl) ⟨rfl,(hc.drop k0)⟩
     refine wp_seq_k fun K38 h38 => cReg ?_
     refine stP hf rfl rfl rfl (pM rfl) fun a hf => stP hf rfl rfl rfl (pM rfl) fun a hf => stE hf hc rfl rfl rfl (eLkOk (enc := (Value.int .i64)) (z0 := 0) (m := mp_2) m0 Try.underlying146 Try.underlying3 zr_3 rfl rfl) fun a w hf hc => stP hf rfl rfl rfl (pM rfl) fun a hf => stP hf rfl rfl rfl (pX rfl rfl) fun a hf => stP hf rfl rfl rfl (pX rfl rfl) fun a hf => stP hf rfl rfl rfl (pA rfl) fun a hf => stP hf rfl rfl rfl (pA rfl) fun a hf => cNil ?_
     refine h38 _ _ ?_
     refine wp_seq_k fun K39 h39 => cReg ?_
     refine stP hf rfl rfl rfl (pM rfl) fun a hf => stP hf rfl rfl rfl (pNot rfl) fun a hf => cNil ?_
     refine h39 _ _ ?_
     refine cCond (b := (!((mp_2 day).isSome))) hf rfl (fun hb => ?_) (fun hb => ?_)
     ·replace hF := condT hb hF
      clear hb
      refine cReg ?_
      refine stP hf rfl rfl rfl (pM rfl) fun a hf => ?_
      obtain ⟨r_5,hr_5,hF⟩ := bnd_some hF
      obtain ⟨G1,hle1,hrd1,hc,hth1⟩ := lend hc k1
      refine stC (vs := [.slice p_1 r_1.1.length c_1]) (caps := []) hf rfl rfl rfl en_79 rfl rfl rfl rfl (slices_Clone_Lapi_Span_api_Span_ok r_1.1 hrd1 hc hr_5) ?_
      rintro _ w ⟨p_4,c_4,rfl,hc⟩
      refine ⟨_,rfl,fun a hf => ?_⟩
      replace hc := hth1 _ _ hc
      refine stP hf rfl rfl rfl (pM rfl) fun a hf => stP hf rfl rfl rfl (pBuildS (cells := [.int .i64 (-300),.int .i64 300]) bt_50 rfl rfl) fun a hf => stBS (rows := ([(⟨(-300),300⟩ : api_Span)] : List api_Span).map enc_api_Span) (vs := [(0,.agg #[.int .i64 (-300),.int .i64 300])]) hf hc rfl rfl sl_44 rfl ⟨rfl,rfl,rfl,trivial⟩ rfl rfl fun b_10 a w hf hc => ?_
      obtain ⟨r_6,hr_6,hF⟩ := bnd_some hF
      refine stC (vs := [.slice p_4 r_5.length c_4,.int .i64 ahead_2,.slice (some ⟨b_10,0,none⟩) 1 1]) (caps := []) hf rfl rfl rfl en_78 rfl rfl rfl rfl (slices_Insert_Lapi_Span_api_Span_ok r_5 ahead_2 ([(⟨(-300),300⟩ : api_Span)] : List api_Span) ((hc.pick k0).pick k2) hr_6) ?_
      rintro _ w ⟨p_5,c_5,rfl,hc⟩
      refine ⟨_,rfl,fun a hf => ?_⟩
      refine stP hf rfl rfl rfl (pA rfl) fun a hf => cNil ?_
      replace hc := hc.drop k4
      replace hc := hc.drop k2
      replace hc := hc.drop k1
      exact hj31 r_6 p_5 c_5 _ _  (hf.keep ⟨rfl,rfl,rfl,rfl,rfl,rfl,trivial⟩) hc hF
     ·replace hF := condF hb hF
      clear hb
      refine wp_skip ?_
      replace hc := hc.drop k2
      replace hc := hc.pick k0
      replace hc := hc.pick k1
      exact hj31 r_1.1 p_1 c_1 _ _  (hf.keep ⟨rfl,rfl,rfl,rfl,rfl,rfl,trivial⟩) hc hF
    have ho29 : ∀ r,x29 = .out r → r = res := by
     rintro r rfl
     exact Option.some.inj hF
    refine cLoop N (loopW (S := S29) (x := x29) ?_ N (0,0,(fun _ => none : Int → Option Int)) _ _ ⟨hf.keep ⟨rfl,rfl,rfl,rfl,rfl,rfl,rfl,rfl,rfl,rfl,rfl,trivial⟩,hc⟩ hx29)
    clear hF hf hc
    rintro ⟨ahead_2,x_1,mp_2⟩ st29 a w KB29 ⟨hf,hc⟩ hF hfin29 hK29
    unfold shift_Between_b29 at hF
    refine wp_seq_k fun K40 h40 => cReg ?_
    refine stP hf rfl rfl rfl (pLt rfl rfl) fun a hf => cNil ?_
    refine h40 _ _ ?_
    refine wp_seq_k fun K41 h41 => cCond (b := (decide (x_1 < ((r.Gaugings.length : Nat) : Int)))) hf rfl (fun hb => ?_) (fun hb => ?_)
    ·replace hF := condT hb hF
     clear hb
     refine wp_skip ?_
     refine h41 _ _ ?_
     refine wp_seq_k fun K42 h42 => ?_
     have hj42 : ∀ (ahead_3 : Int) (mp_3 : Int → Option Int) a w,Has 130 a [(1,.int .i64 most),(2,.int .i64 day),(3,.int .i64 at_),(4,.pointer (some ⟨b_1,0,none⟩)),(8,.pointer (some ⟨b_2,0,none⟩)),(10,.pointer (some ⟨b_5,0,none⟩)),(12,.map (some mb_1)),(13,.int .i64 ahead_3),(50,.slice r_Gaugings_p r.Gaugings.length r_Gaugings_c),(51,.int .i64 ((r.Gaugings.length : Nat) : Int)),(52,.int .i64 x_1)] → Ctx G (.im mb_1 (fun j => (mp_3 j).map (Value.int .i64)) none::.row p_1 c_1 (r_1.1.map enc_api_Span) 50 2::.box b_5 [.slice r_Rating_p r.Rating.length r_Rating_c,.slice r_Gaugings_p r.Gaugings.length r_Gaugings_c,.slice p_1 r_1.1.length c_1] 140::.box b_2 [.int .i64 0,.int .i64 0] 50::.box b_1 [.slice r_Rating_p r.Rating.length r_Rating_c,.slice r_Gaugings_p r.Gaugings.length r_Gaugings_c] 25::Lf) w → shift_Between_j42 N x_1 ahead_3 mp_3 = some st29 → K42 a w := by
      repeat (clear hF)
      repeat (clear hc)
      repeat (clear hf)
      intro ahead_3 mp_3 a w hf hc hF
      unfold shift_Between_j42 at hF
      refine h42 _ _ ?_
      refine cReg ?_
      refine stP hf rfl rfl rfl (pAdd rfl rfl) fun a hf => stP hf rfl rfl rfl (pM rfl) fun a hf => cNil ?_
      exact hK29 (ahead_3,W (x_1 + 1),mp_3) _ _ (Option.some.inj hF).symm ⟨hf.keep ⟨rfl,rfl,rfl,rfl,rfl,rfl,rfl,rfl,rfl,rfl,rfl,trivial⟩,hc⟩
     refine wp_block ?_
     refine wp_seq_k fun K43 h43 => cReg ?_
     refine stP hf rfl rfl rfl (pM rfl) fun a hf => ?_
     obtain ⟨e_4,he_4,hF⟩ := bnd_some hF
     obtain ⟨b_11,o_1,qa_3,qp_1⟩ := h_r_Gaugings.atm he_4
     refine stP hf rfl rfl rfl (pIA Try.underlying23 sz_71 rfl rfl qa_3) fun a hf => stE hf hc rfl rfl rfl (eLdN (vs := [.int .i64 e_4.Day,.int .i64 e_4.Stage,.int .i64 e_4.Flow.Lo,.int .i64 e_4.Flow.Hi]) ag_71 rfl rfl (cells_pc qp_1 (n := 4) (o' := 0) rfl)) fun a w hf hc => stAl (cs := [.int .i64 0,.int .i64 0,.int .i64 0,.int .i64 0]) hf hc rfl rfl zr_71 rfl fun b_12 a w hf hc => stP hf rfl rfl rfl (pA rfl) fun a hf => stSt (vs := [.int .i64 e_4.Day,.int .i64 e_4.Stage,.int .i64 e_4.Flow.Lo,.int .i64 e_4.Flow.Hi]) hf hc rfl rfl rfl rfl sz_71 rfl rfl u0 fun w hc => cNil ?_
     refine h43 _ _ ?_
     refine wp_seq_k fun K44 h44 => cReg ?_
     refine stP hf rfl rfl rfl (pM rfl) fun a hf => stP hf rfl rfl rfl (pFA fa_71_0 rfl) fun a hf => stE hf hc rfl rfl rfl (eLd1 sc_3 rfl (cell_box m0 rfl)) fun a w hf hc => stP hf rfl rfl rfl (pM rfl) fun a hf => stMU (enc := (Value.int .i64)) (m := mp_2) (v := x_1) hf hc rfl Try.underlying146 Try.underlying3 rfl rfl rfl u1 fun w hc => cNil ?_
     refine h44 _ _ ?_
     refine wp_seq_k fun K45 h45 => cReg ?_
     refine stP hf rfl rfl rfl (pFA fa_71_0 rfl) fun a hf => stE hf hc rfl rfl rfl (eLd1 sc_3 rfl (cell_box m0 rfl)) fun a w hf hc => stP hf rfl rfl rfl (pM rfl) fun a hf => stP hf rfl rfl rfl (pLt rfl rfl) fun a hf => cNil ?_
     refine h45 _ _ ?_
     refine cCond (b := (decide (e_4.Day < day))) hf rfl (fun hb => ?_) (fun hb => ?_)
     ·replace hF := condT hb hF
      clear hb
      refine cReg ?_
      refine stP hf rfl rfl rfl (pM rfl) fun a hf => stP hf rfl rfl rfl (pAdd rfl rfl) fun a hf => stP hf rfl rfl rfl (pA rfl) fun a hf => cNil ?_
      replace hc := hc.drop k0
      exact hj42 (W (x_1 + 1)) (setM mp_2 e_4.Day x_1) _ _  (hf.keep ⟨rfl,rfl,rfl,rfl,rfl,rfl,rfl,rfl,rfl,rfl,rfl,trivial⟩) hc hF
     ·replace hF := condF hb hF
      clear hb
      refine wp_skip ?_
      replace hc := hc.drop k0
      exact hj42 ahead_2 (setM mp_2 e_4.Day x_1) _ _  (hf.keep ⟨rfl,rfl,rfl,rfl,rfl,rfl,rfl,rfl,rfl,rfl,rfl,trivial⟩) hc hF
    ·replace hF := condF hb hF
     clear hb
     refine wp_exit ?_
     refine xThen ?_
     refine xThen ?_
     have he := Option.some.inj hF
     rw [← he] at hfin29
     refine cHit ?_
     exact hr29 _ _ _ hfin29 ⟨hf.keep ⟨rfl,rfl,rfl,rfl,rfl,rfl,rfl,rfl,rfl,rfl,rfl,trivial⟩,hc⟩

def kit_Same_api_Span_b7 (N : Nat) (a_ : List api_Span) (b_ : List api_Span) (i_1 : Int) : Option (Step (Int) (Bool)) :=
 cond (decide (i_1 < ((a_.length : Nat) : Int)))
 (Option.bind (getI a_ i_1) fun e_1 =>
 Option.bind (getI b_ i_1) fun e_2 =>
 cond (!(e_1.Lo == e_2.Lo && e_1.Hi == e_2.Hi))
 (some (.ret false))
 (some (.cont (W (i_1 + 1)))))
 (some (.brk i_1))
def kit_Same_api_Span (N : Nat) (a_ : List api_Span) (b_ : List api_Span) : Option (Bool) :=
 cond (((a_.length : Nat) : Int) != ((b_.length : Nat) : Int))
 (some false)
 (Option.bind (loopO (fun s7 => kit_Same_api_Span_b7 N a_ b_ s7) N 0) fun x7 =>
 exK x7 (fun s7 => some true) some)
theorem kit_Same_api_Span_ok {N : Nat} {G : Pers} {Lf : List Ent} {w : World} (a_ : List api_Span) (b_ : List api_Span) {a__p : Option Addr} {a__c : Nat} {b__p : Option Addr} {b__c : Nat} (h_a_ : Rd G 2 a__p a__c (a_.map enc_api_Span)) (h_b_ : Rd G 2 b__p b__c (b_.map enc_api_Span)) (hc : Ctx G (Lf) w) {res : Bool} (hF : kit_Same_api_Span N a_ b_ = some res) : Calls Try.prog 24 #[.slice a__p a_.length a__c,.slice b__p b_.length b__c] w (fun e w => e = .returned (.bool res) ∧ Ctx G (Lf) w) := by
 unfold kit_Same_api_Span at hF
 refine fnIn (args := [.slice a__p a_.length a__c,.slice b__p b_.length b__c]) Try.func24 rfl Try.ntmps24 rfl fun a hf => wp_seq_k fun K1 h1 => cReg ?_
 refine stP hf rfl rfl rfl (pA rfl) fun a hf => cNil ?_
 refine h1 _ _ ?_
 refine wp_seq_k fun K2 h2 => wp_seq_k fun K3 h3 => cReg ?_
 refine stP hf rfl rfl rfl (pM rfl) fun a hf => stP hf rfl rfl rfl (pLenS Try.underlying44 rfl) fun a hf => stP hf rfl rfl rfl (pM rfl) fun a hf => stP hf rfl rfl rfl (pLenS Try.underlying44 rfl) fun a hf => stP hf rfl rfl rfl (pNe rfl rfl) fun a hf => cNil ?_
 refine h3 _ _ ?_
 refine cCond (b := (((a_.length : Nat) : Int) != ((b_.length : Nat) : Int))) hf rfl (fun hb => ?_) (fun hb => ?_)
 ·replace hF := condT hb hF
  clear hb
  refine wp_seq_k fun K4 h4 => cReg ?_
  refine stP hf rfl rfl rfl (pA rfl) fun a hf => cNil ?_
  refine h4 _ _ ?_
  refine wp_ret ?_
  refine xThenR ?_
  obtain rfl := Option.some.inj hF
  exact fnOut1 (by simp) rfl Try.results24 hf hc (show look _ 4 = _ from rfl) ⟨rfl,hc⟩
 ·replace hF := condF hb hF
  clear hb
  refine wp_skip ?_
  refine h2 _ _ ?_
  refine wp_seq_k fun K5 h5 => wp_seq_k fun K6 h6 => cReg ?_
  refine stP hf rfl rfl rfl (pA rfl) fun a hf => cNil ?_
  refine h6 _ _ ?_
  refine wp_block ?_
  obtain ⟨x7,hx7,hF⟩ := bnd_some hF
  let S7 : Int → Act → World → Prop := (fun (zz : Int) a w => Has 26 a [(0,.slice a__p a_.length a__c),(1,.slice b__p b_.length b__c),(5,.int .i64 zz)] ∧ Ctx G (Lf) w)
  have hr7 : ∀ (zz : Int) a w,x7 = .go zz → S7 zz a w → K5 a w := by
   rintro i_1 a w rfl ⟨hf,hc⟩
   replace hF := exK_go hF
   refine h5 _ _ ?_
   refine wp_seq_k fun K8 h8 => cReg ?_
   refine stP hf rfl rfl rfl (pA rfl) fun a hf => cNil ?_
   refine h8 _ _ ?_
   refine wp_ret ?_
   obtain rfl := Option.some.inj hF
   exact fnOut1 (by simp) rfl Try.results24 hf hc (show look _ 4 = _ from rfl) ⟨rfl,hc⟩
  have ho7 : ∀ r,x7 = .out r → r = res := by
   rintro r rfl
   exact Option.some.inj hF
  refine cLoop N (loopW (S := S7) (x := x7) ?_ N 0 _ _ ⟨hf.keep ⟨rfl,rfl,rfl,trivial⟩,hc⟩ hx7)
  clear hF hf hc
  rintro i_1 st7 a w KB7 ⟨hf,hc⟩ hF hfin7 hK7
  unfold kit_Same_api_Span_b7 at hF
  refine wp_seq_k fun K9 h9 => wp_seq_k fun K10 h10 => cReg ?_
  refine stP hf rfl rfl rfl (pM rfl) fun a hf => stP hf rfl rfl rfl (pM rfl) fun a hf => stP hf rfl rfl rfl (pLenS Try.underlying44 rfl) fun a hf => stP hf rfl rfl rfl (pLt rfl rfl) fun a hf => cNil ?_
  refine h10 _ _ ?_
  refine cCond (b := (decide (i_1 < ((a_.length : Nat) : Int)))) hf rfl (fun hb => ?_) (fun hb => ?_)
  ·replace hF := condT hb hF
   clear hb
   refine wp_skip ?_
   refine h9 _ _ ?_
   refine wp_seq_k fun K11 h11 => wp_block ?_
   refine wp_seq_k fun K12 h12 => ?_
   obtain ⟨e_1,he_1,hF⟩ := bnd_some hF
   obtain ⟨b_1,o,qa,qp⟩ := h_a_.atm he_1
   obtain ⟨e_2,he_2,hF⟩ := bnd_some hF
   obtain ⟨b_2,o_1,qa_1,qp_1⟩ := h_b_.atm he_2
   refine cQ hc follows_mx (by kernel_rfl) ?_
   refine qE hf rfl rfl rfl (Pu.ev (pM rfl)) fun a hf => qE hf rfl rfl rfl (Pu.ev (pM rfl)) fun a hf => qE hf rfl rfl rfl (Pu.ev (pIA Try.underlying44 sz_50 rfl rfl qa)) fun a hf => qE hf rfl rfl rfl (eLdN (vs := [.int .i64 e_1.Lo,.int .i64 e_1.Hi]) ag_50 rfl rfl (cells_pc qp (n := 2) (o' := 0) rfl)) fun a hf => qE hf rfl rfl rfl (Pu.ev (pM rfl)) fun a hf => qE hf rfl rfl rfl (Pu.ev (pM rfl)) fun a hf => qE hf rfl rfl rfl (Pu.ev (pIA Try.underlying44 sz_50 rfl rfl qa_1)) fun a hf => qE hf rfl rfl rfl (eLdN (vs := [.int .i64 e_2.Lo,.int .i64 e_2.Hi]) ag_50 rfl rfl (cells_pc qp_1 (n := 2) (o' := 0) rfl)) fun a hf => qE hf rfl rfl rfl (Pu.ev (pNeA ge_50 rfl rfl (eqs_50 _ _ _ _))) fun a hf => ?_
   intro w hc
   refine h12 _ _ ?_
   refine cCond (b := (!(e_1.Lo == e_2.Lo && e_1.Hi == e_2.Hi))) hf rfl (fun hb => ?_) (fun hb => ?_)
   ·replace hF := condT hb hF
    clear hb
    refine wp_seq_k fun K13 h13 => cReg ?_
    refine stP hf rfl rfl rfl (pA rfl) fun a hf => cNil ?_
    refine h13 _ _ ?_
    refine wp_ret ?_
    refine xBlkR ?_
    refine xThenR ?_
    refine xThenR ?_
    have he := Option.some.inj hF
    rw [← he] at hfin7
    replace hF := ho7 _ hfin7
    refine xBlkR ?_
    refine xThenR ?_
    obtain rfl := hF
    exact fnOut1 (by simp) rfl Try.results24 hf hc (show look _ 4 = _ from rfl) ⟨rfl,hc⟩
   ·replace hF := condF hb hF
    clear hb
    refine wp_skip ?_
    refine h11 _ _ ?_
    refine cReg ?_
    refine stP hf rfl rfl rfl (pM rfl) fun a hf => stP hf rfl rfl rfl (pAdd rfl rfl) fun a hf => stP hf rfl rfl rfl (pA rfl) fun a hf => cNil ?_
    exact hK7 (W (i_1 + 1)) _ _ (Option.some.inj hF).symm ⟨hf.keep ⟨rfl,rfl,rfl,trivial⟩,hc⟩
  ·replace hF := condF hb hF
   clear hb
   refine wp_exit ?_
   refine xThen ?_
   refine xThen ?_
   have he := Option.some.inj hF
   rw [← he] at hfin7
   refine cHit ?_
   exact hr7 _ _ _ hfin7 ⟨hf.keep ⟨rfl,rfl,rfl,trivial⟩,hc⟩

def kit_Same_int_b7 (N : Nat) (a_ : List Int) (b_ : List Int) (i_1 : Int) : Option (Step (Int) (Bool)) :=
 cond (decide (i_1 < ((a_.length : Nat) : Int)))
 (Option.bind (getI a_ i_1) fun e_1 =>
 Option.bind (getI b_ i_1) fun e_2 =>
 cond (e_1 != e_2)
 (some (.ret false))
 (some (.cont (W (i_1 + 1)))))
 (some (.brk i_1))
def kit_Same_int (N : Nat) (a_ : List Int) (b_ : List Int) : Option (Bool) :=
 cond (((a_.length : Nat) : Int) != ((b_.length : Nat) : Int))
 (some false)
 (Option.bind (loopO (fun s7 => kit_Same_int_b7 N a_ b_ s7) N 0) fun x7 =>
 exK x7 (fun s7 => some true) some)
theorem kit_Same_int_ok {N : Nat} {G : Pers} {Lf : List Ent} {w : World} (a_ : List Int) (b_ : List Int) {a__p : Option Addr} {a__c : Nat} {b__p : Option Addr} {b__c : Nat} (h_a_ : Rd G 1 a__p a__c (a_.map encI_i64)) (h_b_ : Rd G 1 b__p b__c (b_.map encI_i64)) (hc : Ctx G (Lf) w) {res : Bool} (hF : kit_Same_int N a_ b_ = some res) : Calls Try.prog 56 #[.slice a__p a_.length a__c,.slice b__p b_.length b__c] w (fun e w => e = .returned (.bool res) ∧ Ctx G (Lf) w) := by
 unfold kit_Same_int at hF
 refine fnIn (args := [.slice a__p a_.length a__c,.slice b__p b_.length b__c]) Try.func56 rfl Try.ntmps56 rfl fun a hf => wp_seq_k fun K1 h1 => cReg ?_
 refine stP hf rfl rfl rfl (pA rfl) fun a hf => cNil ?_
 refine h1 _ _ ?_
 refine wp_seq_k fun K2 h2 => wp_seq_k fun K3 h3 => cReg ?_
 refine stP hf rfl rfl rfl (pM rfl) fun a hf => stP hf rfl rfl rfl (pLenS Try.underlying61 rfl) fun a hf => stP hf rfl rfl rfl (pM rfl) fun a hf => stP hf rfl rfl rfl (pLenS Try.underlying61 rfl) fun a hf => stP hf rfl rfl rfl (pNe rfl rfl) fun a hf => cNil ?_
 refine h3 _ _ ?_
 refine cCond (b := (((a_.length : Nat) : Int) != ((b_.length : Nat) : Int))) hf rfl (fun hb => ?_) (fun hb => ?_)
 ·replace hF := condT hb hF
  clear hb
  refine wp_seq_k fun K4 h4 => cReg ?_
  refine stP hf rfl rfl rfl (pA rfl) fun a hf => cNil ?_
  refine h4 _ _ ?_
  refine wp_ret ?_
  refine xThenR ?_
  obtain rfl := Option.some.inj hF
  exact fnOut1 (by simp) rfl Try.results56 hf hc (show look _ 4 = _ from rfl) ⟨rfl,hc⟩
 ·replace hF := condF hb hF
  clear hb
  refine wp_skip ?_
  refine h2 _ _ ?_
  refine wp_seq_k fun K5 h5 => wp_seq_k fun K6 h6 => cReg ?_
  refine stP hf rfl rfl rfl (pA rfl) fun a hf => cNil ?_
  refine h6 _ _ ?_
  refine wp_block ?_
  obtain ⟨x7,hx7,hF⟩ := bnd_some hF
  let S7 : Int → Act → World → Prop := (fun (zz : Int) a w => Has 26 a [(0,.slice a__p a_.length a__c),(1,.slice b__p b_.length b__c),(5,.int .i64 zz)] ∧ Ctx G (Lf) w)
  have hr7 : ∀ (zz : Int) a w,x7 = .go zz → S7 zz a w → K5 a w := by
   rintro i_1 a w rfl ⟨hf,hc⟩
   replace hF := exK_go hF
   refine h5 _ _ ?_
   refine wp_seq_k fun K8 h8 => cReg ?_
   refine stP hf rfl rfl rfl (pA rfl) fun a hf => cNil ?_
   refine h8 _ _ ?_
   refine wp_ret ?_
   obtain rfl := Option.some.inj hF
   exact fnOut1 (by simp) rfl Try.results56 hf hc (show look _ 4 = _ from rfl) ⟨rfl,hc⟩
  have ho7 : ∀ r,x7 = .out r → r = res := by
   rintro r rfl
   exact Option.some.inj hF
  refine cLoop N (loopW (S := S7) (x := x7) ?_ N 0 _ _ ⟨hf.keep ⟨rfl,rfl,rfl,trivial⟩,hc⟩ hx7)
  clear hF hf hc
  rintro i_1 st7 a w KB7 ⟨hf,hc⟩ hF hfin7 hK7
  unfold kit_Same_int_b7 at hF
  refine wp_seq_k fun K9 h9 => wp_seq_k fun K10 h10 => cReg ?_
  refine stP hf rfl rfl rfl (pM rfl) fun a hf => stP hf rfl rfl rfl (pM rfl) fun a hf => stP hf rfl rfl rfl (pLenS Try.underlying61 rfl) fun a hf => stP hf rfl rfl rfl (pLt rfl rfl) fun a hf => cNil ?_
  refine h10 _ _ ?_
  refine cCond (b := (decide (i_1 < ((a_.length : Nat) : Int)))) hf rfl (fun hb => ?_) (fun hb => ?_)
  ·replace hF := condT hb hF
   clear hb
   refine wp_skip ?_
   refine h9 _ _ ?_
   refine wp_seq_k fun K11 h11 => wp_block ?_
   refine wp_seq_k fun K12 h12 => ?_
   obtain ⟨e_1,he_1,hF⟩ := bnd_some hF
   obtain ⟨b_1,o,qa,qp⟩ := h_a_.atm he_1
   obtain ⟨e_2,he_2,hF⟩ := bnd_some hF
   obtain ⟨b_2,o_1,qa_1,qp_1⟩ := h_b_.atm he_2
   refine cQ hc follows_mx (by kernel_rfl) ?_
   refine qE hf rfl rfl rfl (Pu.ev (pM rfl)) fun a hf => qE hf rfl rfl rfl (Pu.ev (pM rfl)) fun a hf => qE hf rfl rfl rfl (Pu.ev (pIA Try.underlying61 sz_3 rfl rfl qa)) fun a hf => qE hf rfl rfl rfl (eLd1 sc_3 rfl (cell_pc (j := 0) qp rfl)) fun a hf => qE hf rfl rfl rfl (Pu.ev (pM rfl)) fun a hf => qE hf rfl rfl rfl (Pu.ev (pM rfl)) fun a hf => qE hf rfl rfl rfl (Pu.ev (pIA Try.underlying61 sz_3 rfl rfl qa_1)) fun a hf => qE hf rfl rfl rfl (eLd1 sc_3 rfl (cell_pc (j := 0) qp_1 rfl)) fun a hf => qE hf rfl rfl rfl (Pu.ev (pNe rfl rfl)) fun a hf => ?_
   intro w hc
   refine h12 _ _ ?_
   refine cCond (b := (e_1 != e_2)) hf rfl (fun hb => ?_) (fun hb => ?_)
   ·replace hF := condT hb hF
    clear hb
    refine wp_seq_k fun K13 h13 => cReg ?_
    refine stP hf rfl rfl rfl (pA rfl) fun a hf => cNil ?_
    refine h13 _ _ ?_
    refine wp_ret ?_
    refine xBlkR ?_
    refine xThenR ?_
    refine xThenR ?_
    have he := Option.some.inj hF
    rw [← he] at hfin7
    replace hF := ho7 _ hfin7
    refine xBlkR ?_
    refine xThenR ?_
    obtain rfl := hF
    exact fnOut1 (by simp) rfl Try.results56 hf hc (show look _ 4 = _ from rfl) ⟨rfl,hc⟩
   ·replace hF := condF hb hF
    clear hb
    refine wp_skip ?_
    refine h11 _ _ ?_
    refine cReg ?_
    refine stP hf rfl rfl rfl (pM rfl) fun a hf => stP hf rfl rfl rfl (pAdd rfl rfl) fun a hf => stP hf rfl rfl rfl (pA rfl) fun a hf => cNil ?_
    exact hK7 (W (i_1 + 1)) _ _ (Option.some.inj hF).symm ⟨hf.keep ⟨rfl,rfl,rfl,trivial⟩,hc⟩
  ·replace hF := condF hb hF
   clear hb
   refine wp_exit ?_
   refine xThen ?_
   refine xThen ?_
   have he := Option.some.inj hF
   rw [← he] at hfin7
   refine cHit ?_
   exact hr7 _ _ _ hfin7 ⟨hf.keep ⟨rfl,rfl,rfl,trivial⟩,hc⟩

end Go.Nilo
