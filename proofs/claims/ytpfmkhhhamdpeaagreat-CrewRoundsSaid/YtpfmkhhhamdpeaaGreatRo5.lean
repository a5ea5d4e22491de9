/-
 What functions of the Go text compute, as plain functions, and that they do, part 5 of 5. Conditions: what each theorem names.
-/
import Derived.Test.YtpfmkhhhamdpeaaGreatRo4
import Derived.Test.YtpfmkhhhamdpeaaGreatProg
set_option linter.unusedVariables false
set_option linter.unusedSimpArgs false
set_option maxRecDepth 100000
set_option maxHeartbeats 4000000
namespace Go.Nilo
open Go.Proofs


def ref11_Hours_j21 (N : Nat) (out : List api_Span) (i_1 : Int) (e_1 : ref11_Visit) (a_2 : Int) (b_4 : Int) : Option (Step (Int × Int × (List api_Span) × Int) ((List api_Span) × Int)) :=
 Option.bind (room ((out ++ [(⟨a_2,b_4⟩ : api_Span)])).length) fun un =>
 some (.cont (W (a_2 + e_1.Work.Lo),W (b_4 + e_1.Work.Hi),(out ++ [(⟨a_2,b_4⟩ : api_Span)]),W (i_1 + 1)))
def ref11_Hours_j20 (N : Nat) (b_1 : Int) (out : List api_Span) (i_1 : Int) (e_1 : ref11_Visit) (a_2 : Int) : Option (Step (Int × Int × (List api_Span) × Int) ((List api_Span) × Int)) :=
 cond (decide ((W (b_1 + e_1.Way.Hi)) < e_1.Open))
 (ref11_Hours_j21 N out i_1 e_1 a_2 e_1.Open)
 (ref11_Hours_j21 N out i_1 e_1 a_2 (W (b_1 + e_1.Way.Hi)))
def ref11_Hours_b13 (N : Nat) (l : List ref11_Visit) (a_1 : Int) (b_1 : Int) (out : List api_Span) (i_1 : Int) : Option (Step (Int × Int × (List api_Span) × Int) ((List api_Span) × Int)) :=
 cond (decide (i_1 < ((l.length : Nat) : Int)))
 (Option.bind (getI l i_1) fun e_1 =>
 cond (decide ((W (a_1 + e_1.Way.Lo)) < e_1.Open))
 (ref11_Hours_j20 N b_1 out i_1 e_1 e_1.Open)
 (ref11_Hours_j20 N b_1 out i_1 e_1 (W (a_1 + e_1.Way.Lo))))
 (some (.brk (a_1,b_1,out,i_1)))
def ref11_Hours (N : Nat) (start : Int) (l : List ref11_Visit) : Option ((List api_Span) × Int) :=
 Option.bind (ref11_Round N l) fun r =>
 cond (r != 0)
 (some (([] : List api_Span),r))
 (cond (ref11_outside start 0 100000)
 (some (([] : List api_Span),4))
 (Option.bind (loopO (fun s13 => ref11_Hours_b13 N l s13.1 s13.2.1 s13.2.2.1 s13.2.2.2) N (start,start,([] : List api_Span),0)) fun x13 =>
 exK x13 (fun s13 => some (s13.2.2.1,0)) some))
theorem ref11_Hours_ok {N : Nat} {G : Pers} {Lf : List Ent} {w : World} (start : Int) (l : List ref11_Visit) {l_p : Option Addr} {l_c : Nat} (h_l : Rd G 6 l_p l_c (l.map enc_ref11_Visit)) (hc : Ctx G (Lf) w) {res : (List api_Span) × Int} (hF : ref11_Hours N start l = some res) : Calls Tryz.prog 19 #[.int .i64 start,.slice l_p l.length l_c] w (fun e w => ∃ (p'1 : Option Addr) (c'1 : Nat),e = .returned (.tuple #[.slice p'1 res.1.length c'1,.int .i64 res.2]) ∧ Ctx G (.row p'1 c'1 (res.1.map enc_api_Span) 29 2::Lf) w) := by
 unfold ref11_Hours at hF
 refine fnIn (args := [.int .i64 start,.slice l_p l.length l_c]) Tryz.func19 rfl Tryz.ntmps19 rfl fun a hf => wp_seq_k fun K1 h1 => cReg ?_
 refine stP hf rfl rfl rfl (pA rfl) fun a hf => stP hf rfl rfl rfl (pA rfl) fun a hf => cNil ?_
 refine h1 _ _ ?_
 refine wp_seq_k fun K2 h2 => wp_seq_k fun K3 h3 => cReg ?_
 refine stP hf rfl rfl rfl (pM rfl) fun a hf => ?_
 obtain ⟨r,hr,hF⟩ := bnd_some hF
 refine stE hf hc rfl rfl rfl (eC (v := .int .i64 r) (vs := [.slice l_p l.length l_c]) (caps := []) en_84 rfl rfl rfl rfl (fun w hc => ref11_Round_ok l h_l hc hr)) fun a w hf hc => stP hf rfl rfl rfl (pA rfl) fun a hf => cNil ?_
 refine h3 _ _ ?_
 refine wp_seq_k fun K4 h4 => cReg ?_
 refine stP hf rfl rfl rfl (pM rfl) fun a hf => stP hf rfl rfl rfl (pNe rfl rfl) fun a hf => cNil ?_
 refine h4 _ _ ?_
 refine cCond (b := (r != 0)) hf rfl (fun hb => ?_) (fun hb => ?_)
 ·replace hF := condT hb hF
  clear hb
  refine wp_seq_k fun K5 h5 => cReg ?_
  refine stP hf rfl rfl rfl (pM rfl) fun a hf => stP hf rfl rfl rfl (pA rfl) fun a hf => stP hf rfl rfl rfl (pA rfl) fun a hf => cNil ?_
  refine h5 _ _ ?_
  refine wp_ret ?_
  refine xThenR ?_
  obtain rfl := Option.some.inj hF
  replace hc := hc.nilRow 29 2
  exact fnOut2 (by simp) rfl Tryz.results19 hf hc (show look _ 4 = _ from rfl) (show look _ 5 = _ from rfl) ⟨none,0,rfl,hc⟩
 ·replace hF := condF hb hF
  clear hb
  refine wp_skip ?_
  refine h2 _ _ ?_
  refine wp_seq_k fun K6 h6 => wp_seq_k fun K7 h7 => cReg ?_
  refine stP hf rfl rfl rfl (pM rfl) fun a hf => stE hf hc rfl rfl rfl (eC (v := .bool (ref11_outside start 0 100000)) (vs := [.int .i64 start,.int .i64 0,.int .i64 100000]) (caps := []) en_85 rfl rfl rfl rfl (fun w hc => ref11_outside_ok start 0 100000 hc rfl)) fun a w hf hc => cNil ?_
  refine h7 _ _ ?_
  refine cCond (b := (ref11_outside start 0 100000)) hf rfl (fun hb => ?_) (fun hb => ?_)
  ·replace hF := condT hb hF
   clear hb
   refine wp_seq_k fun K8 h8 => cReg ?_
   refine stP hf rfl rfl rfl (pA rfl) fun a hf => stP hf rfl rfl rfl (pA rfl) fun a hf => cNil ?_
   refine h8 _ _ ?_
   refine wp_ret ?_
   refine xThenR ?_
   obtain rfl := Option.some.inj hF
   replace hc := hc.nilRow 29 2
   exact fnOut2 (by simp) rfl Tryz.results19 hf hc (show look _ 4 = _ from rfl) (show look _ 5 = _ from rfl) ⟨none,0,rfl,hc⟩
  ·replace hF := condF hb hF
   clear hb
   refine wp_skip ?_
   refine h6 _ _ ?_
   refine wp_seq_k fun K9 h9 => cReg ?_
   refine stP hf rfl rfl rfl (pM rfl) fun a hf => stP hf rfl rfl rfl (pM rfl) fun a hf => stP hf rfl rfl rfl (pA rfl) fun a hf => stP hf rfl rfl rfl (pA rfl) fun a hf => cNil ?_
   refine h9 _ _ ?_
   refine wp_seq_k fun K10 h10 => cReg ?_
   refine stP hf rfl rfl rfl (pA rfl) fun a hf => cNil ?_
   refine h10 _ _ ?_
   refine wp_seq_k fun K11 h11 => wp_seq_k fun K12 h12 => cReg ?_
   refine stP hf rfl rfl rfl (pA rfl) fun a hf => cNil ?_
   refine h12 _ _ ?_
   refine wp_block ?_
   obtain ⟨x13,hx13,hF⟩ := bnd_some hF
   let S13 : (Int × Int × (List api_Span) × Int) → Act → World → Prop := (fun (zz : Int × Int × (List api_Span) × Int) a w => ∃ (p_1 : Option Addr) (c_1 : Nat),Has 70 a [(1,.slice l_p l.length l_c),(7,.int .i64 zz.1),(8,.int .i64 zz.2.1),(9,.slice p_1 zz.2.2.1.length c_1),(10,.int .i64 zz.2.2.2)] ∧ Ctx G (.row p_1 c_1 (zz.2.2.1.map enc_api_Span) 29 2::Lf) w)
   have hr13 : ∀ (zz : Int × Int × (List api_Span) × Int) a w,x13 = .go zz → S13 zz a w → K11 a w := by
    rintro ⟨a_1,b_1,out,i_1⟩ a w rfl ⟨p_1,c_1,hf,hc⟩
    replace hF := exK_go hF
    refine h11 _ _ ?_
    refine wp_seq_k fun K14 h14 => cReg ?_
    refine stP hf rfl rfl rfl (pM rfl) fun a hf => stP hf rfl rfl rfl (pA rfl) fun a hf => stP hf rfl rfl rfl (pA rfl) fun a hf => cNil ?_
    refine h14 _ _ ?_
    refine wp_ret ?_
    obtain rfl := Option.some.inj hF
    exact fnOut2 (by simp) rfl Tryz.results19 hf hc (show look _ 4 = _ from rfl) (show look _ 5 = _ from rfl) ⟨p_1,c_1,rfl,hc⟩
   have ho13 : ∀ r,x13 = .out r → r = res := by
    rintro r rfl
    exact Option.some.inj hF
   replace hc := hc.nilRow 29 2
   refine cLoop N (loopW (S := S13) (x := x13) ?_ N (start,start,([] : List api_Span),0) _ _ ⟨none,0,hf.keep ⟨rfl,rfl,rfl,rfl,rfl,trivial⟩,hc⟩ hx13)
   clear hF hf hc
   rintro ⟨a_1,b_1,out,i_1⟩ st13 a w KB13 ⟨p_1,c_1,hf,hc⟩ hF hfin13 hK13
   unfold ref11_Hours_b13 at hF
   refine wp_seq_k fun K15 h15 => wp_seq_k fun K16 h16 => cReg ?_
   refine stP hf rfl rfl rfl (pM rfl) fun a hf => stP hf rfl rfl rfl (pM rfl) fun a hf => stP hf rfl rfl rfl (pLenS Tryz.underlying38 rfl) fun a hf => stP hf rfl rfl rfl (pLt rfl rfl) fun a hf => cNil ?_
   refine h16 _ _ ?_
   refine cCond (b := (decide (i_1 < ((l.length : Nat) : Int)))) hf rfl (fun hb => ?_) (fun hb => ?_)
   ·replace hF := condT hb hF
    clear hb
    refine wp_skip ?_
    refine h15 _ _ ?_
    refine wp_seq_k fun K17 h17 => wp_block ?_
    refine wp_seq_k fun K18 h18 => cReg ?_
    refine stP hf rfl rfl rfl (pM rfl) fun a hf => stP hf rfl rfl rfl (pM rfl) fun a hf => ?_
    obtain ⟨e_1,he_1,hF⟩ := bnd_some hF
    obtain ⟨b_2,o,qa,qp⟩ := h_l.atm he_1
    refine stP hf rfl rfl rfl (pIA Tryz.underlying38 sz_151 rfl rfl qa) fun a hf => stE hf hc rfl rfl rfl (eLdN (vs := [.int .i64 e_1.Way.Lo,.int .i64 e_1.Way.Hi,.int .i64 e_1.Work.Lo,.int .i64 e_1.Work.Hi,.int .i64 e_1.Open,.int .i64 e_1.Close]) ag_151 rfl rfl (cells_pc qp (n := 6) (o' := 0) rfl)) fun a w hf hc => stAl (cs := [.int .i64 0,.int .i64 0,.int .i64 0,.int .i64 0,.int .i64 0,.int .i64 0]) hf hc rfl rfl zr_151 rfl fun b_3 a w hf hc => stSt (vs := [.int .i64 e_1.Way.Lo,.int .i64 e_1.Way.Hi,.int .i64 e_1.Work.Lo,.int .i64 e_1.Work.Hi,.int .i64 e_1.Open,.int .i64 e_1.Close]) hf hc rfl rfl rfl rfl sz_151 rfl rfl u0 fun w hc => cNil ?_
    refine h18 _ _ ?_
    refine wp_seq_k fun K19 h19 => cQ hc follows_mx (by kernel_rfl) ?_
    refine qE hf rfl rfl rfl (Pu.ev (pM rfl)) fun a hf => qE hf rfl rfl rfl (Pu.ev (pFA fa_151_0 rfl)) fun a hf => qE hf rfl rfl rfl (Pu.ev (pFA fa_29_0 rfl)) fun a hf => qE hf rfl rfl rfl (eLd1 sc_3 rfl (cell_box m0 rfl)) fun a hf => qE hf rfl rfl rfl (Pu.ev (pAdd rfl rfl)) fun a hf => qE hf rfl rfl rfl (Pu.ev (pM rfl)) fun a hf => qE hf rfl rfl rfl (Pu.ev (pFA fa_151_0 rfl)) fun a hf => qE hf rfl rfl rfl (Pu.ev (pFA fa_29_1 rfl)) fun a hf => qE hf rfl rfl rfl (eLd1 sc_3 rfl (cell_box m0 rfl)) fun a hf => qE hf rfl rfl rfl (Pu.ev (pAdd rfl rfl)) fun a hf => qE hf rfl rfl rfl (Pu.ev (pA rfl)) fun a hf => qE hf rfl rfl rfl (Pu.ev (pA rfl)) fun a hf => ?_
    intro w hc
    refine h19 _ _ ?_
    refine wp_seq_k fun K20 h20 => ?_
    have hj20 : ∀ (a_2 : Int) a w,Has 70 a [(1,.slice l_p l.length l_c),(7,.int .i64 a_2),(8,.int .i64 (W (b_1 + e_1.Way.Hi))),(9,.slice p_1 out.length c_1),(10,.int .i64 i_1),(11,.pointer (some ⟨b_3,0,none⟩))] → Ctx G (.box b_3 [.int .i64 e_1.Way.Lo,.int .i64 e_1.Way.Hi,.int .i64 e_1.Work.Lo,.int .i64 e_1.Work.Hi,.int .i64 e_1.Open,.int .i64 e_1.Close] 151::.row p_1 c_1 (out.map enc_api_Span) 29 2::Lf) w → ref11_Hours_j20 N b_1 out i_1 e_1 a_2 = some st13 → K20 a w := by
     repeat (clear hF)
     repeat (clear hc)
     repeat (clear hf)
     intro a_2 a w hf hc hF
     unfold ref11_Hours_j20 at hF
     refine h20 _ _ ?_
     refine wp_seq_k fun K21 h21 => ?_
     have hj21 : ∀ (b_4 : Int) a w,Has 70 a [(1,.slice l_p l.length l_c),(7,.int .i64 a_2),(8,.int .i64 b_4),(9,.slice p_1 out.length c_1),(10,.int .i64 i_1),(11,.pointer (some ⟨b_3,0,none⟩))] → Ctx G (.box b_3 [.int .i64 e_1.Way.Lo,.int .i64 e_1.Way.Hi,.int .i64 e_1.Work.Lo,.int .i64 e_1.Work.Hi,.int .i64 e_1.Open,.int .i64 e_1.Close] 151::.row p_1 c_1 (out.map enc_api_Span) 29 2::Lf) w → ref11_Hours_j21 N out i_1 e_1 a_2 b_4 = some st13 → K21 a w := by
      repeat (clear hF)
      repeat (clear hc)
      repeat (clear hf)
      intro b_4 a w hf hc hF
      unfold ref11_Hours_j21 at hF
      refine h21 _ _ ?_
      refine wp_seq_k fun K22 h22 => cReg ?_
      refine stP hf rfl rfl rfl (pM rfl) fun a hf => stP hf rfl rfl rfl (pM rfl) fun a hf => stP hf rfl rfl rfl (pM rfl) fun a hf => stP hf rfl rfl rfl (pBuildS (cells := [.int .i64 a_2,.int .i64 b_4]) bt_29 rfl rfl) fun a hf => stBS (rows := ([(⟨a_2,b_4⟩ : api_Span)] : List api_Span).map enc_api_Span) (vs := [(0,.agg #[.int .i64 a_2,.int .i64 b_4])]) hf hc rfl rfl sl_33 rfl ⟨rfl,rfl,rfl,trivial⟩ rfl rfl fun b_5 a w hf hc => ?_
      obtain ⟨un,hun,hF⟩ := bnd_some hF
      refine stApm (xs := out) (ys := ([(⟨a_2,b_4⟩ : api_Span)] : List api_Span)) hf hc rfl rfl sl_33 rfl rfl rfl rfl rfl one_enc_api_Span (src_row hc m0) (fun _ _ => u2) (by simpa using room_spec hun) fun p_2 c_2 a w hf hc => stP hf rfl rfl rfl (pA rfl) fun a hf => cNil ?_
      refine h22 _ _ ?_
      refine cQ hc follows_mx (by kernel_rfl) ?_
      refine qE hf rfl rfl rfl (Pu.ev (pM rfl)) fun a hf => qE hf rfl rfl rfl (Pu.ev (pFA fa_151_1 rfl)) fun a hf => qE hf rfl rfl rfl (Pu.ev (pFA fa_29_0 rfl)) fun a hf => qE hf rfl rfl rfl (eLd1 sc_3 rfl (cell_box m1 rfl)) fun a hf => qE hf rfl rfl rfl (Pu.ev (pAdd rfl rfl)) fun a hf => qE hf rfl rfl rfl (Pu.ev (pM rfl)) fun a hf => qE hf rfl rfl rfl (Pu.ev (pFA fa_151_1 rfl)) fun a hf => qE hf rfl rfl rfl (Pu.ev (pFA fa_29_1 rfl)) fun a hf => qE hf rfl rfl rfl (eLd1 sc_3 rfl (cell_box m1 rfl)) fun a hf => qE hf rfl rfl rfl (Pu.ev (pAdd rfl rfl)) fun a hf => qE hf rfl rfl rfl (Pu.ev (pA rfl)) fun a hf => qE hf rfl rfl rfl (Pu.ev (pA rfl)) fun a hf => ?_
      intro w hc
      refine h17 _ _ ?_
      refine cReg ?_
      refine stP hf rfl rfl rfl (pM rfl) fun a hf => stP hf rfl rfl rfl (pAdd rfl rfl) fun a hf => stP hf rfl rfl rfl (pA rfl) fun a hf => cNil ?_
      replace hc := hc.drop k1
      replace hc := hc.drop k0
      exact hK13 (W (a_2 + e_1.Work.Lo),W (b_4 + e_1.Work.Hi),(out ++ [(⟨a_2,b_4⟩ : api_Span)]),W (i_1 + 1)) _ _ (Option.some.inj hF).symm ⟨p_2,c_2,hf.keep ⟨rfl,rfl,rfl,rfl,rfl,trivial⟩,hc⟩
     refine wp_seq_k fun K23 h23 => cReg ?_
     refine stP hf rfl rfl rfl (pM rfl) fun a hf => stP hf rfl rfl rfl (pFA fa_151_2 rfl) fun a hf => stE hf hc rfl rfl rfl (eLd1 sc_3 rfl (cell_box m0 rfl)) fun a w hf hc => stP hf rfl rfl rfl (pLt rfl rfl) fun a hf => cNil ?_
     refine h23 _ _ ?_
     refine cCond (b := (decide ((W (b_1 + e_1.Way.Hi)) < e_1.Open))) hf rfl (fun hb => ?_) (fun hb => ?_)
     ·replace hF := condT hb hF
      clear hb
      refine cReg ?_
      refine stP hf rfl rfl rfl (pFA fa_151_2 rfl) fun a hf => stE hf hc rfl rfl rfl (eLd1 sc_3 rfl (cell_box m0 rfl)) fun a w hf hc => stP hf rfl rfl rfl (pA rfl) fun a hf => cNil ?_
      exact hj21 e_1.Open _ _  (hf.keep ⟨rfl,rfl,rfl,rfl,rfl,rfl,trivial⟩) hc hF
     ·replace hF := condF hb hF
      clear hb
      refine wp_skip ?_
      exact hj21 (W (b_1 + e_1.Way.Hi)) _ _  (hf.keep ⟨rfl,rfl,rfl,rfl,rfl,rfl,trivial⟩) hc hF
    refine wp_seq_k fun K24 h24 => cReg ?_
    refine stP hf rfl rfl rfl (pM rfl) fun a hf => stP hf rfl rfl rfl (pFA fa_151_2 rfl) fun a hf => stE hf hc rfl rfl rfl (eLd1 sc_3 rfl (cell_box m0 rfl)) fun a w hf hc => stP hf rfl rfl rfl (pLt rfl rfl) fun a hf => cNil ?_
    refine h24 _ _ ?_
    refine cCond (b := (decide ((W (a_1 + e_1.Way.Lo)) < e_1.Open))) hf rfl (fun hb => ?_) (fun hb => ?_)
    ·replace hF := condT hb hF
     clear hb
     refine cReg ?_
     refine stP hf rfl rfl rfl (pFA fa_151_2 rfl) fun a hf => stE hf hc rfl rfl rfl (eLd1 sc_3 rfl (cell_box m0 rfl)) fun a w hf hc => stP hf rfl rfl rfl (pA rfl) fun a hf => cNil ?_
     exact hj20 e_1.Open _ _  (hf.keep ⟨rfl,rfl,rfl,rfl,rfl,rfl,trivial⟩) hc hF
    ·replace hF := condF hb hF
     clear hb
     refine wp_skip ?_
     exact hj20 (W (a_1 + e_1.Way.Lo)) _ _  (hf.keep ⟨rfl,rfl,rfl,rfl,rfl,rfl,trivial⟩) hc hF
   ·replace hF := condF hb hF
    clear hb
    refine wp_exit ?_
    refine xThen ?_
    refine xThen ?_
    have he := Option.some.inj hF
    rw [← he] at hfin13
    refine cHit ?_
    exact hr13 _ _ _ hfin13 ⟨p_1,c_1,hf.keep ⟨rfl,rfl,rfl,rfl,rfl,trivial⟩,hc⟩

def ref11_Late_j13 (N : Nat) (i_1 : Int) (can_1 : Int) (surely_1 : Int) : Option (Step (Int × Int × Int) (Int × Int × Int)) :=
 some (.cont (can_1,surely_1,W (i_1 + 1)))
def ref11_Late_j14 (N : Nat) (l : List ref11_Visit) (r : (List api_Span) × Int) (surely : Int) (i_1 : Int) (can_2 : Int) : Option (Step (Int × Int × Int) (Int × Int × Int)) :=
 Option.bind (cond (surely == (-1)) (Option.bind (getI r.1 i_1) fun e_1 =>
 Option.bind (getI l i_1) fun e_2 =>
 some (decide (e_2.Close < e_1.Lo))) (some false)) fun t_1 =>
 cond t_1
 (ref11_Late_j13 N i_1 can_2 i_1)
 (ref11_Late_j13 N i_1 can_2 surely)
def ref11_Late_b9 (N : Nat) (l : List ref11_Visit) (r : (List api_Span) × Int) (can : Int) (surely : Int) (i_1 : Int) : Option (Step (Int × Int × Int) (Int × Int × Int)) :=
 cond (decide (i_1 < ((l.length : Nat) : Int)))
 (Option.bind (cond (can == (-1)) (Option.bind (getI r.1 i_1) fun e_3 =>
 Option.bind (getI l i_1) fun e_4 =>
 some (decide (e_4.Close < e_3.Hi))) (some false)) fun t_2 =>
 cond t_2
 (ref11_Late_j14 N l r surely i_1 i_1)
 (ref11_Late_j14 N l r surely i_1 can))
 (some (.brk (can,surely,i_1)))
def ref11_Late (N : Nat) (start : Int) (l : List ref11_Visit) : Option (Int × Int × Int) :=
 Option.bind (ref11_Hours N start l) fun r =>
 cond (r.2 != 0)
 (some (0,0,r.2))
 (Option.bind (loopO (fun s9 => ref11_Late_b9 N l r s9.1 s9.2.1 s9.2.2) N ((-1),(-1),0)) fun x9 =>
 exK x9 (fun s9 => some (s9.1,s9.2.1,0)) some)
theorem ref11_Late_ok {N : Nat} {G : Pers} {Lf : List Ent} {w : World} (start : Int) (l : List ref11_Visit) {l_p : Option Addr} {l_c : Nat} (h_l : Rd G 6 l_p l_c (l.map enc_ref11_Visit)) (hc : Ctx G (Lf) w) {res : Int × Int × Int} (hF : ref11_Late N start l = some res) : Calls Tryz.prog 23 #[.int .i64 start,.slice l_p l.length l_c] w (fun e w => e = .returned (.tuple #[.int .i64 res.1,.int .i64 res.2.1,.int .i64 res.2.2]) ∧ Ctx G (Lf) w) := by
 unfold ref11_Late at hF
 refine fnIn (args := [.int .i64 start,.slice l_p l.length l_c]) Tryz.func23 rfl Tryz.ntmps23 rfl fun a hf => wp_seq_k fun K1 h1 => cReg ?_
 refine stP hf rfl rfl rfl (pA rfl) fun a hf => stP hf rfl rfl rfl (pA rfl) fun a hf => stP hf rfl rfl rfl (pA rfl) fun a hf => cNil ?_
 refine h1 _ _ ?_
 refine wp_seq_k fun K2 h2 => cReg ?_
 refine stP hf rfl rfl rfl (pM rfl) fun a hf => stP hf rfl rfl rfl (pM rfl) fun a hf => ?_
 obtain ⟨r,hr,hF⟩ := bnd_some hF
 refine stC (vs := [.int .i64 start,.slice l_p l.length l_c]) (caps := []) hf rfl rfl rfl en_19 rfl rfl rfl rfl (ref11_Hours_ok start l h_l hc hr) ?_
 rintro _ w ⟨p_1,c_1,rfl,hc⟩
 refine ⟨_,rfl,fun a hf => ?_⟩
 refine stP hf rfl rfl rfl (pM rfl) fun a hf => stP hf rfl rfl rfl (pX rfl rfl) fun a hf => stP hf rfl rfl rfl (pX rfl rfl) fun a hf => stP hf rfl rfl rfl (pA rfl) fun a hf => stP hf rfl rfl rfl (pA rfl) fun a hf => cNil ?_
 refine h2 _ _ ?_
 refine wp_seq_k fun K3 h3 => wp_seq_k fun K4 h4 => cReg ?_
 refine stP hf rfl rfl rfl (pM rfl) fun a hf => stP hf rfl rfl rfl (pNe rfl rfl) fun a hf => cNil ?_
 refine h4 _ _ ?_
 refine cCond (b := (r.2 != 0)) hf rfl (fun hb => ?_) (fun hb => ?_)
 ·replace hF := condT hb hF
  clear hb
  refine wp_seq_k fun K5 h5 => cReg ?_
  refine stP hf rfl rfl rfl (pM rfl) fun a hf => stP hf rfl rfl rfl (pA rfl) fun a hf => stP hf rfl rfl rfl (pA rfl) fun a hf => stP hf rfl rfl rfl (pA rfl) fun a hf => cNil ?_
  refine h5 _ _ ?_
  refine wp_ret ?_
  refine xThenR ?_
  obtain rfl := Option.some.inj hF
  replace hc := hc.drop k0
  exact fnOut3 (by simp) rfl Tryz.results23 hf hc (show look _ 4 = _ from rfl) (show look _ 5 = _ from rfl) (show look _ 6 = _ from rfl) ⟨rfl,hc⟩
 ·replace hF := condF hb hF
  clear hb
  refine wp_skip ?_
  refine h3 _ _ ?_
  refine wp_seq_k fun K6 h6 => cReg ?_
  refine stP hf rfl rfl rfl (pA rfl) fun a hf => stP hf rfl rfl rfl (pA rfl) fun a hf => cNil ?_
  refine h6 _ _ ?_
  refine wp_seq_k fun K7 h7 => wp_seq_k fun K8 h8 => cReg ?_
  refine stP hf rfl rfl rfl (pA rfl) fun a hf => cNil ?_
  refine h8 _ _ ?_
  refine wp_block ?_
  obtain ⟨x9,hx9,hF⟩ := bnd_some hF
  let S9 : (Int × Int × Int) → Act → World → Prop := (fun (zz : Int × Int × Int) a w => Has 61 a [(1,.slice l_p l.length l_c),(7,.slice p_1 r.1.length c_1),(9,.int .i64 zz.1),(10,.int .i64 zz.2.1),(11,.int .i64 zz.2.2)] ∧ Ctx G (.row p_1 c_1 (r.1.map enc_api_Span) 29 2::Lf) w)
  have hr9 : ∀ (zz : Int × Int × Int) a w,x9 = .go zz → S9 zz a w → K7 a w := by
   rintro ⟨can,surely,i_1⟩ a w rfl ⟨hf,hc⟩
   replace hF := exK_go hF
   refine h7 _ _ ?_
   refine wp_seq_k fun K10 h10 => cReg ?_
   refine stP hf rfl rfl rfl (pM rfl) fun a hf => stP hf rfl rfl rfl (pM rfl) fun a hf => stP hf rfl rfl rfl (pA rfl) fun a hf => stP hf rfl rfl rfl (pA rfl) fun a hf => stP hf rfl rfl rfl (pA rfl) fun a hf => cNil ?_
   refine h10 _ _ ?_
   refine wp_ret ?_
   obtain rfl := Option.some.inj hF
   replace hc := hc.drop k0
   exact fnOut3 (by simp) rfl Tryz.results23 hf hc (show look _ 4 = _ from rfl) (show look _ 5 = _ from rfl) (show look _ 6 = _ from rfl) ⟨rfl,hc⟩
  have ho9 : ∀ r,x9 = .out r → r = res := by
   rintro r rfl
   exact Option.some.inj hF
  refine cLoop N (loopW (S := S9) (x := x9) ?_ N ((-1),(-1),0) _ _ ⟨hf.keep ⟨rfl,rfl,rfl,rfl,rfl,trivial⟩,hc⟩ hx9)
  clear hF hf hc
  rintro ⟨can,surely,i_1⟩ st9 a w KB9 ⟨hf,hc⟩ hF hfin9 hK9
  unfold ref11_Late_b9 at hF
  refine wp_seq_k fun K11 h11 => wp_seq_k fun K12 h12 => cReg ?_
  refine stP hf rfl rfl rfl (pM rfl) fun a hf => stP hf rfl rfl rfl (pM rfl) fun a hf => stP hf rfl rfl rfl (pLenS Tryz.underlying38 rfl) fun a hf => stP hf rfl rfl rfl (pLt rfl rfl) fun a hf => cNil ?_
  refine h12 _ _ ?_
  refine cCond (b := (decide (i_1 < ((l.length : Nat) : Int)))) hf rfl (fun hb => ?_) (fun hb => ?_)
  ·replace hF := condT hb hF
   clear hb
   refine wp_skip ?_
   refine h11 _ _ ?_
   refine wp_seq_k fun K13 h13 => ?_
   have hj13 : ∀ (can_1 : Int) (surely_1 : Int) a w,Has 61 a [(1,.slice l_p l.length l_c),(7,.slice p_1 r.1.length c_1),(9,.int .i64 can_1),(10,.int .i64 surely_1),(11,.int .i64 i_1)] → Ctx G (.row p_1 c_1 (r.1.map enc_api_Span) 29 2::Lf) w → ref11_Late_j13 N i_1 can_1 surely_1 = some st9 → K13 a w := by
    repeat (clear hF)
    repeat (clear hc)
    repeat (clear hf)
    intro can_1 surely_1 a w hf hc hF
    unfold ref11_Late_j13 at hF
    refine h13 _ _ ?_
    refine cReg ?_
    refine stP hf rfl rfl rfl (pM rfl) fun a hf => stP hf rfl rfl rfl (pAdd rfl rfl) fun a hf => stP hf rfl rfl rfl (pA rfl) fun a hf => cNil ?_
    exact hK9 (can_1,surely_1,W (i_1 + 1)) _ _ (Option.some.inj hF).symm ⟨hf.keep ⟨rfl,rfl,rfl,rfl,rfl,trivial⟩,hc⟩
   refine wp_block ?_
   refine wp_seq_k fun K14 h14 => ?_
   have hj14 : ∀ (can_2 : Int) a w,Has 61 a [(1,.slice l_p l.length l_c),(7,.slice p_1 r.1.length c_1),(9,.int .i64 can_2),(10,.int .i64 surely),(11,.int .i64 i_1)] → Ctx G (.row p_1 c_1 (r.1.map enc_api_Span) 29 2::Lf) w → ref11_Late_j14 N l r surely i_1 can_2 = some st9 → K14 a w := by
    repeat (clear hF)
    repeat (clear hc)
    repeat (clear hf)
    intro can_2 a w hf hc hF
    unfold ref11_Late_j14 at hF
    refine h14 _ _ ?_
    refine wp_seq_k fun K15 h15 => ?_
    obtain ⟨t_1,ht_1,hF⟩ := bnd_some hF
    refine cQ hc follows_mx (by kernel_rfl) ?_
    refine qE hf rfl rfl rfl (Pu.ev (pM rfl)) fun a hf => qE hf rfl rfl rfl (Pu.ev (pEq rfl rfl)) fun a hf => qE hf rfl rfl rfl (Pu.ev (pM rfl)) fun a hf => qCut 12 (fun a => Has 61 a [(1,.slice l_p l.length l_c),(7,.slice p_1 r.1.length c_1),(9,.int .i64 can_2),(10,.int .i64 surely),(11,.int .i64 i_1),(43,.int .i64 surely),(44,.bool (surely == (-1))),(45,.bool (surely == (-1))),(57,.bool t_1)]) ?_ ?_
    ·cases hb : (surely == (-1))
     ·rw [hb] at hf
      have hF := condF hb ht_1
      obtain rfl := Option.some.inj hF
      refine qS hf rfl rfl rfl fun a hf => qS hf rfl rfl rfl fun a hf => qS hf rfl rfl rfl fun a hf => qS hf rfl rfl rfl fun a hf => qS hf rfl rfl rfl fun a hf => qS hf rfl rfl rfl fun a hf => qS hf rfl rfl rfl fun a hf => qS hf rfl rfl rfl fun a hf => qS hf rfl rfl rfl fun a hf => qS hf rfl rfl rfl fun a hf => qS hf rfl rfl rfl fun a hf => qE hf rfl rfl rfl (Pu.ev (pPf rfl rfl)) fun a hf => qNil (hf.keep ⟨rfl,rfl,rfl,rfl,rfl,rfl,rfl,rfl,rfl,trivial⟩)
     ·rw [hb] at hf
      have hF := condT hb ht_1
      obtain ⟨e_1,he_1,hF⟩ := bnd_some hF
      obtain ⟨g,rfl,qa,qr⟩ := row_atm hc m0 he_1
      obtain ⟨e_2,he_2,hF⟩ := bnd_some hF
      obtain ⟨b_1,o,qa_1,qp⟩ := h_l.atm he_2
      refine qE hf rfl rfl rfl (Pu.ev (pM rfl)) fun a hf => qE hf rfl rfl rfl (Pu.ev (pM rfl)) fun a hf => qE hf rfl rfl rfl (Pu.ev (pIA Tryz.underlying33 sz_29 rfl rfl qa)) fun a hf => qE hf rfl rfl rfl (Pu.ev (pFA fa_29_0 rfl)) fun a hf => qE hf rfl rfl rfl (eLd1 sc_3 rfl (cell_row (sz := 2) (i := i_1.toNat) (j := 0) m0 qr rfl)) fun a hf => qE hf rfl rfl rfl (Pu.ev (pM rfl)) fun a hf => qE hf rfl rfl rfl (Pu.ev (pM rfl)) fun a hf => qE hf rfl rfl rfl (Pu.ev (pIA Tryz.underlying38 sz_151 rfl rfl qa_1)) fun a hf => qE hf rfl rfl rfl (Pu.ev (pFA fa_151_3 rfl)) fun a hf => qE hf rfl rfl rfl (eLd1 sc_3 rfl (cell_pc (j := 5) qp rfl)) fun a hf => qE hf rfl rfl rfl (Pu.ev (pGt rfl rfl)) fun a hf => qE hf rfl rfl rfl (Pu.ev (pPt rfl rfl)) fun a hf => ?_
      obtain rfl := Option.some.inj hF
      exact qNil (hf.keep ⟨rfl,rfl,rfl,rfl,rfl,rfl,rfl,rfl,rfl,trivial⟩)
    intro a hf
    intro w hc
    refine h15 _ _ ?_
    refine cCond (b := t_1) hf rfl (fun hb => ?_) (fun hb => ?_)
    ·replace hF := condT hb hF
     clear hb
     refine cReg ?_
     refine stP hf rfl rfl rfl (pM rfl) fun a hf => stP hf rfl rfl rfl (pA rfl) fun a hf => cNil ?_
     exact hj13 can_2 i_1 _ _  (hf.keep ⟨rfl,rfl,rfl,rfl,rfl,trivial⟩) hc hF
    ·replace hF := condF hb hF
     clear hb
     refine wp_skip ?_
     exact hj13 can_2 surely _ _  (hf.keep ⟨rfl,rfl,rfl,rfl,rfl,trivial⟩) hc hF
   refine wp_seq_k fun K16 h16 => ?_
   obtain ⟨t_2,ht_2,hF⟩ := bnd_some hF
   refine cQ hc follows_mx (by kernel_rfl) ?_
   refine qE hf rfl rfl rfl (Pu.ev (pM rfl)) fun a hf => qE hf rfl rfl rfl (Pu.ev (pEq rfl rfl)) fun a hf => qE hf rfl rfl rfl (Pu.ev (pM rfl)) fun a hf => qCut 12 (fun a => Has 61 a [(1,.slice l_p l.length l_c),(7,.slice p_1 r.1.length c_1),(9,.int .i64 can),(10,.int .i64 surely),(11,.int .i64 i_1),(27,.int .i64 can),(28,.bool (can == (-1))),(29,.bool (can == (-1))),(41,.bool t_2)]) ?_ ?_
   ·cases hb : (can == (-1))
    ·rw [hb] at hf
     have hF := condF hb ht_2
     obtain rfl := Option.some.inj hF
     refine qS hf rfl rfl rfl fun a hf => qS hf rfl rfl rfl fun a hf => qS hf rfl rfl rfl fun a hf => qS hf rfl rfl rfl fun a hf => qS hf rfl rfl rfl fun a hf => qS hf rfl rfl rfl fun a hf => qS hf rfl rfl rfl fun a hf => qS hf rfl rfl rfl fun a hf => qS hf rfl rfl rfl fun a hf => qS hf rfl rfl rfl fun a hf => qS hf rfl rfl rfl fun a hf => qE hf rfl rfl rfl (Pu.ev (pPf rfl rfl)) fun a hf => qNil (hf.keep ⟨rfl,rfl,rfl,rfl,rfl,rfl,rfl,rfl,rfl,trivial⟩)
    ·rw [hb] at hf
     have hF := condT hb ht_2
     obtain ⟨e_3,he_3,hF⟩ := bnd_some hF
     obtain ⟨g_1,rfl,qa_2,qr_1⟩ := row_atm hc m0 he_3
     obtain ⟨e_4,he_4,hF⟩ := bnd_some hF
     obtain ⟨b_2,o_1,qa_3,qp_1⟩ := h_l.atm he_4
     refine qE hf rfl rfl rfl (Pu.ev (pM rfl)) fun a hf => qE hf rfl rfl rfl (Pu.ev (pM rfl)) fun a hf => qE hf rfl rfl rfl (Pu.ev (pIA Tryz.underlying33 sz_29 rfl rfl qa_2)) fun a hf => qE hf rfl rfl rfl (Pu.ev (pFA fa_29_1 rfl)) fun a hf => qE hf rfl rfl rfl (eLd1 sc_3 rfl (cell_row (sz := 2) (i := i_1.toNat) (j := 1) m0 qr_1 rfl)) fun a hf => qE hf rfl rfl rfl (Pu.ev (pM rfl)) fun a hf => qE hf rfl rfl rfl (Pu.ev (pM rfl)) fun a hf => qE hf rfl rfl rfl (Pu.ev (pIA Tryz.underlying38 sz_151 rfl rfl qa_3)) fun a hf => qE hf rfl rfl rfl (Pu.ev (pFA fa_151_3 rfl)) fun a hf => qE hf rfl rfl rfl (eLd1 sc_3 rfl (cell_pc (j := 5) qp_1 rfl)) fun a hf => qE hf rfl rfl rfl (Pu.ev (pGt rfl rfl)) fun a hf => qE hf rfl rfl rfl (Pu.ev (pPt rfl rfl)) fun a hf => ?_
     obtain rfl := Option.some.inj hF
     exact qNil (hf.keep ⟨rfl,rfl,rfl,rfl,rfl,rfl,rfl,rfl,rfl,trivial⟩)
   intro a hf
   intro w hc
   refine h16 _ _ ?_
   refine cCond (b := t_2) hf rfl (fun hb => ?_) (fun hb => ?_)
   ·replace hF := condT hb hF
    clear hb
    refine cReg ?_
    refine stP hf rfl rfl rfl (pM rfl) fun a hf => stP hf rfl rfl rfl (pA rfl) fun a hf => cNil ?_
    exact hj14 i_1 _ _  (hf.keep ⟨rfl,rfl,rfl,rfl,rfl,trivial⟩) hc hF
   ·replace hF := condF hb hF
    clear hb
    refine wp_skip ?_
    exact hj14 can _ _  (hf.keep ⟨rfl,rfl,rfl,rfl,rfl,trivial⟩) hc hF
  ·replace hF := condF hb hF
   clear hb
   refine wp_exit ?_
   refine xThen ?_
   refine xThen ?_
   have he := Option.some.inj hF
   rw [← he] at hfin9
   refine cHit ?_
   exact hr9 _ _ _ hfin9 ⟨hf.keep ⟨rfl,rfl,rfl,rfl,rfl,trivial⟩,hc⟩

def ref11_Latest_b12 (N : Nat) (l : List ref11_Visit) (good : Int) (bad : Int) : Option (Step (Int × Int) (Int × Int)) :=
 cond (decide (1 < (W (bad - good))))
 (Option.bind (ref11_Late N (W ((W (good + bad)).tdiv 2)) l) fun r_2 =>
 cond (r_2.1 == (-1))
 (some (.cont (W ((W (good + bad)).tdiv 2),bad)))
 (some (.cont (good,W ((W (good + bad)).tdiv 2)))))
 (some (.brk (good,bad)))
def ref11_Latest (N : Nat) (l : List ref11_Visit) : Option (Int × Int) :=
 Option.bind (ref11_Round N l) fun r =>
 cond (r != 0)
 (some (0,r))
 (Option.bind (ref11_Late N 0 l) fun r_1 =>
 cond (r_1.1 != (-1))
 (some (0,5))
 (Option.bind (loopO (fun s12 => ref11_Latest_b12 N l s12.1 s12.2) N (0,100001)) fun x12 =>
 exK x12 (fun s12 => some (s12.1,0)) some))
theorem ref11_Latest_ok {N : Nat} {G : Pers} {Lf : List Ent} {w : World} (l : List ref11_Visit) {l_p : Option Addr} {l_c : Nat} (h_l : Rd G 6 l_p l_c (l.map enc_ref11_Visit)) (hc : Ctx G (Lf) w) {res : Int × Int} (hF : ref11_Latest N l = some res) : Calls Tryz.prog 25 #[.slice l_p l.length l_c] w (fun e w => e = .returned (.tuple #[.int .i64 res.1,.int .i64 res.2]) ∧ Ctx G (Lf) w) := by
 unfold ref11_Latest at hF
 refine fnIn (args := [.slice l_p l.length l_c]) Tryz.func25 rfl Tryz.ntmps25 rfl fun a hf => wp_seq_k fun K1 h1 => cReg ?_
 refine stP hf rfl rfl rfl (pA rfl) fun a hf => stP hf rfl rfl rfl (pA rfl) fun a hf => cNil ?_
 refine h1 _ _ ?_
 refine wp_seq_k fun K2 h2 => wp_seq_k fun K3 h3 => cReg ?_
 refine stP hf rfl rfl rfl (pM rfl) fun a hf => ?_
 obtain ⟨r,hr,hF⟩ := bnd_some hF
 refine stE hf hc rfl rfl rfl (eC (v := .int .i64 r) (vs := [.slice l_p l.length l_c]) (caps := []) en_84 rfl rfl rfl rfl (fun w hc => ref11_Round_ok l h_l hc hr)) fun a w hf hc => stP hf rfl rfl rfl (pA rfl) fun a hf => cNil ?_
 refine h3 _ _ ?_
 refine wp_seq_k fun K4 h4 => cReg ?_
 refine stP hf rfl rfl rfl (pM rfl) fun a hf => stP hf rfl rfl rfl (pNe rfl rfl) fun a hf => cNil ?_
 refine h4 _ _ ?_
 refine cCond (b := (r != 0)) hf rfl (fun hb => ?_) (fun hb => ?_)
 ·replace hF := condT hb hF
  clear hb
  refine wp_seq_k fun K5 h5 => cReg ?_
  refine stP hf rfl rfl rfl (pM rfl) fun a hf => stP hf rfl rfl rfl (pA rfl) fun a hf => stP hf rfl rfl rfl (pA rfl) fun a hf => cNil ?_
  refine h5 _ _ ?_
  refine wp_ret ?_
  refine xThenR ?_
  obtain rfl := Option.some.inj hF
  exact fnOut2 (by simp) rfl Tryz.results25 hf hc (show look _ 2 = _ from rfl) (show look _ 3 = _ from rfl) ⟨rfl,hc⟩
 ·replace hF := condF hb hF
  clear hb
  refine wp_skip ?_
  refine h2 _ _ ?_
  refine wp_seq_k fun K6 h6 => wp_seq_k fun K7 h7 => cReg ?_
  refine stP hf rfl rfl rfl (pM rfl) fun a hf => ?_
  obtain ⟨r_1,hr_1,hF⟩ := bnd_some hF
  refine stE hf hc rfl rfl rfl (eC (v := .tuple #[.int .i64 r_1.1,.int .i64 r_1.2.1,.int .i64 r_1.2.2]) (vs := [.int .i64 0,.slice l_p l.length l_c]) (caps := []) en_23 rfl rfl rfl rfl (fun w hc => ref11_Late_ok 0 l h_l hc hr_1)) fun a w hf hc => stP hf rfl rfl rfl (pM rfl) fun a hf => stP hf rfl rfl rfl (pX rfl rfl) fun a hf => stP hf rfl rfl rfl (pX rfl rfl) fun a hf => stP hf rfl rfl rfl (pX rfl rfl) fun a hf => stP hf rfl rfl rfl (pA rfl) fun a hf => stP hf rfl rfl rfl (pA rfl) fun a hf => stP hf rfl rfl rfl (pA rfl) fun a hf => cNil ?_
  refine h7 _ _ ?_
  refine wp_seq_k fun K8 h8 => cReg ?_
  refine stP hf rfl rfl rfl (pM rfl) fun a hf => stP hf rfl rfl rfl (pNe rfl rfl) fun a hf => cNil ?_
  refine h8 _ _ ?_
  refine cCond (b := (r_1.1 != (-1))) hf rfl (fun hb => ?_) (fun hb => ?_)
  ·replace hF := condT hb hF
   clear hb
   refine wp_seq_k fun K9 h9 => cReg ?_
   refine stP hf rfl rfl rfl (pA rfl) fun a hf => stP hf rfl rfl rfl (pA rfl) fun a hf => cNil ?_
   refine h9 _ _ ?_
   refine wp_ret ?_
   refine xThenR ?_
   obtain rfl := Option.some.inj hF
   exact fnOut2 (by simp) rfl Tryz.results25 hf hc (show look _ 2 = _ from rfl) (show look _ 3 = _ from rfl) ⟨rfl,hc⟩
  ·replace hF := condF hb hF
   clear hb
   refine wp_skip ?_
   refine h6 _ _ ?_
   refine wp_seq_k fun K10 h10 => cReg ?_
   refine stP hf rfl rfl rfl (pA rfl) fun a hf => stP hf rfl rfl rfl (pA rfl) fun a hf => cNil ?_
   refine h10 _ _ ?_
   refine wp_seq_k fun K11 h11 => wp_block ?_
   obtain ⟨x12,hx12,hF⟩ := bnd_some hF
   let S12 : (Int × Int) → Act → World → Prop := (fun (zz : Int × Int) a w => Has 47 a [(0,.slice l_p l.length l_c),(8,.int .i64 zz.1),(9,.int .i64 zz.2)] ∧ Ctx G (Lf) w)
   have hr12 : ∀ (zz : Int × Int) a w,x12 = .go zz → S12 zz a w → K11 a w := by
    rintro ⟨good,bad⟩ a w rfl ⟨hf,hc⟩
    replace hF := exK_go hF
    refine h11 _ _ ?_
    refine wp_seq_k fun K13 h13 => cReg ?_
    refine stP hf rfl rfl rfl (pM rfl) fun a hf => stP hf rfl rfl rfl (pA rfl) fun a hf => stP hf rfl rfl rfl (pA rfl) fun a hf => cNil ?_
    refine h13 _ _ ?_
    refine wp_ret ?_
    obtain rfl := Option.some.inj hF
    exact fnOut2 (by simp) rfl Tryz.results25 hf hc (show look _ 2 = _ from rfl) (show look _ 3 = _ from rfl) ⟨rfl,hc⟩
   have ho12 : ∀ r,x12 = .out r → r = res := by
    rintro r rfl
    exact Option.some.inj hF
   refine cLoop N (loopW (S := S12) (x := x12) ?_ N (0,100001) _ _ ⟨hf.keep ⟨rfl,rfl,rfl,trivial⟩,hc⟩ hx12)
   clear hF hf hc
   rintro ⟨good,bad⟩ st12 a w KB12 ⟨hf,hc⟩ hF hfin12 hK12
   unfold ref11_Latest_b12 at hF
   refine wp_seq_k fun K14 h14 => wp_seq_k fun K15 h15 => cReg ?_
   refine stP hf rfl rfl rfl (pM rfl) fun a hf => stP hf rfl rfl rfl (pM rfl) fun a hf => stP hf rfl rfl rfl (pSub rfl rfl) fun a hf => stP hf rfl rfl rfl (pGt rfl rfl) fun a hf => cNil ?_
   refine h15 _ _ ?_
   refine cCond (b := (decide (1 < (W (bad - good))))) hf rfl (fun hb => ?_) (fun hb => ?_)
   ·replace hF := condT hb hF
    clear hb
    refine wp_skip ?_
    refine h14 _ _ ?_
    refine wp_thenK fun K16 h16 => wp_block ?_
    refine wp_seq_k fun K17 h17 => cReg ?_
    refine stP hf rfl rfl rfl (pM rfl) fun a hf => stP hf rfl rfl rfl (pM rfl) fun a hf => stP hf rfl rfl rfl (pAdd rfl rfl) fun a hf => stP hf rfl rfl rfl (pQuo rfl rfl (by decide)) fun a hf => stP hf rfl rfl rfl (pA rfl) fun a hf => cNil ?_
    refine h17 _ _ ?_
    refine wp_seq_k fun K18 h18 => cReg ?_
    refine stP hf rfl rfl rfl (pM rfl) fun a hf => stP hf rfl rfl rfl (pM rfl) fun a hf => ?_
    obtain ⟨r_2,hr_2,hF⟩ := bnd_some hF
    refine stE hf hc rfl rfl rfl (eC (v := .tuple #[.int .i64 r_2.1,.int .i64 r_2.2.1,.int .i64 r_2.2.2]) (vs := [.int .i64 (W ((W (good + bad)).tdiv 2)),.slice l_p l.length l_c]) (caps := []) en_23 rfl rfl rfl rfl (fun w hc => ref11_Late_ok (W ((W (good + bad)).tdiv 2)) l h_l hc hr_2)) fun a w hf hc => stP hf rfl rfl rfl (pM rfl) fun a hf => stP hf rfl rfl rfl (pX rfl rfl) fun a hf => stP hf rfl rfl rfl (pX rfl rfl) fun a hf => stP hf rfl rfl rfl (pX rfl rfl) fun a hf => stP hf rfl rfl rfl (pA rfl) fun a hf => stP hf rfl rfl rfl (pA rfl) fun a hf => stP hf rfl rfl rfl (pA rfl) fun a hf => cNil ?_
    refine h18 _ _ ?_
    refine wp_seq_k fun K19 h19 => cReg ?_
    refine stP hf rfl rfl rfl (pM rfl) fun a hf => stP hf rfl rfl rfl (pEq rfl rfl) fun a hf => cNil ?_
    refine h19 _ _ ?_
    refine cCond (b := (r_2.1 == (-1))) hf rfl (fun hb => ?_) (fun hb => ?_)
    ·replace hF := condT hb hF
     clear hb
     refine cReg ?_
     refine stP hf rfl rfl rfl (pM rfl) fun a hf => stP hf rfl rfl rfl (pA rfl) fun a hf => cNil ?_
     refine h16 _ _ ?_
     exact hK12 (W ((W (good + bad)).tdiv 2),bad) _ _ (Option.some.inj hF).symm ⟨hf.keep ⟨rfl,rfl,rfl,trivial⟩,hc⟩
    ·replace hF := condF hb hF
     clear hb
     refine cReg ?_
     refine stP hf rfl rfl rfl (pM rfl) fun a hf => stP hf rfl rfl rfl (pA rfl) fun a hf => cNil ?_
     refine h16 _ _ ?_
     exact hK12 (good,W ((W (good + bad)).tdiv 2)) _ _ (Option.some.inj hF).symm ⟨hf.keep ⟨rfl,rfl,rfl,trivial⟩,hc⟩
   ·replace hF := condF hb hF
    clear hb
    refine wp_exit ?_
    refine xThen ?_
    refine xThen ?_
    have he := Option.some.inj hF
    rw [← he] at hfin12
    refine cHit ?_
    exact hr12 _ _ _ hfin12 ⟨hf.keep ⟨rfl,rfl,rfl,trivial⟩,hc⟩

def ref11_Paid_j14 (N : Nat) (out : Int) : Option (Int × Int) :=
 some (out,0)
def ref11_Paid_j19 (N : Nat) (i_1 : Int) (all_1 : Int) (over_1 : Int) : Option (Step (Int × Int × Int) (Int × Int)) :=
 some (.cont (all_1,over_1,W (i_1 + 1)))
def ref11_Paid_b11 (N : Nat) (normal : Int) (minutes : List Int) (all : Int) (over : Int) (i_1 : Int) : Option (Step (Int × Int × Int) (Int × Int)) :=
 cond (decide (i_1 < ((minutes.length : Nat) : Int)))
 (Option.bind (getI minutes i_1) fun e_1 =>
 cond (ref11_outside e_1 0 1440)
 (some (.ret (0,4)))
 (Option.bind (getI minutes i_1) fun e_2 =>
 Option.bind (getI minutes i_1) fun e_3 =>
 cond (decide (normal < e_3))
 (Option.bind (getI minutes i_1) fun e_4 =>
 ref11_Paid_j19 N i_1 (W (all + e_2)) (W ((W (over + e_4)) - normal)))
 (ref11_Paid_j19 N i_1 (W (all + e_2)) over)))
 (some (.brk (all,over,i_1)))
def ref11_Paid (N : Nat) (rate : Int) (normal : Int) (extra : Int) (minutes : List Int) : Option (Int × Int) :=
 cond (((ref11_outside rate 0 10000) || (ref11_outside normal 0 1440)) || (ref11_outside extra 0 1000))
 (some (0,120))
 (cond (decide (366 < ((minutes.length : Nat) : Int)))
 (some (0,3))
 (Option.bind (loopO (fun s11 => ref11_Paid_b11 N normal minutes s11.1 s11.2.1 s11.2.2) N (0,0,0)) fun x11 =>
 exK x11 (fun s11 => cond (decide ((W ((W ((W ((W ((W (rate * 1000)) * s11.1)) + (W ((W (rate * extra)) * s11.2.1)))).tdiv 60000)) * 60000)) < (W ((W ((W (rate * 1000)) * s11.1)) + (W ((W (rate * extra)) * s11.2.1))))))
 (ref11_Paid_j14 N (W ((W ((W ((W ((W (rate * 1000)) * s11.1)) + (W ((W (rate * extra)) * s11.2.1)))).tdiv 60000)) + 1)))
 (ref11_Paid_j14 N (W ((W ((W ((W (rate * 1000)) * s11.1)) + (W ((W (rate * extra)) * s11.2.1)))).tdiv 60000)))) some))
theorem ref11_Paid_ok {N : Nat} {G : Pers} {Lf : List Ent} {w : World} (rate : Int) (normal : Int) (extra : Int) (minutes : List Int) {minutes_p : Option Addr} {minutes_c : Nat} (h_minutes : Rd G 1 minutes_p minutes_c (minutes.map encI_i64)) (hc : Ctx G (Lf) w) {res : Int × Int} (hF : ref11_Paid N rate normal extra minutes = some res) : Calls Tryz.prog 27 #[.int .i64 rate,.int .i64 normal,.int .i64 extra,.slice minutes_p minutes.length minutes_c] w (fun e w => e = .returned (.tuple #[.int .i64 res.1,.int .i64 res.2]) ∧ Ctx G (Lf) w) := by
 unfold ref11_Paid at hF
 refine fnIn (args := [.int .i64 rate,.int .i64 normal,.int .i64 extra,.slice minutes_p minutes.length minutes_c]) Tryz.func27 rfl Tryz.ntmps27 rfl fun a hf => wp_seq_k fun K1 h1 => cReg ?_
 refine stP hf rfl rfl rfl (pA rfl) fun a hf => stP hf rfl rfl rfl (pA rfl) fun a hf => cNil ?_
 refine h1 _ _ ?_
 refine wp_seq_k fun K2 h2 => wp_seq_k fun K3 h3 => cReg ?_
 refine stP hf rfl rfl rfl (pM rfl) fun a hf => stE hf hc rfl rfl rfl (eC (v := .bool (ref11_outside rate 0 10000)) (vs := [.int .i64 rate,.int .i64 0,.int .i64 10000]) (caps := []) en_85 rfl rfl rfl rfl (fun w hc => ref11_outside_ok rate 0 10000 hc rfl)) fun a w hf hc => stP hf rfl rfl rfl (pM rfl) fun a hf => stCut 3 (fun a w => Has 78 a [(0,.int .i64 rate),(1,.int .i64 normal),(2,.int .i64 extra),(3,.slice minutes_p minutes.length minutes_c),(15,.int .i64 rate),(16,.bool (ref11_outside rate 0 10000)),(17,.bool (ref11_outside rate 0 10000)),(20,.bool ((ref11_outside rate 0 10000) || (ref11_outside normal 0 1440)))] ∧ Ctx G (Lf) w) ?_ ?_
 ·cases hb : (ref11_outside rate 0 10000)
  ·rw [hb] at hf
   refine stP hf rfl rfl rfl (pM rfl) fun a hf => stE hf hc rfl rfl rfl (eC (v := .bool (ref11_outside normal 0 1440)) (vs := [.int .i64 normal,.int .i64 0,.int .i64 1440]) (caps := []) en_85 rfl rfl rfl rfl (fun w hc => ref11_outside_ok normal 0 1440 hc rfl)) fun a w hf hc => stP hf rfl rfl rfl (pPf rfl rfl) fun a hf => cNil ⟨hf.keep ⟨rfl,rfl,rfl,rfl,rfl,rfl,rfl,rfl,trivial⟩,hc⟩
  ·rw [hb] at hf
   refine stS hf rfl rfl rfl fun a hf => stS hf rfl rfl rfl fun a hf => stP hf rfl rfl rfl (pPt rfl rfl) fun a hf => cNil ⟨hf.keep ⟨rfl,rfl,rfl,rfl,rfl,rfl,rfl,rfl,trivial⟩,hc⟩
 intro a w ⟨hf,hc⟩
 refine stP hf rfl rfl rfl (pM rfl) fun a hf => stCut 3 (fun a w => Has 78 a [(0,.int .i64 rate),(1,.int .i64 normal),(2,.int .i64 extra),(3,.slice minutes_p minutes.length minutes_c),(15,.int .i64 rate),(16,.bool (ref11_outside rate 0 10000)),(17,.bool (ref11_outside rate 0 10000)),(20,.bool ((ref11_outside rate 0 10000) || (ref11_outside normal 0 1440))),(21,.bool ((ref11_outside rate 0 10000) || (ref11_outside normal 0 1440))),(24,.bool (((ref11_outside rate 0 10000) || (ref11_outside normal 0 1440)) || (ref11_outside extra 0 1000)))] ∧ Ctx G (Lf) w) ?_ ?_
 ·cases hb : ((ref11_outside rate 0 10000) || (ref11_outside normal 0 1440))
  ·rw [hb] at hf
   refine stP hf rfl rfl rfl (pM rfl) fun a hf => stE hf hc rfl rfl rfl (eC (v := .bool (ref11_outside extra 0 1000)) (vs := [.int .i64 extra,.int .i64 0,.int .i64 1000]) (caps := []) en_85 rfl rfl rfl rfl (fun w hc => ref11_outside_ok extra 0 1000 hc rfl)) fun a w hf hc => stP hf rfl rfl rfl (pPf rfl rfl) fun a hf => cNil ⟨hf.keep ⟨rfl,rfl,rfl,rfl,rfl,rfl,rfl,rfl,rfl,rfl,trivial⟩,hc⟩
  ·rw [hb] at hf
   refine stS hf rfl rfl rfl fun a hf => stS hf rfl rfl rfl fun a hf => stP hf rfl rfl rfl (pPt rfl rfl) fun a hf => cNil ⟨hf.keep ⟨rfl,rfl,rfl,rfl,rfl,rfl,rfl,rfl,rfl,rfl,trivial⟩,hc⟩
 intro a w ⟨hf,hc⟩
 refine cNil ?_
 refine h3 _ _ ?_
 refine cCond (b := (((ref11_outside rate 0 10000) || (ref11_outside normal 0 1440)) || (ref11_outside extra 0 1000))) hf rfl (fun hb => ?_) (fun hb => ?_)
 ·replace hF := condT hb hF
  clear hb
  refine wp_seq_k fun K4 h4 => cReg ?_
  refine stP hf rfl rfl rfl (pA rfl) fun a hf => stP hf rfl rfl rfl (pA rfl) fun a hf => cNil ?_
  refine h4 _ _ ?_
  refine wp_ret ?_
  refine xThenR ?_
  obtain rfl := Option.some.inj hF
  exact fnOut2 (by simp) rfl Tryz.results27 hf hc (show look _ 8 = _ from rfl) (show look _ 9 = _ from rfl) ⟨rfl,hc⟩
 ·replace hF := condF hb hF
  clear hb
  refine wp_skip ?_
  refine h2 _ _ ?_
  refine wp_seq_k fun K5 h5 => wp_seq_k fun K6 h6 => cReg ?_
  refine stP hf rfl rfl rfl (pM rfl) fun a hf => stP hf rfl rfl rfl (pLenS Tryz.underlying25 rfl) fun a hf => stP hf rfl rfl rfl (pGt rfl rfl) fun a hf => cNil ?_
  refine h6 _ _ ?_
  refine cCond (b := (decide (366 < ((minutes.length : Nat) : Int)))) hf rfl (fun hb => ?_) (fun hb => ?_)
  ·replace hF := condT hb hF
   clear hb
   refine wp_seq_k fun K7 h7 => cReg ?_
   refine stP hf rfl rfl rfl (pA rfl) fun a hf => stP hf rfl rfl rfl (pA rfl) fun a hf => cNil ?_
   refine h7 _ _ ?_
   refine wp_ret ?_
   refine xThenR ?_
   obtain rfl := Option.some.inj hF
   exact fnOut2 (by simp) rfl Tryz.results27 hf hc (show look _ 8 = _ from rfl) (show look _ 9 = _ from rfl) ⟨rfl,hc⟩
  ·replace hF := condF hb hF
   clear hb
   refine wp_skip ?_
   refine h5 _ _ ?_
   refine wp_seq_k fun K8 h8 => cReg ?_
   refine stP hf rfl rfl rfl (pA rfl) fun a hf => stP hf rfl rfl rfl (pA rfl) fun a hf => cNil ?_
   refine h8 _ _ ?_
   refine wp_seq_k fun K9 h9 => wp_seq_k fun K10 h10 => cReg ?_
   refine stP hf rfl rfl rfl (pA rfl) fun a hf => cNil ?_
   refine h10 _ _ ?_
   refine wp_block ?_
   obtain ⟨x11,hx11,hF⟩ := bnd_some hF
   let S11 : (Int × Int × Int) → Act → World → Prop := (fun (zz : Int × Int × Int) a w => Has 78 a [(0,.int .i64 rate),(1,.int .i64 normal),(2,.int .i64 extra),(3,.slice minutes_p minutes.length minutes_c),(10,.int .i64 zz.1),(11,.int .i64 zz.2.1),(12,.int .i64 zz.2.2)] ∧ Ctx G (Lf) w)
   have hr11 : ∀ (zz : Int × Int × Int) a w,x11 = .go zz → S11 zz a w → K9 a w := by
    rintro ⟨all,over,i_1⟩ a w rfl ⟨hf,hc⟩
    replace hF := exK_go hF
    refine h9 _ _ ?_
    refine wp_seq_k fun K12 h12 => cReg ?_
    refine stP hf rfl rfl rfl (pM rfl) fun a hf => stP hf rfl rfl rfl (pMul rfl rfl) fun a hf => stP hf rfl rfl rfl (pM rfl) fun a hf => stP hf rfl rfl rfl (pMul rfl rfl) fun a hf => stP hf rfl rfl rfl (pM rfl) fun a hf => stP hf rfl rfl rfl (pM rfl) fun a hf => stP hf rfl rfl rfl (pMul rfl rfl) fun a hf => stP hf rfl rfl rfl (pM rfl) fun a hf => stP hf rfl rfl rfl (pMul rfl rfl) fun a hf => stP hf rfl rfl rfl (pAdd rfl rfl) fun a hf => stP hf rfl rfl rfl (pA rfl) fun a hf => cNil ?_
    refine h12 _ _ ?_
    refine wp_seq_k fun K13 h13 => cReg ?_
    refine stP hf rfl rfl rfl (pM rfl) fun a hf => stP hf rfl rfl rfl (pQuo rfl rfl (by decide)) fun a hf => stP hf rfl rfl rfl (pA rfl) fun a hf => cNil ?_
    refine h13 _ _ ?_
    refine wp_seq_k fun K14 h14 => ?_
    have hj14 : ∀ (out : Int) a w,Has 78 a [(14,.int .i64 out)] → Ctx G (Lf) w → ref11_Paid_j14 N out = some res → K14 a w := by
     repeat (clear hF)
     repeat (clear hc)
     repeat (clear hf)
     intro out a w hf hc hF
     unfold ref11_Paid_j14 at hF
     refine h14 _ _ ?_
     refine wp_seq_k fun K15 h15 => cReg ?_
     refine stP hf rfl rfl rfl (pM rfl) fun a hf => stP hf rfl rfl rfl (pA rfl) fun a hf => stP hf rfl rfl rfl (pA rfl) fun a hf => cNil ?_
     refine h15 _ _ ?_
     refine wp_ret ?_
     obtain rfl := Option.some.inj hF
     exact fnOut2 (by simp) rfl Tryz.results27 hf hc (show look _ 8 = _ from rfl) (show look _ 9 = _ from rfl) ⟨rfl,hc⟩
    refine wp_seq_k fun K16 h16 => cReg ?_
    refine stP hf rfl rfl rfl (pM rfl) fun a hf => stP hf rfl rfl rfl (pMul rfl rfl) fun a hf => stP hf rfl rfl rfl (pM rfl) fun a hf => stP hf rfl rfl rfl (pLt rfl rfl) fun a hf => cNil ?_
    refine h16 _ _ ?_
    refine cCond (b := (decide ((W ((W ((W ((W ((W (rate * 1000)) * all)) + (W ((W (rate * extra)) * over)))).tdiv 60000)) * 60000)) < (W ((W ((W (rate * 1000)) * all)) + (W ((W (rate * extra)) * over))))))) hf rfl (fun hb => ?_) (fun hb => ?_)
    ·replace hF := condT hb hF
     clear hb
     refine cReg ?_
     refine stP hf rfl rfl rfl (pM rfl) fun a hf => stP hf rfl rfl rfl (pAdd rfl rfl) fun a hf => stP hf rfl rfl rfl (pA rfl) fun a hf => cNil ?_
     exact hj14 (W ((W ((W ((W ((W (rate * 1000)) * all)) + (W ((W (rate * extra)) * over)))).tdiv 60000)) + 1)) _ _  (hf.keep ⟨rfl,trivial⟩) hc hF
    ·replace hF := condF hb hF
     clear hb
     refine wp_skip ?_
     exact hj14 (W ((W ((W ((W (rate * 1000)) * all)) + (W ((W (rate * extra)) * over)))).tdiv 60000)) _ _  (hf.keep ⟨rfl,trivial⟩) hc hF
   have ho11 : ∀ r,x11 = .out r → r = res := by
    rintro r rfl
    exact Option.some.inj hF
   refine cLoop N (loopW (S := S11) (x := x11) ?_ N (0,0,0) _ _ ⟨hf.keep ⟨rfl,rfl,rfl,rfl,rfl,rfl,rfl,trivial⟩,hc⟩ hx11)
   clear hF hf hc
   rintro ⟨all,over,i_1⟩ st11 a w KB11 ⟨hf,hc⟩ hF hfin11 hK11
   unfold ref11_Paid_b11 at hF
   refine wp_seq_k fun K17 h17 => wp_seq_k fun K18 h18 => cReg ?_
   refine stP hf rfl rfl rfl (pM rfl) fun a hf => stP hf rfl rfl rfl (pM rfl) fun a hf => stP hf rfl rfl rfl (pLenS Tryz.underlying25 rfl) fun a hf => stP hf rfl rfl rfl (pLt rfl rfl) fun a hf => cNil ?_
   refine h18 _ _ ?_
   refine cCond (b := (decide (i_1 < ((minutes.length : Nat) : Int)))) hf rfl (fun hb => ?_) (fun hb => ?_)
   ·replace hF := condT hb hF
    clear hb
    refine wp_skip ?_
    refine h17 _ _ ?_
    refine wp_seq_k fun K19 h19 => ?_
    have hj19 : ∀ (all_1 : Int) (over_1 : Int) a w,Has 78 a [(0,.int .i64 rate),(1,.int .i64 normal),(2,.int .i64 extra),(3,.slice minutes_p minutes.length minutes_c),(10,.int .i64 all_1),(11,.int .i64 over_1),(12,.int .i64 i_1)] → Ctx G (Lf) w → ref11_Paid_j19 N i_1 all_1 over_1 = some st11 → K19 a w := by
     repeat (clear hF)
     repeat (clear hc)
     repeat (clear hf)
     intro all_1 over_1 a w hf hc hF
     unfold ref11_Paid_j19 at hF
     refine h19 _ _ ?_
     refine cReg ?_
     refine stP hf rfl rfl rfl (pM rfl) fun a hf => stP hf rfl rfl rfl (pAdd rfl rfl) fun a hf => stP hf rfl rfl rfl (pA rfl) fun a hf => cNil ?_
     exact hK11 (all_1,over_1,W (i_1 + 1)) _ _ (Option.some.inj hF).symm ⟨hf.keep ⟨rfl,rfl,rfl,rfl,rfl,rfl,rfl,trivial⟩,hc⟩
    refine wp_block ?_
    refine wp_seq_k fun K20 h20 => wp_seq_k fun K21 h21 => cReg ?_
    refine stP hf rfl rfl rfl (pM rfl) fun a hf => stP hf rfl rfl rfl (pM rfl) fun a hf => ?_
    obtain ⟨e_1,he_1,hF⟩ := bnd_some hF
    obtain ⟨b_1,o,qa,qp⟩ := h_minutes.atm he_1
    refine stP hf rfl rfl rfl (pIA Tryz.underlying25 sz_3 rfl rfl qa) fun a hf => stE hf hc rfl rfl rfl (eLd1 sc_3 rfl (cell_pc (j := 0) qp rfl)) fun a w hf hc => stE hf hc rfl rfl rfl (eC (v := .bool (ref11_outside e_1 0 1440)) (vs := [.int .i64 e_1,.int .i64 0,.int .i64 1440]) (caps := []) en_85 rfl rfl rfl rfl (fun w hc => ref11_outside_ok e_1 0 1440 hc rfl)) fun a w hf hc => cNil ?_
    refine h21 _ _ ?_
    refine cCond (b := (ref11_outside e_1 0 1440)) hf rfl (fun hb => ?_) (fun hb => ?_)
    ·replace hF := condT hb hF
     clear hb
     refine wp_seq_k fun K22 h22 => cReg ?_
     refine stP hf rfl rfl rfl (pA rfl) fun a hf => stP hf rfl rfl rfl (pA rfl) fun a hf => cNil ?_
     refine h22 _ _ ?_
     refine wp_ret ?_
     refine xThenR ?_
     refine xBlkR ?_
     refine xThenR ?_
     refine xThenR ?_
     have he := Option.some.inj hF
     rw [← he] at hfin11
     replace hF := ho11 _ hfin11
     refine xBlkR ?_
     refine xThenR ?_
     obtain rfl := hF
     exact fnOut2 (by simp) rfl Tryz.results27 hf hc (show look _ 8 = _ from rfl) (show look _ 9 = _ from rfl) ⟨rfl,hc⟩
    ·replace hF := condF hb hF
     clear hb
     refine wp_skip ?_
     refine h20 _ _ ?_
     refine wp_seq_k fun K23 h23 => cReg ?_
     refine stP hf rfl rfl rfl (pM rfl) fun a hf => stP hf rfl rfl rfl (pM rfl) fun a hf => stP hf rfl rfl rfl (pM rfl) fun a hf => ?_
     obtain ⟨e_2,he_2,hF⟩ := bnd_some hF
     obtain ⟨b_2,o_1,qa_1,qp_1⟩ := h_minutes.atm he_2
     refine stP hf rfl rfl rfl (pIA Tryz.underlying25 sz_3 rfl rfl qa_1) fun a hf => stE hf hc rfl rfl rfl (eLd1 sc_3 rfl (cell_pc (j := 0) qp_1 rfl)) fun a w hf hc => stP hf rfl rfl rfl (pAdd rfl rfl) fun a hf => stP hf rfl rfl rfl (pA rfl) fun a hf => cNil ?_
     refine h23 _ _ ?_
     refine wp_seq_k fun K24 h24 => cReg ?_
     refine stP hf rfl rfl rfl (pM rfl) fun a hf => stP hf rfl rfl rfl (pM rfl) fun a hf => ?_
     obtain ⟨e_3,he_3,hF⟩ := bnd_some hF
     obtain ⟨b_3,o_2,qa_2,qp_2⟩ := h_minutes.atm he_3
     refine stP hf rfl rfl rfl (pIA Tryz.underlying25 sz_3 rfl rfl qa_2) fun a hf => stE hf hc rfl rfl rfl (eLd1 sc_3 rfl (cell_pc (j := 0) qp_2 rfl)) fun a w hf hc => stP hf rfl rfl rfl (pM rfl) fun a hf => stP hf rfl rfl rfl (pGt rfl rfl) fun a hf => cNil ?_
     refine h24 _ _ ?_
     refine cCond (b := (decide (normal < e_3))) hf rfl (fun hb => ?_) (fun hb => ?_)
     ·replace hF := condT hb hF
      clear hb
      refine cReg ?_
      refine stP hf rfl rfl rfl (pM rfl) fun a hf => stP hf rfl rfl rfl (pM rfl) fun a hf => stP hf rfl rfl rfl (pM rfl) fun a hf => ?_
      obtain ⟨e_4,he_4,hF⟩ := bnd_some hF
      obtain ⟨b_4,o_3,qa_3,qp_3⟩ := h_minutes.atm he_4
      refine stP hf rfl rfl rfl (pIA Tryz.underlying25 sz_3 rfl rfl qa_3) fun a hf => stE hf hc rfl rfl rfl (eLd1 sc_3 rfl (cell_pc (j := 0) qp_3 rfl)) fun a w hf hc => stP hf rfl rfl rfl (pAdd rfl rfl) fun a hf => stP hf rfl rfl rfl (pM rfl) fun a hf => stP hf rfl rfl rfl (pSub rfl rfl) fun a hf => stP hf rfl rfl rfl (pA rfl) fun a hf => cNil ?_
      exact hj19 (W (all + e_2)) (W ((W (over + e_4)) - normal)) _ _  (hf.keep ⟨rfl,rfl,rfl,rfl,rfl,rfl,rfl,trivial⟩) hc hF
     ·replace hF := condF hb hF
      clear hb
      refine wp_skip ?_
      exact hj19 (W (all + e_2)) over _ _  (hf.keep ⟨rfl,rfl,rfl,rfl,rfl,rfl,rfl,trivial⟩) hc hF
   ·replace hF := condF hb hF
    clear hb
    refine wp_exit ?_
    refine xThen ?_
    refine xThen ?_
    have he := Option.some.inj hF
    rw [← he] at hfin11
    refine cHit ?_
    exact hr11 _ _ _ hfin11 ⟨hf.keep ⟨rfl,rfl,rfl,rfl,rfl,rfl,rfl,trivial⟩,hc⟩

def kit_Same_crew_Visit_b7 (N : Nat) (a_ : List crew_Visit) (b_ : List crew_Visit) (i_1 : Int) : Option (Step (Int) (Bool)) :=
 cond (decide (i_1 < ((a_.length : Nat) : Int)))
 (Option.bind (getI a_ i_1) fun e_1 =>
 Option.bind (getI b_ i_1) fun e_2 =>
 cond (!(e_1.Way.Lo == e_2.Way.Lo && e_1.Way.Hi == e_2.Way.Hi && e_1.Work.Lo == e_2.Work.Lo && e_1.Work.Hi == e_2.Work.Hi && e_1.Open == e_2.Open && e_1.Close == e_2.Close))
 (some (.ret false))
 (some (.cont (W (i_1 + 1)))))
 (some (.brk i_1))
def kit_Same_crew_Visit (N : Nat) (a_ : List crew_Visit) (b_ : List crew_Visit) : Option (Bool) :=
 cond (((a_.length : Nat) : Int) != ((b_.length : Nat) : Int))
 (some false)
 (Option.bind (loopO (fun s7 => kit_Same_crew_Visit_b7 N a_ b_ s7) N 0) fun x7 =>
 exK x7 (fun s7 => some true) some)
theorem kit_Same_crew_Visit_ok {N : Nat} {G : Pers} {Lf : List Ent} {w : World} (a_ : List crew_Visit) (b_ : List crew_Visit) {a__p : Option Addr} {a__c : Nat} {b__p : Option Addr} {b__c : Nat} (h_a_ : Rd G 6 a__p a__c (a_.map enc_crew_Visit)) (h_b_ : Rd G 6 b__p b__c (b_.map enc_crew_Visit)) (hc : Ctx G (Lf) w) {res : Bool} (hF : kit_Same_crew_Visit N a_ b_ = some res) : Calls Tryz.prog 28 #[.slice a__p a_.length a__c,.slice b__p b_.length b__c] w (fun e w => e = .returned (.bool res) ∧ Ctx G (Lf) w) := by
 unfold kit_Same_crew_Visit at hF
 refine fnIn (args := [.slice a__p a_.length a__c,.slice b__p b_.length b__c]) Tryz.func28 rfl Tryz.ntmps28 rfl fun a hf => wp_seq_k fun K1 h1 => cReg ?_
 refine stP hf rfl rfl rfl (pA rfl) fun a hf => cNil ?_
 refine h1 _ _ ?_
 refine wp_seq_k fun K2 h2 => wp_seq_k fun K3 h3 => cReg ?_
 refine stP hf rfl rfl rfl (pM rfl) fun a hf => stP hf rfl rfl rfl (pLenS Tryz.underlying22 rfl) fun a hf => stP hf rfl rfl rfl (pM rfl) fun a hf => stP hf rfl rfl rfl (pLenS Tryz.underlying22 rfl) fun a hf => stP hf rfl rfl rfl (pNe rfl rfl) fun a hf => cNil ?_
 refine h3 _ _ ?_
 refine cCond (b := (((a_.length : Nat) : Int) != ((b_.length : Nat) : Int))) hf rfl (fun hb => ?_) (fun hb => ?_)
 ·replace hF := condT hb hF
  clear hb
  refine wp_seq_k fun K4 h4 => cReg ?_
  refine stP hf rfl rfl rfl (pA rfl) fun a hf => cNil ?_
  refine h4 _ _ ?_
  refine wp_ret ?_
  refine xThenR ?_
  obtain rfl := Option.some.inj hF
  exact fnOut1 (by simp) rfl Tryz.results28 hf hc (show look _ 4 = _ from rfl) ⟨rfl,hc⟩
 ·replace hF := condF hb hF
  clear hb
  refine wp_skip ?_
  refine h2 _ _ ?_
  refine wp_seq_k fun K5 h5 => wp_seq_k fun K6 h6 => cReg ?_
  refine stP hf rfl rfl rfl (pA rfl) fun a hf => cNil ?_
  refine h6 _ _ ?_
  refine wp_block ?_
  obtain ⟨x7,hx7,hF⟩ := bnd_some hF
  let S7 : Int → Act → World → Prop := (fun (zz : Int) a w => Has 26 a [(0,.slice a__p a_.length a__c),(1,.slice b__p b_.length b__c),(5,.int .i64 zz)] ∧ Ctx G (Lf) w)
  have hr7 : ∀ (zz : Int) a w,x7 = .go zz → S7 zz a w → K5 a w := by
   rintro i_1 a w rfl ⟨hf,hc⟩
   replace hF := exK_go hF
   refine h5 _ _ ?_
   refine wp_seq_k fun K8 h8 => cReg ?_
   refine stP hf rfl rfl rfl (pA rfl) fun a hf => cNil ?_
   refine h8 _ _ ?_
   refine wp_ret ?_
   obtain rfl := Option.some.inj hF
   exact fnOut1 (by simp) rfl Tryz.results28 hf hc (show look _ 4 = _ from rfl) ⟨rfl,hc⟩
  have ho7 : ∀ r,x7 = .out r → r = res := by
   rintro r rfl
   exact Option.some.inj hF
  refine cLoop N (loopW (S := S7) (x := x7) ?_ N 0 _ _ ⟨hf.keep ⟨rfl,rfl,rfl,trivial⟩,hc⟩ hx7)
  clear hF hf hc
  rintro i_1 st7 a w KB7 ⟨hf,hc⟩ hF hfin7 hK7
  unfold kit_Same_crew_Visit_b7 at hF
  refine wp_seq_k fun K9 h9 => wp_seq_k fun K10 h10 => cReg ?_
  refine stP hf rfl rfl rfl (pM rfl) fun a hf => stP hf rfl rfl rfl (pM rfl) fun a hf => stP hf rfl rfl rfl (pLenS Tryz.underlying22 rfl) fun a hf => stP hf rfl rfl rfl (pLt rfl rfl) fun a hf => cNil ?_
  refine h10 _ _ ?_
  refine cCond (b := (decide (i_1 < ((a_.length : Nat) : Int)))) hf rfl (fun hb => ?_) (fun hb => ?_)
  ·replace hF := condT hb hF
   clear hb
   refine wp_skip ?_
   refine h9 _ _ ?_
   refine wp_seq_k fun K11 h11 => wp_block ?_
   refine wp_seq_k fun K12 h12 => ?_
   obtain ⟨e_1,he_1,hF⟩ := bnd_some hF
   obtain ⟨b_1,o,qa,qp⟩ := h_a_.atm he_1
   obtain ⟨e_2,he_2,hF⟩ := bnd_some hF
   obtain ⟨b_2,o_1,qa_1,qp_1⟩ := h_b_.atm he_2
   refine cQ hc follows_mx (by kernel_rfl) ?_
   refine qE hf rfl rfl rfl (Pu.ev (pM rfl)) fun a hf => qE hf rfl rfl rfl (Pu.ev (pM rfl)) fun a hf => qE hf rfl rfl rfl (Pu.ev (pIA Tryz.underlying22 sz_31 rfl rfl qa)) fun a hf => qE hf rfl rfl rfl (eLdN (vs := [.int .i64 e_1.Way.Lo,.int .i64 e_1.Way.Hi,.int .i64 e_1.Work.Lo,.int .i64 e_1.Work.Hi,.int .i64 e_1.Open,.int .i64 e_1.Close]) ag_31 rfl rfl (cells_pc qp (n := 6) (o' := 0) rfl)) fun a hf => qE hf rfl rfl rfl (Pu.ev (pM rfl)) fun a hf => qE hf rfl rfl rfl (Pu.ev (pM rfl)) fun a hf => qE hf rfl rfl rfl (Pu.ev (pIA Tryz.underlying22 sz_31 rfl rfl qa_1)) fun a hf => qE hf rfl rfl rfl (eLdN (vs := [.int .i64 e_2.Way.Lo,.int .i64 e_2.Way.Hi,.int .i64 e_2.Work.Lo,.int .i64 e_2.Work.Hi,.int .i64 e_2.Open,.int .i64 e_2.Close]) ag_31 rfl rfl (cells_pc qp_1 (n := 6) (o' := 0) rfl)) fun a hf => qE hf rfl rfl rfl (Pu.ev (pNeA ge_31 rfl rfl (eqs_31 _ _ _ _ _ _ _ _ _ _ _ _))) fun a hf => ?_
   intro w hc
   refine h12 _ _ ?_
   refine cCond (b := (!(e_1.Way.Lo == e_2.Way.Lo && e_1.Way.Hi == e_2.Way.Hi && e_1.Work.Lo == e_2.Work.Lo && e_1.Work.Hi == e_2.Work.Hi && e_1.Open == e_2.Open && e_1.Close == e_2.Close))) hf rfl (fun hb => ?_) (fun hb => ?_)
   ·replace hF := condT hb hF
    clear hb
    refine wp_seq_k fun K13 h13 => cReg ?_
    refine stP hf rfl rfl rfl (pA rfl) fun a hf => cNil ?_
    refine h13 _ _ ?_
    refine wp_ret ?_
    refine xBlkR ?_
    refine xThenR ?_
    refine xThenR ?_
    have he := Option.some.inj hF
    rw [← he] at hfin7
    replace hF := ho7 _ hfin7
    refine xBlkR ?_
    refine xThenR ?_
    obtain rfl := hF
    exact fnOut1 (by simp) rfl Tryz.results28 hf hc (show look _ 4 = _ from rfl) ⟨rfl,hc⟩
   ·replace hF := condF hb hF
    clear hb
    refine wp_skip ?_
    refine h11 _ _ ?_
    refine cReg ?_
    refine stP hf rfl rfl rfl (pM rfl) fun a hf => stP hf rfl rfl rfl (pAdd rfl rfl) fun a hf => stP hf rfl rfl rfl (pA rfl) fun a hf => cNil ?_
    exact hK7 (W (i_1 + 1)) _ _ (Option.some.inj hF).symm ⟨hf.keep ⟨rfl,rfl,rfl,trivial⟩,hc⟩
  ·replace hF := condF hb hF
   clear hb
   refine wp_exit ?_
   refine xThen ?_
   refine xThen ?_
   have he := Option.some.inj hF
   rw [← he] at hfin7
   refine cHit ?_
   exact hr7 _ _ _ hfin7 ⟨hf.keep ⟨rfl,rfl,rfl,trivial⟩,hc⟩

def law11_CrewRounds (N : Nat) (start : Int) (l : List crew_Visit) (p_ : crew_Pay) (minutes : List Int) : Option (Bool) :=
 cond ((decide (25 < ((l.length : Nat) : Int))) || (decide (370 < ((minutes.length : Nat) : Int))))
 (Option.bind (law11_awake N) fun r =>
 some r)
 (Option.bind (kit_Copy_crew_Visit N l) fun r_1 =>
 Option.bind (kit_Copy_int N minutes) fun r_2 =>
 Option.bind (crew_Hours N start r_1) fun r_3 =>
 Option.bind (law11_visits N l) fun r_4 =>
 Option.bind (ref11_Hours N start r_4) fun r_5 =>
 Option.bind (kit_Same_api_Span N r_3.1 r_5.1) fun r_6 =>
 cond ((!r_6) || (r_3.2 != r_5.2))
 (some false)
 (Option.bind (crew_Late N start r_1) fun r_7 =>
 Option.bind (law11_visits N l) fun r_8 =>
 Option.bind (ref11_Late N start r_8) fun r_9 =>
 cond (((r_7.1 != r_9.1) || (r_7.2.1 != r_9.2.1)) || (r_7.2.2 != r_9.2.2))
 (some false)
 (Option.bind (crew_Latest N r_1) fun r_10 =>
 Option.bind (law11_visits N l) fun r_11 =>
 Option.bind (ref11_Latest N r_11) fun r_12 =>
 cond ((r_10.1 != r_12.1) || (r_10.2 != r_12.2))
 (some false)
 (Option.bind (crew_Paid N p_ r_2) fun r_13 =>
 Option.bind (ref11_Paid N p_.Rate p_.Normal p_.Extra minutes) fun r_14 =>
 Option.bind (cond ((r_13.1 == r_14.1) && (r_13.2 == r_14.2)) (Option.bind (kit_Same_crew_Visit N r_1 l) fun r_15 =>
 some r_15) (some false)) fun t_1 =>
 Option.bind (cond t_1 (Option.bind (kit_Same_int N r_2 minutes) fun r_16 =>
 some r_16) (some false)) fun t_2 =>
 Option.bind (cond t_2 (Option.bind (law11_awake N) fun r_17 =>
 some r_17) (some false)) fun t_3 =>
 some t_3))))
theorem law11_CrewRounds_ok {N : Nat} {G : Pers} {Lf : List Ent} {w : World} (start : Int) (l : List crew_Visit) (p_ : crew_Pay) (minutes : List Int) {l_p : Option Addr} {l_c : Nat} {minutes_p : Option Addr} {minutes_c : Nat} (h_l : Rd G 6 l_p l_c (l.map enc_crew_Visit)) (h_minutes : Rd G 1 minutes_p minutes_c (minutes.map encI_i64)) (hc : Ctx G (Lf) w) {res : Bool} (hF : law11_CrewRounds N start l p_ minutes = some res) : Calls Tryz.prog 3 #[.int .i64 start,.slice l_p l.length l_c,.agg #[.int .i64 p_.Rate,.int .i64 p_.Normal,.int .i64 p_.Extra],.slice minutes_p minutes.length minutes_c] w (fun e w => e = .returned (.bool res) ∧ Ctx G (Lf) w) := by
 unfold law11_CrewRounds at hF
 refine fnIn (args := [.int .i64 start,.slice l_p l.length l_c,.agg #[.int .i64 p_.Rate,.int .i64 p_.Normal,.int .i64 p_.Extra],.slice minutes_p minutes.length minutes_c]) Tryz.func3 rfl Tryz.ntmps3 rfl fun a hf => wp_seq_k fun K1 h1 => cReg ?_
 refine stBx (cs := [.int .i64 p_.Rate,.int .i64 p_.Normal,.int .i64 p_.Extra]) hf hc rfl rfl rfl rfl fun b_1 a w hf hc => stP hf rfl rfl rfl (pA rfl) fun a hf => cNil ?_
 refine h1 _ _ ?_
 refine wp_seq_k fun K2 h2 => wp_seq_k fun K3 h3 => cReg ?_
 refine stP hf rfl rfl rfl (pM rfl) fun a hf => stP hf rfl rfl rfl (pLenS Tryz.underlying22 rfl) fun a hf => stP hf rfl rfl rfl (pGt rfl rfl) fun a hf => stP hf rfl rfl rfl (pM rfl) fun a hf => stCut 4 (fun a w => Has 141 a [(0,.int .i64 start),(1,.slice l_p l.length l_c),(3,.slice minutes_p minutes.length minutes_c),(6,.pointer (some ⟨b_1,0,none⟩)),(21,.slice l_p l.length l_c),(22,.int .i64 ((l.length : Nat) : Int)),(23,.bool (decide (25 < ((l.length : Nat) : Int)))),(24,.bool (decide (25 < ((l.length : Nat) : Int)))),(28,.bool ((decide (25 < ((l.length : Nat) : Int))) || (decide (370 < ((minutes.length : Nat) : Int)))))] ∧ Ctx G (.box b_1 [.int .i64 p_.Rate,.int .i64 p_.Normal,.int .i64 p_.Extra] 24::Lf) w) ?_ ?_
 ·cases hb : (decide (25 < ((l.length : Nat) : Int)))
  ·rw [hb] at hf
   refine stP hf rfl rfl rfl (pM rfl) fun a hf => stP hf rfl rfl rfl (pLenS Tryz.underlying25 rfl) fun a hf => stP hf rfl rfl rfl (pGt rfl rfl) fun a hf => stP hf rfl rfl rfl (pPf rfl rfl) fun a hf => cNil ⟨hf.keep ⟨rfl,rfl,rfl,rfl,rfl,rfl,rfl,rfl,rfl,trivial⟩,hc⟩
  ·rw [hb] at hf
   refine stS hf rfl rfl rfl fun a hf => stS hf rfl rfl rfl fun a hf => stS hf rfl rfl rfl fun a hf => stP hf rfl rfl rfl (pPt rfl rfl) fun a hf => cNil ⟨hf.keep ⟨rfl,rfl,rfl,rfl,rfl,rfl,rfl,rfl,rfl,trivial⟩,hc⟩
 intro a w ⟨hf,hc⟩
 refine cNil ?_
 refine h3 _ _ ?_
 refine cCond (b := ((decide (25 < ((l.length : Nat) : Int))) || (decide (370 < ((minutes.length : Nat) : Int))))) hf rfl (fun hb => ?_) (fun hb => ?_)
 ·replace hF := condT hb hF
  clear hb
  refine wp_seq_k fun K4 h4 => cReg ?_
  obtain ⟨r,hr,hF⟩ := bnd_some hF
  refine stE hf hc rfl rfl rfl (eC (v := .bool r) (vs := []) (caps := []) en_15 rfl rfl rfl rfl (fun w hc => law11_awake_ok hc hr)) fun a w hf hc => stP hf rfl rfl rfl (pA rfl) fun a hf => cNil ?_
  refine h4 _ _ ?_
  refine wp_ret ?_
  refine xThenR ?_
  obtain rfl := Option.some.inj hF
  replace hc := hc.drop k0
  exact fnOut1 (by simp) rfl Tryz.results3 hf hc (show look _ 8 = _ from rfl) ⟨rfl,hc⟩
 ·replace hF := condF hb hF
  clear hb
  refine wp_skip ?_
  refine h2 _ _ ?_
  refine wp_seq_k fun K5 h5 => cReg ?_
  refine stP hf rfl rfl rfl (pM rfl) fun a hf => ?_
  obtain ⟨r_1,hr_1,hF⟩ := bnd_some hF
  refine stC (vs := [.slice l_p l.length l_c]) (caps := []) hf rfl rfl rfl en_16 rfl rfl rfl rfl (kit_Copy_crew_Visit_ok l h_l hc hr_1) ?_
  rintro _ w ⟨p_1,c_1,rfl,hc⟩
  refine ⟨_,rfl,fun a hf => ?_⟩
  refine stP hf rfl rfl rfl (pM rfl) fun a hf => ?_
  obtain ⟨r_2,hr_2,hF⟩ := bnd_some hF
  refine stC (vs := [.slice minutes_p minutes.length minutes_c]) (caps := []) hf rfl rfl rfl en_17 rfl rfl rfl rfl (kit_Copy_int_ok minutes h_minutes hc hr_2) ?_
  rintro _ w ⟨p_2,c_2,rfl,hc⟩
  refine ⟨_,rfl,fun a hf => ?_⟩
  refine stP hf rfl rfl rfl (pA rfl) fun a hf => stP hf rfl rfl rfl (pA rfl) fun a hf => cNil ?_
  refine h5 _ _ ?_
  refine wp_seq_k fun K6 h6 => cReg ?_
  refine stP hf rfl rfl rfl (pM rfl) fun a hf => stP hf rfl rfl rfl (pM rfl) fun a hf => ?_
  obtain ⟨r_3,hr_3,hF⟩ := bnd_some hF
  obtain ⟨G1,hle1,hrd1,hc,hth1⟩ := lend hc k1
  refine stC (vs := [.int .i64 start,.slice p_1 r_1.length c_1]) (caps := []) hf rfl rfl rfl en_18 rfl rfl rfl rfl (crew_Hours_ok start r_1 hrd1 hc hr_3) ?_
  rintro _ w ⟨p_3,c_3,rfl,hc⟩
  refine ⟨_,rfl,fun a hf => ?_⟩
  replace hc := hth1 _ _ hc
  refine stP hf rfl rfl rfl (pM rfl) fun a hf => stP hf rfl rfl rfl (pX rfl rfl) fun a hf => stP hf rfl rfl rfl (pX rfl rfl) fun a hf => stP hf rfl rfl rfl (pA rfl) fun a hf => stP hf rfl rfl rfl (pA rfl) fun a hf => cNil ?_
  refine h6 _ _ ?_
  refine wp_seq_k fun K7 h7 => cReg ?_
  refine stP hf rfl rfl rfl (pM rfl) fun a hf => stP hf rfl rfl rfl (pM rfl) fun a hf => ?_
  obtain ⟨r_4,hr_4,hF⟩ := bnd_some hF
  refine stC (vs := [.slice l_p l.length l_c]) (caps := []) hf rfl rfl rfl en_20 rfl rfl rfl rfl (law11_visits_ok l h_l hc hr_4) ?_
  rintro _ w ⟨p_4,c_4,rfl,hc⟩
  refine ⟨_,rfl,fun a hf => ?_⟩
  obtain ⟨r_5,hr_5,hF⟩ := bnd_some hF
  obtain ⟨G1,hle1,hrd1,hc,hth1⟩ := lend hc k0
  refine stC (vs := [.int .i64 start,.slice p_4 r_4.length c_4]) (caps := []) hf rfl rfl rfl en_19 rfl rfl rfl rfl (ref11_Hours_ok start r_4 hrd1 hc hr_5) ?_
  rintro _ w ⟨p_5,c_5,rfl,hc⟩
  refine ⟨_,rfl,fun a hf => ?_⟩
  replace hc := hth1 _ _ hc
  refine stP hf rfl rfl rfl (pM rfl) fun a hf => stP hf rfl rfl rfl (pX rfl rfl) fun a hf => stP hf rfl rfl rfl (pX rfl rfl) fun a hf => stP hf rfl rfl rfl (pA rfl) fun a hf => stP hf rfl rfl rfl (pA rfl) fun a hf => cNil ?_
  refine h7 _ _ ?_
  refine wp_seq_k fun K8 h8 => wp_seq_k fun K9 h9 => cReg ?_
  refine stP hf rfl rfl rfl (pM rfl) fun a hf => stP hf rfl rfl rfl (pM rfl) fun a hf => ?_
  obtain ⟨r_6,hr_6,hF⟩ := bnd_some hF
  refine stE hf hc rfl rfl rfl (eC (v := .bool r_6) (vs := [.slice p_3 r_3.1.length c_3,.slice p_5 r_5.1.length c_5]) (caps := []) en_21 rfl rfl rfl rfl (fun w hc => by obtain ⟨G1,hle1,hrd1,hc,hth1⟩ := lend hc k3; obtain ⟨G2,hle2,hrd2,hc,hth2⟩ := lend hc k1; exact (kit_Same_api_Span_ok r_3.1 r_5.1 (hrd1.mono hle2) hrd2 hc hr_6).mono fun e w h => ⟨h.1,((hth1 _ _ ((hth2 _ _ h.2).unpick k1)).unpick k3)⟩)) fun a w hf hc => stP hf rfl rfl rfl (pNot rfl) fun a hf => stP hf rfl rfl rfl (pM rfl) fun a hf => stCut 4 (fun a w => Has 141 a [(0,.int .i64 start),(1,.slice l_p l.length l_c),(3,.slice minutes_p minutes.length minutes_c),(6,.pointer (some ⟨b_1,0,none⟩)),(9,.slice p_1 r_1.length c_1),(10,.slice p_2 r_2.length c_2),(11,.slice p_3 r_3.1.length c_3),(12,.int .i64 r_3.2),(13,.slice p_5 r_5.1.length c_5),(14,.int .i64 r_5.2),(47,.slice p_3 r_3.1.length c_3),(48,.slice p_5 r_5.1.length c_5),(49,.bool r_6),(50,.bool (!r_6)),(51,.bool (!r_6)),(55,.bool ((!r_6) || (r_3.2 != r_5.2)))] ∧ Ctx G (.row p_4 c_4 (r_4.map enc_ref11_Visit) 151 6::.row p_5 c_5 (r_5.1.map enc_api_Span) 29 2::.row p_1 c_1 (r_1.map enc_crew_Visit) 31 6::.row p_3 c_3 (r_3.1.map enc_api_Span) 29 2::.row p_2 c_2 (r_2.map encI_i64) 3 1::.box b_1 [.int .i64 p_.Rate,.int .i64 p_.Normal,.int .i64 p_.Extra] 24::Lf) w) ?_ ?_
  ·cases hb : (!r_6)
   ·rw [hb] at hf
    refine stP hf rfl rfl rfl (pM rfl) fun a hf => stP hf rfl rfl rfl (pM rfl) fun a hf => stP hf rfl rfl rfl (pNe rfl rfl) fun a hf => stP hf rfl rfl rfl (pPf rfl rfl) fun a hf => cNil ⟨hf.keep ⟨rfl,rfl,rfl,rfl,rfl,rfl,rfl,rfl,rfl,rfl,rfl,rfl,rfl,rfl,rfl,rfl,trivial⟩,hc⟩
   ·rw [hb] at hf
    refine stS hf rfl rfl rfl fun a hf => stS hf rfl rfl rfl fun a hf => stS hf rfl rfl rfl fun a hf => stP hf rfl rfl rfl (pPt rfl rfl) fun a hf => cNil ⟨hf.keep ⟨rfl,rfl,rfl,rfl,rfl,rfl,rfl,rfl,rfl,rfl,rfl,rfl,rfl,rfl,rfl,rfl,trivial⟩,hc⟩
  intro a w ⟨hf,hc⟩
  refine cNil ?_
  refine h9 _ _ ?_
  refine cCond (b := ((!r_6) || (r_3.2 != r_5.2))) hf rfl (fun hb => ?_) (fun hb => ?_)
  ·replace hF := condT hb hF
   clear hb
   refine wp_seq_k fun K10 h10 => cReg ?_
   refine stP hf rfl rfl rfl (pA rfl) fun a hf => cNil ?_
   refine h10 _ _ ?_
   refine wp_ret ?_
   refine xThenR ?_
   obtain rfl := Option.some.inj hF
   replace hc := hc.drop k5
   replace hc := hc.drop k4
   replace hc := hc.drop k3
   replace hc := hc.drop k2
   replace hc := hc.drop k1
   replace hc := hc.drop k0
   exact fnOut1 (by simp) rfl Tryz.results3 hf hc (show look _ 8 = _ from rfl) ⟨rfl,hc⟩
  ·replace hF := condF hb hF
   clear hb
   refine wp_skip ?_
   refine h8 _ _ ?_
   refine wp_seq_k fun K11 h11 => cReg ?_
   refine stP hf rfl rfl rfl (pM rfl) fun a hf => stP hf rfl rfl rfl (pM rfl) fun a hf => ?_
   obtain ⟨r_7,hr_7,hF⟩ := bnd_some hF
   refine stE hf hc rfl rfl rfl (eC (v := .tuple #[.int .i64 r_7.1,.int .i64 r_7.2.1,.int .i64 r_7.2.2]) (vs := [.int .i64 start,.slice p_1 r_1.length c_1]) (caps := []) en_22 rfl rfl rfl rfl (fun w hc => by obtain ⟨G1,hle1,hrd1,hc,hth1⟩ := lend hc k2; exact (crew_Late_ok start r_1 hrd1 hc hr_7).mono fun e w h => ⟨h.1,((hth1 _ _ h.2).unpick k2)⟩)) fun a w hf hc => stP hf rfl rfl rfl (pM rfl) fun a hf => stP hf rfl rfl rfl (pX rfl rfl) fun a hf => stP hf rfl rfl rfl (pX rfl rfl) fun a hf => stP hf rfl rfl rfl (pX rfl rfl) fun a hf => stP hf rfl rfl rfl (pA rfl) fun a hf => stP hf rfl rfl rfl (pA rfl) fun a hf => stP hf rfl rfl rfl (pA rfl) fun a hf => cNil ?_
   refine h11 _ _ ?_
   refine wp_seq_k fun K12 h12 => cReg ?_
   refine stP hf rfl rfl rfl (pM rfl) fun a hf => stP hf rfl rfl rfl (pM rfl) fun a hf => ?_
   obtain ⟨r_8,hr_8,hF⟩ := bnd_some hF
   refine stC (vs := [.slice l_p l.length l_c]) (caps := []) hf rfl rfl rfl en_20 rfl rfl rfl rfl (law11_visits_ok l h_l hc hr_8) ?_
   rintro _ w ⟨p_6,c_6,rfl,hc⟩
   refine ⟨_,rfl,fun a hf => ?_⟩
   obtain ⟨r_9,hr_9,hF⟩ := bnd_some hF
   refine stE hf hc rfl rfl rfl (eC (v := .tuple #[.int .i64 r_9.1,.int .i64 r_9.2.1,.int .i64 r_9.2.2]) (vs := [.int .i64 start,.slice p_6 r_8.length c_6]) (caps := []) en_23 rfl rfl rfl rfl (fun w hc => by obtain ⟨G1,hle1,hrd1,hc,hth1⟩ := lend hc k0; exact (ref11_Late_ok start r_8 hrd1 hc hr_9).mono fun e w h => ⟨h.1,((hth1 _ _ h.2).unpick k0)⟩)) fun a w hf hc => stP hf rfl rfl rfl (pM rfl) fun a hf => stP hf rfl rfl rfl (pX rfl rfl) fun a hf => stP hf rfl rfl rfl (pX rfl rfl) fun a hf => stP hf rfl rfl rfl (pX rfl rfl) fun a hf => stP hf rfl rfl rfl (pA rfl) fun a hf => stP hf rfl rfl rfl (pA rfl) fun a hf => stP hf rfl rfl rfl (pA rfl) fun a hf => cNil ?_
   refine h12 _ _ ?_
   refine wp_seq_k fun K13 h13 => wp_seq_k fun K14 h14 => cReg ?_
   refine stP hf rfl rfl rfl (pM rfl) fun a hf => stP hf rfl rfl rfl (pM rfl) fun a hf => stP hf rfl rfl rfl (pNe rfl rfl) fun a hf => stP hf rfl rfl rfl (pM rfl) fun a hf => stCut 4 (fun a w => Has 141 a [(1,.slice l_p l.length l_c),(3,.slice minutes_p minutes.length minutes_c),(6,.pointer (some ⟨b_1,0,none⟩)),(9,.slice p_1 r_1.length c_1),(10,.slice p_2 r_2.length c_2),(12,.int .i64 r_7.2.2),(14,.int .i64 r_9.2.2),(15,.int .i64 r_7.1),(16,.int .i64 r_7.2.1),(17,.int .i64 r_9.1),(18,.int .i64 r_9.2.1),(71,.int .i64 r_7.1),(72,.int .i64 r_9.1),(73,.bool (r_7.1 != r_9.1)),(74,.bool (r_7.1 != r_9.1)),(78,.bool ((r_7.1 != r_9.1) || (r_7.2.1 != r_9.2.1)))] ∧ Ctx G (.row p_6 c_6 (r_8.map enc_ref11_Visit) 151 6::.row p_4 c_4 (r_4.map enc_ref11_Visit) 151 6::.row p_5 c_5 (r_5.1.map enc_api_Span) 29 2::.row p_1 c_1 (r_1.map enc_crew_Visit) 31 6::.row p_3 c_3 (r_3.1.map enc_api_Span) 29 2::.row p_2 c_2 (r_2.map encI_i64) 3 1::.box b_1 [.int .i64 p_.Rate,.int .i64 p_.Normal,.int .i64 p_.Extra] 24::Lf) w) ?_ ?_
   ·cases hb : (r_7.1 != r_9.1)
    ·rw [hb] at hf
     refine stP hf rfl rfl rfl (pM rfl) fun a hf => stP hf rfl rfl rfl (pM rfl) fun a hf => stP hf rfl rfl rfl (pNe rfl rfl) fun a hf => stP hf rfl rfl rfl (pPf rfl rfl) fun a hf => cNil ⟨hf.keep ⟨rfl,rfl,rfl,rfl,rfl,rfl,rfl,rfl,rfl,rfl,rfl,rfl,rfl,rfl,rfl,rfl,trivial⟩,hc⟩
    ·rw [hb] at hf
     refine stS hf rfl rfl rfl fun a hf => stS hf rfl rfl rfl fun a hf => stS hf rfl rfl rfl fun a hf => stP hf rfl rfl rfl (pPt rfl rfl) fun a hf => cNil ⟨hf.keep ⟨rfl,rfl,rfl,rfl,rfl,rfl,rfl,rfl,rfl,rfl,rfl,rfl,rfl,rfl,rfl,rfl,trivial⟩,hc⟩
   intro a w ⟨hf,hc⟩
   refine stP hf rfl rfl rfl (pM rfl) fun a hf => stCut 4 (fun a w => Has 141 a [(1,.slice l_p l.length l_c),(3,.slice minutes_p minutes.length minutes_c),(6,.pointer (some ⟨b_1,0,none⟩)),(9,.slice p_1 r_1.length c_1),(10,.slice p_2 r_2.length c_2),(12,.int .i64 r_7.2.2),(14,.int .i64 r_9.2.2),(15,.int .i64 r_7.1),(16,.int .i64 r_7.2.1),(17,.int .i64 r_9.1),(18,.int .i64 r_9.2.1),(71,.int .i64 r_7.1),(72,.int .i64 r_9.1),(73,.bool (r_7.1 != r_9.1)),(74,.bool (r_7.1 != r_9.1)),(78,.bool ((r_7.1 != r_9.1) || (r_7.2.1 != r_9.2.1))),(79,.bool ((r_7.1 != r_9.1) || (r_7.2.1 != r_9.2.1))),(83,.bool (((r_7.1 != r_9.1) || (r_7.2.1 != r_9.2.1)) || (r_7.2.2 != r_9.2.2)))] ∧ Ctx G (.row p_6 c_6 (r_8.map enc_ref11_Visit) 151 6::.row p_4 c_4 (r_4.map enc_ref11_Visit) 151 6::.row p_5 c_5 (r_5.1.map enc_api_Span) 29 2::.row p_1 c_1 (r_1.map enc_crew_Visit) 31 6::.row p_3 c_3 (r_3.1.map enc_api_Span) 29 2::.row p_2 c_2 (r_2.map encI_i64) 3 1::.box b_1 [.int .i64 p_.Rate,.int .i64 p_.Normal,.int .i64 p_.Extra] 24::Lf) w) ?_ ?_
   ·cases hb : ((r_7.1 != r_9.1) || (r_7.2.1 != r_9.2.1))
    ·rw [hb] at hf
     refine stP hf rfl rfl rfl (pM rfl) fun a hf => stP hf rfl rfl rfl (pM rfl) fun a hf => stP hf rfl rfl rfl (pNe rfl rfl) fun a hf => stP hf rfl rfl rfl (pPf rfl rfl) fun a hf => cNil ⟨hf.keep ⟨rfl,rfl,rfl,rfl,rfl,rfl,rfl,rfl,rfl,rfl,rfl,rfl,rfl,rfl,rfl,rfl,rfl,rfl,trivial⟩,hc⟩
    ·rw [hb] at hf
     refine stS hf rfl rfl rfl fun a hf => stS hf rfl rfl rfl fun a hf => stS hf rfl rfl rfl fun a hf => stP hf rfl rfl rfl (pPt rfl rfl) fun a hf => cNil ⟨hf.keep ⟨rfl,rfl,rfl,rfl,rfl,rfl,rfl,rfl,rfl,rfl,rfl,rfl,rfl,rfl,rfl,rfl,rfl,rfl,trivial⟩,hc⟩
   intro a w ⟨hf,hc⟩
   refine cNil ?_
   refine h14 _ _ ?_
   refine cCond (b := (((r_7.1 != r_9.1) || (r_7.2.1 != r_9.2.1)) || (r_7.2.2 != r_9.2.2))) hf rfl (fun hb => ?_) (fun hb => ?_)
   ·replace hF := condT hb hF
    clear hb
    refine wp_seq_k fun K15 h15 => cReg ?_
    refine stP hf rfl rfl rfl (pA rfl) fun a hf => cNil ?_
    refine h15 _ _ ?_
    refine wp_ret ?_
    refine xThenR ?_
    obtain rfl := Option.some.inj hF
    replace hc := hc.drop k6
    replace hc := hc.drop k5
    replace hc := hc.drop k4
    replace hc := hc.drop k3
    replace hc := hc.drop k2
    replace hc := hc.drop k1
    replace hc := hc.drop k0
    exact fnOut1 (by simp) rfl Tryz.results3 hf hc (show look _ 8 = _ from rfl) ⟨rfl,hc⟩
   ·replace hF := condF hb hF
    clear hb
    refine wp_skip ?_
    refine h13 _ _ ?_
    refine wp_seq_k fun K16 h16 => cReg ?_
    refine stP hf rfl rfl rfl (pM rfl) fun a hf => ?_
    obtain ⟨r_10,hr_10,hF⟩ := bnd_some hF
    refine stE hf hc rfl rfl rfl (eC (v := .tuple #[.int .i64 r_10.1,.int .i64 r_10.2]) (vs := [.slice p_1 r_1.length c_1]) (caps := []) en_24 rfl rfl rfl rfl (fun w hc => by obtain ⟨G1,hle1,hrd1,hc,hth1⟩ := lend hc k3; exact (crew_Latest_ok r_1 hrd1 hc hr_10).mono fun e w h => ⟨h.1,((hth1 _ _ h.2).unpick k3)⟩)) fun a w hf hc => stP hf rfl rfl rfl (pM rfl) fun a hf => stP hf rfl rfl rfl (pX rfl rfl) fun a hf => stP hf rfl rfl rfl (pX rfl rfl) fun a hf => stP hf rfl rfl rfl (pA rfl) fun a hf => stP hf rfl rfl rfl (pA rfl) fun a hf => cNil ?_
    refine h16 _ _ ?_
    refine wp_seq_k fun K17 h17 => cReg ?_
    refine stP hf rfl rfl rfl (pM rfl) fun a hf => ?_
    obtain ⟨r_11,hr_11,hF⟩ := bnd_some hF
    refine stC (vs := [.slice l_p l.length l_c]) (caps := []) hf rfl rfl rfl en_20 rfl rfl rfl rfl (law11_visits_ok l h_l hc hr_11) ?_
    rintro _ w ⟨p_7,c_7,rfl,hc⟩
    refine ⟨_,rfl,fun a hf => ?_⟩
    obtain ⟨r_12,hr_12,hF⟩ := bnd_some hF
    refine stE hf hc rfl rfl rfl (eC (v := .tuple #[.int .i64 r_12.1,.int .i64 r_12.2]) (vs := [.slice p_7 r_11.length c_7]) (caps := []) en_25 rfl rfl rfl rfl (fun w hc => by obtain ⟨G1,hle1,hrd1,hc,hth1⟩ := lend hc k0; exact (ref11_Latest_ok r_11 hrd1 hc hr_12).mono fun e w h => ⟨h.1,((hth1 _ _ h.2).unpick k0)⟩)) fun a w hf hc => stP hf rfl rfl rfl (pM rfl) fun a hf => stP hf rfl rfl rfl (pX rfl rfl) fun a hf => stP hf rfl rfl rfl (pX rfl rfl) fun a hf => stP hf rfl rfl rfl (pA rfl) fun a hf => stP hf rfl rfl rfl (pA rfl) fun a hf => cNil ?_
    refine h17 _ _ ?_
    refine wp_seq_k fun K18 h18 => wp_seq_k fun K19 h19 => cReg ?_
    refine stP hf rfl rfl rfl (pM rfl) fun a hf => stP hf rfl rfl rfl (pM rfl) fun a hf => stP hf rfl rfl rfl (pNe rfl rfl) fun a hf => stP hf rfl rfl rfl (pM rfl) fun a hf => stCut 4 (fun a w => Has 141 a [(1,.slice l_p l.length l_c),(3,.slice minutes_p minutes.length minutes_c),(6,.pointer (some ⟨b_1,0,none⟩)),(9,.slice p_1 r_1.length c_1),(10,.slice p_2 r_2.length c_2),(12,.int .i64 r_10.2),(14,.int .i64 r_12.2),(19,.int .i64 r_10.1),(20,.int .i64 r_12.1),(95,.int .i64 r_10.1),(96,.int .i64 r_12.1),(97,.bool (r_10.1 != r_12.1)),(98,.bool (r_10.1 != r_12.1)),(102,.bool ((r_10.1 != r_12.1) || (r_10.2 != r_12.2)))] ∧ Ctx G (.row p_7 c_7 (r_11.map enc_ref11_Visit) 151 6::.row p_6 c_6 (r_8.map enc_ref11_Visit) 151 6::.row p_4 c_4 (r_4.map enc_ref11_Visit) 151 6::.row p_5 c_5 (r_5.1.map enc_api_Span) 29 2::.row p_1 c_1 (r_1.map enc_crew_Visit) 31 6::.row p_3 c_3 (r_3.1.map enc_api_Span) 29 2::.row p_2 c_2 (r_2.map encI_i64) 3 1::.box b_1 [.int .i64 p_.Rate,.int .i64 p_.Normal,.int .i64 p_.Extra] 24::Lf) w) ?_ ?_
    ·cases hb : (r_10.1 != r_12.1)
     ·rw [hb] at hf
      refine stP hf rfl rfl rfl (pM rfl) fun a hf => stP hf rfl rfl rfl (pM rfl) fun a hf => stP hf rfl rfl rfl (pNe rfl rfl) fun a hf => stP hf rfl rfl rfl (pPf rfl rfl) fun a hf => cNil ⟨hf.keep ⟨rfl,rfl,rfl,rfl,rfl,rfl,rfl,rfl,rfl,rfl,rfl,rfl,rfl,rfl,trivial⟩,hc⟩
     ·rw [hb] at hf
      refine stS hf rfl rfl rfl fun a hf => stS hf rfl rfl rfl fun a hf => stS hf rfl rfl rfl fun a hf => stP hf rfl rfl rfl (pPt rfl rfl) fun a hf => cNil ⟨hf.keep ⟨rfl,rfl,rfl,rfl,rfl,rfl,rfl,rfl,rfl,rfl,rfl,rfl,rfl,rfl,trivial⟩,hc⟩
    intro a w ⟨hf,hc⟩
    refine cNil ?_
    refine h19 _ _ ?_
    refine cCond (b := ((r_10.1 != r_12.1) || (r_10.2 != r_12.2))) hf rfl (fun hb => ?_) (fun hb => ?_)
    ·replace hF := condT hb hF
     clear hb
     refine wp_seq_k fun K20 h20 => cReg ?_
     refine stP hf rfl rfl rfl (pA rfl) fun a hf => cNil ?_
     refine h20 _ _ ?_
     refine wp_ret ?_
     refine xThenR ?_
     obtain rfl := Option.some.inj hF
     replace hc := hc.drop k7
     replace hc := hc.drop k6
     replace hc := hc.drop k5
     replace hc := hc.drop k4
     replace hc := hc.drop k3
     replace hc := hc.drop k2
     replace hc := hc.drop k1
     replace hc := hc.drop k0
     exact fnOut1 (by simp) rfl Tryz.results3 hf hc (show look _ 8 = _ from rfl) ⟨rfl,hc⟩
    ·replace hF := condF hb hF
     clear hb
     refine wp_skip ?_
     refine h18 _ _ ?_
     refine wp_seq_k fun K21 h21 => cReg ?_
     refine stE hf hc rfl rfl rfl (eLdN (vs := [.int .i64 p_.Rate,.int .i64 p_.Normal,.int .i64 p_.Extra]) ag_24 rfl rfl (cells_box (n := 3) m7 rfl)) fun a w hf hc => stP hf rfl rfl rfl (pM rfl) fun a hf => ?_
     obtain ⟨r_13,hr_13,hF⟩ := bnd_some hF
     refine stE hf hc rfl rfl rfl (eC (v := .tuple #[.int .i64 r_13.1,.int .i64 r_13.2]) (vs := [.agg #[.int .i64 p_.Rate,.int .i64 p_.Normal,.int .i64 p_.Extra],.slice p_2 r_2.length c_2]) (caps := []) en_26 rfl rfl rfl rfl (fun w hc => by obtain ⟨G1,hle1,hrd1,hc,hth1⟩ := lend hc k6; exact (crew_Paid_ok p_ r_2 hrd1 hc hr_13).mono fun e w h => ⟨h.1,((hth1 _ _ h.2).unpick k6)⟩)) fun a w hf hc => stP hf rfl rfl rfl (pM rfl) fun a hf => stP hf rfl rfl rfl (pX rfl rfl) fun a hf => stP hf rfl rfl rfl (pX rfl rfl) fun a hf => stP hf rfl rfl rfl (pA rfl) fun a hf => stP hf rfl rfl rfl (pA rfl) fun a hf => cNil ?_
     refine h21 _ _ ?_
     refine wp_seq_k fun K22 h22 => cReg ?_
     refine stP hf rfl rfl rfl (pFA fa_24_0 rfl) fun a hf => stE hf hc rfl rfl rfl (eLd1 sc_3 rfl (cell_box m7 rfl)) fun a w hf hc => stP hf rfl rfl rfl (pFA fa_24_1 rfl) fun a hf => stE hf hc rfl rfl rfl (eLd1 sc_3 rfl (cell_box m7 rfl)) fun a w hf hc => stP hf rfl rfl rfl (pFA fa_24_2 rfl) fun a hf => stE hf hc rfl rfl rfl (eLd1 sc_3 rfl (cell_box m7 rfl)) fun a w hf hc => stP hf rfl rfl rfl (pM rfl) fun a hf => ?_
     obtain ⟨r_14,hr_14,hF⟩ := bnd_some hF
     refine stE hf hc rfl rfl rfl (eC (v := .tuple #[.int .i64 r_14.1,.int .i64 r_14.2]) (vs := [.int .i64 p_.Rate,.int .i64 p_.Normal,.int .i64 p_.Extra,.slice minutes_p minutes.length minutes_c]) (caps := []) en_27 rfl rfl rfl rfl (fun w hc => ref11_Paid_ok p_.Rate p_.Normal p_.Extra minutes h_minutes hc hr_14)) fun a w hf hc => stP hf rfl rfl rfl (pM rfl) fun a hf => stP hf rfl rfl rfl (pX rfl rfl) fun a hf => stP hf rfl rfl rfl (pX rfl rfl) fun a hf => stP hf rfl rfl rfl (pA rfl) fun a hf => stP hf rfl rfl rfl (pA rfl) fun a hf => cNil ?_
     refine h22 _ _ ?_
     refine wp_seq_k fun K23 h23 => cReg ?_
     refine stP hf rfl rfl rfl (pM rfl) fun a hf => stP hf rfl rfl rfl (pM rfl) fun a hf => stP hf rfl rfl rfl (pEq rfl rfl) fun a hf => stP hf rfl rfl rfl (pM rfl) fun a hf => stCut 4 (fun a w => Has 141 a [(1,.slice l_p l.length l_c),(3,.slice minutes_p minutes.length minutes_c),(9,.slice p_1 r_1.length c_1),(10,.slice p_2 r_2.length c_2),(12,.int .i64 r_13.2),(14,.int .i64 r_14.2),(19,.int .i64 r_13.1),(20,.int .i64 r_14.1),(120,.int .i64 r_13.1),(121,.int .i64 r_14.1),(122,.bool (r_13.1 == r_14.1)),(123,.bool (r_13.1 == r_14.1)),(127,.bool ((r_13.1 == r_14.1) && (r_13.2 == r_14.2)))] ∧ Ctx G (.row p_7 c_7 (r_11.map enc_ref11_Visit) 151 6::.row p_6 c_6 (r_8.map enc_ref11_Visit) 151 6::.row p_4 c_4 (r_4.map enc_ref11_Visit) 151 6::.row p_5 c_5 (r_5.1.map enc_api_Span) 29 2::.row p_1 c_1 (r_1.map enc_crew_Visit) 31 6::.row p_3 c_3 (r_3.1.map enc_api_Span) 29 2::.row p_2 c_2 (r_2.map encI_i64) 3 1::.box b_1 [.int .i64 p_.Rate,.int .i64 p_.Normal,.int .i64 p_.Extra] 24::Lf) w) ?_ ?_
     ·cases hb : (r_13.1 == r_14.1)
      ·rw [hb] at hf
       refine stS hf rfl rfl rfl fun a hf => stS hf rfl rfl rfl fun a hf => stS hf rfl rfl rfl fun a hf => stP hf rfl rfl rfl (pPf rfl rfl) fun a hf => cNil ⟨hf.keep ⟨rfl,rfl,rfl,rfl,rfl,rfl,rfl,rfl,rfl,rfl,rfl,rfl,rfl,trivial⟩,hc⟩
      ·rw [hb] at hf
       refine stP hf rfl rfl rfl (pM rfl) fun a hf => stP hf rfl rfl rfl (pM rfl) fun a hf => stP hf rfl rfl rfl (pEq rfl rfl) fun a hf => stP hf rfl rfl rfl (pPt rfl rfl) fun a hf => cNil ⟨hf.keep ⟨rfl,rfl,rfl,rfl,rfl,rfl,rfl,rfl,rfl,rfl,rfl,rfl,rfl,trivial⟩,hc⟩
     intro a w ⟨hf,hc⟩
     refine stP hf rfl rfl rfl (pM rfl) fun a hf => ?_
     obtain ⟨t_1,ht_1,hF⟩ := bnd_some hF
     refine stCut 4 (fun a w => Has 141 a [(1,.slice l_p l.length l_c),(3,.slice minutes_p minutes.length minutes_c),(9,.slice p_1 r_1.length c_1),(10,.slice p_2 r_2.length c_2),(12,.int .i64 r_13.2),(14,.int .i64 r_14.2),(19,.int .i64 r_13.1),(20,.int .i64 r_14.1),(120,.int .i64 r_13.1),(121,.int .i64 r_14.1),(122,.bool (r_13.1 == r_14.1)),(123,.bool (r_13.1 == r_14.1)),(127,.bool ((r_13.1 == r_14.1) && (r_13.2 == r_14.2))),(128,.bool ((r_13.1 == r_14.1) && (r_13.2 == r_14.2))),(132,.bool t_1)] ∧ Ctx G (.row p_7 c_7 (r_11.map enc_ref11_Visit) 151 6::.row p_6 c_6 (r_8.map enc_ref11_Visit) 151 6::.row p_4 c_4 (r_4.map enc_ref11_Visit) 151 6::.row p_5 c_5 (r_5.1.map enc_api_Span) 29 2::.row p_1 c_1 (r_1.map enc_crew_Visit) 31 6::.row p_3 c_3 (r_3.1.map enc_api_Span) 29 2::.row p_2 c_2 (r_2.map encI_i64) 3 1::.box b_1 [.int .i64 p_.Rate,.int .i64 p_.Normal,.int .i64 p_.Extra] 24::Lf) w) ?_ ?_
     ·cases hb : ((r_13.1 == r_14.1) && (r_13.2 == r_14.2))
      ·rw [hb] at hf
       have hF := condF hb ht_1
       obtain rfl := Option.some.inj hF
       refine stS hf rfl rfl rfl fun a hf => stS hf rfl rfl rfl fun a hf => stS hf rfl rfl rfl fun a hf => stP hf rfl rfl rfl (pPf rfl rfl) fun a hf => cNil ⟨hf.keep ⟨rfl,rfl,rfl,rfl,rfl,rfl,rfl,rfl,rfl,rfl,rfl,rfl,rfl,rfl,rfl,trivial⟩,hc⟩
      ·rw [hb] at hf
       have hF := condT hb ht_1
       refine stP hf rfl rfl rfl (pM rfl) fun a hf => stP hf rfl rfl rfl (pM rfl) fun a hf => ?_
       obtain ⟨r_15,hr_15,hF⟩ := bnd_some hF
       refine stE hf hc rfl rfl rfl (eC (v := .bool r_15) (vs := [.slice p_1 r_1.length c_1,.slice l_p l.length l_c]) (caps := []) en_28 rfl rfl rfl rfl (fun w hc => by obtain ⟨G1,hle1,hrd1,hc,hth1⟩ := lend hc k4; exact (kit_Same_crew_Visit_ok r_1 l hrd1 (h_l.mono hle1) hc hr_15).mono fun e w h => ⟨h.1,((hth1 _ _ h.2).unpick k4)⟩)) fun a w hf hc => stP hf rfl rfl rfl (pPt rfl rfl) fun a hf => ?_
       obtain rfl := Option.some.inj hF
       exact cNil ⟨hf.keep ⟨rfl,rfl,rfl,rfl,rfl,rfl,rfl,rfl,rfl,rfl,rfl,rfl,rfl,rfl,rfl,trivial⟩,hc⟩
     intro a w ⟨hf,hc⟩
     refine stP hf rfl rfl rfl (pM rfl) fun a hf => ?_
     obtain ⟨t_2,ht_2,hF⟩ := bnd_some hF
     refine stCut 4 (fun a w => Has 141 a [(1,.slice l_p l.length l_c),(3,.slice minutes_p minutes.length minutes_c),(9,.slice p_1 r_1.length c_1),(10,.slice p_2 r_2.length c_2),(12,.int .i64 r_13.2),(14,.int .i64 r_14.2),(19,.int .i64 r_13.1),(20,.int .i64 r_14.1),(120,.int .i64 r_13.1),(121,.int .i64 r_14.1),(122,.bool (r_13.1 == r_14.1)),(123,.bool (r_13.1 == r_14.1)),(127,.bool ((r_13.1 == r_14.1) && (r_13.2 == r_14.2))),(128,.bool ((r_13.1 == r_14.1) && (r_13.2 == r_14.2))),(132,.bool t_1),(133,.bool t_1),(137,.bool t_2)] ∧ Ctx G (.row p_7 c_7 (r_11.map enc_ref11_Visit) 151 6::.row p_6 c_6 (r_8.map enc_ref11_Visit) 151 6::.row p_4 c_4 (r_4.map enc_ref11_Visit) 151 6::.row p_5 c_5 (r_5.1.map enc_api_Span) 29 2::.row p_1 c_1 (r_1.map enc_crew_Visit) 31 6::.row p_3 c_3 (r_3.1.map enc_api_Span) 29 2::.row p_2 c_2 (r_2.map encI_i64) 3 1::.box b_1 [.int .i64 p_.Rate,.int .i64 p_.Normal,.int .i64 p_.Extra] 24::Lf) w) ?_ ?_
     ·cases hb : t_1
      ·rw [hb] at hf
       try rw [hb] at hc
       have hF := condF hb ht_2
       obtain rfl := Option.some.inj hF
       refine stS hf rfl rfl rfl fun a hf => stS hf rfl rfl rfl fun a hf => stS hf rfl rfl rfl fun a hf => stP hf rfl rfl rfl (pPf rfl rfl) fun a hf => cNil ⟨hf.keep ⟨rfl,rfl,rfl,rfl,rfl,rfl,rfl,rfl,rfl,rfl,rfl,rfl,rfl,rfl,rfl,rfl,rfl,trivial⟩,hc⟩
      ·rw [hb] at hf
       try rw [hb] at hc
       have hF := condT hb ht_2
       refine stP hf rfl rfl rfl (pM rfl) fun a hf => stP hf rfl rfl rfl (pM rfl) fun a hf => ?_
       obtain ⟨r_16,hr_16,hF⟩ := bnd_some hF
       refine stE hf hc rfl rfl rfl (eC (v := .bool r_16) (vs := [.slice p_2 r_2.length c_2,.slice minutes_p minutes.length minutes_c]) (caps := []) en_29 rfl rfl rfl rfl (fun w hc => by obtain ⟨G1,hle1,hrd1,hc,hth1⟩ := lend hc k6; exact (kit_Same_int_ok r_2 minutes hrd1 (h_minutes.mono hle1) hc hr_16).mono fun e w h => ⟨h.1,((hth1 _ _ h.2).unpick k6)⟩)) fun a w hf hc => stP hf rfl rfl rfl (pPt rfl rfl) fun a hf => ?_
       obtain rfl := Option.some.inj hF
       exact cNil ⟨hf.keep ⟨rfl,rfl,rfl,rfl,rfl,rfl,rfl,rfl,rfl,rfl,rfl,rfl,rfl,rfl,rfl,rfl,rfl,trivial⟩,hc⟩
     intro a w ⟨hf,hc⟩
     refine stP hf rfl rfl rfl (pM rfl) fun a hf => ?_
     obtain ⟨t_3,ht_3,hF⟩ := bnd_some hF
     refine stCut 2 (fun a w => Has 141 a [(1,.slice l_p l.length l_c),(3,.slice minutes_p minutes.length minutes_c),(9,.slice p_1 r_1.length c_1),(10,.slice p_2 r_2.length c_2),(12,.int .i64 r_13.2),(14,.int .i64 r_14.2),(19,.int .i64 r_13.1),(20,.int .i64 r_14.1),(120,.int .i64 r_13.1),(121,.int .i64 r_14.1),(122,.bool (r_13.1 == r_14.1)),(123,.bool (r_13.1 == r_14.1)),(127,.bool ((r_13.1 == r_14.1) && (r_13.2 == r_14.2))),(128,.bool ((r_13.1 == r_14.1) && (r_13.2 == r_14.2))),(132,.bool t_1),(133,.bool t_1),(137,.bool t_2),(138,.bool t_2),(140,.bool t_3)] ∧ Ctx G (.row p_7 c_7 (r_11.map enc_ref11_Visit) 151 6::.row p_6 c_6 (r_8.map enc_ref11_Visit) 151 6::.row p_4 c_4 (r_4.map enc_ref11_Visit) 151 6::.row p_5 c_5 (r_5.1.map enc_api_Span) 29 2::.row p_1 c_1 (r_1.map enc_crew_Visit) 31 6::.row p_3 c_3 (r_3.1.map enc_api_Span) 29 2::.row p_2 c_2 (r_2.map encI_i64) 3 1::.box b_1 [.int .i64 p_.Rate,.int .i64 p_.Normal,.int .i64 p_.Extra] 24::Lf) w) ?_ ?_
     ·cases hb : t_2
      ·rw [hb] at hf
       try rw [hb] at hc
       have hF := condF hb ht_3
       obtain rfl := Option.some.inj hF
       refine stS hf rfl rfl rfl fun a hf => stP hf rfl rfl rfl (pPf rfl rfl) fun a hf => cNil ⟨hf.keep ⟨rfl,rfl,rfl,rfl,rfl,rfl,rfl,rfl,rfl,rfl,rfl,rfl,rfl,rfl,rfl,rfl,rfl,rfl,rfl,trivial⟩,hc⟩
      ·rw [hb] at hf
       try rw [hb] at hc
       have hF := condT hb ht_3
       obtain ⟨r_17,hr_17,hF⟩ := bnd_some hF
       refine stE hf hc rfl rfl rfl (eC (v := .bool r_17) (vs := []) (caps := []) en_15 rfl rfl rfl rfl (fun w hc => law11_awake_ok hc hr_17)) fun a w hf hc => stP hf rfl rfl rfl (pPt rfl rfl) fun a hf => ?_
       obtain rfl := Option.some.inj hF
       exact cNil ⟨hf.keep ⟨rfl,rfl,rfl,rfl,rfl,rfl,rfl,rfl,rfl,rfl,rfl,rfl,rfl,rfl,rfl,rfl,rfl,rfl,rfl,trivial⟩,hc⟩
     intro a w ⟨hf,hc⟩
     refine stP hf rfl rfl rfl (pA rfl) fun a hf => cNil ?_
     refine h23 _ _ ?_
     refine wp_ret ?_
     obtain rfl := Option.some.inj hF
     replace hc := hc.drop k7
     replace hc := hc.drop k6
     replace hc := hc.drop k5
     replace hc := hc.drop k4
     replace hc := hc.drop k3
     replace hc := hc.drop k2
     replace hc := hc.drop k1
     replace hc := hc.drop k0
     exact fnOut1 (by simp) rfl Tryz.results3 hf hc (show look _ 8 = _ from rfl) ⟨rfl,hc⟩

end Go.Nilo
