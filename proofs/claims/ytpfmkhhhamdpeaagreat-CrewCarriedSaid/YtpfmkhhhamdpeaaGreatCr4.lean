/-
 What functions of the Go text compute, as plain functions, and that they do, part 4 of 5. Conditions: what each theorem names.
-/
import Derived.Test.YtpfmkhhhamdpeaaGreatCr3
import Derived.Test.YtpfmkhhhamdpeaaGreatProg
set_option linter.unusedVariables false
set_option linter.unusedSimpArgs false
set_option maxRecDepth 100000
set_option maxHeartbeats 4000000
namespace Go.Nilo
open Go.Proofs


def crew_Late_j13 (N : Nat) (i_1 : Int) (can_1 : Int) (surely_1 : Int) : Option (Step (Int × Int × Int) (Int × Int × Int)) :=
 some (.cont (can_1,surely_1,W (i_1 - 1)))
def crew_Late_j14 (N : Nat) (l : List crew_Visit) (r : (List api_Span) × Int) (surely : Int) (i_1 : Int) (can_2 : Int) : Option (Step (Int × Int × Int) (Int × Int × Int)) :=
 Option.bind (getI r.1 i_1) fun e_1 =>
 Option.bind (getI l i_1) fun e_2 =>
 cond (decide (e_2.Close < e_1.Lo))
 (crew_Late_j13 N i_1 can_2 i_1)
 (crew_Late_j13 N i_1 can_2 surely)
def crew_Late_b9 (N : Nat) (l : List crew_Visit) (r : (List api_Span) × Int) (can : Int) (surely : Int) (i_1 : Int) : Option (Step (Int × Int × Int) (Int × Int × Int)) :=
 cond (decide (0 ≤ i_1))
 (Option.bind (getI r.1 i_1) fun e_3 =>
 Option.bind (getI l i_1) fun e_4 =>
 cond (decide (e_4.Close < e_3.Hi))
 (crew_Late_j14 N l r surely i_1 i_1)
 (crew_Late_j14 N l r surely i_1 can))
 (some (.brk (can,surely,i_1)))
def crew_Late (N : Nat) (start : Int) (l : List crew_Visit) : Option (Int × Int × Int) :=
 Option.bind (crew_Hours N start l) fun r =>
 cond (r.2 != 0)
 (some (0,0,r.2))
 (Option.bind (loopO (fun s9 => crew_Late_b9 N l r s9.1 s9.2.1 s9.2.2) N ((-1),(-1),W (((l.length : Nat) : Int) - 1))) fun x9 =>
 exK x9 (fun s9 => some (s9.1,s9.2.1,0)) some)
theorem crew_Late_ok {N : Nat} {G : Pers} {Lf : List Ent} {w : World} (start : Int) (l : List crew_Visit) {l_p : Option Addr} {l_c : Nat} (h_l : Rd G 6 l_p l_c (l.map enc_crew_Visit)) (hc : Ctx G (Lf) w) {res : Int × Int × Int} (hF : crew_Late N start l = some res) : Calls Tryz.prog 22 #[i6 start,.slice l_p l.length l_c] w (fun e w => e = .returned (.tuple #[i6 res.1,i6 res.2.1,i6 res.2.2]) ∧ Ctx G (Lf) w) := by
 unfold crew_Late at hF
 refine fnIn (args := [i6 start,.slice l_p l.length l_c]) Tryz.func22 rfl Tryz.ntmps22 rfl fun a hf => wp_seq_k fun K1 h1 => cReg ?_
 refine stP hf rfl rfl rfl (pA rfl) fun a hf => stP hf rfl rfl rfl (pA rfl) fun a hf => stP hf rfl rfl rfl (pA rfl) fun a hf => cNil ?_
 refine h1 _ _ ?_
 refine wp_seq_k fun K2 h2 => cReg ?_
 refine stP hf rfl rfl rfl (pM rfl) fun a hf => stP hf rfl rfl rfl (pM rfl) fun a hf => ?_
 obtain ⟨r,hr,hF⟩ := bnd_some hF
 refine stC (vs := [i6 start,.slice l_p l.length l_c]) (caps := []) hf rfl rfl rfl en_18 rfl rfl rfl rfl (crew_Hours_ok start l h_l hc hr) ?_
 rintro _ w ⟨p_1,c_1,rfl,hc⟩
 refine ⟨_,rfl,fun a hf => ?_⟩
 refine stP hf rfl rfl rfl (pM rfl) fun a hf => stP hf rfl rfl rfl (pX rfl rfl) fun a hf => stP hf rfl rfl rfl (pX rfl rfl) fun a hf => stP hf rfl rfl rfl (pA rfl) fun a hf => stP hf rfl rfl rfl (pA rfl) fun a hf => cNil ?_
 refine h2 _ _ ?_
 refine wp_seq_k fun K3 h3 => wp_seq_k fun K4 h4 => cReg ?_
 refine stP hf rfl rfl rfl (pM rfl) fun a hf => stP hf rfl rfl rfl (pNe rfl rfl) fun a hf => cNil ?_
 refine h4 _ _ ?_
 refine cCond (b := (r.2 != 0)) hf rfl (fun hb => ?_) (fun hb => ?_)
 ·replace hF := condT hb hF
  clear hb
  refine wp_seq_k fun K5 h5 => cReg ?_
  refine stP hf rfl rfl rfl (pM rfl) fun a hf => stP hf rfl rfl rfl (pA rfl) fun a hf => stP hf rfl rfl rfl (pA rfl) fun a hf => stP hf rfl rfl rfl (pA rfl) fun a hf => cNil ?_
  refine h5 _ _ ?_
  refine wp_ret ?_
  refine xThenR ?_
  obtain rfl := sj hF
  replace hc := hc.drop k0
  exact fnOut3 (by simp) rfl Tryz.results22 hf hc (show look _ 4 = _ from rfl) (show look _ 5 = _ from rfl) (show look _ 6 = _ from rfl) ⟨rfl,hc⟩
 ·replace hF := condF hb hF
  clear hb
  refine wp_skip ?_
  refine h3 _ _ ?_
  refine wp_seq_k fun K6 h6 => cReg ?_
  refine stP hf rfl rfl rfl (pA rfl) fun a hf => stP hf rfl rfl rfl (pA rfl) fun a hf => cNil ?_
  refine h6 _ _ ?_
  refine wp_seq_k fun K7 h7 => wp_seq_k fun K8 h8 => cReg ?_
  refine stP hf rfl rfl rfl (pM rfl) fun a hf => stP hf rfl rfl rfl (pLenS Tryz.underlying22 rfl) fun a hf => stP hf rfl rfl rfl (pSub rfl rfl) fun a hf => stP hf rfl rfl rfl (pA rfl) fun a hf => cNil ?_
  refine h8 _ _ ?_
  refine wp_block ?_
  obtain ⟨x9,hx9,hF⟩ := bnd_some hF
  let S9 : (Int × Int × Int) → Act → World → Prop := (fun (zz : Int × Int × Int) a w => ∃ (p_2 : Option Addr) (c_2 : Nat),Has 51 a [(1,.slice l_p l.length l_c),(4,i6 zz.1),(5,i6 zz.2.1),(7,.slice p_2 r.1.length c_2),(8,i6 zz.2.2)] ∧ Ctx G (.row p_2 c_2 (r.1.map enc_api_Span) 29 2::Lf) w)
  have hr9 : ∀ (zz : Int × Int × Int) a w,x9 = .go zz → S9 zz a w → K7 a w := by
   rintro ⟨can,surely,i_1⟩ a w rfl ⟨p_2,c_2,hf,hc⟩
   replace hF := exK_go hF
   refine h7 _ _ ?_
   refine wp_seq_k fun K10 h10 => cReg ?_
   refine stP hf rfl rfl rfl (pM rfl) fun a hf => stP hf rfl rfl rfl (pM rfl) fun a hf => stP hf rfl rfl rfl (pA rfl) fun a hf => stP hf rfl rfl rfl (pA rfl) fun a hf => stP hf rfl rfl rfl (pA rfl) fun a hf => cNil ?_
   refine h10 _ _ ?_
   refine wp_ret ?_
   obtain rfl := sj hF
   replace hc := hc.drop k0
   exact fnOut3 (by simp) rfl Tryz.results22 hf hc (show look _ 4 = _ from rfl) (show look _ 5 = _ from rfl) (show look _ 6 = _ from rfl) ⟨rfl,hc⟩
  have ho9 : ∀ r,x9 = .out r → r = res := by
   rintro r rfl
   exact sj hF
  refine cLoop N (loopW (S := S9) (x := x9) ?_ N ((-1),(-1),W (((l.length : Nat) : Int) - 1)) _ _ ⟨p_1,c_1,hf.kp rfl,hc⟩ hx9)
  clear hF hf hc
  rintro ⟨can,surely,i_1⟩ st9 a w KB9 ⟨p_2,c_2,hf,hc⟩ hF hfin9 hK9
  unfold crew_Late_b9 at hF
  refine wp_seq_k fun K11 h11 => wp_seq_k fun K12 h12 => cReg ?_
  refine stP hf rfl rfl rfl (pM rfl) fun a hf => stP hf rfl rfl rfl (pGe rfl rfl) fun a hf => cNil ?_
  refine h12 _ _ ?_
  refine cCond (b := (decide (0 ≤ i_1))) hf rfl (fun hb => ?_) (fun hb => ?_)
  ·replace hF := condT hb hF
   clear hb
   refine wp_skip ?_
   refine h11 _ _ ?_
   refine wp_seq_k fun K13 h13 => ?_
   have hj13 : ∀ (can_1 : Int) (surely_1 : Int) (p_3 : Option Addr) (c_3 : Nat) a w,Has 51 a [(1,.slice l_p l.length l_c),(4,i6 can_1),(5,i6 surely_1),(7,.slice p_3 r.1.length c_3),(8,i6 i_1)] → Ctx G (.row p_3 c_3 (r.1.map enc_api_Span) 29 2::Lf) w → crew_Late_j13 N i_1 can_1 surely_1 = some st9 → K13 a w := by
    repeat (clear hF)
    repeat (clear hc)
    repeat (clear hf)
    intro can_1 surely_1 p_3 c_3 a w hf hc hF
    unfold crew_Late_j13 at hF
    refine h13 _ _ ?_
    refine cReg ?_
    refine stP hf rfl rfl rfl (pM rfl) fun a hf => stP hf rfl rfl rfl (pSub rfl rfl) fun a hf => stP hf rfl rfl rfl (pA rfl) fun a hf => cNil ?_
    exact hK9 (can_1,surely_1,W (i_1 - 1)) _ _ (sj hF).symm ⟨p_3,c_3,hf.kp rfl,hc⟩
   refine wp_block ?_
   refine wp_seq_k fun K14 h14 => ?_
   have hj14 : ∀ (can_2 : Int) (p_4 : Option Addr) (c_4 : Nat) a w,Has 51 a [(1,.slice l_p l.length l_c),(4,i6 can_2),(5,i6 surely),(7,.slice p_4 r.1.length c_4),(8,i6 i_1)] → Ctx G (.row p_4 c_4 (r.1.map enc_api_Span) 29 2::Lf) w → crew_Late_j14 N l r surely i_1 can_2 = some st9 → K14 a w := by
    repeat (clear hF)
    repeat (clear hc)
    repeat (clear hf)
    intro can_2 p_4 c_4 a w hf hc hF
    unfold crew_Late_j14 at hF
    refine h14 _ _ ?_
    refine wp_seq_k fun K15 h15 => ?_
    obtain ⟨e_1,he_1,hF⟩ := bnd_some hF
    obtain ⟨g,rfl,qa,qr⟩ := row_atm hc m0 he_1
    obtain ⟨e_2,he_2,hF⟩ := bnd_some hF
    obtain ⟨b_1,o,qa_1,qp⟩ := h_l.atm he_2
    refine cQ hc follows_mx (by kernel_rfl) ?_
    refine qE hf rfl rfl rfl (Pu.ev (pM rfl)) fun a hf => qE hf rfl rfl rfl (Pu.ev (pM rfl)) fun a hf => qE hf rfl rfl rfl (Pu.ev (pIA Tryz.underlying33 sz_29 rfl rfl qa)) fun a hf => qE hf rfl rfl rfl (Pu.ev (pFA fa_29_0 rfl)) fun a hf => qE hf rfl rfl rfl (eLd1 sc_3 rfl (cell_row (sz := 2) (i := i_1.toNat) (j := 0) m0 qr rfl)) fun a hf => qE hf rfl rfl rfl (Pu.ev (pM rfl)) fun a hf => qE hf rfl rfl rfl (Pu.ev (pM rfl)) fun a hf => qE hf rfl rfl rfl (Pu.ev (pIA Tryz.underlying22 sz_31 rfl rfl qa_1)) fun a hf => qE hf rfl rfl rfl (Pu.ev (pFA fa_31_3 rfl)) fun a hf => qE hf rfl rfl rfl (eLd1 sc_3 rfl (cell_pc (j := 5) qp rfl)) fun a hf => qE hf rfl rfl rfl (Pu.ev (pGt rfl rfl)) fun a hf => ?_
    intro w hc
    refine h15 _ _ ?_
    refine cCond (b := (decide (e_2.Close < e_1.Lo))) hf rfl (fun hb => ?_) (fun hb => ?_)
    ·replace hF := condT hb hF
     clear hb
     refine cReg ?_
     refine stP hf rfl rfl rfl (pM rfl) fun a hf => stP hf rfl rfl rfl (pA rfl) fun a hf => cNil ?_
     exact hj13 can_2 i_1 (some ⟨g,0,none⟩) c_4 _ _  (hf.kp rfl) hc hF
    ·replace hF := condF hb hF
     clear hb
     refine wp_skip ?_
     exact hj13 can_2 surely (some ⟨g,0,none⟩) c_4 _ _  (hf.kp rfl) hc hF
   refine wp_seq_k fun K16 h16 => ?_
   obtain ⟨e_3,he_3,hF⟩ := bnd_some hF
   obtain ⟨g_1,rfl,qa_2,qr_1⟩ := row_atm hc m0 he_3
   obtain ⟨e_4,he_4,hF⟩ := bnd_some hF
   obtain ⟨b_2,o_1,qa_3,qp_1⟩ := h_l.atm he_4
   refine cQ hc follows_mx (by kernel_rfl) ?_
   refine qE hf rfl rfl rfl (Pu.ev (pM rfl)) fun a hf => qE hf rfl rfl rfl (Pu.ev (pM rfl)) fun a hf => qE hf rfl rfl rfl (Pu.ev (pIA Tryz.underlying33 sz_29 rfl rfl qa_2)) fun a hf => qE hf rfl rfl rfl (Pu.ev (pFA fa_29_1 rfl)) fun a hf => qE hf rfl rfl rfl (eLd1 sc_3 rfl (cell_row (sz := 2) (i := i_1.toNat) (j := 1) m0 qr_1 rfl)) fun a hf => qE hf rfl rfl rfl (Pu.ev (pM rfl)) fun a hf => qE hf rfl rfl rfl (Pu.ev (pM rfl)) fun a hf => qE hf rfl rfl rfl (Pu.ev (pIA Tryz.underlying22 sz_31 rfl rfl qa_3)) fun a hf => qE hf rfl rfl rfl (Pu.ev (pFA fa_31_3 rfl)) fun a hf => qE hf rfl rfl rfl (eLd1 sc_3 rfl (cell_pc (j := 5) qp_1 rfl)) fun a hf => qE hf rfl rfl rfl (Pu.ev (pGt rfl rfl)) fun a hf => ?_
   intro w hc
   refine h16 _ _ ?_
   refine cCond (b := (decide (e_4.Close < e_3.Hi))) hf rfl (fun hb => ?_) (fun hb => ?_)
   ·replace hF := condT hb hF
    clear hb
    refine cReg ?_
    refine stP hf rfl rfl rfl (pM rfl) fun a hf => stP hf rfl rfl rfl (pA rfl) fun a hf => cNil ?_
    exact hj14 i_1 (some ⟨g_1,0,none⟩) c_2 _ _  (hf.kp rfl) hc hF
   ·replace hF := condF hb hF
    clear hb
    refine wp_skip ?_
    exact hj14 can (some ⟨g_1,0,none⟩) c_2 _ _  (hf.kp rfl) hc hF
  ·replace hF := condF hb hF
   clear hb
   refine wp_exit ?_
   refine xThen ?_
   refine xThen ?_
   have he := sj hF
   rw [← he] at hfin9
   refine cHit ?_
   exact hr9 _ _ _ hfin9 ⟨p_2,c_2,hf.kp rfl,hc⟩

def kit_Same_int_b7 (N : Nat) (a_ : List Int) (b_ : List Int) (i_1 : Int) : Option (Step (Int) (Bool)) :=
 cond (decide (i_1 < ((a_.length : Nat) : Int)))
 (Option.bind (getI a_ i_1) fun e_1 =>
 Option.bind (getI b_ i_1) fun e_2 =>
 cond (e_1 != e_2)
 (some (.ret false))
 (some (.cont (W (i_1 + 1)))))
 (some (.brk i_1))
def kit_Same_int (N : Nat) (a_ : List Int) (b_ : List Int) : Option (Bool) :=
 cond (((a_.length : Nat) : Int) != ((b_.length : Nat) : Int))
 (some false)
 (Option.bind (loopO (fun s7 => kit_Same_int_b7 N a_ b_ s7) N 0) fun x7 =>
 exK x7 (fun s7 => some true) some)
theorem kit_Same_int_ok {N : Nat} {G : Pers} {Lf : List Ent} {w : World} (a_ : List Int) (b_ : List Int) {a__p : Option Addr} {a__c : Nat} {b__p : Option Addr} {b__c : Nat} (h_a_ : Rd G 1 a__p a__c (a_.map encI_i64)) (h_b_ : Rd G 1 b__p b__c (b_.map encI_i64)) (hc : Ctx G (Lf) w) {res : Bool} (hF : kit_Same_int N a_ b_ = some res) : Calls Tryz.prog 29 #[.slice a__p a_.length a__c,.slice b__p b_.length b__c] w (fun e w => e = .returned (.bool res) ∧ Ctx G (Lf) w) := by
 unfold kit_Same_int at hF
 refine fnIn (args := [.slice a__p a_.length a__c,.slice b__p b_.length b__c]) Tryz.func29 rfl Tryz.ntmps29 rfl fun a hf => wp_seq_k fun K1 h1 => cReg ?_
 refine stP hf rfl rfl rfl (pA rfl) fun a hf => cNil ?_
 refine h1 _ _ ?_
 refine wp_seq_k fun K2 h2 => wp_seq_k fun K3 h3 => cReg ?_
 refine stP hf rfl rfl rfl (pM rfl) fun a hf => stP hf rfl rfl rfl (pLenS Tryz.underlying25 rfl) fun a hf => stP hf rfl rfl rfl (pM rfl) fun a hf => stP hf rfl rfl rfl (pLenS Tryz.underlying25 rfl) fun a hf => stP hf rfl rfl rfl (pNe rfl rfl) fun a hf => cNil ?_
 refine h3 _ _ ?_
 refine cCond (b := (((a_.length : Nat) : Int) != ((b_.length : Nat) : Int))) hf rfl (fun hb => ?_) (fun hb => ?_)
 ·replace hF := condT hb hF
  clear hb
  refine wp_seq_k fun K4 h4 => cReg ?_
  refine stP hf rfl rfl rfl (pA rfl) fun a hf => cNil ?_
  refine h4 _ _ ?_
  refine wp_ret ?_
  refine xThenR ?_
  obtain rfl := sj hF
  exact fnOut1 (by simp) rfl Tryz.results29 hf hc (show look _ 4 = _ from rfl) ⟨rfl,hc⟩
 ·replace hF := condF hb hF
  clear hb
  refine wp_skip ?_
  refine h2 _ _ ?_
  refine wp_seq_k fun K5 h5 => wp_seq_k fun K6 h6 => cReg ?_
  refine stP hf rfl rfl rfl (pA rfl) fun a hf => cNil ?_
  refine h6 _ _ ?_
  refine wp_block ?_
  obtain ⟨x7,hx7,hF⟩ := bnd_some hF
  let S7 : Int → Act → World → Prop := (fun (zz : Int) a w => Has 26 a [(0,.slice a__p a_.length a__c),(1,.slice b__p b_.length b__c),(5,i6 zz)] ∧ Ctx G (Lf) w)
  have hr7 : ∀ (zz : Int) a w,x7 = .go zz → S7 zz a w → K5 a w := by
   rintro i_1 a w rfl ⟨hf,hc⟩
   replace hF := exK_go hF
   refine h5 _ _ ?_
   refine wp_seq_k fun K8 h8 => cReg ?_
   refine stP hf rfl rfl rfl (pA rfl) fun a hf => cNil ?_
   refine h8 _ _ ?_
   refine wp_ret ?_
   obtain rfl := sj hF
   exact fnOut1 (by simp) rfl Tryz.results29 hf hc (show look _ 4 = _ from rfl) ⟨rfl,hc⟩
  have ho7 : ∀ r,x7 = .out r → r = res := by
   rintro r rfl
   exact sj hF
  refine cLoop N (loopW (S := S7) (x := x7) ?_ N 0 _ _ ⟨hf.kp rfl,hc⟩ hx7)
  clear hF hf hc
  rintro i_1 st7 a w KB7 ⟨hf,hc⟩ hF hfin7 hK7
  unfold kit_Same_int_b7 at hF
  refine wp_seq_k fun K9 h9 => wp_seq_k fun K10 h10 => cReg ?_
  refine stP hf rfl rfl rfl (pM rfl) fun a hf => stP hf rfl rfl rfl (pM rfl) fun a hf => stP hf rfl rfl rfl (pLenS Tryz.underlying25 rfl) fun a hf => stP hf rfl rfl rfl (pLt rfl rfl) fun a hf => cNil ?_
  refine h10 _ _ ?_
  refine cCond (b := (decide (i_1 < ((a_.length : Nat) : Int)))) hf rfl (fun hb => ?_) (fun hb => ?_)
  ·replace hF := condT hb hF
   clear hb
   refine wp_skip ?_
   refine h9 _ _ ?_
   refine wp_seq_k fun K11 h11 => wp_block ?_
   refine wp_seq_k fun K12 h12 => ?_
   obtain ⟨e_1,he_1,hF⟩ := bnd_some hF
   obtain ⟨b_1,o,qa,qp⟩ := h_a_.atm he_1
   obtain ⟨e_2,he_2,hF⟩ := bnd_some hF
   obtain ⟨b_2,o_1,qa_1,qp_1⟩ := h_b_.atm he_2
   refine cQ hc follows_mx (by kernel_rfl) ?_
   refine qE hf rfl rfl rfl (Pu.ev (pM rfl)) fun a hf => qE hf rfl rfl rfl (Pu.ev (pM rfl)) fun a hf => qE hf rfl rfl rfl (Pu.ev (pIA Tryz.underlying25 sz_3 rfl rfl qa)) fun a hf => qE hf rfl rfl rfl (eLd1 sc_3 rfl (cell_pc (j := 0) qp rfl)) fun a hf => qE hf rfl rfl rfl (Pu.ev (pM rfl)) fun a hf => qE hf rfl rfl rfl (Pu.ev (pM rfl)) fun a hf => qE hf rfl rfl rfl (Pu.ev (pIA Tryz.underlying25 sz_3 rfl rfl qa_1)) fun a hf => qE hf rfl rfl rfl (eLd1 sc_3 rfl (cell_pc (j := 0) qp_1 rfl)) fun a hf => qE hf rfl rfl rfl (Pu.ev (pNe rfl rfl)) fun a hf => ?_
   intro w hc
   refine h12 _ _ ?_
   refine cCond (b := (e_1 != e_2)) hf rfl (fun hb => ?_) (fun hb => ?_)
   ·replace hF := condT hb hF
    clear hb
    refine wp_seq_k fun K13 h13 => cReg ?_
    refine stP hf rfl rfl rfl (pA rfl) fun a hf => cNil ?_
    refine h13 _ _ ?_
    refine wp_ret ?_
    refine xBlkR ?_
    refine xThenR ?_
    refine xThenR ?_
    have he := sj hF
    rw [← he] at hfin7
    replace hF := ho7 _ hfin7
    refine xBlkR ?_
    refine xThenR ?_
    obtain rfl := hF
    exact fnOut1 (by simp) rfl Tryz.results29 hf hc (show look _ 4 = _ from rfl) ⟨rfl,hc⟩
   ·replace hF := condF hb hF
    clear hb
    refine wp_skip ?_
    refine h11 _ _ ?_
    refine cReg ?_
    refine stP hf rfl rfl rfl (pM rfl) fun a hf => stP hf rfl rfl rfl (pAdd rfl rfl) fun a hf => stP hf rfl rfl rfl (pA rfl) fun a hf => cNil ?_
    exact hK7 (W (i_1 + 1)) _ _ (sj hF).symm ⟨hf.kp rfl,hc⟩
  ·replace hF := condF hb hF
   clear hb
   refine wp_exit ?_
   refine xThen ?_
   refine xThen ?_
   have he := sj hF
   rw [← he] at hfin7
   refine cHit ?_
   exact hr7 _ _ _ hfin7 ⟨hf.kp rfl,hc⟩

def kit_Same_api_Span_b7 (N : Nat) (a_ : List api_Span) (b_ : List api_Span) (i_1 : Int) : Option (Step (Int) (Bool)) :=
 cond (decide (i_1 < ((a_.length : Nat) : Int)))
 (Option.bind (getI a_ i_1) fun e_1 =>
 Option.bind (getI b_ i_1) fun e_2 =>
 cond (!(e_1.Lo == e_2.Lo && e_1.Hi == e_2.Hi))
 (some (.ret false))
 (some (.cont (W (i_1 + 1)))))
 (some (.brk i_1))
def kit_Same_api_Span (N : Nat) (a_ : List api_Span) (b_ : List api_Span) : Option (Bool) :=
 cond (((a_.length : Nat) : Int) != ((b_.length : Nat) : Int))
 (some false)
 (Option.bind (loopO (fun s7 => kit_Same_api_Span_b7 N a_ b_ s7) N 0) fun x7 =>
 exK x7 (fun s7 => some true) some)
theorem kit_Same_api_Span_ok {N : Nat} {G : Pers} {Lf : List Ent} {w : World} (a_ : List api_Span) (b_ : List api_Span) {a__p : Option Addr} {a__c : Nat} {b__p : Option Addr} {b__c : Nat} (h_a_ : Rd G 2 a__p a__c (a_.map enc_api_Span)) (h_b_ : Rd G 2 b__p b__c (b_.map enc_api_Span)) (hc : Ctx G (Lf) w) {res : Bool} (hF : kit_Same_api_Span N a_ b_ = some res) : Calls Tryz.prog 21 #[.slice a__p a_.length a__c,.slice b__p b_.length b__c] w (fun e w => e = .returned (.bool res) ∧ Ctx G (Lf) w) := by
 unfold kit_Same_api_Span at hF
 refine fnIn (args := [.slice a__p a_.length a__c,.slice b__p b_.length b__c]) Tryz.func21 rfl Tryz.ntmps21 rfl fun a hf => wp_seq_k fun K1 h1 => cReg ?_
 refine stP hf rfl rfl rfl (pA rfl) fun a hf => cNil ?_
 refine h1 _ _ ?_
 refine wp_seq_k fun K2 h2 => wp_seq_k fun K3 h3 => cReg ?_
 refine stP hf rfl rfl rfl (pM rfl) fun a hf => stP hf rfl rfl rfl (pLenS Tryz.underlying33 rfl) fun a hf => stP hf rfl rfl rfl (pM rfl) fun a hf => stP hf rfl rfl rfl (pLenS Tryz.underlying33 rfl) fun a hf => stP hf rfl rfl rfl (pNe rfl rfl) fun a hf => cNil ?_
 refine h3 _ _ ?_
 refine cCond (b := (((a_.length : Nat) : Int) != ((b_.length : Nat) : Int))) hf rfl (fun hb => ?_) (fun hb => ?_)
 ·replace hF := condT hb hF
  clear hb
  refine wp_seq_k fun K4 h4 => cReg ?_
  refine stP hf rfl rfl rfl (pA rfl) fun a hf => cNil ?_
  refine h4 _ _ ?_
  refine wp_ret ?_
  refine xThenR ?_
  obtain rfl := sj hF
  exact fnOut1 (by simp) rfl Tryz.results21 hf hc (show look _ 4 = _ from rfl) ⟨rfl,hc⟩
 ·replace hF := condF hb hF
  clear hb
  refine wp_skip ?_
  refine h2 _ _ ?_
  refine wp_seq_k fun K5 h5 => wp_seq_k fun K6 h6 => cReg ?_
  refine stP hf rfl rfl rfl (pA rfl) fun a hf => cNil ?_
  refine h6 _ _ ?_
  refine wp_block ?_
  obtain ⟨x7,hx7,hF⟩ := bnd_some hF
  let S7 : Int → Act → World → Prop := (fun (zz : Int) a w => Has 26 a [(0,.slice a__p a_.length a__c),(1,.slice b__p b_.length b__c),(5,i6 zz)] ∧ Ctx G (Lf) w)
  have hr7 : ∀ (zz : Int) a w,x7 = .go zz → S7 zz a w → K5 a w := by
   rintro i_1 a w rfl ⟨hf,hc⟩
   replace hF := exK_go hF
   refine h5 _ _ ?_
   refine wp_seq_k fun K8 h8 => cReg ?_
   refine stP hf rfl rfl rfl (pA rfl) fun a hf => cNil ?_
   refine h8 _ _ ?_
   refine wp_ret ?_
   obtain rfl := sj hF
   exact fnOut1 (by simp) rfl Tryz.results21 hf hc (show look _ 4 = _ from rfl) ⟨rfl,hc⟩
  have ho7 : ∀ r,x7 = .out r → r = res := by
   rintro r rfl
   exact sj hF
  refine cLoop N (loopW (S := S7) (x := x7) ?_ N 0 _ _ ⟨hf.kp rfl,hc⟩ hx7)
  clear hF hf hc
  rintro i_1 st7 a w KB7 ⟨hf,hc⟩ hF hfin7 hK7
  unfold kit_Same_api_Span_b7 at hF
  refine wp_seq_k fun K9 h9 => wp_seq_k fun K10 h10 => cReg ?_
  refine stP hf rfl rfl rfl (pM rfl) fun a hf => stP hf rfl rfl rfl (pM rfl) fun a hf => stP hf rfl rfl rfl (pLenS Tryz.underlying33 rfl) fun a hf => stP hf rfl rfl rfl (pLt rfl rfl) fun a hf => cNil ?_
  refine h10 _ _ ?_
  refine cCond (b := (decide (i_1 < ((a_.length : Nat) : Int)))) hf rfl (fun hb => ?_) (fun hb => ?_)
  ·replace hF := condT hb hF
   clear hb
   refine wp_skip ?_
   refine h9 _ _ ?_
   refine wp_seq_k fun K11 h11 => wp_block ?_
   refine wp_seq_k fun K12 h12 => ?_
   obtain ⟨e_1,he_1,hF⟩ := bnd_some hF
   obtain ⟨b_1,o,qa,qp⟩ := h_a_.atm he_1
   obtain ⟨e_2,he_2,hF⟩ := bnd_some hF
   obtain ⟨b_2,o_1,qa_1,qp_1⟩ := h_b_.atm he_2
   refine cQ hc follows_mx (by kernel_rfl) ?_
   refine qE hf rfl rfl rfl (Pu.ev (pM rfl)) fun a hf => qE hf rfl rfl rfl (Pu.ev (pM rfl)) fun a hf => qE hf rfl rfl rfl (Pu.ev (pIA Tryz.underlying33 sz_29 rfl rfl qa)) fun a hf => qE hf rfl rfl rfl (eLdN (vs := [i6 e_1.Lo,i6 e_1.Hi]) ag_29 rfl rfl (cells_pc qp (n := 2) (o' := 0) rfl)) fun a hf => qE hf rfl rfl rfl (Pu.ev (pM rfl)) fun a hf => qE hf rfl rfl rfl (Pu.ev (pM rfl)) fun a hf => qE hf rfl rfl rfl (Pu.ev (pIA Tryz.underlying33 sz_29 rfl rfl qa_1)) fun a hf => qE hf rfl rfl rfl (eLdN (vs := [i6 e_2.Lo,i6 e_2.Hi]) ag_29 rfl rfl (cells_pc qp_1 (n := 2) (o' := 0) rfl)) fun a hf => qE hf rfl rfl rfl (Pu.ev (pNeA ge_29 rfl rfl (eqs_29 _ _ _ _))) fun a hf => ?_
   intro w hc
   refine h12 _ _ ?_
   refine cCond (b := (!(e_1.Lo == e_2.Lo && e_1.Hi == e_2.Hi))) hf rfl (fun hb => ?_) (fun hb => ?_)
   ·replace hF := condT hb hF
    clear hb
    refine wp_seq_k fun K13 h13 => cReg ?_
    refine stP hf rfl rfl rfl (pA rfl) fun a hf => cNil ?_
    refine h13 _ _ ?_
    refine wp_ret ?_
    refine xBlkR ?_
    refine xThenR ?_
    refine xThenR ?_
    have he := sj hF
    rw [← he] at hfin7
    replace hF := ho7 _ hfin7
    refine xBlkR ?_
    refine xThenR ?_
    obtain rfl := hF
    exact fnOut1 (by simp) rfl Tryz.results21 hf hc (show look _ 4 = _ from rfl) ⟨rfl,hc⟩
   ·replace hF := condF hb hF
    clear hb
    refine wp_skip ?_
    refine h11 _ _ ?_
    refine cReg ?_
    refine stP hf rfl rfl rfl (pM rfl) fun a hf => stP hf rfl rfl rfl (pAdd rfl rfl) fun a hf => stP hf rfl rfl rfl (pA rfl) fun a hf => cNil ?_
    exact hK7 (W (i_1 + 1)) _ _ (sj hF).symm ⟨hf.kp rfl,hc⟩
  ·replace hF := condF hb hF
   clear hb
   refine wp_exit ?_
   refine xThen ?_
   refine xThen ?_
   have he := sj hF
   rw [← he] at hfin7
   refine cHit ?_
   exact hr7 _ _ _ hfin7 ⟨hf.kp rfl,hc⟩

def crew_Latest_b9 (N : Nat) (l : List crew_Visit) (by_ : Int) (i_1 : Int) : Option (Step (Int × Int) (Int × Int)) :=
 cond (decide (0 ≤ i_1))
 (Option.bind (getI l i_1) fun e_1 =>
 Option.bind (getI l i_1) fun e_2 =>
 Option.bind (getI l i_1) fun e_3 =>
 cond (decide ((min e_1.Close (W (by_ - e_2.Work.Hi))) < e_3.Open))
 (some (.ret (0,5)))
 (Option.bind (getI l i_1) fun e_4 =>
 some (.cont (W ((min e_1.Close (W (by_ - e_2.Work.Hi))) - e_4.Way.Hi),W (i_1 - 1)))))
 (some (.brk (by_,i_1)))
def crew_Latest (N : Nat) (l : List crew_Visit) : Option (Int × Int) :=
 Option.bind (crew_rounded N l) fun r =>
 cond (r != 0)
 (some (0,r))
 (Option.bind (loopO (fun s9 => crew_Latest_b9 N l s9.1 s9.2) N (200000,W (((l.length : Nat) : Int) - 1))) fun x9 =>
 exK x9 (fun s9 => cond (decide (s9.1 < 0))
 (some (0,5))
 (some (s9.1,0))) some)
theorem crew_Latest_ok {N : Nat} {G : Pers} {Lf : List Ent} {w : World} (l : List crew_Visit) {l_p : Option Addr} {l_c : Nat} (h_l : Rd G 6 l_p l_c (l.map enc_crew_Visit)) (hc : Ctx G (Lf) w) {res : Int × Int} (hF : crew_Latest N l = some res) : Calls Tryz.prog 24 #[.slice l_p l.length l_c] w (fun e w => e = .returned (.tuple #[i6 res.1,i6 res.2]) ∧ Ctx G (Lf) w) := by
 unfold crew_Latest at hF
 refine fnIn (args := [.slice l_p l.length l_c]) Tryz.func24 rfl Tryz.ntmps24 rfl fun a hf => wp_seq_k fun K1 h1 => cReg ?_
 refine stP hf rfl rfl rfl (pA rfl) fun a hf => stP hf rfl rfl rfl (pA rfl) fun a hf => cNil ?_
 refine h1 _ _ ?_
 refine wp_seq_k fun K2 h2 => wp_seq_k fun K3 h3 => cReg ?_
 refine stP hf rfl rfl rfl (pM rfl) fun a hf => ?_
 obtain ⟨r,hr,hF⟩ := bnd_some hF
 refine stE hf hc rfl rfl rfl (eC (v := i6 r) (vs := [.slice l_p l.length l_c]) (caps := []) en_79 rfl rfl rfl rfl (fun w hc => crew_rounded_ok l h_l hc hr)) fun a w hf hc => stP hf rfl rfl rfl (pA rfl) fun a hf => cNil ?_
 refine h3 _ _ ?_
 refine wp_seq_k fun K4 h4 => cReg ?_
 refine stP hf rfl rfl rfl (pM rfl) fun a hf => stP hf rfl rfl rfl (pNe rfl rfl) fun a hf => cNil ?_
 refine h4 _ _ ?_
 refine cCond (b := (r != 0)) hf rfl (fun hb => ?_) (fun hb => ?_)
 ·replace hF := condT hb hF
  clear hb
  refine wp_seq_k fun K5 h5 => cReg ?_
  refine stP hf rfl rfl rfl (pM rfl) fun a hf => stP hf rfl rfl rfl (pA rfl) fun a hf => stP hf rfl rfl rfl (pA rfl) fun a hf => cNil ?_
  refine h5 _ _ ?_
  refine wp_ret ?_
  refine xThenR ?_
  obtain rfl := sj hF
  exact fnOut2 (by simp) rfl Tryz.results24 hf hc (show look _ 2 = _ from rfl) (show look _ 3 = _ from rfl) ⟨rfl,hc⟩
 ·replace hF := condF hb hF
  clear hb
  refine wp_skip ?_
  refine h2 _ _ ?_
  refine wp_seq_k fun K6 h6 => cReg ?_
  refine stP hf rfl rfl rfl (pA rfl) fun a hf => cNil ?_
  refine h6 _ _ ?_
  refine wp_seq_k fun K7 h7 => wp_seq_k fun K8 h8 => cReg ?_
  refine stP hf rfl rfl rfl (pM rfl) fun a hf => stP hf rfl rfl rfl (pLenS Tryz.underlying22 rfl) fun a hf => stP hf rfl rfl rfl (pSub rfl rfl) fun a hf => stP hf rfl rfl rfl (pA rfl) fun a hf => cNil ?_
  refine h8 _ _ ?_
  refine wp_block ?_
  obtain ⟨x9,hx9,hF⟩ := bnd_some hF
  let S9 : (Int × Int) → Act → World → Prop := (fun (zz : Int × Int) a w => Has 51 a [(0,.slice l_p l.length l_c),(5,i6 zz.1),(6,i6 zz.2)] ∧ Ctx G (Lf) w)
  have hr9 : ∀ (zz : Int × Int) a w,x9 = .go zz → S9 zz a w → K7 a w := by
   rintro ⟨by_,i_1⟩ a w rfl ⟨hf,hc⟩
   replace hF := exK_go hF
   refine h7 _ _ ?_
   refine wp_seq_k fun K10 h10 => wp_seq_k fun K11 h11 => cReg ?_
   refine stP hf rfl rfl rfl (pM rfl) fun a hf => stP hf rfl rfl rfl (pLt rfl rfl) fun a hf => cNil ?_
   refine h11 _ _ ?_
   refine cCond (b := (decide (by_ < 0))) hf rfl (fun hb => ?_) (fun hb => ?_)
   ·replace hF := condT hb hF
    clear hb
    refine wp_seq_k fun K12 h12 => cReg ?_
    refine stP hf rfl rfl rfl (pA rfl) fun a hf => stP hf rfl rfl rfl (pA rfl) fun a hf => cNil ?_
    refine h12 _ _ ?_
    refine wp_ret ?_
    refine xThenR ?_
    obtain rfl := sj hF
    exact fnOut2 (by simp) rfl Tryz.results24 hf hc (show look _ 2 = _ from rfl) (show look _ 3 = _ from rfl) ⟨rfl,hc⟩
   ·replace hF := condF hb hF
    clear hb
    refine wp_skip ?_
    refine h10 _ _ ?_
    refine wp_seq_k fun K13 h13 => cReg ?_
    refine stP hf rfl rfl rfl (pM rfl) fun a hf => stP hf rfl rfl rfl (pA rfl) fun a hf => stP hf rfl rfl rfl (pA rfl) fun a hf => cNil ?_
    refine h13 _ _ ?_
    refine wp_ret ?_
    obtain rfl := sj hF
    exact fnOut2 (by simp) rfl Tryz.results24 hf hc (show look _ 2 = _ from rfl) (show look _ 3 = _ from rfl) ⟨rfl,hc⟩
  have ho9 : ∀ r,x9 = .out r → r = res := by
   rintro r rfl
   exact sj hF
  refine cLoop N (loopW (S := S9) (x := x9) ?_ N (200000,W (((l.length : Nat) : Int) - 1)) _ _ ⟨hf.kp rfl,hc⟩ hx9)
  clear hF hf hc
  rintro ⟨by_,i_1⟩ st9 a w KB9 ⟨hf,hc⟩ hF hfin9 hK9
  unfold crew_Latest_b9 at hF
  refine wp_seq_k fun K14 h14 => wp_seq_k fun K15 h15 => cReg ?_
  refine stP hf rfl rfl rfl (pM rfl) fun a hf => stP hf rfl rfl rfl (pGe rfl rfl) fun a hf => cNil ?_
  refine h15 _ _ ?_
  refine cCond (b := (decide (0 ≤ i_1))) hf rfl (fun hb => ?_) (fun hb => ?_)
  ·replace hF := condT hb hF
   clear hb
   refine wp_skip ?_
   refine h14 _ _ ?_
   refine wp_seq_k fun K16 h16 => wp_block ?_
   refine wp_seq_k fun K17 h17 => ?_
   obtain ⟨e_1,he_1,hF⟩ := bnd_some hF
   obtain ⟨b_1,o,qa,qp⟩ := h_l.atm he_1
   obtain ⟨e_2,he_2,hF⟩ := bnd_some hF
   obtain ⟨b_2,o_1,qa_1,qp_1⟩ := h_l.atm he_2
   refine cQ hc follows_mx (by kernel_rfl) ?_
   refine qE hf rfl rfl rfl (Pu.ev (pM rfl)) fun a hf => qE hf rfl rfl rfl (Pu.ev (pM rfl)) fun a hf => qE hf rfl rfl rfl (Pu.ev (pIA Tryz.underlying22 sz_31 rfl rfl qa)) fun a hf => qE hf rfl rfl rfl (Pu.ev (pFA fa_31_3 rfl)) fun a hf => qE hf rfl rfl rfl (eLd1 sc_3 rfl (cell_pc (j := 5) qp rfl)) fun a hf => qE hf rfl rfl rfl (Pu.ev (pM rfl)) fun a hf => qE hf rfl rfl rfl (Pu.ev (pM rfl)) fun a hf => qE hf rfl rfl rfl (Pu.ev (pM rfl)) fun a hf => qE hf rfl rfl rfl (Pu.ev (pIA Tryz.underlying22 sz_31 rfl rfl qa_1)) fun a hf => qE hf rfl rfl rfl (Pu.ev (pFA fa_31_1 rfl)) fun a hf => qE hf rfl rfl rfl (Pu.ev (pFA fa_29_1 rfl)) fun a hf => qE hf rfl rfl rfl (eLd1 sc_3 rfl (cell_pc (j := 3) qp_1 rfl)) fun a hf => qE hf rfl rfl rfl (Pu.ev (pSub rfl rfl)) fun a hf => ?_
   refine qE hf rfl rfl rfl (Pu.ev (pMin2 rfl rfl)) fun a hf => qE hf rfl rfl rfl (Pu.ev (pA rfl)) fun a hf => ?_
   intro w hc
   refine h17 _ _ ?_
   refine wp_seq_k fun K18 h18 => wp_seq_k fun K19 h19 => cReg ?_
   refine stP hf rfl rfl rfl (pM rfl) fun a hf => stP hf rfl rfl rfl (pM rfl) fun a hf => stP hf rfl rfl rfl (pM rfl) fun a hf => ?_
   obtain ⟨e_3,he_3,hF⟩ := bnd_some hF
   obtain ⟨b_3,o_2,qa_2,qp_2⟩ := h_l.atm he_3
   refine stP hf rfl rfl rfl (pIA Tryz.underlying22 sz_31 rfl rfl qa_2) fun a hf => stP hf rfl rfl rfl (pFA fa_31_2 rfl) fun a hf => stE hf hc rfl rfl rfl (eLd1 sc_3 rfl (cell_pc (j := 4) qp_2 rfl)) fun a w hf hc => stP hf rfl rfl rfl (pLt rfl rfl) fun a hf => cNil ?_
   refine h19 _ _ ?_
   refine cCond (b := (decide ((min e_1.Close (W (by_ - e_2.Work.Hi))) < e_3.Open))) hf rfl (fun hb => ?_) (fun hb => ?_)
   ·replace hF := condT hb hF
    clear hb
    refine wp_seq_k fun K20 h20 => cReg ?_
    refine stP hf rfl rfl rfl (pA rfl) fun a hf => stP hf rfl rfl rfl (pA rfl) fun a hf => cNil ?_
    refine h20 _ _ ?_
    refine wp_ret ?_
    refine xThenR ?_
    refine xBlkR ?_
    refine xThenR ?_
    refine xThenR ?_
    have he := sj hF
    rw [← he] at hfin9
    replace hF := ho9 _ hfin9
    refine xBlkR ?_
    refine xThenR ?_
    obtain rfl := hF
    exact fnOut2 (by simp) rfl Tryz.results24 hf hc (show look _ 2 = _ from rfl) (show look _ 3 = _ from rfl) ⟨rfl,hc⟩
   ·replace hF := condF hb hF
    clear hb
    refine wp_skip ?_
    refine h18 _ _ ?_
    refine cReg ?_
    refine stP hf rfl rfl rfl (pM rfl) fun a hf => stP hf rfl rfl rfl (pM rfl) fun a hf => stP hf rfl rfl rfl (pM rfl) fun a hf => ?_
    obtain ⟨e_4,he_4,hF⟩ := bnd_some hF
    obtain ⟨b_4,o_3,qa_3,qp_3⟩ := h_l.atm he_4
    refine stP hf rfl rfl rfl (pIA Tryz.underlying22 sz_31 rfl rfl qa_3) fun a hf => stP hf rfl rfl rfl (pFA fa_31_0 rfl) fun a hf => stP hf rfl rfl rfl (pFA fa_29_1 rfl) fun a hf => stE hf hc rfl rfl rfl (eLd1 sc_3 rfl (cell_pc (j := 1) qp_3 rfl)) fun a w hf hc => stP hf rfl rfl rfl (pSub rfl rfl) fun a hf => stP hf rfl rfl rfl (pA rfl) fun a hf => cNil ?_
    refine h16 _ _ ?_
    refine cReg ?_
    refine stP hf rfl rfl rfl (pM rfl) fun a hf => stP hf rfl rfl rfl (pSub rfl rfl) fun a hf => stP hf rfl rfl rfl (pA rfl) fun a hf => cNil ?_
    exact hK9 (W ((min e_1.Close (W (by_ - e_2.Work.Hi))) - e_4.Way.Hi),W (i_1 - 1)) _ _ (sj hF).symm ⟨hf.kp rfl,hc⟩
  ·replace hF := condF hb hF
   clear hb
   refine wp_exit ?_
   refine xThen ?_
   refine xThen ?_
   have he := sj hF
   rw [← he] at hfin9
   refine cHit ?_
   exact hr9 _ _ _ hfin9 ⟨hf.kp rfl,hc⟩

def law11_Wire (N : Nat)  : Option (crew_Cable) :=
 Option.bind (law11_span N 80 90) fun r =>
 Option.bind (law11_span N 160 180) fun r_1 =>
 some (⟨50,100,250,3000,([(⟨0,10,r⟩ : crew_Ride),(⟨5,5,r_1⟩ : crew_Ride)] : List crew_Ride)⟩ : crew_Cable)
theorem law11_Wire_ok {N : Nat} {G : Pers} {Lf : List Ent} {w : World}    (hc : Ctx G (Lf) w) {res : crew_Cable} (hF : law11_Wire N = some res) : Calls Tryz.prog 69 #[] w (fun e w => ∃ (p'1 : Option Addr) (c'1 : Nat),e = .returned (.agg #[i6 res.Car,i6 res.Wide,i6 res.Sag,i6 res.Most,.slice p'1 res.Rides.length c'1]) ∧ Ctx G (.row p'1 c'1 (res.Rides.map enc_crew_Ride) 72 4::Lf) w) := by
 unfold law11_Wire at hF
 refine fnIn (args := []) Tryz.func69 rfl Tryz.ntmps69 rfl fun a hf => wp_seq_k fun K1 h1 => cReg ?_
 refine stAl (cs := [i6 0,i6 0,i6 0,i6 0,.slice none 0 0]) hf hc rfl rfl zr_54 rfl fun b_1 a w hf hc => cNil ?_
 refine h1 _ _ ?_
 refine wp_seq_k fun K2 h2 => cReg ?_
 obtain ⟨r,hr,hF⟩ := bnd_some hF
 refine stE hf hc rfl rfl rfl (eC (v := .agg #[i6 r.Lo,i6 r.Hi]) (vs := [i6 80,i6 90]) (caps := []) en_51 rfl rfl rfl rfl (fun w hc => law11_span_ok 80 90 hc hr)) fun a w hf hc => stP hf rfl rfl rfl (pBuildS (cells := [i6 0,i6 10,i6 r.Lo,i6 r.Hi]) bt_72 rfl rfl) fun a hf => ?_
 obtain ⟨r_1,hr_1,hF⟩ := bnd_some hF
 refine stE hf hc rfl rfl rfl (eC (v := .agg #[i6 r_1.Lo,i6 r_1.Hi]) (vs := [i6 160,i6 180]) (caps := []) en_51 rfl rfl rfl rfl (fun w hc => law11_span_ok 160 180 hc hr_1)) fun a w hf hc => stP hf rfl rfl rfl (pBuildS (cells := [i6 5,i6 5,i6 r_1.Lo,i6 r_1.Hi]) bt_72 rfl rfl) fun a hf => stBS (rows := ([(⟨0,10,r⟩ : crew_Ride),(⟨5,5,r_1⟩ : crew_Ride)] : List crew_Ride).map enc_crew_Ride) (vs := [(0,.agg #[i6 0,i6 10,i6 r.Lo,i6 r.Hi]),(1,.agg #[i6 5,i6 5,i6 r_1.Lo,i6 r_1.Hi])]) hf hc rfl rfl sl_52 rfl ⟨rfl,rfl,rfl,rfl,rfl,rfl,trivial⟩ rfl rfl fun b_2 a w hf hc => stP hf rfl rfl rfl (pBuildS (cells := [i6 50,i6 100,i6 250,i6 3000,.slice (some ⟨b_2,0,none⟩) 2 2]) bt_54 rfl rfl) fun a hf => stSt (vs := [i6 50,i6 100,i6 250,i6 3000,.slice (some ⟨b_2,0,none⟩) 2 2]) hf hc rfl rfl rfl rfl sz_54 rfl rfl u1 fun w hc => cNil ?_
 refine h2 _ _ ?_
 refine wp_ret ?_
 obtain rfl := sj hF
 exact fnOut1 (by simp) rfl Tryz.results69 hf hc (rv_cellN (vs := [i6 50,i6 100,i6 250,i6 3000,.slice (some ⟨b_2,0,none⟩) 2 2]) ag_54 rfl rfl (cells_box (n := 5) m1 rfl)) ⟨(some ⟨b_2,0,none⟩),2,rfl,(hc.drop k1)⟩

def crew_Cable_load_s2_j9 (N : Nat) (x : Int) (l_1 : List Int) : Option (Step ((List Int) × Int) (Int)) :=
 some (.cont (l_1,W (x + 1)))
def crew_Cable_load_s2_b5 (N : Nat) (c_ : crew_Cable) (n : Int) (l : List Int) (x : Int) : Option (Step ((List Int) × Int) (Int)) :=
 cond (decide (x < ((c_.Rides.length : Nat) : Int)))
 (Option.bind (getI c_.Rides x) fun e_1 =>
 cond (crew_Ride_on e_1 n)
 (Option.bind (room ((l ++ [(crew_low_1 e_1.Weight)])).length) fun un =>
 crew_Cable_load_s2_j9 N x (l ++ [(crew_low_1 e_1.Weight)]))
 (crew_Cable_load_s2_j9 N x l))
 (some (.brk (l,x)))
def crew_Cable_load_s2 (N : Nat) (c_ : crew_Cable) (n : Int) : Option (Int) :=
 Option.bind (loopO (fun s5 => crew_Cable_load_s2_b5 N c_ n s5.1 s5.2) N (([c_.Car] : List Int),0)) fun x5 =>
 exK x5 (fun s5 => Option.bind (crew_sum N s5.1) fun r =>
 some r) some
theorem crew_Cable_load_s2_ok {N : Nat} {G : Pers} {Lf : List Ent} {w : World} (c_ : crew_Cable) (n : Int) {c__Rides_p : Option Addr} {c__Rides_c : Nat} (h_c__Rides : Rd G 4 c__Rides_p c__Rides_c (c_.Rides.map enc_crew_Ride)) (hc : Ctx G (Lf) w) {res : Int} (hF : crew_Cable_load_s2 N c_ n = some res) : Calls Tryz.prog 93 #[.agg #[i6 c_.Car,i6 c_.Wide,i6 c_.Sag,i6 c_.Most,.slice c__Rides_p c_.Rides.length c__Rides_c],i6 n,.agg #[.func (.func 155) #[] #[]]] w (fun e w => e = .returned (i6 res) ∧ Ctx G (Lf) w) := by
 unfold crew_Cable_load_s2 at hF
 refine fnIn (args := [.agg #[i6 c_.Car,i6 c_.Wide,i6 c_.Sag,i6 c_.Most,.slice c__Rides_p c_.Rides.length c__Rides_c],i6 n,.agg #[.func (.func 155) #[] #[]]]) Tryz.func93 rfl Tryz.ntmps93 rfl fun a hf => wp_seq_k fun K1 h1 => cReg ?_
 refine stBx (cs := [i6 c_.Car,i6 c_.Wide,i6 c_.Sag,i6 c_.Most,.slice c__Rides_p c_.Rides.length c__Rides_c]) hf hc rfl rfl rfl rfl fun b_1 a w hf hc => stBx (cs := [.func (.func 155) #[] #[]]) hf hc rfl rfl rfl rfl fun b_2 a w hf hc => stP hf rfl rfl rfl (pA rfl) fun a hf => cNil ?_
 refine h1 _ _ ?_
 refine wp_seq_k fun K2 h2 => cReg ?_
 refine stP hf rfl rfl rfl (pFA fa_54_0 rfl) fun a hf => stE hf hc rfl rfl rfl (eLd1 sc_3 rfl (cell_box m1 rfl)) fun a w hf hc => stBS (rows := ([c_.Car] : List Int).map encI_i64) (vs := [(0,i6 c_.Car)]) hf hc rfl rfl sl_25 rfl ⟨rfl,rfl,rfl,trivial⟩ rfl rfl fun b_3 a w hf hc => stP hf rfl rfl rfl (pA rfl) fun a hf => cNil ?_
 refine h2 _ _ ?_
 refine wp_seq_k fun K3 h3 => wp_seq_k fun K4 h4 => cReg ?_
 refine stP hf rfl rfl rfl (pFA fa_54_4 rfl) fun a hf => stE hf hc rfl rfl rfl (eLd1 sc_52 rfl (cell_box m2 rfl)) fun a w hf hc => stP hf rfl rfl rfl (pLenS Tryz.underlying52 rfl) fun a hf => stP hf rfl rfl rfl (pM rfl) fun a hf => cNil ?_
 refine h4 _ _ ?_
 refine wp_block ?_
 obtain ⟨x5,hx5,hF⟩ := bnd_some hF
 let S5 : ((List Int) × Int) → Act → World → Prop := (fun (zz : (List Int) × Int) a w => ∃ (p_1 : Option Addr) (c_1 : Nat),Has 34 a [(1,i6 n),(5,pq b_2),(7,.slice p_1 zz.1.length c_1),(14,.slice c__Rides_p c_.Rides.length c__Rides_c),(15,i6 ((c_.Rides.length : Nat) : Int)),(16,i6 zz.2)] ∧ Ctx G (.row p_1 c_1 (zz.1.map encI_i64) 3 1::.box b_2 [.func (.func 155) #[] #[]] 147::Lf) w)
 have hr5 : ∀ (zz : (List Int) × Int) a w,x5 = .go zz → S5 zz a w → K3 a w := by
  rintro ⟨l,x⟩ a w rfl ⟨p_1,c_1,hf,hc⟩
  replace hF := exK_go hF
  refine h3 _ _ ?_
  refine wp_seq_k fun K6 h6 => cReg ?_
  refine stP hf rfl rfl rfl (pM rfl) fun a hf => ?_
  obtain ⟨r,hr,hF⟩ := bnd_some hF
  refine stE hf hc rfl rfl rfl (eC (v := i6 r) (vs := [.slice p_1 l.length c_1]) (caps := []) en_160 rfl rfl rfl rfl (fun w hc => by obtain ⟨G1,hle1,hrd1,hc,hth1⟩ := lend hc k0; exact (crew_sum_ok l hrd1 hc hr).mono fun e w h => ⟨h.1,((hth1 _ _ h.2).unpick k0)⟩)) fun a w hf hc => stP hf rfl rfl rfl (pA rfl) fun a hf => cNil ?_
  refine h6 _ _ ?_
  refine wp_ret ?_
  obtain rfl := sj hF
  replace hc := hc.drop k1
  replace hc := hc.drop k0
  exact fnOut1 (by simp) rfl Tryz.results93 hf hc (show look _ 6 = _ from rfl) ⟨rfl,hc⟩
 have ho5 : ∀ r,x5 = .out r → r = res := by
  rintro r rfl
  exact sj hF
 replace hc := hc.drop k2
 refine cLoop N (loopW (S := S5) (x := x5) ?_ N (([c_.Car] : List Int),0) _ _ ⟨(some ⟨b_3,0,none⟩),1,hf.kp rfl,hc⟩ hx5)
 clear hF hf hc
 rintro ⟨l,x⟩ st5 a w KB5 ⟨p_1,c_1,hf,hc⟩ hF hfin5 hK5
 unfold crew_Cable_load_s2_b5 at hF
 refine wp_seq_k fun K7 h7 => cReg ?_
 refine stP hf rfl rfl rfl (pLt rfl rfl) fun a hf => cNil ?_
 refine h7 _ _ ?_
 refine wp_seq_k fun K8 h8 => cCond (b := (decide (x < ((c_.Rides.length : Nat) : Int)))) hf rfl (fun hb => ?_) (fun hb => ?_)
 ·replace hF := condT hb hF
  clear hb
  refine wp_skip ?_
  refine h8 _ _ ?_
  refine wp_seq_k fun K9 h9 => ?_
  have hj9 : ∀ (l_1 : List Int) (p_2 : Option Addr) (c_2 : Nat) a w,Has 34 a [(1,i6 n),(5,pq b_2),(7,.slice p_2 l_1.length c_2),(14,.slice c__Rides_p c_.Rides.length c__Rides_c),(15,i6 ((c_.Rides.length : Nat) : Int)),(16,i6 x)] → Ctx G (.row p_2 c_2 (l_1.map encI_i64) 3 1::.box b_2 [.func (.func 155) #[] #[]] 147::Lf) w → crew_Cable_load_s2_j9 N x l_1 = some st5 → K9 a w := by
   repeat (clear hF)
   repeat (clear hc)
   repeat (clear hf)
   intro l_1 p_2 c_2 a w hf hc hF
   unfold crew_Cable_load_s2_j9 at hF
   refine h9 _ _ ?_
   refine cReg ?_
   refine stP hf rfl rfl rfl (pAdd rfl rfl) fun a hf => stP hf rfl rfl rfl (pM rfl) fun a hf => cNil ?_
   exact hK5 (l_1,W (x + 1)) _ _ (sj hF).symm ⟨p_2,c_2,hf.kp rfl,hc⟩
  refine wp_block ?_
  refine wp_seq_k fun K10 h10 => cReg ?_
  obtain ⟨e_1,he_1,hF⟩ := bnd_some hF
  obtain ⟨b_4,o,qa,qp⟩ := h_c__Rides.atm he_1
  refine stP hf rfl rfl rfl (pIA Tryz.underlying52 sz_72 rfl rfl qa) fun a hf => stE hf hc rfl rfl rfl (eLdN (vs := [i6 e_1.From,i6 e_1.Long,i6 e_1.Weight.Lo,i6 e_1.Weight.Hi]) ag_72 rfl rfl (cells_pc qp (n := 4) (o' := 0) rfl)) fun a w hf hc => stAl (cs := [i6 0,i6 0,i6 0,i6 0]) hf hc rfl rfl zr_72 rfl fun b_5 a w hf hc => stSt (vs := [i6 e_1.From,i6 e_1.Long,i6 e_1.Weight.Lo,i6 e_1.Weight.Hi]) hf hc rfl rfl rfl rfl sz_72 rfl rfl u0 fun w hc => cNil ?_
  refine h10 _ _ ?_
  refine wp_seq_k fun K11 h11 => cReg ?_
  refine stE hf hc rfl rfl rfl (eLdN (vs := [i6 e_1.From,i6 e_1.Long,i6 e_1.Weight.Lo,i6 e_1.Weight.Hi]) ag_72 rfl rfl (cells_box (n := 4) m0 rfl)) fun a w hf hc => stP hf rfl rfl rfl (pM rfl) fun a hf => stE hf hc rfl rfl rfl (eC (v := .bool (crew_Ride_on e_1 n)) (vs := [.agg #[i6 e_1.From,i6 e_1.Long,i6 e_1.Weight.Lo,i6 e_1.Weight.Hi],i6 n]) (caps := []) en_104 rfl rfl rfl rfl (fun w hc => crew_Ride_on_ok e_1 n hc rfl)) fun a w hf hc => cNil ?_
  refine h11 _ _ ?_
  refine cCond (b := (crew_Ride_on e_1 n)) hf rfl (fun hb => ?_) (fun hb => ?_)
  ·replace hF := condT hb hF
   clear hb
   refine cReg ?_
   refine stP hf rfl rfl rfl (pM rfl) fun a hf => stP hf rfl rfl rfl (pFA fa_147_0 rfl) fun a hf => stE hf hc rfl rfl rfl (eLd1 sc_145 rfl (cell_box m2 rfl)) fun a w hf hc => stP hf rfl rfl rfl (pFA fa_72_2 rfl) fun a hf => stE hf hc rfl rfl rfl (eLdN (vs := [i6 e_1.Weight.Lo,i6 e_1.Weight.Hi]) ag_29 rfl rfl (cells_box (n := 2) m0 rfl)) fun a w hf hc => stE hf hc rfl rfl rfl (eC (v := i6 (crew_low_1 e_1.Weight)) (vs := [.agg #[i6 e_1.Weight.Lo,i6 e_1.Weight.Hi]]) (caps := []) en_155 rfl rfl rfl rfl (fun w hc => crew_low_1_ok e_1.Weight hc rfl)) fun a w hf hc => stBS (rows := ([(crew_low_1 e_1.Weight)] : List Int).map encI_i64) (vs := [(0,i6 (crew_low_1 e_1.Weight))]) hf hc rfl rfl sl_25 rfl ⟨rfl,rfl,rfl,trivial⟩ rfl rfl fun b_6 a w hf hc => ?_
   obtain ⟨un,hun,hF⟩ := bnd_some hF
   refine stApm (xs := l) (ys := ([(crew_low_1 e_1.Weight)] : List Int)) hf hc rfl rfl sl_25 rfl rfl rfl rfl rfl one_encI_i64 (src_row hc m0) (fun _ _ => u2) (by simpa using room_spec hun) fun p_3 c_3 a w hf hc => stP hf rfl rfl rfl (pA rfl) fun a hf => cNil ?_
   replace hc := hc.drop k1
   replace hc := hc.drop k0
   exact hj9 (l ++ [(crew_low_1 e_1.Weight)]) p_3 c_3 _ _  (hf.kp rfl) hc hF
  ·replace hF := condF hb hF
   clear hb
   refine wp_skip ?_
   replace hc := hc.drop k0
   exact hj9 l p_1 c_1 _ _  (hf.kp rfl) hc hF
 ·replace hF := condF hb hF
  clear hb
  refine wp_exit ?_
  refine xThen ?_
  refine xThen ?_
  have he := sj hF
  rw [← he] at hfin5
  refine cHit ?_
  exact hr5 _ _ _ hfin5 ⟨p_1,c_1,hf.kp rfl,hc⟩

def crew_Load (N : Nat) (c_ : crew_Cable) (n : Int) : Option (api_Span × Int) :=
 Option.bind (crew_CheckCable N c_) fun r =>
 cond (r != 0)
 (some ((⟨0,0⟩ : api_Span),r))
 (cond (!(crew_in n 0 200000))
 (some ((⟨0,0⟩ : api_Span),4))
 (Option.bind (crew_Cable_load_s2 N c_ n) fun r_1 =>
 Option.bind (crew_Cable_load N c_ n) fun r_2 =>
 some ((⟨r_1,r_2⟩ : api_Span),0)))
theorem crew_Load_ok {N : Nat} {G : Pers} {Lf : List Ent} {w : World} (c_ : crew_Cable) (n : Int) {c__Rides_p : Option Addr} {c__Rides_c : Nat} (h_c__Rides : Rd G 4 c__Rides_p c__Rides_c (c_.Rides.map enc_crew_Ride)) (hc : Ctx G (Lf) w) {res : api_Span × Int} (hF : crew_Load N c_ n = some res) : Calls Tryz.prog 34 #[.agg #[i6 c_.Car,i6 c_.Wide,i6 c_.Sag,i6 c_.Most,.slice c__Rides_p c_.Rides.length c__Rides_c],i6 n] w (fun e w => e = .returned (.tuple #[.agg #[i6 res.1.Lo,i6 res.1.Hi],i6 res.2]) ∧ Ctx G (Lf) w) := by
 unfold crew_Load at hF
 refine fnIn (args := [.agg #[i6 c_.Car,i6 c_.Wide,i6 c_.Sag,i6 c_.Most,.slice c__Rides_p c_.Rides.length c__Rides_c],i6 n]) Tryz.func34 rfl Tryz.ntmps34 rfl fun a hf => wp_seq_k fun K1 h1 => cReg ?_
 refine stBx (cs := [i6 c_.Car,i6 c_.Wide,i6 c_.Sag,i6 c_.Most,.slice c__Rides_p c_.Rides.length c__Rides_c]) hf hc rfl rfl rfl rfl fun b_1 a w hf hc => stAl (cs := [i6 0,i6 0]) hf hc rfl rfl zr_29 rfl fun b_2 a w hf hc => stP hf rfl rfl rfl (pA rfl) fun a hf => cNil ?_
 refine h1 _ _ ?_
 refine wp_seq_k fun K2 h2 => cReg ?_
 refine stE hf hc rfl rfl rfl (eLdN (vs := [i6 c_.Car,i6 c_.Wide,i6 c_.Sag,i6 c_.Most,.slice c__Rides_p c_.Rides.length c__Rides_c]) ag_54 rfl rfl (cells_box (n := 5) m1 rfl)) fun a w hf hc => ?_
 obtain ⟨r,hr,hF⟩ := bnd_some hF
 refine stE hf hc rfl rfl rfl (eC (v := i6 r) (vs := [.agg #[i6 c_.Car,i6 c_.Wide,i6 c_.Sag,i6 c_.Most,.slice c__Rides_p c_.Rides.length c__Rides_c]]) (caps := []) en_31 rfl rfl rfl rfl (fun w hc => crew_CheckCable_ok c_ h_c__Rides hc hr)) fun a w hf hc => stP hf rfl rfl rfl (pA rfl) fun a hf => cNil ?_
 refine h2 _ _ ?_
 refine wp_seq_k fun K3 h3 => wp_block ?_
 refine wp_seq_k fun K4 h4 => cReg ?_
 refine stP hf rfl rfl rfl (pM rfl) fun a hf => stP hf rfl rfl rfl (pNe rfl rfl) fun a hf => stP hf rfl rfl rfl (pA rfl) fun a hf => cNil ?_
 refine h4 _ _ ?_
 refine cCond (b := (r != 0)) hf rfl (fun hb => ?_) (fun hb => ?_)
 ·replace hF := condT hb hF
  clear hb
  refine wp_seq_k fun K5 h5 => cReg ?_
  refine stP hf rfl rfl rfl (pBuildS (cells := [i6 0,i6 0]) bt_29 rfl rfl) fun a hf => stP hf rfl rfl rfl (pM rfl) fun a hf => stSt (vs := [i6 0,i6 0]) hf hc rfl rfl rfl rfl sz_29 rfl rfl u0 fun w hc => stP hf rfl rfl rfl (pA rfl) fun a hf => cNil ?_
  refine h5 _ _ ?_
  refine wp_ret ?_
  refine xBlkR ?_
  refine xThenR ?_
  obtain rfl := sj hF
  replace hc := hc.drop k1
  exact fnOut2 (by simp) rfl Tryz.results34 hf hc (rv_cellN (vs := [i6 0,i6 0]) ag_29 rfl rfl (cells_box (n := 2) m0 rfl)) (show look _ 5 = _ from rfl) ⟨rfl,(hc.drop k0)⟩
 ·replace hF := condF hb hF
  clear hb
  refine wp_seq_k fun K6 h6 => cReg ?_
  refine stP hf rfl rfl rfl (pM rfl) fun a hf => stE hf hc rfl rfl rfl (eC (v := .bool (crew_in n 0 200000)) (vs := [i6 n,i6 0,i6 200000]) (caps := []) en_86 rfl rfl rfl rfl (fun w hc => crew_in_ok n 0 200000 hc rfl)) fun a w hf hc => stP hf rfl rfl rfl (pNot rfl) fun a hf => stP hf rfl rfl rfl (pA rfl) fun a hf => cNil ?_
  refine h6 _ _ ?_
  refine cCond (b := (!(crew_in n 0 200000))) hf rfl (fun hb => ?_) (fun hb => ?_)
  ·replace hF := condT hb hF
   clear hb
   refine wp_seq_k fun K7 h7 => cReg ?_
   refine stP hf rfl rfl rfl (pBuildS (cells := [i6 0,i6 0]) bt_29 rfl rfl) fun a hf => stSt (vs := [i6 0,i6 0]) hf hc rfl rfl rfl rfl sz_29 rfl rfl u0 fun w hc => stP hf rfl rfl rfl (pA rfl) fun a hf => cNil ?_
   refine h7 _ _ ?_
   refine wp_ret ?_
   refine xBlkR ?_
   refine xThenR ?_
   obtain rfl := sj hF
   replace hc := hc.drop k1
   exact fnOut2 (by simp) rfl Tryz.results34 hf hc (rv_cellN (vs := [i6 0,i6 0]) ag_29 rfl rfl (cells_box (n := 2) m0 rfl)) (show look _ 5 = _ from rfl) ⟨rfl,(hc.drop k0)⟩
  ·replace hF := condF hb hF
   clear hb
   refine wp_skip ?_
   refine h3 _ _ ?_
   refine wp_seq_k fun K8 h8 => ?_
   obtain ⟨r_1,hr_1,hF⟩ := bnd_some hF
   obtain ⟨r_2,hr_2,hF⟩ := bnd_some hF
   refine regionE (fun θ => [⟨none,none,1,i6 n⟩,⟨none,none,2,pq b_1⟩,⟨none,none,4,pq b_2⟩,⟨none,some 10,5,i6 0⟩,⟨some 0,none,19,.agg #[i6 c_.Car,i6 c_.Wide,i6 c_.Sag,i6 c_.Most,.slice c__Rides_p c_.Rides.length c__Rides_c]⟩,⟨some 1,none,20,i6 n⟩,⟨some 2,none,21,.agg #[.func (.func 155) #[] #[]]⟩,⟨some 3,none,22,i6 r_1⟩,⟨some 4,none,23,.agg #[i6 c_.Car,i6 c_.Wide,i6 c_.Sag,i6 c_.Most,.slice c__Rides_p c_.Rides.length c__Rides_c]⟩,⟨some 5,none,24,i6 n⟩,⟨some 6,none,25,.agg #[.func (.func 156) #[] #[]]⟩,⟨some 7,none,26,i6 r_2⟩,⟨some 8,none,27,.agg #[i6 r_1,i6 r_2]⟩,⟨some 10,none,5,i6 0⟩]) (fun E θ => (bif E 9 then .box b_2 [i6 r_1,i6 r_2] 29 else .box b_2 [i6 0,i6 0] 29)::.box b_1 [i6 c_.Car,i6 c_.Wide,i6 c_.Sag,i6 c_.Most,.slice c__Rides_p c_.Rides.length c__Rides_c] 54::Lf) [] (fun a w => Has 28 a [(4,pq b_2),(5,i6 0)] ∧ Ctx G (.box b_2 [i6 r_1,i6 r_2] 29::.box b_1 [i6 c_.Car,i6 c_.Wide,i6 c_.Sag,i6 c_.Most,.slice c__Rides_p c_.Rides.length c__Rides_c] 54::Lf) w) follows_mx (by kernel_rfl) (by kernel_rfl) (HasE.of hf ⟨rfl,rfl,rfl,rfl,trivial,trivial,trivial,trivial,trivial,trivial,trivial,trivial,trivial,trivial,trivial⟩) hc ⟨?_,?_,?_,?_,?_,?_,?_,?_,?_,?_,?_,trivial⟩ ?_ ?_
   ·intro E θ a w hD hi hp he hc
    have hf := he.h0
    replace hf := hf.more he 1 rfl onT
    refine stE hf hc rfl rfl rfl (eLdN (vs := [i6 c_.Car,i6 c_.Wide,i6 c_.Sag,i6 c_.Most,.slice c__Rides_p c_.Rides.length c__Rides_c]) ag_54 rfl rfl (cells_box (n := 5) m1 rfl)) fun a w hf hc => cNil ?_
    refine xThenN ?_
    intro ds u hau
    refine ⟨θ,he.put0 hi hau hf rfl 4 rfl rfl,?_⟩
    exact hc
   ·intro E θ a w hD hi hp he hc
    have hf := he.h0
    replace hf := hf.more he 0 rfl onT
    refine stP hf rfl rfl rfl (pM rfl) fun a hf => cNil ?_
    refine xThenN ?_
    intro ds u hau
    refine ⟨θ,he.put0 hi hau hf rfl 5 rfl rfl,?_⟩
    exact hc
   ·intro E θ a w hD hi hp he hc
    have hf := he.h0
    refine stE hf hc rfl rfl rfl (eC (v := .agg #[.func (.func 155) #[] #[]]) (vs := []) (caps := []) en_82 rfl rfl rfl rfl (fun w hc => crew_low_ok hc rfl)) fun a w hf hc => cNil ?_
    refine xThenN ?_
    intro ds u hau
    refine ⟨θ,he.put0 hi hau hf rfl 6 rfl rfl,?_⟩
    exact hc
   ·intro E θ a w hD hi hp he hc
    have e0 := hp.of (k := 0) rfl
    have e1 := hp.of (k := 1) rfl
    have e2 := hp.of (k := 2) rfl
    have hf := he.h0
    replace hf := hf.more he 4 rfl (onP e0)
    replace hf := hf.more he 5 rfl (onP e1)
    replace hf := hf.more he 6 rfl (onP e2)
    refine stE hf hc rfl rfl rfl (eC (v := i6 r_1) (vs := [.agg #[i6 c_.Car,i6 c_.Wide,i6 c_.Sag,i6 c_.Most,.slice c__Rides_p c_.Rides.length c__Rides_c],i6 n,.agg #[.func (.func 155) #[] #[]]]) (caps := []) en_93 rfl rfl rfl rfl (fun w hc => crew_Cable_load_s2_ok c_ n h_c__Rides hc hr_1)) fun a w hf hc => cNil ?_
    refine xThenN ?_
    intro ds u hau
    refine ⟨θ,he.put0 hi hau hf rfl 7 rfl rfl,?_⟩
    exact hc
   ·intro E θ a w hD hi hp he hc
    have hf := he.h0
    replace hf := hf.more he 1 rfl onT
    refine stE hf hc rfl rfl rfl (eLdN (vs := [i6 c_.Car,i6 c_.Wide,i6 c_.Sag,i6 c_.Most,.slice c__Rides_p c_.Rides.length c__Rides_c]) ag_54 rfl rfl (cells_box (n := 5) m1 rfl)) fun a w hf hc => cNil ?_
    refine xThenN ?_
    intro ds u hau
    refine ⟨θ,he.put0 hi hau hf rfl 8 rfl rfl,?_⟩
    exact hc
   ·intro E θ a w hD hi hp he hc
    have hf := he.h0
    replace hf := hf.more he 0 rfl onT
    refine stP hf rfl rfl rfl (pM rfl) fun a hf => cNil ?_
    refine xThenN ?_
    intro ds u hau
    refine ⟨θ,he.put0 hi hau hf rfl 9 rfl rfl,?_⟩
    exact hc
   ·intro E θ a w hD hi hp he hc
    have hf := he.h0
    refine stE hf hc rfl rfl rfl (eC (v := .agg #[.func (.func 156) #[] #[]]) (vs := []) (caps := []) en_83 rfl rfl rfl rfl (fun w hc => crew_high_ok hc rfl)) fun a w hf hc => cNil ?_
    refine xThenN ?_
    intro ds u hau
    refine ⟨θ,he.put0 hi hau hf rfl 10 rfl rfl,?_⟩
    exact hc
   ·intro E θ a w hD hi hp he hc
    have e4 := hp.of (k := 4) rfl
    have e5 := hp.of (k := 5) rfl
    have e6 := hp.of (k := 6) rfl
    have hf := he.h0
    replace hf := hf.more he 8 rfl (onP e4)
    replace hf := hf.more he 9 rfl (onP e5)
    replace hf := hf.more he 10 rfl (onP e6)
    refine stE hf hc rfl rfl rfl (eC (v := i6 r_2) (vs := [.agg #[i6 c_.Car,i6 c_.Wide,i6 c_.Sag,i6 c_.Most,.slice c__Rides_p c_.Rides.length c__Rides_c],i6 n,.agg #[.func (.func 156) #[] #[]]]) (caps := []) en_93 rfl rfl rfl rfl (fun w hc => crew_Cable_load_ok c_ n h_c__Rides hc hr_2)) fun a w hf hc => cNil ?_
    refine xThenN ?_
    intro ds u hau
    refine ⟨θ,he.put0 hi hau hf rfl 11 rfl rfl,?_⟩
    exact hc
   ·intro E θ a w hD hi hp he hc
    have e3 := hp.of (k := 3) rfl
    have e7 := hp.of (k := 7) rfl
    have hf := he.h0
    replace hf := hf.more he 7 rfl (onP e3)
    replace hf := hf.more he 11 rfl (onP e7)
    refine stP hf rfl rfl rfl (pBuildS (cells := [i6 r_1,i6 r_2]) bt_29 rfl rfl) fun a hf => cNil ?_
    refine xThenN ?_
    intro ds u hau
    refine ⟨θ,he.put0 hi hau hf rfl 12 rfl rfl,?_⟩
    exact hc
   ·intro E θ a w hD hi hp he hc
    have e8 := hp.of (k := 8) rfl
    try dsimp only at hc
    rw [hi] at hc
    have hf := he.h0
    replace hf := hf.more he 2 rfl onT
    replace hf := hf.more he 12 rfl (onP e8)
    refine stSt (vs := [i6 r_1,i6 r_2]) hf hc rfl rfl rfl rfl sz_29 rfl rfl u0 fun w hc => cNil ?_
    refine xThenN ?_
    intro ds u hau
    refine ⟨θ,he.stay0 hi hau hf rfl,?_⟩
    try dsimp only
    rw [updE_self E 9]
    exact hc
   ·intro E θ a w hD hi hp he hc
    have hf := he.h0
    refine stP hf rfl rfl rfl (pA rfl) fun a hf => cNil ?_
    refine xThenN ?_
    intro ds u hau
    refine ⟨θ,he.put0 hi hau hf rfl 13 rfl rfl,?_⟩
    exact hc
   ·intro E θ a w hall he hc
    have hf := he.h0
    have e9 := hall 9 rfl
    have e10 := hall 10 rfl
    replace hf := hf.more he 13 rfl (onP e10)
    replace hf := hf.more he 2 rfl (onT)
    try dsimp only at hc
    rw [e9] at hc
    exact ⟨hf.kp rfl,hc⟩
   rintro a w ⟨hf,hc⟩
   refine h8 _ _ ?_
   refine wp_ret ?_
   obtain rfl := sj hF
   replace hc := hc.drop k1
   exact fnOut2 (by simp) rfl Tryz.results34 hf hc (rv_cellN (vs := [i6 r_1,i6 r_2]) ag_29 rfl rfl (cells_box (n := 2) m0 rfl)) (show look _ 5 = _ from rfl) ⟨rfl,(hc.drop k0)⟩

def slices_Clone_Lint_int (N : Nat) (s_ : List Int) : Option ((List Int)) :=
 Option.bind (room (s_).length) fun un =>
 some s_
theorem slices_Clone_Lint_int_ok {N : Nat} {G : Pers} {Lf : List Ent} {w : World} (s_ : List Int) {s__p : Option Addr} {s__c : Nat} (h_s_ : Rd G 1 s__p s__c (s_.map encI_i64)) (hc : Ctx G (Lf) w) {res : (List Int)} (hF : slices_Clone_Lint_int N s_ = some res) : Calls Tryz.prog 150 #[.slice s__p s_.length s__c] w (fun e w => ∃ (p'1 : Option Addr) (c'1 : Nat),e = .returned (.slice p'1 res.length c'1) ∧ Ctx G (.row p'1 c'1 (res.map encI_i64) 3 1::Lf) w) := by
 unfold slices_Clone_Lint_int at hF
 refine fnIn (args := [.slice s__p s_.length s__c]) Tryz.func150 rfl Tryz.ntmps150 rfl fun a hf => wp_seq_k fun K1 h1 => cReg ?_
 refine stP hf rfl rfl rfl (pA rfl) fun a hf => cNil ?_
 refine h1 _ _ ?_
 refine wp_seq_k fun K2 h2 => wp_seq_k fun K3 h3 => cReg ?_
 refine stP hf rfl rfl rfl (pM rfl) fun a hf => stP hf rfl rfl rfl (pEqN Tryz.underlying25 rfl rfl) fun a hf => cNil ?_
 refine h3 _ _ ?_
 rcases rd_nilq h_s_ with ⟨hp,hx⟩ | hp
 ·rw [hp] at hf
  replace hF : (some ([] : List Int)) = some res := by
   try rw [hx] at hF
   exact hF
  refine cCondT hf rfl ?_
  refine wp_seq_k fun K4 h4 => cReg ?_
  refine stP hf rfl rfl rfl (pA rfl) fun a hf => cNil ?_
  refine h4 _ _ ?_
  refine wp_ret ?_
  refine xThenR ?_
  obtain rfl := sj hF
  replace hc := hc.nilRow 3 1
  exact fnOut1 (by simp) rfl Tryz.results150 hf hc (show look _ 2 = _ from rfl) ⟨none,0,rfl,hc⟩
 ·rw [hp] at hf
  refine cCondF hf rfl ?_
  refine wp_skip ?_
  refine h2 _ _ ?_
  refine wp_seq_k fun K5 h5 => cReg ?_
  refine stBS (rows := ([] : List Int).map encI_i64) (vs := []) hf hc rfl rfl sl_25 rfl trivial rfl rfl fun b_1 a w hf hc => stP hf rfl rfl rfl (pM rfl) fun a hf => ?_
  obtain ⟨un,hun,hF⟩ := bnd_some hF
  refine stApm (xs := ([] : List Int)) (ys := s_) hf hc rfl rfl sl_25 rfl rfl rfl rfl rfl one_encI_i64 (src_rd hc h_s_) (fun _ _ => u0) (by simpa using room_spec hun) fun p_1 c_1 a w hf hc => stP hf rfl rfl rfl (pA rfl) fun a hf => cNil ?_
  refine h5 _ _ ?_
  refine wp_ret ?_
  obtain rfl := sj hF
  exact fnOut1 (by simp) rfl Tryz.results150 hf hc (show look _ 2 = _ from rfl) ⟨p_1,c_1,rfl,hc⟩

def slices_Sort_Lint_int (N : Nat) (x : List Int) : Option ((List Int)) :=
 sortO x
/-! ### Walks of the library -/

theorem slices_Sort_Lint_int_ok {N : Nat} {G : Pers} {Lf : List Ent} {w : World} (x : List Int) {x_p : Option Addr} {x_c : Nat}  (hc : Ctx G (.row x_p x_c (x.map encI_i64) 3 1::Lf) w) {res : (List Int)} (hF : slices_Sort_Lint_int N x = some res) : Calls Tryz.prog 161 #[.slice x_p x.length x_c] w (fun e w => e = .returned (.tuple #[]) ∧ res.length = x.length ∧ Ctx G (.row x_p x_c (res.map encI_i64) 3 1::Lf) w) := by
 unfold slices_Sort_Lint_int at hF
 exact sort_ctx (fun w => sort_nil Go.Proofs.Tryz.lays189 w) (fun b o c zs w h1 h2 h3 => Go.Proofs.Any.slices_Sort_int Go.Proofs.Tryz.lays189 b o c zs w h1 h2 h3) hc hF

def slices_Compact_Lint_int (N : Nat) (s_ : List Int) : Option ((List Int)) :=
 compO s_
/-! ### Walks of the library -/

theorem slices_Compact_Lint_int_ok {N : Nat} {G : Pers} {Lf : List Ent} {w : World} (s_ : List Int) {s__p : Option Addr} {s__c : Nat}  (hc : Ctx G (.row s__p s__c (s_.map encI_i64) 3 1::Lf) w) {res : (List Int)} (hF : slices_Compact_Lint_int N s_ = some res) : Calls Tryz.prog 162 #[.slice s__p s_.length s__c] w (fun e w => ∃ (p'1 : Option Addr) (c'1 : Nat),e = .returned (.slice p'1 res.length c'1) ∧ Ctx G (.row p'1 c'1 (res.map encI_i64) 3 1::Lf) w) := by
 unfold slices_Compact_Lint_int at hF
 exact compact_ctx (fun a c w => Go.Proofs.Any.slices_Compact_int_empty Go.Proofs.Tryz.lays20 a c w) (fun b o c zs w h1 h2 h3 => Go.Proofs.Any.slices_Compact_int Go.Proofs.Tryz.lays20 b o c zs w h1 h2 h3) hc hF

def crew_Cable_starts_b5 (N : Nat) (c_ : crew_Cable) (out : List Int) (x : Int) : Option (Step ((List Int) × Int) ((List Int))) :=
 cond (decide (x < ((c_.Rides.length : Nat) : Int)))
 (Option.bind (getI c_.Rides x) fun e_1 =>
 Option.bind (room ((out ++ [e_1.From])).length) fun un =>
 some (.cont ((out ++ [e_1.From]),W (x + 1))))
 (some (.brk (out,x)))
def crew_Cable_starts (N : Nat) (c_ : crew_Cable) : Option ((List Int)) :=
 Option.bind (loopO (fun s5 => crew_Cable_starts_b5 N c_ s5.1 s5.2) N (([0] : List Int),0)) fun x5 =>
 exK x5 (fun s5 => Option.bind (slices_Clone_Lint_int N s5.1) fun r =>
 Option.bind (slices_Sort_Lint_int N r) fun r_1 =>
 Option.bind (slices_Compact_Lint_int N r_1) fun r_2 =>
 some r_2) some
theorem crew_Cable_starts_ok {N : Nat} {G : Pers} {Lf : List Ent} {w : World} (c_ : crew_Cable) {c__Rides_p : Option Addr} {c__Rides_c : Nat} (h_c__Rides : Rd G 4 c__Rides_p c__Rides_c (c_.Rides.map enc_crew_Ride)) (hc : Ctx G (Lf) w) {res : (List Int)} (hF : crew_Cable_starts N c_ = some res) : Calls Tryz.prog 95 #[.agg #[i6 c_.Car,i6 c_.Wide,i6 c_.Sag,i6 c_.Most,.slice c__Rides_p c_.Rides.length c__Rides_c]] w (fun e w => ∃ (p'1 : Option Addr) (c'1 : Nat),e = .returned (.slice p'1 res.length c'1) ∧ Ctx G (.row p'1 c'1 (res.map encI_i64) 3 1::Lf) w) := by
 unfold crew_Cable_starts at hF
 refine fnIn (args := [.agg #[i6 c_.Car,i6 c_.Wide,i6 c_.Sag,i6 c_.Most,.slice c__Rides_p c_.Rides.length c__Rides_c]]) Tryz.func95 rfl Tryz.ntmps95 rfl fun a hf => wp_seq_k fun K1 h1 => cReg ?_
 refine stBx (cs := [i6 c_.Car,i6 c_.Wide,i6 c_.Sag,i6 c_.Most,.slice c__Rides_p c_.Rides.length c__Rides_c]) hf hc rfl rfl rfl rfl fun b_1 a w hf hc => stP hf rfl rfl rfl (pA rfl) fun a hf => cNil ?_
 refine h1 _ _ ?_
 refine wp_seq_k fun K2 h2 => cReg ?_
 refine stBS (rows := ([0] : List Int).map encI_i64) (vs := [(0,i6 0)]) hf hc rfl rfl sl_25 rfl ⟨rfl,rfl,rfl,trivial⟩ rfl rfl fun b_2 a w hf hc => stP hf rfl rfl rfl (pA rfl) fun a hf => cNil ?_
 refine h2 _ _ ?_
 refine wp_seq_k fun K3 h3 => wp_seq_k fun K4 h4 => cReg ?_
 refine stP hf rfl rfl rfl (pFA fa_54_4 rfl) fun a hf => stE hf hc rfl rfl rfl (eLd1 sc_52 rfl (cell_box m1 rfl)) fun a w hf hc => stP hf rfl rfl rfl (pLenS Tryz.underlying52 rfl) fun a hf => stP hf rfl rfl rfl (pM rfl) fun a hf => cNil ?_
 refine h4 _ _ ?_
 refine wp_block ?_
 obtain ⟨x5,hx5,hF⟩ := bnd_some hF
 let S5 : ((List Int) × Int) → Act → World → Prop := (fun (zz : (List Int) × Int) a w => ∃ (p_1 : Option Addr) (c_1 : Nat),Has 27 a [(3,.slice p_1 zz.1.length c_1),(9,.slice c__Rides_p c_.Rides.length c__Rides_c),(10,i6 ((c_.Rides.length : Nat) : Int)),(11,i6 zz.2)] ∧ Ctx G (.row p_1 c_1 (zz.1.map encI_i64) 3 1::Lf) w)
 have hr5 : ∀ (zz : (List Int) × Int) a w,x5 = .go zz → S5 zz a w → K3 a w := by
  rintro ⟨out,x⟩ a w rfl ⟨p_1,c_1,hf,hc⟩
  replace hF := exK_go hF
  refine h3 _ _ ?_
  refine wp_seq_k fun K6 h6 => cReg ?_
  refine stP hf rfl rfl rfl (pM rfl) fun a hf => ?_
  obtain ⟨r,hr,hF⟩ := bnd_some hF
  obtain ⟨G1,hle1,hrd1,hc,hth1⟩ := lend hc k0
  refine stC (vs := [.slice p_1 out.length c_1]) (caps := []) hf rfl rfl rfl en_150 rfl rfl rfl rfl (slices_Clone_Lint_int_ok out hrd1 hc hr) ?_
  rintro _ w ⟨p_2,c_2,rfl,hc⟩
  refine ⟨_,rfl,fun a hf => ?_⟩
  replace hc := hth1 _ _ hc
  refine stP hf rfl rfl rfl (pA rfl) fun a hf => cNil ?_
  refine h6 _ _ ?_
  refine wp_seq_k fun K7 h7 => cReg ?_
  refine stP hf rfl rfl rfl (pM rfl) fun a hf => ?_
  obtain ⟨r_1,hr_1,hF⟩ := bnd_some hF
  refine stC (vs := [.slice p_2 r.length c_2]) (caps := []) hf rfl rfl rfl en_161 rfl rfl rfl rfl (slices_Sort_Lint_int_ok r (hc.pick k1) hr_1) ?_
  rintro _ w ⟨rfl,hl,hc⟩
  refine ⟨_,rfl,fun a hf => ?_⟩
  try rw [← hl] at hf
  try rw [← hl] at hc
  refine cNil ?_
  refine h7 _ _ ?_
  refine wp_seq_k fun K8 h8 => cReg ?_
  refine stP hf rfl rfl rfl (pM rfl) fun a hf => ?_
  obtain ⟨r_2,hr_2,hF⟩ := bnd_some hF
  refine stC (vs := [.slice p_2 r_1.length c_2]) (caps := []) hf rfl rfl rfl en_162 rfl rfl rfl rfl (slices_Compact_Lint_int_ok r_1 (hc.pick k0) hr_2) ?_
  rintro _ w ⟨p_3,c_3,rfl,hc⟩
  refine ⟨_,rfl,fun a hf => ?_⟩
  refine stP hf rfl rfl rfl (pA rfl) fun a hf => cNil ?_
  refine h8 _ _ ?_
  refine wp_ret ?_
  obtain rfl := sj hF
  replace hc := hc.drop k1
  exact fnOut1 (by simp) rfl Tryz.results95 hf hc (show look _ 2 = _ from rfl) ⟨p_3,c_3,rfl,hc⟩
 have ho5 : ∀ r,x5 = .out r → r = res := by
  rintro r rfl
  exact sj hF
 replace hc := hc.drop k1
 refine cLoop N (loopW (S := S5) (x := x5) ?_ N (([0] : List Int),0) _ _ ⟨(some ⟨b_2,0,none⟩),1,hf.kp rfl,hc⟩ hx5)
 clear hF hf hc
 rintro ⟨out,x⟩ st5 a w KB5 ⟨p_1,c_1,hf,hc⟩ hF hfin5 hK5
 unfold crew_Cable_starts_b5 at hF
 refine wp_seq_k fun K9 h9 => cReg ?_
 refine stP hf rfl rfl rfl (pLt rfl rfl) fun a hf => cNil ?_
 refine h9 _ _ ?_
 refine wp_seq_k fun K10 h10 => cCond (b := (decide (x < ((c_.Rides.length : Nat) : Int)))) hf rfl (fun hb => ?_) (fun hb => ?_)
 ·replace hF := condT hb hF
  clear hb
  refine wp_skip ?_
  refine h10 _ _ ?_
  refine wp_seq_k fun K11 h11 => wp_block ?_
  refine wp_seq_k fun K12 h12 => cReg ?_
  obtain ⟨e_1,he_1,hF⟩ := bnd_some hF
  obtain ⟨b_3,o,qa,qp⟩ := h_c__Rides.atm he_1
  refine stP hf rfl rfl rfl (pIA Tryz.underlying52 sz_72 rfl rfl qa) fun a hf => stE hf hc rfl rfl rfl (eLdN (vs := [i6 e_1.From,i6 e_1.Long,i6 e_1.Weight.Lo,i6 e_1.Weight.Hi]) ag_72 rfl rfl (cells_pc qp (n := 4) (o' := 0) rfl)) fun a w hf hc => stAl (cs := [i6 0,i6 0,i6 0,i6 0]) hf hc rfl rfl zr_72 rfl fun b_4 a w hf hc => stSt (vs := [i6 e_1.From,i6 e_1.Long,i6 e_1.Weight.Lo,i6 e_1.Weight.Hi]) hf hc rfl rfl rfl rfl sz_72 rfl rfl u0 fun w hc => cNil ?_
  refine h12 _ _ ?_
  refine cReg ?_
  refine stP hf rfl rfl rfl (pM rfl) fun a hf => stP hf rfl rfl rfl (pFA fa_72_0 rfl) fun a hf => stE hf hc rfl rfl rfl (eLd1 sc_3 rfl (cell_box m0 rfl)) fun a w hf hc => stBS (rows := ([e_1.From] : List Int).map encI_i64) (vs := [(0,i6 e_1.From)]) hf hc rfl rfl sl_25 rfl ⟨rfl,rfl,rfl,trivial⟩ rfl rfl fun b_5 a w hf hc => ?_
  obtain ⟨un,hun,hF⟩ := bnd_some hF
  refine stApm (xs := out) (ys := ([e_1.From] : List Int)) hf hc rfl rfl sl_25 rfl rfl rfl rfl rfl one_encI_i64 (src_row hc m0) (fun _ _ => u2) (by simpa using room_spec hun) fun p_4 c_4 a w hf hc => stP hf rfl rfl rfl (pA rfl) fun a hf => cNil ?_
  refine h11 _ _ ?_
  refine cReg ?_
  refine stP hf rfl rfl rfl (pAdd rfl rfl) fun a hf => stP hf rfl rfl rfl (pM rfl) fun a hf => cNil ?_
  replace hc := hc.drop k1
  replace hc := hc.drop k0
  exact hK5 ((out ++ [e_1.From]),W (x + 1)) _ _ (sj hF).symm ⟨p_4,c_4,hf.kp rfl,hc⟩
 ·replace hF := condF hb hF
  clear hb
  refine wp_exit ?_
  refine xThen ?_
  refine xThen ?_
  have he := sj hF
  rw [← he] at hfin5
  refine cHit ?_
  exact hr5 _ _ _ hfin5 ⟨p_1,c_1,hf.kp rfl,hc⟩

def crew_Beyond_1_1 (N : Nat) (n : Int) (x : crew_Cable) : Option (Bool) :=
 Option.bind (crew_Cable_load N (⟨x.Car,x.Wide,x.Sag,x.Most,x.Rides⟩ : crew_Cable) n) fun r =>
 some (crew_Cable_beyond (⟨x.Car,x.Wide,x.Sag,x.Most,x.Rides⟩ : crew_Cable) r)
theorem crew_Beyond_1_1_ok {N : Nat} {G : Pers} {Lf : List Ent} {w : World} (n : Int) (x : crew_Cable) {b_ : Nat} {x_Rides_p : Option Addr} {x_Rides_c : Nat} {b__1 : Nat} (h_x_Rides : Rd G 4 x_Rides_p x_Rides_c (x.Rides.map enc_crew_Ride)) (hc : Ctx G (.box b_ [i6 x.Car,i6 x.Wide,i6 x.Sag,i6 x.Most,.slice x_Rides_p x.Rides.length x_Rides_c] 54::.box b__1 [.func (.func 156) #[] #[]] 147::Lf) w) {res : Bool} (hF : crew_Beyond_1_1 N n x = some res) : Calls Tryz.prog 98 #[i6 n,pq b_,pq b__1] w (fun e w => e = .returned (.bool res) ∧ Ctx G (.box b_ [i6 x.Car,i6 x.Wide,i6 x.Sag,i6 x.Most,.slice x_Rides_p x.Rides.length x_Rides_c] 54::.box b__1 [.func (.func 156) #[] #[]] 147::Lf) w) := by
 unfold crew_Beyond_1_1 at hF
 refine fnIn (args := [i6 n,pq b_,pq b__1]) Tryz.func98 rfl Tryz.ntmps98 rfl fun a hf => wp_seq_k fun K1 h1 => cReg ?_
 refine stP hf rfl rfl rfl (pA rfl) fun a hf => cNil ?_
 refine h1 _ _ ?_
 refine wp_seq_k fun K2 h2 => ?_
 obtain ⟨r,hr,hF⟩ := bnd_some hF
 refine cQ hc follows_mx (by kernel_rfl) ?_
 refine qE hf rfl rfl rfl (eLdN (vs := [i6 x.Car,i6 x.Wide,i6 x.Sag,i6 x.Most,.slice x_Rides_p x.Rides.length x_Rides_c]) ag_54 rfl rfl (cells_box (n := 5) m0 rfl)) fun a hf => qE hf rfl rfl rfl (eLdN (vs := [i6 x.Car,i6 x.Wide,i6 x.Sag,i6 x.Most,.slice x_Rides_p x.Rides.length x_Rides_c]) ag_54 rfl rfl (cells_box (n := 5) m0 rfl)) fun a hf => qE hf rfl rfl rfl (Pu.ev (pM rfl)) fun a hf => qE hf rfl rfl rfl (eLdN (vs := [.func (.func 156) #[] #[]]) ag_147 rfl rfl (cells_box (n := 1) m1 rfl)) fun a hf => qE hf rfl rfl rfl (eC (v := i6 r) (vs := [.agg #[i6 x.Car,i6 x.Wide,i6 x.Sag,i6 x.Most,.slice x_Rides_p x.Rides.length x_Rides_c],i6 n,.agg #[.func (.func 156) #[] #[]]]) (caps := []) en_93 rfl rfl rfl rfl (fun w hc => crew_Cable_load_ok (⟨x.Car,x.Wide,x.Sag,x.Most,x.Rides⟩ : crew_Cable) n h_x_Rides hc hr)) fun a hf => qE hf rfl rfl rfl (eC (v := .bool (crew_Cable_beyond (⟨x.Car,x.Wide,x.Sag,x.Most,x.Rides⟩ : crew_Cable) r)) (vs := [.agg #[i6 x.Car,i6 x.Wide,i6 x.Sag,i6 x.Most,.slice x_Rides_p x.Rides.length x_Rides_c],i6 r]) (caps := []) en_99 rfl rfl rfl rfl (fun w hc => crew_Cable_beyond_ok (⟨x.Car,x.Wide,x.Sag,x.Most,x.Rides⟩ : crew_Cable) r h_x_Rides hc rfl)) fun a hf => qE hf rfl rfl rfl (Pu.ev (pA rfl)) fun a hf => ?_
 intro w hc
 refine h2 _ _ ?_
 refine wp_ret ?_
 obtain rfl := sj hF
 exact fnOut1 (by simp) rfl Tryz.results98 hf hc (show look _ 4 = _ from rfl) ⟨rfl,hc⟩

def slices_IndexFunc_Lint_int_s5_b4 (N : Nat) (s_ : List Int) (f_ : crew_Cable) (x : Int) : Option (Step (Int) (Int)) :=
 cond (decide (x < ((s_.length : Nat) : Int)))
 (Option.bind (getI s_ x) fun e_1 =>
 Option.bind (crew_Beyond_1_1 N e_1 f_) fun r =>
 cond r
 (some (.ret x))
 (some (.cont (W (x + 1)))))
 (some (.brk x))
def slices_IndexFunc_Lint_int_s5 (N : Nat) (s_ : List Int) (f_ : crew_Cable) : Option (Int) :=
 Option.bind (loopO (fun s4 => slices_IndexFunc_Lint_int_s5_b4 N s_ f_ s4) N 0) fun x4 =>
 exK x4 (fun s4 => some (-1)) some
theorem slices_IndexFunc_Lint_int_s5_ok {N : Nat} {G : Pers} {Lf : List Ent} {w : World} (s_ : List Int) (f_ : crew_Cable) {s__p : Option Addr} {s__c : Nat} {b_ : Nat} {f__Rides_p : Option Addr} {f__Rides_c : Nat} {b__1 : Nat} (h_s_ : Rd G 1 s__p s__c (s_.map encI_i64)) (h_f__Rides : Rd G 4 f__Rides_p f__Rides_c (f_.Rides.map enc_crew_Ride)) (hc : Ctx G (.box b_ [i6 f_.Car,i6 f_.Wide,i6 f_.Sag,i6 f_.Most,.slice f__Rides_p f_.Rides.length f__Rides_c] 54::.box b__1 [.func (.func 156) #[] #[]] 147::Lf) w) {res : Int} (hF : slices_IndexFunc_Lint_int_s5 N s_ f_ = some res) : Calls Tryz.prog 97 #[.slice s__p s_.length s__c,.func (.func 98) #[] #[pq b_,pq b__1]] w (fun e w => e = .returned (i6 res) ∧ Ctx G (.box b_ [i6 f_.Car,i6 f_.Wide,i6 f_.Sag,i6 f_.Most,.slice f__Rides_p f_.Rides.length f__Rides_c] 54::.box b__1 [.func (.func 156) #[] #[]] 147::Lf) w) := by
 unfold slices_IndexFunc_Lint_int_s5 at hF
 refine fnIn (args := [.slice s__p s_.length s__c,.func (.func 98) #[] #[pq b_,pq b__1]]) Tryz.func97 rfl Tryz.ntmps97 rfl fun a hf => wp_seq_k fun K1 h1 => cReg ?_
 refine stP hf rfl rfl rfl (pA rfl) fun a hf => cNil ?_
 refine h1 _ _ ?_
 refine wp_seq_k fun K2 h2 => wp_seq_k fun K3 h3 => cReg ?_
 refine stP hf rfl rfl rfl (pM rfl) fun a hf => stP hf rfl rfl rfl (pLenS Tryz.underlying25 rfl) fun a hf => stP hf rfl rfl rfl (pM rfl) fun a hf => cNil ?_
 refine h3 _ _ ?_
 refine wp_block ?_
 obtain ⟨x4,hx4,hF⟩ := bnd_some hF
 let S4 : Int → Act → World → Prop := (fun (zz : Int) a w => Has 19 a [(0,.slice s__p s_.length s__c),(1,.func (.func 98) #[] #[pq b_,pq b__1]),(7,i6 ((s_.length : Nat) : Int)),(8,i6 zz)] ∧ Ctx G (.box b_ [i6 f_.Car,i6 f_.Wide,i6 f_.Sag,i6 f_.Most,.slice f__Rides_p f_.Rides.length f__Rides_c] 54::.box b__1 [.func (.func 156) #[] #[]] 147::Lf) w)
 have hr4 : ∀ (zz : Int) a w,x4 = .go zz → S4 zz a w → K2 a w := by
  rintro x a w rfl ⟨hf,hc⟩
  replace hF := exK_go hF
  refine h2 _ _ ?_
  refine wp_seq_k fun K5 h5 => cReg ?_
  refine stP hf rfl rfl rfl (pA rfl) fun a hf => cNil ?_
  refine h5 _ _ ?_
  refine wp_ret ?_
  obtain rfl := sj hF
  exact fnOut1 (by simp) rfl Tryz.results97 hf hc (show look _ 4 = _ from rfl) ⟨rfl,hc⟩
 have ho4 : ∀ r,x4 = .out r → r = res := by
  rintro r rfl
  exact sj hF
 refine cLoop N (loopW (S := S4) (x := x4) ?_ N 0 _ _ ⟨hf.kp rfl,hc⟩ hx4)
 clear hF hf hc
 rintro x st4 a w KB4 ⟨hf,hc⟩ hF hfin4 hK4
 unfold slices_IndexFunc_Lint_int_s5_b4 at hF
 refine wp_seq_k fun K6 h6 => cReg ?_
 refine stP hf rfl rfl rfl (pLt rfl rfl) fun a hf => cNil ?_
 refine h6 _ _ ?_
 refine wp_seq_k fun K7 h7 => cCond (b := (decide (x < ((s_.length : Nat) : Int)))) hf rfl (fun hb => ?_) (fun hb => ?_)
 ·replace hF := condT hb hF
  clear hb
  refine wp_skip ?_
  refine h7 _ _ ?_
  refine wp_seq_k fun K8 h8 => wp_block ?_
  refine wp_seq_k fun K9 h9 => cReg ?_
  refine stP hf rfl rfl rfl (pM rfl) fun a hf => stP hf rfl rfl rfl (pA rfl) fun a hf => cNil ?_
  refine h9 _ _ ?_
  refine wp_seq_k fun K10 h10 => cReg ?_
  refine stP hf rfl rfl rfl (pM rfl) fun a hf => stP hf rfl rfl rfl (pM rfl) fun a hf => stP hf rfl rfl rfl (pM rfl) fun a hf => ?_
  obtain ⟨e_1,he_1,hF⟩ := bnd_some hF
  obtain ⟨b_1,o,qa,qp⟩ := h_s_.atm he_1
  refine stP hf rfl rfl rfl (pIA Tryz.underlying25 sz_3 rfl rfl qa) fun a hf => stE hf hc rfl rfl rfl (eLd1 sc_3 rfl (cell_pc (j := 0) qp rfl)) fun a w hf hc => ?_
  obtain ⟨r,hr,hF⟩ := bnd_some hF
  refine stE hf hc rfl rfl rfl (eC (v := .bool r) (vs := [i6 e_1]) (caps := [pq b_,pq b__1]) en_98 rfl rfl rfl rfl (fun w hc => (crew_Beyond_1_1_ok e_1 f_ h_f__Rides ((hc.pick k1).pick k1) hr).mono fun e w h => ⟨h.1,((h.2.unpick k1).unpick k1)⟩)) fun a w hf hc => cNil ?_
  refine h10 _ _ ?_
  refine cCond (b := r) hf rfl (fun hb => ?_) (fun hb => ?_)
  ·replace hF := condT hb hF
   clear hb
   refine wp_seq_k fun K11 h11 => cReg ?_
   refine stP hf rfl rfl rfl (pM rfl) fun a hf => stP hf rfl rfl rfl (pA rfl) fun a hf => cNil ?_
   refine h11 _ _ ?_
   refine wp_ret ?_
   refine xBlkR ?_
   refine xThenR ?_
   refine xThenR ?_
   have he := sj hF
   rw [← he] at hfin4
   replace hF := ho4 _ hfin4
   refine xBlkR ?_
   refine xThenR ?_
   obtain rfl := hF
   exact fnOut1 (by simp) rfl Tryz.results97 hf hc (show look _ 4 = _ from rfl) ⟨rfl,hc⟩
  ·replace hF := condF hb hF
   clear hb
   refine wp_skip ?_
   refine h8 _ _ ?_
   refine cReg ?_
   refine stP hf rfl rfl rfl (pAdd rfl rfl) fun a hf => stP hf rfl rfl rfl (pM rfl) fun a hf => cNil ?_
   exact hK4 (W (x + 1)) _ _ (sj hF).symm ⟨hf.kp rfl,hc⟩
 ·replace hF := condF hb hF
  clear hb
  refine wp_exit ?_
  refine xThen ?_
  refine xThen ?_
  have he := sj hF
  rw [← he] at hfin4
  refine cHit ?_
  exact hr4 _ _ _ hfin4 ⟨hf.kp rfl,hc⟩

def crew_Beyond_1 (N : Nat) (x : List Int) (x_1 : crew_Cable) : Option (Int) :=
 Option.bind (slices_IndexFunc_Lint_int_s5 N x x_1) fun r =>
 cond (r == (-1))
 (some (-1))
 (Option.bind (getI x r) fun e_1 =>
 some e_1)
theorem crew_Beyond_1_ok {N : Nat} {G : Pers} {Lf : List Ent} {w : World} (x : List Int) (x_1 : crew_Cable) {b_ : Nat} {x_p : Option Addr} {x_c : Nat} {b__1 : Nat} {x_1_Rides_p : Option Addr} {x_1_Rides_c : Nat} (h_x : Rd G 1 x_p x_c (x.map encI_i64)) (h_x_1_Rides : Rd G 4 x_1_Rides_p x_1_Rides_c (x_1.Rides.map enc_crew_Ride)) (hc : Ctx G (.box b_ [.slice x_p x.length x_c] 25::.box b__1 [i6 x_1.Car,i6 x_1.Wide,i6 x_1.Sag,i6 x_1.Most,.slice x_1_Rides_p x_1.Rides.length x_1_Rides_c] 54::Lf) w) {res : Int} (hF : crew_Beyond_1 N x x_1 = some res) : Calls Tryz.prog 96 #[.agg #[.func (.func 156) #[] #[]],pq b_,pq b__1] w (fun e w => e = .returned (i6 res) ∧ Ctx G (.box b_ [.slice x_p x.length x_c] 25::.box b__1 [i6 x_1.Car,i6 x_1.Wide,i6 x_1.Sag,i6 x_1.Most,.slice x_1_Rides_p x_1.Rides.length x_1_Rides_c] 54::Lf) w) := by
 unfold crew_Beyond_1 at hF
 refine fnIn (args := [.agg #[.func (.func 156) #[] #[]],pq b_,pq b__1]) Tryz.func96 rfl Tryz.ntmps96 rfl fun a hf => wp_seq_k fun K1 h1 => cReg ?_
 refine stBx (cs := [.func (.func 156) #[] #[]]) hf hc rfl rfl rfl rfl fun b_1 a w hf hc => stP hf rfl rfl rfl (pA rfl) fun a hf => cNil ?_
 refine h1 _ _ ?_
 refine wp_seq_k fun K2 h2 => cReg ?_
 refine stE hf hc rfl rfl rfl (eLd1 sc_25 rfl (cell_box m1 rfl)) fun a w hf hc => stP hf rfl rfl rfl (pMF (us := [pq b__1,pq b_1]) rfl rfl) fun a hf => ?_
 obtain ⟨r,hr,hF⟩ := bnd_some hF
 refine stE hf hc rfl rfl rfl (eC (v := i6 r) (vs := [.slice x_p x.length x_c,.func (.func 98) #[] #[pq b__1,pq b_1]]) (caps := []) en_97 rfl rfl rfl rfl (fun w hc => (slices_IndexFunc_Lint_int_s5_ok x x_1 h_x h_x_1_Rides ((hc.pick k0).pick k2) hr).mono fun e w h => ⟨h.1,((h.2.unpick k2).unpick k0)⟩)) fun a w hf hc => stP hf rfl rfl rfl (pA rfl) fun a hf => cNil ?_
 refine h2 _ _ ?_
 refine wp_seq_k fun K3 h3 => wp_seq_k fun K4 h4 => cReg ?_
 refine stP hf rfl rfl rfl (pM rfl) fun a hf => stP hf rfl rfl rfl (pEq rfl rfl) fun a hf => cNil ?_
 refine h4 _ _ ?_
 refine cCond (b := (r == (-1))) hf rfl (fun hb => ?_) (fun hb => ?_)
 ·replace hF := condT hb hF
  clear hb
  refine wp_seq_k fun K5 h5 => cReg ?_
  refine stP hf rfl rfl rfl (pA rfl) fun a hf => cNil ?_
  refine h5 _ _ ?_
  refine wp_ret ?_
  refine xThenR ?_
  obtain rfl := sj hF
  replace hc := hc.drop k0
  exact fnOut1 (by simp) rfl Tryz.results96 hf hc (show look _ 4 = _ from rfl) ⟨rfl,hc⟩
 ·replace hF := condF hb hF
  clear hb
  refine wp_skip ?_
  refine h3 _ _ ?_
  refine wp_seq_k fun K6 h6 => cReg ?_
  refine stE hf hc rfl rfl rfl (eLd1 sc_25 rfl (cell_box m1 rfl)) fun a w hf hc => stP hf rfl rfl rfl (pM rfl) fun a hf => ?_
  obtain ⟨e_1,he_1,hF⟩ := bnd_some hF
  obtain ⟨b_2,o,qa,qp⟩ := h_x.atm he_1
  refine stP hf rfl rfl rfl (pIA Tryz.underlying25 sz_3 rfl rfl qa) fun a hf => stE hf hc rfl rfl rfl (eLd1 sc_3 rfl (cell_pc (j := 0) qp rfl)) fun a w hf hc => stP hf rfl rfl rfl (pA rfl) fun a hf => cNil ?_
  refine h6 _ _ ?_
  refine wp_ret ?_
  obtain rfl := sj hF
  replace hc := hc.drop k0
  exact fnOut1 (by simp) rfl Tryz.results96 hf hc (show look _ 4 = _ from rfl) ⟨rfl,hc⟩

def crew_Beyond_1_1_s2 (N : Nat) (n : Int) (x : crew_Cable) : Option (Bool) :=
 Option.bind (crew_Cable_load_s2 N (⟨x.Car,x.Wide,x.Sag,x.Most,x.Rides⟩ : crew_Cable) n) fun r =>
 some (crew_Cable_beyond (⟨x.Car,x.Wide,x.Sag,x.Most,x.Rides⟩ : crew_Cable) r)
theorem crew_Beyond_1_1_s2_ok {N : Nat} {G : Pers} {Lf : List Ent} {w : World} (n : Int) (x : crew_Cable) {b_ : Nat} {x_Rides_p : Option Addr} {x_Rides_c : Nat} {b__1 : Nat} (h_x_Rides : Rd G 4 x_Rides_p x_Rides_c (x.Rides.map enc_crew_Ride)) (hc : Ctx G (.box b_ [i6 x.Car,i6 x.Wide,i6 x.Sag,i6 x.Most,.slice x_Rides_p x.Rides.length x_Rides_c] 54::.box b__1 [.func (.func 155) #[] #[]] 147::Lf) w) {res : Bool} (hF : crew_Beyond_1_1_s2 N n x = some res) : Calls Tryz.prog 98 #[i6 n,pq b_,pq b__1] w (fun e w => e = .returned (.bool res) ∧ Ctx G (.box b_ [i6 x.Car,i6 x.Wide,i6 x.Sag,i6 x.Most,.slice x_Rides_p x.Rides.length x_Rides_c] 54::.box b__1 [.func (.func 155) #[] #[]] 147::Lf) w) := by
 unfold crew_Beyond_1_1_s2 at hF
 refine fnIn (args := [i6 n,pq b_,pq b__1]) Tryz.func98 rfl Tryz.ntmps98 rfl fun a hf => wp_seq_k fun K1 h1 => cReg ?_
 refine stP hf rfl rfl rfl (pA rfl) fun a hf => cNil ?_
 refine h1 _ _ ?_
 refine wp_seq_k fun K2 h2 => ?_
 obtain ⟨r,hr,hF⟩ := bnd_some hF
 refine cQ hc follows_mx (by kernel_rfl) ?_
 refine qE hf rfl rfl rfl (eLdN (vs := [i6 x.Car,i6 x.Wide,i6 x.Sag,i6 x.Most,.slice x_Rides_p x.Rides.length x_Rides_c]) ag_54 rfl rfl (cells_box (n := 5) m0 rfl)) fun a hf => qE hf rfl rfl rfl (eLdN (vs := [i6 x.Car,i6 x.Wide,i6 x.Sag,i6 x.Most,.slice x_Rides_p x.Rides.length x_Rides_c]) ag_54 rfl rfl (cells_box (n := 5) m0 rfl)) fun a hf => qE hf rfl rfl rfl (Pu.ev (pM rfl)) fun a hf => qE hf rfl rfl rfl (eLdN (vs := [.func (.func 155) #[] #[]]) ag_147 rfl rfl (cells_box (n := 1) m1 rfl)) fun a hf => qE hf rfl rfl rfl (eC (v := i6 r) (vs := [.agg #[i6 x.Car,i6 x.Wide,i6 x.Sag,i6 x.Most,.slice x_Rides_p x.Rides.length x_Rides_c],i6 n,.agg #[.func (.func 155) #[] #[]]]) (caps := []) en_93 rfl rfl rfl rfl (fun w hc => crew_Cable_load_s2_ok (⟨x.Car,x.Wide,x.Sag,x.Most,x.Rides⟩ : crew_Cable) n h_x_Rides hc hr)) fun a hf => qE hf rfl rfl rfl (eC (v := .bool (crew_Cable_beyond (⟨x.Car,x.Wide,x.Sag,x.Most,x.Rides⟩ : crew_Cable) r)) (vs := [.agg #[i6 x.Car,i6 x.Wide,i6 x.Sag,i6 x.Most,.slice x_Rides_p x.Rides.length x_Rides_c],i6 r]) (caps := []) en_99 rfl rfl rfl rfl (fun w hc => crew_Cable_beyond_ok (⟨x.Car,x.Wide,x.Sag,x.Most,x.Rides⟩ : crew_Cable) r h_x_Rides hc rfl)) fun a hf => qE hf rfl rfl rfl (Pu.ev (pA rfl)) fun a hf => ?_
 intro w hc
 refine h2 _ _ ?_
 refine wp_ret ?_
 obtain rfl := sj hF
 exact fnOut1 (by simp) rfl Tryz.results98 hf hc (show look _ 4 = _ from rfl) ⟨rfl,hc⟩

def slices_IndexFunc_Lint_int_s6_b4 (N : Nat) (s_ : List Int) (f_ : crew_Cable) (x : Int) : Option (Step (Int) (Int)) :=
 cond (decide (x < ((s_.length : Nat) : Int)))
 (Option.bind (getI s_ x) fun e_1 =>
 Option.bind (crew_Beyond_1_1_s2 N e_1 f_) fun r =>
 cond r
 (some (.ret x))
 (some (.cont (W (x + 1)))))
 (some (.brk x))
def slices_IndexFunc_Lint_int_s6 (N : Nat) (s_ : List Int) (f_ : crew_Cable) : Option (Int) :=
 Option.bind (loopO (fun s4 => slices_IndexFunc_Lint_int_s6_b4 N s_ f_ s4) N 0) fun x4 =>
 exK x4 (fun s4 => some (-1)) some
theorem slices_IndexFunc_Lint_int_s6_ok {N : Nat} {G : Pers} {Lf : List Ent} {w : World} (s_ : List Int) (f_ : crew_Cable) {s__p : Option Addr} {s__c : Nat} {b_ : Nat} {f__Rides_p : Option Addr} {f__Rides_c : Nat} {b__1 : Nat} (h_s_ : Rd G 1 s__p s__c (s_.map encI_i64)) (h_f__Rides : Rd G 4 f__Rides_p f__Rides_c (f_.Rides.map enc_crew_Ride)) (hc : Ctx G (.box b_ [i6 f_.Car,i6 f_.Wide,i6 f_.Sag,i6 f_.Most,.slice f__Rides_p f_.Rides.length f__Rides_c] 54::.box b__1 [.func (.func 155) #[] #[]] 147::Lf) w) {res : Int} (hF : slices_IndexFunc_Lint_int_s6 N s_ f_ = some res) : Calls Tryz.prog 97 #[.slice s__p s_.length s__c,.func (.func 98) #[] #[pq b_,pq b__1]] w (fun e w => e = .returned (i6 res) ∧ Ctx G (.box b_ [i6 f_.Car,i6 f_.Wide,i6 f_.Sag,i6 f_.Most,.slice f__Rides_p f_.Rides.length f__Rides_c] 54::.box b__1 [.func (.func 155) #[] #[]] 147::Lf) w) := by
 unfold slices_IndexFunc_Lint_int_s6 at hF
 refine fnIn (args := [.slice s__p s_.length s__c,.func (.func 98) #[] #[pq b_,pq b__1]]) Tryz.func97 rfl Tryz.ntmps97 rfl fun a hf => wp_seq_k fun K1 h1 => cReg ?_
 refine stP hf rfl rfl rfl (pA rfl) fun a hf => cNil ?_
 refine h1 _ _ ?_
 refine wp_seq_k fun K2 h2 => wp_seq_k fun K3 h3 => cReg ?_
 refine stP hf rfl rfl rfl (pM rfl) fun a hf => stP hf rfl rfl rfl (pLenS Tryz.underlying25 rfl) fun a hf => stP hf rfl rfl rfl (pM rfl) fun a hf => cNil ?_
 refine h3 _ _ ?_
 refine wp_block ?_
 obtain ⟨x4,hx4,hF⟩ := bnd_some hF
 let S4 : Int → Act → World → Prop := (fun (zz : Int) a w => Has 19 a [(0,.slice s__p s_.length s__c),(1,.func (.func 98) #[] #[pq b_,pq b__1]),(7,i6 ((s_.length : Nat) : Int)),(8,i6 zz)] ∧ Ctx G (.box b_ [i6 f_.Car,i6 f_.Wide,i6 f_.Sag,i6 f_.Most,.slice f__Rides_p f_.Rides.length f__Rides_c] 54::.box b__1 [.func (.func 155) #[] #[]] 147::Lf) w)
 have hr4 : ∀ (zz : Int) a w,x4 = .go zz → S4 zz a w → K2 a w := by
  rintro x a w rfl ⟨hf,hc⟩
  replace hF := exK_go hF
  refine h2 _ _ ?_
  refine wp_seq_k fun K5 h5 => cReg ?_
  refine stP hf rfl rfl rfl (pA rfl) fun a hf => cNil ?_
  refine h5 _ _ ?_
  refine wp_ret ?_
  obtain rfl := sj hF
  exact fnOut1 (by simp) rfl Tryz.results97 hf hc (show look _ 4 = _ from rfl) ⟨rfl,hc⟩
 have ho4 : ∀ r,x4 = .out r → r = res := by
  rintro r rfl
  exact sj hF
 refine cLoop N (loopW (S := S4) (x := x4) ?_ N 0 _ _ ⟨hf.kp rfl,hc⟩ hx4)
 clear hF hf hc
 rintro x st4 a w KB4 ⟨hf,hc⟩ hF hfin4 hK4
 unfold slices_IndexFunc_Lint_int_s6_b4 at hF
 refine wp_seq_k fun K6 h6 => cReg ?_
 refine stP hf rfl rfl rfl (pLt rfl rfl) fun a hf => cNil ?_
 refine h6 _ _ ?_
 refine wp_seq_k fun K7 h7 => cCond (b := (decide (x < ((s_.length : Nat) : Int)))) hf rfl (fun hb => ?_) (fun hb => ?_)
 ·replace hF := condT hb hF
  clear hb
  refine wp_skip ?_
  refine h7 _ _ ?_
  refine wp_seq_k fun K8 h8 => wp_block ?_
  refine wp_seq_k fun K9 h9 => cReg ?_
  refine stP hf rfl rfl rfl (pM rfl) fun a hf => stP hf rfl rfl rfl (pA rfl) fun a hf => cNil ?_
  refine h9 _ _ ?_
  refine wp_seq_k fun K10 h10 => cReg ?_
  refine stP hf rfl rfl rfl (pM rfl) fun a hf => stP hf rfl rfl rfl (pM rfl) fun a hf => stP hf rfl rfl rfl (pM rfl) fun a hf => ?_
  obtain ⟨e_1,he_1,hF⟩ := bnd_some hF
  obtain ⟨b_1,o,qa,qp⟩ := h_s_.atm he_1
  refine stP hf rfl rfl rfl (pIA Tryz.underlying25 sz_3 rfl rfl qa) fun a hf => stE hf hc rfl rfl rfl (eLd1 sc_3 rfl (cell_pc (j := 0) qp rfl)) fun a w hf hc => ?_
  obtain ⟨r,hr,hF⟩ := bnd_some hF
  refine stE hf hc rfl rfl rfl (eC (v := .bool r) (vs := [i6 e_1]) (caps := [pq b_,pq b__1]) en_98 rfl rfl rfl rfl (fun w hc => (crew_Beyond_1_1_s2_ok e_1 f_ h_f__Rides ((hc.pick k1).pick k1) hr).mono fun e w h => ⟨h.1,((h.2.unpick k1).unpick k1)⟩)) fun a w hf hc => cNil ?_
  refine h10 _ _ ?_
  refine cCond (b := r) hf rfl (fun hb => ?_) (fun hb => ?_)
  ·replace hF := condT hb hF
   clear hb
   refine wp_seq_k fun K11 h11 => cReg ?_
   refine stP hf rfl rfl rfl (pM rfl) fun a hf => stP hf rfl rfl rfl (pA rfl) fun a hf => cNil ?_
   refine h11 _ _ ?_
   refine wp_ret ?_
   refine xBlkR ?_
   refine xThenR ?_
   refine xThenR ?_
   have he := sj hF
   rw [← he] at hfin4
   replace hF := ho4 _ hfin4
   refine xBlkR ?_
   refine xThenR ?_
   obtain rfl := hF
   exact fnOut1 (by simp) rfl Tryz.results97 hf hc (show look _ 4 = _ from rfl) ⟨rfl,hc⟩
  ·replace hF := condF hb hF
   clear hb
   refine wp_skip ?_
   refine h8 _ _ ?_
   refine cReg ?_
   refine stP hf rfl rfl rfl (pAdd rfl rfl) fun a hf => stP hf rfl rfl rfl (pM rfl) fun a hf => cNil ?_
   exact hK4 (W (x + 1)) _ _ (sj hF).symm ⟨hf.kp rfl,hc⟩
 ·replace hF := condF hb hF
  clear hb
  refine wp_exit ?_
  refine xThen ?_
  refine xThen ?_
  have he := sj hF
  rw [← he] at hfin4
  refine cHit ?_
  exact hr4 _ _ _ hfin4 ⟨hf.kp rfl,hc⟩

def crew_Beyond_1_s2 (N : Nat) (x : List Int) (x_1 : crew_Cable) : Option (Int) :=
 Option.bind (slices_IndexFunc_Lint_int_s6 N x x_1) fun r =>
 cond (r == (-1))
 (some (-1))
 (Option.bind (getI x r) fun e_1 =>
 some e_1)
theorem crew_Beyond_1_s2_ok {N : Nat} {G : Pers} {Lf : List Ent} {w : World} (x : List Int) (x_1 : crew_Cable) {b_ : Nat} {x_p : Option Addr} {x_c : Nat} {b__1 : Nat} {x_1_Rides_p : Option Addr} {x_1_Rides_c : Nat} (h_x : Rd G 1 x_p x_c (x.map encI_i64)) (h_x_1_Rides : Rd G 4 x_1_Rides_p x_1_Rides_c (x_1.Rides.map enc_crew_Ride)) (hc : Ctx G (.box b_ [.slice x_p x.length x_c] 25::.box b__1 [i6 x_1.Car,i6 x_1.Wide,i6 x_1.Sag,i6 x_1.Most,.slice x_1_Rides_p x_1.Rides.length x_1_Rides_c] 54::Lf) w) {res : Int} (hF : crew_Beyond_1_s2 N x x_1 = some res) : Calls Tryz.prog 96 #[.agg #[.func (.func 155) #[] #[]],pq b_,pq b__1] w (fun e w => e = .returned (i6 res) ∧ Ctx G (.box b_ [.slice x_p x.length x_c] 25::.box b__1 [i6 x_1.Car,i6 x_1.Wide,i6 x_1.Sag,i6 x_1.Most,.slice x_1_Rides_p x_1.Rides.length x_1_Rides_c] 54::Lf) w) := by
 unfold crew_Beyond_1_s2 at hF
 refine fnIn (args := [.agg #[.func (.func 155) #[] #[]],pq b_,pq b__1]) Tryz.func96 rfl Tryz.ntmps96 rfl fun a hf => wp_seq_k fun K1 h1 => cReg ?_
 refine stBx (cs := [.func (.func 155) #[] #[]]) hf hc rfl rfl rfl rfl fun b_1 a w hf hc => stP hf rfl rfl rfl (pA rfl) fun a hf => cNil ?_
 refine h1 _ _ ?_
 refine wp_seq_k fun K2 h2 => cReg ?_
 refine stE hf hc rfl rfl rfl (eLd1 sc_25 rfl (cell_box m1 rfl)) fun a w hf hc => stP hf rfl rfl rfl (pMF (us := [pq b__1,pq b_1]) rfl rfl) fun a hf => ?_
 obtain ⟨r,hr,hF⟩ := bnd_some hF
 refine stE hf hc rfl rfl rfl (eC (v := i6 r) (vs := [.slice x_p x.length x_c,.func (.func 98) #[] #[pq b__1,pq b_1]]) (caps := []) en_97 rfl rfl rfl rfl (fun w hc => (slices_IndexFunc_Lint_int_s6_ok x x_1 h_x h_x_1_Rides ((hc.pick k0).pick k2) hr).mono fun e w h => ⟨h.1,((h.2.unpick k2).unpick k0)⟩)) fun a w hf hc => stP hf rfl rfl rfl (pA rfl) fun a hf => cNil ?_
 refine h2 _ _ ?_
 refine wp_seq_k fun K3 h3 => wp_seq_k fun K4 h4 => cReg ?_
 refine stP hf rfl rfl rfl (pM rfl) fun a hf => stP hf rfl rfl rfl (pEq rfl rfl) fun a hf => cNil ?_
 refine h4 _ _ ?_
 refine cCond (b := (r == (-1))) hf rfl (fun hb => ?_) (fun hb => ?_)
 ·replace hF := condT hb hF
  clear hb
  refine wp_seq_k fun K5 h5 => cReg ?_
  refine stP hf rfl rfl rfl (pA rfl) fun a hf => cNil ?_
  refine h5 _ _ ?_
  refine wp_ret ?_
  refine xThenR ?_
  obtain rfl := sj hF
  replace hc := hc.drop k0
  exact fnOut1 (by simp) rfl Tryz.results96 hf hc (show look _ 4 = _ from rfl) ⟨rfl,hc⟩
 ·replace hF := condF hb hF
  clear hb
  refine wp_skip ?_
  refine h3 _ _ ?_
  refine wp_seq_k fun K6 h6 => cReg ?_
  refine stE hf hc rfl rfl rfl (eLd1 sc_25 rfl (cell_box m1 rfl)) fun a w hf hc => stP hf rfl rfl rfl (pM rfl) fun a hf => ?_
  obtain ⟨e_1,he_1,hF⟩ := bnd_some hF
  obtain ⟨b_2,o,qa,qp⟩ := h_x.atm he_1
  refine stP hf rfl rfl rfl (pIA Tryz.underlying25 sz_3 rfl rfl qa) fun a hf => stE hf hc rfl rfl rfl (eLd1 sc_3 rfl (cell_pc (j := 0) qp rfl)) fun a w hf hc => stP hf rfl rfl rfl (pA rfl) fun a hf => cNil ?_
  refine h6 _ _ ?_
  refine wp_ret ?_
  obtain rfl := sj hF
  replace hc := hc.drop k0
  exact fnOut1 (by simp) rfl Tryz.results96 hf hc (show look _ 4 = _ from rfl) ⟨rfl,hc⟩

def crew_Beyond (N : Nat) (c_ : crew_Cable) : Option (Int × Int × Int) :=
 Option.bind (crew_CheckCable N c_) fun r =>
 cond (r != 0)
 (some (0,0,r))
 (Option.bind (crew_Cable_starts N c_) fun r_1 =>
 Option.bind (crew_Beyond_1 N r_1 c_) fun r_2 =>
 Option.bind (crew_Beyond_1_s2 N r_1 c_) fun r_3 =>
 some (r_2,r_3,0))
theorem crew_Beyond_ok {N : Nat} {G : Pers} {Lf : List Ent} {w : World} (c_ : crew_Cable) {c__Rides_p : Option Addr} {c__Rides_c : Nat} (h_c__Rides : Rd G 4 c__Rides_p c__Rides_c (c_.Rides.map enc_crew_Ride)) (hc : Ctx G (Lf) w) {res : Int × Int × Int} (hF : crew_Beyond N c_ = some res) : Calls Tryz.prog 36 #[.agg #[i6 c_.Car,i6 c_.Wide,i6 c_.Sag,i6 c_.Most,.slice c__Rides_p c_.Rides.length c__Rides_c]] w (fun e w => e = .returned (.tuple #[i6 res.1,i6 res.2.1,i6 res.2.2]) ∧ Ctx G (Lf) w) := by
 unfold crew_Beyond at hF
 refine fnIn (args := [.agg #[i6 c_.Car,i6 c_.Wide,i6 c_.Sag,i6 c_.Most,.slice c__Rides_p c_.Rides.length c__Rides_c]]) Tryz.func36 rfl Tryz.ntmps36 rfl fun a hf => wp_seq_k fun K1 h1 => cReg ?_
 refine stBx (cs := [i6 c_.Car,i6 c_.Wide,i6 c_.Sag,i6 c_.Most,.slice c__Rides_p c_.Rides.length c__Rides_c]) hf hc rfl rfl rfl rfl fun b_1 a w hf hc => stP hf rfl rfl rfl (pA rfl) fun a hf => stP hf rfl rfl rfl (pA rfl) fun a hf => stP hf rfl rfl rfl (pA rfl) fun a hf => cNil ?_
 refine h1 _ _ ?_
 refine wp_seq_k fun K2 h2 => wp_seq_k fun K3 h3 => cReg ?_
 refine stE hf hc rfl rfl rfl (eLdN (vs := [i6 c_.Car,i6 c_.Wide,i6 c_.Sag,i6 c_.Most,.slice c__Rides_p c_.Rides.length c__Rides_c]) ag_54 rfl rfl (cells_box (n := 5) m0 rfl)) fun a w hf hc => ?_
 obtain ⟨r,hr,hF⟩ := bnd_some hF
 refine stE hf hc rfl rfl rfl (eC (v := i6 r) (vs := [.agg #[i6 c_.Car,i6 c_.Wide,i6 c_.Sag,i6 c_.Most,.slice c__Rides_p c_.Rides.length c__Rides_c]]) (caps := []) en_31 rfl rfl rfl rfl (fun w hc => crew_CheckCable_ok c_ h_c__Rides hc hr)) fun a w hf hc => stP hf rfl rfl rfl (pA rfl) fun a hf => cNil ?_
 refine h3 _ _ ?_
 refine wp_seq_k fun K4 h4 => cReg ?_
 refine stP hf rfl rfl rfl (pM rfl) fun a hf => stP hf rfl rfl rfl (pNe rfl rfl) fun a hf => cNil ?_
 refine h4 _ _ ?_
 refine cCond (b := (r != 0)) hf rfl (fun hb => ?_) (fun hb => ?_)
 ·replace hF := condT hb hF
  clear hb
  refine wp_seq_k fun K5 h5 => cReg ?_
  refine stP hf rfl rfl rfl (pM rfl) fun a hf => stP hf rfl rfl rfl (pA rfl) fun a hf => stP hf rfl rfl rfl (pA rfl) fun a hf => stP hf rfl rfl rfl (pA rfl) fun a hf => cNil ?_
  refine h5 _ _ ?_
  refine wp_ret ?_
  refine xThenR ?_
  obtain rfl := sj hF
  replace hc := hc.drop k0
  exact fnOut3 (by simp) rfl Tryz.results36 hf hc (show look _ 2 = _ from rfl) (show look _ 3 = _ from rfl) (show look _ 4 = _ from rfl) ⟨rfl,hc⟩
 ·replace hF := condF hb hF
  clear hb
  refine wp_skip ?_
  refine h2 _ _ ?_
  refine wp_seq_k fun K6 h6 => cReg ?_
  refine stE hf hc rfl rfl rfl (eLdN (vs := [i6 c_.Car,i6 c_.Wide,i6 c_.Sag,i6 c_.Most,.slice c__Rides_p c_.Rides.length c__Rides_c]) ag_54 rfl rfl (cells_box (n := 5) m0 rfl)) fun a w hf hc => ?_
  obtain ⟨r_1,hr_1,hF⟩ := bnd_some hF
  refine stC (vs := [.agg #[i6 c_.Car,i6 c_.Wide,i6 c_.Sag,i6 c_.Most,.slice c__Rides_p c_.Rides.length c__Rides_c]]) (caps := []) hf rfl rfl rfl en_95 rfl rfl rfl rfl (crew_Cable_starts_ok c_ h_c__Rides hc hr_1) ?_
  rintro _ w ⟨p_1,c_1,rfl,hc⟩
  refine ⟨_,rfl,fun a hf => ?_⟩
  refine stAl (cs := [.slice none 0 0]) hf hc rfl rfl zr_25 rfl fun b_2 a w hf hc => stSt (vs := [.slice p_1 r_1.length c_1]) hf hc rfl rfl rfl rfl sz_25 rfl rfl u0 fun w hc => cNil ?_
  refine h6 _ _ ?_
  refine wp_seq_k fun K7 h7 => cReg ?_
  refine stP hf rfl rfl rfl (pMF (us := [pq b_2,pq b_1]) rfl rfl) fun a hf => stP hf rfl rfl rfl (pA rfl) fun a hf => cNil ?_
  refine h7 _ _ ?_
  refine wp_seq_k fun K8 h8 => cReg ?_
  refine stP hf rfl rfl rfl (pM rfl) fun a hf => stE hf hc rfl rfl rfl (eC (v := .agg #[.func (.func 156) #[] #[]]) (vs := []) (caps := []) en_83 rfl rfl rfl rfl (fun w hc => crew_high_ok hc rfl)) fun a w hf hc => ?_
  obtain ⟨r_2,hr_2,hF⟩ := bnd_some hF
  refine stE hf hc rfl rfl rfl (eC (v := i6 r_2) (vs := [.agg #[.func (.func 156) #[] #[]]]) (caps := [pq b_2,pq b_1]) en_96 rfl rfl rfl rfl (fun w hc => by obtain ⟨G1,hle1,hrd1,hc,hth1⟩ := lend hc k1; exact (crew_Beyond_1_ok r_1 c_ hrd1 (h_c__Rides.mono hle1) ((hc.pick k1).pick k1) hr_2).mono fun e w h => ⟨h.1,((hth1 _ _ ((h.2.unpick k1).unpick k1)).unpick k1)⟩)) fun a w hf hc => stP hf rfl rfl rfl (pM rfl) fun a hf => stE hf hc rfl rfl rfl (eC (v := .agg #[.func (.func 155) #[] #[]]) (vs := []) (caps := []) en_82 rfl rfl rfl rfl (fun w hc => crew_low_ok hc rfl)) fun a w hf hc => ?_
  obtain ⟨r_3,hr_3,hF⟩ := bnd_some hF
  refine stE hf hc rfl rfl rfl (eC (v := i6 r_3) (vs := [.agg #[.func (.func 155) #[] #[]]]) (caps := [pq b_2,pq b_1]) en_96 rfl rfl rfl rfl (fun w hc => by obtain ⟨G1,hle1,hrd1,hc,hth1⟩ := lend hc k1; exact (crew_Beyond_1_s2_ok r_1 c_ hrd1 (h_c__Rides.mono hle1) ((hc.pick k1).pick k1) hr_3).mono fun e w h => ⟨h.1,((hth1 _ _ ((h.2.unpick k1).unpick k1)).unpick k1)⟩)) fun a w hf hc => stP hf rfl rfl rfl (pA rfl) fun a hf => stP hf rfl rfl rfl (pA rfl) fun a hf => stP hf rfl rfl rfl (pA rfl) fun a hf => cNil ?_
  refine h8 _ _ ?_
  refine wp_ret ?_
  obtain rfl := sj hF
  replace hc := hc.drop k2
  replace hc := hc.drop k1
  replace hc := hc.drop k0
  exact fnOut3 (by simp) rfl Tryz.results36 hf hc (show look _ 2 = _ from rfl) (show look _ 3 = _ from rfl) (show look _ 4 = _ from rfl) ⟨rfl,hc⟩

def crew_Paid_1 (n : Int) : Bool :=
 (crew_in n 0 1440)
theorem crew_Paid_1_ok {G : Pers} {Lf : List Ent} {w : World} (n : Int)   (hc : Ctx G (Lf) w) {res : Bool} (hF : crew_Paid_1 n = res) : Calls Tryz.prog 88 #[i6 n] w (fun e w => e = .returned (.bool res) ∧ Ctx G (Lf) w) := by
 unfold crew_Paid_1 at hF
 refine fnIn (args := [i6 n]) Tryz.func88 rfl Tryz.ntmps88 rfl fun a hf => wp_seq_k fun K1 h1 => cReg ?_
 refine stP hf rfl rfl rfl (pA rfl) fun a hf => cNil ?_
 refine h1 _ _ ?_
 refine wp_seq_k fun K2 h2 => cReg ?_
 refine stP hf rfl rfl rfl (pM rfl) fun a hf => stE hf hc rfl rfl rfl (eC (v := .bool (crew_in n 0 1440)) (vs := [i6 n,i6 0,i6 1440]) (caps := []) en_86 rfl rfl rfl rfl (fun w hc => crew_in_ok n 0 1440 hc rfl)) fun a w hf hc => stP hf rfl rfl rfl (pA rfl) fun a hf => cNil ?_
 refine h2 _ _ ?_
 refine wp_ret ?_
 obtain rfl := hF
 exact fnOut1 (by simp) rfl Tryz.results88 hf hc (show look _ 2 = _ from rfl) ⟨rfl,hc⟩

def crew_every_int_1_s4 (x : Int) : Bool :=
 (!(crew_Paid_1 x))
theorem crew_every_int_1_s4_ok {G : Pers} {Lf : List Ent} {w : World} (x : Int) {b_ : Nat}  (hc : Ctx G (.box b_ [.func (.func 88) #[] #[]] 143::Lf) w) {res : Bool} (hF : crew_every_int_1_s4 x = res) : Calls Tryz.prog 157 #[i6 x,pq b_] w (fun e w => e = .returned (.bool res) ∧ Ctx G (.box b_ [.func (.func 88) #[] #[]] 143::Lf) w) := by
 unfold crew_every_int_1_s4 at hF
 refine fnIn (args := [i6 x,pq b_]) Tryz.func157 rfl Tryz.ntmps157 rfl fun a hf => wp_seq_k fun K1 h1 => cReg ?_
 refine stP hf rfl rfl rfl (pA rfl) fun a hf => cNil ?_
 refine h1 _ _ ?_
 refine wp_seq_k fun K2 h2 => cReg ?_
 refine stE hf hc rfl rfl rfl (eLd1 sc_143 rfl (cell_box m0 rfl)) fun a w hf hc => stP hf rfl rfl rfl (pM rfl) fun a hf => stE hf hc rfl rfl rfl (eC (v := .bool (crew_Paid_1 x)) (vs := [i6 x]) (caps := []) en_88 rfl rfl rfl rfl (fun w hc => crew_Paid_1_ok x hc rfl)) fun a w hf hc => stP hf rfl rfl rfl (pNot rfl) fun a hf => stP hf rfl rfl rfl (pA rfl) fun a hf => cNil ?_
 refine h2 _ _ ?_
 refine wp_ret ?_
 obtain rfl := hF
 exact fnOut1 (by simp) rfl Tryz.results157 hf hc (show look _ 3 = _ from rfl) ⟨rfl,hc⟩

def slices_IndexFunc_Lint_int_s7_b4 (N : Nat) (s_ : List Int) (x : Int) : Option (Step (Int) (Int)) :=
 cond (decide (x < ((s_.length : Nat) : Int)))
 (Option.bind (getI s_ x) fun e_1 =>
 cond (crew_every_int_1_s4 e_1)
 (some (.ret x))
 (some (.cont (W (x + 1)))))
 (some (.brk x))
def slices_IndexFunc_Lint_int_s7 (N : Nat) (s_ : List Int) : Option (Int) :=
 Option.bind (loopO (fun s4 => slices_IndexFunc_Lint_int_s7_b4 N s_ s4) N 0) fun x4 =>
 exK x4 (fun s4 => some (-1)) some
theorem slices_IndexFunc_Lint_int_s7_ok {N : Nat} {G : Pers} {Lf : List Ent} {w : World} (s_ : List Int) {s__p : Option Addr} {s__c : Nat} {b_ : Nat} (h_s_ : Rd G 1 s__p s__c (s_.map encI_i64)) (hc : Ctx G (.box b_ [.func (.func 88) #[] #[]] 143::Lf) w) {res : Int} (hF : slices_IndexFunc_Lint_int_s7 N s_ = some res) : Calls Tryz.prog 97 #[.slice s__p s_.length s__c,.func (.func 157) #[] #[pq b_]] w (fun e w => e = .returned (i6 res) ∧ Ctx G (.box b_ [.func (.func 88) #[] #[]] 143::Lf) w) := by
 unfold slices_IndexFunc_Lint_int_s7 at hF
 refine fnIn (args := [.slice s__p s_.length s__c,.func (.func 157) #[] #[pq b_]]) Tryz.func97 rfl Tryz.ntmps97 rfl fun a hf => wp_seq_k fun K1 h1 => cReg ?_
 refine stP hf rfl rfl rfl (pA rfl) fun a hf => cNil ?_
 refine h1 _ _ ?_
 refine wp_seq_k fun K2 h2 => wp_seq_k fun K3 h3 => cReg ?_
 refine stP hf rfl rfl rfl (pM rfl) fun a hf => stP hf rfl rfl rfl (pLenS Tryz.underlying25 rfl) fun a hf => stP hf rfl rfl rfl (pM rfl) fun a hf => cNil ?_
 refine h3 _ _ ?_
 refine wp_block ?_
 obtain ⟨x4,hx4,hF⟩ := bnd_some hF
 let S4 : Int → Act → World → Prop := (fun (zz : Int) a w => Has 19 a [(0,.slice s__p s_.length s__c),(1,.func (.func 157) #[] #[pq b_]),(7,i6 ((s_.length : Nat) : Int)),(8,i6 zz)] ∧ Ctx G (.box b_ [.func (.func 88) #[] #[]] 143::Lf) w)
 have hr4 : ∀ (zz : Int) a w,x4 = .go zz → S4 zz a w → K2 a w := by
  rintro x a w rfl ⟨hf,hc⟩
  replace hF := exK_go hF
  refine h2 _ _ ?_
  refine wp_seq_k fun K5 h5 => cReg ?_
  refine stP hf rfl rfl rfl (pA rfl) fun a hf => cNil ?_
  refine h5 _ _ ?_
  refine wp_ret ?_
  obtain rfl := sj hF
  exact fnOut1 (by simp) rfl Tryz.results97 hf hc (show look _ 4 = _ from rfl) ⟨rfl,hc⟩
 have ho4 : ∀ r,x4 = .out r → r = res := by
  rintro r rfl
  exact sj hF
 refine cLoop N (loopW (S := S4) (x := x4) ?_ N 0 _ _ ⟨hf.kp rfl,hc⟩ hx4)
 clear hF hf hc
 rintro x st4 a w KB4 ⟨hf,hc⟩ hF hfin4 hK4
 unfold slices_IndexFunc_Lint_int_s7_b4 at hF
 refine wp_seq_k fun K6 h6 => cReg ?_
 refine stP hf rfl rfl rfl (pLt rfl rfl) fun a hf => cNil ?_
 refine h6 _ _ ?_
 refine wp_seq_k fun K7 h7 => cCond (b := (decide (x < ((s_.length : Nat) : Int)))) hf rfl (fun hb => ?_) (fun hb => ?_)
 ·replace hF := condT hb hF
  clear hb
  refine wp_skip ?_
  refine h7 _ _ ?_
  refine wp_seq_k fun K8 h8 => wp_block ?_
  refine wp_seq_k fun K9 h9 => cReg ?_
  refine stP hf rfl rfl rfl (pM rfl) fun a hf => stP hf rfl rfl rfl (pA rfl) fun a hf => cNil ?_
  refine h9 _ _ ?_
  refine wp_seq_k fun K10 h10 => cReg ?_
  refine stP hf rfl rfl rfl (pM rfl) fun a hf => stP hf rfl rfl rfl (pM rfl) fun a hf => stP hf rfl rfl rfl (pM rfl) fun a hf => ?_
  obtain ⟨e_1,he_1,hF⟩ := bnd_some hF
  obtain ⟨b_1,o,qa,qp⟩ := h_s_.atm he_1
  refine stP hf rfl rfl rfl (pIA Tryz.underlying25 sz_3 rfl rfl qa) fun a hf => stE hf hc rfl rfl rfl (eLd1 sc_3 rfl (cell_pc (j := 0) qp rfl)) fun a w hf hc => stE hf hc rfl rfl rfl (eC (v := .bool (crew_every_int_1_s4 e_1)) (vs := [i6 e_1]) (caps := [pq b_]) en_157 rfl rfl rfl rfl (fun w hc => (crew_every_int_1_s4_ok e_1 (hc.pick k0) rfl).mono fun e w h => ⟨h.1,(h.2.unpick k0)⟩)) fun a w hf hc => cNil ?_
  refine h10 _ _ ?_
  refine cCond (b := (crew_every_int_1_s4 e_1)) hf rfl (fun hb => ?_) (fun hb => ?_)
  ·replace hF := condT hb hF
   clear hb
   refine wp_seq_k fun K11 h11 => cReg ?_
   refine stP hf rfl rfl rfl (pM rfl) fun a hf => stP hf rfl rfl rfl (pA rfl) fun a hf => cNil ?_
   refine h11 _ _ ?_
   refine wp_ret ?_
   refine xBlkR ?_
   refine xThenR ?_
   refine xThenR ?_
   have he := sj hF
   rw [← he] at hfin4
   replace hF := ho4 _ hfin4
   refine xBlkR ?_
   refine xThenR ?_
   obtain rfl := hF
   exact fnOut1 (by simp) rfl Tryz.results97 hf hc (show look _ 4 = _ from rfl) ⟨rfl,hc⟩
  ·replace hF := condF hb hF
   clear hb
   refine wp_skip ?_
   refine h8 _ _ ?_
   refine cReg ?_
   refine stP hf rfl rfl rfl (pAdd rfl rfl) fun a hf => stP hf rfl rfl rfl (pM rfl) fun a hf => cNil ?_
   exact hK4 (W (x + 1)) _ _ (sj hF).symm ⟨hf.kp rfl,hc⟩
 ·replace hF := condF hb hF
  clear hb
  refine wp_exit ?_
  refine xThen ?_
  refine xThen ?_
  have he := sj hF
  rw [← he] at hfin4
  refine cHit ?_
  exact hr4 _ _ _ hfin4 ⟨hf.kp rfl,hc⟩

def slices_ContainsFunc_Lint_int_s5 (N : Nat) (s_ : List Int) : Option (Bool) :=
 Option.bind (slices_IndexFunc_Lint_int_s7 N s_) fun r =>
 some (decide (0 ≤ r))
theorem slices_ContainsFunc_Lint_int_s5_ok {N : Nat} {G : Pers} {Lf : List Ent} {w : World} (s_ : List Int) {s__p : Option Addr} {s__c : Nat} {b_ : Nat} (h_s_ : Rd G 1 s__p s__c (s_.map encI_i64)) (hc : Ctx G (.box b_ [.func (.func 88) #[] #[]] 143::Lf) w) {res : Bool} (hF : slices_ContainsFunc_Lint_int_s5 N s_ = some res) : Calls Tryz.prog 113 #[.slice s__p s_.length s__c,.func (.func 157) #[] #[pq b_]] w (fun e w => e = .returned (.bool res) ∧ Ctx G (.box b_ [.func (.func 88) #[] #[]] 143::Lf) w) := by
 unfold slices_ContainsFunc_Lint_int_s5 at hF
 refine fnIn (args := [.slice s__p s_.length s__c,.func (.func 157) #[] #[pq b_]]) Tryz.func113 rfl Tryz.ntmps113 rfl fun a hf => wp_seq_k fun K1 h1 => cReg ?_
 refine stP hf rfl rfl rfl (pA rfl) fun a hf => cNil ?_
 refine h1 _ _ ?_
 refine wp_seq_k fun K2 h2 => cReg ?_
 refine stP hf rfl rfl rfl (pM rfl) fun a hf => stP hf rfl rfl rfl (pM rfl) fun a hf => ?_
 obtain ⟨r,hr,hF⟩ := bnd_some hF
 refine stE hf hc rfl rfl rfl (eC (v := i6 r) (vs := [.slice s__p s_.length s__c,.func (.func 157) #[] #[pq b_]]) (caps := []) en_97 rfl rfl rfl rfl (fun w hc => (slices_IndexFunc_Lint_int_s7_ok s_ h_s_ (hc.pick k0) hr).mono fun e w h => ⟨h.1,(h.2.unpick k0)⟩)) fun a w hf hc => stP hf rfl rfl rfl (pGe rfl rfl) fun a hf => stP hf rfl rfl rfl (pA rfl) fun a hf => cNil ?_
 refine h2 _ _ ?_
 refine wp_ret ?_
 obtain rfl := sj hF
 exact fnOut1 (by simp) rfl Tryz.results113 hf hc (show look _ 4 = _ from rfl) ⟨rfl,hc⟩

def crew_every_int_s4 (N : Nat) (l : List Int) : Option (Bool) :=
 Option.bind (slices_ContainsFunc_Lint_int_s5 N l) fun r =>
 some (!r)
theorem crew_every_int_s4_ok {N : Nat} {G : Pers} {Lf : List Ent} {w : World} (l : List Int) {l_p : Option Addr} {l_c : Nat} (h_l : Rd G 1 l_p l_c (l.map encI_i64)) (hc : Ctx G (Lf) w) {res : Bool} (hF : crew_every_int_s4 N l = some res) : Calls Tryz.prog 87 #[.slice l_p l.length l_c,.func (.func 88) #[] #[]] w (fun e w => e = .returned (.bool res) ∧ Ctx G (Lf) w) := by
 unfold crew_every_int_s4 at hF
 refine fnIn (args := [.slice l_p l.length l_c,.func (.func 88) #[] #[]]) Tryz.func87 rfl Tryz.ntmps87 rfl fun a hf => wp_seq_k fun K1 h1 => cReg ?_
 refine stBx (cs := [.func (.func 88) #[] #[]]) hf hc rfl rfl rfl rfl fun b_1 a w hf hc => stP hf rfl rfl rfl (pA rfl) fun a hf => cNil ?_
 refine h1 _ _ ?_
 refine wp_seq_k fun K2 h2 => cReg ?_
 refine stP hf rfl rfl rfl (pM rfl) fun a hf => stP hf rfl rfl rfl (pMF (us := [pq b_1]) rfl rfl) fun a hf => ?_
 obtain ⟨r,hr,hF⟩ := bnd_some hF
 refine stE hf hc rfl rfl rfl (eC (v := .bool r) (vs := [.slice l_p l.length l_c,.func (.func 157) #[] #[pq b_1]]) (caps := []) en_113 rfl rfl rfl rfl (fun w hc => (slices_ContainsFunc_Lint_int_s5_ok l h_l (hc.pick k0) hr).mono fun e w h => ⟨h.1,(h.2.unpick k0)⟩)) fun a w hf hc => stP hf rfl rfl rfl (pNot rfl) fun a hf => stP hf rfl rfl rfl (pA rfl) fun a hf => cNil ?_
 refine h2 _ _ ?_
 refine wp_ret ?_
 obtain rfl := sj hF
 replace hc := hc.drop k0
 exact fnOut1 (by simp) rfl Tryz.results87 hf hc (show look _ 4 = _ from rfl) ⟨rfl,hc⟩

def crew_Paid_b12 (N : Nat) (p_ : crew_Pay) (l : List Int) (out : Int) (x : Int) : Option (Step (Int × Int) (Int × Int)) :=
 cond (decide (x < ((l.length : Nat) : Int)))
 (Option.bind (getI l x) fun e_1 =>
 some (.cont (W (out + (W (p_.Rate * (W ((W (1000 * e_1)) + (W (p_.Extra * (max 0 (W (e_1 - p_.Normal)))))))))),W (x + 1))))
 (some (.brk (out,x)))
def crew_Paid (N : Nat) (p_ : crew_Pay) (l : List Int) : Option (Int × Int) :=
 cond (((!(crew_in p_.Rate 0 10000)) || (!(crew_in p_.Normal 0 1440))) || (!(crew_in p_.Extra 0 1000)))
 (some (0,120))
 (cond (decide (366 < ((l.length : Nat) : Int)))
 (some (0,3))
 (Option.bind (crew_every_int_s4 N l) fun r =>
 cond (!r)
 (some (0,4))
 (Option.bind (loopO (fun s12 => crew_Paid_b12 N p_ l s12.1 s12.2) N (0,0)) fun x12 =>
 exK x12 (fun s12 => some (W ((W (s12.1 + 59999)).tdiv 60000),0)) some)))
theorem crew_Paid_ok {N : Nat} {G : Pers} {Lf : List Ent} {w : World} (p_ : crew_Pay) (l : List Int) {l_p : Option Addr} {l_c : Nat} (h_l : Rd G 1 l_p l_c (l.map encI_i64)) (hc : Ctx G (Lf) w) {res : Int × Int} (hF : crew_Paid N p_ l = some res) : Calls Tryz.prog 26 #[.agg #[i6 p_.Rate,i6 p_.Normal,i6 p_.Extra],.slice l_p l.length l_c] w (fun e w => e = .returned (.tuple #[i6 res.1,i6 res.2]) ∧ Ctx G (Lf) w) := by
 unfold crew_Paid at hF
 refine fnIn (args := [.agg #[i6 p_.Rate,i6 p_.Normal,i6 p_.Extra],.slice l_p l.length l_c]) Tryz.func26 rfl Tryz.ntmps26 rfl fun a hf => wp_seq_k fun K1 h1 => cReg ?_
 refine stBx (cs := [i6 p_.Rate,i6 p_.Normal,i6 p_.Extra]) hf hc rfl rfl rfl rfl fun b_1 a w hf hc => stP hf rfl rfl rfl (pA rfl) fun a hf => stP hf rfl rfl rfl (pA rfl) fun a hf => cNil ?_
 refine h1 _ _ ?_
 refine wp_seq_k fun K2 h2 => wp_block ?_
 refine wp_seq_k fun K3 h3 => cReg ?_
 refine stP hf rfl rfl rfl (pFA fa_24_0 rfl) fun a hf => stE hf hc rfl rfl rfl (eLd1 sc_3 rfl (cell_box m0 rfl)) fun a w hf hc => stE hf hc rfl rfl rfl (eC (v := .bool (crew_in p_.Rate 0 10000)) (vs := [i6 p_.Rate,i6 0,i6 10000]) (caps := []) en_86 rfl rfl rfl rfl (fun w hc => crew_in_ok p_.Rate 0 10000 hc rfl)) fun a w hf hc => stP hf rfl rfl rfl (pNot rfl) fun a hf => stP hf rfl rfl rfl (pM rfl) fun a hf => stCut 5 (fun a w => Has 60 a [(1,.slice l_p l.length l_c),(2,pq b_1),(10,pq b_1),(11,i6 p_.Rate),(12,.bool (crew_in p_.Rate 0 10000)),(13,.bool (!(crew_in p_.Rate 0 10000))),(14,.bool (!(crew_in p_.Rate 0 10000))),(19,.bool ((!(crew_in p_.Rate 0 10000)) || (!(crew_in p_.Normal 0 1440))))] ∧ Ctx G (.box b_1 [i6 p_.Rate,i6 p_.Normal,i6 p_.Extra] 24::Lf) w) ?_ ?_
 ·cases hb : (!(crew_in p_.Rate 0 10000))
  ·rw [hb] at hf
   refine stP hf rfl rfl rfl (pFA fa_24_1 rfl) fun a hf => stE hf hc rfl rfl rfl (eLd1 sc_3 rfl (cell_box m0 rfl)) fun a w hf hc => stE hf hc rfl rfl rfl (eC (v := .bool (crew_in p_.Normal 0 1440)) (vs := [i6 p_.Normal,i6 0,i6 1440]) (caps := []) en_86 rfl rfl rfl rfl (fun w hc => crew_in_ok p_.Normal 0 1440 hc rfl)) fun a w hf hc => stP hf rfl rfl rfl (pNot rfl) fun a hf => stP hf rfl rfl rfl (pPf rfl rfl) fun a hf => cNil ⟨hf.kp rfl,hc⟩
  ·rw [hb] at hf
   refine stS hf rfl rfl rfl fun a hf => stS hf rfl rfl rfl fun a hf => stS hf rfl rfl rfl fun a hf => stS hf rfl rfl rfl fun a hf => stP hf rfl rfl rfl (pPt rfl rfl) fun a hf => cNil ⟨hf.kp rfl,hc⟩
 intro a w ⟨hf,hc⟩
 refine stP hf rfl rfl rfl (pM rfl) fun a hf => stCut 5 (fun a w => Has 60 a [(1,.slice l_p l.length l_c),(2,pq b_1),(10,pq b_1),(11,i6 p_.Rate),(12,.bool (crew_in p_.Rate 0 10000)),(13,.bool (!(crew_in p_.Rate 0 10000))),(14,.bool (!(crew_in p_.Rate 0 10000))),(19,.bool ((!(crew_in p_.Rate 0 10000)) || (!(crew_in p_.Normal 0 1440)))),(20,.bool ((!(crew_in p_.Rate 0 10000)) || (!(crew_in p_.Normal 0 1440)))),(25,.bool (((!(crew_in p_.Rate 0 10000)) || (!(crew_in p_.Normal 0 1440))) || (!(crew_in p_.Extra 0 1000))))] ∧ Ctx G (.box b_1 [i6 p_.Rate,i6 p_.Normal,i6 p_.Extra] 24::Lf) w) ?_ ?_
 ·cases hb : ((!(crew_in p_.Rate 0 10000)) || (!(crew_in p_.Normal 0 1440)))
  ·rw [hb] at hf
   refine stP hf rfl rfl rfl (pFA fa_24_2 rfl) fun a hf => stE hf hc rfl rfl rfl (eLd1 sc_3 rfl (cell_box m0 rfl)) fun a w hf hc => stE hf hc rfl rfl rfl (eC (v := .bool (crew_in p_.Extra 0 1000)) (vs := [i6 p_.Extra,i6 0,i6 1000]) (caps := []) en_86 rfl rfl rfl rfl (fun w hc => crew_in_ok p_.Extra 0 1000 hc rfl)) fun a w hf hc => stP hf rfl rfl rfl (pNot rfl) fun a hf => stP hf rfl rfl rfl (pPf rfl rfl) fun a hf => cNil ⟨hf.kp rfl,hc⟩
  ·rw [hb] at hf
   refine stS hf rfl rfl rfl fun a hf => stS hf rfl rfl rfl fun a hf => stS hf rfl rfl rfl fun a hf => stS hf rfl rfl rfl fun a hf => stP hf rfl rfl rfl (pPt rfl rfl) fun a hf => cNil ⟨hf.kp rfl,hc⟩
 intro a w ⟨hf,hc⟩
 refine stP hf rfl rfl rfl (pA rfl) fun a hf => cNil ?_
 refine h3 _ _ ?_
 refine cCond (b := (((!(crew_in p_.Rate 0 10000)) || (!(crew_in p_.Normal 0 1440))) || (!(crew_in p_.Extra 0 1000)))) hf rfl (fun hb => ?_) (fun hb => ?_)
 ·replace hF := condT hb hF
  clear hb
  refine wp_seq_k fun K4 h4 => cReg ?_
  refine stP hf rfl rfl rfl (pA rfl) fun a hf => stP hf rfl rfl rfl (pA rfl) fun a hf => cNil ?_
  refine h4 _ _ ?_
  refine wp_ret ?_
  refine xBlkR ?_
  refine xThenR ?_
  obtain rfl := sj hF
  replace hc := hc.drop k0
  exact fnOut2 (by simp) rfl Tryz.results26 hf hc (show look _ 4 = _ from rfl) (show look _ 5 = _ from rfl) ⟨rfl,hc⟩
 ·replace hF := condF hb hF
  clear hb
  refine wp_seq_k fun K5 h5 => cReg ?_
  refine stP hf rfl rfl rfl (pM rfl) fun a hf => stP hf rfl rfl rfl (pLenS Tryz.underlying25 rfl) fun a hf => stP hf rfl rfl rfl (pGt rfl rfl) fun a hf => stP hf rfl rfl rfl (pA rfl) fun a hf => cNil ?_
  refine h5 _ _ ?_
  refine cCond (b := (decide (366 < ((l.length : Nat) : Int)))) hf rfl (fun hb => ?_) (fun hb => ?_)
  ·replace hF := condT hb hF
   clear hb
   refine wp_seq_k fun K6 h6 => cReg ?_
   refine stP hf rfl rfl rfl (pA rfl) fun a hf => stP hf rfl rfl rfl (pA rfl) fun a hf => cNil ?_
   refine h6 _ _ ?_
   refine wp_ret ?_
   refine xBlkR ?_
   refine xThenR ?_
   obtain rfl := sj hF
   replace hc := hc.drop k0
   exact fnOut2 (by simp) rfl Tryz.results26 hf hc (show look _ 4 = _ from rfl) (show look _ 5 = _ from rfl) ⟨rfl,hc⟩
  ·replace hF := condF hb hF
   clear hb
   refine wp_seq_k fun K7 h7 => cReg ?_
   refine stP hf rfl rfl rfl (pM rfl) fun a hf => ?_
   obtain ⟨r,hr,hF⟩ := bnd_some hF
   refine stE hf hc rfl rfl rfl (eC (v := .bool r) (vs := [.slice l_p l.length l_c,.func (.func 88) #[] #[]]) (caps := []) en_87 rfl rfl rfl rfl (fun w hc => crew_every_int_s4_ok l h_l hc hr)) fun a w hf hc => stP hf rfl rfl rfl (pNot rfl) fun a hf => stP hf rfl rfl rfl (pA rfl) fun a hf => cNil ?_
   refine h7 _ _ ?_
   refine cCond (b := (!r)) hf rfl (fun hb => ?_) (fun hb => ?_)
   ·replace hF := condT hb hF
    clear hb
    refine wp_seq_k fun K8 h8 => cReg ?_
    refine stP hf rfl rfl rfl (pA rfl) fun a hf => stP hf rfl rfl rfl (pA rfl) fun a hf => cNil ?_
    refine h8 _ _ ?_
    refine wp_ret ?_
    refine xBlkR ?_
    refine xThenR ?_
    obtain rfl := sj hF
    replace hc := hc.drop k0
    exact fnOut2 (by simp) rfl Tryz.results26 hf hc (show look _ 4 = _ from rfl) (show look _ 5 = _ from rfl) ⟨rfl,hc⟩
   ·replace hF := condF hb hF
    clear hb
    refine wp_skip ?_
    refine h2 _ _ ?_
    refine wp_seq_k fun K9 h9 => cReg ?_
    refine stP hf rfl rfl rfl (pA rfl) fun a hf => cNil ?_
    refine h9 _ _ ?_
    refine wp_seq_k fun K10 h10 => wp_seq_k fun K11 h11 => cReg ?_
    refine stP hf rfl rfl rfl (pM rfl) fun a hf => stP hf rfl rfl rfl (pLenS Tryz.underlying25 rfl) fun a hf => stP hf rfl rfl rfl (pM rfl) fun a hf => cNil ?_
    refine h11 _ _ ?_
    refine wp_block ?_
    obtain ⟨x12,hx12,hF⟩ := bnd_some hF
    let S12 : (Int × Int) → Act → World → Prop := (fun (zz : Int × Int) a w => Has 60 a [(2,pq b_1),(6,i6 zz.1),(34,.slice l_p l.length l_c),(35,i6 ((l.length : Nat) : Int)),(36,i6 zz.2)] ∧ Ctx G (.box b_1 [i6 p_.Rate,i6 p_.Normal,i6 p_.Extra] 24::Lf) w)
    have hr12 : ∀ (zz : Int × Int) a w,x12 = .go zz → S12 zz a w → K10 a w := by
     rintro ⟨out,x⟩ a w rfl ⟨hf,hc⟩
     replace hF := exK_go hF
     refine h10 _ _ ?_
     refine wp_seq_k fun K13 h13 => cReg ?_
     refine stP hf rfl rfl rfl (pM rfl) fun a hf => stP hf rfl rfl rfl (pAdd rfl rfl) fun a hf => stP hf rfl rfl rfl (pQuo rfl rfl (by decide)) fun a hf => stP hf rfl rfl rfl (pA rfl) fun a hf => stP hf rfl rfl rfl (pA rfl) fun a hf => cNil ?_
     refine h13 _ _ ?_
     refine wp_ret ?_
     obtain rfl := sj hF
     replace hc := hc.drop k0
     exact fnOut2 (by simp) rfl Tryz.results26 hf hc (show look _ 4 = _ from rfl) (show look _ 5 = _ from rfl) ⟨rfl,hc⟩
    have ho12 : ∀ r,x12 = .out r → r = res := by
     rintro r rfl
     exact sj hF
    refine cLoop N (loopW (S := S12) (x := x12) ?_ N (0,0) _ _ ⟨hf.kp rfl,hc⟩ hx12)
    clear hF hf hc
    rintro ⟨out,x⟩ st12 a w KB12 ⟨hf,hc⟩ hF hfin12 hK12
    unfold crew_Paid_b12 at hF
    refine wp_seq_k fun K14 h14 => cReg ?_
    refine stP hf rfl rfl rfl (pLt rfl rfl) fun a hf => cNil ?_
    refine h14 _ _ ?_
    refine wp_seq_k fun K15 h15 => cCond (b := (decide (x < ((l.length : Nat) : Int)))) hf rfl (fun hb => ?_) (fun hb => ?_)
    ·replace hF := condT hb hF
     clear hb
     refine wp_skip ?_
     refine h15 _ _ ?_
     refine wp_seq_k fun K16 h16 => wp_block ?_
     refine wp_seq_k fun K17 h17 => cReg ?_
     obtain ⟨e_1,he_1,hF⟩ := bnd_some hF
     obtain ⟨b_2,o,qa,qp⟩ := h_l.atm he_1
     refine stP hf rfl rfl rfl (pIA Tryz.underlying25 sz_3 rfl rfl qa) fun a hf => stE hf hc rfl rfl rfl (eLd1 sc_3 rfl (cell_pc (j := 0) qp rfl)) fun a w hf hc => stP hf rfl rfl rfl (pA rfl) fun a hf => cNil ?_
     refine h17 _ _ ?_
     refine cReg ?_
     refine stP hf rfl rfl rfl (pM rfl) fun a hf => stP hf rfl rfl rfl (pFA fa_24_0 rfl) fun a hf => stE hf hc rfl rfl rfl (eLd1 sc_3 rfl (cell_box m0 rfl)) fun a w hf hc => stP hf rfl rfl rfl (pM rfl) fun a hf => stP hf rfl rfl rfl (pMul rfl rfl) fun a hf => stP hf rfl rfl rfl (pFA fa_24_2 rfl) fun a hf => stE hf hc rfl rfl rfl (eLd1 sc_3 rfl (cell_box m0 rfl)) fun a w hf hc => stP hf rfl rfl rfl (pM rfl) fun a hf => stP hf rfl rfl rfl (pFA fa_24_1 rfl) fun a hf => stE hf hc rfl rfl rfl (eLd1 sc_3 rfl (cell_box m0 rfl)) fun a w hf hc => stP hf rfl rfl rfl (pSub rfl rfl) fun a hf => stP hf rfl rfl rfl (pMax2 rfl rfl) fun a hf => stP hf rfl rfl rfl (pMul rfl rfl) fun a hf => ?_
     refine stP hf rfl rfl rfl (pAdd rfl rfl) fun a hf => stP hf rfl rfl rfl (pMul rfl rfl) fun a hf => stP hf rfl rfl rfl (pAdd rfl rfl) fun a hf => stP hf rfl rfl rfl (pA rfl) fun a hf => cNil ?_
     refine h16 _ _ ?_
     refine cReg ?_
     refine stP hf rfl rfl rfl (pAdd rfl rfl) fun a hf => stP hf rfl rfl rfl (pM rfl) fun a hf => cNil ?_
     exact hK12 (W (out + (W (p_.Rate * (W ((W (1000 * e_1)) + (W (p_.Extra * (max 0 (W (e_1 - p_.Normal)))))))))),W (x + 1)) _ _ (sj hF).symm ⟨hf.kp rfl,hc⟩
    ·replace hF := condF hb hF
     clear hb
     refine wp_exit ?_
     refine xThen ?_
     refine xThen ?_
     have he := sj hF
     rw [← he] at hfin12
     refine cHit ?_
     exact hr12 _ _ _ hfin12 ⟨hf.kp rfl,hc⟩

def law11_awake (N : Nat)  : Option (Bool) :=
 Option.bind (law11_Two N) fun r =>
 Option.bind (crew_Assign N r) fun r_1 =>
 Option.bind (law11_Two N) fun r_2 =>
 Option.bind (crew_Blocks N r_2 ([0,1] : List Int)) fun r_3 =>
 Option.bind (law11_Two N) fun r_4 =>
 Option.bind (crew_Holds N r_4 ([(⟨0,0⟩ : crew_Refusal)] : List crew_Refusal)) fun r_5 =>
 Option.bind (law11_Trip N 70) fun r_6 =>
 Option.bind (crew_Hours N 0 r_6) fun r_7 =>
 Option.bind (law11_Trip N 70) fun r_8 =>
 Option.bind (crew_Late N 0 r_8) fun r_9 =>
 Option.bind (cond (((((r_1.2 != 0) || (r_3.2 != 0)) || (r_5.2 != 0)) || (r_7.2 != 0)) || (r_9.2.2 != 0)) (some true) (Option.bind (kit_Same_int N r_1.1 ([1,0] : List Int)) fun r_10 =>
 some (!r_10))) fun t_1 =>
 Option.bind (cond ((t_1 || (!(r_3.1.Person == 1 && r_3.1.Station == 0))) || (!r_5.1)) (some true) (Option.bind (kit_Same_api_Span N r_7.1 ([(⟨35,40⟩ : api_Span),(⟨65,75⟩ : api_Span)] : List api_Span)) fun r_11 =>
 some (!r_11))) fun t_2 =>
 cond ((t_2 || (r_9.1 != 1)) || (r_9.2.1 != (-1)))
 (some false)
 (Option.bind (law11_Trip N 80) fun r_12 =>
 Option.bind (crew_Latest N r_12) fun r_13 =>
 Option.bind (law11_Wire N) fun r_14 =>
 Option.bind (crew_Load N r_14 5) fun r_15 =>
 Option.bind (law11_Wire N) fun r_16 =>
 Option.bind (crew_Beyond N r_16) fun r_17 =>
 Option.bind (law11_Wire N) fun r_18 =>
 Option.bind (law11_span N 90 90) fun r_19 =>
 Option.bind (room ((r_18.Rides ++ [(⟨5,5,r_19⟩ : crew_Ride)])).length) fun un =>
 Option.bind (crew_Queue N (⟨r_18.Car,r_18.Wide,r_18.Sag,r_18.Most,(r_18.Rides ++ [(⟨5,5,r_19⟩ : crew_Ride)])⟩ : crew_Cable)) fun r_20 =>
 Option.bind (crew_Paid N (⟨600,480,500⟩ : crew_Pay) ([481] : List Int)) fun r_21 =>
 Option.bind (cond ((((((r_13.2 == 0) && (r_15.2 == 0)) && (r_17.2.2 == 0)) && (r_20.2 == 0)) && (r_21.2 == 0)) && (r_13.1 == 5)) (law11_span N 290 320) (some (⟨0,0⟩ : api_Span))) fun r_22 =>
 Option.bind (cond (((((((((r_13.2 == 0) && (r_15.2 == 0)) && (r_17.2.2 == 0)) && (r_20.2 == 0)) && (r_21.2 == 0)) && (r_13.1 == 5)) && (r_15.1.Lo == r_22.Lo && r_15.1.Hi == r_22.Hi)) && (r_17.1 == 5)) && (r_17.2.1 == (-1))) (kit_Same_int N r_20.1 ([0,10,15] : List Int)) (some false)) fun r_23 =>
 some (((((((((((r_13.2 == 0) && (r_15.2 == 0)) && (r_17.2.2 == 0)) && (r_20.2 == 0)) && (r_21.2 == 0)) && (r_13.1 == 5)) && (r_15.1.Lo == r_22.Lo && r_15.1.Hi == r_22.Hi)) && (r_17.1 == 5)) && (r_17.2.1 == (-1))) && r_23) && (r_21.1 == 4815)))
theorem law11_awake_ok {N : Nat} {G : Pers} {Lf : List Ent} {w : World}    (hc : Ctx G (Lf) w) {res : Bool} (hF : law11_awake N = some res) : Calls Tryz.prog 15 #[] w (fun e w => e = .returned (.bool res) ∧ Ctx G (Lf) w) := by
 unfold law11_awake at hF
 refine fnIn (args := []) Tryz.func15 rfl Tryz.ntmps15 rfl fun a hf => wp_seq_k fun K1 h1 => cReg ?_
 refine stP hf rfl rfl rfl (pA rfl) fun a hf => cNil ?_
 refine h1 _ _ ?_
 refine wp_seq_k fun K2 h2 => cReg ?_
 obtain ⟨r,hr,hF⟩ := bnd_some hF
 refine stC (vs := []) (caps := []) hf rfl rfl rfl en_67 rfl rfl rfl rfl (law11_Two_ok hc hr) ?_
 rintro _ w ⟨p_1,tcq,p_2,tcq_1,rfl,hc⟩
 refine ⟨_,rfl,fun a hf => ?_⟩
 obtain ⟨r_1,hr_1,hF⟩ := bnd_some hF
 obtain ⟨G1,hle1,hrd1,hc,hth1⟩ := lendT kdo_25 hc k0 k0
 obtain ⟨G2,hle2,hrd2,hc,hth2⟩ := lendT kdo_101 hc k0 k0
 refine stC (vs := [.agg #[.slice p_1 r.People.length tcq.1,.slice p_2 r.Stations.length tcq_1.1]]) (caps := []) hf rfl rfl rfl en_43 rfl rfl rfl rfl (crew_Assign_ok r (hrd1.mono hle2) hrd2 hc hr_1) ?_
 rintro _ w ⟨p_3,c_1,rfl,hc⟩
 refine ⟨_,rfl,fun a hf => ?_⟩
 replace hc := hth2 _ _ hc
 replace hc := hth1 _ _ hc
 refine stP hf rfl rfl rfl (pM rfl) fun a hf => stP hf rfl rfl rfl (pX rfl rfl) fun a hf => stP hf rfl rfl rfl (pX rfl rfl) fun a hf => stP hf rfl rfl rfl (pA rfl) fun a hf => stP hf rfl rfl rfl (pA rfl) fun a hf => cNil ?_
 refine h2 _ _ ?_
 refine wp_seq_k fun K3 h3 => cReg ?_
 obtain ⟨r_2,hr_2,hF⟩ := bnd_some hF
 refine stC (vs := []) (caps := []) hf rfl rfl rfl en_67 rfl rfl rfl rfl (law11_Two_ok hc hr_2) ?_
 rintro _ w ⟨p_4,tcq_2,p_5,tcq_3,rfl,hc⟩
 refine ⟨_,rfl,fun a hf => ?_⟩
 refine stBS (rows := ([0,1] : List Int).map encI_i64) (vs := [(0,i6 0),(1,i6 1)]) hf hc rfl rfl sl_25 rfl ⟨rfl,rfl,rfl,rfl,rfl,rfl,trivial⟩ rfl rfl fun b_1 a w hf hc => ?_
 obtain ⟨r_3,hr_3,hF⟩ := bnd_some hF
 refine stE hf hc rfl rfl rfl (eC (v := .tuple #[.agg #[i6 r_3.1.Person,i6 r_3.1.Station],i6 r_3.2]) (vs := [.agg #[.slice p_4 r_2.People.length tcq_2.1,.slice p_5 r_2.Stations.length tcq_3.1],.slice (some ⟨b_1,0,none⟩) 2 2]) (caps := []) en_46 rfl rfl rfl rfl (fun w hc => by obtain ⟨G1,hle1,hrd1,hc,hth1⟩ := lendT kdo_25 hc k1 k1; obtain ⟨G2,hle2,hrd2,hc,hth2⟩ := lendT kdo_101 hc k1 k1; obtain ⟨G3,hle3,hrd3,hc,hth3⟩ := lend hc k0; exact (crew_Blocks_ok r_2 ([0,1] : List Int) ((hrd1.mono hle2).mono hle3) (hrd2.mono hle3) hrd3 hc hr_3).mono fun e w h => ⟨h.1,(unpickT (hth1 _ _ (unpickT (hth2 _ _ ((hth3 _ _ h.2).unpick k0)) k1 k1)) k1 k1)⟩)) fun a w hf hc => stP hf rfl rfl rfl (pM rfl) fun a hf => stP hf rfl rfl rfl (pX rfl rfl) fun a hf => stP hf rfl rfl rfl (pX rfl rfl) fun a hf => stAl (cs := [i6 0,i6 0]) hf hc rfl rfl zr_86 rfl fun b_2 a w hf hc => stSt (vs := [i6 r_3.1.Person,i6 r_3.1.Station]) hf hc rfl rfl rfl rfl sz_86 rfl rfl u0 fun w hc => stP hf rfl rfl rfl (pA rfl) fun a hf => cNil ?_
 replace hc := hc.drop k9
 replace hc := hc.drop k8
 replace hc := hc.drop k7
 replace hc := hc.drop k6
 replace hc := hc.drop k5
 replace hc := hc.drop k4
 replace hc := hc.drop k3
 replace hc := hc.drop k2
 replace hc := hc.drop k1
 refine h3 _ _ ?_
 refine wp_seq_k fun K4 h4 => cReg ?_
 obtain ⟨r_4,hr_4,hF⟩ := bnd_some hF
 refine stC (vs := []) (caps := []) hf rfl rfl rfl en_67 rfl rfl rfl rfl (law11_Two_ok hc hr_4) ?_
 rintro _ w ⟨p_6,tcq_4,p_7,tcq_5,rfl,hc⟩
 refine ⟨_,rfl,fun a hf => ?_⟩
 refine stP hf rfl rfl rfl (pBuildS (cells := [i6 0,i6 0]) bt_86 rfl rfl) fun a hf => stBS (rows := ([(⟨0,0⟩ : crew_Refusal)] : List crew_Refusal).map enc_crew_Refusal) (vs := [(0,.agg #[i6 0,i6 0])]) hf hc rfl rfl sl_99 rfl ⟨rfl,rfl,rfl,trivial⟩ rfl rfl fun b_3 a w hf hc => ?_
 obtain ⟨r_5,hr_5,hF⟩ := bnd_some hF
 refine stE hf hc rfl rfl rfl (eC (v := .tuple #[.bool r_5.1,i6 r_5.2]) (vs := [.agg #[.slice p_6 r_4.People.length tcq_4.1,.slice p_7 r_4.Stations.length tcq_5.1],.slice (some ⟨b_3,0,none⟩) 1 1]) (caps := []) en_59 rfl rfl rfl rfl (fun w hc => by obtain ⟨G1,hle1,hrd1,hc,hth1⟩ := lendT kdo_25 hc k1 k1; obtain ⟨G2,hle2,hrd2,hc,hth2⟩ := lendT kdo_101 hc k1 k1; obtain ⟨G3,hle3,hrd3,hc,hth3⟩ := lend hc k0; exact (crew_Holds_ok r_4 ([(⟨0,0⟩ : crew_Refusal)] : List crew_Refusal) ((hrd1.mono hle2).mono hle3) (hrd2.mono hle3) hrd3 hc hr_5).mono fun e w h => ⟨h.1,(unpickT (hth1 _ _ (unpickT (hth2 _ _ ((hth3 _ _ h.2).unpick k0)) k1 k1)) k1 k1)⟩)) fun a w hf hc => stP hf rfl rfl rfl (pM rfl) fun a hf => stP hf rfl rfl rfl (pX rfl rfl) fun a hf => stP hf rfl rfl rfl (pX rfl rfl) fun a hf => stP hf rfl rfl rfl (pA rfl) fun a hf => stP hf rfl rfl rfl (pA rfl) fun a hf => cNil ?_
 refine h4 _ _ ?_
 refine wp_seq_k fun K5 h5 => cReg ?_
 obtain ⟨r_6,hr_6,hF⟩ := bnd_some hF
 refine stC (vs := [i6 70]) (caps := []) hf rfl rfl rfl en_68 rfl rfl rfl rfl (law11_Trip_ok 70 hc hr_6) ?_
 rintro _ w ⟨p_8,c_2,rfl,hc⟩
 refine ⟨_,rfl,fun a hf => ?_⟩
 obtain ⟨r_7,hr_7,hF⟩ := bnd_some hF
 obtain ⟨G1,hle1,hrd1,hc,hth1⟩ := lend hc k0
 refine stC (vs := [i6 0,.slice p_8 r_6.length c_2]) (caps := []) hf rfl rfl rfl en_18 rfl rfl rfl rfl (crew_Hours_ok 0 r_6 hrd1 hc hr_7) ?_
 rintro _ w ⟨p_9,c_3,rfl,hc⟩
 refine ⟨_,rfl,fun a hf => ?_⟩
 replace hc := hth1 _ _ hc
 refine stP hf rfl rfl rfl (pM rfl) fun a hf => stP hf rfl rfl rfl (pX rfl rfl) fun a hf => stP hf rfl rfl rfl (pX rfl rfl) fun a hf => stP hf rfl rfl rfl (pA rfl) fun a hf => stP hf rfl rfl rfl (pA rfl) fun a hf => cNil ?_
 replace hc := hc.drop k6
 replace hc := hc.drop k5
 replace hc := hc.drop k4
 replace hc := hc.drop k3
 replace hc := hc.drop k2
 replace hc := hc.drop k0
 refine h5 _ _ ?_
 refine wp_seq_k fun K6 h6 => cReg ?_
 obtain ⟨r_8,hr_8,hF⟩ := bnd_some hF
 refine stC (vs := [i6 70]) (caps := []) hf rfl rfl rfl en_68 rfl rfl rfl rfl (law11_Trip_ok 70 hc hr_8) ?_
 rintro _ w ⟨p_10,c_4,rfl,hc⟩
 refine ⟨_,rfl,fun a hf => ?_⟩
 obtain ⟨r_9,hr_9,hF⟩ := bnd_some hF
 refine stE hf hc rfl rfl rfl (eC (v := .tuple #[i6 r_9.1,i6 r_9.2.1,i6 r_9.2.2]) (vs := [i6 0,.slice p_10 r_8.length c_4]) (caps := []) en_22 rfl rfl rfl rfl (fun w hc => by obtain ⟨G1,hle1,hrd1,hc,hth1⟩ := lend hc k0; exact (crew_Late_ok 0 r_8 hrd1 hc hr_9).mono fun e w h => ⟨h.1,((hth1 _ _ h.2).unpick k0)⟩)) fun a w hf hc => stP hf rfl rfl rfl (pM rfl) fun a hf => stP hf rfl rfl rfl (pX rfl rfl) fun a hf => stP hf rfl rfl rfl (pX rfl rfl) fun a hf => stP hf rfl rfl rfl (pX rfl rfl) fun a hf => stP hf rfl rfl rfl (pA rfl) fun a hf => stP hf rfl rfl rfl (pA rfl) fun a hf => stP hf rfl rfl rfl (pA rfl) fun a hf => cNil ?_
 refine h6 _ _ ?_
 refine wp_seq_k fun K7 h7 => wp_seq_k fun K8 h8 => cReg ?_
 refine stP hf rfl rfl rfl (pM rfl) fun a hf => stP hf rfl rfl rfl (pNe rfl rfl) fun a hf => stP hf rfl rfl rfl (pM rfl) fun a hf => stCut 3 (fun a w => Has 174 a [(1,.slice p_3 r_1.1.length c_1),(2,i6 r_1.2),(3,pq b_2),(4,i6 r_3.2),(5,.bool r_5.1),(6,i6 r_5.2),(7,.slice p_9 r_7.1.length c_3),(8,i6 r_7.2),(9,i6 r_9.1),(10,i6 r_9.2.1),(11,i6 r_9.2.2),(46,i6 r_1.2),(47,.bool (r_1.2 != 0)),(48,.bool (r_1.2 != 0)),(51,.bool ((r_1.2 != 0) || (r_3.2 != 0)))] ∧ Ctx G (.row p_10 c_4 (r_8.map enc_crew_Visit) 31 6::.row p_9 c_3 (r_7.1.map enc_api_Span) 29 2::.box b_2 [i6 r_3.1.Person,i6 r_3.1.Station] 86::.row p_3 c_1 (r_1.1.map encI_i64) 3 1::Lf) w) ?_ ?_
 ·cases hb : (r_1.2 != 0)
  ·rw [hb] at hf
   refine stP hf rfl rfl rfl (pM rfl) fun a hf => stP hf rfl rfl rfl (pNe rfl rfl) fun a hf => stP hf rfl rfl rfl (pPf rfl rfl) fun a hf => cNil ⟨hf.kp rfl,hc⟩
  ·rw [hb] at hf
   refine stS hf rfl rfl rfl fun a hf => stS hf rfl rfl rfl fun a hf => stP hf rfl rfl rfl (pPt rfl rfl) fun a hf => cNil ⟨hf.kp rfl,hc⟩
 intro a w ⟨hf,hc⟩
 refine stP hf rfl rfl rfl (pM rfl) fun a hf => stCut 3 (fun a w => Has 174 a [(1,.slice p_3 r_1.1.length c_1),(2,i6 r_1.2),(3,pq b_2),(4,i6 r_3.2),(5,.bool r_5.1),(6,i6 r_5.2),(7,.slice p_9 r_7.1.length c_3),(8,i6 r_7.2),(9,i6 r_9.1),(10,i6 r_9.2.1),(11,i6 r_9.2.2),(46,i6 r_1.2),(47,.bool (r_1.2 != 0)),(48,.bool (r_1.2 != 0)),(51,.bool ((r_1.2 != 0) || (r_3.2 != 0))),(52,.bool ((r_1.2 != 0) || (r_3.2 != 0))),(55,.bool (((r_1.2 != 0) || (r_3.2 != 0)) || (r_5.2 != 0)))] ∧ Ctx G (.row p_10 c_4 (r_8.map enc_crew_Visit) 31 6::.row p_9 c_3 (r_7.1.map enc_api_Span) 29 2::.box b_2 [i6 r_3.1.Person,i6 r_3.1.Station] 86::.row p_3 c_1 (r_1.1.map encI_i64) 3 1::Lf) w) ?_ ?_
 ·cases hb : ((r_1.2 != 0) || (r_3.2 != 0))
  ·rw [hb] at hf
   refine stP hf rfl rfl rfl (pM rfl) fun a hf => stP hf rfl rfl rfl (pNe rfl rfl) fun a hf => stP hf rfl rfl rfl (pPf rfl rfl) fun a hf => cNil ⟨hf.kp rfl,hc⟩
  ·rw [hb] at hf
   refine stS hf rfl rfl rfl fun a hf => stS hf rfl rfl rfl fun a hf => stP hf rfl rfl rfl (pPt rfl rfl) fun a hf => cNil ⟨hf.kp rfl,hc⟩
 intro a w ⟨hf,hc⟩
 refine stP hf rfl rfl rfl (pM rfl) fun a hf => stCut 3 (fun a w => Has 174 a [(1,.slice p_3 r_1.1.length c_1),(2,i6 r_1.2),(3,pq b_2),(4,i6 r_3.2),(5,.bool r_5.1),(6,i6 r_5.2),(7,.slice p_9 r_7.1.length c_3),(8,i6 r_7.2),(9,i6 r_9.1),(10,i6 r_9.2.1),(11,i6 r_9.2.2),(46,i6 r_1.2),(47,.bool (r_1.2 != 0)),(48,.bool (r_1.2 != 0)),(51,.bool ((r_1.2 != 0) || (r_3.2 != 0))),(52,.bool ((r_1.2 != 0) || (r_3.2 != 0))),(55,.bool (((r_1.2 != 0) || (r_3.2 != 0)) || (r_5.2 != 0))),(56,.bool (((r_1.2 != 0) || (r_3.2 != 0)) || (r_5.2 != 0))),(59,.bool ((((r_1.2 != 0) || (r_3.2 != 0)) || (r_5.2 != 0)) || (r_7.2 != 0)))] ∧ Ctx G (.row p_10 c_4 (r_8.map enc_crew_Visit) 31 6::.row p_9 c_3 (r_7.1.map enc_api_Span) 29 2::.box b_2 [i6 r_3.1.Person,i6 r_3.1.Station] 86::.row p_3 c_1 (r_1.1.map encI_i64) 3 1::Lf) w) ?_ ?_
 ·cases hb : (((r_1.2 != 0) || (r_3.2 != 0)) || (r_5.2 != 0))
  ·rw [hb] at hf
   refine stP hf rfl rfl rfl (pM rfl) fun a hf => stP hf rfl rfl rfl (pNe rfl rfl) fun a hf => stP hf rfl rfl rfl (pPf rfl rfl) fun a hf => cNil ⟨hf.kp rfl,hc⟩
  ·rw [hb] at hf
   refine stS hf rfl rfl rfl fun a hf => stS hf rfl rfl rfl fun a hf => stP hf rfl rfl rfl (pPt rfl rfl) fun a hf => cNil ⟨hf.kp rfl,hc⟩
 intro a w ⟨hf,hc⟩
 refine stP hf rfl rfl rfl (pM rfl) fun a hf => stCut 3 (fun a w => Has 174 a [(1,.slice p_3 r_1.1.length c_1),(2,i6 r_1.2),(3,pq b_2),(4,i6 r_3.2),(5,.bool r_5.1),(6,i6 r_5.2),(7,.slice p_9 r_7.1.length c_3),(8,i6 r_7.2),(9,i6 r_9.1),(10,i6 r_9.2.1),(11,i6 r_9.2.2),(46,i6 r_1.2),(47,.bool (r_1.2 != 0)),(48,.bool (r_1.2 != 0)),(51,.bool ((r_1.2 != 0) || (r_3.2 != 0))),(52,.bool ((r_1.2 != 0) || (r_3.2 != 0))),(55,.bool (((r_1.2 != 0) || (r_3.2 != 0)) || (r_5.2 != 0))),(56,.bool (((r_1.2 != 0) || (r_3.2 != 0)) || (r_5.2 != 0))),(59,.bool ((((r_1.2 != 0) || (r_3.2 != 0)) || (r_5.2 != 0)) || (r_7.2 != 0))),(60,.bool ((((r_1.2 != 0) || (r_3.2 != 0)) || (r_5.2 != 0)) || (r_7.2 != 0))),(63,.bool (((((r_1.2 != 0) || (r_3.2 != 0)) || (r_5.2 != 0)) || (r_7.2 != 0)) || (r_9.2.2 != 0)))] ∧ Ctx G (.row p_10 c_4 (r_8.map enc_crew_Visit) 31 6::.row p_9 c_3 (r_7.1.map enc_api_Span) 29 2::.box b_2 [i6 r_3.1.Person,i6 r_3.1.Station] 86::.row p_3 c_1 (r_1.1.map encI_i64) 3 1::Lf) w) ?_ ?_
 ·cases hb : ((((r_1.2 != 0) || (r_3.2 != 0)) || (r_5.2 != 0)) || (r_7.2 != 0))
  ·rw [hb] at hf
   refine stP hf rfl rfl rfl (pM rfl) fun a hf => stP hf rfl rfl rfl (pNe rfl rfl) fun a hf => stP hf rfl rfl rfl (pPf rfl rfl) fun a hf => cNil ⟨hf.kp rfl,hc⟩
  ·rw [hb] at hf
   refine stS hf rfl rfl rfl fun a hf => stS hf rfl rfl rfl fun a hf => stP hf rfl rfl rfl (pPt rfl rfl) fun a hf => cNil ⟨hf.kp rfl,hc⟩
 intro a w ⟨hf,hc⟩
 refine stP hf rfl rfl rfl (pM rfl) fun a hf => ?_
 obtain ⟨t_1,ht_1,hF⟩ := bnd_some hF
 refine stCut 5 (fun a w => Has 174 a [(1,.slice p_3 r_1.1.length c_1),(2,i6 r_1.2),(3,pq b_2),(4,i6 r_3.2),(5,.bool r_5.1),(6,i6 r_5.2),(7,.slice p_9 r_7.1.length c_3),(8,i6 r_7.2),(9,i6 r_9.1),(10,i6 r_9.2.1),(11,i6 r_9.2.2),(46,i6 r_1.2),(47,.bool (r_1.2 != 0)),(48,.bool (r_1.2 != 0)),(51,.bool ((r_1.2 != 0) || (r_3.2 != 0))),(52,.bool ((r_1.2 != 0) || (r_3.2 != 0))),(55,.bool (((r_1.2 != 0) || (r_3.2 != 0)) || (r_5.2 != 0))),(56,.bool (((r_1.2 != 0) || (r_3.2 != 0)) || (r_5.2 != 0))),(59,.bool ((((r_1.2 != 0) || (r_3.2 != 0)) || (r_5.2 != 0)) || (r_7.2 != 0))),(60,.bool ((((r_1.2 != 0) || (r_3.2 != 0)) || (r_5.2 != 0)) || (r_7.2 != 0))),(63,.bool (((((r_1.2 != 0) || (r_3.2 != 0)) || (r_5.2 != 0)) || (r_7.2 != 0)) || (r_9.2.2 != 0))),(64,.bool (((((r_1.2 != 0) || (r_3.2 != 0)) || (r_5.2 != 0)) || (r_7.2 != 0)) || (r_9.2.2 != 0))),(69,.bool t_1)] ∧ Ctx G (.row p_10 c_4 (r_8.map enc_crew_Visit) 31 6::.row p_9 c_3 (r_7.1.map enc_api_Span) 29 2::.box b_2 [i6 r_3.1.Person,i6 r_3.1.Station] 86::.row p_3 c_1 (r_1.1.map encI_i64) 3 1::Lf) w) ?_ ?_
 ·cases hb : (((((r_1.2 != 0) || (r_3.2 != 0)) || (r_5.2 != 0)) || (r_7.2 != 0)) || (r_9.2.2 != 0))
  ·rw [hb] at hf
   have hF := condF hb ht_1
   refine stP hf rfl rfl rfl (pM rfl) fun a hf => stBS (rows := ([1,0] : List Int).map encI_i64) (vs := [(0,i6 1),(1,i6 0)]) hf hc rfl rfl sl_25 rfl ⟨rfl,rfl,rfl,rfl,rfl,rfl,trivial⟩ rfl rfl fun b_4 a w hf hc => ?_
   obtain ⟨r_10,hr_10,hF⟩ := bnd_some hF
   refine stE hf hc rfl rfl rfl (eC (v := .bool r_10) (vs := [.slice p_3 r_1.1.length c_1,.slice (some ⟨b_4,0,none⟩) 2 2]) (caps := []) en_29 rfl rfl rfl rfl (fun w hc => by obtain ⟨G1,hle1,hrd1,hc,hth1⟩ := lend hc k4; obtain ⟨G2,hle2,hrd2,hc,hth2⟩ := lend hc k0; exact (kit_Same_int_ok r_1.1 ([1,0] : List Int) (hrd1.mono hle2) hrd2 hc hr_10).mono fun e w h => ⟨h.1,((hth1 _ _ ((hth2 _ _ h.2).unpick k0)).unpick k4)⟩)) fun a w hf hc => stP hf rfl rfl rfl (pNot rfl) fun a hf => stP hf rfl rfl rfl (pPf rfl rfl) fun a hf => ?_
   replace hc := hc.drop k0
   obtain rfl := sj hF
   exact cNil ⟨hf.kp rfl,hc⟩
  ·rw [hb] at hf
   have hF := condT hb ht_1
   obtain rfl := sj hF
   refine stS hf rfl rfl rfl fun a hf => stS hf rfl rfl rfl fun a hf => stS hf rfl rfl rfl fun a hf => stS hf rfl rfl rfl fun a hf => stP hf rfl rfl rfl (pPt rfl rfl) fun a hf => cNil ⟨hf.kp rfl,hc⟩
 intro a w ⟨hf,hc⟩
 refine stP hf rfl rfl rfl (pM rfl) fun a hf => stCut 4 (fun a w => Has 174 a [(1,.slice p_3 r_1.1.length c_1),(2,i6 r_1.2),(3,pq b_2),(4,i6 r_3.2),(5,.bool r_5.1),(6,i6 r_5.2),(7,.slice p_9 r_7.1.length c_3),(8,i6 r_7.2),(9,i6 r_9.1),(10,i6 r_9.2.1),(11,i6 r_9.2.2),(46,i6 r_1.2),(47,.bool (r_1.2 != 0)),(48,.bool (r_1.2 != 0)),(51,.bool ((r_1.2 != 0) || (r_3.2 != 0))),(52,.bool ((r_1.2 != 0) || (r_3.2 != 0))),(55,.bool (((r_1.2 != 0) || (r_3.2 != 0)) || (r_5.2 != 0))),(56,.bool (((r_1.2 != 0) || (r_3.2 != 0)) || (r_5.2 != 0))),(59,.bool ((((r_1.2 != 0) || (r_3.2 != 0)) || (r_5.2 != 0)) || (r_7.2 != 0))),(60,.bool ((((r_1.2 != 0) || (r_3.2 != 0)) || (r_5.2 != 0)) || (r_7.2 != 0))),(63,.bool (((((r_1.2 != 0) || (r_3.2 != 0)) || (r_5.2 != 0)) || (r_7.2 != 0)) || (r_9.2.2 != 0))),(64,.bool (((((r_1.2 != 0) || (r_3.2 != 0)) || (r_5.2 != 0)) || (r_7.2 != 0)) || (r_9.2.2 != 0))),(69,.bool t_1),(70,.bool t_1),(74,.bool (t_1 || (!(r_3.1.Person == 1 && r_3.1.Station == 0))))] ∧ Ctx G (.row p_10 c_4 (r_8.map enc_crew_Visit) 31 6::.row p_9 c_3 (r_7.1.map enc_api_Span) 29 2::.box b_2 [i6 r_3.1.Person,i6 r_3.1.Station] 86::.row p_3 c_1 (r_1.1.map encI_i64) 3 1::Lf) w) ?_ ?_
 ·cases hb : t_1
  ·rw [hb] at hf
   try rw [hb] at hc
   refine stE hf hc rfl rfl rfl (eLdN (vs := [i6 r_3.1.Person,i6 r_3.1.Station]) ag_86 rfl rfl (cells_box (n := 2) m2 rfl)) fun a w hf hc => stP hf rfl rfl rfl (pBuildS (cells := [i6 1,i6 0]) bt_86 rfl rfl) fun a hf => stP hf rfl rfl rfl (pNeA ge_86 rfl rfl (eqs_86 _ _ _ _)) fun a hf => stP hf rfl rfl rfl (pPf rfl rfl) fun a hf => cNil ⟨hf.kp rfl,hc⟩
  ·rw [hb] at hf
   try rw [hb] at hc
   refine stS hf rfl rfl rfl fun a hf => stS hf rfl rfl rfl fun a hf => stS hf rfl rfl rfl fun a hf => stP hf rfl rfl rfl (pPt rfl rfl) fun a hf => cNil ⟨hf.kp rfl,hc⟩
 intro a w ⟨hf,hc⟩
 refine stP hf rfl rfl rfl (pM rfl) fun a hf => stCut 3 (fun a w => Has 174 a [(1,.slice p_3 r_1.1.length c_1),(2,i6 r_1.2),(3,pq b_2),(4,i6 r_3.2),(5,.bool r_5.1),(6,i6 r_5.2),(7,.slice p_9 r_7.1.length c_3),(8,i6 r_7.2),(9,i6 r_9.1),(10,i6 r_9.2.1),(11,i6 r_9.2.2),(46,i6 r_1.2),(47,.bool (r_1.2 != 0)),(48,.bool (r_1.2 != 0)),(51,.bool ((r_1.2 != 0) || (r_3.2 != 0))),(52,.bool ((r_1.2 != 0) || (r_3.2 != 0))),(55,.bool (((r_1.2 != 0) || (r_3.2 != 0)) || (r_5.2 != 0))),(56,.bool (((r_1.2 != 0) || (r_3.2 != 0)) || (r_5.2 != 0))),(59,.bool ((((r_1.2 != 0) || (r_3.2 != 0)) || (r_5.2 != 0)) || (r_7.2 != 0))),(60,.bool ((((r_1.2 != 0) || (r_3.2 != 0)) || (r_5.2 != 0)) || (r_7.2 != 0))),(63,.bool (((((r_1.2 != 0) || (r_3.2 != 0)) || (r_5.2 != 0)) || (r_7.2 != 0)) || (r_9.2.2 != 0))),(64,.bool (((((r_1.2 != 0) || (r_3.2 != 0)) || (r_5.2 != 0)) || (r_7.2 != 0)) || (r_9.2.2 != 0))),(69,.bool t_1),(70,.bool t_1),(74,.bool (t_1 || (!(r_3.1.Person == 1 && r_3.1.Station == 0)))),(75,.bool (t_1 || (!(r_3.1.Person == 1 && r_3.1.Station == 0)))),(78,.bool ((t_1 || (!(r_3.1.Person == 1 && r_3.1.Station == 0))) || (!r_5.1)))] ∧ Ctx G (.row p_10 c_4 (r_8.map enc_crew_Visit) 31 6::.row p_9 c_3 (r_7.1.map enc_api_Span) 29 2::.box b_2 [i6 r_3.1.Person,i6 r_3.1.Station] 86::.row p_3 c_1 (r_1.1.map encI_i64) 3 1::Lf) w) ?_ ?_
 ·cases hb : (t_1 || (!(r_3.1.Person == 1 && r_3.1.Station == 0)))
  ·rw [hb] at hf
   refine stP hf rfl rfl rfl (pM rfl) fun a hf => stP hf rfl rfl rfl (pNot rfl) fun a hf => stP hf rfl rfl rfl (pPf rfl rfl) fun a hf => cNil ⟨hf.kp rfl,hc⟩
  ·rw [hb] at hf
   refine stS hf rfl rfl rfl fun a hf => stS hf rfl rfl rfl fun a hf => stP hf rfl rfl rfl (pPt rfl rfl) fun a hf => cNil ⟨hf.kp rfl,hc⟩
 intro a w ⟨hf,hc⟩
 refine stP hf rfl rfl rfl (pM rfl) fun a hf => ?_
 obtain ⟨t_2,ht_2,hF⟩ := bnd_some hF
 refine stCut 7 (fun a w => Has 174 a [(1,.slice p_3 r_1.1.length c_1),(2,i6 r_1.2),(3,pq b_2),(4,i6 r_3.2),(5,.bool r_5.1),(6,i6 r_5.2),(7,.slice p_9 r_7.1.length c_3),(8,i6 r_7.2),(9,i6 r_9.1),(10,i6 r_9.2.1),(11,i6 r_9.2.2),(46,i6 r_1.2),(47,.bool (r_1.2 != 0)),(48,.bool (r_1.2 != 0)),(51,.bool ((r_1.2 != 0) || (r_3.2 != 0))),(52,.bool ((r_1.2 != 0) || (r_3.2 != 0))),(55,.bool (((r_1.2 != 0) || (r_3.2 != 0)) || (r_5.2 != 0))),(56,.bool (((r_1.2 != 0) || (r_3.2 != 0)) || (r_5.2 != 0))),(59,.bool ((((r_1.2 != 0) || (r_3.2 != 0)) || (r_5.2 != 0)) || (r_7.2 != 0))),(60,.bool ((((r_1.2 != 0) || (r_3.2 != 0)) || (r_5.2 != 0)) || (r_7.2 != 0))),(63,.bool (((((r_1.2 != 0) || (r_3.2 != 0)) || (r_5.2 != 0)) || (r_7.2 != 0)) || (r_9.2.2 != 0))),(64,.bool (((((r_1.2 != 0) || (r_3.2 != 0)) || (r_5.2 != 0)) || (r_7.2 != 0)) || (r_9.2.2 != 0))),(69,.bool t_1),(70,.bool t_1),(74,.bool (t_1 || (!(r_3.1.Person == 1 && r_3.1.Station == 0)))),(75,.bool (t_1 || (!(r_3.1.Person == 1 && r_3.1.Station == 0)))),(78,.bool ((t_1 || (!(r_3.1.Person == 1 && r_3.1.Station == 0))) || (!r_5.1))),(79,.bool ((t_1 || (!(r_3.1.Person == 1 && r_3.1.Station == 0))) || (!r_5.1))),(86,.bool t_2)] ∧ Ctx G (.row p_10 c_4 (r_8.map enc_crew_Visit) 31 6::.row p_9 c_3 (r_7.1.map enc_api_Span) 29 2::.box b_2 [i6 r_3.1.Person,i6 r_3.1.Station] 86::.row p_3 c_1 (r_1.1.map encI_i64) 3 1::Lf) w) ?_ ?_
 ·cases hb : ((t_1 || (!(r_3.1.Person == 1 && r_3.1.Station == 0))) || (!r_5.1))
  ·rw [hb] at hf
   have hF := condF hb ht_2
   refine stP hf rfl rfl rfl (pM rfl) fun a hf => stP hf rfl rfl rfl (pBuildS (cells := [i6 35,i6 40]) bt_29 rfl rfl) fun a hf => stP hf rfl rfl rfl (pBuildS (cells := [i6 65,i6 75]) bt_29 rfl rfl) fun a hf => stBS (rows := ([(⟨35,40⟩ : api_Span),(⟨65,75⟩ : api_Span)] : List api_Span).map enc_api_Span) (vs := [(0,.agg #[i6 35,i6 40]),(1,.agg #[i6 65,i6 75])]) hf hc rfl rfl sl_33 rfl ⟨rfl,rfl,rfl,rfl,rfl,rfl,trivial⟩ rfl rfl fun b_5 a w hf hc => ?_
   obtain ⟨r_11,hr_11,hF⟩ := bnd_some hF
   refine stE hf hc rfl rfl rfl (eC (v := .bool r_11) (vs := [.slice p_9 r_7.1.length c_3,.slice (some ⟨b_5,0,none⟩) 2 2]) (caps := []) en_21 rfl rfl rfl rfl (fun w hc => by obtain ⟨G1,hle1,hrd1,hc,hth1⟩ := lend hc k2; obtain ⟨G2,hle2,hrd2,hc,hth2⟩ := lend hc k0; exact (kit_Same_api_Span_ok r_7.1 ([(⟨35,40⟩ : api_Span),(⟨65,75⟩ : api_Span)] : List api_Span) (hrd1.mono hle2) hrd2 hc hr_11).mono fun e w h => ⟨h.1,((hth1 _ _ ((hth2 _ _ h.2).unpick k0)).unpick k2)⟩)) fun a w hf hc => stP hf rfl rfl rfl (pNot rfl) fun a hf => stP hf rfl rfl rfl (pPf rfl rfl) fun a hf => ?_
   replace hc := hc.drop k0
   obtain rfl := sj hF
   exact cNil ⟨hf.kp rfl,hc⟩
  ·rw [hb] at hf
   have hF := condT hb ht_2
   obtain rfl := sj hF
   refine stS hf rfl rfl rfl fun a hf => stS hf rfl rfl rfl fun a hf => stS hf rfl rfl rfl fun a hf => stS hf rfl rfl rfl fun a hf => stS hf rfl rfl rfl fun a hf => stS hf rfl rfl rfl fun a hf => stP hf rfl rfl rfl (pPt rfl rfl) fun a hf => cNil ⟨hf.kp rfl,hc⟩
 intro a w ⟨hf,hc⟩
 refine stP hf rfl rfl rfl (pM rfl) fun a hf => stCut 3 (fun a w => Has 174 a ((1,.slice p_3 r_1.1.length c_1)::(2,i6 r_1.2)::(3,pq b_2)::(4,i6 r_3.2)::(5,.bool r_5.1)::(6,i6 r_5.2)::(7,.slice p_9 r_7.1.length c_3)::(8,i6 r_7.2)::(9,i6 r_9.1)::(10,i6 r_9.2.1)::(11,i6 r_9.2.2)::(46,i6 r_1.2)::(47,.bool (r_1.2 != 0))::(48,.bool (r_1.2 != 0))::(51,.bool ((r_1.2 != 0) || (r_3.2 != 0)))::(52,.bool ((r_1.2 != 0) || (r_3.2 != 0)))::(55,.bool (((r_1.2 != 0) || (r_3.2 != 0)) || (r_5.2 != 0)))::(56,.bool (((r_1.2 != 0) || (r_3.2 != 0)) || (r_5.2 != 0)))::(59,.bool ((((r_1.2 != 0) || (r_3.2 != 0)) || (r_5.2 != 0)) || (r_7.2 != 0)))::(60,.bool ((((r_1.2 != 0) || (r_3.2 != 0)) || (r_5.2 != 0)) || (r_7.2 != 0)))::(63,.bool (((((r_1.2 != 0) || (r_3.2 != 0)) || (r_5.2 != 0)) || (r_7.2 != 0)) || (r_9.2.2 != 0)))::(64,.bool (((((r_1.2 != 0) || (r_3.2 != 0)) || (r_5.2 != 0)) || (r_7.2 != 0)) || (r_9.2.2 != 0)))::(69,.bool t_1)::(70,.bool t_1)::(74,.bool (t_1 || (!(r_3.1.Person == 1 && r_3.1.Station == 0))))::(75,.bool (t_1 || (!(r_3.1.Person == 1 && r_3.1.Station == 0))))::(78,.bool ((t_1 || (!(r_3.1.Person == 1 && r_3.1.Station == 0))) || (!r_5.1)))::(79,.bool ((t_1 || (!(r_3.1.Person == 1 && r_3.1.Station == 0))) || (!r_5.1)))::(86,.bool t_2)::(87,.bool t_2)::(90,.bool (t_2 || (r_9.1 != 1)))::[]) ∧ Ctx G (.row p_10 c_4 (r_8.map enc_crew_Visit) 31 6::.row p_9 c_3 (r_7.1.map enc_api_Span) 29 2::.box b_2 [i6 r_3.1.Person,i6 r_3.1.Station] 86::.row p_3 c_1 (r_1.1.map encI_i64) 3 1::Lf) w) ?_ ?_
 ·cases hb : t_2
  ·rw [hb] at hf
   try rw [hb] at hc
   refine stP hf rfl rfl rfl (pM rfl) fun a hf => stP hf rfl rfl rfl (pNe rfl rfl) fun a hf => stP hf rfl rfl rfl (pPf rfl rfl) fun a hf => cNil ⟨hf.kp rfl,hc⟩
  ·rw [hb] at hf
   try rw [hb] at hc
   refine stS hf rfl rfl rfl fun a hf => stS hf rfl rfl rfl fun a hf => stP hf rfl rfl rfl (pPt rfl rfl) fun a hf => cNil ⟨hf.kp rfl,hc⟩
 intro a w ⟨hf,hc⟩
 refine stP hf rfl rfl rfl (pM rfl) fun a hf => stCut 3 (fun a w => Has 174 a ((1,.slice p_3 r_1.1.length c_1)::(2,i6 r_1.2)::(3,pq b_2)::(4,i6 r_3.2)::(5,.bool r_5.1)::(6,i6 r_5.2)::(7,.slice p_9 r_7.1.length c_3)::(8,i6 r_7.2)::(9,i6 r_9.1)::(10,i6 r_9.2.1)::(11,i6 r_9.2.2)::(46,i6 r_1.2)::(47,.bool (r_1.2 != 0))::(48,.bool (r_1.2 != 0))::(51,.bool ((r_1.2 != 0) || (r_3.2 != 0)))::(52,.bool ((r_1.2 != 0) || (r_3.2 != 0)))::(55,.bool (((r_1.2 != 0) || (r_3.2 != 0)) || (r_5.2 != 0)))::(56,.bool (((r_1.2 != 0) || (r_3.2 != 0)) || (r_5.2 != 0)))::(59,.bool ((((r_1.2 != 0) || (r_3.2 != 0)) || (r_5.2 != 0)) || (r_7.2 != 0)))::(60,.bool ((((r_1.2 != 0) || (r_3.2 != 0)) || (r_5.2 != 0)) || (r_7.2 != 0)))::(63,.bool (((((r_1.2 != 0) || (r_3.2 != 0)) || (r_5.2 != 0)) || (r_7.2 != 0)) || (r_9.2.2 != 0)))::(64,.bool (((((r_1.2 != 0) || (r_3.2 != 0)) || (r_5.2 != 0)) || (r_7.2 != 0)) || (r_9.2.2 != 0)))::(69,.bool t_1)::(70,.bool t_1)::(74,.bool (t_1 || (!(r_3.1.Person == 1 && r_3.1.Station == 0))))::(75,.bool (t_1 || (!(r_3.1.Person == 1 && r_3.1.Station == 0))))::(78,.bool ((t_1 || (!(r_3.1.Person == 1 && r_3.1.Station == 0))) || (!r_5.1)))::(79,.bool ((t_1 || (!(r_3.1.Person == 1 && r_3.1.Station == 0))) || (!r_5.1)))::(86,.bool t_2)::(87,.bool t_2)::(90,.bool (t_2 || (r_9.1 != 1)))::(91,.bool (t_2 || (r_9.1 != 1)))::(94,.bool ((t_2 || (r_9.1 != 1)) || (r_9.2.1 != (-1))))::[]) ∧ Ctx G (.row p_10 c_4 (r_8.map enc_crew_Visit) 31 6::.row p_9 c_3 (r_7.1.map enc_api_Span) 29 2::.box b_2 [i6 r_3.1.Person,i6 r_3.1.Station] 86::.row p_3 c_1 (r_1.1.map encI_i64) 3 1::Lf) w) ?_ ?_
 ·cases hb : (t_2 || (r_9.1 != 1))
  ·rw [hb] at hf
   refine stP hf rfl rfl rfl (pM rfl) fun a hf => stP hf rfl rfl rfl (pNe rfl rfl) fun a hf => stP hf rfl rfl rfl (pPf rfl rfl) fun a hf => cNil ⟨hf.kp rfl,hc⟩
  ·rw [hb] at hf
   refine stS hf rfl rfl rfl fun a hf => stS hf rfl rfl rfl fun a hf => stP hf rfl rfl rfl (pPt rfl rfl) fun a hf => cNil ⟨hf.kp rfl,hc⟩
 intro a w ⟨hf,hc⟩
 refine cNil ?_
 refine h8 _ _ ?_
 refine cCond (b := ((t_2 || (r_9.1 != 1)) || (r_9.2.1 != (-1)))) hf rfl (fun hb => ?_) (fun hb => ?_)
 ·replace hF := condT hb hF
  clear hb
  refine wp_seq_k fun K9 h9 => cReg ?_
  refine stP hf rfl rfl rfl (pA rfl) fun a hf => cNil ?_
  refine h9 _ _ ?_
  refine wp_ret ?_
  refine xThenR ?_
  obtain rfl := sj hF
  replace hc := hc.drop k3
  replace hc := hc.drop k2
  replace hc := hc.drop k1
  replace hc := hc.drop k0
  exact fnOut1 (by simp) rfl Tryz.results15 hf hc (show look _ 0 = _ from rfl) ⟨rfl,hc⟩
 ·replace hF := condF hb hF
  clear hb
  refine wp_skip ?_
  refine h7 _ _ ?_
  refine wp_seq_k fun K10 h10 => cReg ?_
  obtain ⟨r_12,hr_12,hF⟩ := bnd_some hF
  refine stC (vs := [i6 80]) (caps := []) hf rfl rfl rfl en_68 rfl rfl rfl rfl (law11_Trip_ok 80 hc hr_12) ?_
  rintro _ w ⟨p_11,c_5,rfl,hc⟩
  refine ⟨_,rfl,fun a hf => ?_⟩
  obtain ⟨r_13,hr_13,hF⟩ := bnd_some hF
  refine stE hf hc rfl rfl rfl (eC (v := .tuple #[i6 r_13.1,i6 r_13.2]) (vs := [.slice p_11 r_12.length c_5]) (caps := []) en_24 rfl rfl rfl rfl (fun w hc => by obtain ⟨G1,hle1,hrd1,hc,hth1⟩ := lend hc k0; exact (crew_Latest_ok r_12 hrd1 hc hr_13).mono fun e w h => ⟨h.1,((hth1 _ _ h.2).unpick k0)⟩)) fun a w hf hc => stP hf rfl rfl rfl (pM rfl) fun a hf => stP hf rfl rfl rfl (pX rfl rfl) fun a hf => stP hf rfl rfl rfl (pX rfl rfl) fun a hf => stP hf rfl rfl rfl (pA rfl) fun a hf => stP hf rfl rfl rfl (pA rfl) fun a hf => cNil ?_
  refine h10 _ _ ?_
  refine wp_seq_k fun K11 h11 => cReg ?_
  obtain ⟨r_14,hr_14,hF⟩ := bnd_some hF
  refine stC (vs := []) (caps := []) hf rfl rfl rfl en_69 rfl rfl rfl rfl (law11_Wire_ok hc hr_14) ?_
  rintro _ w ⟨p_12,c_6,rfl,hc⟩
  refine ⟨_,rfl,fun a hf => ?_⟩
  obtain ⟨r_15,hr_15,hF⟩ := bnd_some hF
  refine stE hf hc rfl rfl rfl (eC (v := .tuple #[.agg #[i6 r_15.1.Lo,i6 r_15.1.Hi],i6 r_15.2]) (vs := [.agg #[i6 r_14.Car,i6 r_14.Wide,i6 r_14.Sag,i6 r_14.Most,.slice p_12 r_14.Rides.length c_6],i6 5]) (caps := []) en_34 rfl rfl rfl rfl (fun w hc => by obtain ⟨G1,hle1,hrd1,hc,hth1⟩ := lend hc k0; exact (crew_Load_ok r_14 5 hrd1 hc hr_15).mono fun e w h => ⟨h.1,((hth1 _ _ h.2).unpick k0)⟩)) fun a w hf hc => stP hf rfl rfl rfl (pM rfl) fun a hf => stP hf rfl rfl rfl (pX rfl rfl) fun a hf => stP hf rfl rfl rfl (pX rfl rfl) fun a hf => stAl (cs := [i6 0,i6 0]) hf hc rfl rfl zr_29 rfl fun b_6 a w hf hc => stSt (vs := [i6 r_15.1.Lo,i6 r_15.1.Hi]) hf hc rfl rfl rfl rfl sz_29 rfl rfl u0 fun w hc => stP hf rfl rfl rfl (pA rfl) fun a hf => cNil ?_
  refine h11 _ _ ?_
  refine wp_seq_k fun K12 h12 => cReg ?_
  obtain ⟨r_16,hr_16,hF⟩ := bnd_some hF
  refine stC (vs := []) (caps := []) hf rfl rfl rfl en_69 rfl rfl rfl rfl (law11_Wire_ok hc hr_16) ?_
  rintro _ w ⟨p_13,c_7,rfl,hc⟩
  refine ⟨_,rfl,fun a hf => ?_⟩
  obtain ⟨r_17,hr_17,hF⟩ := bnd_some hF
  refine stE hf hc rfl rfl rfl (eC (v := .tuple #[i6 r_17.1,i6 r_17.2.1,i6 r_17.2.2]) (vs := [.agg #[i6 r_16.Car,i6 r_16.Wide,i6 r_16.Sag,i6 r_16.Most,.slice p_13 r_16.Rides.length c_7]]) (caps := []) en_36 rfl rfl rfl rfl (fun w hc => by obtain ⟨G1,hle1,hrd1,hc,hth1⟩ := lend hc k0; exact (crew_Beyond_ok r_16 hrd1 hc hr_17).mono fun e w h => ⟨h.1,((hth1 _ _ h.2).unpick k0)⟩)) fun a w hf hc => stP hf rfl rfl rfl (pM rfl) fun a hf => stP hf rfl rfl rfl (pX rfl rfl) fun a hf => stP hf rfl rfl rfl (pX rfl rfl) fun a hf => stP hf rfl rfl rfl (pX rfl rfl) fun a hf => stP hf rfl rfl rfl (pA rfl) fun a hf => stP hf rfl rfl rfl (pA rfl) fun a hf => stP hf rfl rfl rfl (pA rfl) fun a hf => cNil ?_
  refine h12 _ _ ?_
  refine wp_seq_k fun K13 h13 => cReg ?_
  obtain ⟨r_18,hr_18,hF⟩ := bnd_some hF
  refine stC (vs := []) (caps := []) hf rfl rfl rfl en_69 rfl rfl rfl rfl (law11_Wire_ok hc hr_18) ?_
  rintro _ w ⟨p_14,c_8,rfl,hc⟩
  refine ⟨_,rfl,fun a hf => ?_⟩
  refine stAl (cs := [i6 0,i6 0,i6 0,i6 0,.slice none 0 0]) hf hc rfl rfl zr_54 rfl fun b_7 a w hf hc => stSt (vs := [i6 r_18.Car,i6 r_18.Wide,i6 r_18.Sag,i6 r_18.Most,.slice p_14 r_18.Rides.length c_8]) hf hc rfl rfl rfl rfl sz_54 rfl rfl u0 fun w hc => cNil ?_
  replace hc := hc.drop k9
  replace hc := hc.drop k8
  replace hc := hc.drop k7
  replace hc := hc.drop k6
  replace hc := hc.drop k5
  replace hc := hc.drop k4
  replace hc := hc.drop k2
  refine h13 _ _ ?_
  refine wp_seq_k fun K14 h14 => ?_
  obtain ⟨r_19,hr_19,hF⟩ := bnd_some hF
  obtain ⟨un,hun,hF⟩ := bnd_some hF
  replace hc := hc.nilRow 0 0
  refine regionE (fun θ => [⟨none,none,2,i6 r_13.2⟩,⟨none,none,4,i6 r_15.2⟩,⟨none,none,6,i6 r_17.2.2⟩,⟨none,none,9,i6 r_17.1⟩,⟨none,none,10,i6 r_17.2.1⟩,⟨none,none,12,i6 r_13.1⟩,⟨none,none,13,pq b_6⟩,⟨none,none,14,pq b_7⟩,⟨some 0,none,112,.pointer (some ⟨b_7,4,none⟩)⟩,⟨some 1,none,113,.slice p_14 r_18.Rides.length c_8⟩,⟨some 2,none,114,.agg #[i6 r_19.Lo,i6 r_19.Hi]⟩,⟨some 3,none,115,.agg #[i6 5,i6 5,i6 r_19.Lo,i6 r_19.Hi]⟩,⟨some 4,none,116,.slice (some ⟨(θ 32).b,0,none⟩) 1 1⟩,⟨some 5,none,117,.slice ((θ 40).p) ((r_18.Rides ++ [(⟨5,5,r_19⟩ : crew_Ride)]).length) ((θ 40).c)⟩,⟨some 6,none,118,.pointer (some ⟨b_7,4,none⟩)⟩]) (fun E θ => (bif E 4 then .row (some ⟨(θ 32).b,0,none⟩) 1 (([(⟨5,5,r_19⟩ : crew_Ride)] : List crew_Ride).map enc_crew_Ride) 72 4 else .row none 0 [] 0 0)::(bif E 7 then .box b_7 [i6 r_18.Car,i6 r_18.Wide,i6 r_18.Sag,i6 r_18.Most,.slice ((θ 40).p) ((r_18.Rides ++ [(⟨5,5,r_19⟩ : crew_Ride)]).length) ((θ 40).c)] 54 else .box b_7 [i6 r_18.Car,i6 r_18.Wide,i6 r_18.Sag,i6 r_18.Most,.slice p_14 r_18.Rides.length c_8] 54)::(bif E 5 then .row ((θ 40).p) ((θ 40).c) ((r_18.Rides ++ [(⟨5,5,r_19⟩ : crew_Ride)]).map enc_crew_Ride) 72 4 else .row p_14 c_8 (r_18.Rides.map enc_crew_Ride) 72 4)::.box b_6 [i6 r_15.1.Lo,i6 r_15.1.Hi] 29::Lf) [(7,1),(7,5)] (fun a w => ∃ (b_9 : Nat) (p_16 : Option Addr) (c_10 : Nat),Has 174 a [(2,i6 r_13.2),(4,i6 r_15.2),(6,i6 r_17.2.2),(9,i6 r_17.1),(10,i6 r_17.2.1),(12,i6 r_13.1),(13,pq b_6),(14,pq b_7)] ∧ Ctx G (.row (some ⟨b_9,0,none⟩) 1 (([(⟨5,5,r_19⟩ : crew_Ride)] : List crew_Ride).map enc_crew_Ride) 72 4::.box b_7 [i6 r_18.Car,i6 r_18.Wide,i6 r_18.Sag,i6 r_18.Most,.slice p_16 ((r_18.Rides ++ [(⟨5,5,r_19⟩ : crew_Ride)]).length) c_10] 54::.row p_16 c_10 ((r_18.Rides ++ [(⟨5,5,r_19⟩ : crew_Ride)]).map enc_crew_Ride) 72 4::.box b_6 [i6 r_15.1.Lo,i6 r_15.1.Hi] 29::Lf) w) follows_mx (by kernel_rfl) (by kernel_rfl) (HasE.of hf ⟨rfl,rfl,rfl,rfl,rfl,rfl,rfl,rfl,trivial,trivial,trivial,trivial,trivial,trivial,trivial,trivial⟩) hc ⟨?_,?_,?_,?_,?_,?_,?_,?_,trivial⟩ ?_ ?_
  ·intro E θ a w hD hi hp he hc
   have hf := he.h0
   replace hf := hf.more he 7 rfl onT
   refine stP hf rfl rfl rfl (pFA fa_54_4 rfl) fun a hf => cNil ?_
   refine xThenN ?_
   intro ds u hau
   refine ⟨θ,he.put0 hi hau hf rfl 8 rfl rfl,?_⟩
   exact hc
  ·intro E θ a w hD hi hp he hc
   have e0 := hp.of (k := 0) rfl
   have e7 := hD.f 0 rfl hi
   try dsimp only at hc
   rw [e7] at hc
   have hf := he.h0
   replace hf := hf.more he 8 rfl (onP e0)
   refine stE hf hc rfl rfl rfl (eLd1 sc_52 rfl (cell_box m1 rfl)) fun a w hf hc => cNil ?_
   refine xThenN ?_
   intro ds u hau
   refine ⟨θ,he.put0 hi hau hf rfl 9 rfl rfl,?_⟩
   try dsimp only
   rw [updE_fls 1 e7 rfl]
   exact hc
  ·intro E θ a w hD hi hp he hc
   have hf := he.h0
   refine stE hf hc rfl rfl rfl (eC (v := .agg #[i6 r_19.Lo,i6 r_19.Hi]) (vs := [i6 90,i6 90]) (caps := []) en_51 rfl rfl rfl rfl (fun w hc => law11_span_ok 90 90 hc hr_19)) fun a w hf hc => cNil ?_
   refine xThenN ?_
   intro ds u hau
   refine ⟨θ,he.put0 hi hau hf rfl 10 rfl rfl,?_⟩
   exact hc
  ·intro E θ a w hD hi hp he hc
   have e2 := hp.of (k := 2) rfl
   have hf := he.h0
   replace hf := hf.more he 10 rfl (onP e2)
   refine stP hf rfl rfl rfl (pBuildS (cells := [i6 5,i6 5,i6 r_19.Lo,i6 r_19.Hi]) bt_72 rfl rfl) fun a hf => cNil ?_
   refine xThenN ?_
   intro ds u hau
   refine ⟨θ,he.put0 hi hau hf rfl 11 rfl rfl,?_⟩
   exact hc
  ·intro E θ a w hD hi hp he hc
   have e3 := hp.of (k := 3) rfl
   try dsimp only at hc
   rw [hi] at hc
   have hf := he.h0
   replace hf := hf.more he 11 rfl (onP e3)
   refine stBS (rows := ([(⟨5,5,r_19⟩ : crew_Ride)] : List crew_Ride).map enc_crew_Ride) (vs := [(0,.agg #[i6 5,i6 5,i6 r_19.Lo,i6 r_19.Hi])]) hf hc rfl rfl sl_52 rfl ⟨rfl,rfl,rfl,trivial⟩ rfl rfl fun b_8 a w hf hc => cNil ?_
   refine xThenN ?_
   intro ds u hau
   replace hc := hc.drop k1
   refine ⟨(setT θ 32 ⟨b_8,none,0,(fun _ => (none,0))⟩),he.put hi hau hf rfl [] trivial ⟨qq,qq,qq,qq,qq,qq,qq,qq,qq,qq,qq,qq,qq,qq,qq,trivial⟩,?_⟩
   try dsimp only
   rw [updE_self E 4]
   exact hc
  ·intro E θ a w hD hi hp he hc
   have e1 := hp.of (k := 1) rfl
   have e4 := hp.of (k := 4) rfl
   have e7 := hD.f 1 rfl hi
   try dsimp only at hc
   rw [e4,hi,e7] at hc
   have hf := he.h0
   replace hf := hf.more he 9 rfl (onP e1)
   replace hf := hf.more he 12 rfl (onP e4)
   refine stApm (xs := r_18.Rides) (ys := ([(⟨5,5,r_19⟩ : crew_Ride)] : List crew_Ride)) hf hc rfl rfl sl_52 rfl rfl rfl rfl rfl one_enc_crew_Ride (src_row hc m0) (fun _ _ => u2) (by simpa using room_spec hun) fun p_15 c_9 a w hf hc => cNil ?_
   refine xThenN ?_
   intro ds u hau
   refine ⟨(setT θ 40 ⟨0,p_15,c_9,(fun _ => (none,0))⟩),he.put hi hau hf rfl [] trivial ⟨qq,qq,qq,qq,qq,qq,qq,qq,qq,qq,qq,qq,qq,qq,qq,trivial⟩,?_⟩
   try dsimp only
   rw [updE_tru 5 e4,updE_self E 5,updE_fls 5 e7 rfl]
   exact hc
  ·intro E θ a w hD hi hp he hc
   have hf := he.h0
   replace hf := hf.more he 7 rfl onT
   refine stP hf rfl rfl rfl (pFA fa_54_4 rfl) fun a hf => cNil ?_
   refine xThenN ?_
   intro ds u hau
   refine ⟨θ,he.put0 hi hau hf rfl 14 rfl rfl,?_⟩
   exact hc
  ·intro E θ a w hD hi hp he hc
   have e5 := hp.of (k := 5) rfl
   have e6 := hp.of (k := 6) rfl
   try dsimp only at hc
   rw [hi] at hc
   have hf := he.h0
   replace hf := hf.more he 13 rfl (onP e5)
   replace hf := hf.more he 14 rfl (onP e6)
   refine stSt (vs := [.slice ((θ 40).p) ((r_18.Rides ++ [(⟨5,5,r_19⟩ : crew_Ride)]).length) ((θ 40).c)]) hf hc rfl rfl rfl rfl sz_52 rfl rfl u1 fun w hc => cNil ?_
   refine xThenN ?_
   intro ds u hau
   refine ⟨θ,he.stay0 hi hau hf rfl,?_⟩
   try dsimp only
   rw [updE_self E 7]
   exact hc
  ·intro E θ a w hall he hc
   have hf := he.h0
   have e4 := hall 4 rfl
   have e5 := hall 5 rfl
   have e7 := hall 7 rfl
   replace hf := hf.more he 7 rfl (onT)
   replace hf := hf.more he 6 rfl (onT)
   replace hf := hf.more he 5 rfl (onT)
   replace hf := hf.more he 4 rfl (onT)
   replace hf := hf.more he 3 rfl (onT)
   replace hf := hf.more he 2 rfl (onT)
   replace hf := hf.more he 1 rfl (onT)
   replace hf := hf.more he 0 rfl (onT)
   try dsimp only at hc
   rw [e4,e5,e7] at hc
   exact ⟨(θ 32).b,(θ 40).p,(θ 40).c,hf.kp rfl,hc⟩
  rintro a w ⟨b_9,p_16,c_10,hf,hc⟩
  refine h14 _ _ ?_
  refine wp_seq_k fun K15 h15 => cReg ?_
  refine stE hf hc rfl rfl rfl (eLdN (vs := [i6 r_18.Car,i6 r_18.Wide,i6 r_18.Sag,i6 r_18.Most,.slice p_16 ((r_18.Rides ++ [(⟨5,5,r_19⟩ : crew_Ride)]).length) c_10]) ag_54 rfl rfl (cells_box (n := 5) m1 rfl)) fun a w hf hc => ?_
  obtain ⟨r_20,hr_20,hF⟩ := bnd_some hF
  obtain ⟨G1,hle1,hrd1,hc,hth1⟩ := lend hc k2
  refine stC (vs := [.agg #[i6 r_18.Car,i6 r_18.Wide,i6 r_18.Sag,i6 r_18.Most,.slice p_16 ((r_18.Rides ++ [(⟨5,5,r_19⟩ : crew_Ride)]).length) c_10]]) (caps := []) hf rfl rfl rfl en_38 rfl rfl rfl rfl (crew_Queue_ok (⟨r_18.Car,r_18.Wide,r_18.Sag,r_18.Most,(r_18.Rides ++ [(⟨5,5,r_19⟩ : crew_Ride)])⟩ : crew_Cable) hrd1 hc hr_20) ?_
  rintro _ w ⟨p_17,c_11,rfl,hc⟩
  refine ⟨_,rfl,fun a hf => ?_⟩
  replace hc := hth1 _ _ hc
  refine stP hf rfl rfl rfl (pM rfl) fun a hf => stP hf rfl rfl rfl (pX rfl rfl) fun a hf => stP hf rfl rfl rfl (pX rfl rfl) fun a hf => stP hf rfl rfl rfl (pA rfl) fun a hf => stP hf rfl rfl rfl (pA rfl) fun a hf => cNil ?_
  refine h15 _ _ ?_
  refine wp_seq_k fun K16 h16 => cReg ?_
  refine stP hf rfl rfl rfl (pBuildS (cells := [i6 600,i6 480,i6 500]) bt_24 rfl rfl) fun a hf => stBS (rows := ([481] : List Int).map encI_i64) (vs := [(0,i6 481)]) hf hc rfl rfl sl_25 rfl ⟨rfl,rfl,rfl,trivial⟩ rfl rfl fun b_10 a w hf hc => ?_
  obtain ⟨r_21,hr_21,hF⟩ := bnd_some hF
  refine stE hf hc rfl rfl rfl (eC (v := .tuple #[i6 r_21.1,i6 r_21.2]) (vs := [.agg #[i6 600,i6 480,i6 500],.slice (some ⟨b_10,0,none⟩) 1 1]) (caps := []) en_26 rfl rfl rfl rfl (fun w hc => by obtain ⟨G1,hle1,hrd1,hc,hth1⟩ := lend hc k0; exact (crew_Paid_ok (⟨600,480,500⟩ : crew_Pay) ([481] : List Int) hrd1 hc hr_21).mono fun e w h => ⟨h.1,((hth1 _ _ h.2).unpick k0)⟩)) fun a w hf hc => stP hf rfl rfl rfl (pM rfl) fun a hf => stP hf rfl rfl rfl (pX rfl rfl) fun a hf => stP hf rfl rfl rfl (pX rfl rfl) fun a hf => stP hf rfl rfl rfl (pA rfl) fun a hf => stP hf rfl rfl rfl (pA rfl) fun a hf => cNil ?_
  refine h16 _ _ ?_
  refine wp_seq_k fun K17 h17 => ?_
  obtain ⟨r_22,hr_22,hF⟩ := bnd_some hF
  obtain ⟨r_23,hr_23,hF⟩ := bnd_some hF
  replace hc := hc.nilRow 0 0
  refine regionE (fun θ => (⟨none,none,2,i6 r_13.2⟩::⟨none,none,4,i6 r_15.2⟩::⟨none,none,6,i6 r_17.2.2⟩::⟨none,none,8,i6 r_20.2⟩::⟨none,none,9,i6 r_17.1⟩::⟨none,none,10,i6 r_17.2.1⟩::⟨none,none,11,i6 r_21.2⟩::⟨none,none,12,i6 r_13.1⟩::⟨none,none,13,pq b_6⟩::⟨none,none,15,.slice p_17 r_20.1.length c_11⟩::⟨none,none,16,i6 r_21.1⟩::⟨some 0,none,130,i6 r_13.2⟩::⟨some 1,none,131,.bool (r_13.2 == 0)⟩::⟨some 2,none,132,.bool (r_13.2 == 0)⟩::⟨some 3,none,133,(bif (r_13.2 == 0) then i6 r_15.2 else undef)⟩::⟨some 4,none,134,(bif (r_13.2 == 0) then .bool (r_15.2 == 0) else undef)⟩::⟨some 5,none,135,.bool ((r_13.2 == 0) && (r_15.2 == 0))⟩::⟨some 6,none,136,.bool ((r_13.2 == 0) && (r_15.2 == 0))⟩::⟨some 7,none,137,(bif ((r_13.2 == 0) && (r_15.2 == 0)) then i6 r_17.2.2 else undef)⟩::⟨some 8,none,138,(bif ((r_13.2 == 0) && (r_15.2 == 0)) then .bool (r_17.2.2 == 0) else undef)⟩::⟨some 9,none,139,.bool (((r_13.2 == 0) && (r_15.2 == 0)) && (r_17.2.2 == 0))⟩::⟨some 10,none,140,.bool (((r_13.2 == 0) && (r_15.2 == 0)) && (r_17.2.2 == 0))⟩::⟨some 11,none,141,(bif (((r_13.2 == 0) && (r_15.2 == 0)) && (r_17.2.2 == 0)) then i6 r_20.2 else undef)⟩::⟨some 12,none,142,(bif (((r_13.2 == 0) && (r_15.2 == 0)) && (r_17.2.2 == 0)) then .bool (r_20.2 == 0) else undef)⟩::⟨some 13,none,143,.bool ((((r_13.2 == 0) && (r_15.2 == 0)) && (r_17.2.2 == 0)) && (r_20.2 == 0))⟩::⟨some 14,none,144,.bool ((((r_13.2 == 0) && (r_15.2 == 0)) && (r_17.2.2 == 0)) && (r_20.2 == 0))⟩::⟨some 15,none,145,(bif ((((r_13.2 == 0) && (r_15.2 == 0)) && (r_17.2.2 == 0)) && (r_20.2 == 0)) then i6 r_21.2 else undef)⟩::⟨some 16,none,146,(bif ((((r_13.2 == 0) && (r_15.2 == 0)) && (r_17.2.2 == 0)) && (r_20.2 == 0)) then .bool (r_21.2 == 0) else undef)⟩::⟨some 17,none,147,.bool (((((r_13.2 == 0) && (r_15.2 == 0)) && (r_17.2.2 == 0)) && (r_20.2 == 0)) && (r_21.2 == 0))⟩::⟨some 18,none,148,.bool (((((r_13.2 == 0) && (r_15.2 == 0)) && (r_17.2.2 == 0)) && (r_20.2 == 0)) && (r_21.2 == 0))⟩::⟨some 19,none,149,(bif (((((r_13.2 == 0) && (r_15.2 == 0)) && (r_17.2.2 == 0)) && (r_20.2 == 0)) && (r_21.2 == 0)) then i6 r_13.1 else undef)⟩::⟨some 20,none,150,(bif (((((r_13.2 == 0) && (r_15.2 == 0)) && (r_17.2.2 == 0)) && (r_20.2 == 0)) && (r_21.2 == 0)) then .bool (r_13.1 == 5) else undef)⟩::⟨some 21,none,151,.bool ((((((r_13.2 == 0) && (r_15.2 == 0)) && (r_17.2.2 == 0)) && (r_20.2 == 0)) && (r_21.2 == 0)) && (r_13.1 == 5))⟩::⟨some 22,none,152,.bool ((((((r_13.2 == 0) && (r_15.2 == 0)) && (r_17.2.2 == 0)) && (r_20.2 == 0)) && (r_21.2 == 0)) && (r_13.1 == 5))⟩::⟨some 23,none,153,(bif ((((((r_13.2 == 0) && (r_15.2 == 0)) && (r_17.2.2 == 0)) && (r_20.2 == 0)) && (r_21.2 == 0)) && (r_13.1 == 5)) then .agg #[i6 r_15.1.Lo,i6 r_15.1.Hi] else undef)⟩::⟨some 24,none,154,(bif ((((((r_13.2 == 0) && (r_15.2 == 0)) && (r_17.2.2 == 0)) && (r_20.2 == 0)) && (r_21.2 == 0)) && (r_13.1 == 5)) then .agg #[i6 r_22.Lo,i6 r_22.Hi] else undef)⟩::⟨some 25,none,155,(bif ((((((r_13.2 == 0) && (r_15.2 == 0)) && (r_17.2.2 == 0)) && (r_20.2 == 0)) && (r_21.2 == 0)) && (r_13.1 == 5)) then .bool (r_15.1.Lo == r_22.Lo && r_15.1.Hi == r_22.Hi) else undef)⟩::⟨some 26,none,156,.bool (((((((r_13.2 == 0) && (r_15.2 == 0)) && (r_17.2.2 == 0)) && (r_20.2 == 0)) && (r_21.2 == 0)) && (r_13.1 == 5)) && (r_15.1.Lo == r_22.Lo && r_15.1.Hi == r_22.Hi))⟩::⟨some 27,none,157,.bool (((((((r_13.2 == 0) && (r_15.2 == 0)) && (r_17.2.2 == 0)) && (r_20.2 == 0)) && (r_21.2 == 0)) && (r_13.1 == 5)) && (r_15.1.Lo == r_22.Lo && r_15.1.Hi == r_22.Hi))⟩::⟨some 28,none,158,(bif (((((((r_13.2 == 0) && (r_15.2 == 0)) && (r_17.2.2 == 0)) && (r_20.2 == 0)) && (r_21.2 == 0)) && (r_13.1 == 5)) && (r_15.1.Lo == r_22.Lo && r_15.1.Hi == r_22.Hi)) then i6 r_17.1 else undef)⟩::⟨some 29,none,159,(bif (((((((r_13.2 == 0) && (r_15.2 == 0)) && (r_17.2.2 == 0)) && (r_20.2 == 0)) && (r_21.2 == 0)) && (r_13.1 == 5)) && (r_15.1.Lo == r_22.Lo && r_15.1.Hi == r_22.Hi)) then .bool (r_17.1 == 5) else undef)⟩::⟨some 30,none,160,.bool ((((((((r_13.2 == 0) && (r_15.2 == 0)) && (r_17.2.2 == 0)) && (r_20.2 == 0)) && (r_21.2 == 0)) && (r_13.1 == 5)) && (r_15.1.Lo == r_22.Lo && r_15.1.Hi == r_22.Hi)) && (r_17.1 == 5))⟩::⟨some 31,none,161,.bool ((((((((r_13.2 == 0) && (r_15.2 == 0)) && (r_17.2.2 == 0)) && (r_20.2 == 0)) && (r_21.2 == 0)) && (r_13.1 == 5)) && (r_15.1.Lo == r_22.Lo && r_15.1.Hi == r_22.Hi)) && (r_17.1 == 5))⟩::⟨some 32,none,162,(bif ((((((((r_13.2 == 0) && (r_15.2 == 0)) && (r_17.2.2 == 0)) && (r_20.2 == 0)) && (r_21.2 == 0)) && (r_13.1 == 5)) && (r_15.1.Lo == r_22.Lo && r_15.1.Hi == r_22.Hi)) && (r_17.1 == 5)) then i6 r_17.2.1 else undef)⟩::⟨some 33,none,163,(bif ((((((((r_13.2 == 0) && (r_15.2 == 0)) && (r_17.2.2 == 0)) && (r_20.2 == 0)) && (r_21.2 == 0)) && (r_13.1 == 5)) && (r_15.1.Lo == r_22.Lo && r_15.1.Hi == r_22.Hi)) && (r_17.1 == 5)) then .bool (r_17.2.1 == (-1)) else undef)⟩::⟨some 34,none,164,.bool (((((((((r_13.2 == 0) && (r_15.2 == 0)) && (r_17.2.2 == 0)) && (r_20.2 == 0)) && (r_21.2 == 0)) && (r_13.1 == 5)) && (r_15.1.Lo == r_22.Lo && r_15.1.Hi == r_22.Hi)) && (r_17.1 == 5)) && (r_17.2.1 == (-1)))⟩::⟨some 35,none,165,.bool (((((((((r_13.2 == 0) && (r_15.2 == 0)) && (r_17.2.2 == 0)) && (r_20.2 == 0)) && (r_21.2 == 0)) && (r_13.1 == 5)) && (r_15.1.Lo == r_22.Lo && r_15.1.Hi == r_22.Hi)) && (r_17.1 == 5)) && (r_17.2.1 == (-1)))⟩::⟨some 36,none,166,(bif (((((((((r_13.2 == 0) && (r_15.2 == 0)) && (r_17.2.2 == 0)) && (r_20.2 == 0)) && (r_21.2 == 0)) && (r_13.1 == 5)) && (r_15.1.Lo == r_22.Lo && r_15.1.Hi == r_22.Hi)) && (r_17.1 == 5)) && (r_17.2.1 == (-1))) then .slice p_17 r_20.1.length c_11 else undef)⟩::⟨some 37,none,167,(bif (((((((((r_13.2 == 0) && (r_15.2 == 0)) && (r_17.2.2 == 0)) && (r_20.2 == 0)) && (r_21.2 == 0)) && (r_13.1 == 5)) && (r_15.1.Lo == r_22.Lo && r_15.1.Hi == r_22.Hi)) && (r_17.1 == 5)) && (r_17.2.1 == (-1))) then .slice (some ⟨(θ 296).b,0,none⟩) 3 3 else undef)⟩::⟨some 38,none,168,(bif (((((((((r_13.2 == 0) && (r_15.2 == 0)) && (r_17.2.2 == 0)) && (r_20.2 == 0)) && (r_21.2 == 0)) && (r_13.1 == 5)) && (r_15.1.Lo == r_22.Lo && r_15.1.Hi == r_22.Hi)) && (r_17.1 == 5)) && (r_17.2.1 == (-1))) then .bool r_23 else undef)⟩::⟨some 39,none,169,.bool ((((((((((r_13.2 == 0) && (r_15.2 == 0)) && (r_17.2.2 == 0)) && (r_20.2 == 0)) && (r_21.2 == 0)) && (r_13.1 == 5)) && (r_15.1.Lo == r_22.Lo && r_15.1.Hi == r_22.Hi)) && (r_17.1 == 5)) && (r_17.2.1 == (-1))) && r_23)⟩::⟨some 40,none,170,.bool ((((((((((r_13.2 == 0) && (r_15.2 == 0)) && (r_17.2.2 == 0)) && (r_20.2 == 0)) && (r_21.2 == 0)) && (r_13.1 == 5)) && (r_15.1.Lo == r_22.Lo && r_15.1.Hi == r_22.Hi)) && (r_17.1 == 5)) && (r_17.2.1 == (-1))) && r_23)⟩::⟨some 41,none,171,(bif ((((((((((r_13.2 == 0) && (r_15.2 == 0)) && (r_17.2.2 == 0)) && (r_20.2 == 0)) && (r_21.2 == 0)) && (r_13.1 == 5)) && (r_15.1.Lo == r_22.Lo && r_15.1.Hi == r_22.Hi)) && (r_17.1 == 5)) && (r_17.2.1 == (-1))) && r_23) then i6 r_21.1 else undef)⟩::⟨some 42,none,172,(bif ((((((((((r_13.2 == 0) && (r_15.2 == 0)) && (r_17.2.2 == 0)) && (r_20.2 == 0)) && (r_21.2 == 0)) && (r_13.1 == 5)) && (r_15.1.Lo == r_22.Lo && r_15.1.Hi == r_22.Hi)) && (r_17.1 == 5)) && (r_17.2.1 == (-1))) && r_23) then .bool (r_21.1 == 4815) else undef)⟩::⟨some 43,none,173,.bool (((((((((((r_13.2 == 0) && (r_15.2 == 0)) && (r_17.2.2 == 0)) && (r_20.2 == 0)) && (r_21.2 == 0)) && (r_13.1 == 5)) && (r_15.1.Lo == r_22.Lo && r_15.1.Hi == r_22.Hi)) && (r_17.1 == 5)) && (r_17.2.1 == (-1))) && r_23) && (r_21.1 == 4815))⟩::⟨some 44,none,0,.bool (((((((((((r_13.2 == 0) && (r_15.2 == 0)) && (r_17.2.2 == 0)) && (r_20.2 == 0)) && (r_21.2 == 0)) && (r_13.1 == 5)) && (r_15.1.Lo == r_22.Lo && r_15.1.Hi == r_22.Hi)) && (r_17.1 == 5)) && (r_17.2.1 == (-1))) && r_23) && (r_21.1 == 4815))⟩::[])) (fun E θ => (bif E 37 then (gE (((((((((r_13.2 == 0) && (r_15.2 == 0)) && (r_17.2.2 == 0)) && (r_20.2 == 0)) && (r_21.2 == 0)) && (r_13.1 == 5)) && (r_15.1.Lo == r_22.Lo && r_15.1.Hi == r_22.Hi)) && (r_17.1 == 5)) && (r_17.2.1 == (-1))) (.row (some ⟨(θ 296).b,0,none⟩) 3 (([0,10,15] : List Int).map encI_i64) 3 1)) else .row none 0 [] 0 0)::.row (some ⟨b_10,0,none⟩) 1 (([481] : List Int).map encI_i64) 3 1::.row p_16 c_10 ((r_18.Rides ++ [(⟨5,5,r_19⟩ : crew_Ride)]).map enc_crew_Ride) 72 4::.row p_17 c_11 (r_20.1.map encI_i64) 3 1::.row (some ⟨b_9,0,none⟩) 1 (([(⟨5,5,r_19⟩ : crew_Ride)] : List crew_Ride).map enc_crew_Ride) 72 4::.box b_7 [i6 r_18.Car,i6 r_18.Wide,i6 r_18.Sag,i6 r_18.Most,.slice p_16 ((r_18.Rides ++ [(⟨5,5,r_19⟩ : crew_Ride)]).length) c_10] 54::.box b_6 [i6 r_15.1.Lo,i6 r_15.1.Hi] 29::Lf) [] (fun a w => Has 174 a [(0,.bool (((((((((((r_13.2 == 0) && (r_15.2 == 0)) && (r_17.2.2 == 0)) && (r_20.2 == 0)) && (r_21.2 == 0)) && (r_13.1 == 5)) && (r_15.1.Lo == r_22.Lo && r_15.1.Hi == r_22.Hi)) && (r_17.1 == 5)) && (r_17.2.1 == (-1))) && r_23) && (r_21.1 == 4815)))] ∧ Ctx G (.row (some ⟨b_10,0,none⟩) 1 (([481] : List Int).map encI_i64) 3 1::.row p_16 c_10 ((r_18.Rides ++ [(⟨5,5,r_19⟩ : crew_Ride)]).map enc_crew_Ride) 72 4::.row p_17 c_11 (r_20.1.map encI_i64) 3 1::.row (some ⟨b_9,0,none⟩) 1 (([(⟨5,5,r_19⟩ : crew_Ride)] : List crew_Ride).map enc_crew_Ride) 72 4::.box b_7 [i6 r_18.Car,i6 r_18.Wide,i6 r_18.Sag,i6 r_18.Most,.slice p_16 ((r_18.Rides ++ [(⟨5,5,r_19⟩ : crew_Ride)]).length) c_10] 54::.box b_6 [i6 r_15.1.Lo,i6 r_15.1.Hi] 29::Lf) w) follows_mx (by kernel_rfl) (by kernel_rfl) (HasE.of hf ⟨rfl,rfl,rfl,rfl,rfl,rfl,rfl,rfl,rfl,rfl,rfl,trivial,trivial,trivial,trivial,trivial,trivial,trivial,trivial,trivial,trivial,trivial,trivial,trivial,trivial,trivial,trivial,trivial,trivial,trivial,trivial,trivial,trivial,trivial,trivial,trivial,trivial,trivial,trivial,trivial,trivial,trivial,trivial,trivial,trivial,trivial,trivial,trivial,trivial,trivial,trivial,trivial,trivial,trivial,trivial,trivial,trivial⟩) hc ⟨?_,?_,?_,?_,?_,?_,?_,?_,?_,?_,?_,?_,?_,?_,?_,?_,?_,?_,?_,?_,?_,?_,?_,?_,?_,?_,?_,?_,?_,?_,?_,?_,?_,?_,?_,?_,?_,?_,?_,?_,?_,?_,?_,?_,?_,trivial⟩ ?_ ?_
  ·intro E θ a w hD hi hp he hc
   have hf := he.h0
   replace hf := hf.more he 0 rfl onT
   refine stP hf rfl rfl rfl (pM rfl) fun a hf => cNil ?_
   refine xThenN ?_
   intro ds u hau
   refine ⟨θ,he.put0 hi hau hf rfl 11 rfl rfl,?_⟩
   exact hc
  ·intro E θ a w hD hi hp he hc
   have e0 := hp.of (k := 0) rfl
   have hf := he.h0
   replace hf := hf.more he 11 rfl (onP e0)
   refine stP hf rfl rfl rfl (pEq rfl rfl) fun a hf => cNil ?_
   refine xThenN ?_
   intro ds u hau
   refine ⟨θ,he.put0 hi hau hf rfl 12 rfl rfl,?_⟩
   exact hc
  ·intro E θ a w hD hi hp he hc
   have e1 := hp.of (k := 1) rfl
   have hf := he.h0
   replace hf := hf.more he 12 rfl (onP e1)
   refine stP hf rfl rfl rfl (pM rfl) fun a hf => cNil ?_
   refine xThenN ?_
   intro ds u hau
   refine ⟨θ,he.put0 hi hau hf rfl 13 rfl rfl,?_⟩
   exact hc
  ·intro E θ a w hD hi hp he hc
   have e2 := hp.of (k := 2) rfl
   rcases boolEq (r_13.2 == 0) with hb | hb
   ·have hf := he.h0
    replace hf := hf.more he 1 rfl onT
    replace hf := hf.more he 13 rfl (onP e2)
    replace hf := castB hb hf
    refine stP hf rfl rfl rfl (pM rfl) fun a hf => ?_
    replace hf := castI (u := undef) hb hf
    refine cNil ?_
    refine xThenN ?_
    intro ds u hau
    refine ⟨θ,he.put0 hi hau hf rfl 14 rfl rfl,?_⟩
    exact hc
   ·have hf := he.h0
    replace hf := hf.more he 1 rfl onT
    replace hf := hf.more he 13 rfl (onP e2)
    replace hf := castB hb hf
    refine stS hf rfl rfl rfl fun a hf => ?_
    replace hf := castJ (u := i6 r_15.2) hb hf
    refine cNil ?_
    refine xThenN ?_
    intro ds u hau
    refine ⟨θ,he.put0 hi hau hf rfl 14 rfl rfl,?_⟩
    exact hc
  ·intro E θ a w hD hi hp he hc
   have e2 := hp.of (k := 2) rfl
   have e3 := hp.of (k := 3) rfl
   rcases boolEq (r_13.2 == 0) with hb | hb
   ·have hf := he.h0
    replace hf := hf.more he 13 rfl (onP e2)
    replace hf := castB hb hf
    replace hf := hf.more he 14 rfl (onP e3)
    replace hf := castCT hb hf
    refine stP hf rfl rfl rfl (pEq rfl rfl) fun a hf => ?_
    replace hf := castI (u := undef) hb hf
    refine cNil ?_
    refine xThenN ?_
    intro ds u hau
    refine ⟨θ,he.put0 hi hau hf rfl 15 rfl rfl,?_⟩
    exact hc
   ·have hf := he.h0
    replace hf := hf.more he 13 rfl (onP e2)
    replace hf := castB hb hf
    replace hf := hf.more he 14 rfl (onP e3)
    replace hf := castCF hb hf
    refine stS hf rfl rfl rfl fun a hf => ?_
    replace hf := castJ (u := .bool (r_15.2 == 0)) hb hf
    refine cNil ?_
    refine xThenN ?_
    intro ds u hau
    refine ⟨θ,he.put0 hi hau hf rfl 15 rfl rfl,?_⟩
    exact hc
  ·intro E θ a w hD hi hp he hc
   have e2 := hp.of (k := 2) rfl
   have e4 := hp.of (k := 4) rfl
   rcases boolEq (r_13.2 == 0) with hb | hb
   ·have hf := he.h0
    replace hf := hf.more he 13 rfl (onP e2)
    replace hf := castB hb hf
    replace hf := hf.more he 15 rfl (onP e4)
    replace hf := castCT hb hf
    refine stP hf rfl rfl rfl (pPt rfl rfl) fun a hf => ?_
    replace hf := castV (v' := .bool ((r_13.2 == 0) && (r_15.2 == 0))) (congrArg Value.bool (andT hb)) hf
    refine cNil ?_
    refine xThenN ?_
    intro ds u hau
    refine ⟨θ,he.put0 hi hau hf rfl 16 rfl rfl,?_⟩
    exact hc
   ·have hf := he.h0
    replace hf := hf.more he 13 rfl (onP e2)
    replace hf := castB hb hf
    replace hf := hf.more he 15 rfl (onP e4)
    replace hf := castCF hb hf
    refine stP hf rfl rfl rfl (pPf rfl rfl) fun a hf => ?_
    replace hf := castV (v' := .bool ((r_13.2 == 0) && (r_15.2 == 0))) (congrArg Value.bool (andF hb)) hf
    refine cNil ?_
    refine xThenN ?_
    intro ds u hau
    refine ⟨θ,he.put0 hi hau hf rfl 16 rfl rfl,?_⟩
    exact hc
  ·intro E θ a w hD hi hp he hc
   have e5 := hp.of (k := 5) rfl
   have hf := he.h0
   replace hf := hf.more he 16 rfl (onP e5)
   refine stP hf rfl rfl rfl (pM rfl) fun a hf => cNil ?_
   refine xThenN ?_
   intro ds u hau
   refine ⟨θ,he.put0 hi hau hf rfl 17 rfl rfl,?_⟩
   exact hc
  ·intro E θ a w hD hi hp he hc
   have e6 := hp.of (k := 6) rfl
   rcases boolEq ((r_13.2 == 0) && (r_15.2 == 0)) with hb | hb
   ·have hf := he.h0
    replace hf := hf.more he 2 rfl onT
    replace hf := hf.more he 17 rfl (onP e6)
    replace hf := castB hb hf
    refine stP hf rfl rfl rfl (pM rfl) fun a hf => ?_
    replace hf := castI (u := undef) hb hf
    refine cNil ?_
    refine xThenN ?_
    intro ds u hau
    refine ⟨θ,he.put0 hi hau hf rfl 18 rfl rfl,?_⟩
    exact hc
   ·have hf := he.h0
    replace hf := hf.more he 2 rfl onT
    replace hf := hf.more he 17 rfl (onP e6)
    replace hf := castB hb hf
    refine stS hf rfl rfl rfl fun a hf => ?_
    replace hf := castJ (u := i6 r_17.2.2) hb hf
    refine cNil ?_
    refine xThenN ?_
    intro ds u hau
    refine ⟨θ,he.put0 hi hau hf rfl 18 rfl rfl,?_⟩
    exact hc
  ·intro E θ a w hD hi hp he hc
   have e6 := hp.of (k := 6) rfl
   have e7 := hp.of (k := 7) rfl
   rcases boolEq ((r_13.2 == 0) && (r_15.2 == 0)) with hb | hb
   ·have hf := he.h0
    replace hf := hf.more he 17 rfl (onP e6)
    replace hf := castB hb hf
    replace hf := hf.more he 18 rfl (onP e7)
    replace hf := castCT hb hf
    refine stP hf rfl rfl rfl (pEq rfl rfl) fun a hf => ?_
    replace hf := castI (u := undef) hb hf
    refine cNil ?_
    refine xThenN ?_
    intro ds u hau
    refine ⟨θ,he.put0 hi hau hf rfl 19 rfl rfl,?_⟩
    exact hc
   ·have hf := he.h0
    replace hf := hf.more he 17 rfl (onP e6)
    replace hf := castB hb hf
    replace hf := hf.more he 18 rfl (onP e7)
    replace hf := castCF hb hf
    refine stS hf rfl rfl rfl fun a hf => ?_
    replace hf := castJ (u := .bool (r_17.2.2 == 0)) hb hf
    refine cNil ?_
    refine xThenN ?_
    intro ds u hau
    refine ⟨θ,he.put0 hi hau hf rfl 19 rfl rfl,?_⟩
    exact hc
  ·intro E θ a w hD hi hp he hc
   have e6 := hp.of (k := 6) rfl
   have e8 := hp.of (k := 8) rfl
   rcases boolEq ((r_13.2 == 0) && (r_15.2 == 0)) with hb | hb
   ·have hf := he.h0
    replace hf := hf.more he 17 rfl (onP e6)
    replace hf := castB hb hf
    replace hf := hf.more he 19 rfl (onP e8)
    replace hf := castCT hb hf
    refine stP hf rfl rfl rfl (pPt rfl rfl) fun a hf => ?_
    replace hf := castV (v' := .bool (((r_13.2 == 0) && (r_15.2 == 0)) && (r_17.2.2 == 0))) (congrArg Value.bool (andT hb)) hf
    refine cNil ?_
    refine xThenN ?_
    intro ds u hau
    refine ⟨θ,he.put0 hi hau hf rfl 20 rfl rfl,?_⟩
    exact hc
   ·have hf := he.h0
    replace hf := hf.more he 17 rfl (onP e6)
    replace hf := castB hb hf
    replace hf := hf.more he 19 rfl (onP e8)
    replace hf := castCF hb hf
    refine stP hf rfl rfl rfl (pPf rfl rfl) fun a hf => ?_
    replace hf := castV (v' := .bool (((r_13.2 == 0) && (r_15.2 == 0)) && (r_17.2.2 == 0))) (congrArg Value.bool (andF hb)) hf
    refine cNil ?_
    refine xThenN ?_
    intro ds u hau
    refine ⟨θ,he.put0 hi hau hf rfl 20 rfl rfl,?_⟩
    exact hc
  ·intro E θ a w hD hi hp he hc
   have e9 := hp.of (k := 9) rfl
   have hf := he.h0
   replace hf := hf.more he 20 rfl (onP e9)
   refine stP hf rfl rfl rfl (pM rfl) fun a hf => cNil ?_
   refine xThenN ?_
   intro ds u hau
   refine ⟨θ,he.put0 hi hau hf rfl 21 rfl rfl,?_⟩
   exact hc
  ·intro E θ a w hD hi hp he hc
   have e10 := hp.of (k := 10) rfl
   rcases boolEq (((r_13.2 == 0) && (r_15.2 == 0)) && (r_17.2.2 == 0)) with hb | hb
   ·have hf := he.h0
    replace hf := hf.more he 3 rfl onT
    replace hf := hf.more he 21 rfl (onP e10)
    replace hf := castB hb hf
    refine stP hf rfl rfl rfl (pM rfl) fun a hf => ?_
    replace hf := castI (u := undef) hb hf
    refine cNil ?_
    refine xThenN ?_
    intro ds u hau
    refine ⟨θ,he.put0 hi hau hf rfl 22 rfl rfl,?_⟩
    exact hc
   ·have hf := he.h0
    replace hf := hf.more he 3 rfl onT
    replace hf := hf.more he 21 rfl (onP e10)
    replace hf := castB hb hf
    refine stS hf rfl rfl rfl fun a hf => ?_
    replace hf := castJ (u := i6 r_20.2) hb hf
    refine cNil ?_
    refine xThenN ?_
    intro ds u hau
    refine ⟨θ,he.put0 hi hau hf rfl 22 rfl rfl,?_⟩
    exact hc
  ·intro E θ a w hD hi hp he hc
   have e10 := hp.of (k := 10) rfl
   have e11 := hp.of (k := 11) rfl
   rcases boolEq (((r_13.2 == 0) && (r_15.2 == 0)) && (r_17.2.2 == 0)) with hb | hb
   ·have hf := he.h0
    replace hf := hf.more he 21 rfl (onP e10)
    replace hf := castB hb hf
    replace hf := hf.more he 22 rfl (onP e11)
    replace hf := castCT hb hf
    refine stP hf rfl rfl rfl (pEq rfl rfl) fun a hf => ?_
    replace hf := castI (u := undef) hb hf
    refine cNil ?_
    refine xThenN ?_
    intro ds u hau
    refine ⟨θ,he.put0 hi hau hf rfl 23 rfl rfl,?_⟩
    exact hc
   ·have hf := he.h0
    replace hf := hf.more he 21 rfl (onP e10)
    replace hf := castB hb hf
    replace hf := hf.more he 22 rfl (onP e11)
    replace hf := castCF hb hf
    refine stS hf rfl rfl rfl fun a hf => ?_
    replace hf := castJ (u := .bool (r_20.2 == 0)) hb hf
    refine cNil ?_
    refine xThenN ?_
    intro ds u hau
    refine ⟨θ,he.put0 hi hau hf rfl 23 rfl rfl,?_⟩
    exact hc
  ·intro E θ a w hD hi hp he hc
   have e10 := hp.of (k := 10) rfl
   have e12 := hp.of (k := 12) rfl
   rcases boolEq (((r_13.2 == 0) && (r_15.2 == 0)) && (r_17.2.2 == 0)) with hb | hb
   ·have hf := he.h0
    replace hf := hf.more he 21 rfl (onP e10)
    replace hf := castB hb hf
    replace hf := hf.more he 23 rfl (onP e12)
    replace hf := castCT hb hf
    refine stP hf rfl rfl rfl (pPt rfl rfl) fun a hf => ?_
    replace hf := castV (v' := .bool ((((r_13.2 == 0) && (r_15.2 == 0)) && (r_17.2.2 == 0)) && (r_20.2 == 0))) (congrArg Value.bool (andT hb)) hf
    refine cNil ?_
    refine xThenN ?_
    intro ds u hau
    refine ⟨θ,he.put0 hi hau hf rfl 24 rfl rfl,?_⟩
    exact hc
   ·have hf := he.h0
    replace hf := hf.more he 21 rfl (onP e10)
    replace hf := castB hb hf
    replace hf := hf.more he 23 rfl (onP e12)
    replace hf := castCF hb hf
    refine stP hf rfl rfl rfl (pPf rfl rfl) fun a hf => ?_
    replace hf := castV (v' := .bool ((((r_13.2 == 0) && (r_15.2 == 0)) && (r_17.2.2 == 0)) && (r_20.2 == 0))) (congrArg Value.bool (andF hb)) hf
    refine cNil ?_
    refine xThenN ?_
    intro ds u hau
    refine ⟨θ,he.put0 hi hau hf rfl 24 rfl rfl,?_⟩
    exact hc
  ·intro E θ a w hD hi hp he hc
   have e13 := hp.of (k := 13) rfl
   have hf := he.h0
   replace hf := hf.more he 24 rfl (onP e13)
   refine stP hf rfl rfl rfl (pM rfl) fun a hf => cNil ?_
   refine xThenN ?_
   intro ds u hau
   refine ⟨θ,he.put0 hi hau hf rfl 25 rfl rfl,?_⟩
   exact hc
  ·intro E θ a w hD hi hp he hc
   have e14 := hp.of (k := 14) rfl
   rcases boolEq ((((r_13.2 == 0) && (r_15.2 == 0)) && (r_17.2.2 == 0)) && (r_20.2 == 0)) with hb | hb
   ·have hf := he.h0
    replace hf := hf.more he 6 rfl onT
    replace hf := hf.more he 25 rfl (onP e14)
    replace hf := castB hb hf
    refine stP hf rfl rfl rfl (pM rfl) fun a hf => ?_
    replace hf := castI (u := undef) hb hf
    refine cNil ?_
    refine xThenN ?_
    intro ds u hau
    refine ⟨θ,he.put0 hi hau hf rfl 26 rfl rfl,?_⟩
    exact hc
   ·have hf := he.h0
    replace hf := hf.more he 6 rfl onT
    replace hf := hf.more he 25 rfl (onP e14)
    replace hf := castB hb hf
    refine stS hf rfl rfl rfl fun a hf => ?_
    replace hf := castJ (u := i6 r_21.2) hb hf
    refine cNil ?_
    refine xThenN ?_
    intro ds u hau
    refine ⟨θ,he.put0 hi hau hf rfl 26 rfl rfl,?_⟩
    exact hc
  ·intro E θ a w hD hi hp he hc
   have e14 := hp.of (k := 14) rfl
   have e15 := hp.of (k := 15) rfl
   rcases boolEq ((((r_13.2 == 0) && (r_15.2 == 0)) && (r_17.2.2 == 0)) && (r_20.2 == 0)) with hb | hb
   ·have hf := he.h0
    replace hf := hf.more he 25 rfl (onP e14)
    replace hf := castB hb hf
    replace hf := hf.more he 26 rfl (onP e15)
    replace hf := castCT hb hf
    refine stP hf rfl rfl rfl (pEq rfl rfl) fun a hf => ?_
    replace hf := castI (u := undef) hb hf
    refine cNil ?_
    refine xThenN ?_
    intro ds u hau
    refine ⟨θ,he.put0 hi hau hf rfl 27 rfl rfl,?_⟩
    exact hc
   ·have hf := he.h0
    replace hf := hf.more he 25 rfl (onP e14)
    replace hf := castB hb hf
    replace hf := hf.more he 26 rfl (onP e15)
    replace hf := castCF hb hf
    refine stS hf rfl rfl rfl fun a hf => ?_
    replace hf := castJ (u := .bool (r_21.2 == 0)) hb hf
    refine cNil ?_
    refine xThenN ?_
    intro ds u hau
    refine ⟨θ,he.put0 hi hau hf rfl 27 rfl rfl,?_⟩
    exact hc
  ·intro E θ a w hD hi hp he hc
   have e14 := hp.of (k := 14) rfl
   have e16 := hp.of (k := 16) rfl
   rcases boolEq ((((r_13.2 == 0) && (r_15.2 == 0)) && (r_17.2.2 == 0)) && (r_20.2 == 0)) with hb | hb
   ·have hf := he.h0
    replace hf := hf.more he 25 rfl (onP e14)
    replace hf := castB hb hf
    replace hf := hf.more he 27 rfl (onP e16)
    replace hf := castCT hb hf
    refine stP hf rfl rfl rfl (pPt rfl rfl) fun a hf => ?_
    replace hf := castV (v' := .bool (((((r_13.2 == 0) && (r_15.2 == 0)) && (r_17.2.2 == 0)) && (r_20.2 == 0)) && (r_21.2 == 0))) (congrArg Value.bool (andT hb)) hf
    refine cNil ?_
    refine xThenN ?_
    intro ds u hau
    refine ⟨θ,he.put0 hi hau hf rfl 28 rfl rfl,?_⟩
    exact hc
   ·have hf := he.h0
    replace hf := hf.more he 25 rfl (onP e14)
    replace hf := castB hb hf
    replace hf := hf.more he 27 rfl (onP e16)
    replace hf := castCF hb hf
    refine stP hf rfl rfl rfl (pPf rfl rfl) fun a hf => ?_
    replace hf := castV (v' := .bool (((((r_13.2 == 0) && (r_15.2 == 0)) && (r_17.2.2 == 0)) && (r_20.2 == 0)) && (r_21.2 == 0))) (congrArg Value.bool (andF hb)) hf
    refine cNil ?_
    refine xThenN ?_
    intro ds u hau
    refine ⟨θ,he.put0 hi hau hf rfl 28 rfl rfl,?_⟩
    exact hc
  ·intro E θ a w hD hi hp he hc
   have e17 := hp.of (k := 17) rfl
   have hf := he.h0
   replace hf := hf.more he 28 rfl (onP e17)
   refine stP hf rfl rfl rfl (pM rfl) fun a hf => cNil ?_
   refine xThenN ?_
   intro ds u hau
   refine ⟨θ,he.put0 hi hau hf rfl 29 rfl rfl,?_⟩
   exact hc
  ·intro E θ a w hD hi hp he hc
   have e18 := hp.of (k := 18) rfl
   rcases boolEq (((((r_13.2 == 0) && (r_15.2 == 0)) && (r_17.2.2 == 0)) && (r_20.2 == 0)) && (r_21.2 == 0)) with hb | hb
   ·have hf := he.h0
    replace hf := hf.more he 7 rfl onT
    replace hf := hf.more he 29 rfl (onP e18)
    replace hf := castB hb hf
    refine stP hf rfl rfl rfl (pM rfl) fun a hf => ?_
    replace hf := castI (u := undef) hb hf
    refine cNil ?_
    refine xThenN ?_
    intro ds u hau
    refine ⟨θ,he.put0 hi hau hf rfl 30 rfl rfl,?_⟩
    exact hc
   ·have hf := he.h0
    replace hf := hf.more he 7 rfl onT
    replace hf := hf.more he 29 rfl (onP e18)
    replace hf := castB hb hf
    refine stS hf rfl rfl rfl fun a hf => ?_
    replace hf := castJ (u := i6 r_13.1) hb hf
    refine cNil ?_
    refine xThenN ?_
    intro ds u hau
    refine ⟨θ,he.put0 hi hau hf rfl 30 rfl rfl,?_⟩
    exact hc
  ·intro E θ a w hD hi hp he hc
   have e18 := hp.of (k := 18) rfl
   have e19 := hp.of (k := 19) rfl
   rcases boolEq (((((r_13.2 == 0) && (r_15.2 == 0)) && (r_17.2.2 == 0)) && (r_20.2 == 0)) && (r_21.2 == 0)) with hb | hb
   ·have hf := he.h0
    replace hf := hf.more he 29 rfl (onP e18)
    replace hf := castB hb hf
    replace hf := hf.more he 30 rfl (onP e19)
    replace hf := castCT hb hf
    refine stP hf rfl rfl rfl (pEq rfl rfl) fun a hf => ?_
    replace hf := castI (u := undef) hb hf
    refine cNil ?_
    refine xThenN ?_
    intro ds u hau
    refine ⟨θ,he.put0 hi hau hf rfl 31 rfl rfl,?_⟩
    exact hc
   ·have hf := he.h0
    replace hf := hf.more he 29 rfl (onP e18)
    replace hf := castB hb hf
    replace hf := hf.more he 30 rfl (onP e19)
    replace hf := castCF hb hf
    refine stS hf rfl rfl rfl fun a hf => ?_
    replace hf := castJ (u := .bool (r_13.1 == 5)) hb hf
    refine cNil ?_
    refine xThenN ?_
    intro ds u hau
    refine ⟨θ,he.put0 hi hau hf rfl 31 rfl rfl,?_⟩
    exact hc
  ·intro E θ a w hD hi hp he hc
   have e18 := hp.of (k := 18) rfl
   have e20 := hp.of (k := 20) rfl
   rcases boolEq (((((r_13.2 == 0) && (r_15.2 == 0)) && (r_17.2.2 == 0)) && (r_20.2 == 0)) && (r_21.2 == 0)) with hb | hb
   ·have hf := he.h0
    replace hf := hf.more he 29 rfl (onP e18)
    replace hf := castB hb hf
    replace hf := hf.more he 31 rfl (onP e20)
    replace hf := castCT hb hf
    refine stP hf rfl rfl rfl (pPt rfl rfl) fun a hf => ?_
    replace hf := castV (v' := .bool ((((((r_13.2 == 0) && (r_15.2 == 0)) && (r_17.2.2 == 0)) && (r_20.2 == 0)) && (r_21.2 == 0)) && (r_13.1 == 5))) (congrArg Value.bool (andT hb)) hf
    refine cNil ?_
    refine xThenN ?_
    intro ds u hau
    refine ⟨θ,he.put0 hi hau hf rfl 32 rfl rfl,?_⟩
    exact hc
   ·have hf := he.h0
    replace hf := hf.more he 29 rfl (onP e18)
    replace hf := castB hb hf
    replace hf := hf.more he 31 rfl (onP e20)
    replace hf := castCF hb hf
    refine stP hf rfl rfl rfl (pPf rfl rfl) fun a hf => ?_
    replace hf := castV (v' := .bool ((((((r_13.2 == 0) && (r_15.2 == 0)) && (r_17.2.2 == 0)) && (r_20.2 == 0)) && (r_21.2 == 0)) && (r_13.1 == 5))) (congrArg Value.bool (andF hb)) hf
    refine cNil ?_
    refine xThenN ?_
    intro ds u hau
    refine ⟨θ,he.put0 hi hau hf rfl 32 rfl rfl,?_⟩
    exact hc
  ·intro E θ a w hD hi hp he hc
   have e21 := hp.of (k := 21) rfl
   have hf := he.h0
   replace hf := hf.more he 32 rfl (onP e21)
   refine stP hf rfl rfl rfl (pM rfl) fun a hf => cNil ?_
   refine xThenN ?_
   intro ds u hau
   refine ⟨θ,he.put0 hi hau hf rfl 33 rfl rfl,?_⟩
   exact hc
  ·intro E θ a w hD hi hp he hc
   have e22 := hp.of (k := 22) rfl
   rcases boolEq ((((((r_13.2 == 0) && (r_15.2 == 0)) && (r_17.2.2 == 0)) && (r_20.2 == 0)) && (r_21.2 == 0)) && (r_13.1 == 5)) with hb | hb
   ·have hf := he.h0
    replace hf := hf.more he 8 rfl onT
    replace hf := hf.more he 33 rfl (onP e22)
    replace hf := castB hb hf
    refine stE hf hc rfl rfl rfl (eLdN (vs := [i6 r_15.1.Lo,i6 r_15.1.Hi]) ag_29 rfl rfl (cells_box (n := 2) m6 rfl)) fun a w hf hc => ?_
    replace hf := castI (u := undef) hb hf
    refine cNil ?_
    refine xThenN ?_
    intro ds u hau
    refine ⟨θ,he.put0 hi hau hf rfl 34 rfl rfl,?_⟩
    exact hc
   ·have hf := he.h0
    replace hf := hf.more he 8 rfl onT
    replace hf := hf.more he 33 rfl (onP e22)
    replace hf := castB hb hf
    refine stS hf rfl rfl rfl fun a hf => ?_
    replace hf := castJ (u := .agg #[i6 r_15.1.Lo,i6 r_15.1.Hi]) hb hf
    refine cNil ?_
    refine xThenN ?_
    intro ds u hau
    refine ⟨θ,he.put0 hi hau hf rfl 34 rfl rfl,?_⟩
    exact hc
  ·intro E θ a w hD hi hp he hc
   have e22 := hp.of (k := 22) rfl
   rcases boolEq ((((((r_13.2 == 0) && (r_15.2 == 0)) && (r_17.2.2 == 0)) && (r_20.2 == 0)) && (r_21.2 == 0)) && (r_13.1 == 5)) with hb | hb
   ·have hf := he.h0
    replace hf := hf.more he 33 rfl (onP e22)
    replace hf := castB hb hf
    refine stE hf hc rfl rfl rfl (eC (v := .agg #[i6 r_22.Lo,i6 r_22.Hi]) (vs := [i6 290,i6 320]) (caps := []) en_51 rfl rfl rfl rfl (fun w hc => law11_span_ok 290 320 hc (condT hb hr_22))) fun a w hf hc => ?_
    replace hf := castI (u := undef) hb hf
    refine cNil ?_
    refine xThenN ?_
    intro ds u hau
    refine ⟨θ,he.put0 hi hau hf rfl 35 rfl rfl,?_⟩
    exact hc
   ·have hf := he.h0
    replace hf := hf.more he 33 rfl (onP e22)
    replace hf := castB hb hf
    refine stS hf rfl rfl rfl fun a hf => ?_
    replace hf := castJ (u := .agg #[i6 r_22.Lo,i6 r_22.Hi]) hb hf
    refine cNil ?_
    refine xThenN ?_
    intro ds u hau
    refine ⟨θ,he.put0 hi hau hf rfl 35 rfl rfl,?_⟩
    exact hc
  ·intro E θ a w hD hi hp he hc
   have e22 := hp.of (k := 22) rfl
   have e23 := hp.of (k := 23) rfl
   have e24 := hp.of (k := 24) rfl
   rcases boolEq ((((((r_13.2 == 0) && (r_15.2 == 0)) && (r_17.2.2 == 0)) && (r_20.2 == 0)) && (r_21.2 == 0)) && (r_13.1 == 5)) with hb | hb
   ·have hf := he.h0
    replace hf := hf.more he 33 rfl (onP e22)
    replace hf := castB hb hf
    replace hf := hf.more he 34 rfl (onP e23)
    replace hf := castCT hb hf
    replace hf := hf.more he 35 rfl (onP e24)
    replace hf := castCT hb hf
    refine stP hf rfl rfl rfl (pEqA ge_29 rfl rfl (eqs_29 _ _ _ _)) fun a hf => ?_
    replace hf := castI (u := undef) hb hf
    refine cNil ?_
    refine xThenN ?_
    intro ds u hau
    refine ⟨θ,he.put0 hi hau hf rfl 36 rfl rfl,?_⟩
    exact hc
   ·have hf := he.h0
    replace hf := hf.more he 33 rfl (onP e22)
    replace hf := castB hb hf
    replace hf := hf.more he 34 rfl (onP e23)
    replace hf := castCF hb hf
    replace hf := hf.more he 35 rfl (onP e24)
    replace hf := castCF hb hf
    refine stS hf rfl rfl rfl fun a hf => ?_
    replace hf := castJ (u := .bool (r_15.1.Lo == r_22.Lo && r_15.1.Hi == r_22.Hi)) hb hf
    refine cNil ?_
    refine xThenN ?_
    intro ds u hau
    refine ⟨θ,he.put0 hi hau hf rfl 36 rfl rfl,?_⟩
    exact hc
  ·intro E θ a w hD hi hp he hc
   have e22 := hp.of (k := 22) rfl
   have e25 := hp.of (k := 25) rfl
   rcases boolEq ((((((r_13.2 == 0) && (r_15.2 == 0)) && (r_17.2.2 == 0)) && (r_20.2 == 0)) && (r_21.2 == 0)) && (r_13.1 == 5)) with hb | hb
   ·have hf := he.h0
    replace hf := hf.more he 33 rfl (onP e22)
    replace hf := castB hb hf
    replace hf := hf.more he 36 rfl (onP e25)
    replace hf := castCT hb hf
    refine stP hf rfl rfl rfl (pPt rfl rfl) fun a hf => ?_
    replace hf := castV (v' := .bool (((((((r_13.2 == 0) && (r_15.2 == 0)) && (r_17.2.2 == 0)) && (r_20.2 == 0)) && (r_21.2 == 0)) && (r_13.1 == 5)) && (r_15.1.Lo == r_22.Lo && r_15.1.Hi == r_22.Hi))) (congrArg Value.bool (andT hb)) hf
    refine cNil ?_
    refine xThenN ?_
    intro ds u hau
    refine ⟨θ,he.put0 hi hau hf rfl 37 rfl rfl,?_⟩
    exact hc
   ·have hf := he.h0
    replace hf := hf.more he 33 rfl (onP e22)
    replace hf := castB hb hf
    replace hf := hf.more he 36 rfl (onP e25)
    replace hf := castCF hb hf
    refine stP hf rfl rfl rfl (pPf rfl rfl) fun a hf => ?_
    replace hf := castV (v' := .bool (((((((r_13.2 == 0) && (r_15.2 == 0)) && (r_17.2.2 == 0)) && (r_20.2 == 0)) && (r_21.2 == 0)) && (r_13.1 == 5)) && (r_15.1.Lo == r_22.Lo && r_15.1.Hi == r_22.Hi))) (congrArg Value.bool (andF hb)) hf
    refine cNil ?_
    refine xThenN ?_
    intro ds u hau
    refine ⟨θ,he.put0 hi hau hf rfl 37 rfl rfl,?_⟩
    exact hc
  ·intro E θ a w hD hi hp he hc
   have e26 := hp.of (k := 26) rfl
   have hf := he.h0
   replace hf := hf.more he 37 rfl (onP e26)
   refine stP hf rfl rfl rfl (pM rfl) fun a hf => cNil ?_
   refine xThenN ?_
   intro ds u hau
   refine ⟨θ,he.put0 hi hau hf rfl 38 rfl rfl,?_⟩
   exact hc
  ·intro E θ a w hD hi hp he hc
   have e27 := hp.of (k := 27) rfl
   rcases boolEq (((((((r_13.2 == 0) && (r_15.2 == 0)) && (r_17.2.2 == 0)) && (r_20.2 == 0)) && (r_21.2 == 0)) && (r_13.1 == 5)) && (r_15.1.Lo == r_22.Lo && r_15.1.Hi == r_22.Hi)) with hb | hb
   ·have hf := he.h0
    replace hf := hf.more he 4 rfl onT
    replace hf := hf.more he 38 rfl (onP e27)
    replace hf := castB hb hf
    refine stP hf rfl rfl rfl (pM rfl) fun a hf => ?_
    replace hf := castI (u := undef) hb hf
    refine cNil ?_
    refine xThenN ?_
    intro ds u hau
    refine ⟨θ,he.put0 hi hau hf rfl 39 rfl rfl,?_⟩
    exact hc
   ·have hf := he.h0
    replace hf := hf.more he 4 rfl onT
    replace hf := hf.more he 38 rfl (onP e27)
    replace hf := castB hb hf
    refine stS hf rfl rfl rfl fun a hf => ?_
    replace hf := castJ (u := i6 r_17.1) hb hf
    refine cNil ?_
    refine xThenN ?_
    intro ds u hau
    refine ⟨θ,he.put0 hi hau hf rfl 39 rfl rfl,?_⟩
    exact hc
  ·intro E θ a w hD hi hp he hc
   have e27 := hp.of (k := 27) rfl
   have e28 := hp.of (k := 28) rfl
   rcases boolEq (((((((r_13.2 == 0) && (r_15.2 == 0)) && (r_17.2.2 == 0)) && (r_20.2 == 0)) && (r_21.2 == 0)) && (r_13.1 == 5)) && (r_15.1.Lo == r_22.Lo && r_15.1.Hi == r_22.Hi)) with hb | hb
   ·have hf := he.h0
    replace hf := hf.more he 38 rfl (onP e27)
    replace hf := castB hb hf
    replace hf := hf.more he 39 rfl (onP e28)
    replace hf := castCT hb hf
    refine stP hf rfl rfl rfl (pEq rfl rfl) fun a hf => ?_
    replace hf := castI (u := undef) hb hf
    refine cNil ?_
    refine xThenN ?_
    intro ds u hau
    refine ⟨θ,he.put0 hi hau hf rfl 40 rfl rfl,?_⟩
    exact hc
   ·have hf := he.h0
    replace hf := hf.more he 38 rfl (onP e27)
    replace hf := castB hb hf
    replace hf := hf.more he 39 rfl (onP e28)
    replace hf := castCF hb hf
    refine stS hf rfl rfl rfl fun a hf => ?_
    replace hf := castJ (u := .bool (r_17.1 == 5)) hb hf
    refine cNil ?_
    refine xThenN ?_
    intro ds u hau
    refine ⟨θ,he.put0 hi hau hf rfl 40 rfl rfl,?_⟩
    exact hc
  ·intro E θ a w hD hi hp he hc
   have e27 := hp.of (k := 27) rfl
   have e29 := hp.of (k := 29) rfl
   rcases boolEq (((((((r_13.2 == 0) && (r_15.2 == 0)) && (r_17.2.2 == 0)) && (r_20.2 == 0)) && (r_21.2 == 0)) && (r_13.1 == 5)) && (r_15.1.Lo == r_22.Lo && r_15.1.Hi == r_22.Hi)) with hb | hb
   ·have hf := he.h0
    replace hf := hf.more he 38 rfl (onP e27)
    replace hf := castB hb hf
    replace hf := hf.more he 40 rfl (onP e29)
    replace hf := castCT hb hf
    refine stP hf rfl rfl rfl (pPt rfl rfl) fun a hf => ?_
    replace hf := castV (v' := .bool ((((((((r_13.2 == 0) && (r_15.2 == 0)) && (r_17.2.2 == 0)) && (r_20.2 == 0)) && (r_21.2 == 0)) && (r_13.1 == 5)) && (r_15.1.Lo == r_22.Lo && r_15.1.Hi == r_22.Hi)) && (r_17.1 == 5))) (congrArg Value.bool (andT hb)) hf
    refine cNil ?_
    refine xThenN ?_
    intro ds u hau
    refine ⟨θ,he.put0 hi hau hf rfl 41 rfl rfl,?_⟩
    exact hc
   ·have hf := he.h0
    replace hf := hf.more he 38 rfl (onP e27)
    replace hf := castB hb hf
    replace hf := hf.more he 40 rfl (onP e29)
    replace hf := castCF hb hf
    refine stP hf rfl rfl rfl (pPf rfl rfl) fun a hf => ?_
    replace hf := castV (v' := .bool ((((((((r_13.2 == 0) && (r_15.2 == 0)) && (r_17.2.2 == 0)) && (r_20.2 == 0)) && (r_21.2 == 0)) && (r_13.1 == 5)) && (r_15.1.Lo == r_22.Lo && r_15.1.Hi == r_22.Hi)) && (r_17.1 == 5))) (congrArg Value.bool (andF hb)) hf
    refine cNil ?_
    refine xThenN ?_
    intro ds u hau
    refine ⟨θ,he.put0 hi hau hf rfl 41 rfl rfl,?_⟩
    exact hc
  ·intro E θ a w hD hi hp he hc
   have e30 := hp.of (k := 30) rfl
   have hf := he.h0
   replace hf := hf.more he 41 rfl (onP e30)
   refine stP hf rfl rfl rfl (pM rfl) fun a hf => cNil ?_
   refine xThenN ?_
   intro ds u hau
   refine ⟨θ,he.put0 hi hau hf rfl 42 rfl rfl,?_⟩
   exact hc
  ·intro E θ a w hD hi hp he hc
   have e31 := hp.of (k := 31) rfl
   rcases boolEq ((((((((r_13.2 == 0) && (r_15.2 == 0)) && (r_17.2.2 == 0)) && (r_20.2 == 0)) && (r_21.2 == 0)) && (r_13.1 == 5)) && (r_15.1.Lo == r_22.Lo && r_15.1.Hi == r_22.Hi)) && (r_17.1 == 5)) with hb | hb
   ·have hf := he.h0
    replace hf := hf.more he 5 rfl onT
    replace hf := hf.more he 42 rfl (onP e31)
    replace hf := castB hb hf
    refine stP hf rfl rfl rfl (pM rfl) fun a hf => ?_
    replace hf := castI (u := undef) hb hf
    refine cNil ?_
    refine xThenN ?_
    intro ds u hau
    refine ⟨θ,he.put0 hi hau hf rfl 43 rfl rfl,?_⟩
    exact hc
   ·have hf := he.h0
    replace hf := hf.more he 5 rfl onT
    replace hf := hf.more he 42 rfl (onP e31)
    replace hf := castB hb hf
    refine stS hf rfl rfl rfl fun a hf => ?_
    replace hf := castJ (u := i6 r_17.2.1) hb hf
    refine cNil ?_
    refine xThenN ?_
    intro ds u hau
    refine ⟨θ,he.put0 hi hau hf rfl 43 rfl rfl,?_⟩
    exact hc
  ·intro E θ a w hD hi hp he hc
   have e31 := hp.of (k := 31) rfl
   have e32 := hp.of (k := 32) rfl
   rcases boolEq ((((((((r_13.2 == 0) && (r_15.2 == 0)) && (r_17.2.2 == 0)) && (r_20.2 == 0)) && (r_21.2 == 0)) && (r_13.1 == 5)) && (r_15.1.Lo == r_22.Lo && r_15.1.Hi == r_22.Hi)) && (r_17.1 == 5)) with hb | hb
   ·have hf := he.h0
    replace hf := hf.more he 42 rfl (onP e31)
    replace hf := castB hb hf
    replace hf := hf.more he 43 rfl (onP e32)
    replace hf := castCT hb hf
    refine stP hf rfl rfl rfl (pEq rfl rfl) fun a hf => ?_
    replace hf := castI (u := undef) hb hf
    refine cNil ?_
    refine xThenN ?_
    intro ds u hau
    refine ⟨θ,he.put0 hi hau hf rfl 44 rfl rfl,?_⟩
    exact hc
   ·have hf := he.h0
    replace hf := hf.more he 42 rfl (onP e31)
    replace hf := castB hb hf
    replace hf := hf.more he 43 rfl (onP e32)
    replace hf := castCF hb hf
    refine stS hf rfl rfl rfl fun a hf => ?_
    replace hf := castJ (u := .bool (r_17.2.1 == (-1))) hb hf
    refine cNil ?_
    refine xThenN ?_
    intro ds u hau
    refine ⟨θ,he.put0 hi hau hf rfl 44 rfl rfl,?_⟩
    exact hc
  ·intro E θ a w hD hi hp he hc
   have e31 := hp.of (k := 31) rfl
   have e33 := hp.of (k := 33) rfl
   rcases boolEq ((((((((r_13.2 == 0) && (r_15.2 == 0)) && (r_17.2.2 == 0)) && (r_20.2 == 0)) && (r_21.2 == 0)) && (r_13.1 == 5)) && (r_15.1.Lo == r_22.Lo && r_15.1.Hi == r_22.Hi)) && (r_17.1 == 5)) with hb | hb
   ·have hf := he.h0
    replace hf := hf.more he 42 rfl (onP e31)
    replace hf := castB hb hf
    replace hf := hf.more he 44 rfl (onP e33)
    replace hf := castCT hb hf
    refine stP hf rfl rfl rfl (pPt rfl rfl) fun a hf => ?_
    replace hf := castV (v' := .bool (((((((((r_13.2 == 0) && (r_15.2 == 0)) && (r_17.2.2 == 0)) && (r_20.2 == 0)) && (r_21.2 == 0)) && (r_13.1 == 5)) && (r_15.1.Lo == r_22.Lo && r_15.1.Hi == r_22.Hi)) && (r_17.1 == 5)) && (r_17.2.1 == (-1)))) (congrArg Value.bool (andT hb)) hf
    refine cNil ?_
    refine xThenN ?_
    intro ds u hau
    refine ⟨θ,he.put0 hi hau hf rfl 45 rfl rfl,?_⟩
    exact hc
   ·have hf := he.h0
    replace hf := hf.more he 42 rfl (onP e31)
    replace hf := castB hb hf
    replace hf := hf.more he 44 rfl (onP e33)
    replace hf := castCF hb hf
    refine stP hf rfl rfl rfl (pPf rfl rfl) fun a hf => ?_
    replace hf := castV (v' := .bool (((((((((r_13.2 == 0) && (r_15.2 == 0)) && (r_17.2.2 == 0)) && (r_20.2 == 0)) && (r_21.2 == 0)) && (r_13.1 == 5)) && (r_15.1.Lo == r_22.Lo && r_15.1.Hi == r_22.Hi)) && (r_17.1 == 5)) && (r_17.2.1 == (-1)))) (congrArg Value.bool (andF hb)) hf
    refine cNil ?_
    refine xThenN ?_
    intro ds u hau
    refine ⟨θ,he.put0 hi hau hf rfl 45 rfl rfl,?_⟩
    exact hc
  ·intro E θ a w hD hi hp he hc
   have e34 := hp.of (k := 34) rfl
   have hf := he.h0
   replace hf := hf.more he 45 rfl (onP e34)
   refine stP hf rfl rfl rfl (pM rfl) fun a hf => cNil ?_
   refine xThenN ?_
   intro ds u hau
   refine ⟨θ,he.put0 hi hau hf rfl 46 rfl rfl,?_⟩
   exact hc
  ·intro E θ a w hD hi hp he hc
   have e35 := hp.of (k := 35) rfl
   rcases boolEq (((((((((r_13.2 == 0) && (r_15.2 == 0)) && (r_17.2.2 == 0)) && (r_20.2 == 0)) && (r_21.2 == 0)) && (r_13.1 == 5)) && (r_15.1.Lo == r_22.Lo && r_15.1.Hi == r_22.Hi)) && (r_17.1 == 5)) && (r_17.2.1 == (-1))) with hb | hb
   ·have hf := he.h0
    replace hf := hf.more he 9 rfl onT
    replace hf := hf.more he 46 rfl (onP e35)
    replace hf := castB hb hf
    refine stP hf rfl rfl rfl (pM rfl) fun a hf => ?_
    replace hf := castI (u := undef) hb hf
    refine cNil ?_
    refine xThenN ?_
    intro ds u hau
    refine ⟨θ,he.put0 hi hau hf rfl 47 rfl rfl,?_⟩
    exact hc
   ·have hf := he.h0
    replace hf := hf.more he 9 rfl onT
    replace hf := hf.more he 46 rfl (onP e35)
    replace hf := castB hb hf
    refine stS hf rfl rfl rfl fun a hf => ?_
    replace hf := castJ (u := .slice p_17 r_20.1.length c_11) hb hf
    refine cNil ?_
    refine xThenN ?_
    intro ds u hau
    refine ⟨θ,he.put0 hi hau hf rfl 47 rfl rfl,?_⟩
    exact hc
  ·intro E θ a w hD hi hp he hc
   have e35 := hp.of (k := 35) rfl
   try dsimp only at hc
   rw [hi] at hc
   rcases boolEq (((((((((r_13.2 == 0) && (r_15.2 == 0)) && (r_17.2.2 == 0)) && (r_20.2 == 0)) && (r_21.2 == 0)) && (r_13.1 == 5)) && (r_15.1.Lo == r_22.Lo && r_15.1.Hi == r_22.Hi)) && (r_17.1 == 5)) && (r_17.2.1 == (-1))) with hb | hb
   ·have hf := he.h0
    replace hf := hf.more he 46 rfl (onP e35)
    replace hf := castB hb hf
    refine stBS (rows := ([0,10,15] : List Int).map encI_i64) (vs := [(0,i6 0),(1,i6 10),(2,i6 15)]) hf hc rfl rfl sl_25 rfl ⟨rfl,rfl,rfl,rfl,rfl,rfl,rfl,rfl,rfl,trivial⟩ rfl rfl fun b_11 a w hf hc => ?_
    replace hf := castI (u := undef) hb hf
    refine cNil ?_
    refine xThenN ?_
    intro ds u hau
    replace hc := hc.drop k1
    refine ⟨(setT θ 296 ⟨b_11,none,0,(fun _ => (none,0))⟩),he.put hi hau hf rfl [] trivial ⟨qq,qq,qq,qq,qq,qq,qq,qq,qq,qq,qq,qq,qq,qq,qq,qq,qq,qq,qq,qq,qq,qq,qq,qq,qq,qq,qq,qq,qq,qq,qq,qq,qq,qq,qq,qq,qq,qq,qq,qq,qq,qq,qq,qq,qq,qq,qq,qq,qq,qq,qq,qq,qq,qq,qq,qq,trivial⟩,?_⟩
    try dsimp only
    rw [updE_self E 37]
    rw [gE_T hb]
    exact hc
   ·have hf := he.h0
    replace hf := hf.more he 46 rfl (onP e35)
    replace hf := castB hb hf
    refine stS hf rfl rfl rfl fun a hf => ?_
    replace hf := castJ (u := .slice (some ⟨(θ 296).b,0,none⟩) 3 3) hb hf
    refine cNil ?_
    refine xThenN ?_
    intro ds u hau
    refine ⟨θ,he.put0 hi hau hf rfl 48 rfl rfl,?_⟩
    try dsimp only
    rw [updE_self E 37]
    rw [gE_F hb]
    exact hc
  ·intro E θ a w hD hi hp he hc
   have e35 := hp.of (k := 35) rfl
   have e36 := hp.of (k := 36) rfl
   have e37 := hp.of (k := 37) rfl
   try dsimp only at hc
   rw [e37] at hc
   rcases boolEq (((((((((r_13.2 == 0) && (r_15.2 == 0)) && (r_17.2.2 == 0)) && (r_20.2 == 0)) && (r_21.2 == 0)) && (r_13.1 == 5)) && (r_15.1.Lo == r_22.Lo && r_15.1.Hi == r_22.Hi)) && (r_17.1 == 5)) && (r_17.2.1 == (-1))) with hb | hb
   ·have hf := he.h0
    replace hf := hf.more he 46 rfl (onP e35)
    replace hf := castB hb hf
    replace hf := hf.more he 47 rfl (onP e36)
    replace hf := castCT hb hf
    replace hf := hf.more he 48 rfl (onP e37)
    replace hf := castCT hb hf
    rw [gE_T hb] at hc
    refine stE hf hc rfl rfl rfl (eC (v := .bool r_23) (vs := [.slice p_17 r_20.1.length c_11,.slice (some ⟨(θ 296).b,0,none⟩) 3 3]) (caps := []) en_29 rfl rfl rfl rfl (fun w hc => by obtain ⟨G1,hle1,hrd1,hc,hth1⟩ := lend hc k3; obtain ⟨G2,hle2,hrd2,hc,hth2⟩ := lend hc k0; exact (kit_Same_int_ok r_20.1 ([0,10,15] : List Int) (hrd1.mono hle2) hrd2 hc (condT hb hr_23)).mono fun e w h => ⟨h.1,((hth1 _ _ ((hth2 _ _ h.2).unpick k0)).unpick k3)⟩)) fun a w hf hc => ?_
    replace hf := castI (u := undef) hb hf
    refine cNil ?_
    refine xThenN ?_
    intro ds u hau
    refine ⟨θ,he.put0 hi hau hf rfl 49 rfl rfl,?_⟩
    try dsimp only
    rw [updE_tru 38 e37]
    rw [gE_T hb]
    exact hc
   ·have hf := he.h0
    replace hf := hf.more he 46 rfl (onP e35)
    replace hf := castB hb hf
    replace hf := hf.more he 47 rfl (onP e36)
    replace hf := castCF hb hf
    replace hf := hf.more he 48 rfl (onP e37)
    replace hf := castCF hb hf
    rw [gE_F hb] at hc
    refine stS hf rfl rfl rfl fun a hf => ?_
    replace hf := castJ (u := .bool r_23) hb hf
    refine cNil ?_
    refine xThenN ?_
    intro ds u hau
    refine ⟨θ,he.put0 hi hau hf rfl 49 rfl rfl,?_⟩
    try dsimp only
    rw [updE_tru 38 e37]
    rw [gE_F hb]
    exact hc
  ·intro E θ a w hD hi hp he hc
   have e35 := hp.of (k := 35) rfl
   have e38 := hp.of (k := 38) rfl
   rcases boolEq (((((((((r_13.2 == 0) && (r_15.2 == 0)) && (r_17.2.2 == 0)) && (r_20.2 == 0)) && (r_21.2 == 0)) && (r_13.1 == 5)) && (r_15.1.Lo == r_22.Lo && r_15.1.Hi == r_22.Hi)) && (r_17.1 == 5)) && (r_17.2.1 == (-1))) with hb | hb
   ·have hf := he.h0
    replace hf := hf.more he 46 rfl (onP e35)
    replace hf := castB hb hf
    replace hf := hf.more he 49 rfl (onP e38)
    replace hf := castCT hb hf
    refine stP hf rfl rfl rfl (pPt rfl rfl) fun a hf => ?_
    replace hf := castV (v' := .bool ((((((((((r_13.2 == 0) && (r_15.2 == 0)) && (r_17.2.2 == 0)) && (r_20.2 == 0)) && (r_21.2 == 0)) && (r_13.1 == 5)) && (r_15.1.Lo == r_22.Lo && r_15.1.Hi == r_22.Hi)) && (r_17.1 == 5)) && (r_17.2.1 == (-1))) && r_23)) (congrArg Value.bool (andT hb)) hf
    refine cNil ?_
    refine xThenN ?_
    intro ds u hau
    refine ⟨θ,he.put0 hi hau hf rfl 50 rfl rfl,?_⟩
    exact hc
   ·have hf := he.h0
    replace hf := hf.more he 46 rfl (onP e35)
    replace hf := castB hb hf
    replace hf := hf.more he 49 rfl (onP e38)
    replace hf := castCF hb hf
    refine stP hf rfl rfl rfl (pPf rfl rfl) fun a hf => ?_
    replace hf := castV (v' := .bool ((((((((((r_13.2 == 0) && (r_15.2 == 0)) && (r_17.2.2 == 0)) && (r_20.2 == 0)) && (r_21.2 == 0)) && (r_13.1 == 5)) && (r_15.1.Lo == r_22.Lo && r_15.1.Hi == r_22.Hi)) && (r_17.1 == 5)) && (r_17.2.1 == (-1))) && r_23)) (congrArg Value.bool (andF hb)) hf
    refine cNil ?_
    refine xThenN ?_
    intro ds u hau
    refine ⟨θ,he.put0 hi hau hf rfl 50 rfl rfl,?_⟩
    exact hc
  ·intro E θ a w hD hi hp he hc
   have e39 := hp.of (k := 39) rfl
   have hf := he.h0
   replace hf := hf.more he 50 rfl (onP e39)
   refine stP hf rfl rfl rfl (pM rfl) fun a hf => cNil ?_
   refine xThenN ?_
   intro ds u hau
   refine ⟨θ,he.put0 hi hau hf rfl 51 rfl rfl,?_⟩
   exact hc
  ·intro E θ a w hD hi hp he hc
   have e40 := hp.of (k := 40) rfl
   rcases boolEq ((((((((((r_13.2 == 0) && (r_15.2 == 0)) && (r_17.2.2 == 0)) && (r_20.2 == 0)) && (r_21.2 == 0)) && (r_13.1 == 5)) && (r_15.1.Lo == r_22.Lo && r_15.1.Hi == r_22.Hi)) && (r_17.1 == 5)) && (r_17.2.1 == (-1))) && r_23) with hb | hb
   ·have hf := he.h0
    replace hf := hf.more he 10 rfl onT
    replace hf := hf.more he 51 rfl (onP e40)
    replace hf := castB hb hf
    refine stP hf rfl rfl rfl (pM rfl) fun a hf => ?_
    replace hf := castI (u := undef) hb hf
    refine cNil ?_
    refine xThenN ?_
    intro ds u hau
    refine ⟨θ,he.put0 hi hau hf rfl 52 rfl rfl,?_⟩
    exact hc
   ·have hf := he.h0
    replace hf := hf.more he 10 rfl onT
    replace hf := hf.more he 51 rfl (onP e40)
    replace hf := castB hb hf
    refine stS hf rfl rfl rfl fun a hf => ?_
    replace hf := castJ (u := i6 r_21.1) hb hf
    refine cNil ?_
    refine xThenN ?_
    intro ds u hau
    refine ⟨θ,he.put0 hi hau hf rfl 52 rfl rfl,?_⟩
    exact hc
  ·intro E θ a w hD hi hp he hc
   have e40 := hp.of (k := 40) rfl
   have e41 := hp.of (k := 41) rfl
   rcases boolEq ((((((((((r_13.2 == 0) && (r_15.2 == 0)) && (r_17.2.2 == 0)) && (r_20.2 == 0)) && (r_21.2 == 0)) && (r_13.1 == 5)) && (r_15.1.Lo == r_22.Lo && r_15.1.Hi == r_22.Hi)) && (r_17.1 == 5)) && (r_17.2.1 == (-1))) && r_23) with hb | hb
   ·have hf := he.h0
    replace hf := hf.more he 51 rfl (onP e40)
    replace hf := castB hb hf
    replace hf := hf.more he 52 rfl (onP e41)
    replace hf := castCT hb hf
    refine stP hf rfl rfl rfl (pEq rfl rfl) fun a hf => ?_
    replace hf := castI (u := undef) hb hf
    refine cNil ?_
    refine xThenN ?_
    intro ds u hau
    refine ⟨θ,he.put0 hi hau hf rfl 53 rfl rfl,?_⟩
    exact hc
   ·have hf := he.h0
    replace hf := hf.more he 51 rfl (onP e40)
    replace hf := castB hb hf
    replace hf := hf.more he 52 rfl (onP e41)
    replace hf := castCF hb hf
    refine stS hf rfl rfl rfl fun a hf => ?_
    replace hf := castJ (u := .bool (r_21.1 == 4815)) hb hf
    refine cNil ?_
    refine xThenN ?_
    intro ds u hau
    refine ⟨θ,he.put0 hi hau hf rfl 53 rfl rfl,?_⟩
    exact hc
  ·intro E θ a w hD hi hp he hc
   have e40 := hp.of (k := 40) rfl
   have e42 := hp.of (k := 42) rfl
   rcases boolEq ((((((((((r_13.2 == 0) && (r_15.2 == 0)) && (r_17.2.2 == 0)) && (r_20.2 == 0)) && (r_21.2 == 0)) && (r_13.1 == 5)) && (r_15.1.Lo == r_22.Lo && r_15.1.Hi == r_22.Hi)) && (r_17.1 == 5)) && (r_17.2.1 == (-1))) && r_23) with hb | hb
   ·have hf := he.h0
    replace hf := hf.more he 51 rfl (onP e40)
    replace hf := castB hb hf
    replace hf := hf.more he 53 rfl (onP e42)
    replace hf := castCT hb hf
    refine stP hf rfl rfl rfl (pPt rfl rfl) fun a hf => ?_
    replace hf := castV (v' := .bool (((((((((((r_13.2 == 0) && (r_15.2 == 0)) && (r_17.2.2 == 0)) && (r_20.2 == 0)) && (r_21.2 == 0)) && (r_13.1 == 5)) && (r_15.1.Lo == r_22.Lo && r_15.1.Hi == r_22.Hi)) && (r_17.1 == 5)) && (r_17.2.1 == (-1))) && r_23) && (r_21.1 == 4815))) (congrArg Value.bool (andT hb)) hf
    refine cNil ?_
    refine xThenN ?_
    intro ds u hau
    refine ⟨θ,he.put0 hi hau hf rfl 54 rfl rfl,?_⟩
    exact hc
   ·have hf := he.h0
    replace hf := hf.more he 51 rfl (onP e40)
    replace hf := castB hb hf
    replace hf := hf.more he 53 rfl (onP e42)
    replace hf := castCF hb hf
    refine stP hf rfl rfl rfl (pPf rfl rfl) fun a hf => ?_
    replace hf := castV (v' := .bool (((((((((((r_13.2 == 0) && (r_15.2 == 0)) && (r_17.2.2 == 0)) && (r_20.2 == 0)) && (r_21.2 == 0)) && (r_13.1 == 5)) && (r_15.1.Lo == r_22.Lo && r_15.1.Hi == r_22.Hi)) && (r_17.1 == 5)) && (r_17.2.1 == (-1))) && r_23) && (r_21.1 == 4815))) (congrArg Value.bool (andF hb)) hf
    refine cNil ?_
    refine xThenN ?_
    intro ds u hau
    refine ⟨θ,he.put0 hi hau hf rfl 54 rfl rfl,?_⟩
    exact hc
  ·intro E θ a w hD hi hp he hc
   have e43 := hp.of (k := 43) rfl
   have hf := he.h0
   replace hf := hf.more he 54 rfl (onP e43)
   refine stP hf rfl rfl rfl (pA rfl) fun a hf => cNil ?_
   refine xThenN ?_
   intro ds u hau
   refine ⟨θ,he.put0 hi hau hf rfl 55 rfl rfl,?_⟩
   exact hc
  ·intro E θ a w hall he hc
   have hf := he.h0
   have e37 := hall 37 rfl
   have e44 := hall 44 rfl
   replace hf := hf.more he 55 rfl (onP e44)
   try dsimp only at hc
   rw [e37] at hc
   replace hc := hc.drop k0
   exact ⟨hf.kp rfl,hc⟩
  rintro a w ⟨hf,hc⟩
  refine h17 _ _ ?_
  refine wp_ret ?_
  obtain rfl := sj hF
  replace hc := hc.drop k5
  replace hc := hc.drop k4
  replace hc := hc.drop k3
  replace hc := hc.drop k2
  replace hc := hc.drop k1
  replace hc := hc.drop k0
  exact fnOut1 (by simp) rfl Tryz.results15 hf hc (show look _ 0 = _ from rfl) ⟨rfl,hc⟩

def kit_Copy_crew_Ride (N : Nat) (l : List crew_Ride) : Option ((List crew_Ride)) :=
 Option.bind (room (l).length) fun un =>
 some l
theorem kit_Copy_crew_Ride_ok {N : Nat} {G : Pers} {Lf : List Ent} {w : World} (l : List crew_Ride) {l_p : Option Addr} {l_c : Nat} (h_l : Rd G 4 l_p l_c (l.map enc_crew_Ride)) (hc : Ctx G (Lf) w) {res : (List crew_Ride)} (hF : kit_Copy_crew_Ride N l = some res) : Calls Tryz.prog 89 #[.slice l_p l.length l_c] w (fun e w => ∃ (p'1 : Option Addr) (c'1 : Nat),e = .returned (.slice p'1 res.length c'1) ∧ Ctx G (.row p'1 c'1 (res.map enc_crew_Ride) 72 4::Lf) w) := by
 unfold kit_Copy_crew_Ride at hF
 refine fnIn (args := [.slice l_p l.length l_c]) Tryz.func89 rfl Tryz.ntmps89 rfl fun a hf => wp_seq_k fun K1 h1 => cReg ?_
 refine stP hf rfl rfl rfl (pA rfl) fun a hf => cNil ?_
 refine h1 _ _ ?_
 refine wp_seq_k fun K2 h2 => cReg ?_
 refine stP hf rfl rfl rfl (pA rfl) fun a hf => cNil ?_
 refine h2 _ _ ?_
 refine wp_seq_k fun K3 h3 => cReg ?_
 refine stP hf rfl rfl rfl (pM rfl) fun a hf => stP hf rfl rfl rfl (pM rfl) fun a hf => ?_
 replace hc := hc.nilRow 72 4
 obtain ⟨un,hun,hF⟩ := bnd_some hF
 refine stApm (xs := ([] : List crew_Ride)) (ys := l) hf hc rfl rfl sl_52 rfl rfl rfl rfl rfl one_enc_crew_Ride (src_rd hc h_l) (fun _ _ => u0) (by simpa using room_spec hun) fun p_1 c_1 a w hf hc => stP hf rfl rfl rfl (pA rfl) fun a hf => cNil ?_
 refine h3 _ _ ?_
 refine wp_ret ?_
 obtain rfl := sj hF
 exact fnOut1 (by simp) rfl Tryz.results89 hf hc (show look _ 2 = _ from rfl) ⟨p_1,c_1,rfl,hc⟩

def law11_CopyCable (N : Nat) (c_ : crew_Cable) : Option (crew_Cable) :=
 Option.bind (kit_Copy_crew_Ride N c_.Rides) fun r =>
 some (⟨c_.Car,c_.Wide,c_.Sag,c_.Most,r⟩ : crew_Cable)
theorem law11_CopyCable_ok {N : Nat} {G : Pers} {Lf : List Ent} {w : World} (c_ : crew_Cable) {c__Rides_p : Option Addr} {c__Rides_c : Nat} (h_c__Rides : Rd G 4 c__Rides_p c__Rides_c (c_.Rides.map enc_crew_Ride)) (hc : Ctx G (Lf) w) {res : crew_Cable} (hF : law11_CopyCable N c_ = some res) : Calls Tryz.prog 30 #[.agg #[i6 c_.Car,i6 c_.Wide,i6 c_.Sag,i6 c_.Most,.slice c__Rides_p c_.Rides.length c__Rides_c]] w (fun e w => ∃ (p'1 : Option Addr) (c'1 : Nat),e = .returned (.agg #[i6 res.Car,i6 res.Wide,i6 res.Sag,i6 res.Most,.slice p'1 res.Rides.length c'1]) ∧ Ctx G (.row p'1 c'1 (res.Rides.map enc_crew_Ride) 72 4::Lf) w) := by
 unfold law11_CopyCable at hF
 refine fnIn (args := [.agg #[i6 c_.Car,i6 c_.Wide,i6 c_.Sag,i6 c_.Most,.slice c__Rides_p c_.Rides.length c__Rides_c]]) Tryz.func30 rfl Tryz.ntmps30 rfl fun a hf => wp_seq_k fun K1 h1 => cReg ?_
 refine stBx (cs := [i6 c_.Car,i6 c_.Wide,i6 c_.Sag,i6 c_.Most,.slice c__Rides_p c_.Rides.length c__Rides_c]) hf hc rfl rfl rfl rfl fun b_1 a w hf hc => stAl (cs := [i6 0,i6 0,i6 0,i6 0,.slice none 0 0]) hf hc rfl rfl zr_54 rfl fun b_2 a w hf hc => cNil ?_
 refine h1 _ _ ?_
 refine wp_seq_k fun K2 h2 => cReg ?_
 refine stP hf rfl rfl rfl (pFA fa_54_4 rfl) fun a hf => stE hf hc rfl rfl rfl (eLd1 sc_52 rfl (cell_box m1 rfl)) fun a w hf hc => ?_
 obtain ⟨r,hr,hF⟩ := bnd_some hF
 refine stC (vs := [.slice c__Rides_p c_.Rides.length c__Rides_c]) (caps := []) hf rfl rfl rfl en_89 rfl rfl rfl rfl (kit_Copy_crew_Ride_ok c_.Rides h_c__Rides hc hr) ?_
 rintro _ w ⟨p_1,c_1,rfl,hc⟩
 refine ⟨_,rfl,fun a hf => ?_⟩
 refine stP hf rfl rfl rfl (pFA fa_54_4 rfl) fun a hf => stSt (vs := [.slice p_1 r.length c_1]) hf hc rfl rfl rfl rfl sz_52 rfl rfl u2 fun w hc => cNil ?_
 refine h2 _ _ ?_
 refine wp_seq_k fun K3 h3 => cReg ?_
 refine stE hf hc rfl rfl rfl (eLdN (vs := [i6 c_.Car,i6 c_.Wide,i6 c_.Sag,i6 c_.Most,.slice p_1 r.length c_1]) ag_54 rfl rfl (cells_box (n := 5) m2 rfl)) fun a w hf hc => stSt (vs := [i6 c_.Car,i6 c_.Wide,i6 c_.Sag,i6 c_.Most,.slice p_1 r.length c_1]) hf hc rfl rfl rfl rfl sz_54 rfl rfl u1 fun w hc => cNil ?_
 refine h3 _ _ ?_
 refine wp_ret ?_
 obtain rfl := sj hF
 replace hc := hc.drop k2
 exact fnOut1 (by simp) rfl Tryz.results30 hf hc (rv_cellN (vs := [i6 c_.Car,i6 c_.Wide,i6 c_.Sag,i6 c_.Most,.slice p_1 r.length c_1]) ag_54 rfl rfl (cells_box (n := 5) m1 rfl)) ⟨p_1,c_1,rfl,(hc.drop k1)⟩

end Go.Nilo
