/-
 What functions of the Go text compute, as plain functions, and that they do, part 2 of 4. Conditions: what each theorem names.
-/
import Derived.Test.YtlbmcojegiabpaaRc1
import Derived.Test.YtlbmcojegiabpaaProg
set_option linter.unusedVariables false
set_option linter.unusedSimpArgs false
set_option maxRecDepth 100000
set_option maxHeartbeats 4000000
namespace Go.Nilo
open Go.Proofs


def daily_ends_s2_b5 (N : Nat) (l : List api_Span) (out : List Int) (x : Int) : Option (Step ((List Int) × Int) ((List Int))) :=
 cond (decide (x < ((l.length : Nat) : Int)))
 (Option.bind (getI l x) fun e_1 =>
 Option.bind (room ((out ++ [(daily_both_2 e_1)])).length) fun un =>
 some (.cont ((out ++ [(daily_both_2 e_1)]),W (x + 1))))
 (some (.brk (out,x)))
def daily_ends_s2 (N : Nat) (l : List api_Span) : Option ((List Int)) :=
 Option.bind (loopO (fun s5 => daily_ends_s2_b5 N l s5.1 s5.2) N (([] : List Int),0)) fun x5 =>
 exK x5 (fun s5 => some s5.1) some
theorem daily_ends_s2_ok {N : Nat} {G : Pers} {Lf : List Ent} {w : World} (l : List api_Span) {l_p : Option Addr} {l_c : Nat} (h_l : Rd G 2 l_p l_c (l.map enc_api_Span)) (hc : Ctx G (Lf) w) {res : (List Int)} (hF : daily_ends_s2 N l = some res) : Calls Try.prog 112 #[.slice l_p l.length l_c,.agg #[.func (.func 142) #[] #[]]] w (fun e w => ∃ (p'1 : Option Addr) (c'1 : Nat),e = .returned (.slice p'1 res.length c'1) ∧ Ctx G (.row p'1 c'1 (res.map encI_i64) 3 1::Lf) w) := by
 unfold daily_ends_s2 at hF
 refine fnIn (args := [.slice l_p l.length l_c,.agg #[.func (.func 142) #[] #[]]]) Try.func112 rfl Try.ntmps112 rfl fun a hf => wp_seq_k fun K1 h1 => cReg ?_
 refine stBx (cs := [.func (.func 142) #[] #[]]) hf hc rfl rfl rfl rfl fun b_1 a w hf hc => stP hf rfl rfl rfl (pA rfl) fun a hf => cNil ?_
 refine h1 _ _ ?_
 refine wp_seq_k fun K2 h2 => cReg ?_
 refine stP hf rfl rfl rfl (pA rfl) fun a hf => cNil ?_
 refine h2 _ _ ?_
 refine wp_seq_k fun K3 h3 => wp_seq_k fun K4 h4 => cReg ?_
 refine stP hf rfl rfl rfl (pM rfl) fun a hf => stP hf rfl rfl rfl (pLenS Try.underlying41 rfl) fun a hf => stP hf rfl rfl rfl (pM rfl) fun a hf => cNil ?_
 refine h4 _ _ ?_
 refine wp_block ?_
 obtain ⟨x5,hx5,hF⟩ := bnd_some hF
 let S5 : ((List Int) × Int) → Act → World → Prop := (fun (zz : (List Int) × Int) a w => ∃ (p_1 : Option Addr) (c_1 : Nat),Has 23 a [(3,.pointer (some ⟨b_1,0,none⟩)),(5,.slice p_1 zz.1.length c_1),(8,.slice l_p l.length l_c),(9,.int .i64 ((l.length : Nat) : Int)),(10,.int .i64 zz.2)] ∧ Ctx G (.row p_1 c_1 (zz.1.map encI_i64) 3 1::.box b_1 [.func (.func 142) #[] #[]] 203::Lf) w)
 have hr5 : ∀ (zz : (List Int) × Int) a w,x5 = .go zz → S5 zz a w → K3 a w := by
  rintro ⟨out,x⟩ a w rfl ⟨p_1,c_1,hf,hc⟩
  replace hF := exK_go hF
  refine h3 _ _ ?_
  refine wp_seq_k fun K6 h6 => cReg ?_
  refine stP hf rfl rfl rfl (pM rfl) fun a hf => stP hf rfl rfl rfl (pA rfl) fun a hf => cNil ?_
  refine h6 _ _ ?_
  refine wp_ret ?_
  obtain rfl := Option.some.inj hF
  replace hc := hc.drop k1
  exact fnOut1 (by simp) rfl Try.results112 hf hc (show look _ 4 = _ from rfl) ⟨p_1,c_1,rfl,hc⟩
 have ho5 : ∀ r,x5 = .out r → r = res := by
  rintro r rfl
  exact Option.some.inj hF
 replace hc := hc.nilRow 3 1
 refine cLoop N (loopW (S := S5) (x := x5) ?_ N (([] : List Int),0) _ _ ⟨none,0,hf.keep ⟨rfl,rfl,rfl,rfl,rfl,trivial⟩,hc⟩ hx5)
 clear hF hf hc
 rintro ⟨out,x⟩ st5 a w KB5 ⟨p_1,c_1,hf,hc⟩ hF hfin5 hK5
 unfold daily_ends_s2_b5 at hF
 refine wp_seq_k fun K7 h7 => cReg ?_
 refine stP hf rfl rfl rfl (pLt rfl rfl) fun a hf => cNil ?_
 refine h7 _ _ ?_
 refine wp_seq_k fun K8 h8 => cCond (b := (decide (x < ((l.length : Nat) : Int)))) hf rfl (fun hb => ?_) (fun hb => ?_)
 ·replace hF := condT hb hF
  clear hb
  refine wp_skip ?_
  refine h8 _ _ ?_
  refine wp_seq_k fun K9 h9 => wp_block ?_
  refine wp_seq_k fun K10 h10 => cReg ?_
  obtain ⟨e_1,he_1,hF⟩ := bnd_some hF
  obtain ⟨b_2,o,qa,qp⟩ := h_l.atm he_1
  refine stP hf rfl rfl rfl (pIA Try.underlying41 sz_26 rfl rfl qa) fun a hf => stE hf hc rfl rfl rfl (eLdN (vs := [.int .i64 e_1.Lo,.int .i64 e_1.Hi]) ag_26 rfl rfl (cells_pc qp (n := 2) (o' := 0) rfl)) fun a w hf hc => stAl (cs := [.int .i64 0,.int .i64 0]) hf hc rfl rfl zr_26 rfl fun b_3 a w hf hc => stSt (vs := [.int .i64 e_1.Lo,.int .i64 e_1.Hi]) hf hc rfl rfl rfl rfl sz_26 rfl rfl u0 fun w hc => cNil ?_
  refine h10 _ _ ?_
  refine cReg ?_
  refine stP hf rfl rfl rfl (pM rfl) fun a hf => stP hf rfl rfl rfl (pFA fa_203_0 rfl) fun a hf => stE hf hc rfl rfl rfl (eLd1 sc_190 rfl (cell_box m2 rfl)) fun a w hf hc => stE hf hc rfl rfl rfl (eLdN (vs := [.int .i64 e_1.Lo,.int .i64 e_1.Hi]) ag_26 rfl rfl (cells_box (n := 2) m0 rfl)) fun a w hf hc => stE hf hc rfl rfl rfl (eC (v := .int .i64 (daily_both_2 e_1)) (vs := [.agg #[.int .i64 e_1.Lo,.int .i64 e_1.Hi]]) (caps := []) en_142 rfl rfl rfl rfl (fun w hc => daily_both_2_ok e_1 hc rfl)) fun a w hf hc => stBS (rows := ([(daily_both_2 e_1)] : List Int).map encI_i64) (vs := [(0,.int .i64 (daily_both_2 e_1))]) hf hc rfl rfl sl_36 rfl ⟨rfl,rfl,rfl,trivial⟩ rfl rfl fun b_4 a w hf hc => ?_
  obtain ⟨un,hun,hF⟩ := bnd_some hF
  refine stApm (xs := out) (ys := ([(daily_both_2 e_1)] : List Int)) hf hc rfl rfl sl_36 rfl rfl rfl rfl rfl one_encI_i64 (src_row hc m0) (fun _ _ => u2) (by simpa using room_spec hun) fun p_2 c_2 a w hf hc => stP hf rfl rfl rfl (pA rfl) fun a hf => cNil ?_
  refine h9 _ _ ?_
  refine cReg ?_
  refine stP hf rfl rfl rfl (pAdd rfl rfl) fun a hf => stP hf rfl rfl rfl (pM rfl) fun a hf => cNil ?_
  replace hc := hc.drop k1
  replace hc := hc.drop k0
  exact hK5 ((out ++ [(daily_both_2 e_1)]),W (x + 1)) _ _ (Option.some.inj hF).symm ⟨p_2,c_2,hf.keep ⟨rfl,rfl,rfl,rfl,rfl,trivial⟩,hc⟩
 ·replace hF := condF hb hF
  clear hb
  refine wp_exit ?_
  refine xThen ?_
  refine xThen ?_
  have he := Option.some.inj hF
  rw [← he] at hfin5
  refine cHit ?_
  exact hr5 _ _ _ hfin5 ⟨p_1,c_1,hf.keep ⟨rfl,rfl,rfl,rfl,rfl,trivial⟩,hc⟩

def daily_Volume (N : Nat) (r : daily_Record) (from_ : Int) (to_ : Int) : Option (api_Span × Int) :=
 Option.bind (daily_Check N r) fun r_0 =>
 cond (r_0 != 0)
 (some ((⟨0,0⟩ : api_Span),r_0))
 (cond ((!(daily_in from_ 0 to_)) || (decide (((r.Days.length : Nat) : Int) ≤ to_)))
 (some ((⟨0,0⟩ : api_Span),2))
 (Option.bind (daily_agreed N r) (sumK (fun r_1 => cond (r_1 != 0)
 (some ((⟨0,0⟩ : api_Span),r_1))
 (none))
 (fun r_2 => cond (r_2.2.2.2 != 0)
 (some ((⟨0,0⟩ : api_Span),r_2.2.2.2))
 (Option.bind (subO r_2.2.2.1 from_ (W (to_ + 1))) fun sub =>
 Option.bind (daily_ends N sub) fun r_3 =>
 Option.bind (daily_sum N r_3) fun r_4 =>
 Option.bind (daily_ends_s2 N sub) fun r_5 =>
 Option.bind (daily_sum N r_5) fun r_6 =>
 some ((⟨r_4,r_6⟩ : api_Span),0))))))
theorem daily_Volume_ok {N : Nat} {G : Pers} {Lf : List Ent} {w : World} (r : daily_Record) (from_ : Int) (to_ : Int) {r_Days_p : Option Addr} {r_Days_c : Nat} (h_r_Days : Rd G 3 r_Days_p r_Days_c (r.Days.map enc_daily_Value)) (hc : Ctx G (Lf) w) {res : api_Span × Int} (hF : daily_Volume N r from_ to_ = some res) : Calls Try.prog 64 #[.agg #[.int .i64 r.Rise,.int .i64 r.Fall,.slice r_Days_p r.Days.length r_Days_c],.int .i64 from_,.int .i64 to_] w (fun e w => e = .returned (.tuple #[.agg #[.int .i64 res.1.Lo,.int .i64 res.1.Hi],.int .i64 res.2]) ∧ Ctx G (Lf) w) := by
 unfold daily_Volume at hF
 refine fnIn (args := [.agg #[.int .i64 r.Rise,.int .i64 r.Fall,.slice r_Days_p r.Days.length r_Days_c],.int .i64 from_,.int .i64 to_]) Try.func64 rfl Try.ntmps64 rfl fun a hf => wp_seq_k fun K1 h1 => cReg ?_
 refine stBx (cs := [.int .i64 r.Rise,.int .i64 r.Fall,.slice r_Days_p r.Days.length r_Days_c]) hf hc rfl rfl rfl rfl fun b_1 a w hf hc => stAl (cs := [.int .i64 0,.int .i64 0]) hf hc rfl rfl zr_26 rfl fun b_2 a w hf hc => stP hf rfl rfl rfl (pA rfl) fun a hf => cNil ?_
 refine h1 _ _ ?_
 refine wp_seq_k fun K2 h2 => wp_seq_k fun K3 h3 => cReg ?_
 refine stE hf hc rfl rfl rfl (eLdN (vs := [.int .i64 r.Rise,.int .i64 r.Fall,.slice r_Days_p r.Days.length r_Days_c]) ag_127 rfl rfl (cells_box (n := 3) m1 rfl)) fun a w hf hc => ?_
 obtain ⟨r_0,hr_0,hF⟩ := bnd_some hF
 refine stE hf hc rfl rfl rfl (eC (v := .int .i64 r_0) (vs := [.agg #[.int .i64 r.Rise,.int .i64 r.Fall,.slice r_Days_p r.Days.length r_Days_c]]) (caps := []) en_107 rfl rfl rfl rfl (fun w hc => daily_Check_ok r h_r_Days hc hr_0)) fun a w hf hc => stP hf rfl rfl rfl (pA rfl) fun a hf => cNil ?_
 refine h3 _ _ ?_
 refine wp_seq_k fun K4 h4 => cReg ?_
 refine stP hf rfl rfl rfl (pM rfl) fun a hf => stP hf rfl rfl rfl (pNe rfl rfl) fun a hf => cNil ?_
 refine h4 _ _ ?_
 refine cCond (b := (r_0 != 0)) hf rfl (fun hb => ?_) (fun hb => ?_)
 ·replace hF := condT hb hF
  clear hb
  refine wp_seq_k fun K5 h5 => cReg ?_
  refine stP hf rfl rfl rfl (pBuildS (cells := [.int .i64 0,.int .i64 0]) bt_26 rfl rfl) fun a hf => stP hf rfl rfl rfl (pM rfl) fun a hf => stSt (vs := [.int .i64 0,.int .i64 0]) hf hc rfl rfl rfl rfl sz_26 rfl rfl u0 fun w hc => stP hf rfl rfl rfl (pA rfl) fun a hf => cNil ?_
  refine h5 _ _ ?_
  refine wp_ret ?_
  refine xThenR ?_
  obtain rfl := Option.some.inj hF
  replace hc := hc.drop k1
  exact fnOut2 (by simp) rfl Try.results64 hf hc (rv_cellN (vs := [.int .i64 0,.int .i64 0]) ag_26 rfl rfl (cells_box (n := 2) m0 rfl)) (show look _ 7 = _ from rfl) ⟨rfl,(hc.drop k0)⟩
 ·replace hF := condF hb hF
  clear hb
  refine wp_skip ?_
  refine h2 _ _ ?_
  refine wp_seq_k fun K6 h6 => wp_seq_k fun K7 h7 => cReg ?_
  refine stP hf rfl rfl rfl (pM rfl) fun a hf => stP hf rfl rfl rfl (pM rfl) fun a hf => stE hf hc rfl rfl rfl (eC (v := .bool (daily_in from_ 0 to_)) (vs := [.int .i64 from_,.int .i64 0,.int .i64 to_]) (caps := []) en_108 rfl rfl rfl rfl (fun w hc => daily_in_ok from_ 0 to_ hc rfl)) fun a w hf hc => stP hf rfl rfl rfl (pNot rfl) fun a hf => stP hf rfl rfl rfl (pM rfl) fun a hf => stCut 6 (fun a w => Has 60 a [(1,.int .i64 from_),(2,.int .i64 to_),(3,.pointer (some ⟨b_1,0,none⟩)),(6,.pointer (some ⟨b_2,0,none⟩)),(19,.int .i64 from_),(20,.int .i64 to_),(21,.bool (daily_in from_ 0 to_)),(22,.bool (!(daily_in from_ 0 to_))),(23,.bool (!(daily_in from_ 0 to_))),(29,.bool ((!(daily_in from_ 0 to_)) || (decide (((r.Days.length : Nat) : Int) ≤ to_))))] ∧ Ctx G (.box b_2 [.int .i64 0,.int .i64 0] 26::.box b_1 [.int .i64 r.Rise,.int .i64 r.Fall,.slice r_Days_p r.Days.length r_Days_c] 127::Lf) w) ?_ ?_
  ·cases hb : (!(daily_in from_ 0 to_))
   ·rw [hb] at hf
    refine stP hf rfl rfl rfl (pM rfl) fun a hf => stP hf rfl rfl rfl (pFA fa_127_2 rfl) fun a hf => stE hf hc rfl rfl rfl (eLd1 sc_125 rfl (cell_box m1 rfl)) fun a w hf hc => stP hf rfl rfl rfl (pLenS Try.underlying125 rfl) fun a hf => stP hf rfl rfl rfl (pGe rfl rfl) fun a hf => stP hf rfl rfl rfl (pPf rfl rfl) fun a hf => cNil ⟨hf.keep ⟨rfl,rfl,rfl,rfl,rfl,rfl,rfl,rfl,rfl,rfl,trivial⟩,hc⟩
   ·rw [hb] at hf
    refine stS hf rfl rfl rfl fun a hf => stS hf rfl rfl rfl fun a hf => stS hf rfl rfl rfl fun a hf => stS hf rfl rfl rfl fun a hf => stS hf rfl rfl rfl fun a hf => stP hf rfl rfl rfl (pPt rfl rfl) fun a hf => cNil ⟨hf.keep ⟨rfl,rfl,rfl,rfl,rfl,rfl,rfl,rfl,rfl,rfl,trivial⟩,hc⟩
  intro a w ⟨hf,hc⟩
  refine cNil ?_
  refine h7 _ _ ?_
  refine cCond (b := ((!(daily_in from_ 0 to_)) || (decide (((r.Days.length : Nat) : Int) ≤ to_)))) hf rfl (fun hb => ?_) (fun hb => ?_)
  ·replace hF := condT hb hF
   clear hb
   refine wp_seq_k fun K8 h8 => cReg ?_
   refine stP hf rfl rfl rfl (pBuildS (cells := [.int .i64 0,.int .i64 0]) bt_26 rfl rfl) fun a hf => stSt (vs := [.int .i64 0,.int .i64 0]) hf hc rfl rfl rfl rfl sz_26 rfl rfl u0 fun w hc => stP hf rfl rfl rfl (pA rfl) fun a hf => cNil ?_
   refine h8 _ _ ?_
   refine wp_ret ?_
   refine xThenR ?_
   obtain rfl := Option.some.inj hF
   replace hc := hc.drop k1
   exact fnOut2 (by simp) rfl Try.results64 hf hc (rv_cellN (vs := [.int .i64 0,.int .i64 0]) ag_26 rfl rfl (cells_box (n := 2) m0 rfl)) (show look _ 7 = _ from rfl) ⟨rfl,(hc.drop k0)⟩
  ·replace hF := condF hb hF
   clear hb
   refine wp_skip ?_
   refine h6 _ _ ?_
   refine wp_seq_k fun K9 h9 => cReg ?_
   refine stE hf hc rfl rfl rfl (eLdN (vs := [.int .i64 r.Rise,.int .i64 r.Fall,.slice r_Days_p r.Days.length r_Days_c]) ag_127 rfl rfl (cells_box (n := 3) m1 rfl)) fun a w hf hc => ?_
   obtain ⟨r_1,hr_1,hF⟩ := bnd_some hF
   cases r_1 with
   | inl r_1 =>
    replace hF := sumKl hF
    refine stC (vs := [.agg #[.int .i64 r.Rise,.int .i64 r.Fall,.slice r_Days_p r.Days.length r_Days_c]]) (caps := []) hf rfl rfl rfl en_109 rfl rfl rfl rfl (daily_agreed_ok r h_r_Days hc hr_1) ?_
    rintro _ w ⟨rfl,hc⟩
    refine ⟨_,rfl,fun a hf => ?_⟩
    refine stP hf rfl rfl rfl (pM rfl) fun a hf => stP hf rfl rfl rfl (pX rfl rfl) fun a hf => stP hf rfl rfl rfl (pX rfl rfl) fun a hf => stP hf rfl rfl rfl (pA rfl) fun a hf => stP hf rfl rfl rfl (pA rfl) fun a hf => cNil ?_
    refine h9 _ _ ?_
    refine wp_seq_k fun K10 h10 => wp_seq_k fun K11 h11 => cReg ?_
    refine stP hf rfl rfl rfl (pM rfl) fun a hf => stP hf rfl rfl rfl (pNe rfl rfl) fun a hf => cNil ?_
    refine h11 _ _ ?_
    refine cCond (b := (r_1 != 0)) hf rfl (fun hb => ?_) (fun hb => ?_)
    ·replace hF := condT hb hF
     clear hb
     refine wp_seq_k fun K12 h12 => cReg ?_
     refine stP hf rfl rfl rfl (pBuildS (cells := [.int .i64 0,.int .i64 0]) bt_26 rfl rfl) fun a hf => stP hf rfl rfl rfl (pM rfl) fun a hf => stSt (vs := [.int .i64 0,.int .i64 0]) hf hc rfl rfl rfl rfl sz_26 rfl rfl u0 fun w hc => stP hf rfl rfl rfl (pA rfl) fun a hf => cNil ?_
     refine h12 _ _ ?_
     refine wp_ret ?_
     refine xThenR ?_
     obtain rfl := Option.some.inj hF
     replace hc := hc.drop k1
     exact fnOut2 (by simp) rfl Try.results64 hf hc (rv_cellN (vs := [.int .i64 0,.int .i64 0]) ag_26 rfl rfl (cells_box (n := 2) m0 rfl)) (show look _ 7 = _ from rfl) ⟨rfl,(hc.drop k0)⟩
    ·replace hF := condF hb hF
     clear hb
     refine wp_skip ?_
     refine h10 _ _ ?_
     refine wp_seq_k fun K13 h13 => noneO hF
   | inr r_2 =>
    replace hF := sumKr hF
    have hr_2 := hr_1
    refine stC (vs := [.agg #[.int .i64 r.Rise,.int .i64 r.Fall,.slice r_Days_p r.Days.length r_Days_c]]) (caps := []) hf rfl rfl rfl en_109 rfl rfl rfl rfl (daily_agreed_ok r h_r_Days hc hr_2) ?_
    rintro _ w ⟨b_3,p_1,c_1,rfl,hc⟩
    refine ⟨_,rfl,fun a hf => ?_⟩
    refine stP hf rfl rfl rfl (pM rfl) fun a hf => stP hf rfl rfl rfl (pX rfl rfl) fun a hf => stP hf rfl rfl rfl (pX rfl rfl) fun a hf => stP hf rfl rfl rfl (pA rfl) fun a hf => stP hf rfl rfl rfl (pA rfl) fun a hf => cNil ?_
    refine h9 _ _ ?_
    refine wp_seq_k fun K14 h14 => wp_seq_k fun K15 h15 => cReg ?_
    refine stP hf rfl rfl rfl (pM rfl) fun a hf => stP hf rfl rfl rfl (pNe rfl rfl) fun a hf => cNil ?_
    refine h15 _ _ ?_
    refine cCond (b := (r_2.2.2.2 != 0)) hf rfl (fun hb => ?_) (fun hb => ?_)
    ·replace hF := condT hb hF
     clear hb
     refine wp_seq_k fun K16 h16 => cReg ?_
     refine stP hf rfl rfl rfl (pBuildS (cells := [.int .i64 0,.int .i64 0]) bt_26 rfl rfl) fun a hf => stP hf rfl rfl rfl (pM rfl) fun a hf => stSt (vs := [.int .i64 0,.int .i64 0]) hf hc rfl rfl rfl rfl sz_26 rfl rfl u2 fun w hc => stP hf rfl rfl rfl (pA rfl) fun a hf => cNil ?_
     refine h16 _ _ ?_
     refine wp_ret ?_
     refine xThenR ?_
     obtain rfl := Option.some.inj hF
     replace hc := hc.drop k3
     replace hc := hc.drop k1
     replace hc := hc.drop k0
     exact fnOut2 (by simp) rfl Try.results64 hf hc (rv_cellN (vs := [.int .i64 0,.int .i64 0]) ag_26 rfl rfl (cells_box (n := 2) m0 rfl)) (show look _ 7 = _ from rfl) ⟨rfl,(hc.drop k0)⟩
    ·replace hF := condF hb hF
     clear hb
     refine wp_skip ?_
     refine h14 _ _ ?_
     refine wp_seq_k fun K17 h17 => ?_
     have qc := row_cap hc m0
     obtain ⟨sub,hsub,hF⟩ := bnd_some hF
     replace hc := hc.nilRow 0 0
     refine regionE (fun θ => [⟨none,none,1,.int .i64 from_⟩,⟨none,none,2,.int .i64 to_⟩,⟨none,none,6,.pointer (some ⟨b_2,0,none⟩)⟩,⟨none,none,9,.pointer (some ⟨b_3,0,none⟩)⟩,⟨some 0,none,40,.pointer (some ⟨b_3,0,none⟩)⟩,⟨some 1,none,41,.pointer (some ⟨b_3,0,none⟩)⟩,⟨some 2,none,42,.pointer (some ⟨b_3,3,none⟩)⟩,⟨some 3,none,43,.slice p_1 r_2.2.2.1.length c_1⟩,⟨some 4,none,44,.int .i64 from_⟩,⟨some 5,none,45,.int .i64 to_⟩,⟨some 6,none,46,.int .i64 (W (to_ + 1))⟩,⟨some 7,none,47,.slice (subP p_1 c_1 from_.toNat 2) sub.length (c_1 - from_.toNat)⟩,⟨some 8,none,48,.agg #[.func (.func 141) #[] #[],.func (.func 142) #[] #[]]⟩,⟨some 9,none,12,.pointer (some ⟨(θ 72).b,0,none⟩)⟩,⟨some 10,none,11,.slice (subP p_1 c_1 from_.toNat 2) sub.length (c_1 - from_.toNat)⟩]) (fun E θ => (bif E 11 then .box (θ 72).b [.func (.func 141) #[] #[],.func (.func 142) #[] #[]] 204 else bif E 9 then .box (θ 72).b [.nilFunc,.nilFunc] 204 else .row none 0 [] 0 0)::.row p_1 c_1 (r_2.2.2.1.map enc_api_Span) 26 2::.box b_3 [.int .i64 r_2.1,.int .i64 r_2.2.1,.slice r_Days_p r.Days.length r_Days_c,.slice p_1 r_2.2.2.1.length c_1] 201::.box b_2 [.int .i64 0,.int .i64 0] 26::.box b_1 [.int .i64 r.Rise,.int .i64 r.Fall,.slice r_Days_p r.Days.length r_Days_c] 127::Lf) [(11,9)] (fun a w => ∃ (b_5 : Nat),Has 60 a [(6,.pointer (some ⟨b_2,0,none⟩)),(12,.pointer (some ⟨b_5,0,none⟩)),(11,.slice (subP p_1 c_1 from_.toNat 2) sub.length (c_1 - from_.toNat))] ∧ Ctx G (.box b_5 [.func (.func 141) #[] #[],.func (.func 142) #[] #[]] 204::.row p_1 c_1 (r_2.2.2.1.map enc_api_Span) 26 2::.box b_3 [.int .i64 r_2.1,.int .i64 r_2.2.1,.slice r_Days_p r.Days.length r_Days_c,.slice p_1 r_2.2.2.1.length c_1] 201::.box b_2 [.int .i64 0,.int .i64 0] 26::.box b_1 [.int .i64 r.Rise,.int .i64 r.Fall,.slice r_Days_p r.Days.length r_Days_c] 127::Lf) w) follows_mx (by kernel_rfl) (by kernel_rfl) (HasE.of hf ⟨rfl,rfl,rfl,rfl,trivial,trivial,trivial,trivial,trivial,trivial,trivial,trivial,trivial,trivial,trivial,trivial⟩) hc ⟨?_,?_,?_,?_,?_,?_,?_,?_,?_,?_,?_,?_,trivial⟩ ?_ ?_
     ·intro E θ a w hD hi hp he hc
      have hf := he.h0
      replace hf := hf.more he 3 rfl onT
      refine stP hf rfl rfl rfl (pM rfl) fun a hf => cNil ?_
      refine xThenN ?_
      intro ds u hau
      refine ⟨θ,he.put0 hi hau hf rfl 4 rfl rfl,?_⟩
      exact hc
     ·intro E θ a w hD hi hp he hc
      have e0 := hp.of (k := 0) rfl
      have hf := he.h0
      replace hf := hf.more he 4 rfl (onP e0)
      refine stP hf rfl rfl rfl (pNC rfl) fun a hf => cNil ?_
      refine xThenN ?_
      intro ds u hau
      refine ⟨θ,he.put0 hi hau hf rfl 5 rfl rfl,?_⟩
      exact hc
     ·intro E θ a w hD hi hp he hc
      have e1 := hp.of (k := 1) rfl
      have hf := he.h0
      replace hf := hf.more he 5 rfl (onP e1)
      refine stP hf rfl rfl rfl (pFA fa_201_1 rfl) fun a hf => cNil ?_
      refine xThenN ?_
      intro ds u hau
      refine ⟨θ,he.put0 hi hau hf rfl 6 rfl rfl,?_⟩
      exact hc
     ·intro E θ a w hD hi hp he hc
      have e2 := hp.of (k := 2) rfl
      have hf := he.h0
      replace hf := hf.more he 6 rfl (onP e2)
      refine stE hf hc rfl rfl rfl (eLd1 sc_41 rfl (cell_box m2 rfl)) fun a w hf hc => cNil ?_
      refine xThenN ?_
      intro ds u hau
      refine ⟨θ,he.put0 hi hau hf rfl 7 rfl rfl,?_⟩
      exact hc
     ·intro E θ a w hD hi hp he hc
      have hf := he.h0
      replace hf := hf.more he 0 rfl onT
      refine stP hf rfl rfl rfl (pM rfl) fun a hf => cNil ?_
      refine xThenN ?_
      intro ds u hau
      refine ⟨θ,he.put0 hi hau hf rfl 8 rfl rfl,?_⟩
      exact hc
     ·intro E θ a w hD hi hp he hc
      have hf := he.h0
      replace hf := hf.more he 1 rfl onT
      refine stP hf rfl rfl rfl (pM rfl) fun a hf => cNil ?_
      refine xThenN ?_
      intro ds u hau
      refine ⟨θ,he.put0 hi hau hf rfl 9 rfl rfl,?_⟩
      exact hc
     ·intro E θ a w hD hi hp he hc
      have e5 := hp.of (k := 5) rfl
      have hf := he.h0
      replace hf := hf.more he 9 rfl (onP e5)
      refine stP hf rfl rfl rfl (pAdd rfl rfl) fun a hf => cNil ?_
      refine xThenN ?_
      intro ds u hau
      refine ⟨θ,he.put0 hi hau hf rfl 10 rfl rfl,?_⟩
      exact hc
     ·intro E θ a w hD hi hp he hc
      have e3 := hp.of (k := 3) rfl
      have e4 := hp.of (k := 4) rfl
      have e6 := hp.of (k := 6) rfl
      have hf := he.h0
      replace hf := hf.more he 7 rfl (onP e3)
      replace hf := hf.more he 8 rfl (onP e4)
      replace hf := hf.more he 10 rfl (onP e6)
      refine stP hf rfl rfl rfl (pSl Try.underlying41 sz_26 rfl rfl qc rfl rfl hsub) fun a hf => cNil ?_
      refine xThenN ?_
      intro ds u hau
      refine ⟨θ,he.put0 hi hau hf rfl 11 rfl rfl,?_⟩
      exact hc
     ·intro E θ a w hD hi hp he hc
      have hf := he.h0
      refine stE hf hc rfl rfl rfl (eC (v := .agg #[.func (.func 141) #[] #[],.func (.func 142) #[] #[]]) (vs := []) (caps := []) en_110 rfl rfl rfl rfl (fun w hc => daily_both_ok hc rfl)) fun a w hf hc => cNil ?_
      refine xThenN ?_
      intro ds u hau
      refine ⟨θ,he.put0 hi hau hf rfl 12 rfl rfl,?_⟩
      exact hc
     ·intro E θ a w hD hi hp he hc
      have e11 := hD.f 0 rfl hi
      try dsimp only at hc
      rw [hi,e11] at hc
      have hf := he.h0
      refine stAl (cs := [.nilFunc,.nilFunc]) hf hc rfl rfl zr_204 rfl fun b_4 a w hf hc => cNil ?_
      refine xThenN ?_
      intro ds u hau
      replace hc := hc.drop k1
      refine ⟨(setT θ 72 ⟨b_4,none,0,(fun _ => (none,0))⟩),he.put hi hau hf rfl [] trivial ⟨qq,qq,qq,qq,qq,qq,qq,qq,qq,qq,qq,qq,qq,qq,qq,trivial⟩,?_⟩
      try dsimp only
      rw [updE_self E 9,updE_fls 9 e11 rfl]
      exact hc
     ·intro E θ a w hD hi hp he hc
      have e7 := hp.of (k := 7) rfl
      have hf := he.h0
      replace hf := hf.more he 11 rfl (onP e7)
      refine stP hf rfl rfl rfl (pA rfl) fun a hf => cNil ?_
      refine xThenN ?_
      intro ds u hau
      refine ⟨θ,he.put0 hi hau hf rfl 14 rfl rfl,?_⟩
      exact hc
     ·intro E θ a w hD hi hp he hc
      have e8 := hp.of (k := 8) rfl
      have e9 := hp.of (k := 9) rfl
      try dsimp only at hc
      rw [e9,hi] at hc
      have hf := he.h0
      replace hf := hf.more he 12 rfl (onP e8)
      replace hf := hf.more he 13 rfl (onP e9)
      refine stSt (vs := [.func (.func 141) #[] #[],.func (.func 142) #[] #[]]) hf hc rfl rfl rfl rfl sz_204 rfl rfl u0 fun w hc => cNil ?_
      refine xThenN ?_
      intro ds u hau
      refine ⟨θ,he.stay0 hi hau hf rfl,?_⟩
      try dsimp only
      rw [updE_tru 11 e9,updE_self E 11]
      exact hc
     ·intro E θ a w hall he hc
      have hf := he.h0
      have e9 := hall 9 rfl
      have e10 := hall 10 rfl
      have e11 := hall 11 rfl
      replace hf := hf.more he 14 rfl (onP e10)
      replace hf := hf.more he 13 rfl (onP e9)
      replace hf := hf.more he 2 rfl (onT)
      try dsimp only at hc
      rw [e9,e11] at hc
      exact ⟨(θ 72).b,hf.keep ⟨rfl,rfl,rfl,trivial⟩,hc⟩
     rintro a w ⟨b_5,hf,hc⟩
     refine h17 _ _ ?_
     refine wp_seq_k fun K18 h18 => ?_
     obtain ⟨r_3,hr_3,hF⟩ := bnd_some hF
     obtain ⟨r_4,hr_4,hF⟩ := bnd_some hF
     obtain ⟨r_5,hr_5,hF⟩ := bnd_some hF
     obtain ⟨r_6,hr_6,hF⟩ := bnd_some hF
     replace hc := hc.nilRow 0 0
     replace hc := hc.nilRow 0 0
     refine regionE (fun θ => [⟨none,none,6,.pointer (some ⟨b_2,0,none⟩)⟩,⟨none,none,11,.slice (subP p_1 c_1 from_.toNat 2) sub.length (c_1 - from_.toNat)⟩,⟨none,none,12,.pointer (some ⟨b_5,0,none⟩)⟩,⟨some 0,none,49,.slice (subP p_1 c_1 from_.toNat 2) sub.length (c_1 - from_.toNat)⟩,⟨some 1,none,50,.pointer (some ⟨b_5,0,none⟩)⟩,⟨some 2,none,51,.agg #[.func (.func 141) #[] #[]]⟩,⟨some 3,none,52,.slice ((θ 24).p) r_3.length ((θ 24).c)⟩,⟨some 4,none,53,.int .i64 r_4⟩,⟨some 5,none,54,.slice (subP p_1 c_1 from_.toNat 2) sub.length (c_1 - from_.toNat)⟩,⟨some 6,none,55,.pointer (some ⟨b_5,1,none⟩)⟩,⟨some 7,none,56,.agg #[.func (.func 142) #[] #[]]⟩,⟨some 8,none,57,.slice ((θ 64).p) r_5.length ((θ 64).c)⟩,⟨some 9,none,58,.int .i64 r_6⟩,⟨some 10,none,59,.agg #[.int .i64 r_4,.int .i64 r_6]⟩,⟨some 12,none,7,.int .i64 0⟩]) (fun E θ => (bif E 8 then .row ((θ 64).p) ((θ 64).c) (r_5.map encI_i64) 3 1 else .row none 0 [] 0 0)::(bif E 3 then .row ((θ 24).p) ((θ 24).c) (r_3.map encI_i64) 3 1 else .row none 0 [] 0 0)::.box b_5 [.func (.func 141) #[] #[],.func (.func 142) #[] #[]] 204::.row p_1 c_1 (r_2.2.2.1.map enc_api_Span) 26 2::.box b_3 [.int .i64 r_2.1,.int .i64 r_2.2.1,.slice r_Days_p r.Days.length r_Days_c,.slice p_1 r_2.2.2.1.length c_1] 201::(bif E 11 then .box b_2 [.int .i64 r_4,.int .i64 r_6] 26 else .box b_2 [.int .i64 0,.int .i64 0] 26)::.box b_1 [.int .i64 r.Rise,.int .i64 r.Fall,.slice r_Days_p r.Days.length r_Days_c] 127::Lf) [] (fun a w => ∃ (p_4 : Option Addr) (c_4 : Nat) (p_5 : Option Addr) (c_5 : Nat),Has 60 a [(6,.pointer (some ⟨b_2,0,none⟩)),(7,.int .i64 0)] ∧ Ctx G (.row p_4 c_4 (r_5.map encI_i64) 3 1::.row p_5 c_5 (r_3.map encI_i64) 3 1::.box b_5 [.func (.func 141) #[] #[],.func (.func 142) #[] #[]] 204::.row p_1 c_1 (r_2.2.2.1.map enc_api_Span) 26 2::.box b_3 [.int .i64 r_2.1,.int .i64 r_2.2.1,.slice r_Days_p r.Days.length r_Days_c,.slice p_1 r_2.2.2.1.length c_1] 201::.box b_2 [.int .i64 r_4,.int .i64 r_6] 26::.box b_1 [.int .i64 r.Rise,.int .i64 r.Fall,.slice r_Days_p r.Days.length r_Days_c] 127::Lf) w) follows_mx (by kernel_rfl) (by kernel_rfl) (HasE.of hf ⟨rfl,rfl,rfl,trivial,trivial,trivial,trivial,trivial,trivial,trivial,trivial,trivial,trivial,trivial,trivial,trivial⟩) hc ⟨?_,?_,?_,?_,?_,?_,?_,?_,?_,?_,?_,?_,?_,trivial⟩ ?_ ?_
     ·intro E θ a w hD hi hp he hc
      have hf := he.h0
      replace hf := hf.more he 1 rfl onT
      refine stP hf rfl rfl rfl (pM rfl) fun a hf => cNil ?_
      refine xThenN ?_
      intro ds u hau
      refine ⟨θ,he.put0 hi hau hf rfl 3 rfl rfl,?_⟩
      exact hc
     ·intro E θ a w hD hi hp he hc
      have hf := he.h0
      replace hf := hf.more he 2 rfl onT
      refine stP hf rfl rfl rfl (pIAA Try.underlying204 sz_203 rfl rfl (by decide) (by decide)) fun a hf => cNil ?_
      refine xThenN ?_
      intro ds u hau
      refine ⟨θ,he.put0 hi hau hf rfl 4 rfl rfl,?_⟩
      exact hc
     ·intro E θ a w hD hi hp he hc
      have e1 := hp.of (k := 1) rfl
      have hf := he.h0
      replace hf := hf.more he 4 rfl (onP e1)
      refine stE hf hc rfl rfl rfl (eLdN (vs := [.func (.func 141) #[] #[]]) ag_203 rfl rfl (cells_box (n := 1) m2 rfl)) fun a w hf hc => cNil ?_
      refine xThenN ?_
      intro ds u hau
      refine ⟨θ,he.put0 hi hau hf rfl 5 rfl rfl,?_⟩
      exact hc
     ·intro E θ a w hD hi hp he hc
      have e0 := hp.of (k := 0) rfl
      have e2 := hp.of (k := 2) rfl
      try dsimp only at hc
      rw [hi] at hc
      have hf := he.h0
      replace hf := hf.more he 3 rfl (onP e0)
      replace hf := hf.more he 5 rfl (onP e2)
      obtain ⟨G1,hle1,hrd1,hc,hth1⟩ := lend hc k3
      refine stC (vs := [.slice (subP p_1 c_1 from_.toNat 2) sub.length (c_1 - from_.toNat),.agg #[.func (.func 141) #[] #[]]]) (caps := []) hf rfl rfl rfl en_112 rfl rfl rfl rfl (daily_ends_ok sub (Rd.sub hrd1 hsub) hc hr_3) ?_
      rintro _ w ⟨p_2,c_2,rfl,hc⟩
      refine ⟨_,rfl,fun a hf => ?_⟩
      replace hc := hth1 _ _ hc
      refine cNil ?_
      refine xThenN ?_
      intro ds u hau
      replace hc := hc.drop k3
      replace hc := hc.pick k0
      replace hc := hc.pick k3
      replace hc := hc.pick k2
      replace hc := hc.pick k3
      refine ⟨(setT θ 24 ⟨0,p_2,c_2,(fun _ => (none,0))⟩),he.put hi hau hf rfl [] trivial ⟨qq,qq,qq,qq,qq,qq,qq,qq,qq,qq,qq,qq,qq,qq,qq,trivial⟩,?_⟩
      try dsimp only
      rw [updE_self E 3]
      exact hc
     ·intro E θ a w hD hi hp he hc
      have e3 := hp.of (k := 3) rfl
      try dsimp only at hc
      rw [e3] at hc
      have hf := he.h0
      replace hf := hf.more he 6 rfl (onP e3)
      refine stE hf hc rfl rfl rfl (eC (v := .int .i64 r_4) (vs := [.slice ((θ 24).p) r_3.length ((θ 24).c)]) (caps := []) en_111 rfl rfl rfl rfl (fun w hc => by obtain ⟨G1,hle1,hrd1,hc,hth1⟩ := lend hc k1; exact (daily_sum_ok r_3 hrd1 hc hr_4).mono fun e w h => ⟨h.1,((hth1 _ _ h.2).unpick k1)⟩)) fun a w hf hc => cNil ?_
      refine xThenN ?_
      intro ds u hau
      refine ⟨θ,he.put0 hi hau hf rfl 7 rfl rfl,?_⟩
      try dsimp only
      rw [updE_tru 4 e3]
      exact hc
     ·intro E θ a w hD hi hp he hc
      have hf := he.h0
      replace hf := hf.more he 1 rfl onT
      refine stP hf rfl rfl rfl (pM rfl) fun a hf => cNil ?_
      refine xThenN ?_
      intro ds u hau
      refine ⟨θ,he.put0 hi hau hf rfl 8 rfl rfl,?_⟩
      exact hc
     ·intro E θ a w hD hi hp he hc
      have hf := he.h0
      replace hf := hf.more he 2 rfl onT
      refine stP hf rfl rfl rfl (pIAA Try.underlying204 sz_203 rfl rfl (by decide) (by decide)) fun a hf => cNil ?_
      refine xThenN ?_
      intro ds u hau
      refine ⟨θ,he.put0 hi hau hf rfl 9 rfl rfl,?_⟩
      exact hc
     ·intro E θ a w hD hi hp he hc
      have e6 := hp.of (k := 6) rfl
      have hf := he.h0
      replace hf := hf.more he 9 rfl (onP e6)
      refine stE hf hc rfl rfl rfl (eLdN (vs := [.func (.func 142) #[] #[]]) ag_203 rfl rfl (cells_box (n := 1) m2 rfl)) fun a w hf hc => cNil ?_
      refine xThenN ?_
      intro ds u hau
      refine ⟨θ,he.put0 hi hau hf rfl 10 rfl rfl,?_⟩
      exact hc
     ·intro E θ a w hD hi hp he hc
      have e5 := hp.of (k := 5) rfl
      have e7 := hp.of (k := 7) rfl
      try dsimp only at hc
      rw [hi] at hc
      have hf := he.h0
      replace hf := hf.more he 8 rfl (onP e5)
      replace hf := hf.more he 10 rfl (onP e7)
      obtain ⟨G1,hle1,hrd1,hc,hth1⟩ := lend hc k3
      refine stC (vs := [.slice (subP p_1 c_1 from_.toNat 2) sub.length (c_1 - from_.toNat),.agg #[.func (.func 142) #[] #[]]]) (caps := []) hf rfl rfl rfl en_112 rfl rfl rfl rfl (daily_ends_s2_ok sub (Rd.sub hrd1 hsub) hc hr_5) ?_
      rintro _ w ⟨p_3,c_3,rfl,hc⟩
      refine ⟨_,rfl,fun a hf => ?_⟩
      replace hc := hth1 _ _ hc
      refine cNil ?_
      refine xThenN ?_
      intro ds u hau
      replace hc := hc.drop k2
      replace hc := hc.pick k0
      replace hc := hc.pick k3
      replace hc := hc.pick k3
      replace hc := hc.pick k3
      refine ⟨(setT θ 64 ⟨0,p_3,c_3,(fun _ => (none,0))⟩),he.put hi hau hf rfl [] trivial ⟨qq,qq,qq,qq,qq,qq,qq,qq,qq,qq,qq,qq,qq,qq,qq,trivial⟩,?_⟩
      try dsimp only
      rw [updE_self E 8]
      exact hc
     ·intro E θ a w hD hi hp he hc
      have e8 := hp.of (k := 8) rfl
      try dsimp only at hc
      rw [e8] at hc
      have hf := he.h0
      replace hf := hf.more he 11 rfl (onP e8)
      refine stE hf hc rfl rfl rfl (eC (v := .int .i64 r_6) (vs := [.slice ((θ 64).p) r_5.length ((θ 64).c)]) (caps := []) en_111 rfl rfl rfl rfl (fun w hc => by obtain ⟨G1,hle1,hrd1,hc,hth1⟩ := lend hc k0; exact (daily_sum_ok r_5 hrd1 hc hr_6).mono fun e w h => ⟨h.1,((hth1 _ _ h.2).unpick k0)⟩)) fun a w hf hc => cNil ?_
      refine xThenN ?_
      intro ds u hau
      refine ⟨θ,he.put0 hi hau hf rfl 12 rfl rfl,?_⟩
      try dsimp only
      rw [updE_tru 9 e8]
      exact hc
     ·intro E θ a w hD hi hp he hc
      have e4 := hp.of (k := 4) rfl
      have e9 := hp.of (k := 9) rfl
      have hf := he.h0
      replace hf := hf.more he 7 rfl (onP e4)
      replace hf := hf.more he 12 rfl (onP e9)
      refine stP hf rfl rfl rfl (pBuildS (cells := [.int .i64 r_4,.int .i64 r_6]) bt_26 rfl rfl) fun a hf => cNil ?_
      refine xThenN ?_
      intro ds u hau
      refine ⟨θ,he.put0 hi hau hf rfl 13 rfl rfl,?_⟩
      exact hc
     ·intro E θ a w hD hi hp he hc
      have e10 := hp.of (k := 10) rfl
      try dsimp only at hc
      rw [hi] at hc
      have hf := he.h0
      replace hf := hf.more he 0 rfl onT
      replace hf := hf.more he 13 rfl (onP e10)
      refine stSt (vs := [.int .i64 r_4,.int .i64 r_6]) hf hc rfl rfl rfl rfl sz_26 rfl rfl u5 fun w hc => cNil ?_
      refine xThenN ?_
      intro ds u hau
      refine ⟨θ,he.stay0 hi hau hf rfl,?_⟩
      try dsimp only
      rw [updE_self E 11]
      exact hc
     ·intro E θ a w hD hi hp he hc
      have hf := he.h0
      refine stP hf rfl rfl rfl (pA rfl) fun a hf => cNil ?_
      refine xThenN ?_
      intro ds u hau
      refine ⟨θ,he.put0 hi hau hf rfl 14 rfl rfl,?_⟩
      exact hc
     ·intro E θ a w hall he hc
      have hf := he.h0
      have e3 := hall 3 rfl
      have e8 := hall 8 rfl
      have e11 := hall 11 rfl
      have e12 := hall 12 rfl
      replace hf := hf.more he 14 rfl (onP e12)
      replace hf := hf.more he 0 rfl (onT)
      try dsimp only at hc
      rw [e3,e8,e11] at hc
      exact ⟨(θ 64).p,(θ 64).c,(θ 24).p,(θ 24).c,hf.keep ⟨rfl,rfl,trivial⟩,hc⟩
     rintro a w ⟨p_4,c_4,p_5,c_5,hf,hc⟩
     refine h18 _ _ ?_
     refine wp_ret ?_
     obtain rfl := Option.some.inj hF
     replace hc := hc.drop k6
     replace hc := hc.drop k4
     replace hc := hc.drop k3
     replace hc := hc.drop k2
     replace hc := hc.drop k1
     replace hc := hc.drop k0
     exact fnOut2 (by simp) rfl Try.results64 hf hc (rv_cellN (vs := [.int .i64 r_4,.int .i64 r_6]) ag_26 rfl rfl (cells_box (n := 2) m0 rfl)) (show look _ 7 = _ from rfl) ⟨rfl,(hc.drop k0)⟩

def law09_total_b5 (N : Nat) (l : List Int) (n : Int) (x : Int) : Option (Step (Int × Int) (Int)) :=
 cond (decide (x < ((l.length : Nat) : Int)))
 (Option.bind (getI l x) fun e_1 =>
 some (.cont (W (n + e_1),W (x + 1))))
 (some (.brk (n,x)))
def law09_total (N : Nat) (l : List Int) : Option (Int) :=
 Option.bind (loopO (fun s5 => law09_total_b5 N l s5.1 s5.2) N (0,0)) fun x5 =>
 exK x5 (fun s5 => some s5.1) some
theorem law09_total_ok {N : Nat} {G : Pers} {Lf : List Ent} {w : World} (l : List Int) {l_p : Option Addr} {l_c : Nat} (h_l : Rd G 1 l_p l_c (l.map encI_i64)) (hc : Ctx G (Lf) w) {res : Int} (hF : law09_total N l = some res) : Calls Try.prog 31 #[.slice l_p l.length l_c] w (fun e w => e = .returned (.int .i64 res) ∧ Ctx G (Lf) w) := by
 unfold law09_total at hF
 refine fnIn (args := [.slice l_p l.length l_c]) Try.func31 rfl Try.ntmps31 rfl fun a hf => wp_seq_k fun K1 h1 => cReg ?_
 refine stP hf rfl rfl rfl (pA rfl) fun a hf => cNil ?_
 refine h1 _ _ ?_
 refine wp_seq_k fun K2 h2 => cReg ?_
 refine stP hf rfl rfl rfl (pA rfl) fun a hf => cNil ?_
 refine h2 _ _ ?_
 refine wp_seq_k fun K3 h3 => wp_seq_k fun K4 h4 => cReg ?_
 refine stP hf rfl rfl rfl (pM rfl) fun a hf => stP hf rfl rfl rfl (pLenS Try.underlying36 rfl) fun a hf => stP hf rfl rfl rfl (pM rfl) fun a hf => cNil ?_
 refine h4 _ _ ?_
 refine wp_block ?_
 obtain ⟨x5,hx5,hF⟩ := bnd_some hF
 let S5 : (Int × Int) → Act → World → Prop := (fun (zz : Int × Int) a w => Has 17 a [(3,.int .i64 zz.1),(6,.slice l_p l.length l_c),(7,.int .i64 ((l.length : Nat) : Int)),(8,.int .i64 zz.2)] ∧ Ctx G (Lf) w)
 have hr5 : ∀ (zz : Int × Int) a w,x5 = .go zz → S5 zz a w → K3 a w := by
  rintro ⟨n,x⟩ a w rfl ⟨hf,hc⟩
  replace hF := exK_go hF
  refine h3 _ _ ?_
  refine wp_seq_k fun K6 h6 => cReg ?_
  refine stP hf rfl rfl rfl (pM rfl) fun a hf => stP hf rfl rfl rfl (pA rfl) fun a hf => cNil ?_
  refine h6 _ _ ?_
  refine wp_ret ?_
  obtain rfl := Option.some.inj hF
  exact fnOut1 (by simp) rfl Try.results31 hf hc (show look _ 2 = _ from rfl) ⟨rfl,hc⟩
 have ho5 : ∀ r,x5 = .out r → r = res := by
  rintro r rfl
  exact Option.some.inj hF
 refine cLoop N (loopW (S := S5) (x := x5) ?_ N (0,0) _ _ ⟨hf.keep ⟨rfl,rfl,rfl,rfl,trivial⟩,hc⟩ hx5)
 clear hF hf hc
 rintro ⟨n,x⟩ st5 a w KB5 ⟨hf,hc⟩ hF hfin5 hK5
 unfold law09_total_b5 at hF
 refine wp_seq_k fun K7 h7 => cReg ?_
 refine stP hf rfl rfl rfl (pLt rfl rfl) fun a hf => cNil ?_
 refine h7 _ _ ?_
 refine wp_seq_k fun K8 h8 => cCond (b := (decide (x < ((l.length : Nat) : Int)))) hf rfl (fun hb => ?_) (fun hb => ?_)
 ·replace hF := condT hb hF
  clear hb
  refine wp_skip ?_
  refine h8 _ _ ?_
  refine wp_seq_k fun K9 h9 => wp_block ?_
  refine wp_seq_k fun K10 h10 => cReg ?_
  obtain ⟨e_1,he_1,hF⟩ := bnd_some hF
  obtain ⟨b_1,o,qa,qp⟩ := h_l.atm he_1
  refine stP hf rfl rfl rfl (pIA Try.underlying36 sz_3 rfl rfl qa) fun a hf => stE hf hc rfl rfl rfl (eLd1 sc_3 rfl (cell_pc (j := 0) qp rfl)) fun a w hf hc => stP hf rfl rfl rfl (pA rfl) fun a hf => cNil ?_
  refine h10 _ _ ?_
  refine cReg ?_
  refine stP hf rfl rfl rfl (pM rfl) fun a hf => stP hf rfl rfl rfl (pM rfl) fun a hf => stP hf rfl rfl rfl (pAdd rfl rfl) fun a hf => stP hf rfl rfl rfl (pA rfl) fun a hf => cNil ?_
  refine h9 _ _ ?_
  refine cReg ?_
  refine stP hf rfl rfl rfl (pAdd rfl rfl) fun a hf => stP hf rfl rfl rfl (pM rfl) fun a hf => cNil ?_
  exact hK5 (W (n + e_1),W (x + 1)) _ _ (Option.some.inj hF).symm ⟨hf.keep ⟨rfl,rfl,rfl,rfl,trivial⟩,hc⟩
 ·replace hF := condF hb hF
  clear hb
  refine wp_exit ?_
  refine xThen ?_
  refine xThen ?_
  have he := Option.some.inj hF
  rw [← he] at hfin5
  refine cHit ?_
  exact hr5 _ _ _ hfin5 ⟨hf.keep ⟨rfl,rfl,rfl,rfl,trivial⟩,hc⟩

def share_in (n : Int) (least : Int) (greatest : Int) : Bool :=
 ((decide (least ≤ n)) && (decide (n ≤ greatest)))
theorem share_in_ok {G : Pers} {Lf : List Ent} {w : World} (n : Int) (least : Int) (greatest : Int)   (hc : Ctx G (Lf) w) {res : Bool} (hF : share_in n least greatest = res) : Calls Try.prog 70 #[.int .i64 n,.int .i64 least,.int .i64 greatest] w (fun e w => e = .returned (.bool res) ∧ Ctx G (Lf) w) := by
 unfold share_in at hF
 refine fnIn (args := [.int .i64 n,.int .i64 least,.int .i64 greatest]) Try.func70 rfl Try.ntmps70 rfl fun a hf => wp_seq_k fun K1 h1 => cReg ?_
 refine stP hf rfl rfl rfl (pA rfl) fun a hf => cNil ?_
 refine h1 _ _ ?_
 refine wp_seq_k fun K2 h2 => cReg ?_
 refine stP hf rfl rfl rfl (pM rfl) fun a hf => stP hf rfl rfl rfl (pM rfl) fun a hf => stP hf rfl rfl rfl (pGe rfl rfl) fun a hf => stP hf rfl rfl rfl (pM rfl) fun a hf => stCut 4 (fun a w => Has 15 a [(0,.int .i64 n),(1,.int .i64 least),(2,.int .i64 greatest),(6,.bool false),(7,.int .i64 n),(8,.int .i64 least),(9,.bool (decide (least ≤ n))),(10,.bool (decide (least ≤ n))),(14,.bool ((decide (least ≤ n)) && (decide (n ≤ greatest))))] ∧ Ctx G (Lf) w) ?_ ?_
 ·cases hb : (decide (least ≤ n))
  ·rw [hb] at hf
   refine stS hf rfl rfl rfl fun a hf => stS hf rfl rfl rfl fun a hf => stS hf rfl rfl rfl fun a hf => stP hf rfl rfl rfl (pPf rfl rfl) fun a hf => cNil ⟨hf.keep ⟨rfl,rfl,rfl,rfl,rfl,rfl,rfl,rfl,rfl,trivial⟩,hc⟩
  ·rw [hb] at hf
   refine stP hf rfl rfl rfl (pM rfl) fun a hf => stP hf rfl rfl rfl (pM rfl) fun a hf => stP hf rfl rfl rfl (pLe rfl rfl) fun a hf => stP hf rfl rfl rfl (pPt rfl rfl) fun a hf => cNil ⟨hf.keep ⟨rfl,rfl,rfl,rfl,rfl,rfl,rfl,rfl,rfl,trivial⟩,hc⟩
 intro a w ⟨hf,hc⟩
 refine stP hf rfl rfl rfl (pA rfl) fun a hf => cNil ?_
 refine h2 _ _ ?_
 refine wp_ret ?_
 obtain rfl := hF
 exact fnOut1 (by simp) rfl Try.results70 hf hc (show look _ 6 = _ from rfl) ⟨rfl,hc⟩

def share_water (n : Int) : Bool :=
 (share_in n 0 1000000000)
theorem share_water_ok {G : Pers} {Lf : List Ent} {w : World} (n : Int)   (hc : Ctx G (Lf) w) {res : Bool} (hF : share_water n = res) : Calls Try.prog 73 #[.int .i64 n] w (fun e w => e = .returned (.bool res) ∧ Ctx G (Lf) w) := by
 unfold share_water at hF
 refine fnIn (args := [.int .i64 n]) Try.func73 rfl Try.ntmps73 rfl fun a hf => wp_seq_k fun K1 h1 => cReg ?_
 refine stP hf rfl rfl rfl (pA rfl) fun a hf => cNil ?_
 refine h1 _ _ ?_
 refine wp_seq_k fun K2 h2 => cReg ?_
 refine stP hf rfl rfl rfl (pM rfl) fun a hf => stE hf hc rfl rfl rfl (eC (v := .bool (share_in n 0 1000000000)) (vs := [.int .i64 n,.int .i64 0,.int .i64 1000000000]) (caps := []) en_70 rfl rfl rfl rfl (fun w hc => share_in_ok n 0 1000000000 hc rfl)) fun a w hf hc => stP hf rfl rfl rfl (pA rfl) fun a hf => cNil ?_
 refine h2 _ _ ?_
 refine wp_ret ?_
 obtain rfl := hF
 exact fnOut1 (by simp) rfl Try.results73 hf hc (show look _ 2 = _ from rfl) ⟨rfl,hc⟩

def share_Check_1 (r : share_Right) (x : share_Compact) : Bool :=
 (((share_in r.State 0 (W (x.States - 1))) && (share_water r.Amount)) && (share_in r.Loss 0 1000))
theorem share_Check_1_ok {G : Pers} {Lf : List Ent} {w : World} (r : share_Right) (x : share_Compact) {b_ : Nat} {x_Rights_p : Option Addr} {x_Rights_c : Nat} (h_x_Rights : Rd G 3 x_Rights_p x_Rights_c (x.Rights.map enc_share_Right)) (hc : Ctx G (.box b_ [.int .i64 x.States,.slice x_Rights_p x.Rights.length x_Rights_c] 24::Lf) w) {res : Bool} (hF : share_Check_1 r x = res) : Calls Try.prog 72 #[.agg #[.int .i64 r.State,.int .i64 r.Amount,.int .i64 r.Loss],.pointer (some ⟨b_,0,none⟩)] w (fun e w => e = .returned (.bool res) ∧ Ctx G (.box b_ [.int .i64 x.States,.slice x_Rights_p x.Rights.length x_Rights_c] 24::Lf) w) := by
 unfold share_Check_1 at hF
 refine fnIn (args := [.agg #[.int .i64 r.State,.int .i64 r.Amount,.int .i64 r.Loss],.pointer (some ⟨b_,0,none⟩)]) Try.func72 rfl Try.ntmps72 rfl fun a hf => wp_seq_k fun K1 h1 => cReg ?_
 refine stBx (cs := [.int .i64 r.State,.int .i64 r.Amount,.int .i64 r.Loss]) hf hc rfl rfl rfl rfl fun b_1 a w hf hc => stP hf rfl rfl rfl (pA rfl) fun a hf => cNil ?_
 refine h1 _ _ ?_
 refine wp_seq_k fun K2 h2 => cReg ?_
 refine stP hf rfl rfl rfl (pFA fa_51_0 rfl) fun a hf => stE hf hc rfl rfl rfl (eLd1 sc_3 rfl (cell_box m0 rfl)) fun a w hf hc => stP hf rfl rfl rfl (pFA fa_24_0 rfl) fun a hf => stE hf hc rfl rfl rfl (eLd1 sc_3 rfl (cell_box m1 rfl)) fun a w hf hc => stP hf rfl rfl rfl (pSub rfl rfl) fun a hf => stE hf hc rfl rfl rfl (eC (v := .bool (share_in r.State 0 (W (x.States - 1)))) (vs := [.int .i64 r.State,.int .i64 0,.int .i64 (W (x.States - 1))]) (caps := []) en_70 rfl rfl rfl rfl (fun w hc => share_in_ok r.State 0 (W (x.States - 1)) hc rfl)) fun a w hf hc => stP hf rfl rfl rfl (pM rfl) fun a hf => stCut 4 (fun a w => Has 20 a [(1,.pointer (some ⟨b_,0,none⟩)),(2,.pointer (some ⟨b_1,0,none⟩)),(3,.bool false),(4,.pointer (some ⟨b_1,0,none⟩)),(5,.int .i64 r.State),(6,.pointer (some ⟨b_,0,none⟩)),(7,.int .i64 x.States),(8,.int .i64 (W (x.States - 1))),(9,.bool (share_in r.State 0 (W (x.States - 1)))),(10,.bool (share_in r.State 0 (W (x.States - 1)))),(14,.bool ((share_in r.State 0 (W (x.States - 1))) && (share_water r.Amount)))] ∧ Ctx G (.box b_1 [.int .i64 r.State,.int .i64 r.Amount,.int .i64 r.Loss] 51::.box b_ [.int .i64 x.States,.slice x_Rights_p x.Rights.length x_Rights_c] 24::Lf) w) ?_ ?_
 ·cases hb : (share_in r.State 0 (W (x.States - 1)))
  ·rw [hb] at hf
   refine stS hf rfl rfl rfl fun a hf => stS hf rfl rfl rfl fun a hf => stS hf rfl rfl rfl fun a hf => stP hf rfl rfl rfl (pPf rfl rfl) fun a hf => cNil ⟨hf.keep ⟨rfl,rfl,rfl,rfl,rfl,rfl,rfl,rfl,rfl,rfl,rfl,trivial⟩,hc⟩
  ·rw [hb] at hf
   refine stP hf rfl rfl rfl (pFA fa_51_1 rfl) fun a hf => stE hf hc rfl rfl rfl (eLd1 sc_3 rfl (cell_box m0 rfl)) fun a w hf hc => stE hf hc rfl rfl rfl (eC (v := .bool (share_water r.Amount)) (vs := [.int .i64 r.Amount]) (caps := []) en_73 rfl rfl rfl rfl (fun w hc => share_water_ok r.Amount hc rfl)) fun a w hf hc => stP hf rfl rfl rfl (pPt rfl rfl) fun a hf => cNil ⟨hf.keep ⟨rfl,rfl,rfl,rfl,rfl,rfl,rfl,rfl,rfl,rfl,rfl,trivial⟩,hc⟩
 intro a w ⟨hf,hc⟩
 refine stP hf rfl rfl rfl (pM rfl) fun a hf => stCut 4 (fun a w => Has 20 a [(1,.pointer (some ⟨b_,0,none⟩)),(2,.pointer (some ⟨b_1,0,none⟩)),(3,.bool false),(4,.pointer (some ⟨b_1,0,none⟩)),(5,.int .i64 r.State),(6,.pointer (some ⟨b_,0,none⟩)),(7,.int .i64 x.States),(8,.int .i64 (W (x.States - 1))),(9,.bool (share_in r.State 0 (W (x.States - 1)))),(10,.bool (share_in r.State 0 (W (x.States - 1)))),(14,.bool ((share_in r.State 0 (W (x.States - 1))) && (share_water r.Amount))),(15,.bool ((share_in r.State 0 (W (x.States - 1))) && (share_water r.Amount))),(19,.bool (((share_in r.State 0 (W (x.States - 1))) && (share_water r.Amount)) && (share_in r.Loss 0 1000)))] ∧ Ctx G (.box b_1 [.int .i64 r.State,.int .i64 r.Amount,.int .i64 r.Loss] 51::.box b_ [.int .i64 x.States,.slice x_Rights_p x.Rights.length x_Rights_c] 24::Lf) w) ?_ ?_
 ·cases hb : ((share_in r.State 0 (W (x.States - 1))) && (share_water r.Amount))
  ·rw [hb] at hf
   refine stS hf rfl rfl rfl fun a hf => stS hf rfl rfl rfl fun a hf => stS hf rfl rfl rfl fun a hf => stP hf rfl rfl rfl (pPf rfl rfl) fun a hf => cNil ⟨hf.keep ⟨rfl,rfl,rfl,rfl,rfl,rfl,rfl,rfl,rfl,rfl,rfl,rfl,rfl,trivial⟩,hc⟩
  ·rw [hb] at hf
   refine stP hf rfl rfl rfl (pFA fa_51_2 rfl) fun a hf => stE hf hc rfl rfl rfl (eLd1 sc_3 rfl (cell_box m0 rfl)) fun a w hf hc => stE hf hc rfl rfl rfl (eC (v := .bool (share_in r.Loss 0 1000)) (vs := [.int .i64 r.Loss,.int .i64 0,.int .i64 1000]) (caps := []) en_70 rfl rfl rfl rfl (fun w hc => share_in_ok r.Loss 0 1000 hc rfl)) fun a w hf hc => stP hf rfl rfl rfl (pPt rfl rfl) fun a hf => cNil ⟨hf.keep ⟨rfl,rfl,rfl,rfl,rfl,rfl,rfl,rfl,rfl,rfl,rfl,rfl,rfl,trivial⟩,hc⟩
 intro a w ⟨hf,hc⟩
 refine stP hf rfl rfl rfl (pA rfl) fun a hf => cNil ?_
 refine h2 _ _ ?_
 refine wp_ret ?_
 obtain rfl := hF
 replace hc := hc.drop k0
 exact fnOut1 (by simp) rfl Try.results72 hf hc (show look _ 3 = _ from rfl) ⟨rfl,hc⟩

def share_every_share_Right_1 (x : share_Right) (x_1 : share_Compact) : Bool :=
 (!(share_Check_1 x x_1))
theorem share_every_share_Right_1_ok {G : Pers} {Lf : List Ent} {w : World} (x : share_Right) (x_1 : share_Compact) {b_ : Nat} {b__1 : Nat} {x_1_Rights_p : Option Addr} {x_1_Rights_c : Nat} (h_x_1_Rights : Rd G 3 x_1_Rights_p x_1_Rights_c (x_1.Rights.map enc_share_Right)) (hc : Ctx G (.box b_ [.func (.func 72) #[] #[.pointer (some ⟨b__1,0,none⟩)]] 147::.box b__1 [.int .i64 x_1.States,.slice x_1_Rights_p x_1.Rights.length x_1_Rights_c] 24::Lf) w) {res : Bool} (hF : share_every_share_Right_1 x x_1 = res) : Calls Try.prog 116 #[.agg #[.int .i64 x.State,.int .i64 x.Amount,.int .i64 x.Loss],.pointer (some ⟨b_,0,none⟩)] w (fun e w => e = .returned (.bool res) ∧ Ctx G (.box b_ [.func (.func 72) #[] #[.pointer (some ⟨b__1,0,none⟩)]] 147::.box b__1 [.int .i64 x_1.States,.slice x_1_Rights_p x_1.Rights.length x_1_Rights_c] 24::Lf) w) := by
 unfold share_every_share_Right_1 at hF
 refine fnIn (args := [.agg #[.int .i64 x.State,.int .i64 x.Amount,.int .i64 x.Loss],.pointer (some ⟨b_,0,none⟩)]) Try.func116 rfl Try.ntmps116 rfl fun a hf => wp_seq_k fun K1 h1 => cReg ?_
 refine stBx (cs := [.int .i64 x.State,.int .i64 x.Amount,.int .i64 x.Loss]) hf hc rfl rfl rfl rfl fun b_1 a w hf hc => stP hf rfl rfl rfl (pA rfl) fun a hf => cNil ?_
 refine h1 _ _ ?_
 refine wp_seq_k fun K2 h2 => cReg ?_
 refine stE hf hc rfl rfl rfl (eLd1 sc_147 rfl (cell_box m1 rfl)) fun a w hf hc => stE hf hc rfl rfl rfl (eLdN (vs := [.int .i64 x.State,.int .i64 x.Amount,.int .i64 x.Loss]) ag_51 rfl rfl (cells_box (n := 3) m0 rfl)) fun a w hf hc => stE hf hc rfl rfl rfl (eC (v := .bool (share_Check_1 x x_1)) (vs := [.agg #[.int .i64 x.State,.int .i64 x.Amount,.int .i64 x.Loss]]) (caps := [.pointer (some ⟨b__1,0,none⟩)]) en_72 rfl rfl rfl rfl (fun w hc => (share_Check_1_ok x x_1 h_x_1_Rights (hc.pick k2) rfl).mono fun e w h => ⟨h.1,(h.2.unpick k2)⟩)) fun a w hf hc => stP hf rfl rfl rfl (pNot rfl) fun a hf => stP hf rfl rfl rfl (pA rfl) fun a hf => cNil ?_
 refine h2 _ _ ?_
 refine wp_ret ?_
 obtain rfl := hF
 replace hc := hc.drop k0
 exact fnOut1 (by simp) rfl Try.results116 hf hc (show look _ 3 = _ from rfl) ⟨rfl,hc⟩

def slices_IndexFunc_Lshare_Right_share_Right_b4 (N : Nat) (s_ : List share_Right) (f_ : share_Compact) (x : Int) : Option (Step (Int) (Int)) :=
 cond (decide (x < ((s_.length : Nat) : Int)))
 (Option.bind (getI s_ x) fun e_1 =>
 cond (share_every_share_Right_1 e_1 f_)
 (some (.ret x))
 (some (.cont (W (x + 1)))))
 (some (.brk x))
def slices_IndexFunc_Lshare_Right_share_Right (N : Nat) (s_ : List share_Right) (f_ : share_Compact) : Option (Int) :=
 Option.bind (loopO (fun s4 => slices_IndexFunc_Lshare_Right_share_Right_b4 N s_ f_ s4) N 0) fun x4 =>
 exK x4 (fun s4 => some (-1)) some
theorem slices_IndexFunc_Lshare_Right_share_Right_ok {N : Nat} {G : Pers} {Lf : List Ent} {w : World} (s_ : List share_Right) (f_ : share_Compact) {s__p : Option Addr} {s__c : Nat} {b_ : Nat} {b__1 : Nat} {f__Rights_p : Option Addr} {f__Rights_c : Nat} (h_s_ : Rd G 3 s__p s__c (s_.map enc_share_Right)) (h_f__Rights : Rd G 3 f__Rights_p f__Rights_c (f_.Rights.map enc_share_Right)) (hc : Ctx G (.box b_ [.func (.func 72) #[] #[.pointer (some ⟨b__1,0,none⟩)]] 147::.box b__1 [.int .i64 f_.States,.slice f__Rights_p f_.Rights.length f__Rights_c] 24::Lf) w) {res : Int} (hF : slices_IndexFunc_Lshare_Right_share_Right N s_ f_ = some res) : Calls Try.prog 144 #[.slice s__p s_.length s__c,.func (.func 116) #[] #[.pointer (some ⟨b_,0,none⟩)]] w (fun e w => e = .returned (.int .i64 res) ∧ Ctx G (.box b_ [.func (.func 72) #[] #[.pointer (some ⟨b__1,0,none⟩)]] 147::.box b__1 [.int .i64 f_.States,.slice f__Rights_p f_.Rights.length f__Rights_c] 24::Lf) w) := by
 unfold slices_IndexFunc_Lshare_Right_share_Right at hF
 refine fnIn (args := [.slice s__p s_.length s__c,.func (.func 116) #[] #[.pointer (some ⟨b_,0,none⟩)]]) Try.func144 rfl Try.ntmps144 rfl fun a hf => wp_seq_k fun K1 h1 => cReg ?_
 refine stP hf rfl rfl rfl (pA rfl) fun a hf => cNil ?_
 refine h1 _ _ ?_
 refine wp_seq_k fun K2 h2 => wp_seq_k fun K3 h3 => cReg ?_
 refine stP hf rfl rfl rfl (pM rfl) fun a hf => stP hf rfl rfl rfl (pLenS Try.underlying22 rfl) fun a hf => stP hf rfl rfl rfl (pM rfl) fun a hf => cNil ?_
 refine h3 _ _ ?_
 refine wp_block ?_
 obtain ⟨x4,hx4,hF⟩ := bnd_some hF
 let S4 : Int → Act → World → Prop := (fun (zz : Int) a w => Has 19 a [(0,.slice s__p s_.length s__c),(1,.func (.func 116) #[] #[.pointer (some ⟨b_,0,none⟩)]),(7,.int .i64 ((s_.length : Nat) : Int)),(8,.int .i64 zz)] ∧ Ctx G (.box b_ [.func (.func 72) #[] #[.pointer (some ⟨b__1,0,none⟩)]] 147::.box b__1 [.int .i64 f_.States,.slice f__Rights_p f_.Rights.length f__Rights_c] 24::Lf) w)
 have hr4 : ∀ (zz : Int) a w,x4 = .go zz → S4 zz a w → K2 a w := by
  rintro x a w rfl ⟨hf,hc⟩
  replace hF := exK_go hF
  refine h2 _ _ ?_
  refine wp_seq_k fun K5 h5 => cReg ?_
  refine stP hf rfl rfl rfl (pA rfl) fun a hf => cNil ?_
  refine h5 _ _ ?_
  refine wp_ret ?_
  obtain rfl := Option.some.inj hF
  exact fnOut1 (by simp) rfl Try.results144 hf hc (show look _ 4 = _ from rfl) ⟨rfl,hc⟩
 have ho4 : ∀ r,x4 = .out r → r = res := by
  rintro r rfl
  exact Option.some.inj hF
 refine cLoop N (loopW (S := S4) (x := x4) ?_ N 0 _ _ ⟨hf.keep ⟨rfl,rfl,rfl,rfl,trivial⟩,hc⟩ hx4)
 clear hF hf hc
 rintro x st4 a w KB4 ⟨hf,hc⟩ hF hfin4 hK4
 unfold slices_IndexFunc_Lshare_Right_share_Right_b4 at hF
 refine wp_seq_k fun K6 h6 => cReg ?_
 refine stP hf rfl rfl rfl (pLt rfl rfl) fun a hf => cNil ?_
 refine h6 _ _ ?_
 refine wp_seq_k fun K7 h7 => cCond (b := (decide (x < ((s_.length : Nat) : Int)))) hf rfl (fun hb => ?_) (fun hb => ?_)
 ·replace hF := condT hb hF
  clear hb
  refine wp_skip ?_
  refine h7 _ _ ?_
  refine wp_seq_k fun K8 h8 => wp_block ?_
  refine wp_seq_k fun K9 h9 => cReg ?_
  refine stP hf rfl rfl rfl (pM rfl) fun a hf => stP hf rfl rfl rfl (pA rfl) fun a hf => cNil ?_
  refine h9 _ _ ?_
  refine wp_seq_k fun K10 h10 => cReg ?_
  refine stP hf rfl rfl rfl (pM rfl) fun a hf => stP hf rfl rfl rfl (pM rfl) fun a hf => stP hf rfl rfl rfl (pM rfl) fun a hf => ?_
  obtain ⟨e_1,he_1,hF⟩ := bnd_some hF
  obtain ⟨b_1,o,qa,qp⟩ := h_s_.atm he_1
  refine stP hf rfl rfl rfl (pIA Try.underlying22 sz_51 rfl rfl qa) fun a hf => stE hf hc rfl rfl rfl (eLdN (vs := [.int .i64 e_1.State,.int .i64 e_1.Amount,.int .i64 e_1.Loss]) ag_51 rfl rfl (cells_pc qp (n := 3) (o' := 0) rfl)) fun a w hf hc => stE hf hc rfl rfl rfl (eC (v := .bool (share_every_share_Right_1 e_1 f_)) (vs := [.agg #[.int .i64 e_1.State,.int .i64 e_1.Amount,.int .i64 e_1.Loss]]) (caps := [.pointer (some ⟨b_,0,none⟩)]) en_116 rfl rfl rfl rfl (fun w hc => (share_every_share_Right_1_ok e_1 f_ h_f__Rights ((hc.pick k1).pick k1) rfl).mono fun e w h => ⟨h.1,((h.2.unpick k1).unpick k1)⟩)) fun a w hf hc => cNil ?_
  refine h10 _ _ ?_
  refine cCond (b := (share_every_share_Right_1 e_1 f_)) hf rfl (fun hb => ?_) (fun hb => ?_)
  ·replace hF := condT hb hF
   clear hb
   refine wp_seq_k fun K11 h11 => cReg ?_
   refine stP hf rfl rfl rfl (pM rfl) fun a hf => stP hf rfl rfl rfl (pA rfl) fun a hf => cNil ?_
   refine h11 _ _ ?_
   refine wp_ret ?_
   refine xBlkR ?_
   refine xThenR ?_
   refine xThenR ?_
   have he := Option.some.inj hF
   rw [← he] at hfin4
   replace hF := ho4 _ hfin4
   refine xBlkR ?_
   refine xThenR ?_
   obtain rfl := hF
   exact fnOut1 (by simp) rfl Try.results144 hf hc (show look _ 4 = _ from rfl) ⟨rfl,hc⟩
  ·replace hF := condF hb hF
   clear hb
   refine wp_skip ?_
   refine h8 _ _ ?_
   refine cReg ?_
   refine stP hf rfl rfl rfl (pAdd rfl rfl) fun a hf => stP hf rfl rfl rfl (pM rfl) fun a hf => cNil ?_
   exact hK4 (W (x + 1)) _ _ (Option.some.inj hF).symm ⟨hf.keep ⟨rfl,rfl,rfl,rfl,trivial⟩,hc⟩
 ·replace hF := condF hb hF
  clear hb
  refine wp_exit ?_
  refine xThen ?_
  refine xThen ?_
  have he := Option.some.inj hF
  rw [← he] at hfin4
  refine cHit ?_
  exact hr4 _ _ _ hfin4 ⟨hf.keep ⟨rfl,rfl,rfl,rfl,trivial⟩,hc⟩

def slices_ContainsFunc_Lshare_Right_share_Right (N : Nat) (s_ : List share_Right) (f_ : share_Compact) : Option (Bool) :=
 Option.bind (slices_IndexFunc_Lshare_Right_share_Right N s_ f_) fun r =>
 some (decide (0 ≤ r))
theorem slices_ContainsFunc_Lshare_Right_share_Right_ok {N : Nat} {G : Pers} {Lf : List Ent} {w : World} (s_ : List share_Right) (f_ : share_Compact) {s__p : Option Addr} {s__c : Nat} {b_ : Nat} {b__1 : Nat} {f__Rights_p : Option Addr} {f__Rights_c : Nat} (h_s_ : Rd G 3 s__p s__c (s_.map enc_share_Right)) (h_f__Rights : Rd G 3 f__Rights_p f__Rights_c (f_.Rights.map enc_share_Right)) (hc : Ctx G (.box b_ [.func (.func 72) #[] #[.pointer (some ⟨b__1,0,none⟩)]] 147::.box b__1 [.int .i64 f_.States,.slice f__Rights_p f_.Rights.length f__Rights_c] 24::Lf) w) {res : Bool} (hF : slices_ContainsFunc_Lshare_Right_share_Right N s_ f_ = some res) : Calls Try.prog 115 #[.slice s__p s_.length s__c,.func (.func 116) #[] #[.pointer (some ⟨b_,0,none⟩)]] w (fun e w => e = .returned (.bool res) ∧ Ctx G (.box b_ [.func (.func 72) #[] #[.pointer (some ⟨b__1,0,none⟩)]] 147::.box b__1 [.int .i64 f_.States,.slice f__Rights_p f_.Rights.length f__Rights_c] 24::Lf) w) := by
 unfold slices_ContainsFunc_Lshare_Right_share_Right at hF
 refine fnIn (args := [.slice s__p s_.length s__c,.func (.func 116) #[] #[.pointer (some ⟨b_,0,none⟩)]]) Try.func115 rfl Try.ntmps115 rfl fun a hf => wp_seq_k fun K1 h1 => cReg ?_
 refine stP hf rfl rfl rfl (pA rfl) fun a hf => cNil ?_
 refine h1 _ _ ?_
 refine wp_seq_k fun K2 h2 => cReg ?_
 refine stP hf rfl rfl rfl (pM rfl) fun a hf => stP hf rfl rfl rfl (pM rfl) fun a hf => ?_
 obtain ⟨r,hr,hF⟩ := bnd_some hF
 refine stE hf hc rfl rfl rfl (eC (v := .int .i64 r) (vs := [.slice s__p s_.length s__c,.func (.func 116) #[] #[.pointer (some ⟨b_,0,none⟩)]]) (caps := []) en_144 rfl rfl rfl rfl (fun w hc => (slices_IndexFunc_Lshare_Right_share_Right_ok s_ f_ h_s_ h_f__Rights ((hc.pick k1).pick k1) hr).mono fun e w h => ⟨h.1,((h.2.unpick k1).unpick k1)⟩)) fun a w hf hc => stP hf rfl rfl rfl (pGe rfl rfl) fun a hf => stP hf rfl rfl rfl (pA rfl) fun a hf => cNil ?_
 refine h2 _ _ ?_
 refine wp_ret ?_
 obtain rfl := Option.some.inj hF
 exact fnOut1 (by simp) rfl Try.results115 hf hc (show look _ 4 = _ from rfl) ⟨rfl,hc⟩

def share_every_share_Right (N : Nat) (l : List share_Right) (so : share_Compact) : Option (Bool) :=
 Option.bind (slices_ContainsFunc_Lshare_Right_share_Right N l so) fun r =>
 some (!r)
theorem share_every_share_Right_ok {N : Nat} {G : Pers} {Lf : List Ent} {w : World} (l : List share_Right) (so : share_Compact) {l_p : Option Addr} {l_c : Nat} {b_ : Nat} {so_Rights_p : Option Addr} {so_Rights_c : Nat} (h_l : Rd G 3 l_p l_c (l.map enc_share_Right)) (h_so_Rights : Rd G 3 so_Rights_p so_Rights_c (so.Rights.map enc_share_Right)) (hc : Ctx G (.box b_ [.int .i64 so.States,.slice so_Rights_p so.Rights.length so_Rights_c] 24::Lf) w) {res : Bool} (hF : share_every_share_Right N l so = some res) : Calls Try.prog 71 #[.slice l_p l.length l_c,.func (.func 72) #[] #[.pointer (some ⟨b_,0,none⟩)]] w (fun e w => e = .returned (.bool res) ∧ Ctx G (.box b_ [.int .i64 so.States,.slice so_Rights_p so.Rights.length so_Rights_c] 24::Lf) w) := by
 unfold share_every_share_Right at hF
 refine fnIn (args := [.slice l_p l.length l_c,.func (.func 72) #[] #[.pointer (some ⟨b_,0,none⟩)]]) Try.func71 rfl Try.ntmps71 rfl fun a hf => wp_seq_k fun K1 h1 => cReg ?_
 refine stBx (cs := [.func (.func 72) #[] #[.pointer (some ⟨b_,0,none⟩)]]) hf hc rfl rfl rfl rfl fun b_1 a w hf hc => stP hf rfl rfl rfl (pA rfl) fun a hf => cNil ?_
 refine h1 _ _ ?_
 refine wp_seq_k fun K2 h2 => cReg ?_
 refine stP hf rfl rfl rfl (pM rfl) fun a hf => stP hf rfl rfl rfl (pMF (us := [.pointer (some ⟨b_1,0,none⟩)]) rfl rfl) fun a hf => ?_
 obtain ⟨r,hr,hF⟩ := bnd_some hF
 refine stE hf hc rfl rfl rfl (eC (v := .bool r) (vs := [.slice l_p l.length l_c,.func (.func 116) #[] #[.pointer (some ⟨b_1,0,none⟩)]]) (caps := []) en_115 rfl rfl rfl rfl (fun w hc => (slices_ContainsFunc_Lshare_Right_share_Right_ok l so h_l h_so_Rights ((hc.pick k1).pick k1) hr).mono fun e w h => ⟨h.1,((h.2.unpick k1).unpick k1)⟩)) fun a w hf hc => stP hf rfl rfl rfl (pNot rfl) fun a hf => stP hf rfl rfl rfl (pA rfl) fun a hf => cNil ?_
 refine h2 _ _ ?_
 refine wp_ret ?_
 obtain rfl := Option.some.inj hF
 replace hc := hc.drop k0
 exact fnOut1 (by simp) rfl Try.results71 hf hc (show look _ 4 = _ from rfl) ⟨rfl,hc⟩

def share_Check (N : Nat) (c_ : share_Compact) : Option (Int) :=
 cond ((!(share_in c_.States 1 12)) || (!(share_in ((c_.Rights.length : Nat) : Int) 1 30)))
 (some 3)
 (Option.bind (share_every_share_Right N c_.Rights c_) fun r =>
 cond (!r)
 (some 100)
 (some 0))
theorem share_Check_ok {N : Nat} {G : Pers} {Lf : List Ent} {w : World} (c_ : share_Compact) {c__Rights_p : Option Addr} {c__Rights_c : Nat} (h_c__Rights : Rd G 3 c__Rights_p c__Rights_c (c_.Rights.map enc_share_Right)) (hc : Ctx G (Lf) w) {res : Int} (hF : share_Check N c_ = some res) : Calls Try.prog 15 #[.agg #[.int .i64 c_.States,.slice c__Rights_p c_.Rights.length c__Rights_c]] w (fun e w => e = .returned (.int .i64 res) ∧ Ctx G (Lf) w) := by
 unfold share_Check at hF
 refine fnIn (args := [.agg #[.int .i64 c_.States,.slice c__Rights_p c_.Rights.length c__Rights_c]]) Try.func15 rfl Try.ntmps15 rfl fun a hf => wp_seq_k fun K1 h1 => cReg ?_
 refine stBx (cs := [.int .i64 c_.States,.slice c__Rights_p c_.Rights.length c__Rights_c]) hf hc rfl rfl rfl rfl fun b_1 a w hf hc => stP hf rfl rfl rfl (pA rfl) fun a hf => cNil ?_
 refine h1 _ _ ?_
 refine wp_seq_k fun K2 h2 => wp_block ?_
 refine wp_seq_k fun K3 h3 => cReg ?_
 refine stP hf rfl rfl rfl (pFA fa_24_0 rfl) fun a hf => stE hf hc rfl rfl rfl (eLd1 sc_3 rfl (cell_box m0 rfl)) fun a w hf hc => stE hf hc rfl rfl rfl (eC (v := .bool (share_in c_.States 1 12)) (vs := [.int .i64 c_.States,.int .i64 1,.int .i64 12]) (caps := []) en_70 rfl rfl rfl rfl (fun w hc => share_in_ok c_.States 1 12 hc rfl)) fun a w hf hc => stP hf rfl rfl rfl (pNot rfl) fun a hf => stP hf rfl rfl rfl (pM rfl) fun a hf => stCut 6 (fun a w => Has 21 a [(1,.pointer (some ⟨b_1,0,none⟩)),(4,.pointer (some ⟨b_1,0,none⟩)),(5,.int .i64 c_.States),(6,.bool (share_in c_.States 1 12)),(7,.bool (!(share_in c_.States 1 12))),(8,.bool (!(share_in c_.States 1 12))),(14,.bool ((!(share_in c_.States 1 12)) || (!(share_in ((c_.Rights.length : Nat) : Int) 1 30))))] ∧ Ctx G (.box b_1 [.int .i64 c_.States,.slice c__Rights_p c_.Rights.length c__Rights_c] 24::Lf) w) ?_ ?_
 ·cases hb : (!(share_in c_.States 1 12))
  ·rw [hb] at hf
   refine stP hf rfl rfl rfl (pFA fa_24_1 rfl) fun a hf => stE hf hc rfl rfl rfl (eLd1 sc_22 rfl (cell_box m0 rfl)) fun a w hf hc => stP hf rfl rfl rfl (pLenS Try.underlying22 rfl) fun a hf => stE hf hc rfl rfl rfl (eC (v := .bool (share_in ((c_.Rights.length : Nat) : Int) 1 30)) (vs := [.int .i64 ((c_.Rights.length : Nat) : Int),.int .i64 1,.int .i64 30]) (caps := []) en_70 rfl rfl rfl rfl (fun w hc => share_in_ok ((c_.Rights.length : Nat) : Int) 1 30 hc rfl)) fun a w hf hc => stP hf rfl rfl rfl (pNot rfl) fun a hf => stP hf rfl rfl rfl (pPf rfl rfl) fun a hf => cNil ⟨hf.keep ⟨rfl,rfl,rfl,rfl,rfl,rfl,rfl,trivial⟩,hc⟩
  ·rw [hb] at hf
   refine stS hf rfl rfl rfl fun a hf => stS hf rfl rfl rfl fun a hf => stS hf rfl rfl rfl fun a hf => stS hf rfl rfl rfl fun a hf => stS hf rfl rfl rfl fun a hf => stP hf rfl rfl rfl (pPt rfl rfl) fun a hf => cNil ⟨hf.keep ⟨rfl,rfl,rfl,rfl,rfl,rfl,rfl,trivial⟩,hc⟩
 intro a w ⟨hf,hc⟩
 refine stP hf rfl rfl rfl (pA rfl) fun a hf => cNil ?_
 refine h3 _ _ ?_
 refine cCond (b := ((!(share_in c_.States 1 12)) || (!(share_in ((c_.Rights.length : Nat) : Int) 1 30)))) hf rfl (fun hb => ?_) (fun hb => ?_)
 ·replace hF := condT hb hF
  clear hb
  refine wp_seq_k fun K4 h4 => cReg ?_
  refine stP hf rfl rfl rfl (pA rfl) fun a hf => cNil ?_
  refine h4 _ _ ?_
  refine wp_ret ?_
  refine xBlkR ?_
  refine xThenR ?_
  obtain rfl := Option.some.inj hF
  replace hc := hc.drop k0
  exact fnOut1 (by simp) rfl Try.results15 hf hc (show look _ 2 = _ from rfl) ⟨rfl,hc⟩
 ·replace hF := condF hb hF
  clear hb
  refine wp_seq_k fun K5 h5 => cReg ?_
  refine stP hf rfl rfl rfl (pFA fa_24_1 rfl) fun a hf => stE hf hc rfl rfl rfl (eLd1 sc_22 rfl (cell_box m0 rfl)) fun a w hf hc => stP hf rfl rfl rfl (pMF (us := [.pointer (some ⟨b_1,0,none⟩)]) rfl rfl) fun a hf => ?_
  obtain ⟨r,hr,hF⟩ := bnd_some hF
  refine stE hf hc rfl rfl rfl (eC (v := .bool r) (vs := [.slice c__Rights_p c_.Rights.length c__Rights_c,.func (.func 72) #[] #[.pointer (some ⟨b_1,0,none⟩)]]) (caps := []) en_71 rfl rfl rfl rfl (fun w hc => (share_every_share_Right_ok c_.Rights c_ h_c__Rights h_c__Rights (hc.pick k0) hr).mono fun e w h => ⟨h.1,(h.2.unpick k0)⟩)) fun a w hf hc => stP hf rfl rfl rfl (pNot rfl) fun a hf => stP hf rfl rfl rfl (pA rfl) fun a hf => cNil ?_
  refine h5 _ _ ?_
  refine cCond (b := (!r)) hf rfl (fun hb => ?_) (fun hb => ?_)
  ·replace hF := condT hb hF
   clear hb
   refine wp_seq_k fun K6 h6 => cReg ?_
   refine stP hf rfl rfl rfl (pA rfl) fun a hf => cNil ?_
   refine h6 _ _ ?_
   refine wp_ret ?_
   refine xBlkR ?_
   refine xThenR ?_
   obtain rfl := Option.some.inj hF
   replace hc := hc.drop k0
   exact fnOut1 (by simp) rfl Try.results15 hf hc (show look _ 2 = _ from rfl) ⟨rfl,hc⟩
  ·replace hF := condF hb hF
   clear hb
   refine wp_skip ?_
   refine h2 _ _ ?_
   refine wp_seq_k fun K7 h7 => cReg ?_
   refine stP hf rfl rfl rfl (pA rfl) fun a hf => cNil ?_
   refine h7 _ _ ?_
   refine wp_ret ?_
   obtain rfl := Option.some.inj hF
   replace hc := hc.drop k0
   exact fnOut1 (by simp) rfl Try.results15 hf hc (show look _ 2 = _ from rfl) ⟨rfl,hc⟩

def share_office_taken (N : Nat) (w_ : share_office) (flow : Int) : Option (Int) :=
 some flow
theorem share_office_taken_ok {N : Nat} {G : Pers} {Lf : List Ent} {w : World} (w_ : share_office) (flow : Int) {b_ : Nat} {w__Compact_Rights_p : Option Addr} {w__Compact_Rights_c : Nat} (h_w__Compact_Rights : Rd G 3 w__Compact_Rights_p w__Compact_Rights_c (w_.Compact.Rights.map enc_share_Right)) (hc : Ctx G (.box b_ (catc [.int .i64 w_.Compact.States,.slice w__Compact_Rights_p w_.Compact.Rights.length w__Compact_Rights_c] 12 encI_i64 w_.got []) 156::Lf) w) {res : Int} (hF : share_office_taken N w_ flow = some res) : Calls Try.prog 79 #[.pointer (some ⟨b_,0,none⟩),.int .i64 flow] w (fun e w => ∃ (b'1 : Nat) (b'2 : Nat),e = .returned (.func (.func 118) #[] #[.pointer (some ⟨b'1,0,none⟩),.pointer (some ⟨b'2,0,none⟩)]) ∧ Ctx G (.box b'1 [.pointer (some ⟨b_,0,none⟩)] 153::.box b'2 [.int .i64 res] 3::.box b_ (catc [.int .i64 w_.Compact.States,.slice w__Compact_Rights_p w_.Compact.Rights.length w__Compact_Rights_c] 12 encI_i64 w_.got []) 156::Lf) w) := by
 unfold share_office_taken at hF
 refine fnIn (args := [.pointer (some ⟨b_,0,none⟩),.int .i64 flow]) Try.func79 rfl Try.ntmps79 rfl fun a hf => wp_seq_k fun K1 h1 => cReg ?_
 refine stBx (cs := [.pointer (some ⟨b_,0,none⟩)]) hf hc rfl rfl rfl rfl fun b_1 a w hf hc => stBx (cs := [.int .i64 flow]) hf hc rfl rfl rfl rfl fun b_2 a w hf hc => stP hf rfl rfl rfl (pA rfl) fun a hf => cNil ?_
 refine h1 _ _ ?_
 refine wp_seq_k fun K2 h2 => cReg ?_
 refine stP hf rfl rfl rfl (pMF (us := [.pointer (some ⟨b_1,0,none⟩),.pointer (some ⟨b_2,0,none⟩)]) rfl rfl) fun a hf => stP hf rfl rfl rfl (pA rfl) fun a hf => cNil ?_
 refine h2 _ _ ?_
 refine wp_ret ?_
 obtain rfl := Option.some.inj hF
 replace hc := hc.pick k0
 replace hc := hc.pick k1
 exact fnOut1 (by simp) rfl Try.results79 hf hc (show look _ 4 = _ from rfl) ⟨b_1,b_2,rfl,hc⟩

def share_office_taken_1_b3 (N : Nat) {σ : Type} (x : share_office) (y : σ → (share_Right × Int) → Option (σ × Bool)) (x_0 : Int) (b__0 : Int) (sg : σ) : Option (Step (Int × Int × σ) (σ × Int)) :=
 cond (decide (x_0 < ((x.Compact.Rights.length : Nat) : Int)))
 (Option.bind (getI x.Compact.Rights x_0) fun e_1 =>
 Option.bind (y sg (e_1,min e_1.Amount b__0)) fun ry =>
 cond (!ry.2)
 (some (.ret (ry.1,W (b__0 - (min e_1.Amount b__0)))))
 (some (.cont (W (x_0 + 1),W (b__0 - (min e_1.Amount b__0)),ry.1))))
 (some (.brk (x_0,b__0,sg)))
def share_office_taken_1 (N : Nat) {σ : Type} (x : share_office) (x_1 : Int) (y : σ → (share_Right × Int) → Option (σ × Bool)) (sg0 : σ) : Option (σ × Int) :=
 Option.bind (loopO (fun s3 => share_office_taken_1_b3 N x y s3.1 s3.2.1 s3.2.2) N (0,x_1,sg0)) fun x3 =>
 exK x3 (fun s3 => some (s3.2.2,s3.2.1)) some
theorem share_office_taken_1_ok {N : Nat} {G : Pers} {Lf : List Ent} {w : World} {σ : Type} (x : share_office) (x_1 : Int) {b_ : Nat} {b__1 : Nat} {x_Compact_Rights_p : Option Addr} {x_Compact_Rights_c : Nat} {b__2 : Nat} (h_x_Compact_Rights : Rd G 3 x_Compact_Rights_p x_Compact_Rights_c (x.Compact.Rights.map enc_share_Right)) (J : σ → List Ent → Prop) (y : σ → (share_Right × Int) → Option (σ × Bool)) {l : Nat} (hy : YieldsTo Try.prog G l (fun x : (share_Right × Int) => [.agg #[.int .i64 x.1.State,.int .i64 x.1.Amount,.int .i64 x.1.Loss],.int .i64 x.2]) J y) (sg0 : σ) {A0 Ls1 : List Ent} (hJ0 : J sg0 (A0 ++ (.box b__1 (catc [.int .i64 x.Compact.States,.slice x_Compact_Rights_p x.Compact.Rights.length x_Compact_Rights_c] 12 encI_i64 x.got []) 156::Ls1))) (hc : Ctx G (.box b_ [.pointer (some ⟨b__1,0,none⟩)] 153::.box b__2 [.int .i64 x_1] 3::((A0 ++ (.box b__1 (catc [.int .i64 x.Compact.States,.slice x_Compact_Rights_p x.Compact.Rights.length x_Compact_Rights_c] 12 encI_i64 x.got []) 156::Ls1)) ++ Lf)) w) {res : σ × Int} (hF : share_office_taken_1 N x x_1 y sg0 = some res) : Calls Try.prog 118 #[.func (.yield l) #[] #[],.pointer (some ⟨b_,0,none⟩),.pointer (some ⟨b__2,0,none⟩)] w (fun e w => (∃ v,e = .returned v) ∧ ∃ L,J res.1 L ∧ Ctx G (.box b_ [.pointer (some ⟨b__1,0,none⟩)] 153::.box b__2 [.int .i64 res.2] 3::(L ++ Lf)) w) := by
 unfold share_office_taken_1 at hF
 refine fnIn (args := [.func (.yield l) #[] #[],.pointer (some ⟨b_,0,none⟩),.pointer (some ⟨b__2,0,none⟩)]) Try.func118 rfl Try.ntmps118 rfl fun a hf => ?_
 replace hc : Ctx G (.box b__1 (catc [.int .i64 x.Compact.States,.slice x_Compact_Rights_p x.Compact.Rights.length x_Compact_Rights_c] 12 encI_i64 x.got []) 156::.box b_ [.pointer (some ⟨b__1,0,none⟩)] 153::.box b__2 [.int .i64 x_1] 3::((A0 ++ Ls1) ++ Lf)) w := shOut [.box b_ [.pointer (some ⟨b__1,0,none⟩)] 153,.box b__2 [.int .i64 x_1] 3] hc
 refine wp_seq_k fun K1 h1 => cReg ?_
 refine stE hf hc rfl rfl rfl (eLd1 sc_153 rfl (cell_box m1 rfl)) fun a w hf hc => stP hf rfl rfl rfl (pNC rfl) fun a hf => stP hf rfl rfl rfl (pFA fa_156_0 rfl) fun a hf => stP hf rfl rfl rfl (pFA fa_24_1 rfl) fun a hf => stE hf hc rfl rfl rfl (eLd1 sc_22 rfl (cell_box m0 rfl)) fun a w hf hc => stP hf rfl rfl rfl (pLenS Try.underlying22 rfl) fun a hf => stP hf rfl rfl rfl (pM rfl) fun a hf => cNil ?_
 refine h1 _ _ ?_
 refine wp_thenK fun K2 h2 => wp_block ?_
 replace hc : Ctx G (.box b_ [.pointer (some ⟨b__1,0,none⟩)] 153::.box b__2 [.int .i64 x_1] 3::((A0 ++ (.box b__1 (catc [.int .i64 x.Compact.States,.slice x_Compact_Rights_p x.Compact.Rights.length x_Compact_Rights_c] 12 encI_i64 x.got []) 156::Ls1)) ++ Lf)) w := shIn [.box b_ [.pointer (some ⟨b__1,0,none⟩)] 153,.box b__2 [.int .i64 x_1] 3] hc
 obtain ⟨x3,hx3,hF⟩ := bnd_some hF
 let S3 : (Int × Int × σ) → Act → World → Prop := (fun (zz : Int × Int × σ) a w => ∃ (Ls : List Ent),J zz.2.2 Ls ∧ Has 30 a [(0,.func (.yield l) #[] #[]),(2,.pointer (some ⟨b__2,0,none⟩)),(11,.slice x_Compact_Rights_p x.Compact.Rights.length x_Compact_Rights_c),(12,.int .i64 ((x.Compact.Rights.length : Nat) : Int)),(13,.int .i64 zz.1)] ∧ Ctx G (.box b_ [.pointer (some ⟨b__1,0,none⟩)] 153::.box b__2 [.int .i64 zz.2.1] 3::(Ls ++ Lf)) w)
 have hr3 : ∀ (zz : Int × Int × σ) a w,x3 = .go zz → S3 zz a w → K2 a w := by
  rintro ⟨x_0,b__0,sg⟩ a w rfl ⟨Ls,hJ,hf,hc⟩
  replace hF := exK_go hF
  refine h2 _ _ ?_
  obtain rfl := Option.some.inj hF
  exact fnOut0 (by simp) rfl Try.results118 hf ⟨⟨_,rfl⟩,Ls,hJ,hc⟩
 have ho3 : ∀ r,x3 = .out r → r = res := by
  rintro r rfl
  exact Option.some.inj hF
 refine cLoop N (loopW (S := S3) (x := x3) ?_ N (0,x_1,sg0) _ _ ⟨(A0 ++ (.box b__1 (catc [.int .i64 x.Compact.States,.slice x_Compact_Rights_p x.Compact.Rights.length x_Compact_Rights_c] 12 encI_i64 x.got []) 156::Ls1)),hJ0,hf.keep ⟨rfl,rfl,rfl,rfl,rfl,trivial⟩,hc⟩ hx3)
 clear hF hf hc
 rintro ⟨x_0,b__0,sg⟩ st3 a w KB3 ⟨Ls,hJ,hf,hc⟩ hF hfin3 hK3
 unfold share_office_taken_1_b3 at hF
 refine wp_seq_k fun K4 h4 => cReg ?_
 refine stP hf rfl rfl rfl (pLt rfl rfl) fun a hf => cNil ?_
 refine h4 _ _ ?_
 refine wp_seq_k fun K5 h5 => cCond (b := (decide (x_0 < ((x.Compact.Rights.length : Nat) : Int)))) hf rfl (fun hb => ?_) (fun hb => ?_)
 ·replace hF := condT hb hF
  clear hb
  refine wp_skip ?_
  refine h5 _ _ ?_
  refine wp_seq_k fun K6 h6 => wp_block ?_
  refine wp_seq_k fun K7 h7 => cReg ?_
  obtain ⟨e_1,he_1,hF⟩ := bnd_some hF
  obtain ⟨b_1,o,qa,qp⟩ := h_x_Compact_Rights.atm he_1
  refine stP hf rfl rfl rfl (pIA Try.underlying22 sz_51 rfl rfl qa) fun a hf => stE hf hc rfl rfl rfl (eLdN (vs := [.int .i64 e_1.State,.int .i64 e_1.Amount,.int .i64 e_1.Loss]) ag_51 rfl rfl (cells_pc qp (n := 3) (o' := 0) rfl)) fun a w hf hc => stAl (cs := [.int .i64 0,.int .i64 0,.int .i64 0]) hf hc rfl rfl zr_51 rfl fun b_2 a w hf hc => stSt (vs := [.int .i64 e_1.State,.int .i64 e_1.Amount,.int .i64 e_1.Loss]) hf hc rfl rfl rfl rfl sz_51 rfl rfl u0 fun w hc => cNil ?_
  refine h7 _ _ ?_
  refine wp_seq_k fun K8 h8 => cReg ?_
  refine stP hf rfl rfl rfl (pFA fa_51_1 rfl) fun a hf => stE hf hc rfl rfl rfl (eLd1 sc_3 rfl (cell_box m0 rfl)) fun a w hf hc => stE hf hc rfl rfl rfl (eLd1 sc_3 rfl (cell_box m2 rfl)) fun a w hf hc => stP hf rfl rfl rfl (pMin2 rfl rfl) fun a hf => stP hf rfl rfl rfl (pA rfl) fun a hf => cNil ?_
  refine h8 _ _ ?_
  refine wp_seq_k fun K9 h9 => cReg ?_
  refine stE hf hc rfl rfl rfl (eLd1 sc_3 rfl (cell_box m2 rfl)) fun a w hf hc => stP hf rfl rfl rfl (pM rfl) fun a hf => stP hf rfl rfl rfl (pSub rfl rfl) fun a hf => stSt (vs := [.int .i64 (W (b__0 - (min e_1.Amount b__0)))]) hf hc rfl rfl rfl rfl sz_3 rfl rfl u2 fun w hc => cNil ?_
  refine h9 _ _ ?_
  refine wp_seq_k fun K10 h10 => ?_
  obtain ⟨ry,hry,hF⟩ := bnd_some hF
  refine yReg 3 (fun a w => Has 30 a [(0,.func (.yield l) #[] #[]),(2,.pointer (some ⟨b__2,0,none⟩)),(11,.slice x_Compact_Rights_p x.Compact.Rights.length x_Compact_Rights_c),(12,.int .i64 ((x.Compact.Rights.length : Nat) : Int)),(13,.int .i64 x_0),(5,.pointer (some ⟨b_2,0,none⟩)),(6,.int .i64 (min e_1.Amount b__0)),(24,.func (.yield l) #[] #[]),(25,.agg #[.int .i64 e_1.State,.int .i64 e_1.Amount,.int .i64 e_1.Loss]),(26,.int .i64 (min e_1.Amount b__0))] ∧ Ctx G (.box b_2 [.int .i64 e_1.State,.int .i64 e_1.Amount,.int .i64 e_1.Loss] 51::.box b_ [.pointer (some ⟨b__1,0,none⟩)] 153::.box b__2 [.int .i64 (W (b__0 - (min e_1.Amount b__0)))] 3::(Ls ++ Lf)) w) (fun _ _ h => by obtain ⟨⟨_,h⟩,_⟩ := h; cases h) ?_ ?_
  ·refine stP hf rfl rfl rfl (pM rfl) fun a hf => stE hf hc rfl rfl rfl (eLdN (vs := [.int .i64 e_1.State,.int .i64 e_1.Amount,.int .i64 e_1.Loss]) ag_51 rfl rfl (cells_box (n := 3) m0 rfl)) fun a w hf hc => stP hf rfl rfl rfl (pM rfl) fun a hf => cNil ⟨hf.keep ⟨rfl,rfl,rfl,rfl,rfl,rfl,rfl,rfl,rfl,rfl,trivial⟩,hc⟩
  rintro a w ⟨hf,hc⟩
  refine stY (own := [.box b_2 [.int .i64 e_1.State,.int .i64 e_1.Amount,.int .i64 e_1.Loss] 51,.box b_ [.pointer (some ⟨b__1,0,none⟩)] 153,.box b__2 [.int .i64 (W (b__0 - (min e_1.Amount b__0)))] 3]) (v := (e_1,min e_1.Amount b__0)) hy hJ hry hf hc rfl rfl rfl rfl rfl rfl fun a w Ls_1 hJ_1 hf hc => ?_
  replace hc : Ctx G (.box b_2 [.int .i64 e_1.State,.int .i64 e_1.Amount,.int .i64 e_1.Loss] 51::.box b_ [.pointer (some ⟨b__1,0,none⟩)] 153::.box b__2 [.int .i64 (W (b__0 - (min e_1.Amount b__0)))] 3::(Ls_1 ++ Lf)) w := hc
  refine yRest (fun _ _ h => by obtain ⟨⟨_,h⟩,_⟩ := h; cases h) ?_
  refine stP hf rfl rfl rfl (pNot rfl) fun a hf => cNil ?_
  refine h10 _ _ ?_
  refine cCond (b := (!ry.2)) hf rfl (fun hb => ?_) (fun hb => ?_)
  ·replace hF := condT hb hF
   clear hb
   refine wp_ret ?_
   refine xBlkR ?_
   refine xThenR ?_
   refine xThenR ?_
   have he := Option.some.inj hF
   rw [← he] at hfin3
   replace hF := ho3 _ hfin3
   refine xBlkR ?_
   refine xThenR ?_
   obtain rfl := hF
   replace hc := hc.drop k0
   exact fnOut0 (by simp) rfl Try.results118 hf ⟨⟨_,rfl⟩,Ls_1,hJ_1,hc⟩
  ·replace hF := condF hb hF
   clear hb
   refine wp_skip ?_
   refine h6 _ _ ?_
   refine cReg ?_
   refine stP hf rfl rfl rfl (pAdd rfl rfl) fun a hf => stP hf rfl rfl rfl (pM rfl) fun a hf => cNil ?_
   replace hc := hc.drop k0
   exact hK3 (W (x_0 + 1),W (b__0 - (min e_1.Amount b__0)),ry.1) _ _ (Option.some.inj hF).symm ⟨Ls_1,hJ_1,hf.keep ⟨rfl,rfl,rfl,rfl,rfl,trivial⟩,hc⟩
 ·replace hF := condF hb hF
  clear hb
  refine wp_exit ?_
  refine xThen ?_
  refine xThen ?_
  have he := Option.some.inj hF
  rw [← he] at hfin3
  refine cHit ?_
  exact hr3 _ _ _ hfin3 ⟨Ls,hJ,hf.keep ⟨rfl,rfl,rfl,rfl,rfl,trivial⟩,hc⟩

def slices_Clone_Lint_int (N : Nat) (s_ : List Int) : Option ((List Int)) :=
 Option.bind (room (s_).length) fun un =>
 some s_
theorem slices_Clone_Lint_int_ok {N : Nat} {G : Pers} {Lf : List Ent} {w : World} (s_ : List Int) {s__p : Option Addr} {s__c : Nat} (h_s_ : Rd G 1 s__p s__c (s_.map encI_i64)) (hc : Ctx G (Lf) w) {res : (List Int)} (hF : slices_Clone_Lint_int N s_ = some res) : Calls Try.prog 117 #[.slice s__p s_.length s__c] w (fun e w => ∃ (p'1 : Option Addr) (c'1 : Nat),e = .returned (.slice p'1 res.length c'1) ∧ Ctx G (.row p'1 c'1 (res.map encI_i64) 3 1::Lf) w) := by
 unfold slices_Clone_Lint_int at hF
 refine fnIn (args := [.slice s__p s_.length s__c]) Try.func117 rfl Try.ntmps117 rfl fun a hf => wp_seq_k fun K1 h1 => cReg ?_
 refine stP hf rfl rfl rfl (pA rfl) fun a hf => cNil ?_
 refine h1 _ _ ?_
 refine wp_seq_k fun K2 h2 => wp_seq_k fun K3 h3 => cReg ?_
 refine stP hf rfl rfl rfl (pM rfl) fun a hf => stP hf rfl rfl rfl (pEqN Try.underlying36 rfl rfl) fun a hf => cNil ?_
 refine h3 _ _ ?_
 rcases rd_nilq h_s_ with ⟨hp,hx⟩ | hp
 ·rw [hp] at hf
  replace hF : (some ([] : List Int)) = some res := by
   try rw [hx] at hF
   exact hF
  refine cCondT hf rfl ?_
  refine wp_seq_k fun K4 h4 => cReg ?_
  refine stP hf rfl rfl rfl (pA rfl) fun a hf => cNil ?_
  refine h4 _ _ ?_
  refine wp_ret ?_
  refine xThenR ?_
  obtain rfl := Option.some.inj hF
  replace hc := hc.nilRow 3 1
  exact fnOut1 (by simp) rfl Try.results117 hf hc (show look _ 2 = _ from rfl) ⟨none,0,rfl,hc⟩
 ·rw [hp] at hf
  refine cCondF hf rfl ?_
  refine wp_skip ?_
  refine h2 _ _ ?_
  refine wp_seq_k fun K5 h5 => cReg ?_
  refine stBS (rows := ([] : List Int).map encI_i64) (vs := []) hf hc rfl rfl sl_36 rfl trivial rfl rfl fun b_1 a w hf hc => stP hf rfl rfl rfl (pM rfl) fun a hf => ?_
  obtain ⟨un,hun,hF⟩ := bnd_some hF
  refine stApm (xs := ([] : List Int)) (ys := s_) hf hc rfl rfl sl_36 rfl rfl rfl rfl rfl one_encI_i64 (src_rd hc h_s_) (fun _ _ => u0) (by simpa using room_spec hun) fun p_1 c_1 a w hf hc => stP hf rfl rfl rfl (pA rfl) fun a hf => cNil ?_
  refine h5 _ _ ?_
  refine wp_ret ?_
  obtain rfl := Option.some.inj hF
  exact fnOut1 (by simp) rfl Try.results117 hf hc (show look _ 2 = _ from rfl) ⟨p_1,c_1,rfl,hc⟩

def share_serve_r5 (N : Nat) (x : Nat → Int) (xv : share_Right) (xv_1 : Int) : Option (Rs ((Nat → Int))) :=
 Option.bind (inR xv.State 12) fun un =>
 Option.bind (inR xv.State 12) fun un_1 =>
 some (.go (setF x xv.State.toNat (W ((x xv.State.toNat) + (W ((W (xv_1 * (W (1000 - xv.Loss)))).tdiv 1000))))))
def share_serve (N : Nat) (c_ : share_Compact) (flow : Int) : Option ((List Int)) :=
 Option.bind (share_office_taken N (⟨c_,(fun _ => 0)⟩ : share_office) flow) fun r =>
 Option.bind (share_office_taken_1 N (⟨c_,(fun _ => 0)⟩ : share_office) r (rY (fun (zz : (Nat → Int)) (ix_ : (share_Right × Int)) => share_serve_r5 N zz ix_.1 ix_.2)) (.go (fun _ => 0))) fun x5 =>
 rsK x5.1 (fun zz5 => Option.bind (subO (aL 12 zz5) 0 c_.States) fun sub =>
 Option.bind (slices_Clone_Lint_int N sub) fun r_1 =>
 some r_1) (fun zz5 => none)
theorem share_serve_ok {N : Nat} {G : Pers} {Lf : List Ent} {w : World} (c_ : share_Compact) (flow : Int) {c__Rights_p : Option Addr} {c__Rights_c : Nat} (h_c__Rights : Rd G 3 c__Rights_p c__Rights_c (c_.Rights.map enc_share_Right)) (hc : Ctx G (Lf) w) {res : (List Int)} (hF : share_serve N c_ flow = some res) : Calls Try.prog 75 #[.agg #[.int .i64 c_.States,.slice c__Rights_p c_.Rights.length c__Rights_c],.int .i64 flow] w (fun e w => ∃ (p'1 : Option Addr) (c'1 : Nat),e = .returned (.slice p'1 res.length c'1) ∧ Ctx G (.row p'1 c'1 (res.map encI_i64) 3 1::Lf) w) := by
 unfold share_serve at hF
 refine fnInM (args := [.agg #[.int .i64 c_.States,.slice c__Rights_p c_.Rights.length c__Rights_c],.int .i64 flow]) Try.func75 rfl Try.ntmps75 rfl fun a hf => wp_seq_k fun K1 h1 => cReg ?_
 refine stBx (cs := [.int .i64 c_.States,.slice c__Rights_p c_.Rights.length c__Rights_c]) hf hc rfl rfl rfl rfl fun b_1 a w hf hc => stP hf rfl rfl rfl (pA rfl) fun a hf => cNil ?_
 refine h1 _ _ ?_
 refine wp_seq_k fun K2 h2 => cReg ?_
 refine stE hf hc rfl rfl rfl (eLdN (vs := [.int .i64 c_.States,.slice c__Rights_p c_.Rights.length c__Rights_c]) ag_24 rfl rfl (cells_box (n := 2) m0 rfl)) fun a w hf hc => stP hf rfl rfl rfl (pBuildS (cells := (catc [.int .i64 c_.States,.slice c__Rights_p c_.Rights.length c__Rights_c] 12 encI_i64 (fun _ => 0) [])) bt_156 rfl rfl) fun a hf => stBx (cs := (catc [.int .i64 c_.States,.slice c__Rights_p c_.Rights.length c__Rights_c] 12 encI_i64 (fun _ => 0) [])) hf hc rfl rfl rfl rfl fun b_2 a w hf hc => stAl (cs := [.pointer none]) hf hc rfl rfl zr_153 rfl fun b_3 a w hf hc => stSt (vs := [.pointer (some ⟨b_2,0,none⟩)]) hf hc rfl rfl rfl rfl sz_153 rfl rfl u0 fun w hc => cNil ?_
 refine h2 _ _ ?_
 refine wp_seq_k fun K3 h3 => wp_seq_k fun K4 h4 => cReg ?_
 refine stE hf hc rfl rfl rfl (eLd1 sc_153 rfl (cell_box m0 rfl)) fun a w hf hc => stP hf rfl rfl rfl (pM rfl) fun a hf => ?_
 obtain ⟨r,hr,hF⟩ := bnd_some hF
 refine stC (vs := [.pointer (some ⟨b_2,0,none⟩),.int .i64 flow]) (caps := []) hf rfl rfl rfl en_79 rfl rfl rfl rfl (share_office_taken_ok (⟨c_,(fun _ => 0)⟩ : share_office) flow h_c__Rights (hc.pick k1) hr) ?_
 rintro _ w ⟨b_4,b_5,rfl,hc⟩
 refine ⟨_,rfl,fun a hf => ?_⟩
 refine cNil ?_
 refine h4 _ _ ?_
 obtain ⟨x5,hx5,hF⟩ := bnd_some hF
 replace hc := hc.drop k4
 refine cRangeA (C := [.box b_4 [.pointer (some ⟨b_2,0,none⟩)] 153,.box b_5 [.int .i64 r] 3]) (C2 := [.box b_4 [.pointer (some ⟨b_2,0,none⟩)] 153,.box b_5 [.int .i64 x5.2] 3]) (L0 := [.box b_2 (catc [.int .i64 c_.States,.slice c__Rights_p c_.Rights.length c__Rights_c] 12 encI_i64 ((fun _ => 0)) []) 156,.box b_3 [.pointer (some ⟨b_2,0,none⟩)] 153]) (Lf := Lf) (encs := fun x : (share_Right × Int) => [.agg #[.int .i64 x.1.State,.int .i64 x.1.Amount,.int .i64 x.1.Loss],.int .i64 x.2]) (fun (zz : (Nat → Int)) L => L = [.box b_2 (catc [.int .i64 c_.States,.slice c__Rights_p c_.Rights.length c__Rights_c] 12 encI_i64 zz []) 156,.box b_3 [.pointer (some ⟨b_2,0,none⟩)] 153]) (fun (zz : (Nat → Int)) (ix_ : (share_Right × Int)) => share_serve_r5 N zz ix_.1 ix_.2) (fun _ => 0) x5.1 hf hc rfl en_118 (fun _ => rfl) rfl rfl ?_ ?_ ?_ ?_
 ·intro lq mq J A Lx w hy hJ hc
  exact share_office_taken_1_ok (⟨c_,(fun _ => 0)⟩ : share_office) r h_c__Rights J _ hy _ hJ hc hx5
 ·clear hF hf hc
  rintro lq mq x ⟨xv,xv_1⟩ oq _ Lr Lb a w hK0 rfl hF hf hc hK
  replace hf : Has 43 a [(5,.pointer (some ⟨b_3,0,none⟩)),(14,.agg #[.int .i64 xv.State,.int .i64 xv.Amount,.int .i64 xv.Loss]),(15,.int .i64 xv_1)] := hf.keep ⟨rfl,rfl,rfl,trivial⟩
  replace hc : Ctx G (.box b_2 (catc [.int .i64 c_.States,.slice c__Rights_p c_.Rights.length c__Rights_c] 12 encI_i64 x []) 156::.box b_3 [.pointer (some ⟨b_2,0,none⟩)] 153::Lr) w := hc
  replace hF : share_serve_r5 N x xv xv_1 = some oq := hF
  unfold share_serve_r5 at hF
  refine rSeq fun K6 h6 => rReg (fun _ _ h => h) rfl ?_
  refine stAl (cs := [.int .i64 0,.int .i64 0,.int .i64 0]) hf hc rfl rfl zr_51 rfl fun b_6 a w hf hc => stSt (vs := [.int .i64 xv.State,.int .i64 xv.Amount,.int .i64 xv.Loss]) hf hc rfl rfl rfl rfl sz_51 rfl rfl u0 fun w hc => cNil ?_
  refine h6 _ _ ?_
  refine rReg (fun _ _ h => h) rfl ?_
  refine stP hf rfl rfl rfl (pA rfl) fun a hf => cNil ?_
  refine hK _ _ [.box b_6 [.int .i64 xv.State,.int .i64 xv.Amount,.int .i64 xv.Loss] 51,.box b_2 (catc [.int .i64 c_.States,.slice c__Rights_p c_.Rights.length c__Rights_c] 12 encI_i64 x []) 156,.box b_3 [.pointer (some ⟨b_2,0,none⟩)] 153] hc fun w hc => ?_
  replace hc : Ctx G (.box b_6 [.int .i64 xv.State,.int .i64 xv.Amount,.int .i64 xv.Loss] 51::.box b_2 (catc [.int .i64 c_.States,.slice c__Rights_p c_.Rights.length c__Rights_c] 12 encI_i64 x []) 156::.box b_3 [.pointer (some ⟨b_2,0,none⟩)] 153::Lb) w := hc
  refine rThenK fun K7 h7 => rBlock ?_
  obtain ⟨un,hun,hF⟩ := bnd_some hF
  obtain ⟨un_1,hun_1,hF⟩ := bnd_some hF
  refine rRegE (fun _ _ h => h) rfl (fun θ => [⟨none,none,5,.pointer (some ⟨b_3,0,none⟩)⟩,⟨none,none,6,.pointer (some ⟨b_6,0,none⟩)⟩,⟨none,none,7,.int .i64 xv_1⟩,⟨some 0,none,16,.pointer (some ⟨b_2,0,none⟩)⟩,⟨some 1,none,17,.pointer (some ⟨b_6,0,none⟩)⟩,⟨some 2,none,18,.int .i64 xv.State⟩,⟨some 3,none,19,.pointer (some ⟨b_2,0,none⟩)⟩,⟨some 4,none,20,.pointer (some ⟨b_2,2,none⟩)⟩,⟨some 5,none,21,.pointer (some ⟨b_2,2 + xv.State.toNat * 1,none⟩)⟩,⟨some 6,none,22,.int .i64 (x xv.State.toNat)⟩,⟨some 7,none,23,.int .i64 xv_1⟩,⟨some 8,none,24,.pointer (some ⟨b_6,2,none⟩)⟩,⟨some 9,none,25,.int .i64 xv.Loss⟩,⟨some 10,none,26,.int .i64 (W (1000 - xv.Loss))⟩,⟨some 11,none,27,.int .i64 (W (xv_1 * (W (1000 - xv.Loss))))⟩,⟨some 12,none,28,.int .i64 (W ((W (xv_1 * (W (1000 - xv.Loss)))).tdiv 1000))⟩,⟨some 13,none,29,.int .i64 (W ((x xv.State.toNat) + (W ((W (xv_1 * (W (1000 - xv.Loss)))).tdiv 1000))))⟩,⟨some 14,none,30,.pointer (some ⟨b_2,0,none⟩)⟩,⟨some 15,none,31,.pointer (some ⟨b_2,2,none⟩)⟩,⟨some 16,none,32,.pointer (some ⟨b_2,2 + xv.State.toNat * 1,none⟩)⟩]) (fun E θ => .box b_6 [.int .i64 xv.State,.int .i64 xv.Amount,.int .i64 xv.Loss] 51::(bif E 17 then .box b_2 (catc [.int .i64 c_.States,.slice c__Rights_p c_.Rights.length c__Rights_c] 12 encI_i64 (setF x xv.State.toNat (W ((x xv.State.toNat) + (W ((W (xv_1 * (W (1000 - xv.Loss)))).tdiv 1000))))) []) 156 else .box b_2 (catc [.int .i64 c_.States,.slice c__Rights_p c_.Rights.length c__Rights_c] 12 encI_i64 x []) 156)::.box b_3 [.pointer (some ⟨b_2,0,none⟩)] 153::Lb) [(17,6)] (fun a w => Has 43 a [(5,.pointer (some ⟨b_3,0,none⟩))] ∧ Ctx G (.box b_6 [.int .i64 xv.State,.int .i64 xv.Amount,.int .i64 xv.Loss] 51::.box b_2 (catc [.int .i64 c_.States,.slice c__Rights_p c_.Rights.length c__Rights_c] 12 encI_i64 (setF x xv.State.toNat (W ((x xv.State.toNat) + (W ((W (xv_1 * (W (1000 - xv.Loss)))).tdiv 1000))))) []) 156::.box b_3 [.pointer (some ⟨b_2,0,none⟩)] 153::Lb) w) follows_mx (by kernel_rfl) (by kernel_rfl) (HasE.of hf ⟨rfl,rfl,rfl,trivial,trivial,trivial,trivial,trivial,trivial,trivial,trivial,trivial,trivial,trivial,trivial,trivial,trivial,trivial,trivial,trivial,trivial⟩) hc ⟨?_,?_,?_,?_,?_,?_,?_,?_,?_,?_,?_,?_,?_,?_,?_,?_,?_,?_,trivial⟩ ?_ ?_
  ·intro E θ a w hD hi hp he hc
   have hf := he.h0
   replace hf := hf.more he 0 rfl onT
   refine stE hf hc rfl rfl rfl (eLd1 sc_153 rfl (cell_box m2 rfl)) fun a w hf hc => cNil ?_
   refine xThenN ?_
   intro ds u hau
   refine ⟨θ,he.put0 hi hau hf rfl 3 rfl rfl,?_⟩
   exact hc
  ·intro E θ a w hD hi hp he hc
   have hf := he.h0
   replace hf := hf.more he 1 rfl onT
   refine stP hf rfl rfl rfl (pFA fa_51_0 rfl) fun a hf => cNil ?_
   refine xThenN ?_
   intro ds u hau
   refine ⟨θ,he.put0 hi hau hf rfl 4 rfl rfl,?_⟩
   exact hc
  ·intro E θ a w hD hi hp he hc
   have e1 := hp.of (k := 1) rfl
   have hf := he.h0
   replace hf := hf.more he 4 rfl (onP e1)
   refine stE hf hc rfl rfl rfl (eLd1 sc_3 rfl (cell_box m0 rfl)) fun a w hf hc => cNil ?_
   refine xThenN ?_
   intro ds u hau
   refine ⟨θ,he.put0 hi hau hf rfl 5 rfl rfl,?_⟩
   exact hc
  ·intro E θ a w hD hi hp he hc
   have e0 := hp.of (k := 0) rfl
   have hf := he.h0
   replace hf := hf.more he 3 rfl (onP e0)
   refine stP hf rfl rfl rfl (pNC rfl) fun a hf => cNil ?_
   refine xThenN ?_
   intro ds u hau
   refine ⟨θ,he.put0 hi hau hf rfl 6 rfl rfl,?_⟩
   exact hc
  ·intro E θ a w hD hi hp he hc
   have e3 := hp.of (k := 3) rfl
   have hf := he.h0
   replace hf := hf.more he 6 rfl (onP e3)
   refine stP hf rfl rfl rfl (pFA fa_156_1 rfl) fun a hf => cNil ?_
   refine xThenN ?_
   intro ds u hau
   refine ⟨θ,he.put0 hi hau hf rfl 7 rfl rfl,?_⟩
   exact hc
  ·intro E θ a w hD hi hp he hc
   have e2 := hp.of (k := 2) rfl
   have e4 := hp.of (k := 4) rfl
   have hf := he.h0
   replace hf := hf.more he 5 rfl (onP e2)
   replace hf := hf.more he 7 rfl (onP e4)
   refine stP hf rfl rfl rfl (pIAA Try.underlying154 sz_3 rfl rfl (inR_spec hun).1 (inR_spec hun).2) fun a hf => cNil ?_
   refine xThenN ?_
   intro ds u hau
   refine ⟨θ,he.put0 hi hau hf rfl 8 rfl rfl,?_⟩
   exact hc
  ·intro E θ a w hD hi hp he hc
   have e5 := hp.of (k := 5) rfl
   have e17 := hD.f 0 rfl hi
   try dsimp only at hc
   rw [e17] at hc
   have hf := he.h0
   replace hf := hf.more he 8 rfl (onP e5)
   refine stE hf hc rfl rfl rfl (eLd1 sc_3 rfl (cell_arr (j := 0) m1 (fun x => (one_encI_i64 x).1) rfl hun rfl)) fun a w hf hc => cNil ?_
   refine xThenN ?_
   intro ds u hau
   refine ⟨θ,he.put0 hi hau hf rfl 9 rfl rfl,?_⟩
   try dsimp only
   rw [updE_fls 6 e17 rfl]
   exact hc
  ·intro E θ a w hD hi hp he hc
   have hf := he.h0
   replace hf := hf.more he 2 rfl onT
   refine stP hf rfl rfl rfl (pM rfl) fun a hf => cNil ?_
   refine xThenN ?_
   intro ds u hau
   refine ⟨θ,he.put0 hi hau hf rfl 10 rfl rfl,?_⟩
   exact hc
  ·intro E θ a w hD hi hp he hc
   have hf := he.h0
   replace hf := hf.more he 1 rfl onT
   refine stP hf rfl rfl rfl (pFA fa_51_2 rfl) fun a hf => cNil ?_
   refine xThenN ?_
   intro ds u hau
   refine ⟨θ,he.put0 hi hau hf rfl 11 rfl rfl,?_⟩
   exact hc
  ·intro E θ a w hD hi hp he hc
   have e8 := hp.of (k := 8) rfl
   have hf := he.h0
   replace hf := hf.more he 11 rfl (onP e8)
   refine stE hf hc rfl rfl rfl (eLd1 sc_3 rfl (cell_box m0 rfl)) fun a w hf hc => cNil ?_
   refine xThenN ?_
   intro ds u hau
   refine ⟨θ,he.put0 hi hau hf rfl 12 rfl rfl,?_⟩
   exact hc
  ·intro E θ a w hD hi hp he hc
   have e9 := hp.of (k := 9) rfl
   have hf := he.h0
   replace hf := hf.more he 12 rfl (onP e9)
   refine stP hf rfl rfl rfl (pSub rfl rfl) fun a hf => cNil ?_
   refine xThenN ?_
   intro ds u hau
   refine ⟨θ,he.put0 hi hau hf rfl 13 rfl rfl,?_⟩
   exact hc
  ·intro E θ a w hD hi hp he hc
   have e7 := hp.of (k := 7) rfl
   have e10 := hp.of (k := 10) rfl
   have hf := he.h0
   replace hf := hf.more he 10 rfl (onP e7)
   replace hf := hf.more he 13 rfl (onP e10)
   refine stP hf rfl rfl rfl (pMul rfl rfl) fun a hf => cNil ?_
   refine xThenN ?_
   intro ds u hau
   refine ⟨θ,he.put0 hi hau hf rfl 14 rfl rfl,?_⟩
   exact hc
  ·intro E θ a w hD hi hp he hc
   have e11 := hp.of (k := 11) rfl
   have hf := he.h0
   replace hf := hf.more he 14 rfl (onP e11)
   refine stP hf rfl rfl rfl (pQuo rfl rfl (by decide)) fun a hf => cNil ?_
   refine xThenN ?_
   intro ds u hau
   refine ⟨θ,he.put0 hi hau hf rfl 15 rfl rfl,?_⟩
   exact hc
  ·intro E θ a w hD hi hp he hc
   have e6 := hp.of (k := 6) rfl
   have e12 := hp.of (k := 12) rfl
   have hf := he.h0
   replace hf := hf.more he 9 rfl (onP e6)
   replace hf := hf.more he 15 rfl (onP e12)
   refine stP hf rfl rfl rfl (pAdd rfl rfl) fun a hf => cNil ?_
   refine xThenN ?_
   intro ds u hau
   refine ⟨θ,he.put0 hi hau hf rfl 16 rfl rfl,?_⟩
   exact hc
  ·intro E θ a w hD hi hp he hc
   have e0 := hp.of (k := 0) rfl
   have hf := he.h0
   replace hf := hf.more he 3 rfl (onP e0)
   refine stP hf rfl rfl rfl (pNC rfl) fun a hf => cNil ?_
   refine xThenN ?_
   intro ds u hau
   refine ⟨θ,he.put0 hi hau hf rfl 17 rfl rfl,?_⟩
   exact hc
  ·intro E θ a w hD hi hp he hc
   have e14 := hp.of (k := 14) rfl
   have hf := he.h0
   replace hf := hf.more he 17 rfl (onP e14)
   refine stP hf rfl rfl rfl (pFA fa_156_1 rfl) fun a hf => cNil ?_
   refine xThenN ?_
   intro ds u hau
   refine ⟨θ,he.put0 hi hau hf rfl 18 rfl rfl,?_⟩
   exact hc
  ·intro E θ a w hD hi hp he hc
   have e2 := hp.of (k := 2) rfl
   have e15 := hp.of (k := 15) rfl
   have hf := he.h0
   replace hf := hf.more he 5 rfl (onP e2)
   replace hf := hf.more he 18 rfl (onP e15)
   refine stP hf rfl rfl rfl (pIAA Try.underlying154 sz_3 rfl rfl (inR_spec hun_1).1 (inR_spec hun_1).2) fun a hf => cNil ?_
   refine xThenN ?_
   intro ds u hau
   refine ⟨θ,he.put0 hi hau hf rfl 19 rfl rfl,?_⟩
   exact hc
  ·intro E θ a w hD hi hp he hc
   have e13 := hp.of (k := 13) rfl
   have e16 := hp.of (k := 16) rfl
   try dsimp only at hc
   rw [hi] at hc
   have hf := he.h0
   replace hf := hf.more he 16 rfl (onP e13)
   replace hf := hf.more he 19 rfl (onP e16)
   refine stAr (vs := [.int .i64 (W ((x xv.State.toNat) + (W ((W (xv_1 * (W (1000 - xv.Loss)))).tdiv 1000))))]) (o' := 0) (z := W ((x xv.State.toNat) + (W ((W (xv_1 * (W (1000 - xv.Loss)))).tdiv 1000)))) hf hc rfl rfl rfl rfl sz_3 rfl (fun x => (one_encI_i64 x).1) rfl hun_1 rfl rfl u1 fun w hc => cNil ?_
   refine xThenN ?_
   intro ds u hau
   refine ⟨θ,he.stay0 hi hau hf rfl,?_⟩
   try dsimp only
   rw [updE_self E 17]
   exact hc
  ·intro E θ a w hall he hc
   have hf := he.h0
   have e17 := hall 17 rfl
   replace hf := hf.more he 0 rfl (onT)
   try dsimp only at hc
   rw [e17] at hc
   exact ⟨hf.keep ⟨rfl,trivial⟩,hc⟩
  rintro a w ⟨hf,hc⟩
  refine h7 _ _ ?_
  replace hc := hc.drop k0
  exact ⟨(setF x xv.State.toNat (W ((x xv.State.toNat) + (W ((W (xv_1 * (W (1000 - xv.Loss)))).tdiv 1000))))),_,(Option.some.inj hF).symm,rfl,hc⟩
 ·rintro D_1 x _ a w hsF rfl hf hc
  replace hf : Has ⟨43,markL (D_1::[])⟩ a [(5,.pointer (some ⟨b_3,0,none⟩))] := hf.keep ⟨rfl,trivial⟩
  replace hc : Ctx G (.box b_4 [.pointer (some ⟨b_2,0,none⟩)] 153::.box b_5 [.int .i64 x5.2] 3::.box b_2 (catc [.int .i64 c_.States,.slice c__Rights_p c_.Rights.length c__Rights_c] 12 encI_i64 x []) 156::.box b_3 [.pointer (some ⟨b_2,0,none⟩)] 153::(raws (D_1::[]) ++ Lf)) w := rawsIn (C := [.box b_4 [.pointer (some ⟨b_2,0,none⟩)] 153,.box b_5 [.int .i64 x5.2] 3]) (L := [.box b_2 (catc [.int .i64 c_.States,.slice c__Rights_p c_.Rights.length c__Rights_c] 12 encI_i64 x []) 156,.box b_3 [.pointer (some ⟨b_2,0,none⟩)] 153]) hc
  replace hF : (Option.bind (subO (aL 12 x) 0 c_.States) fun sub => Option.bind (slices_Clone_Lint_int N sub) fun r_1 => some r_1) = some res := by rcases hsF with h_ | h_ <;> (rw [h_] at hF; exact hF)
  refine h3 _ _ ?_
  refine wp_seq_k fun K8 h8 => ?_
  obtain ⟨sub,hsub,hF⟩ := bnd_some hF
  obtain ⟨r_1,hr_1,hF⟩ := bnd_some hF
  replace hc := hc.nilRow 0 0
  refine regionE (fun θ => [⟨none,none,5,.pointer (some ⟨b_3,0,none⟩)⟩,⟨some 0,none,33,.pointer (some ⟨b_2,0,none⟩)⟩,⟨some 1,none,34,.pointer (some ⟨b_2,0,none⟩)⟩,⟨some 2,none,35,.pointer (some ⟨b_2,2,none⟩)⟩,⟨some 3,none,36,.pointer (some ⟨b_2,0,none⟩)⟩,⟨some 4,none,37,.pointer (some ⟨b_2,0,none⟩)⟩,⟨some 5,none,38,.pointer (some ⟨b_2,0,none⟩)⟩,⟨some 6,none,39,.pointer (some ⟨b_2,0,none⟩)⟩,⟨some 7,none,40,.int .i64 c_.States⟩,⟨some 8,none,41,.slice (subP (some ⟨b_2,2,none⟩) 12 (0 : Int).toNat 1) sub.length (12 - (0 : Int).toNat)⟩,⟨some 9,none,42,.slice ((θ 72).p) r_1.length ((θ 72).c)⟩,⟨some 10,none,4,.slice ((θ 72).p) r_1.length ((θ 72).c)⟩]) (fun E θ => (bif E 9 then .row ((θ 72).p) ((θ 72).c) (r_1.map encI_i64) 3 1 else .row none 0 [] 0 0)::.box b_4 [.pointer (some ⟨b_2,0,none⟩)] 153::.box b_5 [.int .i64 x5.2] 3::.box b_2 (catc [.int .i64 c_.States,.slice c__Rights_p c_.Rights.length c__Rights_c] 12 encI_i64 x []) 156::.box b_3 [.pointer (some ⟨b_2,0,none⟩)] 153::(raws (D_1::[]) ++ Lf)) [(10,9)] (fun a w => ∃ (p_2 : Option Addr) (c_2 : Nat),Has ⟨43,markL (D_1::[])⟩ a [(4,.slice p_2 r_1.length c_2)] ∧ Ctx G (.row p_2 c_2 (r_1.map encI_i64) 3 1::.box b_4 [.pointer (some ⟨b_2,0,none⟩)] 153::.box b_5 [.int .i64 x5.2] 3::.box b_2 (catc [.int .i64 c_.States,.slice c__Rights_p c_.Rights.length c__Rights_c] 12 encI_i64 x []) 156::.box b_3 [.pointer (some ⟨b_2,0,none⟩)] 153::(raws (D_1::[]) ++ Lf)) w) follows_mx (by kernel_rfl) (by kernel_rfl) (HasE.of hf ⟨rfl,trivial,trivial,trivial,trivial,trivial,trivial,trivial,trivial,trivial,trivial,trivial,trivial⟩) hc ⟨?_,?_,?_,?_,?_,?_,?_,?_,?_,?_,?_,trivial⟩ ?_ ?_
  ·intro E θ a w hD hi hp he hc
   have hf := he.h0
   replace hf := hf.more he 0 rfl onT
   refine stE hf hc rfl rfl rfl (eLd1 sc_153 rfl (cell_box m4 rfl)) fun a w hf hc => cNil ?_
   refine xThenN ?_
   intro ds u hau
   refine ⟨θ,he.put0 hi hau hf rfl 1 rfl rfl,?_⟩
   exact hc
  ·intro E θ a w hD hi hp he hc
   have e0 := hp.of (k := 0) rfl
   have hf := he.h0
   replace hf := hf.more he 1 rfl (onP e0)
   refine stP hf rfl rfl rfl (pNC rfl) fun a hf => cNil ?_
   refine xThenN ?_
   intro ds u hau
   refine ⟨θ,he.put0 hi hau hf rfl 2 rfl rfl,?_⟩
   exact hc
  ·intro E θ a w hD hi hp he hc
   have e1 := hp.of (k := 1) rfl
   have hf := he.h0
   replace hf := hf.more he 2 rfl (onP e1)
   refine stP hf rfl rfl rfl (pFA fa_156_1 rfl) fun a hf => cNil ?_
   refine xThenN ?_
   intro ds u hau
   refine ⟨θ,he.put0 hi hau hf rfl 3 rfl rfl,?_⟩
   exact hc
  ·intro E θ a w hD hi hp he hc
   have hf := he.h0
   replace hf := hf.more he 0 rfl onT
   refine stE hf hc rfl rfl rfl (eLd1 sc_153 rfl (cell_box m4 rfl)) fun a w hf hc => cNil ?_
   refine xThenN ?_
   intro ds u hau
   refine ⟨θ,he.put0 hi hau hf rfl 4 rfl rfl,?_⟩
   exact hc
  ·intro E θ a w hD hi hp he hc
   have e3 := hp.of (k := 3) rfl
   have hf := he.h0
   replace hf := hf.more he 4 rfl (onP e3)
   refine stP hf rfl rfl rfl (pNC rfl) fun a hf => cNil ?_
   refine xThenN ?_
   intro ds u hau
   refine ⟨θ,he.put0 hi hau hf rfl 5 rfl rfl,?_⟩
   exact hc
  ·intro E θ a w hD hi hp he hc
   have e4 := hp.of (k := 4) rfl
   have hf := he.h0
   replace hf := hf.more he 5 rfl (onP e4)
   refine stP hf rfl rfl rfl (pFA fa_156_0 rfl) fun a hf => cNil ?_
   refine xThenN ?_
   intro ds u hau
   refine ⟨θ,he.put0 hi hau hf rfl 6 rfl rfl,?_⟩
   exact hc
  ·intro E θ a w hD hi hp he hc
   have e5 := hp.of (k := 5) rfl
   have hf := he.h0
   replace hf := hf.more he 6 rfl (onP e5)
   refine stP hf rfl rfl rfl (pFA fa_24_0 rfl) fun a hf => cNil ?_
   refine xThenN ?_
   intro ds u hau
   refine ⟨θ,he.put0 hi hau hf rfl 7 rfl rfl,?_⟩
   exact hc
  ·intro E θ a w hD hi hp he hc
   have e6 := hp.of (k := 6) rfl
   have hf := he.h0
   replace hf := hf.more he 7 rfl (onP e6)
   refine stE hf hc rfl rfl rfl (eLd1 sc_3 rfl (cell_box m3 rfl)) fun a w hf hc => cNil ?_
   refine xThenN ?_
   intro ds u hau
   refine ⟨θ,he.put0 hi hau hf rfl 8 rfl rfl,?_⟩
   exact hc
  ·intro E θ a w hD hi hp he hc
   have e2 := hp.of (k := 2) rfl
   have e7 := hp.of (k := 7) rfl
   have hf := he.h0
   replace hf := hf.more he 3 rfl (onP e2)
   replace hf := hf.more he 8 rfl (onP e7)
   refine stP hf rfl rfl rfl (pSlA (xs := (aL 12 x)) Try.underlying154 sz_3 rfl aL_len rfl rfl hsub) fun a hf => cNil ?_
   refine xThenN ?_
   intro ds u hau
   refine ⟨θ,he.put0 hi hau hf rfl 9 rfl rfl,?_⟩
   exact hc
  ·intro E θ a w hD hi hp he hc
   have e8 := hp.of (k := 8) rfl
   have e10 := hD.f 0 rfl hi
   try dsimp only at hc
   rw [hi] at hc
   have hf := he.h0
   replace hf := hf.more he 9 rfl (onP e8)
   obtain ⟨G1,hle1,hrd1,hc,hth1⟩ := lendB hc k3
   refine stC (vs := [.slice (subP (some ⟨b_2,2,none⟩) 12 (0 : Int).toNat 1) sub.length (12 - (0 : Int).toNat)]) (caps := []) hf rfl rfl rfl en_117 rfl rfl rfl rfl (slices_Clone_Lint_int_ok sub (Rd.sub (rdA (fun x => (one_encI_i64 x).1) hrd1 rfl rfl) hsub) hc hr_1) ?_
   rintro _ w ⟨p_1,c_1,rfl,hc⟩
   refine ⟨_,rfl,fun a hf => ?_⟩
   replace hc := hth1 _ _ hc
   refine cNil ?_
   refine xThenN ?_
   intro ds u hau
   replace hc := hc.drop k2
   replace hc := hc.pick k0
   replace hc := hc.pick k3
   replace hc := hc.pick k3
   replace hc := hc.pick k3
   refine ⟨(setT θ 72 ⟨0,p_1,c_1,(fun _ => (none,0))⟩),he.put hi hau hf rfl [10] ⟨⟨e10,rfl⟩,trivial⟩ ⟨qq,qq,qq,qq,qq,qq,qq,qq,qq,qq,qq,trivial,trivial⟩,?_⟩
   try dsimp only
   rw [updE_self E 9]
   exact hc
  ·intro E θ a w hD hi hp he hc
   have e9 := hp.of (k := 9) rfl
   have hf := he.h0
   replace hf := hf.more he 10 rfl (onP e9)
   refine stP hf rfl rfl rfl (pA rfl) fun a hf => cNil ?_
   refine xThenN ?_
   intro ds u hau
   refine ⟨θ,he.put0 hi hau hf rfl 11 rfl rfl,?_⟩
   exact hc
  ·intro E θ a w hall he hc
   have hf := he.h0
   have e9 := hall 9 rfl
   have e10 := hall 10 rfl
   replace hf := hf.more he 11 rfl (onP e10)
   try dsimp only at hc
   rw [e9] at hc
   exact ⟨(θ 72).p,(θ 72).c,hf.keep ⟨rfl,trivial⟩,hc⟩
  rintro a w ⟨p_2,c_2,hf,hc⟩
  refine h8 _ _ ?_
  refine wp_ret ?_
  obtain rfl := Option.some.inj hF
  replace hc := hc.drop k4
  replace hc := hc.drop k3
  replace hc := hc.drop k2
  replace hc := hc.drop k1
  refine outM hf ?_
  refine outML [.row p_2 c_2 (r_1.map encI_i64) 3 1] (D_1::[]) hc fun w hc => ?_
  replace hc : Ctx G (.row p_2 c_2 (r_1.map encI_i64) 3 1::Lf) w := hc
  exact outM1 Try.results75 hf hc (show look _ 4 = _ from rfl) ⟨p_2,c_2,rfl,hc⟩
 ·rintro D_1 x _ a w hsF rfl hf hc
  replace hf : Has ⟨43,markL (D_1::[])⟩ a [(5,.pointer (some ⟨b_3,0,none⟩))] := hf.keep ⟨rfl,trivial⟩
  replace hc : Ctx G (.box b_4 [.pointer (some ⟨b_2,0,none⟩)] 153::.box b_5 [.int .i64 x5.2] 3::.box b_2 (catc [.int .i64 c_.States,.slice c__Rights_p c_.Rights.length c__Rights_c] 12 encI_i64 x []) 156::.box b_3 [.pointer (some ⟨b_2,0,none⟩)] 153::(raws (D_1::[]) ++ Lf)) w := rawsIn (C := [.box b_4 [.pointer (some ⟨b_2,0,none⟩)] 153,.box b_5 [.int .i64 x5.2] 3]) (L := [.box b_2 (catc [.int .i64 c_.States,.slice c__Rights_p c_.Rights.length c__Rights_c] 12 encI_i64 x []) 156,.box b_3 [.pointer (some ⟨b_2,0,none⟩)] 153]) hc
  replace hF : (none) = some res := by rw [hsF] at hF; exact hF
  cases hF

def share_Real (N : Nat) (c_ : share_Compact) (flow : Int) : Option ((List Int) × Int) :=
 Option.bind (share_Check N c_) fun r =>
 cond (r != 0)
 (some (([] : List Int),r))
 (cond (!(share_water flow))
 (some (([] : List Int),4))
 (Option.bind (share_serve N c_ flow) fun r_1 =>
 some (r_1,0)))
theorem share_Real_ok {N : Nat} {G : Pers} {Lf : List Ent} {w : World} (c_ : share_Compact) (flow : Int) {c__Rights_p : Option Addr} {c__Rights_c : Nat} (h_c__Rights : Rd G 3 c__Rights_p c__Rights_c (c_.Rights.map enc_share_Right)) (hc : Ctx G (Lf) w) {res : (List Int) × Int} (hF : share_Real N c_ flow = some res) : Calls Try.prog 18 #[.agg #[.int .i64 c_.States,.slice c__Rights_p c_.Rights.length c__Rights_c],.int .i64 flow] w (fun e w => ∃ (p'1 : Option Addr) (c'1 : Nat),e = .returned (.tuple #[.slice p'1 res.1.length c'1,.int .i64 res.2]) ∧ Ctx G (.row p'1 c'1 (res.1.map encI_i64) 3 1::Lf) w) := by
 unfold share_Real at hF
 refine fnIn (args := [.agg #[.int .i64 c_.States,.slice c__Rights_p c_.Rights.length c__Rights_c],.int .i64 flow]) Try.func18 rfl Try.ntmps18 rfl fun a hf => wp_seq_k fun K1 h1 => cReg ?_
 refine stBx (cs := [.int .i64 c_.States,.slice c__Rights_p c_.Rights.length c__Rights_c]) hf hc rfl rfl rfl rfl fun b_1 a w hf hc => stP hf rfl rfl rfl (pA rfl) fun a hf => stP hf rfl rfl rfl (pA rfl) fun a hf => cNil ?_
 refine h1 _ _ ?_
 refine wp_seq_k fun K2 h2 => cReg ?_
 refine stE hf hc rfl rfl rfl (eLdN (vs := [.int .i64 c_.States,.slice c__Rights_p c_.Rights.length c__Rights_c]) ag_24 rfl rfl (cells_box (n := 2) m0 rfl)) fun a w hf hc => ?_
 obtain ⟨r,hr,hF⟩ := bnd_some hF
 refine stE hf hc rfl rfl rfl (eC (v := .int .i64 r) (vs := [.agg #[.int .i64 c_.States,.slice c__Rights_p c_.Rights.length c__Rights_c]]) (caps := []) en_15 rfl rfl rfl rfl (fun w hc => share_Check_ok c_ h_c__Rights hc hr)) fun a w hf hc => stP hf rfl rfl rfl (pA rfl) fun a hf => cNil ?_
 refine h2 _ _ ?_
 refine wp_seq_k fun K3 h3 => wp_block ?_
 refine wp_seq_k fun K4 h4 => cReg ?_
 refine stP hf rfl rfl rfl (pM rfl) fun a hf => stP hf rfl rfl rfl (pNe rfl rfl) fun a hf => stP hf rfl rfl rfl (pA rfl) fun a hf => cNil ?_
 refine h4 _ _ ?_
 refine cCond (b := (r != 0)) hf rfl (fun hb => ?_) (fun hb => ?_)
 ·replace hF := condT hb hF
  clear hb
  refine wp_seq_k fun K5 h5 => cReg ?_
  refine stP hf rfl rfl rfl (pM rfl) fun a hf => stP hf rfl rfl rfl (pA rfl) fun a hf => stP hf rfl rfl rfl (pA rfl) fun a hf => cNil ?_
  refine h5 _ _ ?_
  refine wp_ret ?_
  refine xBlkR ?_
  refine xThenR ?_
  obtain rfl := Option.some.inj hF
  replace hc := hc.nilRow 3 1
  replace hc := hc.drop k1
  exact fnOut2 (by simp) rfl Try.results18 hf hc (show look _ 4 = _ from rfl) (show look _ 5 = _ from rfl) ⟨none,0,rfl,hc⟩
 ·replace hF := condF hb hF
  clear hb
  refine wp_seq_k fun K6 h6 => cReg ?_
  refine stP hf rfl rfl rfl (pM rfl) fun a hf => stE hf hc rfl rfl rfl (eC (v := .bool (share_water flow)) (vs := [.int .i64 flow]) (caps := []) en_73 rfl rfl rfl rfl (fun w hc => share_water_ok flow hc rfl)) fun a w hf hc => stP hf rfl rfl rfl (pNot rfl) fun a hf => stP hf rfl rfl rfl (pA rfl) fun a hf => cNil ?_
  refine h6 _ _ ?_
  refine cCond (b := (!(share_water flow))) hf rfl (fun hb => ?_) (fun hb => ?_)
  ·replace hF := condT hb hF
   clear hb
   refine wp_seq_k fun K7 h7 => cReg ?_
   refine stP hf rfl rfl rfl (pA rfl) fun a hf => stP hf rfl rfl rfl (pA rfl) fun a hf => cNil ?_
   refine h7 _ _ ?_
   refine wp_ret ?_
   refine xBlkR ?_
   refine xThenR ?_
   obtain rfl := Option.some.inj hF
   replace hc := hc.nilRow 3 1
   replace hc := hc.drop k1
   exact fnOut2 (by simp) rfl Try.results18 hf hc (show look _ 4 = _ from rfl) (show look _ 5 = _ from rfl) ⟨none,0,rfl,hc⟩
  ·replace hF := condF hb hF
   clear hb
   refine wp_skip ?_
   refine h3 _ _ ?_
   refine wp_seq_k fun K8 h8 => cReg ?_
   refine stE hf hc rfl rfl rfl (eLdN (vs := [.int .i64 c_.States,.slice c__Rights_p c_.Rights.length c__Rights_c]) ag_24 rfl rfl (cells_box (n := 2) m0 rfl)) fun a w hf hc => stP hf rfl rfl rfl (pM rfl) fun a hf => ?_
   obtain ⟨r_1,hr_1,hF⟩ := bnd_some hF
   refine stC (vs := [.agg #[.int .i64 c_.States,.slice c__Rights_p c_.Rights.length c__Rights_c],.int .i64 flow]) (caps := []) hf rfl rfl rfl en_75 rfl rfl rfl rfl (share_serve_ok c_ flow h_c__Rights hc hr_1) ?_
   rintro _ w ⟨p_1,c_1,rfl,hc⟩
   refine ⟨_,rfl,fun a hf => ?_⟩
   refine stP hf rfl rfl rfl (pA rfl) fun a hf => stP hf rfl rfl rfl (pA rfl) fun a hf => cNil ?_
   refine h8 _ _ ?_
   refine wp_ret ?_
   obtain rfl := Option.some.inj hF
   replace hc := hc.drop k1
   exact fnOut2 (by simp) rfl Try.results18 hf hc (show look _ 4 = _ from rfl) (show look _ 5 = _ from rfl) ⟨p_1,c_1,rfl,hc⟩

def share_waters (s_ : api_Span) : Bool :=
 ((share_in s_.Lo 0 s_.Hi) && (share_water s_.Hi))
theorem share_waters_ok {G : Pers} {Lf : List Ent} {w : World} (s_ : api_Span)   (hc : Ctx G (Lf) w) {res : Bool} (hF : share_waters s_ = res) : Calls Try.prog 77 #[.agg #[.int .i64 s_.Lo,.int .i64 s_.Hi]] w (fun e w => e = .returned (.bool res) ∧ Ctx G (Lf) w) := by
 unfold share_waters at hF
 refine fnIn (args := [.agg #[.int .i64 s_.Lo,.int .i64 s_.Hi]]) Try.func77 rfl Try.ntmps77 rfl fun a hf => wp_seq_k fun K1 h1 => cReg ?_
 refine stBx (cs := [.int .i64 s_.Lo,.int .i64 s_.Hi]) hf hc rfl rfl rfl rfl fun b_1 a w hf hc => stP hf rfl rfl rfl (pA rfl) fun a hf => cNil ?_
 refine h1 _ _ ?_
 refine wp_seq_k fun K2 h2 => cReg ?_
 refine stP hf rfl rfl rfl (pFA fa_26_0 rfl) fun a hf => stE hf hc rfl rfl rfl (eLd1 sc_3 rfl (cell_box m0 rfl)) fun a w hf hc => stP hf rfl rfl rfl (pFA fa_26_1 rfl) fun a hf => stE hf hc rfl rfl rfl (eLd1 sc_3 rfl (cell_box m0 rfl)) fun a w hf hc => stE hf hc rfl rfl rfl (eC (v := .bool (share_in s_.Lo 0 s_.Hi)) (vs := [.int .i64 s_.Lo,.int .i64 0,.int .i64 s_.Hi]) (caps := []) en_70 rfl rfl rfl rfl (fun w hc => share_in_ok s_.Lo 0 s_.Hi hc rfl)) fun a w hf hc => stP hf rfl rfl rfl (pM rfl) fun a hf => stCut 4 (fun a w => Has 13 a [(1,.pointer (some ⟨b_1,0,none⟩)),(2,.bool false),(3,.pointer (some ⟨b_1,0,none⟩)),(4,.int .i64 s_.Lo),(5,.pointer (some ⟨b_1,1,none⟩)),(6,.int .i64 s_.Hi),(7,.bool (share_in s_.Lo 0 s_.Hi)),(8,.bool (share_in s_.Lo 0 s_.Hi)),(12,.bool ((share_in s_.Lo 0 s_.Hi) && (share_water s_.Hi)))] ∧ Ctx G (.box b_1 [.int .i64 s_.Lo,.int .i64 s_.Hi] 26::Lf) w) ?_ ?_
 ·cases hb : (share_in s_.Lo 0 s_.Hi)
  ·rw [hb] at hf
   refine stS hf rfl rfl rfl fun a hf => stS hf rfl rfl rfl fun a hf => stS hf rfl rfl rfl fun a hf => stP hf rfl rfl rfl (pPf rfl rfl) fun a hf => cNil ⟨hf.keep ⟨rfl,rfl,rfl,rfl,rfl,rfl,rfl,rfl,rfl,trivial⟩,hc⟩
  ·rw [hb] at hf
   refine stP hf rfl rfl rfl (pFA fa_26_1 rfl) fun a hf => stE hf hc rfl rfl rfl (eLd1 sc_3 rfl (cell_box m0 rfl)) fun a w hf hc => stE hf hc rfl rfl rfl (eC (v := .bool (share_water s_.Hi)) (vs := [.int .i64 s_.Hi]) (caps := []) en_73 rfl rfl rfl rfl (fun w hc => share_water_ok s_.Hi hc rfl)) fun a w hf hc => stP hf rfl rfl rfl (pPt rfl rfl) fun a hf => cNil ⟨hf.keep ⟨rfl,rfl,rfl,rfl,rfl,rfl,rfl,rfl,rfl,trivial⟩,hc⟩
 intro a w ⟨hf,hc⟩
 refine stP hf rfl rfl rfl (pA rfl) fun a hf => cNil ?_
 refine h2 _ _ ?_
 refine wp_ret ?_
 obtain rfl := hF
 replace hc := hc.drop k0
 exact fnOut1 (by simp) rfl Try.results77 hf hc (show look _ 2 = _ from rfl) ⟨rfl,hc⟩

def share_Shares_b12 (N : Nat) (r_1 : (List Int)) (r_2 : (List Int)) (out : List api_Span) (x : Int) : Option (Step ((List api_Span) × Int) ((List api_Span) × Int)) :=
 cond (decide (x < ((r_1.length : Nat) : Int)))
 (Option.bind (getI r_1 x) fun e_1 =>
 Option.bind (getI r_2 x) fun e_2 =>
 Option.bind (room ((out ++ [(⟨e_1,e_2⟩ : api_Span)])).length) fun un =>
 some (.cont ((out ++ [(⟨e_1,e_2⟩ : api_Span)]),W (x + 1))))
 (some (.brk (out,x)))
def share_Shares (N : Nat) (c_ : share_Compact) (flow : api_Span) : Option ((List api_Span) × Int) :=
 Option.bind (share_Check N c_) fun r =>
 cond (r != 0)
 (some (([] : List api_Span),r))
 (cond (!(share_waters flow))
 (some (([] : List api_Span),4))
 (Option.bind (share_serve N c_ flow.Lo) fun r_1 =>
 Option.bind (share_serve N c_ flow.Hi) fun r_2 =>
 Option.bind (loopO (fun s12 => share_Shares_b12 N r_1 r_2 s12.1 s12.2) N (([] : List api_Span),0)) fun x12 =>
 exK x12 (fun s12 => some (s12.1,0)) some))
theorem share_Shares_ok {N : Nat} {G : Pers} {Lf : List Ent} {w : World} (c_ : share_Compact) (flow : api_Span) {c__Rights_p : Option Addr} {c__Rights_c : Nat} (h_c__Rights : Rd G 3 c__Rights_p c__Rights_c (c_.Rights.map enc_share_Right)) (hc : Ctx G (Lf) w) {res : (List api_Span) × Int} (hF : share_Shares N c_ flow = some res) : Calls Try.prog 21 #[.agg #[.int .i64 c_.States,.slice c__Rights_p c_.Rights.length c__Rights_c],.agg #[.int .i64 flow.Lo,.int .i64 flow.Hi]] w (fun e w => ∃ (p'1 : Option Addr) (c'1 : Nat),e = .returned (.tuple #[.slice p'1 res.1.length c'1,.int .i64 res.2]) ∧ Ctx G (.row p'1 c'1 (res.1.map enc_api_Span) 26 2::Lf) w) := by
 unfold share_Shares at hF
 refine fnIn (args := [.agg #[.int .i64 c_.States,.slice c__Rights_p c_.Rights.length c__Rights_c],.agg #[.int .i64 flow.Lo,.int .i64 flow.Hi]]) Try.func21 rfl Try.ntmps21 rfl fun a hf => wp_seq_k fun K1 h1 => cReg ?_
 refine stBx (cs := [.int .i64 c_.States,.slice c__Rights_p c_.Rights.length c__Rights_c]) hf hc rfl rfl rfl rfl fun b_1 a w hf hc => stBx (cs := [.int .i64 flow.Lo,.int .i64 flow.Hi]) hf hc rfl rfl rfl rfl fun b_2 a w hf hc => stP hf rfl rfl rfl (pA rfl) fun a hf => stP hf rfl rfl rfl (pA rfl) fun a hf => cNil ?_
 refine h1 _ _ ?_
 refine wp_seq_k fun K2 h2 => cReg ?_
 refine stE hf hc rfl rfl rfl (eLdN (vs := [.int .i64 c_.States,.slice c__Rights_p c_.Rights.length c__Rights_c]) ag_24 rfl rfl (cells_box (n := 2) m1 rfl)) fun a w hf hc => ?_
 obtain ⟨r,hr,hF⟩ := bnd_some hF
 refine stE hf hc rfl rfl rfl (eC (v := .int .i64 r) (vs := [.agg #[.int .i64 c_.States,.slice c__Rights_p c_.Rights.length c__Rights_c]]) (caps := []) en_15 rfl rfl rfl rfl (fun w hc => share_Check_ok c_ h_c__Rights hc hr)) fun a w hf hc => stP hf rfl rfl rfl (pA rfl) fun a hf => cNil ?_
 refine h2 _ _ ?_
 refine wp_seq_k fun K3 h3 => wp_block ?_
 refine wp_seq_k fun K4 h4 => cReg ?_
 refine stP hf rfl rfl rfl (pM rfl) fun a hf => stP hf rfl rfl rfl (pNe rfl rfl) fun a hf => stP hf rfl rfl rfl (pA rfl) fun a hf => cNil ?_
 refine h4 _ _ ?_
 refine cCond (b := (r != 0)) hf rfl (fun hb => ?_) (fun hb => ?_)
 ·replace hF := condT hb hF
  clear hb
  refine wp_seq_k fun K5 h5 => cReg ?_
  refine stP hf rfl rfl rfl (pM rfl) fun a hf => stP hf rfl rfl rfl (pA rfl) fun a hf => stP hf rfl rfl rfl (pA rfl) fun a hf => cNil ?_
  refine h5 _ _ ?_
  refine wp_ret ?_
  refine xBlkR ?_
  refine xThenR ?_
  obtain rfl := Option.some.inj hF
  replace hc := hc.nilRow 26 2
  replace hc := hc.drop k2
  replace hc := hc.drop k1
  exact fnOut2 (by simp) rfl Try.results21 hf hc (show look _ 4 = _ from rfl) (show look _ 5 = _ from rfl) ⟨none,0,rfl,hc⟩
 ·replace hF := condF hb hF
  clear hb
  refine wp_seq_k fun K6 h6 => cReg ?_
  refine stE hf hc rfl rfl rfl (eLdN (vs := [.int .i64 flow.Lo,.int .i64 flow.Hi]) ag_26 rfl rfl (cells_box (n := 2) m0 rfl)) fun a w hf hc => stE hf hc rfl rfl rfl (eC (v := .bool (share_waters flow)) (vs := [.agg #[.int .i64 flow.Lo,.int .i64 flow.Hi]]) (caps := []) en_77 rfl rfl rfl rfl (fun w hc => share_waters_ok flow hc rfl)) fun a w hf hc => stP hf rfl rfl rfl (pNot rfl) fun a hf => stP hf rfl rfl rfl (pA rfl) fun a hf => cNil ?_
  refine h6 _ _ ?_
  refine cCond (b := (!(share_waters flow))) hf rfl (fun hb => ?_) (fun hb => ?_)
  ·replace hF := condT hb hF
   clear hb
   refine wp_seq_k fun K7 h7 => cReg ?_
   refine stP hf rfl rfl rfl (pA rfl) fun a hf => stP hf rfl rfl rfl (pA rfl) fun a hf => cNil ?_
   refine h7 _ _ ?_
   refine wp_ret ?_
   refine xBlkR ?_
   refine xThenR ?_
   obtain rfl := Option.some.inj hF
   replace hc := hc.nilRow 26 2
   replace hc := hc.drop k2
   replace hc := hc.drop k1
   exact fnOut2 (by simp) rfl Try.results21 hf hc (show look _ 4 = _ from rfl) (show look _ 5 = _ from rfl) ⟨none,0,rfl,hc⟩
  ·replace hF := condF hb hF
   clear hb
   refine wp_skip ?_
   refine h3 _ _ ?_
   refine wp_seq_k fun K8 h8 => ?_
   obtain ⟨r_1,hr_1,hF⟩ := bnd_some hF
   obtain ⟨r_2,hr_2,hF⟩ := bnd_some hF
   replace hc := hc.nilRow 0 0
   replace hc := hc.nilRow 0 0
   refine regionE (fun θ => [⟨none,none,2,.pointer (some ⟨b_1,0,none⟩)⟩,⟨none,none,3,.pointer (some ⟨b_2,0,none⟩)⟩,⟨some 0,none,21,.agg #[.int .i64 c_.States,.slice c__Rights_p c_.Rights.length c__Rights_c]⟩,⟨some 1,none,22,.pointer (some ⟨b_2,0,none⟩)⟩,⟨some 2,none,23,.int .i64 flow.Lo⟩,⟨some 3,none,24,.slice ((θ 24).p) r_1.length ((θ 24).c)⟩,⟨some 4,none,25,.agg #[.int .i64 c_.States,.slice c__Rights_p c_.Rights.length c__Rights_c]⟩,⟨some 5,none,26,.pointer (some ⟨b_2,1,none⟩)⟩,⟨some 6,none,27,.int .i64 flow.Hi⟩,⟨some 7,none,28,.slice ((θ 56).p) r_2.length ((θ 56).c)⟩,⟨some 8,none,7,.slice ((θ 24).p) r_1.length ((θ 24).c)⟩,⟨some 9,none,8,.slice ((θ 56).p) r_2.length ((θ 56).c)⟩]) (fun E θ => (bif E 7 then .row ((θ 56).p) ((θ 56).c) (r_2.map encI_i64) 3 1 else .row none 0 [] 0 0)::(bif E 3 then .row ((θ 24).p) ((θ 24).c) (r_1.map encI_i64) 3 1 else .row none 0 [] 0 0)::.box b_2 [.int .i64 flow.Lo,.int .i64 flow.Hi] 26::.box b_1 [.int .i64 c_.States,.slice c__Rights_p c_.Rights.length c__Rights_c] 24::Lf) [(8,3),(9,7)] (fun a w => ∃ (p_3 : Option Addr) (c_3 : Nat) (p_4 : Option Addr) (c_4 : Nat),Has 48 a [(7,.slice p_3 r_1.length c_3),(8,.slice p_4 r_2.length c_4)] ∧ Ctx G (.row p_4 c_4 (r_2.map encI_i64) 3 1::.row p_3 c_3 (r_1.map encI_i64) 3 1::.box b_2 [.int .i64 flow.Lo,.int .i64 flow.Hi] 26::.box b_1 [.int .i64 c_.States,.slice c__Rights_p c_.Rights.length c__Rights_c] 24::Lf) w) follows_mx (by kernel_rfl) (by kernel_rfl) (HasE.of hf ⟨rfl,rfl,trivial,trivial,trivial,trivial,trivial,trivial,trivial,trivial,trivial,trivial,trivial⟩) hc ⟨?_,?_,?_,?_,?_,?_,?_,?_,?_,?_,trivial⟩ ?_ ?_
   ·intro E θ a w hD hi hp he hc
    have hf := he.h0
    replace hf := hf.more he 0 rfl onT
    refine stE hf hc rfl rfl rfl (eLdN (vs := [.int .i64 c_.States,.slice c__Rights_p c_.Rights.length c__Rights_c]) ag_24 rfl rfl (cells_box (n := 2) m3 rfl)) fun a w hf hc => cNil ?_
    refine xThenN ?_
    intro ds u hau
    refine ⟨θ,he.put0 hi hau hf rfl 2 rfl rfl,?_⟩
    exact hc
   ·intro E θ a w hD hi hp he hc
    have hf := he.h0
    replace hf := hf.more he 1 rfl onT
    refine stP hf rfl rfl rfl (pFA fa_26_0 rfl) fun a hf => cNil ?_
    refine xThenN ?_
    intro ds u hau
    refine ⟨θ,he.put0 hi hau hf rfl 3 rfl rfl,?_⟩
    exact hc
   ·intro E θ a w hD hi hp he hc
    have e1 := hp.of (k := 1) rfl
    have hf := he.h0
    replace hf := hf.more he 3 rfl (onP e1)
    refine stE hf hc rfl rfl rfl (eLd1 sc_3 rfl (cell_box m2 rfl)) fun a w hf hc => cNil ?_
    refine xThenN ?_
    intro ds u hau
    refine ⟨θ,he.put0 hi hau hf rfl 4 rfl rfl,?_⟩
    exact hc
   ·intro E θ a w hD hi hp he hc
    have e0 := hp.of (k := 0) rfl
    have e2 := hp.of (k := 2) rfl
    have e8 := hD.f 0 rfl hi
    try dsimp only at hc
    rw [hi] at hc
    have hf := he.h0
    replace hf := hf.more he 2 rfl (onP e0)
    replace hf := hf.more he 4 rfl (onP e2)
    refine stC (vs := [.agg #[.int .i64 c_.States,.slice c__Rights_p c_.Rights.length c__Rights_c],.int .i64 flow.Lo]) (caps := []) hf rfl rfl rfl en_75 rfl rfl rfl rfl (share_serve_ok c_ flow.Lo h_c__Rights hc hr_1) ?_
    rintro _ w ⟨p_1,c_1,rfl,hc⟩
    refine ⟨_,rfl,fun a hf => ?_⟩
    refine cNil ?_
    refine xThenN ?_
    intro ds u hau
    replace hc := hc.drop k2
    replace hc := hc.pick k0
    replace hc := hc.pick k1
    refine ⟨(setT θ 24 ⟨0,p_1,c_1,(fun _ => (none,0))⟩),he.put hi hau hf rfl [8] ⟨⟨e8,rfl⟩,trivial⟩ ⟨qq,qq,qq,qq,qq,qq,qq,qq,qq,qq,trivial,qq,trivial⟩,?_⟩
    try dsimp only
    rw [updE_self E 3]
    exact hc
   ·intro E θ a w hD hi hp he hc
    have hf := he.h0
    replace hf := hf.more he 0 rfl onT
    refine stE hf hc rfl rfl rfl (eLdN (vs := [.int .i64 c_.States,.slice c__Rights_p c_.Rights.length c__Rights_c]) ag_24 rfl rfl (cells_box (n := 2) m3 rfl)) fun a w hf hc => cNil ?_
    refine xThenN ?_
    intro ds u hau
    refine ⟨θ,he.put0 hi hau hf rfl 6 rfl rfl,?_⟩
    exact hc
   ·intro E θ a w hD hi hp he hc
    have hf := he.h0
    replace hf := hf.more he 1 rfl onT
    refine stP hf rfl rfl rfl (pFA fa_26_1 rfl) fun a hf => cNil ?_
    refine xThenN ?_
    intro ds u hau
    refine ⟨θ,he.put0 hi hau hf rfl 7 rfl rfl,?_⟩
    exact hc
   ·intro E θ a w hD hi hp he hc
    have e5 := hp.of (k := 5) rfl
    have hf := he.h0
    replace hf := hf.more he 7 rfl (onP e5)
    refine stE hf hc rfl rfl rfl (eLd1 sc_3 rfl (cell_box m2 rfl)) fun a w hf hc => cNil ?_
    refine xThenN ?_
    intro ds u hau
    refine ⟨θ,he.put0 hi hau hf rfl 8 rfl rfl,?_⟩
    exact hc
   ·intro E θ a w hD hi hp he hc
    have e4 := hp.of (k := 4) rfl
    have e6 := hp.of (k := 6) rfl
    have e9 := hD.f 1 rfl hi
    try dsimp only at hc
    rw [hi] at hc
    have hf := he.h0
    replace hf := hf.more he 6 rfl (onP e4)
    replace hf := hf.more he 8 rfl (onP e6)
    refine stC (vs := [.agg #[.int .i64 c_.States,.slice c__Rights_p c_.Rights.length c__Rights_c],.int .i64 flow.Hi]) (caps := []) hf rfl rfl rfl en_75 rfl rfl rfl rfl (share_serve_ok c_ flow.Hi h_c__Rights hc hr_2) ?_
    rintro _ w ⟨p_2,c_2,rfl,hc⟩
    refine ⟨_,rfl,fun a hf => ?_⟩
    refine cNil ?_
    refine xThenN ?_
    intro ds u hau
    replace hc := hc.drop k1
    refine ⟨(setT θ 56 ⟨0,p_2,c_2,(fun _ => (none,0))⟩),he.put hi hau hf rfl [9] ⟨⟨e9,rfl⟩,trivial⟩ ⟨qq,qq,qq,qq,qq,qq,qq,qq,qq,qq,qq,trivial,trivial⟩,?_⟩
    try dsimp only
    rw [updE_self E 7]
    exact hc
   ·intro E θ a w hD hi hp he hc
    have e3 := hp.of (k := 3) rfl
    have hf := he.h0
    replace hf := hf.more he 5 rfl (onP e3)
    refine stP hf rfl rfl rfl (pA rfl) fun a hf => cNil ?_
    refine xThenN ?_
    intro ds u hau
    refine ⟨θ,he.put0 hi hau hf rfl 10 rfl rfl,?_⟩
    exact hc
   ·intro E θ a w hD hi hp he hc
    have e7 := hp.of (k := 7) rfl
    have hf := he.h0
    replace hf := hf.more he 9 rfl (onP e7)
    refine stP hf rfl rfl rfl (pA rfl) fun a hf => cNil ?_
    refine xThenN ?_
    intro ds u hau
    refine ⟨θ,he.put0 hi hau hf rfl 11 rfl rfl,?_⟩
    exact hc
   ·intro E θ a w hall he hc
    have hf := he.h0
    have e3 := hall 3 rfl
    have e7 := hall 7 rfl
    have e8 := hall 8 rfl
    have e9 := hall 9 rfl
    replace hf := hf.more he 11 rfl (onP e9)
    replace hf := hf.more he 10 rfl (onP e8)
    try dsimp only at hc
    rw [e3,e7] at hc
    exact ⟨(θ 24).p,(θ 24).c,(θ 56).p,(θ 56).c,hf.keep ⟨rfl,rfl,trivial⟩,hc⟩
   rintro a w ⟨p_3,c_3,p_4,c_4,hf,hc⟩
   refine h8 _ _ ?_
   refine wp_seq_k fun K9 h9 => cReg ?_
   refine stP hf rfl rfl rfl (pA rfl) fun a hf => cNil ?_
   refine h9 _ _ ?_
   refine wp_seq_k fun K10 h10 => wp_seq_k fun K11 h11 => cReg ?_
   refine stP hf rfl rfl rfl (pM rfl) fun a hf => stP hf rfl rfl rfl (pLenS Try.underlying36 rfl) fun a hf => stP hf rfl rfl rfl (pM rfl) fun a hf => cNil ?_
   refine h11 _ _ ?_
   refine wp_block ?_
   obtain ⟨x12,hx12,hF⟩ := bnd_some hF
   let S12 : ((List api_Span) × Int) → Act → World → Prop := (fun (zz : (List api_Span) × Int) a w => ∃ (p_5 : Option Addr) (c_5 : Nat) (p_6 : Option Addr) (c_6 : Nat) (p_7 : Option Addr) (c_7 : Nat),Has 48 a [(7,.slice p_5 r_1.length c_5),(8,.slice p_6 r_2.length c_6),(9,.slice p_7 zz.1.length c_7),(30,.int .i64 ((r_1.length : Nat) : Int)),(31,.int .i64 zz.2)] ∧ Ctx G (.row p_7 c_7 (zz.1.map enc_api_Span) 26 2::.row p_6 c_6 (r_2.map encI_i64) 3 1::.row p_5 c_5 (r_1.map encI_i64) 3 1::Lf) w)
   have hr12 : ∀ (zz : (List api_Span) × Int) a w,x12 = .go zz → S12 zz a w → K10 a w := by
    rintro ⟨out,x⟩ a w rfl ⟨p_5,c_5,p_6,c_6,p_7,c_7,hf,hc⟩
    replace hF := exK_go hF
    refine h10 _ _ ?_
    refine wp_seq_k fun K13 h13 => cReg ?_
    refine stP hf rfl rfl rfl (pM rfl) fun a hf => stP hf rfl rfl rfl (pA rfl) fun a hf => stP hf rfl rfl rfl (pA rfl) fun a hf => cNil ?_
    refine h13 _ _ ?_
    refine wp_ret ?_
    obtain rfl := Option.some.inj hF
    replace hc := hc.drop k2
    replace hc := hc.drop k1
    exact fnOut2 (by simp) rfl Try.results21 hf hc (show look _ 4 = _ from rfl) (show look _ 5 = _ from rfl) ⟨p_7,c_7,rfl,hc⟩
   have ho12 : ∀ r,x12 = .out r → r = res := by
    rintro r rfl
    exact Option.some.inj hF
   replace hc := hc.nilRow 26 2
   replace hc := hc.drop k4
   replace hc := hc.drop k3
   refine cLoop N (loopW (S := S12) (x := x12) ?_ N (([] : List api_Span),0) _ _ ⟨p_3,c_3,p_4,c_4,none,0,hf.keep ⟨rfl,rfl,rfl,rfl,rfl,trivial⟩,hc⟩ hx12)
   clear hF hf hc
   rintro ⟨out,x⟩ st12 a w KB12 ⟨p_5,c_5,p_6,c_6,p_7,c_7,hf,hc⟩ hF hfin12 hK12
   unfold share_Shares_b12 at hF
   refine wp_seq_k fun K14 h14 => cReg ?_
   refine stP hf rfl rfl rfl (pLt rfl rfl) fun a hf => cNil ?_
   refine h14 _ _ ?_
   refine wp_seq_k fun K15 h15 => cCond (b := (decide (x < ((r_1.length : Nat) : Int)))) hf rfl (fun hb => ?_) (fun hb => ?_)
   ·replace hF := condT hb hF
    clear hb
    refine wp_skip ?_
    refine h15 _ _ ?_
    refine wp_seq_k fun K16 h16 => wp_block ?_
    refine wp_seq_k fun K17 h17 => cReg ?_
    refine stP hf rfl rfl rfl (pM rfl) fun a hf => stP hf rfl rfl rfl (pA rfl) fun a hf => cNil ?_
    refine h17 _ _ ?_
    obtain ⟨e_1,he_1,hF⟩ := bnd_some hF
    obtain ⟨g,rfl,qa,qr⟩ := row_atm hc m2 he_1
    obtain ⟨e_2,he_2,hF⟩ := bnd_some hF
    obtain ⟨g_1,rfl,qa_1,qr_1⟩ := row_atm hc m1 he_2
    obtain ⟨un,hun,hF⟩ := bnd_some hF
    replace hc := hc.nilRow 0 0
    refine regionE (fun θ => [⟨none,none,7,.slice (some ⟨g,0,none⟩) r_1.length c_5⟩,⟨none,none,8,.slice (some ⟨g_1,0,none⟩) r_2.length c_6⟩,⟨none,some 12,9,.slice p_7 out.length c_7⟩,⟨none,none,10,.int .i64 x⟩,⟨none,none,30,.int .i64 ((r_1.length : Nat) : Int)⟩,⟨none,none,31,.int .i64 x⟩,⟨some 0,none,34,.slice p_7 out.length c_7⟩,⟨some 1,none,35,.slice (some ⟨g,0,none⟩) r_1.length c_5⟩,⟨some 2,none,36,.int .i64 x⟩,⟨some 3,none,37,.pointer (some ⟨g,x.toNat * 1,none⟩)⟩,⟨some 4,none,38,.int .i64 e_1⟩,⟨some 5,none,39,.slice (some ⟨g_1,0,none⟩) r_2.length c_6⟩,⟨some 6,none,40,.int .i64 x⟩,⟨some 7,none,41,.pointer (some ⟨g_1,x.toNat * 1,none⟩)⟩,⟨some 8,none,42,.int .i64 e_2⟩,⟨some 9,none,43,.agg #[.int .i64 e_1,.int .i64 e_2]⟩,⟨some 10,none,44,.slice (some ⟨(θ 80).b,0,none⟩) 1 1⟩,⟨some 11,none,45,.slice ((θ 88).p) ((out ++ [(⟨e_1,e_2⟩ : api_Span)]).length) ((θ 88).c)⟩,⟨some 12,none,9,.slice ((θ 88).p) ((out ++ [(⟨e_1,e_2⟩ : api_Span)]).length) ((θ 88).c)⟩]) (fun E θ => (bif E 10 then .row (some ⟨(θ 80).b,0,none⟩) 1 (([(⟨e_1,e_2⟩ : api_Span)] : List api_Span).map enc_api_Span) 26 2 else .row none 0 [] 0 0)::(bif E 11 then .row ((θ 88).p) ((θ 88).c) ((out ++ [(⟨e_1,e_2⟩ : api_Span)]).map enc_api_Span) 26 2 else .row p_7 c_7 (out.map enc_api_Span) 26 2)::.row (some ⟨g_1,0,none⟩) c_6 (r_2.map encI_i64) 3 1::.row (some ⟨g,0,none⟩) c_5 (r_1.map encI_i64) 3 1::Lf) [(12,0),(12,11)] (fun a w => ∃ (p_9 : Option Addr) (c_9 : Nat) (b_4 : Nat),Has 48 a [(7,.slice (some ⟨g,0,none⟩) r_1.length c_5),(8,.slice (some ⟨g_1,0,none⟩) r_2.length c_6),(30,.int .i64 ((r_1.length : Nat) : Int)),(31,.int .i64 x),(9,.slice p_9 ((out ++ [(⟨e_1,e_2⟩ : api_Span)]).length) c_9)] ∧ Ctx G (.row (some ⟨b_4,0,none⟩) 1 (([(⟨e_1,e_2⟩ : api_Span)] : List api_Span).map enc_api_Span) 26 2::.row p_9 c_9 ((out ++ [(⟨e_1,e_2⟩ : api_Span)]).map enc_api_Span) 26 2::.row (some ⟨g_1,0,none⟩) c_6 (r_2.map encI_i64) 3 1::.row (some ⟨g,0,none⟩) c_5 (r_1.map encI_i64) 3 1::Lf) w) follows_mx (by kernel_rfl) (by kernel_rfl) (HasE.of hf ⟨rfl,rfl,rfl,rfl,rfl,rfl,trivial,trivial,trivial,trivial,trivial,trivial,trivial,trivial,trivial,trivial,trivial,trivial,trivial,trivial⟩) hc ⟨?_,?_,?_,?_,?_,?_,?_,?_,?_,?_,?_,?_,?_,trivial⟩ ?_ ?_
    ·intro E θ a w hD hi hp he hc
     have e12 := hD.f 0 rfl hi
     have hf := he.h0
     replace hf := hf.more he 2 rfl (onN e12)
     refine stP hf rfl rfl rfl (pM rfl) fun a hf => cNil ?_
     refine xThenN ?_
     intro ds u hau
     refine ⟨θ,he.put0 hi hau hf rfl 6 rfl rfl,?_⟩
     exact hc
    ·intro E θ a w hD hi hp he hc
     have hf := he.h0
     replace hf := hf.more he 0 rfl onT
     refine stP hf rfl rfl rfl (pM rfl) fun a hf => cNil ?_
     refine xThenN ?_
     intro ds u hau
     refine ⟨θ,he.put0 hi hau hf rfl 7 rfl rfl,?_⟩
     exact hc
    ·intro E θ a w hD hi hp he hc
     have hf := he.h0
     replace hf := hf.more he 3 rfl onT
     refine stP hf rfl rfl rfl (pM rfl) fun a hf => cNil ?_
     refine xThenN ?_
     intro ds u hau
     refine ⟨θ,he.put0 hi hau hf rfl 8 rfl rfl,?_⟩
     exact hc
    ·intro E θ a w hD hi hp he hc
     have e1 := hp.of (k := 1) rfl
     have e2 := hp.of (k := 2) rfl
     have hf := he.h0
     replace hf := hf.more he 7 rfl (onP e1)
     replace hf := hf.more he 8 rfl (onP e2)
     refine stP hf rfl rfl rfl (pIA Try.underlying36 sz_3 rfl rfl qa) fun a hf => cNil ?_
     refine xThenN ?_
     intro ds u hau
     refine ⟨θ,he.put0 hi hau hf rfl 9 rfl rfl,?_⟩
     exact hc
    ·intro E θ a w hD hi hp he hc
     have e3 := hp.of (k := 3) rfl
     have hf := he.h0
     replace hf := hf.more he 9 rfl (onP e3)
     refine stE hf hc rfl rfl rfl (eLd1 sc_3 rfl (cell_row (sz := 1) (i := x.toNat) (j := 0) m3 qr rfl)) fun a w hf hc => cNil ?_
     refine xThenN ?_
     intro ds u hau
     refine ⟨θ,he.put0 hi hau hf rfl 10 rfl rfl,?_⟩
     exact hc
    ·intro E θ a w hD hi hp he hc
     have hf := he.h0
     replace hf := hf.more he 1 rfl onT
     refine stP hf rfl rfl rfl (pM rfl) fun a hf => cNil ?_
     refine xThenN ?_
     intro ds u hau
     refine ⟨θ,he.put0 hi hau hf rfl 11 rfl rfl,?_⟩
     exact hc
    ·intro E θ a w hD hi hp he hc
     have hf := he.h0
     replace hf := hf.more he 3 rfl onT
     refine stP hf rfl rfl rfl (pM rfl) fun a hf => cNil ?_
     refine xThenN ?_
     intro ds u hau
     refine ⟨θ,he.put0 hi hau hf rfl 12 rfl rfl,?_⟩
     exact hc
    ·intro E θ a w hD hi hp he hc
     have e5 := hp.of (k := 5) rfl
     have e6 := hp.of (k := 6) rfl
     have hf := he.h0
     replace hf := hf.more he 11 rfl (onP e5)
     replace hf := hf.more he 12 rfl (onP e6)
     refine stP hf rfl rfl rfl (pIA Try.underlying36 sz_3 rfl rfl qa_1) fun a hf => cNil ?_
     refine xThenN ?_
     intro ds u hau
     refine ⟨θ,he.put0 hi hau hf rfl 13 rfl rfl,?_⟩
     exact hc
    ·intro E θ a w hD hi hp he hc
     have e7 := hp.of (k := 7) rfl
     have hf := he.h0
     replace hf := hf.more he 13 rfl (onP e7)
     refine stE hf hc rfl rfl rfl (eLd1 sc_3 rfl (cell_row (sz := 1) (i := x.toNat) (j := 0) m2 qr_1 rfl)) fun a w hf hc => cNil ?_
     refine xThenN ?_
     intro ds u hau
     refine ⟨θ,he.put0 hi hau hf rfl 14 rfl rfl,?_⟩
     exact hc
    ·intro E θ a w hD hi hp he hc
     have e4 := hp.of (k := 4) rfl
     have e8 := hp.of (k := 8) rfl
     have hf := he.h0
     replace hf := hf.more he 10 rfl (onP e4)
     replace hf := hf.more he 14 rfl (onP e8)
     refine stP hf rfl rfl rfl (pBuildS (cells := [.int .i64 e_1,.int .i64 e_2]) bt_26 rfl rfl) fun a hf => cNil ?_
     refine xThenN ?_
     intro ds u hau
     refine ⟨θ,he.put0 hi hau hf rfl 15 rfl rfl,?_⟩
     exact hc
    ·intro E θ a w hD hi hp he hc
     have e9 := hp.of (k := 9) rfl
     try dsimp only at hc
     rw [hi] at hc
     have hf := he.h0
     replace hf := hf.more he 15 rfl (onP e9)
     refine stBS (rows := ([(⟨e_1,e_2⟩ : api_Span)] : List api_Span).map enc_api_Span) (vs := [(0,.agg #[.int .i64 e_1,.int .i64 e_2])]) hf hc rfl rfl sl_41 rfl ⟨rfl,rfl,rfl,trivial⟩ rfl rfl fun b_3 a w hf hc => cNil ?_
     refine xThenN ?_
     intro ds u hau
     replace hc := hc.drop k1
     refine ⟨(setT θ 80 ⟨b_3,none,0,(fun _ => (none,0))⟩),he.put hi hau hf rfl [] trivial ⟨qq,qq,qq,qq,qq,qq,qq,qq,qq,qq,qq,qq,qq,qq,qq,qq,qq,qq,qq,trivial⟩,?_⟩
     try dsimp only
     rw [updE_self E 10]
     exact hc
    ·intro E θ a w hD hi hp he hc
     have e0 := hp.of (k := 0) rfl
     have e10 := hp.of (k := 10) rfl
     have e12 := hD.f 1 rfl hi
     try dsimp only at hc
     rw [e10,hi] at hc
     have hf := he.h0
     replace hf := hf.more he 6 rfl (onP e0)
     replace hf := hf.more he 16 rfl (onP e10)
     refine stApm (xs := out) (ys := ([(⟨e_1,e_2⟩ : api_Span)] : List api_Span)) hf hc rfl rfl sl_41 rfl rfl rfl rfl rfl one_enc_api_Span (src_row hc m0) (fun _ _ => u1) (by simpa using room_spec hun) fun p_8 c_8 a w hf hc => cNil ?_
     refine xThenN ?_
     intro ds u hau
     refine ⟨(setT θ 88 ⟨0,p_8,c_8,(fun _ => (none,0))⟩),he.put hi hau hf rfl [12] ⟨⟨e12,rfl⟩,trivial⟩ ⟨qq,qq,qq,qq,qq,qq,qq,qq,qq,qq,qq,qq,qq,qq,qq,qq,qq,qq,trivial,trivial⟩,?_⟩
     try dsimp only
     rw [updE_tru 11 e10,updE_self E 11]
     exact hc
    ·intro E θ a w hD hi hp he hc
     have e11 := hp.of (k := 11) rfl
     have hf := he.h0
     replace hf := hf.more he 17 rfl (onP e11)
     refine stP hf rfl rfl rfl (pA rfl) fun a hf => cNil ?_
     refine xThenN ?_
     intro ds u hau
     refine ⟨θ,he.put0 hi hau hf rfl 18 rfl rfl,?_⟩
     exact hc
    ·intro E θ a w hall he hc
     have hf := he.h0
     have e10 := hall 10 rfl
     have e11 := hall 11 rfl
     have e12 := hall 12 rfl
     replace hf := hf.more he 18 rfl (onP e12)
     replace hf := hf.more he 5 rfl (onT)
     replace hf := hf.more he 4 rfl (onT)
     replace hf := hf.more he 1 rfl (onT)
     replace hf := hf.more he 0 rfl (onT)
     try dsimp only at hc
     rw [e10,e11] at hc
     exact ⟨(θ 88).p,(θ 88).c,(θ 80).b,hf.keep ⟨rfl,rfl,rfl,rfl,rfl,trivial⟩,hc⟩
    rintro a w ⟨p_9,c_9,b_4,hf,hc⟩
    refine h16 _ _ ?_
    refine cReg ?_
    refine stP hf rfl rfl rfl (pAdd rfl rfl) fun a hf => stP hf rfl rfl rfl (pM rfl) fun a hf => cNil ?_
    replace hc := hc.drop k0
    exact hK12 ((out ++ [(⟨e_1,e_2⟩ : api_Span)]),W (x + 1)) _ _ (Option.some.inj hF).symm ⟨(some ⟨g,0,none⟩),c_5,(some ⟨g_1,0,none⟩),c_6,p_9,c_9,hf.keep ⟨rfl,rfl,rfl,rfl,rfl,trivial⟩,hc⟩
   ·replace hF := condF hb hF
    clear hb
    refine wp_exit ?_
    refine xThen ?_
    refine xThen ?_
    have he := Option.some.inj hF
    rw [← he] at hfin12
    refine cHit ?_
    exact hr12 _ _ _ hfin12 ⟨p_5,c_5,p_6,c_6,p_7,c_7,hf.keep ⟨rfl,rfl,rfl,rfl,rfl,trivial⟩,hc⟩

def law09_Two (N : Nat)  : Option (share_Compact) :=
 some (⟨2,([(⟨0,100,50⟩ : share_Right),(⟨1,60,100⟩ : share_Right),(⟨0,40,0⟩ : share_Right)] : List share_Right)⟩ : share_Compact)
theorem law09_Two_ok {N : Nat} {G : Pers} {Lf : List Ent} {w : World}    (hc : Ctx G (Lf) w) {res : share_Compact} (hF : law09_Two N = some res) : Calls Try.prog 67 #[] w (fun e w => ∃ (p'1 : Option Addr) (c'1 : Nat),e = .returned (.agg #[.int .i64 res.States,.slice p'1 res.Rights.length c'1]) ∧ Ctx G (.row p'1 c'1 (res.Rights.map enc_share_Right) 51 3::Lf) w) := by
 unfold law09_Two at hF
 refine fnIn (args := []) Try.func67 rfl Try.ntmps67 rfl fun a hf => wp_seq_k fun K1 h1 => cReg ?_
 refine stAl (cs := [.int .i64 0,.slice none 0 0]) hf hc rfl rfl zr_24 rfl fun b_1 a w hf hc => cNil ?_
 refine h1 _ _ ?_
 refine wp_seq_k fun K2 h2 => cReg ?_
 refine stP hf rfl rfl rfl (pBuildS (cells := [.int .i64 0,.int .i64 100,.int .i64 50]) bt_51 rfl rfl) fun a hf => stP hf rfl rfl rfl (pBuildS (cells := [.int .i64 1,.int .i64 60,.int .i64 100]) bt_51 rfl rfl) fun a hf => stP hf rfl rfl rfl (pBuildS (cells := [.int .i64 0,.int .i64 40,.int .i64 0]) bt_51 rfl rfl) fun a hf => stBS (rows := ([(⟨0,100,50⟩ : share_Right),(⟨1,60,100⟩ : share_Right),(⟨0,40,0⟩ : share_Right)] : List share_Right).map enc_share_Right) (vs := [(0,.agg #[.int .i64 0,.int .i64 100,.int .i64 50]),(1,.agg #[.int .i64 1,.int .i64 60,.int .i64 100]),(2,.agg #[.int .i64 0,.int .i64 40,.int .i64 0])]) hf hc rfl rfl sl_22 rfl ⟨rfl,rfl,rfl,rfl,rfl,rfl,rfl,rfl,rfl,trivial⟩ rfl rfl fun b_2 a w hf hc => stP hf rfl rfl rfl (pBuildS (cells := [.int .i64 2,.slice (some ⟨b_2,0,none⟩) 3 3]) bt_24 rfl rfl) fun a hf => stSt (vs := [.int .i64 2,.slice (some ⟨b_2,0,none⟩) 3 3]) hf hc rfl rfl rfl rfl sz_24 rfl rfl u1 fun w hc => cNil ?_
 refine h2 _ _ ?_
 refine wp_ret ?_
 obtain rfl := Option.some.inj hF
 exact fnOut1 (by simp) rfl Try.results67 hf hc (rv_cellN (vs := [.int .i64 2,.slice (some ⟨b_2,0,none⟩) 3 3]) ag_24 rfl rfl (cells_box (n := 2) m1 rfl)) ⟨(some ⟨b_2,0,none⟩),3,rfl,(hc.drop k1)⟩

def share_office_taken_1_s2_b3 (N : Nat) {σ : Type} (x : share_office) (y : σ → (share_Right × Int) → Option (σ × Bool)) (x_0 : Int) (b__0 : Int) (sg : σ) : Option (Step (Int × Int × σ) (σ × Int)) :=
 cond (decide (x_0 < ((x.Compact.Rights.length : Nat) : Int)))
 (Option.bind (getI x.Compact.Rights x_0) fun e_1 =>
 Option.bind (y sg (e_1,min e_1.Amount b__0)) fun ry =>
 cond (!ry.2)
 (some (.ret (ry.1,W (b__0 - (min e_1.Amount b__0)))))
 (some (.cont (W (x_0 + 1),W (b__0 - (min e_1.Amount b__0)),ry.1))))
 (some (.brk (x_0,b__0,sg)))
def share_office_taken_1_s2 (N : Nat) {σ : Type} (x : share_office) (x_1 : Int) (y : σ → (share_Right × Int) → Option (σ × Bool)) (sg0 : σ) : Option (σ × Int) :=
 Option.bind (loopO (fun s3 => share_office_taken_1_s2_b3 N x y s3.1 s3.2.1 s3.2.2) N (0,x_1,sg0)) fun x3 =>
 exK x3 (fun s3 => some (s3.2.2,s3.2.1)) some
theorem share_office_taken_1_s2_ok {N : Nat} {G : Pers} {Lf : List Ent} {w : World} {σ : Type} (x : share_office) (x_1 : Int) {b_ : Nat} {b__1 : Nat} {x_Compact_Rights_p : Option Addr} {x_Compact_Rights_c : Nat} {b__2 : Nat} (h_x_Compact_Rights : Rd G 3 x_Compact_Rights_p x_Compact_Rights_c (x.Compact.Rights.map enc_share_Right)) (J : σ → List Ent → Prop) (y : σ → (share_Right × Int) → Option (σ × Bool)) {l : Nat} (hy : YieldsTo Try.prog G l (fun x : (share_Right × Int) => [.agg #[.int .i64 x.1.State,.int .i64 x.1.Amount,.int .i64 x.1.Loss],.int .i64 x.2]) J y) (sg0 : σ) {Ls0 : List Ent} (hJ0 : J sg0 Ls0) (hc : Ctx G (.box b_ [.pointer (some ⟨b__1,0,none⟩)] 153::.box b__1 (catc [.int .i64 x.Compact.States,.slice x_Compact_Rights_p x.Compact.Rights.length x_Compact_Rights_c] 12 encI_i64 x.got []) 156::.box b__2 [.int .i64 x_1] 3::(Ls0 ++ Lf)) w) {res : σ × Int} (hF : share_office_taken_1_s2 N x x_1 y sg0 = some res) : Calls Try.prog 118 #[.func (.yield l) #[] #[],.pointer (some ⟨b_,0,none⟩),.pointer (some ⟨b__2,0,none⟩)] w (fun e w => (∃ v,e = .returned v) ∧ ∃ L,J res.1 L ∧ Ctx G (.box b_ [.pointer (some ⟨b__1,0,none⟩)] 153::.box b__1 (catc [.int .i64 x.Compact.States,.slice x_Compact_Rights_p x.Compact.Rights.length x_Compact_Rights_c] 12 encI_i64 x.got []) 156::.box b__2 [.int .i64 res.2] 3::(L ++ Lf)) w) := by
 unfold share_office_taken_1_s2 at hF
 refine fnIn (args := [.func (.yield l) #[] #[],.pointer (some ⟨b_,0,none⟩),.pointer (some ⟨b__2,0,none⟩)]) Try.func118 rfl Try.ntmps118 rfl fun a hf => wp_seq_k fun K1 h1 => cReg ?_
 refine stE hf hc rfl rfl rfl (eLd1 sc_153 rfl (cell_box m0 rfl)) fun a w hf hc => stP hf rfl rfl rfl (pNC rfl) fun a hf => stP hf rfl rfl rfl (pFA fa_156_0 rfl) fun a hf => stP hf rfl rfl rfl (pFA fa_24_1 rfl) fun a hf => stE hf hc rfl rfl rfl (eLd1 sc_22 rfl (cell_box m1 rfl)) fun a w hf hc => stP hf rfl rfl rfl (pLenS Try.underlying22 rfl) fun a hf => stP hf rfl rfl rfl (pM rfl) fun a hf => cNil ?_
 refine h1 _ _ ?_
 refine wp_thenK fun K2 h2 => wp_block ?_
 obtain ⟨x3,hx3,hF⟩ := bnd_some hF
 let S3 : (Int × Int × σ) → Act → World → Prop := (fun (zz : Int × Int × σ) a w => ∃ (Ls : List Ent),J zz.2.2 Ls ∧ Has 30 a [(0,.func (.yield l) #[] #[]),(2,.pointer (some ⟨b__2,0,none⟩)),(11,.slice x_Compact_Rights_p x.Compact.Rights.length x_Compact_Rights_c),(12,.int .i64 ((x.Compact.Rights.length : Nat) : Int)),(13,.int .i64 zz.1)] ∧ Ctx G (.box b_ [.pointer (some ⟨b__1,0,none⟩)] 153::.box b__1 (catc [.int .i64 x.Compact.States,.slice x_Compact_Rights_p x.Compact.Rights.length x_Compact_Rights_c] 12 encI_i64 x.got []) 156::.box b__2 [.int .i64 zz.2.1] 3::(Ls ++ Lf)) w)
 have hr3 : ∀ (zz : Int × Int × σ) a w,x3 = .go zz → S3 zz a w → K2 a w := by
  rintro ⟨x_0,b__0,sg⟩ a w rfl ⟨Ls,hJ,hf,hc⟩
  replace hF := exK_go hF
  refine h2 _ _ ?_
  obtain rfl := Option.some.inj hF
  exact fnOut0 (by simp) rfl Try.results118 hf ⟨⟨_,rfl⟩,Ls,hJ,hc⟩
 have ho3 : ∀ r,x3 = .out r → r = res := by
  rintro r rfl
  exact Option.some.inj hF
 refine cLoop N (loopW (S := S3) (x := x3) ?_ N (0,x_1,sg0) _ _ ⟨Ls0,hJ0,hf.keep ⟨rfl,rfl,rfl,rfl,rfl,trivial⟩,hc⟩ hx3)
 clear hF hf hc
 rintro ⟨x_0,b__0,sg⟩ st3 a w KB3 ⟨Ls,hJ,hf,hc⟩ hF hfin3 hK3
 unfold share_office_taken_1_s2_b3 at hF
 refine wp_seq_k fun K4 h4 => cReg ?_
 refine stP hf rfl rfl rfl (pLt rfl rfl) fun a hf => cNil ?_
 refine h4 _ _ ?_
 refine wp_seq_k fun K5 h5 => cCond (b := (decide (x_0 < ((x.Compact.Rights.length : Nat) : Int)))) hf rfl (fun hb => ?_) (fun hb => ?_)
 ·replace hF := condT hb hF
  clear hb
  refine wp_skip ?_
  refine h5 _ _ ?_
  refine wp_seq_k fun K6 h6 => wp_block ?_
  refine wp_seq_k fun K7 h7 => cReg ?_
  obtain ⟨e_1,he_1,hF⟩ := bnd_some hF
  obtain ⟨b_1,o,qa,qp⟩ := h_x_Compact_Rights.atm he_1
  refine stP hf rfl rfl rfl (pIA Try.underlying22 sz_51 rfl rfl qa) fun a hf => stE hf hc rfl rfl rfl (eLdN (vs := [.int .i64 e_1.State,.int .i64 e_1.Amount,.int .i64 e_1.Loss]) ag_51 rfl rfl (cells_pc qp (n := 3) (o' := 0) rfl)) fun a w hf hc => stAl (cs := [.int .i64 0,.int .i64 0,.int .i64 0]) hf hc rfl rfl zr_51 rfl fun b_2 a w hf hc => stSt (vs := [.int .i64 e_1.State,.int .i64 e_1.Amount,.int .i64 e_1.Loss]) hf hc rfl rfl rfl rfl sz_51 rfl rfl u0 fun w hc => cNil ?_
  refine h7 _ _ ?_
  refine wp_seq_k fun K8 h8 => cReg ?_
  refine stP hf rfl rfl rfl (pFA fa_51_1 rfl) fun a hf => stE hf hc rfl rfl rfl (eLd1 sc_3 rfl (cell_box m0 rfl)) fun a w hf hc => stE hf hc rfl rfl rfl (eLd1 sc_3 rfl (cell_box m3 rfl)) fun a w hf hc => stP hf rfl rfl rfl (pMin2 rfl rfl) fun a hf => stP hf rfl rfl rfl (pA rfl) fun a hf => cNil ?_
  refine h8 _ _ ?_
  refine wp_seq_k fun K9 h9 => cReg ?_
  refine stE hf hc rfl rfl rfl (eLd1 sc_3 rfl (cell_box m3 rfl)) fun a w hf hc => stP hf rfl rfl rfl (pM rfl) fun a hf => stP hf rfl rfl rfl (pSub rfl rfl) fun a hf => stSt (vs := [.int .i64 (W (b__0 - (min e_1.Amount b__0)))]) hf hc rfl rfl rfl rfl sz_3 rfl rfl u3 fun w hc => cNil ?_
  refine h9 _ _ ?_
  refine wp_seq_k fun K10 h10 => ?_
  obtain ⟨ry,hry,hF⟩ := bnd_some hF
  refine yReg 3 (fun a w => Has 30 a [(0,.func (.yield l) #[] #[]),(2,.pointer (some ⟨b__2,0,none⟩)),(11,.slice x_Compact_Rights_p x.Compact.Rights.length x_Compact_Rights_c),(12,.int .i64 ((x.Compact.Rights.length : Nat) : Int)),(13,.int .i64 x_0),(5,.pointer (some ⟨b_2,0,none⟩)),(6,.int .i64 (min e_1.Amount b__0)),(24,.func (.yield l) #[] #[]),(25,.agg #[.int .i64 e_1.State,.int .i64 e_1.Amount,.int .i64 e_1.Loss]),(26,.int .i64 (min e_1.Amount b__0))] ∧ Ctx G (.box b_2 [.int .i64 e_1.State,.int .i64 e_1.Amount,.int .i64 e_1.Loss] 51::.box b_ [.pointer (some ⟨b__1,0,none⟩)] 153::.box b__1 (catc [.int .i64 x.Compact.States,.slice x_Compact_Rights_p x.Compact.Rights.length x_Compact_Rights_c] 12 encI_i64 x.got []) 156::.box b__2 [.int .i64 (W (b__0 - (min e_1.Amount b__0)))] 3::(Ls ++ Lf)) w) (fun _ _ h => by obtain ⟨⟨_,h⟩,_⟩ := h; cases h) ?_ ?_
  ·refine stP hf rfl rfl rfl (pM rfl) fun a hf => stE hf hc rfl rfl rfl (eLdN (vs := [.int .i64 e_1.State,.int .i64 e_1.Amount,.int .i64 e_1.Loss]) ag_51 rfl rfl (cells_box (n := 3) m0 rfl)) fun a w hf hc => stP hf rfl rfl rfl (pM rfl) fun a hf => cNil ⟨hf.keep ⟨rfl,rfl,rfl,rfl,rfl,rfl,rfl,rfl,rfl,rfl,trivial⟩,hc⟩
  rintro a w ⟨hf,hc⟩
  refine stY (own := [.box b_2 [.int .i64 e_1.State,.int .i64 e_1.Amount,.int .i64 e_1.Loss] 51,.box b_ [.pointer (some ⟨b__1,0,none⟩)] 153,.box b__1 (catc [.int .i64 x.Compact.States,.slice x_Compact_Rights_p x.Compact.Rights.length x_Compact_Rights_c] 12 encI_i64 x.got []) 156,.box b__2 [.int .i64 (W (b__0 - (min e_1.Amount b__0)))] 3]) (v := (e_1,min e_1.Amount b__0)) hy hJ hry hf hc rfl rfl rfl rfl rfl rfl fun a w Ls_1 hJ_1 hf hc => ?_
  replace hc : Ctx G (.box b_2 [.int .i64 e_1.State,.int .i64 e_1.Amount,.int .i64 e_1.Loss] 51::.box b_ [.pointer (some ⟨b__1,0,none⟩)] 153::.box b__1 (catc [.int .i64 x.Compact.States,.slice x_Compact_Rights_p x.Compact.Rights.length x_Compact_Rights_c] 12 encI_i64 x.got []) 156::.box b__2 [.int .i64 (W (b__0 - (min e_1.Amount b__0)))] 3::(Ls_1 ++ Lf)) w := hc
  refine yRest (fun _ _ h => by obtain ⟨⟨_,h⟩,_⟩ := h; cases h) ?_
  refine stP hf rfl rfl rfl (pNot rfl) fun a hf => cNil ?_
  refine h10 _ _ ?_
  refine cCond (b := (!ry.2)) hf rfl (fun hb => ?_) (fun hb => ?_)
  ·replace hF := condT hb hF
   clear hb
   refine wp_ret ?_
   refine xBlkR ?_
   refine xThenR ?_
   refine xThenR ?_
   have he := Option.some.inj hF
   rw [← he] at hfin3
   replace hF := ho3 _ hfin3
   refine xBlkR ?_
   refine xThenR ?_
   obtain rfl := hF
   replace hc := hc.drop k0
   exact fnOut0 (by simp) rfl Try.results118 hf ⟨⟨_,rfl⟩,Ls_1,hJ_1,hc⟩
  ·replace hF := condF hb hF
   clear hb
   refine wp_skip ?_
   refine h6 _ _ ?_
   refine cReg ?_
   refine stP hf rfl rfl rfl (pAdd rfl rfl) fun a hf => stP hf rfl rfl rfl (pM rfl) fun a hf => cNil ?_
   replace hc := hc.drop k0
   exact hK3 (W (x_0 + 1),W (b__0 - (min e_1.Amount b__0)),ry.1) _ _ (Option.some.inj hF).symm ⟨Ls_1,hJ_1,hf.keep ⟨rfl,rfl,rfl,rfl,rfl,trivial⟩,hc⟩
 ·replace hF := condF hb hF
  clear hb
  refine wp_exit ?_
  refine xThen ?_
  refine xThen ?_
  have he := Option.some.inj hF
  rw [← he] at hfin3
  refine cHit ?_
  exact hr3 _ _ _ hfin3 ⟨Ls,hJ,hf.keep ⟨rfl,rfl,rfl,rfl,rfl,trivial⟩,hc⟩

def share_Short_r12 (N : Nat) (x : Int) (x_1 : Int) (xv : share_Right) (xv_1 : Int) : Option (Rs (Int × Int)) :=
 cond (decide (xv_1 < xv.Amount))
 (some (.ret (x_1,x_1)))
 (some (.go (x,W (x_1 + 1))))
def share_Short (N : Nat) (c_ : share_Compact) (flow : Int) : Option (Int × Int) :=
 Option.bind (share_Check N c_) fun r =>
 cond (r != 0)
 (some (0,r))
 (cond (!(share_water flow))
 (some (0,4))
 (Option.bind (share_office_taken N (⟨c_,(fun _ => 0)⟩ : share_office) flow) fun r_1 =>
 Option.bind (share_office_taken_1_s2 N (⟨c_,(fun _ => 0)⟩ : share_office) r_1 (rY (fun (zz : Int × Int) (ix_ : (share_Right × Int)) => share_Short_r12 N zz.1 zz.2 ix_.1 ix_.2)) (.go (0,0))) fun x12 =>
 rsK x12.1 (fun zz12 => some ((-1),0)) (fun zz12 => some (zz12.1,0))))
theorem share_Short_ok {N : Nat} {G : Pers} {Lf : List Ent} {w : World} (c_ : share_Compact) (flow : Int) {c__Rights_p : Option Addr} {c__Rights_c : Nat} (h_c__Rights : Rd G 3 c__Rights_p c__Rights_c (c_.Rights.map enc_share_Right)) (hc : Ctx G (Lf) w) {res : Int × Int} (hF : share_Short N c_ flow = some res) : Calls Try.prog 24 #[.agg #[.int .i64 c_.States,.slice c__Rights_p c_.Rights.length c__Rights_c],.int .i64 flow] w (fun e w => e = .returned (.tuple #[.int .i64 res.1,.int .i64 res.2]) ∧ Ctx G (Lf) w) := by
 unfold share_Short at hF
 refine fnInM (args := [.agg #[.int .i64 c_.States,.slice c__Rights_p c_.Rights.length c__Rights_c],.int .i64 flow]) Try.func24 rfl Try.ntmps24 rfl fun a hf => wp_seq_k fun K1 h1 => cReg ?_
 refine stBx (cs := [.int .i64 c_.States,.slice c__Rights_p c_.Rights.length c__Rights_c]) hf hc rfl rfl rfl rfl fun b_1 a w hf hc => stAl (cs := [.int .i64 0]) hf hc rfl rfl zr_3 rfl fun b_2 a w hf hc => stAl (cs := [.int .i64 0]) hf hc rfl rfl zr_29 rfl fun b_3 a w hf hc => cNil ?_
 refine h1 _ _ ?_
 refine wp_seq_k fun K2 h2 => cReg ?_
 refine stE hf hc rfl rfl rfl (eLdN (vs := [.int .i64 c_.States,.slice c__Rights_p c_.Rights.length c__Rights_c]) ag_24 rfl rfl (cells_box (n := 2) m2 rfl)) fun a w hf hc => ?_
 obtain ⟨r,hr,hF⟩ := bnd_some hF
 refine stE hf hc rfl rfl rfl (eC (v := .int .i64 r) (vs := [.agg #[.int .i64 c_.States,.slice c__Rights_p c_.Rights.length c__Rights_c]]) (caps := []) en_15 rfl rfl rfl rfl (fun w hc => share_Check_ok c_ h_c__Rights hc hr)) fun a w hf hc => stP hf rfl rfl rfl (pA rfl) fun a hf => cNil ?_
 refine h2 _ _ ?_
 refine wp_seq_k fun K3 h3 => wp_block ?_
 refine wp_seq_k fun K4 h4 => cReg ?_
 refine stP hf rfl rfl rfl (pM rfl) fun a hf => stP hf rfl rfl rfl (pNe rfl rfl) fun a hf => stP hf rfl rfl rfl (pA rfl) fun a hf => cNil ?_
 refine h4 _ _ ?_
 refine cCond (b := (r != 0)) hf rfl (fun hb => ?_) (fun hb => ?_)
 ·replace hF := condT hb hF
  clear hb
  refine wp_seq_k fun K5 h5 => cReg ?_
  refine stP hf rfl rfl rfl (pM rfl) fun a hf => stSt (vs := [.int .i64 0]) hf hc rfl rfl rfl rfl sz_3 rfl rfl u1 fun w hc => stSt (vs := [.int .i64 r]) hf hc rfl rfl rfl rfl sz_29 rfl rfl u0 fun w hc => cNil ?_
  refine h5 _ _ ?_
  refine wp_ret ?_
  refine xBlkR ?_
  refine xThenR ?_
  obtain rfl := Option.some.inj hF
  replace hc := hc.drop k2
  replace hc := hc.pick k0
  replace hc := hc.pick k1
  refine outM hf ?_
  exact outM2 Try.results24 hf hc (rv_cell1 sc_3 rfl (cell_box m0 rfl)) (rv_cell1 sc_29 rfl (cell_box m1 rfl)) ⟨rfl,((hc.drop k1).drop k0)⟩
 ·replace hF := condF hb hF
  clear hb
  refine wp_seq_k fun K6 h6 => cReg ?_
  refine stP hf rfl rfl rfl (pM rfl) fun a hf => stE hf hc rfl rfl rfl (eC (v := .bool (share_water flow)) (vs := [.int .i64 flow]) (caps := []) en_73 rfl rfl rfl rfl (fun w hc => share_water_ok flow hc rfl)) fun a w hf hc => stP hf rfl rfl rfl (pNot rfl) fun a hf => stP hf rfl rfl rfl (pA rfl) fun a hf => cNil ?_
  refine h6 _ _ ?_
  refine cCond (b := (!(share_water flow))) hf rfl (fun hb => ?_) (fun hb => ?_)
  ·replace hF := condT hb hF
   clear hb
   refine wp_seq_k fun K7 h7 => cReg ?_
   refine stSt (vs := [.int .i64 0]) hf hc rfl rfl rfl rfl sz_3 rfl rfl u1 fun w hc => stSt (vs := [.int .i64 4]) hf hc rfl rfl rfl rfl sz_29 rfl rfl u0 fun w hc => cNil ?_
   refine h7 _ _ ?_
   refine wp_ret ?_
   refine xBlkR ?_
   refine xThenR ?_
   obtain rfl := Option.some.inj hF
   replace hc := hc.drop k2
   replace hc := hc.pick k0
   replace hc := hc.pick k1
   refine outM hf ?_
   exact outM2 Try.results24 hf hc (rv_cell1 sc_3 rfl (cell_box m0 rfl)) (rv_cell1 sc_29 rfl (cell_box m1 rfl)) ⟨rfl,((hc.drop k1).drop k0)⟩
  ·replace hF := condF hb hF
   clear hb
   refine wp_skip ?_
   refine h3 _ _ ?_
   refine wp_seq_k fun K8 h8 => cReg ?_
   refine stE hf hc rfl rfl rfl (eLdN (vs := [.int .i64 c_.States,.slice c__Rights_p c_.Rights.length c__Rights_c]) ag_24 rfl rfl (cells_box (n := 2) m2 rfl)) fun a w hf hc => stP hf rfl rfl rfl (pBuildS (cells := (catc [.int .i64 c_.States,.slice c__Rights_p c_.Rights.length c__Rights_c] 12 encI_i64 (fun _ => 0) [])) bt_156 rfl rfl) fun a hf => stBx (cs := (catc [.int .i64 c_.States,.slice c__Rights_p c_.Rights.length c__Rights_c] 12 encI_i64 (fun _ => 0) [])) hf hc rfl rfl rfl rfl fun b_4 a w hf hc => stP hf rfl rfl rfl (pA rfl) fun a hf => cNil ?_
   refine h8 _ _ ?_
   refine wp_seq_k fun K9 h9 => cReg ?_
   refine stAl (cs := [.int .i64 0]) hf hc rfl rfl zr_3 rfl fun b_5 a w hf hc => stSt (vs := [.int .i64 0]) hf hc rfl rfl rfl rfl sz_3 rfl rfl u0 fun w hc => cNil ?_
   refine h9 _ _ ?_
   refine wp_seq_k fun K10 h10 => wp_seq_k fun K11 h11 => cReg ?_
   refine stP hf rfl rfl rfl (pM rfl) fun a hf => stP hf rfl rfl rfl (pM rfl) fun a hf => ?_
   obtain ⟨r_1,hr_1,hF⟩ := bnd_some hF
   refine stC (vs := [.pointer (some ⟨b_4,0,none⟩),.int .i64 flow]) (caps := []) hf rfl rfl rfl en_79 rfl rfl rfl rfl (share_office_taken_ok (⟨c_,(fun _ => 0)⟩ : share_office) flow h_c__Rights (hc.pick k1) hr_1) ?_
   rintro _ w ⟨b_6,b_7,rfl,hc⟩
   refine ⟨_,rfl,fun a hf => ?_⟩
   refine cNil ?_
   refine h11 _ _ ?_
   obtain ⟨x12,hx12,hF⟩ := bnd_some hF
   replace hc := hc.drop k6
   replace hc := hc.pick k1
   replace hc := hc.pick k2
   replace hc := hc.pick k2
   refine cRange (C := [.box b_6 [.pointer (some ⟨b_4,0,none⟩)] 153,.box b_4 (catc [.int .i64 c_.States,.slice c__Rights_p c_.Rights.length c__Rights_c] 12 encI_i64 (fun _ => 0) []) 156,.box b_7 [.int .i64 r_1] 3]) (C2 := [.box b_6 [.pointer (some ⟨b_4,0,none⟩)] 153,.box b_4 (catc [.int .i64 c_.States,.slice c__Rights_p c_.Rights.length c__Rights_c] 12 encI_i64 (fun _ => 0) []) 156,.box b_7 [.int .i64 x12.2] 3]) (L0 := [.box b_5 [.int .i64 0] 3,.box b_3 [.int .i64 0] 29,.box b_2 [.int .i64 0] 3]) (Lf := Lf) (encs := fun x : (share_Right × Int) => [.agg #[.int .i64 x.1.State,.int .i64 x.1.Amount,.int .i64 x.1.Loss],.int .i64 x.2]) (fun (zz : Int × Int) L => L = [.box b_5 [.int .i64 zz.2] 3,.box b_3 [.int .i64 0] 29,.box b_2 [.int .i64 zz.1] 3]) (fun (zz : Int × Int) (ix_ : (share_Right × Int)) => share_Short_r12 N zz.1 zz.2 ix_.1 ix_.2) (0,0) x12.1 hf hc rfl en_118 (fun _ => rfl) rfl rfl ?_ ?_ ?_ ?_
   ·intro lq mq J L Lx w hy hJ hc
    exact share_office_taken_1_s2_ok (⟨c_,(fun _ => 0)⟩ : share_office) r_1 h_c__Rights J _ hy _ hJ hc hx12
   ·clear hF hf hc
    rintro lq mq ⟨x,x_1⟩ ⟨xv,xv_1⟩ oq _ Lr Lb a w hK0 rfl hF hf hc hK
    replace hf : Has 36 a [(4,.pointer (some ⟨b_2,0,none⟩)),(5,.pointer (some ⟨b_3,0,none⟩)),(8,.pointer (some ⟨b_5,0,none⟩)),(27,.agg #[.int .i64 xv.State,.int .i64 xv.Amount,.int .i64 xv.Loss]),(28,.int .i64 xv_1)] := hf.keep ⟨rfl,rfl,rfl,rfl,rfl,trivial⟩
    replace hc : Ctx G (.box b_5 [.int .i64 x_1] 3::.box b_3 [.int .i64 0] 29::.box b_2 [.int .i64 x] 3::Lr) w := hc
    replace hF : share_Short_r12 N x x_1 xv xv_1 = some oq := hF
    unfold share_Short_r12 at hF
    refine rSeq fun K13 h13 => rReg (fun _ _ h => h) rfl ?_
    refine stAl (cs := [.int .i64 0,.int .i64 0,.int .i64 0]) hf hc rfl rfl zr_51 rfl fun b_8 a w hf hc => stSt (vs := [.int .i64 xv.State,.int .i64 xv.Amount,.int .i64 xv.Loss]) hf hc rfl rfl rfl rfl sz_51 rfl rfl u0 fun w hc => cNil ?_
    refine h13 _ _ ?_
    refine rReg (fun _ _ h => h) rfl ?_
    refine stP hf rfl rfl rfl (pA rfl) fun a hf => cNil ?_
    refine hK _ _ [.box b_8 [.int .i64 xv.State,.int .i64 xv.Amount,.int .i64 xv.Loss] 51,.box b_5 [.int .i64 x_1] 3,.box b_3 [.int .i64 0] 29,.box b_2 [.int .i64 x] 3] hc fun w hc => ?_
    replace hc : Ctx G (.box b_8 [.int .i64 xv.State,.int .i64 xv.Amount,.int .i64 xv.Loss] 51::.box b_5 [.int .i64 x_1] 3::.box b_3 [.int .i64 0] 29::.box b_2 [.int .i64 x] 3::Lb) w := hc
    refine rThenK fun K14 h14 => rBlock ?_
    refine rSeq fun K15 h15 => rSeq fun K16 h16 => rReg (fun _ _ h => h) rfl ?_
    refine stP hf rfl rfl rfl (pM rfl) fun a hf => stP hf rfl rfl rfl (pFA fa_51_1 rfl) fun a hf => stE hf hc rfl rfl rfl (eLd1 sc_3 rfl (cell_box m0 rfl)) fun a w hf hc => stP hf rfl rfl rfl (pLt rfl rfl) fun a hf => cNil ?_
    refine h16 _ _ ?_
    refine rCond (b := (decide (xv_1 < xv.Amount))) hf rfl (fun hb => ?_) (fun hb => ?_)
    ·replace hF := condT hb hF
     clear hb
     refine rSeq fun K17 h17 => rReg (fun _ _ h => h) rfl ?_
     refine stE hf hc rfl rfl rfl (eLd1 sc_3 rfl (cell_box m1 rfl)) fun a w hf hc => stSt (vs := [.int .i64 x_1]) hf hc rfl rfl rfl rfl sz_3 rfl rfl u3 fun w hc => stSt (vs := [.int .i64 0]) hf hc rfl rfl rfl rfl sz_29 rfl rfl u2 fun w hc => cNil ?_
     refine h17 _ _ ?_
     refine rRet ?_
     refine xThenR ?_
     refine xBlkR ?_
     refine xThenR ?_
     replace hc := hc.drop k0
     exact ⟨(x_1,x_1),_,(Option.some.inj hF).symm,rfl,hc⟩
    ·replace hF := condF hb hF
     clear hb
     refine rSkip ?_
     refine h15 _ _ ?_
     refine rReg (fun _ _ h => h) rfl ?_
     refine stE hf hc rfl rfl rfl (eLd1 sc_3 rfl (cell_box m1 rfl)) fun a w hf hc => stP hf rfl rfl rfl (pAdd rfl rfl) fun a hf => stSt (vs := [.int .i64 (W (x_1 + 1))]) hf hc rfl rfl rfl rfl sz_3 rfl rfl u1 fun w hc => cNil ?_
     refine h14 _ _ ?_
     replace hc := hc.drop k0
     exact ⟨(x,W (x_1 + 1)),_,(Option.some.inj hF).symm,rfl,hc⟩
   ·rintro D_1 ⟨x,x_1⟩ _ a w hsF rfl hf hc
    replace hf : Has ⟨36,markL (D_1::[])⟩ a [(4,.pointer (some ⟨b_2,0,none⟩)),(5,.pointer (some ⟨b_3,0,none⟩)),(8,.pointer (some ⟨b_5,0,none⟩))] := hf.keep ⟨rfl,rfl,rfl,trivial⟩
    replace hc : Ctx G (.box b_6 [.pointer (some ⟨b_4,0,none⟩)] 153::.box b_4 (catc [.int .i64 c_.States,.slice c__Rights_p c_.Rights.length c__Rights_c] 12 encI_i64 (fun _ => 0) []) 156::.box b_7 [.int .i64 x12.2] 3::.box b_5 [.int .i64 x_1] 3::.box b_3 [.int .i64 0] 29::.box b_2 [.int .i64 x] 3::(raws (D_1::[]) ++ Lf)) w := rawsIn (C := [.box b_6 [.pointer (some ⟨b_4,0,none⟩)] 153,.box b_4 (catc [.int .i64 c_.States,.slice c__Rights_p c_.Rights.length c__Rights_c] 12 encI_i64 (fun _ => 0) []) 156,.box b_7 [.int .i64 x12.2] 3]) (L := [.box b_5 [.int .i64 x_1] 3,.box b_3 [.int .i64 0] 29,.box b_2 [.int .i64 x] 3]) hc
    replace hF : (some ((-1),0)) = some res := by rcases hsF with h_ | h_ <;> (rw [h_] at hF; exact hF)
    refine h10 _ _ ?_
    refine wp_seq_k fun K18 h18 => cReg ?_
    refine stSt (vs := [.int .i64 (-1)]) hf hc rfl rfl rfl rfl sz_3 rfl rfl u5 fun w hc => stSt (vs := [.int .i64 0]) hf hc rfl rfl rfl rfl sz_29 rfl rfl u4 fun w hc => cNil ?_
    refine h18 _ _ ?_
    refine wp_ret ?_
    obtain rfl := Option.some.inj hF
    replace hc := hc.drop k3
    replace hc := hc.drop k2
    replace hc := hc.drop k1
    replace hc := hc.drop k0
    replace hc := hc.pick k0
    replace hc := hc.pick k1
    refine outM hf ?_
    refine outML [.box b_2 [.int .i64 (-1)] 3,.box b_3 [.int .i64 0] 29] (D_1::[]) hc fun w hc => ?_
    replace hc : Ctx G (.box b_2 [.int .i64 (-1)] 3::.box b_3 [.int .i64 0] 29::Lf) w := hc
    exact outM2 Try.results24 hf hc (rv_cell1 sc_3 rfl (cell_box m0 rfl)) (rv_cell1 sc_29 rfl (cell_box m1 rfl)) ⟨rfl,((hc.drop k1).drop k0)⟩
   ·rintro D_1 ⟨x,x_1⟩ _ a w hsF rfl hf hc
    replace hf : Has ⟨36,markL (D_1::[])⟩ a [(4,.pointer (some ⟨b_2,0,none⟩)),(5,.pointer (some ⟨b_3,0,none⟩)),(8,.pointer (some ⟨b_5,0,none⟩))] := hf.keep ⟨rfl,rfl,rfl,trivial⟩
    replace hc : Ctx G (.box b_6 [.pointer (some ⟨b_4,0,none⟩)] 153::.box b_4 (catc [.int .i64 c_.States,.slice c__Rights_p c_.Rights.length c__Rights_c] 12 encI_i64 (fun _ => 0) []) 156::.box b_7 [.int .i64 x12.2] 3::.box b_5 [.int .i64 x_1] 3::.box b_3 [.int .i64 0] 29::.box b_2 [.int .i64 x] 3::(raws (D_1::[]) ++ Lf)) w := rawsIn (C := [.box b_6 [.pointer (some ⟨b_4,0,none⟩)] 153,.box b_4 (catc [.int .i64 c_.States,.slice c__Rights_p c_.Rights.length c__Rights_c] 12 encI_i64 (fun _ => 0) []) 156,.box b_7 [.int .i64 x12.2] 3]) (L := [.box b_5 [.int .i64 x_1] 3,.box b_3 [.int .i64 0] 29,.box b_2 [.int .i64 x] 3]) hc
    replace hF : (some (x,0)) = some res := by rw [hsF] at hF; exact hF
    refine xThenR ?_
    obtain rfl := Option.some.inj hF
    replace hc := hc.drop k3
    replace hc := hc.drop k2
    replace hc := hc.drop k1
    replace hc := hc.drop k0
    replace hc := hc.pick k0
    replace hc := hc.pick k1
    refine outM hf ?_
    refine outML [.box b_2 [.int .i64 x] 3,.box b_3 [.int .i64 0] 29] (D_1::[]) hc fun w hc => ?_
    replace hc : Ctx G (.box b_2 [.int .i64 x] 3::.box b_3 [.int .i64 0] 29::Lf) w := hc
    exact outM2 Try.results24 hf hc (rv_cell1 sc_3 rfl (cell_box m0 rfl)) (rv_cell1 sc_29 rfl (cell_box m1 rfl)) ⟨rfl,((hc.drop k1).drop k0)⟩

def law09_Line (N : Nat)  : Option (share_Border × (List share_Year)) :=
 Option.bind (law09_span N 140 160) fun r =>
 Option.bind (law09_span N 20 24) fun r_1 =>
 Option.bind (law09_span N 90 90) fun r_2 =>
 Option.bind (law09_span N 30 40) fun r_3 =>
 Option.bind (law09_span N 0 500) fun r_4 =>
 Option.bind (law09_span N 0 1) fun r_5 =>
 some ((⟨([(⟨100,10⟩ : share_Point),(⟨200,40⟩ : share_Point)] : List share_Point),15⟩ : share_Border),([(⟨r,r_1,false⟩ : share_Year),(⟨r_2,r_3,false⟩ : share_Year),(⟨r_4,r_5,true⟩ : share_Year)] : List share_Year))
theorem law09_Line_ok {N : Nat} {G : Pers} {Lf : List Ent} {w : World}    (hc : Ctx G (Lf) w) {res : share_Border × (List share_Year)} (hF : law09_Line N = some res) : Calls Try.prog 68 #[] w (fun e w => ∃ (p'1 : Option Addr) (c'1 : Nat) (p'2 : Option Addr) (c'2 : Nat),e = .returned (.tuple #[.agg #[.slice p'1 res.1.Table.length c'1,.int .i64 res.1.Credit],.slice p'2 res.2.length c'2]) ∧ Ctx G (.row p'1 c'1 (res.1.Table.map enc_share_Point) 116 2::.row p'2 c'2 (res.2.map enc_share_Year) 94 5::Lf) w) := by
 unfold law09_Line at hF
 refine fnIn (args := []) Try.func68 rfl Try.ntmps68 rfl fun a hf => wp_seq_k fun K1 h1 => cReg ?_
 refine stAl (cs := [.slice none 0 0,.int .i64 0]) hf hc rfl rfl zr_88 rfl fun b_1 a w hf hc => stP hf rfl rfl rfl (pA rfl) fun a hf => cNil ?_
 refine h1 _ _ ?_
 refine wp_seq_k fun K2 h2 => cReg ?_
 refine stP hf rfl rfl rfl (pBuildS (cells := [.int .i64 100,.int .i64 10]) bt_116 rfl rfl) fun a hf => stP hf rfl rfl rfl (pBuildS (cells := [.int .i64 200,.int .i64 40]) bt_116 rfl rfl) fun a hf => stBS (rows := ([(⟨100,10⟩ : share_Point),(⟨200,40⟩ : share_Point)] : List share_Point).map enc_share_Point) (vs := [(0,.agg #[.int .i64 100,.int .i64 10]),(1,.agg #[.int .i64 200,.int .i64 40])]) hf hc rfl rfl sl_86 rfl ⟨rfl,rfl,rfl,rfl,rfl,rfl,trivial⟩ rfl rfl fun b_2 a w hf hc => stP hf rfl rfl rfl (pBuildS (cells := [.slice (some ⟨b_2,0,none⟩) 2 2,.int .i64 15]) bt_88 rfl rfl) fun a hf => ?_
 obtain ⟨r,hr,hF⟩ := bnd_some hF
 refine stE hf hc rfl rfl rfl (eC (v := .agg #[.int .i64 r.Lo,.int .i64 r.Hi]) (vs := [.int .i64 140,.int .i64 160]) (caps := []) en_60 rfl rfl rfl rfl (fun w hc => law09_span_ok 140 160 hc hr)) fun a w hf hc => ?_
 obtain ⟨r_1,hr_1,hF⟩ := bnd_some hF
 refine stE hf hc rfl rfl rfl (eC (v := .agg #[.int .i64 r_1.Lo,.int .i64 r_1.Hi]) (vs := [.int .i64 20,.int .i64 24]) (caps := []) en_60 rfl rfl rfl rfl (fun w hc => law09_span_ok 20 24 hc hr_1)) fun a w hf hc => stP hf rfl rfl rfl (pBuildS (cells := [.int .i64 r.Lo,.int .i64 r.Hi,.int .i64 r_1.Lo,.int .i64 r_1.Hi,.bool false]) bt_94 rfl rfl) fun a hf => ?_
 obtain ⟨r_2,hr_2,hF⟩ := bnd_some hF
 refine stE hf hc rfl rfl rfl (eC (v := .agg #[.int .i64 r_2.Lo,.int .i64 r_2.Hi]) (vs := [.int .i64 90,.int .i64 90]) (caps := []) en_60 rfl rfl rfl rfl (fun w hc => law09_span_ok 90 90 hc hr_2)) fun a w hf hc => ?_
 obtain ⟨r_3,hr_3,hF⟩ := bnd_some hF
 refine stE hf hc rfl rfl rfl (eC (v := .agg #[.int .i64 r_3.Lo,.int .i64 r_3.Hi]) (vs := [.int .i64 30,.int .i64 40]) (caps := []) en_60 rfl rfl rfl rfl (fun w hc => law09_span_ok 30 40 hc hr_3)) fun a w hf hc => stP hf rfl rfl rfl (pBuildS (cells := [.int .i64 r_2.Lo,.int .i64 r_2.Hi,.int .i64 r_3.Lo,.int .i64 r_3.Hi,.bool false]) bt_94 rfl rfl) fun a hf => ?_
 obtain ⟨r_4,hr_4,hF⟩ := bnd_some hF
 refine stE hf hc rfl rfl rfl (eC (v := .agg #[.int .i64 r_4.Lo,.int .i64 r_4.Hi]) (vs := [.int .i64 0,.int .i64 500]) (caps := []) en_60 rfl rfl rfl rfl (fun w hc => law09_span_ok 0 500 hc hr_4)) fun a w hf hc => ?_
 obtain ⟨r_5,hr_5,hF⟩ := bnd_some hF
 refine stE hf hc rfl rfl rfl (eC (v := .agg #[.int .i64 r_5.Lo,.int .i64 r_5.Hi]) (vs := [.int .i64 0,.int .i64 1]) (caps := []) en_60 rfl rfl rfl rfl (fun w hc => law09_span_ok 0 1 hc hr_5)) fun a w hf hc => stP hf rfl rfl rfl (pBuildS (cells := [.int .i64 r_4.Lo,.int .i64 r_4.Hi,.int .i64 r_5.Lo,.int .i64 r_5.Hi,.bool true]) bt_94 rfl rfl) fun a hf => stBS (rows := ([(⟨r,r_1,false⟩ : share_Year),(⟨r_2,r_3,false⟩ : share_Year),(⟨r_4,r_5,true⟩ : share_Year)] : List share_Year).map enc_share_Year) (vs := [(0,.agg #[.int .i64 r.Lo,.int .i64 r.Hi,.int .i64 r_1.Lo,.int .i64 r_1.Hi,.bool false]),(1,.agg #[.int .i64 r_2.Lo,.int .i64 r_2.Hi,.int .i64 r_3.Lo,.int .i64 r_3.Hi,.bool false]),(2,.agg #[.int .i64 r_4.Lo,.int .i64 r_4.Hi,.int .i64 r_5.Lo,.int .i64 r_5.Hi,.bool true])]) hf hc rfl rfl sl_89 rfl ⟨rfl,rfl,rfl,rfl,rfl,rfl,rfl,rfl,rfl,trivial⟩ rfl rfl fun b_3 a w hf hc => stSt (vs := [.slice (some ⟨b_2,0,none⟩) 2 2,.int .i64 15]) hf hc rfl rfl rfl rfl sz_88 rfl rfl u2 fun w hc => stP hf rfl rfl rfl (pA rfl) fun a hf => cNil ?_
 refine h2 _ _ ?_
 refine wp_ret ?_
 obtain rfl := Option.some.inj hF
 replace hc := hc.pick k0
 replace hc := hc.pick k1
 exact fnOut2 (by simp) rfl Try.results68 hf hc (rv_cellN (vs := [.slice (some ⟨b_2,0,none⟩) 2 2,.int .i64 15]) ag_88 rfl rfl (cells_box (n := 2) m2 rfl)) (show look _ 1 = _ from rfl) ⟨(some ⟨b_2,0,none⟩),2,(some ⟨b_3,0,none⟩),3,rfl,(hc.drop k2)⟩

def share_CheckBorder_1 (p_ : share_Point) : Bool :=
 ((share_water p_.Index) && (share_water p_.Due))
theorem share_CheckBorder_1_ok {G : Pers} {Lf : List Ent} {w : World} (p_ : share_Point)   (hc : Ctx G (Lf) w) {res : Bool} (hF : share_CheckBorder_1 p_ = res) : Calls Try.prog 96 #[.agg #[.int .i64 p_.Index,.int .i64 p_.Due]] w (fun e w => e = .returned (.bool res) ∧ Ctx G (Lf) w) := by
 unfold share_CheckBorder_1 at hF
 refine fnIn (args := [.agg #[.int .i64 p_.Index,.int .i64 p_.Due]]) Try.func96 rfl Try.ntmps96 rfl fun a hf => wp_seq_k fun K1 h1 => cReg ?_
 refine stBx (cs := [.int .i64 p_.Index,.int .i64 p_.Due]) hf hc rfl rfl rfl rfl fun b_1 a w hf hc => stP hf rfl rfl rfl (pA rfl) fun a hf => cNil ?_
 refine h1 _ _ ?_
 refine wp_seq_k fun K2 h2 => cReg ?_
 refine stP hf rfl rfl rfl (pFA fa_116_0 rfl) fun a hf => stE hf hc rfl rfl rfl (eLd1 sc_3 rfl (cell_box m0 rfl)) fun a w hf hc => stE hf hc rfl rfl rfl (eC (v := .bool (share_water p_.Index)) (vs := [.int .i64 p_.Index]) (caps := []) en_73 rfl rfl rfl rfl (fun w hc => share_water_ok p_.Index hc rfl)) fun a w hf hc => stP hf rfl rfl rfl (pM rfl) fun a hf => stCut 4 (fun a w => Has 11 a [(1,.pointer (some ⟨b_1,0,none⟩)),(2,.bool false),(3,.pointer (some ⟨b_1,0,none⟩)),(4,.int .i64 p_.Index),(5,.bool (share_water p_.Index)),(6,.bool (share_water p_.Index)),(10,.bool ((share_water p_.Index) && (share_water p_.Due)))] ∧ Ctx G (.box b_1 [.int .i64 p_.Index,.int .i64 p_.Due] 116::Lf) w) ?_ ?_
 ·cases hb : (share_water p_.Index)
  ·rw [hb] at hf
   refine stS hf rfl rfl rfl fun a hf => stS hf rfl rfl rfl fun a hf => stS hf rfl rfl rfl fun a hf => stP hf rfl rfl rfl (pPf rfl rfl) fun a hf => cNil ⟨hf.keep ⟨rfl,rfl,rfl,rfl,rfl,rfl,rfl,trivial⟩,hc⟩
  ·rw [hb] at hf
   refine stP hf rfl rfl rfl (pFA fa_116_1 rfl) fun a hf => stE hf hc rfl rfl rfl (eLd1 sc_3 rfl (cell_box m0 rfl)) fun a w hf hc => stE hf hc rfl rfl rfl (eC (v := .bool (share_water p_.Due)) (vs := [.int .i64 p_.Due]) (caps := []) en_73 rfl rfl rfl rfl (fun w hc => share_water_ok p_.Due hc rfl)) fun a w hf hc => stP hf rfl rfl rfl (pPt rfl rfl) fun a hf => cNil ⟨hf.keep ⟨rfl,rfl,rfl,rfl,rfl,rfl,rfl,trivial⟩,hc⟩
 intro a w ⟨hf,hc⟩
 refine stP hf rfl rfl rfl (pA rfl) fun a hf => cNil ?_
 refine h2 _ _ ?_
 refine wp_ret ?_
 obtain rfl := hF
 replace hc := hc.drop k0
 exact fnOut1 (by simp) rfl Try.results96 hf hc (show look _ 2 = _ from rfl) ⟨rfl,hc⟩

def share_every_share_Point_1 (x : share_Point) : Bool :=
 (!(share_CheckBorder_1 x))
theorem share_every_share_Point_1_ok {G : Pers} {Lf : List Ent} {w : World} (x : share_Point) {b_ : Nat}  (hc : Ctx G (.box b_ [.func (.func 96) #[] #[]] 182::Lf) w) {res : Bool} (hF : share_every_share_Point_1 x = res) : Calls Try.prog 124 #[.agg #[.int .i64 x.Index,.int .i64 x.Due],.pointer (some ⟨b_,0,none⟩)] w (fun e w => e = .returned (.bool res) ∧ Ctx G (.box b_ [.func (.func 96) #[] #[]] 182::Lf) w) := by
 unfold share_every_share_Point_1 at hF
 refine fnIn (args := [.agg #[.int .i64 x.Index,.int .i64 x.Due],.pointer (some ⟨b_,0,none⟩)]) Try.func124 rfl Try.ntmps124 rfl fun a hf => wp_seq_k fun K1 h1 => cReg ?_
 refine stBx (cs := [.int .i64 x.Index,.int .i64 x.Due]) hf hc rfl rfl rfl rfl fun b_1 a w hf hc => stP hf rfl rfl rfl (pA rfl) fun a hf => cNil ?_
 refine h1 _ _ ?_
 refine wp_seq_k fun K2 h2 => cReg ?_
 refine stE hf hc rfl rfl rfl (eLd1 sc_182 rfl (cell_box m1 rfl)) fun a w hf hc => stE hf hc rfl rfl rfl (eLdN (vs := [.int .i64 x.Index,.int .i64 x.Due]) ag_116 rfl rfl (cells_box (n := 2) m0 rfl)) fun a w hf hc => stE hf hc rfl rfl rfl (eC (v := .bool (share_CheckBorder_1 x)) (vs := [.agg #[.int .i64 x.Index,.int .i64 x.Due]]) (caps := []) en_96 rfl rfl rfl rfl (fun w hc => share_CheckBorder_1_ok x hc rfl)) fun a w hf hc => stP hf rfl rfl rfl (pNot rfl) fun a hf => stP hf rfl rfl rfl (pA rfl) fun a hf => cNil ?_
 refine h2 _ _ ?_
 refine wp_ret ?_
 obtain rfl := hF
 replace hc := hc.drop k0
 exact fnOut1 (by simp) rfl Try.results124 hf hc (show look _ 3 = _ from rfl) ⟨rfl,hc⟩

def slices_IndexFunc_Lshare_Point_share_Point_b4 (N : Nat) (s_ : List share_Point) (x : Int) : Option (Step (Int) (Int)) :=
 cond (decide (x < ((s_.length : Nat) : Int)))
 (Option.bind (getI s_ x) fun e_1 =>
 cond (share_every_share_Point_1 e_1)
 (some (.ret x))
 (some (.cont (W (x + 1)))))
 (some (.brk x))
def slices_IndexFunc_Lshare_Point_share_Point (N : Nat) (s_ : List share_Point) : Option (Int) :=
 Option.bind (loopO (fun s4 => slices_IndexFunc_Lshare_Point_share_Point_b4 N s_ s4) N 0) fun x4 =>
 exK x4 (fun s4 => some (-1)) some
theorem slices_IndexFunc_Lshare_Point_share_Point_ok {N : Nat} {G : Pers} {Lf : List Ent} {w : World} (s_ : List share_Point) {s__p : Option Addr} {s__c : Nat} {b_ : Nat} (h_s_ : Rd G 2 s__p s__c (s_.map enc_share_Point)) (hc : Ctx G (.box b_ [.func (.func 96) #[] #[]] 182::Lf) w) {res : Int} (hF : slices_IndexFunc_Lshare_Point_share_Point N s_ = some res) : Calls Try.prog 125 #[.slice s__p s_.length s__c,.func (.func 124) #[] #[.pointer (some ⟨b_,0,none⟩)]] w (fun e w => e = .returned (.int .i64 res) ∧ Ctx G (.box b_ [.func (.func 96) #[] #[]] 182::Lf) w) := by
 unfold slices_IndexFunc_Lshare_Point_share_Point at hF
 refine fnIn (args := [.slice s__p s_.length s__c,.func (.func 124) #[] #[.pointer (some ⟨b_,0,none⟩)]]) Try.func125 rfl Try.ntmps125 rfl fun a hf => wp_seq_k fun K1 h1 => cReg ?_
 refine stP hf rfl rfl rfl (pA rfl) fun a hf => cNil ?_
 refine h1 _ _ ?_
 refine wp_seq_k fun K2 h2 => wp_seq_k fun K3 h3 => cReg ?_
 refine stP hf rfl rfl rfl (pM rfl) fun a hf => stP hf rfl rfl rfl (pLenS Try.underlying86 rfl) fun a hf => stP hf rfl rfl rfl (pM rfl) fun a hf => cNil ?_
 refine h3 _ _ ?_
 refine wp_block ?_
 obtain ⟨x4,hx4,hF⟩ := bnd_some hF
 let S4 : Int → Act → World → Prop := (fun (zz : Int) a w => Has 19 a [(0,.slice s__p s_.length s__c),(1,.func (.func 124) #[] #[.pointer (some ⟨b_,0,none⟩)]),(7,.int .i64 ((s_.length : Nat) : Int)),(8,.int .i64 zz)] ∧ Ctx G (.box b_ [.func (.func 96) #[] #[]] 182::Lf) w)
 have hr4 : ∀ (zz : Int) a w,x4 = .go zz → S4 zz a w → K2 a w := by
  rintro x a w rfl ⟨hf,hc⟩
  replace hF := exK_go hF
  refine h2 _ _ ?_
  refine wp_seq_k fun K5 h5 => cReg ?_
  refine stP hf rfl rfl rfl (pA rfl) fun a hf => cNil ?_
  refine h5 _ _ ?_
  refine wp_ret ?_
  obtain rfl := Option.some.inj hF
  exact fnOut1 (by simp) rfl Try.results125 hf hc (show look _ 4 = _ from rfl) ⟨rfl,hc⟩
 have ho4 : ∀ r,x4 = .out r → r = res := by
  rintro r rfl
  exact Option.some.inj hF
 refine cLoop N (loopW (S := S4) (x := x4) ?_ N 0 _ _ ⟨hf.keep ⟨rfl,rfl,rfl,rfl,trivial⟩,hc⟩ hx4)
 clear hF hf hc
 rintro x st4 a w KB4 ⟨hf,hc⟩ hF hfin4 hK4
 unfold slices_IndexFunc_Lshare_Point_share_Point_b4 at hF
 refine wp_seq_k fun K6 h6 => cReg ?_
 refine stP hf rfl rfl rfl (pLt rfl rfl) fun a hf => cNil ?_
 refine h6 _ _ ?_
 refine wp_seq_k fun K7 h7 => cCond (b := (decide (x < ((s_.length : Nat) : Int)))) hf rfl (fun hb => ?_) (fun hb => ?_)
 ·replace hF := condT hb hF
  clear hb
  refine wp_skip ?_
  refine h7 _ _ ?_
  refine wp_seq_k fun K8 h8 => wp_block ?_
  refine wp_seq_k fun K9 h9 => cReg ?_
  refine stP hf rfl rfl rfl (pM rfl) fun a hf => stP hf rfl rfl rfl (pA rfl) fun a hf => cNil ?_
  refine h9 _ _ ?_
  refine wp_seq_k fun K10 h10 => cReg ?_
  refine stP hf rfl rfl rfl (pM rfl) fun a hf => stP hf rfl rfl rfl (pM rfl) fun a hf => stP hf rfl rfl rfl (pM rfl) fun a hf => ?_
  obtain ⟨e_1,he_1,hF⟩ := bnd_some hF
  obtain ⟨b_1,o,qa,qp⟩ := h_s_.atm he_1
  refine stP hf rfl rfl rfl (pIA Try.underlying86 sz_116 rfl rfl qa) fun a hf => stE hf hc rfl rfl rfl (eLdN (vs := [.int .i64 e_1.Index,.int .i64 e_1.Due]) ag_116 rfl rfl (cells_pc qp (n := 2) (o' := 0) rfl)) fun a w hf hc => stE hf hc rfl rfl rfl (eC (v := .bool (share_every_share_Point_1 e_1)) (vs := [.agg #[.int .i64 e_1.Index,.int .i64 e_1.Due]]) (caps := [.pointer (some ⟨b_,0,none⟩)]) en_124 rfl rfl rfl rfl (fun w hc => (share_every_share_Point_1_ok e_1 (hc.pick k0) rfl).mono fun e w h => ⟨h.1,(h.2.unpick k0)⟩)) fun a w hf hc => cNil ?_
  refine h10 _ _ ?_
  refine cCond (b := (share_every_share_Point_1 e_1)) hf rfl (fun hb => ?_) (fun hb => ?_)
  ·replace hF := condT hb hF
   clear hb
   refine wp_seq_k fun K11 h11 => cReg ?_
   refine stP hf rfl rfl rfl (pM rfl) fun a hf => stP hf rfl rfl rfl (pA rfl) fun a hf => cNil ?_
   refine h11 _ _ ?_
   refine wp_ret ?_
   refine xBlkR ?_
   refine xThenR ?_
   refine xThenR ?_
   have he := Option.some.inj hF
   rw [← he] at hfin4
   replace hF := ho4 _ hfin4
   refine xBlkR ?_
   refine xThenR ?_
   obtain rfl := hF
   exact fnOut1 (by simp) rfl Try.results125 hf hc (show look _ 4 = _ from rfl) ⟨rfl,hc⟩
  ·replace hF := condF hb hF
   clear hb
   refine wp_skip ?_
   refine h8 _ _ ?_
   refine cReg ?_
   refine stP hf rfl rfl rfl (pAdd rfl rfl) fun a hf => stP hf rfl rfl rfl (pM rfl) fun a hf => cNil ?_
   exact hK4 (W (x + 1)) _ _ (Option.some.inj hF).symm ⟨hf.keep ⟨rfl,rfl,rfl,rfl,trivial⟩,hc⟩
 ·replace hF := condF hb hF
  clear hb
  refine wp_exit ?_
  refine xThen ?_
  refine xThen ?_
  have he := Option.some.inj hF
  rw [← he] at hfin4
  refine cHit ?_
  exact hr4 _ _ _ hfin4 ⟨hf.keep ⟨rfl,rfl,rfl,rfl,trivial⟩,hc⟩

def slices_ContainsFunc_Lshare_Point_share_Point (N : Nat) (s_ : List share_Point) : Option (Bool) :=
 Option.bind (slices_IndexFunc_Lshare_Point_share_Point N s_) fun r =>
 some (decide (0 ≤ r))
theorem slices_ContainsFunc_Lshare_Point_share_Point_ok {N : Nat} {G : Pers} {Lf : List Ent} {w : World} (s_ : List share_Point) {s__p : Option Addr} {s__c : Nat} {b_ : Nat} (h_s_ : Rd G 2 s__p s__c (s_.map enc_share_Point)) (hc : Ctx G (.box b_ [.func (.func 96) #[] #[]] 182::Lf) w) {res : Bool} (hF : slices_ContainsFunc_Lshare_Point_share_Point N s_ = some res) : Calls Try.prog 123 #[.slice s__p s_.length s__c,.func (.func 124) #[] #[.pointer (some ⟨b_,0,none⟩)]] w (fun e w => e = .returned (.bool res) ∧ Ctx G (.box b_ [.func (.func 96) #[] #[]] 182::Lf) w) := by
 unfold slices_ContainsFunc_Lshare_Point_share_Point at hF
 refine fnIn (args := [.slice s__p s_.length s__c,.func (.func 124) #[] #[.pointer (some ⟨b_,0,none⟩)]]) Try.func123 rfl Try.ntmps123 rfl fun a hf => wp_seq_k fun K1 h1 => cReg ?_
 refine stP hf rfl rfl rfl (pA rfl) fun a hf => cNil ?_
 refine h1 _ _ ?_
 refine wp_seq_k fun K2 h2 => cReg ?_
 refine stP hf rfl rfl rfl (pM rfl) fun a hf => stP hf rfl rfl rfl (pM rfl) fun a hf => ?_
 obtain ⟨r,hr,hF⟩ := bnd_some hF
 refine stE hf hc rfl rfl rfl (eC (v := .int .i64 r) (vs := [.slice s__p s_.length s__c,.func (.func 124) #[] #[.pointer (some ⟨b_,0,none⟩)]]) (caps := []) en_125 rfl rfl rfl rfl (fun w hc => (slices_IndexFunc_Lshare_Point_share_Point_ok s_ h_s_ (hc.pick k0) hr).mono fun e w h => ⟨h.1,(h.2.unpick k0)⟩)) fun a w hf hc => stP hf rfl rfl rfl (pGe rfl rfl) fun a hf => stP hf rfl rfl rfl (pA rfl) fun a hf => cNil ?_
 refine h2 _ _ ?_
 refine wp_ret ?_
 obtain rfl := Option.some.inj hF
 exact fnOut1 (by simp) rfl Try.results123 hf hc (show look _ 4 = _ from rfl) ⟨rfl,hc⟩

def share_every_share_Point (N : Nat) (l : List share_Point) : Option (Bool) :=
 Option.bind (slices_ContainsFunc_Lshare_Point_share_Point N l) fun r =>
 some (!r)
theorem share_every_share_Point_ok {N : Nat} {G : Pers} {Lf : List Ent} {w : World} (l : List share_Point) {l_p : Option Addr} {l_c : Nat} (h_l : Rd G 2 l_p l_c (l.map enc_share_Point)) (hc : Ctx G (Lf) w) {res : Bool} (hF : share_every_share_Point N l = some res) : Calls Try.prog 95 #[.slice l_p l.length l_c,.func (.func 96) #[] #[]] w (fun e w => e = .returned (.bool res) ∧ Ctx G (Lf) w) := by
 unfold share_every_share_Point at hF
 refine fnIn (args := [.slice l_p l.length l_c,.func (.func 96) #[] #[]]) Try.func95 rfl Try.ntmps95 rfl fun a hf => wp_seq_k fun K1 h1 => cReg ?_
 refine stBx (cs := [.func (.func 96) #[] #[]]) hf hc rfl rfl rfl rfl fun b_1 a w hf hc => stP hf rfl rfl rfl (pA rfl) fun a hf => cNil ?_
 refine h1 _ _ ?_
 refine wp_seq_k fun K2 h2 => cReg ?_
 refine stP hf rfl rfl rfl (pM rfl) fun a hf => stP hf rfl rfl rfl (pMF (us := [.pointer (some ⟨b_1,0,none⟩)]) rfl rfl) fun a hf => ?_
 obtain ⟨r,hr,hF⟩ := bnd_some hF
 refine stE hf hc rfl rfl rfl (eC (v := .bool r) (vs := [.slice l_p l.length l_c,.func (.func 124) #[] #[.pointer (some ⟨b_1,0,none⟩)]]) (caps := []) en_123 rfl rfl rfl rfl (fun w hc => (slices_ContainsFunc_Lshare_Point_share_Point_ok l h_l (hc.pick k0) hr).mono fun e w h => ⟨h.1,(h.2.unpick k0)⟩)) fun a w hf hc => stP hf rfl rfl rfl (pNot rfl) fun a hf => stP hf rfl rfl rfl (pA rfl) fun a hf => cNil ?_
 refine h2 _ _ ?_
 refine wp_ret ?_
 obtain rfl := Option.some.inj hF
 replace hc := hc.drop k0
 exact fnOut1 (by simp) rfl Try.results95 hf hc (show look _ 4 = _ from rfl) ⟨rfl,hc⟩

def share_CheckBorder_b9 (N : Nat) (b_ : share_Border) (sub : List share_Point) (x : Int) : Option (Step (Int) (Int)) :=
 cond (decide (x < ((sub.length : Nat) : Int)))
 (Option.bind (getI b_.Table x) fun e_1 =>
 Option.bind (getI b_.Table (W (x + 1))) fun e_2 =>
 cond ((decide (e_2.Index ≤ e_1.Index)) || (decide (e_2.Due < e_1.Due)))
 (some (.ret 9))
 (some (.cont (W (x + 1)))))
 (some (.brk x))
def share_CheckBorder (N : Nat) (b_ : share_Border) : Option (Int) :=
 cond (!(share_in ((b_.Table.length : Nat) : Int) 2 12))
 (some 3)
 (Option.bind (share_every_share_Point N b_.Table) fun r =>
 cond ((!r) || (!(share_water b_.Credit)))
 (some 100)
 (Option.bind (subO b_.Table 1 ((b_.Table.length : Nat) : Int)) fun sub =>
 Option.bind (loopO (fun s9 => share_CheckBorder_b9 N b_ sub s9) N 0) fun x9 =>
 exK x9 (fun s9 => some 0) some))
theorem share_CheckBorder_ok {N : Nat} {G : Pers} {Lf : List Ent} {w : World} (b_ : share_Border) {b__Table_p : Option Addr} {b__Table_c : Nat} (h_b__Table : Rd G 2 b__Table_p b__Table_c (b_.Table.map enc_share_Point)) (hc : Ctx G (Lf) w) {res : Int} (hF : share_CheckBorder N b_ = some res) : Calls Try.prog 47 #[.agg #[.slice b__Table_p b_.Table.length b__Table_c,.int .i64 b_.Credit]] w (fun e w => e = .returned (.int .i64 res) ∧ Ctx G (Lf) w) := by
 unfold share_CheckBorder at hF
 refine fnIn (args := [.agg #[.slice b__Table_p b_.Table.length b__Table_c,.int .i64 b_.Credit]]) Try.func47 rfl Try.ntmps47 rfl fun a hf => wp_seq_k fun K1 h1 => cReg ?_
 refine stBx (cs := [.slice b__Table_p b_.Table.length b__Table_c,.int .i64 b_.Credit]) hf hc rfl rfl rfl rfl fun b_1 a w hf hc => stP hf rfl rfl rfl (pA rfl) fun a hf => cNil ?_
 refine h1 _ _ ?_
 refine wp_seq_k fun K2 h2 => wp_block ?_
 refine wp_seq_k fun K3 h3 => cReg ?_
 refine stP hf rfl rfl rfl (pFA fa_88_0 rfl) fun a hf => stE hf hc rfl rfl rfl (eLd1 sc_86 rfl (cell_box m0 rfl)) fun a w hf hc => stP hf rfl rfl rfl (pLenS Try.underlying86 rfl) fun a hf => stE hf hc rfl rfl rfl (eC (v := .bool (share_in ((b_.Table.length : Nat) : Int) 2 12)) (vs := [.int .i64 ((b_.Table.length : Nat) : Int),.int .i64 2,.int .i64 12]) (caps := []) en_70 rfl rfl rfl rfl (fun w hc => share_in_ok ((b_.Table.length : Nat) : Int) 2 12 hc rfl)) fun a w hf hc => stP hf rfl rfl rfl (pNot rfl) fun a hf => stP hf rfl rfl rfl (pA rfl) fun a hf => cNil ?_
 refine h3 _ _ ?_
 refine cCond (b := (!(share_in ((b_.Table.length : Nat) : Int) 2 12))) hf rfl (fun hb => ?_) (fun hb => ?_)
 ·replace hF := condT hb hF
  clear hb
  refine wp_seq_k fun K4 h4 => cReg ?_
  refine stP hf rfl rfl rfl (pA rfl) fun a hf => cNil ?_
  refine h4 _ _ ?_
  refine wp_ret ?_
  refine xBlkR ?_
  refine xThenR ?_
  obtain rfl := Option.some.inj hF
  replace hc := hc.drop k0
  exact fnOut1 (by simp) rfl Try.results47 hf hc (show look _ 2 = _ from rfl) ⟨rfl,hc⟩
 ·replace hF := condF hb hF
  clear hb
  refine wp_seq_k fun K5 h5 => cReg ?_
  refine stP hf rfl rfl rfl (pFA fa_88_0 rfl) fun a hf => stE hf hc rfl rfl rfl (eLd1 sc_86 rfl (cell_box m0 rfl)) fun a w hf hc => ?_
  obtain ⟨r,hr,hF⟩ := bnd_some hF
  refine stE hf hc rfl rfl rfl (eC (v := .bool r) (vs := [.slice b__Table_p b_.Table.length b__Table_c,.func (.func 96) #[] #[]]) (caps := []) en_95 rfl rfl rfl rfl (fun w hc => share_every_share_Point_ok b_.Table h_b__Table hc hr)) fun a w hf hc => stP hf rfl rfl rfl (pNot rfl) fun a hf => stP hf rfl rfl rfl (pM rfl) fun a hf => stCut 5 (fun a w => Has 54 a [(1,.pointer (some ⟨b_1,0,none⟩)),(13,.pointer (some ⟨b_1,0,none⟩)),(14,.slice b__Table_p b_.Table.length b__Table_c),(15,.bool r),(16,.bool (!r)),(17,.bool (!r)),(22,.bool ((!r) || (!(share_water b_.Credit))))] ∧ Ctx G (.box b_1 [.slice b__Table_p b_.Table.length b__Table_c,.int .i64 b_.Credit] 88::Lf) w) ?_ ?_
  ·cases hb : (!r)
   ·rw [hb] at hf
    refine stP hf rfl rfl rfl (pFA fa_88_1 rfl) fun a hf => stE hf hc rfl rfl rfl (eLd1 sc_3 rfl (cell_box m0 rfl)) fun a w hf hc => stE hf hc rfl rfl rfl (eC (v := .bool (share_water b_.Credit)) (vs := [.int .i64 b_.Credit]) (caps := []) en_73 rfl rfl rfl rfl (fun w hc => share_water_ok b_.Credit hc rfl)) fun a w hf hc => stP hf rfl rfl rfl (pNot rfl) fun a hf => stP hf rfl rfl rfl (pPf rfl rfl) fun a hf => cNil ⟨hf.keep ⟨rfl,rfl,rfl,rfl,rfl,rfl,rfl,trivial⟩,hc⟩
   ·rw [hb] at hf
    refine stS hf rfl rfl rfl fun a hf => stS hf rfl rfl rfl fun a hf => stS hf rfl rfl rfl fun a hf => stS hf rfl rfl rfl fun a hf => stP hf rfl rfl rfl (pPt rfl rfl) fun a hf => cNil ⟨hf.keep ⟨rfl,rfl,rfl,rfl,rfl,rfl,rfl,trivial⟩,hc⟩
  intro a w ⟨hf,hc⟩
  refine stP hf rfl rfl rfl (pA rfl) fun a hf => cNil ?_
  refine h5 _ _ ?_
  refine cCond (b := ((!r) || (!(share_water b_.Credit)))) hf rfl (fun hb => ?_) (fun hb => ?_)
  ·replace hF := condT hb hF
   clear hb
   refine wp_seq_k fun K6 h6 => cReg ?_
   refine stP hf rfl rfl rfl (pA rfl) fun a hf => cNil ?_
   refine h6 _ _ ?_
   refine wp_ret ?_
   refine xBlkR ?_
   refine xThenR ?_
   obtain rfl := Option.some.inj hF
   replace hc := hc.drop k0
   exact fnOut1 (by simp) rfl Try.results47 hf hc (show look _ 2 = _ from rfl) ⟨rfl,hc⟩
  ·replace hF := condF hb hF
   clear hb
   refine wp_skip ?_
   refine h2 _ _ ?_
   refine wp_seq_k fun K7 h7 => wp_seq_k fun K8 h8 => cReg ?_
   refine stP hf rfl rfl rfl (pFA fa_88_0 rfl) fun a hf => stE hf hc rfl rfl rfl (eLd1 sc_86 rfl (cell_box m0 rfl)) fun a w hf hc => ?_
   obtain ⟨sub,hsub,hF⟩ := bnd_some hF
   have qs := Rd.sub h_b__Table hsub
   refine stP hf rfl rfl rfl (pSl Try.underlying86 sz_116 rfl rfl (by simpa using h_b__Table.1) rfl rfl hsub) fun a hf => stP hf rfl rfl rfl (pLenS Try.underlying86 rfl) fun a hf => stP hf rfl rfl rfl (pM rfl) fun a hf => cNil ?_
   refine h8 _ _ ?_
   refine wp_block ?_
   obtain ⟨x9,hx9,hF⟩ := bnd_some hF
   let S9 : Int → Act → World → Prop := (fun (zz : Int) a w => Has 54 a [(1,.pointer (some ⟨b_1,0,none⟩)),(26,.int .i64 ((sub.length : Nat) : Int)),(27,.int .i64 zz)] ∧ Ctx G (.box b_1 [.slice b__Table_p b_.Table.length b__Table_c,.int .i64 b_.Credit] 88::Lf) w)
   have hr9 : ∀ (zz : Int) a w,x9 = .go zz → S9 zz a w → K7 a w := by
    rintro x a w rfl ⟨hf,hc⟩
    replace hF := exK_go hF
    refine h7 _ _ ?_
    refine wp_seq_k fun K10 h10 => cReg ?_
    refine stP hf rfl rfl rfl (pA rfl) fun a hf => cNil ?_
    refine h10 _ _ ?_
    refine wp_ret ?_
    obtain rfl := Option.some.inj hF
    replace hc := hc.drop k0
    exact fnOut1 (by simp) rfl Try.results47 hf hc (show look _ 2 = _ from rfl) ⟨rfl,hc⟩
   have ho9 : ∀ r,x9 = .out r → r = res := by
    rintro r rfl
    exact Option.some.inj hF
   refine cLoop N (loopW (S := S9) (x := x9) ?_ N 0 _ _ ⟨hf.keep ⟨rfl,rfl,rfl,trivial⟩,hc⟩ hx9)
   clear hF hf hc
   rintro x st9 a w KB9 ⟨hf,hc⟩ hF hfin9 hK9
   unfold share_CheckBorder_b9 at hF
   refine wp_seq_k fun K11 h11 => cReg ?_
   refine stP hf rfl rfl rfl (pLt rfl rfl) fun a hf => cNil ?_
   refine h11 _ _ ?_
   refine wp_seq_k fun K12 h12 => cCond (b := (decide (x < ((sub.length : Nat) : Int)))) hf rfl (fun hb => ?_) (fun hb => ?_)
   ·replace hF := condT hb hF
    clear hb
    refine wp_skip ?_
    refine h12 _ _ ?_
    refine wp_seq_k fun K13 h13 => wp_block ?_
    refine wp_seq_k fun K14 h14 => cReg ?_
    refine stP hf rfl rfl rfl (pM rfl) fun a hf => stP hf rfl rfl rfl (pA rfl) fun a hf => cNil ?_
    refine h14 _ _ ?_
    refine wp_seq_k fun K15 h15 => ?_
    obtain ⟨e_1,he_1,hF⟩ := bnd_some hF
    obtain ⟨b_2,o,qa,qp⟩ := h_b__Table.atm he_1
    obtain ⟨e_2,he_2,hF⟩ := bnd_some hF
    obtain ⟨b_3,o_1,qa_1,qp_1⟩ := h_b__Table.atm he_2
    replace hc := hc.nilRow 0 0
    replace hc := hc.nilRow 0 0
    refine regionE (fun θ => [⟨none,none,1,.pointer (some ⟨b_1,0,none⟩)⟩,⟨none,none,3,.int .i64 x⟩,⟨none,none,26,.int .i64 ((sub.length : Nat) : Int)⟩,⟨none,none,27,.int .i64 x⟩,⟨some 0,none,30,.pointer (some ⟨b_1,0,none⟩)⟩,⟨some 1,none,31,.slice b__Table_p b_.Table.length b__Table_c⟩,⟨some 2,none,32,.int .i64 x⟩,⟨some 3,none,33,.pointer (some ⟨b_2,o,none⟩)⟩,⟨some 4,none,34,.agg #[.int .i64 e_1.Index,.int .i64 e_1.Due]⟩,⟨some 5,none,35,.pointer (some ⟨b_1,0,none⟩)⟩,⟨some 6,none,36,.slice b__Table_p b_.Table.length b__Table_c⟩,⟨some 7,none,37,.int .i64 x⟩,⟨some 8,none,38,.int .i64 (W (x + 1))⟩,⟨some 9,none,39,.pointer (some ⟨b_3,o_1,none⟩)⟩,⟨some 10,none,40,.agg #[.int .i64 e_2.Index,.int .i64 e_2.Due]⟩,⟨some 11,none,4,.pointer (some ⟨(θ 88).b,0,none⟩)⟩,⟨some 12,none,5,.pointer (some ⟨(θ 96).b,0,none⟩)⟩]) (fun E θ => (bif E 14 then .box (θ 96).b [.int .i64 e_2.Index,.int .i64 e_2.Due] 116 else bif E 12 then .box (θ 96).b [.int .i64 0,.int .i64 0] 116 else .row none 0 [] 0 0)::(bif E 13 then .box (θ 88).b [.int .i64 e_1.Index,.int .i64 e_1.Due] 116 else bif E 11 then .box (θ 88).b [.int .i64 0,.int .i64 0] 116 else .row none 0 [] 0 0)::.box b_1 [.slice b__Table_p b_.Table.length b__Table_c,.int .i64 b_.Credit] 88::Lf) [(13,11),(14,12)] (fun a w => ∃ (b_6 : Nat) (b_7 : Nat),Has 54 a [(1,.pointer (some ⟨b_1,0,none⟩)),(26,.int .i64 ((sub.length : Nat) : Int)),(27,.int .i64 x),(4,.pointer (some ⟨b_6,0,none⟩)),(5,.pointer (some ⟨b_7,0,none⟩))] ∧ Ctx G (.box b_7 [.int .i64 e_2.Index,.int .i64 e_2.Due] 116::.box b_6 [.int .i64 e_1.Index,.int .i64 e_1.Due] 116::.box b_1 [.slice b__Table_p b_.Table.length b__Table_c,.int .i64 b_.Credit] 88::Lf) w) follows_mx (by kernel_rfl) (by kernel_rfl) (HasE.of hf ⟨rfl,rfl,rfl,rfl,trivial,trivial,trivial,trivial,trivial,trivial,trivial,trivial,trivial,trivial,trivial,trivial,trivial,trivial⟩) hc ⟨?_,?_,?_,?_,?_,?_,?_,?_,?_,?_,?_,?_,?_,?_,?_,trivial⟩ ?_ ?_
    ·intro E θ a w hD hi hp he hc
     have hf := he.h0
     replace hf := hf.more he 0 rfl onT
     refine stP hf rfl rfl rfl (pFA fa_88_0 rfl) fun a hf => cNil ?_
     refine xThenN ?_
     intro ds u hau
     refine ⟨θ,he.put0 hi hau hf rfl 4 rfl rfl,?_⟩
     exact hc
    ·intro E θ a w hD hi hp he hc
     have e0 := hp.of (k := 0) rfl
     have hf := he.h0
     replace hf := hf.more he 4 rfl (onP e0)
     refine stE hf hc rfl rfl rfl (eLd1 sc_86 rfl (cell_box m2 rfl)) fun a w hf hc => cNil ?_
     refine xThenN ?_
     intro ds u hau
     refine ⟨θ,he.put0 hi hau hf rfl 5 rfl rfl,?_⟩
     exact hc
    ·intro E θ a w hD hi hp he hc
     have hf := he.h0
     replace hf := hf.more he 1 rfl onT
     refine stP hf rfl rfl rfl (pM rfl) fun a hf => cNil ?_
     refine xThenN ?_
     intro ds u hau
     refine ⟨θ,he.put0 hi hau hf rfl 6 rfl rfl,?_⟩
     exact hc
    ·intro E θ a w hD hi hp he hc
     have e1 := hp.of (k := 1) rfl
     have e2 := hp.of (k := 2) rfl
     have hf := he.h0
     replace hf := hf.more he 5 rfl (onP e1)
     replace hf := hf.more he 6 rfl (onP e2)
     refine stP hf rfl rfl rfl (pIA Try.underlying86 sz_116 rfl rfl qa) fun a hf => cNil ?_
     refine xThenN ?_
     intro ds u hau
     refine ⟨θ,he.put0 hi hau hf rfl 7 rfl rfl,?_⟩
     exact hc
    ·intro E θ a w hD hi hp he hc
     have e3 := hp.of (k := 3) rfl
     have hf := he.h0
     replace hf := hf.more he 7 rfl (onP e3)
     refine stE hf hc rfl rfl rfl (eLdN (vs := [.int .i64 e_1.Index,.int .i64 e_1.Due]) ag_116 rfl rfl (cells_pc qp (n := 2) (o' := 0) rfl)) fun a w hf hc => cNil ?_
     refine xThenN ?_
     intro ds u hau
     refine ⟨θ,he.put0 hi hau hf rfl 8 rfl rfl,?_⟩
     exact hc
    ·intro E θ a w hD hi hp he hc
     have hf := he.h0
     replace hf := hf.more he 0 rfl onT
     refine stP hf rfl rfl rfl (pFA fa_88_0 rfl) fun a hf => cNil ?_
     refine xThenN ?_
     intro ds u hau
     refine ⟨θ,he.put0 hi hau hf rfl 9 rfl rfl,?_⟩
     exact hc
    ·intro E θ a w hD hi hp he hc
     have e5 := hp.of (k := 5) rfl
     have hf := he.h0
     replace hf := hf.more he 9 rfl (onP e5)
     refine stE hf hc rfl rfl rfl (eLd1 sc_86 rfl (cell_box m2 rfl)) fun a w hf hc => cNil ?_
     refine xThenN ?_
     intro ds u hau
     refine ⟨θ,he.put0 hi hau hf rfl 10 rfl rfl,?_⟩
     exact hc
    ·intro E θ a w hD hi hp he hc
     have hf := he.h0
     replace hf := hf.more he 1 rfl onT
     refine stP hf rfl rfl rfl (pM rfl) fun a hf => cNil ?_
     refine xThenN ?_
     intro ds u hau
     refine ⟨θ,he.put0 hi hau hf rfl 11 rfl rfl,?_⟩
     exact hc
    ·intro E θ a w hD hi hp he hc
     have e7 := hp.of (k := 7) rfl
     have hf := he.h0
     replace hf := hf.more he 11 rfl (onP e7)
     refine stP hf rfl rfl rfl (pAdd rfl rfl) fun a hf => cNil ?_
     refine xThenN ?_
     intro ds u hau
     refine ⟨θ,he.put0 hi hau hf rfl 12 rfl rfl,?_⟩
     exact hc
    ·intro E θ a w hD hi hp he hc
     have e6 := hp.of (k := 6) rfl
     have e8 := hp.of (k := 8) rfl
     have hf := he.h0
     replace hf := hf.more he 10 rfl (onP e6)
     replace hf := hf.more he 12 rfl (onP e8)
     refine stP hf rfl rfl rfl (pIA Try.underlying86 sz_116 rfl rfl qa_1) fun a hf => cNil ?_
     refine xThenN ?_
     intro ds u hau
     refine ⟨θ,he.put0 hi hau hf rfl 13 rfl rfl,?_⟩
     exact hc
    ·intro E θ a w hD hi hp he hc
     have e9 := hp.of (k := 9) rfl
     have hf := he.h0
     replace hf := hf.more he 13 rfl (onP e9)
     refine stE hf hc rfl rfl rfl (eLdN (vs := [.int .i64 e_2.Index,.int .i64 e_2.Due]) ag_116 rfl rfl (cells_pc qp_1 (n := 2) (o' := 0) rfl)) fun a w hf hc => cNil ?_
     refine xThenN ?_
     intro ds u hau
     refine ⟨θ,he.put0 hi hau hf rfl 14 rfl rfl,?_⟩
     exact hc
    ·intro E θ a w hD hi hp he hc
     have e13 := hD.f 0 rfl hi
     try dsimp only at hc
     rw [hi,e13] at hc
     have hf := he.h0
     refine stAl (cs := [.int .i64 0,.int .i64 0]) hf hc rfl rfl zr_116 rfl fun b_4 a w hf hc => cNil ?_
     refine xThenN ?_
     intro ds u hau
     replace hc := hc.drop k2
     replace hc := hc.pick k0
     replace hc := hc.pick k1
     refine ⟨(setT θ 88 ⟨b_4,none,0,(fun _ => (none,0))⟩),he.put hi hau hf rfl [] trivial ⟨qq,qq,qq,qq,qq,qq,qq,qq,qq,qq,qq,qq,qq,qq,qq,qq,qq,trivial⟩,?_⟩
     try dsimp only
     rw [updE_self E 11,updE_fls 11 e13 rfl]
     exact hc
    ·intro E θ a w hD hi hp he hc
     have e14 := hD.f 1 rfl hi
     try dsimp only at hc
     rw [hi,e14] at hc
     have hf := he.h0
     refine stAl (cs := [.int .i64 0,.int .i64 0]) hf hc rfl rfl zr_116 rfl fun b_5 a w hf hc => cNil ?_
     refine xThenN ?_
     intro ds u hau
     replace hc := hc.drop k1
     refine ⟨(setT θ 96 ⟨b_5,none,0,(fun _ => (none,0))⟩),he.put hi hau hf rfl [] trivial ⟨qq,qq,qq,qq,qq,qq,qq,qq,qq,qq,qq,qq,qq,qq,qq,qq,qq,trivial⟩,?_⟩
     try dsimp only
     rw [updE_self E 12,updE_fls 12 e14 rfl]
     exact hc
    ·intro E θ a w hD hi hp he hc
     have e4 := hp.of (k := 4) rfl
     have e11 := hp.of (k := 11) rfl
     try dsimp only at hc
     rw [e11,hi] at hc
     have hf := he.h0
     replace hf := hf.more he 8 rfl (onP e4)
     replace hf := hf.more he 15 rfl (onP e11)
     refine stSt (vs := [.int .i64 e_1.Index,.int .i64 e_1.Due]) hf hc rfl rfl rfl rfl sz_116 rfl rfl u1 fun w hc => cNil ?_
     refine xThenN ?_
     intro ds u hau
     refine ⟨θ,he.stay0 hi hau hf rfl,?_⟩
     try dsimp only
     rw [updE_tru 13 e11,updE_self E 13]
     exact hc
    ·intro E θ a w hD hi hp he hc
     have e10 := hp.of (k := 10) rfl
     have e12 := hp.of (k := 12) rfl
     try dsimp only at hc
     rw [e12,hi] at hc
     have hf := he.h0
     replace hf := hf.more he 14 rfl (onP e10)
     replace hf := hf.more he 16 rfl (onP e12)
     refine stSt (vs := [.int .i64 e_2.Index,.int .i64 e_2.Due]) hf hc rfl rfl rfl rfl sz_116 rfl rfl u0 fun w hc => cNil ?_
     refine xThenN ?_
     intro ds u hau
     refine ⟨θ,he.stay0 hi hau hf rfl,?_⟩
     try dsimp only
     rw [updE_tru 14 e12,updE_self E 14]
     exact hc
    ·intro E θ a w hall he hc
     have hf := he.h0
     have e11 := hall 11 rfl
     have e12 := hall 12 rfl
     have e13 := hall 13 rfl
     have e14 := hall 14 rfl
     replace hf := hf.more he 16 rfl (onP e12)
     replace hf := hf.more he 15 rfl (onP e11)
     replace hf := hf.more he 3 rfl (onT)
     replace hf := hf.more he 2 rfl (onT)
     replace hf := hf.more he 0 rfl (onT)
     try dsimp only at hc
     rw [e11,e12,e13,e14] at hc
     exact ⟨(θ 88).b,(θ 96).b,hf.keep ⟨rfl,rfl,rfl,rfl,rfl,trivial⟩,hc⟩
    rintro a w ⟨b_6,b_7,hf,hc⟩
    refine h15 _ _ ?_
    refine wp_seq_k fun K16 h16 => cReg ?_
    refine stP hf rfl rfl rfl (pFA fa_116_0 rfl) fun a hf => stE hf hc rfl rfl rfl (eLd1 sc_3 rfl (cell_box m0 rfl)) fun a w hf hc => stP hf rfl rfl rfl (pFA fa_116_0 rfl) fun a hf => stE hf hc rfl rfl rfl (eLd1 sc_3 rfl (cell_box m1 rfl)) fun a w hf hc => stP hf rfl rfl rfl (pLe rfl rfl) fun a hf => stP hf rfl rfl rfl (pM rfl) fun a hf => stCut 6 (fun a w => Has 54 a [(1,.pointer (some ⟨b_1,0,none⟩)),(26,.int .i64 ((sub.length : Nat) : Int)),(27,.int .i64 x),(4,.pointer (some ⟨b_6,0,none⟩)),(5,.pointer (some ⟨b_7,0,none⟩)),(41,.pointer (some ⟨b_7,0,none⟩)),(42,.int .i64 e_2.Index),(43,.pointer (some ⟨b_6,0,none⟩)),(44,.int .i64 e_1.Index),(45,.bool (decide (e_2.Index ≤ e_1.Index))),(46,.bool (decide (e_2.Index ≤ e_1.Index))),(52,.bool ((decide (e_2.Index ≤ e_1.Index)) || (decide (e_2.Due < e_1.Due))))] ∧ Ctx G (.box b_7 [.int .i64 e_2.Index,.int .i64 e_2.Due] 116::.box b_6 [.int .i64 e_1.Index,.int .i64 e_1.Due] 116::.box b_1 [.slice b__Table_p b_.Table.length b__Table_c,.int .i64 b_.Credit] 88::Lf) w) ?_ ?_
    ·cases hb : (decide (e_2.Index ≤ e_1.Index))
     ·rw [hb] at hf
      refine stP hf rfl rfl rfl (pFA fa_116_1 rfl) fun a hf => stE hf hc rfl rfl rfl (eLd1 sc_3 rfl (cell_box m0 rfl)) fun a w hf hc => stP hf rfl rfl rfl (pFA fa_116_1 rfl) fun a hf => stE hf hc rfl rfl rfl (eLd1 sc_3 rfl (cell_box m1 rfl)) fun a w hf hc => stP hf rfl rfl rfl (pLt rfl rfl) fun a hf => stP hf rfl rfl rfl (pPf rfl rfl) fun a hf => cNil ⟨hf.keep ⟨rfl,rfl,rfl,rfl,rfl,rfl,rfl,rfl,rfl,rfl,rfl,rfl,trivial⟩,hc⟩
     ·rw [hb] at hf
      refine stS hf rfl rfl rfl fun a hf => stS hf rfl rfl rfl fun a hf => stS hf rfl rfl rfl fun a hf => stS hf rfl rfl rfl fun a hf => stS hf rfl rfl rfl fun a hf => stP hf rfl rfl rfl (pPt rfl rfl) fun a hf => cNil ⟨hf.keep ⟨rfl,rfl,rfl,rfl,rfl,rfl,rfl,rfl,rfl,rfl,rfl,rfl,trivial⟩,hc⟩
    intro a w ⟨hf,hc⟩
    refine cNil ?_
    refine h16 _ _ ?_
    refine cCond (b := ((decide (e_2.Index ≤ e_1.Index)) || (decide (e_2.Due < e_1.Due)))) hf rfl (fun hb => ?_) (fun hb => ?_)
    ·replace hF := condT hb hF
     clear hb
     refine wp_seq_k fun K17 h17 => cReg ?_
     refine stP hf rfl rfl rfl (pA rfl) fun a hf => cNil ?_
     refine h17 _ _ ?_
     refine wp_ret ?_
     refine xBlkR ?_
     refine xThenR ?_
     refine xThenR ?_
     have he := Option.some.inj hF
     rw [← he] at hfin9
     replace hF := ho9 _ hfin9
     refine xBlkR ?_
     refine xThenR ?_
     obtain rfl := hF
     replace hc := hc.drop k2
     replace hc := hc.drop k1
     replace hc := hc.drop k0
     exact fnOut1 (by simp) rfl Try.results47 hf hc (show look _ 2 = _ from rfl) ⟨rfl,hc⟩
    ·replace hF := condF hb hF
     clear hb
     refine wp_skip ?_
     refine h13 _ _ ?_
     refine cReg ?_
     refine stP hf rfl rfl rfl (pAdd rfl rfl) fun a hf => stP hf rfl rfl rfl (pM rfl) fun a hf => cNil ?_
     replace hc := hc.drop k1
     replace hc := hc.drop k0
     exact hK9 (W (x + 1)) _ _ (Option.some.inj hF).symm ⟨hf.keep ⟨rfl,rfl,rfl,trivial⟩,hc⟩
   ·replace hF := condF hb hF
    clear hb
    refine wp_exit ?_
    refine xThen ?_
    refine xThen ?_
    have he := Option.some.inj hF
    rw [← he] at hfin9
    refine cHit ?_
    exact hr9 _ _ _ hfin9 ⟨hf.keep ⟨rfl,rfl,rfl,trivial⟩,hc⟩

def share_asked_1 (y : share_Year) : Bool :=
 ((share_waters y.Index) && (share_waters y.Delivered))
theorem share_asked_1_ok {G : Pers} {Lf : List Ent} {w : World} (y : share_Year)   (hc : Ctx G (Lf) w) {res : Bool} (hF : share_asked_1 y = res) : Calls Try.prog 128 #[.agg #[.int .i64 y.Index.Lo,.int .i64 y.Index.Hi,.int .i64 y.Delivered.Lo,.int .i64 y.Delivered.Hi,.bool y.Spill]] w (fun e w => e = .returned (.bool res) ∧ Ctx G (Lf) w) := by
 unfold share_asked_1 at hF
 refine fnIn (args := [.agg #[.int .i64 y.Index.Lo,.int .i64 y.Index.Hi,.int .i64 y.Delivered.Lo,.int .i64 y.Delivered.Hi,.bool y.Spill]]) Try.func128 rfl Try.ntmps128 rfl fun a hf => wp_seq_k fun K1 h1 => cReg ?_
 refine stBx (cs := [.int .i64 y.Index.Lo,.int .i64 y.Index.Hi,.int .i64 y.Delivered.Lo,.int .i64 y.Delivered.Hi,.bool y.Spill]) hf hc rfl rfl rfl rfl fun b_1 a w hf hc => stP hf rfl rfl rfl (pA rfl) fun a hf => cNil ?_
 refine h1 _ _ ?_
 refine wp_seq_k fun K2 h2 => cReg ?_
 refine stP hf rfl rfl rfl (pFA fa_94_0 rfl) fun a hf => stE hf hc rfl rfl rfl (eLdN (vs := [.int .i64 y.Index.Lo,.int .i64 y.Index.Hi]) ag_26 rfl rfl (cells_box (n := 2) m0 rfl)) fun a w hf hc => stE hf hc rfl rfl rfl (eC (v := .bool (share_waters y.Index)) (vs := [.agg #[.int .i64 y.Index.Lo,.int .i64 y.Index.Hi]]) (caps := []) en_77 rfl rfl rfl rfl (fun w hc => share_waters_ok y.Index hc rfl)) fun a w hf hc => stP hf rfl rfl rfl (pM rfl) fun a hf => stCut 4 (fun a w => Has 11 a [(1,.pointer (some ⟨b_1,0,none⟩)),(2,.bool false),(3,.pointer (some ⟨b_1,0,none⟩)),(4,.agg #[.int .i64 y.Index.Lo,.int .i64 y.Index.Hi]),(5,.bool (share_waters y.Index)),(6,.bool (share_waters y.Index)),(10,.bool ((share_waters y.Index) && (share_waters y.Delivered)))] ∧ Ctx G (.box b_1 [.int .i64 y.Index.Lo,.int .i64 y.Index.Hi,.int .i64 y.Delivered.Lo,.int .i64 y.Delivered.Hi,.bool y.Spill] 94::Lf) w) ?_ ?_
 ·cases hb : (share_waters y.Index)
  ·rw [hb] at hf
   refine stS hf rfl rfl rfl fun a hf => stS hf rfl rfl rfl fun a hf => stS hf rfl rfl rfl fun a hf => stP hf rfl rfl rfl (pPf rfl rfl) fun a hf => cNil ⟨hf.keep ⟨rfl,rfl,rfl,rfl,rfl,rfl,rfl,trivial⟩,hc⟩
  ·rw [hb] at hf
   refine stP hf rfl rfl rfl (pFA fa_94_1 rfl) fun a hf => stE hf hc rfl rfl rfl (eLdN (vs := [.int .i64 y.Delivered.Lo,.int .i64 y.Delivered.Hi]) ag_26 rfl rfl (cells_box (n := 2) m0 rfl)) fun a w hf hc => stE hf hc rfl rfl rfl (eC (v := .bool (share_waters y.Delivered)) (vs := [.agg #[.int .i64 y.Delivered.Lo,.int .i64 y.Delivered.Hi]]) (caps := []) en_77 rfl rfl rfl rfl (fun w hc => share_waters_ok y.Delivered hc rfl)) fun a w hf hc => stP hf rfl rfl rfl (pPt rfl rfl) fun a hf => cNil ⟨hf.keep ⟨rfl,rfl,rfl,rfl,rfl,rfl,rfl,trivial⟩,hc⟩
 intro a w ⟨hf,hc⟩
 refine stP hf rfl rfl rfl (pA rfl) fun a hf => cNil ?_
 refine h2 _ _ ?_
 refine wp_ret ?_
 obtain rfl := hF
 replace hc := hc.drop k0
 exact fnOut1 (by simp) rfl Try.results128 hf hc (show look _ 2 = _ from rfl) ⟨rfl,hc⟩

def share_every_share_Year_1 (x : share_Year) : Bool :=
 (!(share_asked_1 x))
theorem share_every_share_Year_1_ok {G : Pers} {Lf : List Ent} {w : World} (x : share_Year) {b_ : Nat}  (hc : Ctx G (.box b_ [.func (.func 128) #[] #[]] 212::Lf) w) {res : Bool} (hF : share_every_share_Year_1 x = res) : Calls Try.prog 147 #[.agg #[.int .i64 x.Index.Lo,.int .i64 x.Index.Hi,.int .i64 x.Delivered.Lo,.int .i64 x.Delivered.Hi,.bool x.Spill],.pointer (some ⟨b_,0,none⟩)] w (fun e w => e = .returned (.bool res) ∧ Ctx G (.box b_ [.func (.func 128) #[] #[]] 212::Lf) w) := by
 unfold share_every_share_Year_1 at hF
 refine fnIn (args := [.agg #[.int .i64 x.Index.Lo,.int .i64 x.Index.Hi,.int .i64 x.Delivered.Lo,.int .i64 x.Delivered.Hi,.bool x.Spill],.pointer (some ⟨b_,0,none⟩)]) Try.func147 rfl Try.ntmps147 rfl fun a hf => wp_seq_k fun K1 h1 => cReg ?_
 refine stBx (cs := [.int .i64 x.Index.Lo,.int .i64 x.Index.Hi,.int .i64 x.Delivered.Lo,.int .i64 x.Delivered.Hi,.bool x.Spill]) hf hc rfl rfl rfl rfl fun b_1 a w hf hc => stP hf rfl rfl rfl (pA rfl) fun a hf => cNil ?_
 refine h1 _ _ ?_
 refine wp_seq_k fun K2 h2 => cReg ?_
 refine stE hf hc rfl rfl rfl (eLd1 sc_212 rfl (cell_box m1 rfl)) fun a w hf hc => stE hf hc rfl rfl rfl (eLdN (vs := [.int .i64 x.Index.Lo,.int .i64 x.Index.Hi,.int .i64 x.Delivered.Lo,.int .i64 x.Delivered.Hi,.bool x.Spill]) ag_94 rfl rfl (cells_box (n := 5) m0 rfl)) fun a w hf hc => stE hf hc rfl rfl rfl (eC (v := .bool (share_asked_1 x)) (vs := [.agg #[.int .i64 x.Index.Lo,.int .i64 x.Index.Hi,.int .i64 x.Delivered.Lo,.int .i64 x.Delivered.Hi,.bool x.Spill]]) (caps := []) en_128 rfl rfl rfl rfl (fun w hc => share_asked_1_ok x hc rfl)) fun a w hf hc => stP hf rfl rfl rfl (pNot rfl) fun a hf => stP hf rfl rfl rfl (pA rfl) fun a hf => cNil ?_
 refine h2 _ _ ?_
 refine wp_ret ?_
 obtain rfl := hF
 replace hc := hc.drop k0
 exact fnOut1 (by simp) rfl Try.results147 hf hc (show look _ 3 = _ from rfl) ⟨rfl,hc⟩

def slices_IndexFunc_Lshare_Year_share_Year_b4 (N : Nat) (s_ : List share_Year) (x : Int) : Option (Step (Int) (Int)) :=
 cond (decide (x < ((s_.length : Nat) : Int)))
 (Option.bind (getI s_ x) fun e_1 =>
 cond (share_every_share_Year_1 e_1)
 (some (.ret x))
 (some (.cont (W (x + 1)))))
 (some (.brk x))
def slices_IndexFunc_Lshare_Year_share_Year (N : Nat) (s_ : List share_Year) : Option (Int) :=
 Option.bind (loopO (fun s4 => slices_IndexFunc_Lshare_Year_share_Year_b4 N s_ s4) N 0) fun x4 =>
 exK x4 (fun s4 => some (-1)) some
theorem slices_IndexFunc_Lshare_Year_share_Year_ok {N : Nat} {G : Pers} {Lf : List Ent} {w : World} (s_ : List share_Year) {s__p : Option Addr} {s__c : Nat} {b_ : Nat} (h_s_ : Rd G 5 s__p s__c (s_.map enc_share_Year)) (hc : Ctx G (.box b_ [.func (.func 128) #[] #[]] 212::Lf) w) {res : Int} (hF : slices_IndexFunc_Lshare_Year_share_Year N s_ = some res) : Calls Try.prog 156 #[.slice s__p s_.length s__c,.func (.func 147) #[] #[.pointer (some ⟨b_,0,none⟩)]] w (fun e w => e = .returned (.int .i64 res) ∧ Ctx G (.box b_ [.func (.func 128) #[] #[]] 212::Lf) w) := by
 unfold slices_IndexFunc_Lshare_Year_share_Year at hF
 refine fnIn (args := [.slice s__p s_.length s__c,.func (.func 147) #[] #[.pointer (some ⟨b_,0,none⟩)]]) Try.func156 rfl Try.ntmps156 rfl fun a hf => wp_seq_k fun K1 h1 => cReg ?_
 refine stP hf rfl rfl rfl (pA rfl) fun a hf => cNil ?_
 refine h1 _ _ ?_
 refine wp_seq_k fun K2 h2 => wp_seq_k fun K3 h3 => cReg ?_
 refine stP hf rfl rfl rfl (pM rfl) fun a hf => stP hf rfl rfl rfl (pLenS Try.underlying89 rfl) fun a hf => stP hf rfl rfl rfl (pM rfl) fun a hf => cNil ?_
 refine h3 _ _ ?_
 refine wp_block ?_
 obtain ⟨x4,hx4,hF⟩ := bnd_some hF
 let S4 : Int → Act → World → Prop := (fun (zz : Int) a w => Has 19 a [(0,.slice s__p s_.length s__c),(1,.func (.func 147) #[] #[.pointer (some ⟨b_,0,none⟩)]),(7,.int .i64 ((s_.length : Nat) : Int)),(8,.int .i64 zz)] ∧ Ctx G (.box b_ [.func (.func 128) #[] #[]] 212::Lf) w)
 have hr4 : ∀ (zz : Int) a w,x4 = .go zz → S4 zz a w → K2 a w := by
  rintro x a w rfl ⟨hf,hc⟩
  replace hF := exK_go hF
  refine h2 _ _ ?_
  refine wp_seq_k fun K5 h5 => cReg ?_
  refine stP hf rfl rfl rfl (pA rfl) fun a hf => cNil ?_
  refine h5 _ _ ?_
  refine wp_ret ?_
  obtain rfl := Option.some.inj hF
  exact fnOut1 (by simp) rfl Try.results156 hf hc (show look _ 4 = _ from rfl) ⟨rfl,hc⟩
 have ho4 : ∀ r,x4 = .out r → r = res := by
  rintro r rfl
  exact Option.some.inj hF
 refine cLoop N (loopW (S := S4) (x := x4) ?_ N 0 _ _ ⟨hf.keep ⟨rfl,rfl,rfl,rfl,trivial⟩,hc⟩ hx4)
 clear hF hf hc
 rintro x st4 a w KB4 ⟨hf,hc⟩ hF hfin4 hK4
 unfold slices_IndexFunc_Lshare_Year_share_Year_b4 at hF
 refine wp_seq_k fun K6 h6 => cReg ?_
 refine stP hf rfl rfl rfl (pLt rfl rfl) fun a hf => cNil ?_
 refine h6 _ _ ?_
 refine wp_seq_k fun K7 h7 => cCond (b := (decide (x < ((s_.length : Nat) : Int)))) hf rfl (fun hb => ?_) (fun hb => ?_)
 ·replace hF := condT hb hF
  clear hb
  refine wp_skip ?_
  refine h7 _ _ ?_
  refine wp_seq_k fun K8 h8 => wp_block ?_
  refine wp_seq_k fun K9 h9 => cReg ?_
  refine stP hf rfl rfl rfl (pM rfl) fun a hf => stP hf rfl rfl rfl (pA rfl) fun a hf => cNil ?_
  refine h9 _ _ ?_
  refine wp_seq_k fun K10 h10 => cReg ?_
  refine stP hf rfl rfl rfl (pM rfl) fun a hf => stP hf rfl rfl rfl (pM rfl) fun a hf => stP hf rfl rfl rfl (pM rfl) fun a hf => ?_
  obtain ⟨e_1,he_1,hF⟩ := bnd_some hF
  obtain ⟨b_1,o,qa,qp⟩ := h_s_.atm he_1
  refine stP hf rfl rfl rfl (pIA Try.underlying89 sz_94 rfl rfl qa) fun a hf => stE hf hc rfl rfl rfl (eLdN (vs := [.int .i64 e_1.Index.Lo,.int .i64 e_1.Index.Hi,.int .i64 e_1.Delivered.Lo,.int .i64 e_1.Delivered.Hi,.bool e_1.Spill]) ag_94 rfl rfl (cells_pc qp (n := 5) (o' := 0) rfl)) fun a w hf hc => stE hf hc rfl rfl rfl (eC (v := .bool (share_every_share_Year_1 e_1)) (vs := [.agg #[.int .i64 e_1.Index.Lo,.int .i64 e_1.Index.Hi,.int .i64 e_1.Delivered.Lo,.int .i64 e_1.Delivered.Hi,.bool e_1.Spill]]) (caps := [.pointer (some ⟨b_,0,none⟩)]) en_147 rfl rfl rfl rfl (fun w hc => (share_every_share_Year_1_ok e_1 (hc.pick k0) rfl).mono fun e w h => ⟨h.1,(h.2.unpick k0)⟩)) fun a w hf hc => cNil ?_
  refine h10 _ _ ?_
  refine cCond (b := (share_every_share_Year_1 e_1)) hf rfl (fun hb => ?_) (fun hb => ?_)
  ·replace hF := condT hb hF
   clear hb
   refine wp_seq_k fun K11 h11 => cReg ?_
   refine stP hf rfl rfl rfl (pM rfl) fun a hf => stP hf rfl rfl rfl (pA rfl) fun a hf => cNil ?_
   refine h11 _ _ ?_
   refine wp_ret ?_
   refine xBlkR ?_
   refine xThenR ?_
   refine xThenR ?_
   have he := Option.some.inj hF
   rw [← he] at hfin4
   replace hF := ho4 _ hfin4
   refine xBlkR ?_
   refine xThenR ?_
   obtain rfl := hF
   exact fnOut1 (by simp) rfl Try.results156 hf hc (show look _ 4 = _ from rfl) ⟨rfl,hc⟩
  ·replace hF := condF hb hF
   clear hb
   refine wp_skip ?_
   refine h8 _ _ ?_
   refine cReg ?_
   refine stP hf rfl rfl rfl (pAdd rfl rfl) fun a hf => stP hf rfl rfl rfl (pM rfl) fun a hf => cNil ?_
   exact hK4 (W (x + 1)) _ _ (Option.some.inj hF).symm ⟨hf.keep ⟨rfl,rfl,rfl,rfl,trivial⟩,hc⟩
 ·replace hF := condF hb hF
  clear hb
  refine wp_exit ?_
  refine xThen ?_
  refine xThen ?_
  have he := Option.some.inj hF
  rw [← he] at hfin4
  refine cHit ?_
  exact hr4 _ _ _ hfin4 ⟨hf.keep ⟨rfl,rfl,rfl,rfl,trivial⟩,hc⟩

def slices_ContainsFunc_Lshare_Year_share_Year (N : Nat) (s_ : List share_Year) : Option (Bool) :=
 Option.bind (slices_IndexFunc_Lshare_Year_share_Year N s_) fun r =>
 some (decide (0 ≤ r))
theorem slices_ContainsFunc_Lshare_Year_share_Year_ok {N : Nat} {G : Pers} {Lf : List Ent} {w : World} (s_ : List share_Year) {s__p : Option Addr} {s__c : Nat} {b_ : Nat} (h_s_ : Rd G 5 s__p s__c (s_.map enc_share_Year)) (hc : Ctx G (.box b_ [.func (.func 128) #[] #[]] 212::Lf) w) {res : Bool} (hF : slices_ContainsFunc_Lshare_Year_share_Year N s_ = some res) : Calls Try.prog 146 #[.slice s__p s_.length s__c,.func (.func 147) #[] #[.pointer (some ⟨b_,0,none⟩)]] w (fun e w => e = .returned (.bool res) ∧ Ctx G (.box b_ [.func (.func 128) #[] #[]] 212::Lf) w) := by
 unfold slices_ContainsFunc_Lshare_Year_share_Year at hF
 refine fnIn (args := [.slice s__p s_.length s__c,.func (.func 147) #[] #[.pointer (some ⟨b_,0,none⟩)]]) Try.func146 rfl Try.ntmps146 rfl fun a hf => wp_seq_k fun K1 h1 => cReg ?_
 refine stP hf rfl rfl rfl (pA rfl) fun a hf => cNil ?_
 refine h1 _ _ ?_
 refine wp_seq_k fun K2 h2 => cReg ?_
 refine stP hf rfl rfl rfl (pM rfl) fun a hf => stP hf rfl rfl rfl (pM rfl) fun a hf => ?_
 obtain ⟨r,hr,hF⟩ := bnd_some hF
 refine stE hf hc rfl rfl rfl (eC (v := .int .i64 r) (vs := [.slice s__p s_.length s__c,.func (.func 147) #[] #[.pointer (some ⟨b_,0,none⟩)]]) (caps := []) en_156 rfl rfl rfl rfl (fun w hc => (slices_IndexFunc_Lshare_Year_share_Year_ok s_ h_s_ (hc.pick k0) hr).mono fun e w h => ⟨h.1,(h.2.unpick k0)⟩)) fun a w hf hc => stP hf rfl rfl rfl (pGe rfl rfl) fun a hf => stP hf rfl rfl rfl (pA rfl) fun a hf => cNil ?_
 refine h2 _ _ ?_
 refine wp_ret ?_
 obtain rfl := Option.some.inj hF
 exact fnOut1 (by simp) rfl Try.results146 hf hc (show look _ 4 = _ from rfl) ⟨rfl,hc⟩

def share_every_share_Year (N : Nat) (l : List share_Year) : Option (Bool) :=
 Option.bind (slices_ContainsFunc_Lshare_Year_share_Year N l) fun r =>
 some (!r)
theorem share_every_share_Year_ok {N : Nat} {G : Pers} {Lf : List Ent} {w : World} (l : List share_Year) {l_p : Option Addr} {l_c : Nat} (h_l : Rd G 5 l_p l_c (l.map enc_share_Year)) (hc : Ctx G (Lf) w) {res : Bool} (hF : share_every_share_Year N l = some res) : Calls Try.prog 127 #[.slice l_p l.length l_c,.func (.func 128) #[] #[]] w (fun e w => e = .returned (.bool res) ∧ Ctx G (Lf) w) := by
 unfold share_every_share_Year at hF
 refine fnIn (args := [.slice l_p l.length l_c,.func (.func 128) #[] #[]]) Try.func127 rfl Try.ntmps127 rfl fun a hf => wp_seq_k fun K1 h1 => cReg ?_
 refine stBx (cs := [.func (.func 128) #[] #[]]) hf hc rfl rfl rfl rfl fun b_1 a w hf hc => stP hf rfl rfl rfl (pA rfl) fun a hf => cNil ?_
 refine h1 _ _ ?_
 refine wp_seq_k fun K2 h2 => cReg ?_
 refine stP hf rfl rfl rfl (pM rfl) fun a hf => stP hf rfl rfl rfl (pMF (us := [.pointer (some ⟨b_1,0,none⟩)]) rfl rfl) fun a hf => ?_
 obtain ⟨r,hr,hF⟩ := bnd_some hF
 refine stE hf hc rfl rfl rfl (eC (v := .bool r) (vs := [.slice l_p l.length l_c,.func (.func 147) #[] #[.pointer (some ⟨b_1,0,none⟩)]]) (caps := []) en_146 rfl rfl rfl rfl (fun w hc => (slices_ContainsFunc_Lshare_Year_share_Year_ok l h_l (hc.pick k0) hr).mono fun e w h => ⟨h.1,(h.2.unpick k0)⟩)) fun a w hf hc => stP hf rfl rfl rfl (pNot rfl) fun a hf => stP hf rfl rfl rfl (pA rfl) fun a hf => cNil ?_
 refine h2 _ _ ?_
 refine wp_ret ?_
 obtain rfl := Option.some.inj hF
 replace hc := hc.drop k0
 exact fnOut1 (by simp) rfl Try.results127 hf hc (show look _ 4 = _ from rfl) ⟨rfl,hc⟩

def share_asked (N : Nat) (b_ : share_Border) (start : api_Span) (years : List share_Year) : Option (Int) :=
 Option.bind (share_CheckBorder N b_) fun r =>
 cond (r != 0)
 (some r)
 (cond ((!(share_in start.Lo (-1000000000) start.Hi)) || (decide (1000000000 < start.Hi)))
 (some 4)
 (cond (decide (40 < ((years.length : Nat) : Int)))
 (some 3)
 (Option.bind (share_every_share_Year N years) fun r_1 =>
 cond (!r_1)
 (some 100)
 (some 0))))
theorem share_asked_ok {N : Nat} {G : Pers} {Lf : List Ent} {w : World} (b_ : share_Border) (start : api_Span) (years : List share_Year) {b__Table_p : Option Addr} {b__Table_c : Nat} {years_p : Option Addr} {years_c : Nat} (h_b__Table : Rd G 2 b__Table_p b__Table_c (b_.Table.map enc_share_Point)) (h_years : Rd G 5 years_p years_c (years.map enc_share_Year)) (hc : Ctx G (Lf) w) {res : Int} (hF : share_asked N b_ start years = some res) : Calls Try.prog 99 #[.agg #[.slice b__Table_p b_.Table.length b__Table_c,.int .i64 b_.Credit],.agg #[.int .i64 start.Lo,.int .i64 start.Hi],.slice years_p years.length years_c] w (fun e w => e = .returned (.int .i64 res) ∧ Ctx G (Lf) w) := by
 unfold share_asked at hF
 refine fnIn (args := [.agg #[.slice b__Table_p b_.Table.length b__Table_c,.int .i64 b_.Credit],.agg #[.int .i64 start.Lo,.int .i64 start.Hi],.slice years_p years.length years_c]) Try.func99 rfl Try.ntmps99 rfl fun a hf => wp_seq_k fun K1 h1 => cReg ?_
 refine stBx (cs := [.slice b__Table_p b_.Table.length b__Table_c,.int .i64 b_.Credit]) hf hc rfl rfl rfl rfl fun b_1 a w hf hc => stBx (cs := [.int .i64 start.Lo,.int .i64 start.Hi]) hf hc rfl rfl rfl rfl fun b_2 a w hf hc => stP hf rfl rfl rfl (pA rfl) fun a hf => cNil ?_
 refine h1 _ _ ?_
 refine wp_seq_k fun K2 h2 => cReg ?_
 refine stE hf hc rfl rfl rfl (eLdN (vs := [.slice b__Table_p b_.Table.length b__Table_c,.int .i64 b_.Credit]) ag_88 rfl rfl (cells_box (n := 2) m1 rfl)) fun a w hf hc => ?_
 obtain ⟨r,hr,hF⟩ := bnd_some hF
 refine stE hf hc rfl rfl rfl (eC (v := .int .i64 r) (vs := [.agg #[.slice b__Table_p b_.Table.length b__Table_c,.int .i64 b_.Credit]]) (caps := []) en_47 rfl rfl rfl rfl (fun w hc => share_CheckBorder_ok b_ h_b__Table hc hr)) fun a w hf hc => stP hf rfl rfl rfl (pA rfl) fun a hf => cNil ?_
 refine h2 _ _ ?_
 refine wp_seq_k fun K3 h3 => wp_block ?_
 refine wp_seq_k fun K4 h4 => cReg ?_
 refine stP hf rfl rfl rfl (pM rfl) fun a hf => stP hf rfl rfl rfl (pNe rfl rfl) fun a hf => stP hf rfl rfl rfl (pA rfl) fun a hf => cNil ?_
 refine h4 _ _ ?_
 refine cCond (b := (r != 0)) hf rfl (fun hb => ?_) (fun hb => ?_)
 ·replace hF := condT hb hF
  clear hb
  refine wp_seq_k fun K5 h5 => cReg ?_
  refine stP hf rfl rfl rfl (pM rfl) fun a hf => stP hf rfl rfl rfl (pA rfl) fun a hf => cNil ?_
  refine h5 _ _ ?_
  refine wp_ret ?_
  refine xBlkR ?_
  refine xThenR ?_
  obtain rfl := Option.some.inj hF
  replace hc := hc.drop k1
  replace hc := hc.drop k0
  exact fnOut1 (by simp) rfl Try.results99 hf hc (show look _ 6 = _ from rfl) ⟨rfl,hc⟩
 ·replace hF := condF hb hF
  clear hb
  refine wp_seq_k fun K6 h6 => cReg ?_
  refine stP hf rfl rfl rfl (pFA fa_26_0 rfl) fun a hf => stE hf hc rfl rfl rfl (eLd1 sc_3 rfl (cell_box m0 rfl)) fun a w hf hc => stP hf rfl rfl rfl (pFA fa_26_1 rfl) fun a hf => stE hf hc rfl rfl rfl (eLd1 sc_3 rfl (cell_box m0 rfl)) fun a w hf hc => stE hf hc rfl rfl rfl (eC (v := .bool (share_in start.Lo (-1000000000) start.Hi)) (vs := [.int .i64 start.Lo,.int .i64 (-1000000000),.int .i64 start.Hi]) (caps := []) en_70 rfl rfl rfl rfl (fun w hc => share_in_ok start.Lo (-1000000000) start.Hi hc rfl)) fun a w hf hc => stP hf rfl rfl rfl (pNot rfl) fun a hf => stP hf rfl rfl rfl (pM rfl) fun a hf => stCut 4 (fun a w => Has 34 a [(2,.slice years_p years.length years_c),(4,.pointer (some ⟨b_2,0,none⟩)),(15,.pointer (some ⟨b_2,0,none⟩)),(16,.int .i64 start.Lo),(17,.pointer (some ⟨b_2,1,none⟩)),(18,.int .i64 start.Hi),(19,.bool (share_in start.Lo (-1000000000) start.Hi)),(20,.bool (!(share_in start.Lo (-1000000000) start.Hi))),(21,.bool (!(share_in start.Lo (-1000000000) start.Hi))),(25,.bool ((!(share_in start.Lo (-1000000000) start.Hi)) || (decide (1000000000 < start.Hi))))] ∧ Ctx G (.box b_2 [.int .i64 start.Lo,.int .i64 start.Hi] 26::.box b_1 [.slice b__Table_p b_.Table.length b__Table_c,.int .i64 b_.Credit] 88::Lf) w) ?_ ?_
  ·cases hb : (!(share_in start.Lo (-1000000000) start.Hi))
   ·rw [hb] at hf
    refine stP hf rfl rfl rfl (pFA fa_26_1 rfl) fun a hf => stE hf hc rfl rfl rfl (eLd1 sc_3 rfl (cell_box m0 rfl)) fun a w hf hc => stP hf rfl rfl rfl (pGt rfl rfl) fun a hf => stP hf rfl rfl rfl (pPf rfl rfl) fun a hf => cNil ⟨hf.keep ⟨rfl,rfl,rfl,rfl,rfl,rfl,rfl,rfl,rfl,rfl,trivial⟩,hc⟩
   ·rw [hb] at hf
    refine stS hf rfl rfl rfl fun a hf => stS hf rfl rfl rfl fun a hf => stS hf rfl rfl rfl fun a hf => stP hf rfl rfl rfl (pPt rfl rfl) fun a hf => cNil ⟨hf.keep ⟨rfl,rfl,rfl,rfl,rfl,rfl,rfl,rfl,rfl,rfl,trivial⟩,hc⟩
  intro a w ⟨hf,hc⟩
  refine stP hf rfl rfl rfl (pA rfl) fun a hf => cNil ?_
  refine h6 _ _ ?_
  refine cCond (b := ((!(share_in start.Lo (-1000000000) start.Hi)) || (decide (1000000000 < start.Hi)))) hf rfl (fun hb => ?_) (fun hb => ?_)
  ·replace hF := condT hb hF
   clear hb
   refine wp_seq_k fun K7 h7 => cReg ?_
   refine stP hf rfl rfl rfl (pA rfl) fun a hf => cNil ?_
   refine h7 _ _ ?_
   refine wp_ret ?_
   refine xBlkR ?_
   refine xThenR ?_
   obtain rfl := Option.some.inj hF
   replace hc := hc.drop k1
   replace hc := hc.drop k0
   exact fnOut1 (by simp) rfl Try.results99 hf hc (show look _ 6 = _ from rfl) ⟨rfl,hc⟩
  ·replace hF := condF hb hF
   clear hb
   refine wp_seq_k fun K8 h8 => cReg ?_
   refine stP hf rfl rfl rfl (pM rfl) fun a hf => stP hf rfl rfl rfl (pLenS Try.underlying89 rfl) fun a hf => stP hf rfl rfl rfl (pGt rfl rfl) fun a hf => stP hf rfl rfl rfl (pA rfl) fun a hf => cNil ?_
   refine h8 _ _ ?_
   refine cCond (b := (decide (40 < ((years.length : Nat) : Int)))) hf rfl (fun hb => ?_) (fun hb => ?_)
   ·replace hF := condT hb hF
    clear hb
    refine wp_seq_k fun K9 h9 => cReg ?_
    refine stP hf rfl rfl rfl (pA rfl) fun a hf => cNil ?_
    refine h9 _ _ ?_
    refine wp_ret ?_
    refine xBlkR ?_
    refine xThenR ?_
    obtain rfl := Option.some.inj hF
    replace hc := hc.drop k1
    replace hc := hc.drop k0
    exact fnOut1 (by simp) rfl Try.results99 hf hc (show look _ 6 = _ from rfl) ⟨rfl,hc⟩
   ·replace hF := condF hb hF
    clear hb
    refine wp_seq_k fun K10 h10 => cReg ?_
    refine stP hf rfl rfl rfl (pM rfl) fun a hf => ?_
    obtain ⟨r_1,hr_1,hF⟩ := bnd_some hF
    refine stE hf hc rfl rfl rfl (eC (v := .bool r_1) (vs := [.slice years_p years.length years_c,.func (.func 128) #[] #[]]) (caps := []) en_127 rfl rfl rfl rfl (fun w hc => share_every_share_Year_ok years h_years hc hr_1)) fun a w hf hc => stP hf rfl rfl rfl (pNot rfl) fun a hf => stP hf rfl rfl rfl (pA rfl) fun a hf => cNil ?_
    refine h10 _ _ ?_
    refine cCond (b := (!r_1)) hf rfl (fun hb => ?_) (fun hb => ?_)
    ·replace hF := condT hb hF
     clear hb
     refine wp_seq_k fun K11 h11 => cReg ?_
     refine stP hf rfl rfl rfl (pA rfl) fun a hf => cNil ?_
     refine h11 _ _ ?_
     refine wp_ret ?_
     refine xBlkR ?_
     refine xThenR ?_
     obtain rfl := Option.some.inj hF
     replace hc := hc.drop k1
     replace hc := hc.drop k0
     exact fnOut1 (by simp) rfl Try.results99 hf hc (show look _ 6 = _ from rfl) ⟨rfl,hc⟩
    ·replace hF := condF hb hF
     clear hb
     refine wp_skip ?_
     refine h3 _ _ ?_
     refine wp_seq_k fun K12 h12 => cReg ?_
     refine stP hf rfl rfl rfl (pA rfl) fun a hf => cNil ?_
     refine h12 _ _ ?_
     refine wp_ret ?_
     obtain rfl := Option.some.inj hF
     replace hc := hc.drop k1
     replace hc := hc.drop k0
     exact fnOut1 (by simp) rfl Try.results99 hf hc (show look _ 6 = _ from rfl) ⟨rfl,hc⟩

def share_Border_goes (N : Nat) (b_ : share_Border) (debt : Int) : Option ((Int → Option Int) × Int × Int) :=
 some ((fun _ => none : Int → Option Int),b_.Credit,debt)
theorem share_Border_goes_ok {N : Nat} {G : Pers} {Lf : List Ent} {w : World} (b_ : share_Border) (debt : Int) {b__Table_p : Option Addr} {b__Table_c : Nat} (h_b__Table : Rd G 2 b__Table_p b__Table_c (b_.Table.map enc_share_Point)) (hc : Ctx G (Lf) w) {res : (Int → Option Int) × Int × Int} (hF : share_Border_goes N b_ debt = some res) : Calls Try.prog 100 #[.agg #[.slice b__Table_p b_.Table.length b__Table_c,.int .i64 b_.Credit],.int .i64 debt] w (fun e w => ∃ (b'1 : Nat) (b'2 : Nat) (b'3 : Nat) (b'4 : Nat),e = .returned (.func (.func 129) #[] #[.pointer (some ⟨b'1,0,none⟩),.pointer (some ⟨b'3,0,none⟩),.pointer (some ⟨b'4,0,none⟩)]) ∧ Ctx G (.im b'2 (fun j => (res.1 j).map (Value.int .i64)) none::.box b'1 [.map (some b'2)] 213::.box b'3 [.slice b__Table_p b_.Table.length b__Table_c,.int .i64 res.2.1] 88::.box b'4 [.int .i64 res.2.2] 3::Lf) w) := by
 unfold share_Border_goes at hF
 refine fnIn (args := [.agg #[.slice b__Table_p b_.Table.length b__Table_c,.int .i64 b_.Credit],.int .i64 debt]) Try.func100 rfl Try.ntmps100 rfl fun a hf => wp_seq_k fun K1 h1 => cReg ?_
 refine stBx (cs := [.slice b__Table_p b_.Table.length b__Table_c,.int .i64 b_.Credit]) hf hc rfl rfl rfl rfl fun b_1 a w hf hc => stBx (cs := [.int .i64 debt]) hf hc rfl rfl rfl rfl fun b_2 a w hf hc => stP hf rfl rfl rfl (pA rfl) fun a hf => cNil ?_
 refine h1 _ _ ?_
 refine wp_seq_k fun K2 h2 => cReg ?_
 refine stMM hf hc rfl rfl fun mb a w hf hc => ?_
 replace hc : Ctx _ (.im mb (fun j => ((fun _ => none : Int → Option Int) j).map (Value.int .i64)) none::_) w := hc
 refine stAl (cs := [.map none]) hf hc rfl rfl zr_213 rfl fun b_3 a w hf hc => stSt (vs := [.map (some mb)]) hf hc rfl rfl rfl rfl sz_213 rfl rfl u0 fun w hc => cNil ?_
 refine h2 _ _ ?_
 refine wp_seq_k fun K3 h3 => cReg ?_
 refine stP hf rfl rfl rfl (pMF (us := [.pointer (some ⟨b_3,0,none⟩),.pointer (some ⟨b_1,0,none⟩),.pointer (some ⟨b_2,0,none⟩)]) rfl rfl) fun a hf => stP hf rfl rfl rfl (pA rfl) fun a hf => cNil ?_
 refine h3 _ _ ?_
 refine wp_ret ?_
 obtain rfl := Option.some.inj hF
 replace hc := hc.pick k2
 replace hc := hc.pick k3
 replace hc := hc.pick k2
 replace hc := hc.pick k3
 exact fnOut1 (by simp) rfl Try.results100 hf hc (show look _ 4 = _ from rfl) ⟨b_3,mb,b_1,b_2,rfl,hc⟩

def share_low  : Unit :=
 ()
theorem share_low_ok {G : Pers} {Lf : List Ent} {w : World}    (hc : Ctx G (Lf) w) {res : Unit} (hF : share_low = res) : Calls Try.prog 103 #[] w (fun e w => e = .returned (.agg #[.func (.func 130) #[] #[],.func (.func 131) #[] #[]]) ∧ Ctx G (Lf) w) := by
 unfold share_low at hF
 refine fnIn (args := []) Try.func103 rfl Try.ntmps103 rfl fun a hf => wp_seq_k fun K1 h1 => cReg ?_
 refine stAl (cs := [.nilFunc,.nilFunc]) hf hc rfl rfl zr_192 rfl fun b_1 a w hf hc => cNil ?_
 refine h1 _ _ ?_
 refine wp_seq_k fun K2 h2 => cReg ?_
 refine stP hf rfl rfl rfl (pBuildS (cells := [.func (.func 130) #[] #[],.func (.func 131) #[] #[]]) bt_192 rfl rfl) fun a hf => stSt (vs := [.func (.func 130) #[] #[],.func (.func 131) #[] #[]]) hf hc rfl rfl rfl rfl sz_192 rfl rfl u0 fun w hc => cNil ?_
 refine h2 _ _ ?_
 refine wp_ret ?_
 obtain rfl := hF
 exact fnOut1 (by simp) rfl Try.results103 hf hc (rv_cellN (vs := [.func (.func 130) #[] #[],.func (.func 131) #[] #[]]) ag_192 rfl rfl (cells_box (n := 2) m0 rfl)) ⟨rfl,(hc.drop k0)⟩

def share_high  : Unit :=
 ()
theorem share_high_ok {G : Pers} {Lf : List Ent} {w : World}    (hc : Ctx G (Lf) w) {res : Unit} (hF : share_high = res) : Calls Try.prog 104 #[] w (fun e w => e = .returned (.agg #[.func (.func 132) #[] #[],.func (.func 133) #[] #[]]) ∧ Ctx G (Lf) w) := by
 unfold share_high at hF
 refine fnIn (args := []) Try.func104 rfl Try.ntmps104 rfl fun a hf => wp_seq_k fun K1 h1 => cReg ?_
 refine stAl (cs := [.nilFunc,.nilFunc]) hf hc rfl rfl zr_192 rfl fun b_1 a w hf hc => cNil ?_
 refine h1 _ _ ?_
 refine wp_seq_k fun K2 h2 => cReg ?_
 refine stP hf rfl rfl rfl (pBuildS (cells := [.func (.func 132) #[] #[],.func (.func 133) #[] #[]]) bt_192 rfl rfl) fun a hf => stSt (vs := [.func (.func 132) #[] #[],.func (.func 133) #[] #[]]) hf hc rfl rfl rfl rfl sz_192 rfl rfl u0 fun w hc => cNil ?_
 refine h2 _ _ ?_
 refine wp_ret ?_
 obtain rfl := hF
 exact fnOut1 (by simp) rfl Try.results104 hf hc (rv_cellN (vs := [.func (.func 132) #[] #[],.func (.func 133) #[] #[]]) ag_192 rfl rfl (cells_box (n := 2) m0 rfl)) ⟨rfl,(hc.drop k0)⟩

def share_low_1 (s_ : api_Span) : Int :=
 s_.Lo
theorem share_low_1_ok {G : Pers} {Lf : List Ent} {w : World} (s_ : api_Span)   (hc : Ctx G (Lf) w) {res : Int} (hF : share_low_1 s_ = res) : Calls Try.prog 130 #[.agg #[.int .i64 s_.Lo,.int .i64 s_.Hi]] w (fun e w => e = .returned (.int .i64 res) ∧ Ctx G (Lf) w) := by
 unfold share_low_1 at hF
 refine fnIn (args := [.agg #[.int .i64 s_.Lo,.int .i64 s_.Hi]]) Try.func130 rfl Try.ntmps130 rfl fun a hf => wp_seq_k fun K1 h1 => cReg ?_
 refine stBx (cs := [.int .i64 s_.Lo,.int .i64 s_.Hi]) hf hc rfl rfl rfl rfl fun b_1 a w hf hc => stP hf rfl rfl rfl (pA rfl) fun a hf => cNil ?_
 refine h1 _ _ ?_
 refine wp_seq_k fun K2 h2 => cReg ?_
 refine stP hf rfl rfl rfl (pFA fa_26_0 rfl) fun a hf => stE hf hc rfl rfl rfl (eLd1 sc_3 rfl (cell_box m0 rfl)) fun a w hf hc => stP hf rfl rfl rfl (pA rfl) fun a hf => cNil ?_
 refine h2 _ _ ?_
 refine wp_ret ?_
 obtain rfl := hF
 replace hc := hc.drop k0
 exact fnOut1 (by simp) rfl Try.results130 hf hc (show look _ 2 = _ from rfl) ⟨rfl,hc⟩

def share_low_2 (s_ : api_Span) : Int :=
 s_.Hi
theorem share_low_2_ok {G : Pers} {Lf : List Ent} {w : World} (s_ : api_Span)   (hc : Ctx G (Lf) w) {res : Int} (hF : share_low_2 s_ = res) : Calls Try.prog 131 #[.agg #[.int .i64 s_.Lo,.int .i64 s_.Hi]] w (fun e w => e = .returned (.int .i64 res) ∧ Ctx G (Lf) w) := by
 unfold share_low_2 at hF
 refine fnIn (args := [.agg #[.int .i64 s_.Lo,.int .i64 s_.Hi]]) Try.func131 rfl Try.ntmps131 rfl fun a hf => wp_seq_k fun K1 h1 => cReg ?_
 refine stBx (cs := [.int .i64 s_.Lo,.int .i64 s_.Hi]) hf hc rfl rfl rfl rfl fun b_1 a w hf hc => stP hf rfl rfl rfl (pA rfl) fun a hf => cNil ?_
 refine h1 _ _ ?_
 refine wp_seq_k fun K2 h2 => cReg ?_
 refine stP hf rfl rfl rfl (pFA fa_26_1 rfl) fun a hf => stE hf hc rfl rfl rfl (eLd1 sc_3 rfl (cell_box m0 rfl)) fun a w hf hc => stP hf rfl rfl rfl (pA rfl) fun a hf => cNil ?_
 refine h2 _ _ ?_
 refine wp_ret ?_
 obtain rfl := hF
 replace hc := hc.drop k0
 exact fnOut1 (by simp) rfl Try.results131 hf hc (show look _ 2 = _ from rfl) ⟨rfl,hc⟩

def share_Border_due_1 (p_ : share_Point) (x : Int) : Bool :=
 (decide (x < p_.Index))
theorem share_Border_due_1_ok {G : Pers} {Lf : List Ent} {w : World} (p_ : share_Point) (x : Int) {b_ : Nat}  (hc : Ctx G (.box b_ [.int .i64 x] 3::Lf) w) {res : Bool} (hF : share_Border_due_1 p_ x = res) : Calls Try.prog 126 #[.agg #[.int .i64 p_.Index,.int .i64 p_.Due],.pointer (some ⟨b_,0,none⟩)] w (fun e w => e = .returned (.bool res) ∧ Ctx G (.box b_ [.int .i64 x] 3::Lf) w) := by
 unfold share_Border_due_1 at hF
 refine fnIn (args := [.agg #[.int .i64 p_.Index,.int .i64 p_.Due],.pointer (some ⟨b_,0,none⟩)]) Try.func126 rfl Try.ntmps126 rfl fun a hf => wp_seq_k fun K1 h1 => cReg ?_
 refine stBx (cs := [.int .i64 p_.Index,.int .i64 p_.Due]) hf hc rfl rfl rfl rfl fun b_1 a w hf hc => stP hf rfl rfl rfl (pA rfl) fun a hf => cNil ?_
 refine h1 _ _ ?_
 refine wp_seq_k fun K2 h2 => cReg ?_
 refine stP hf rfl rfl rfl (pFA fa_116_0 rfl) fun a hf => stE hf hc rfl rfl rfl (eLd1 sc_3 rfl (cell_box m0 rfl)) fun a w hf hc => stE hf hc rfl rfl rfl (eLd1 sc_3 rfl (cell_box m1 rfl)) fun a w hf hc => stP hf rfl rfl rfl (pGt rfl rfl) fun a hf => stP hf rfl rfl rfl (pA rfl) fun a hf => cNil ?_
 refine h2 _ _ ?_
 refine wp_ret ?_
 obtain rfl := hF
 replace hc := hc.drop k0
 exact fnOut1 (by simp) rfl Try.results126 hf hc (show look _ 3 = _ from rfl) ⟨rfl,hc⟩

def slices_IndexFunc_Lshare_Point_share_Point_s2_b4 (N : Nat) (s_ : List share_Point) (f_ : Int) (x : Int) : Option (Step (Int) (Int)) :=
 cond (decide (x < ((s_.length : Nat) : Int)))
 (Option.bind (getI s_ x) fun e_1 =>
 cond (share_Border_due_1 e_1 f_)
 (some (.ret x))
 (some (.cont (W (x + 1)))))
 (some (.brk x))
def slices_IndexFunc_Lshare_Point_share_Point_s2 (N : Nat) (s_ : List share_Point) (f_ : Int) : Option (Int) :=
 Option.bind (loopO (fun s4 => slices_IndexFunc_Lshare_Point_share_Point_s2_b4 N s_ f_ s4) N 0) fun x4 =>
 exK x4 (fun s4 => some (-1)) some
theorem slices_IndexFunc_Lshare_Point_share_Point_s2_ok {N : Nat} {G : Pers} {Lf : List Ent} {w : World} (s_ : List share_Point) (f_ : Int) {s__p : Option Addr} {s__c : Nat} {b_ : Nat} (h_s_ : Rd G 2 s__p s__c (s_.map enc_share_Point)) (hc : Ctx G (.box b_ [.int .i64 f_] 3::Lf) w) {res : Int} (hF : slices_IndexFunc_Lshare_Point_share_Point_s2 N s_ f_ = some res) : Calls Try.prog 125 #[.slice s__p s_.length s__c,.func (.func 126) #[] #[.pointer (some ⟨b_,0,none⟩)]] w (fun e w => e = .returned (.int .i64 res) ∧ Ctx G (.box b_ [.int .i64 f_] 3::Lf) w) := by
 unfold slices_IndexFunc_Lshare_Point_share_Point_s2 at hF
 refine fnIn (args := [.slice s__p s_.length s__c,.func (.func 126) #[] #[.pointer (some ⟨b_,0,none⟩)]]) Try.func125 rfl Try.ntmps125 rfl fun a hf => wp_seq_k fun K1 h1 => cReg ?_
 refine stP hf rfl rfl rfl (pA rfl) fun a hf => cNil ?_
 refine h1 _ _ ?_
 refine wp_seq_k fun K2 h2 => wp_seq_k fun K3 h3 => cReg ?_
 refine stP hf rfl rfl rfl (pM rfl) fun a hf => stP hf rfl rfl rfl (pLenS Try.underlying86 rfl) fun a hf => stP hf rfl rfl rfl (pM rfl) fun a hf => cNil ?_
 refine h3 _ _ ?_
 refine wp_block ?_
 obtain ⟨x4,hx4,hF⟩ := bnd_some hF
 let S4 : Int → Act → World → Prop := (fun (zz : Int) a w => Has 19 a [(0,.slice s__p s_.length s__c),(1,.func (.func 126) #[] #[.pointer (some ⟨b_,0,none⟩)]),(7,.int .i64 ((s_.length : Nat) : Int)),(8,.int .i64 zz)] ∧ Ctx G (.box b_ [.int .i64 f_] 3::Lf) w)
 have hr4 : ∀ (zz : Int) a w,x4 = .go zz → S4 zz a w → K2 a w := by
  rintro x a w rfl ⟨hf,hc⟩
  replace hF := exK_go hF
  refine h2 _ _ ?_
  refine wp_seq_k fun K5 h5 => cReg ?_
  refine stP hf rfl rfl rfl (pA rfl) fun a hf => cNil ?_
  refine h5 _ _ ?_
  refine wp_ret ?_
  obtain rfl := Option.some.inj hF
  exact fnOut1 (by simp) rfl Try.results125 hf hc (show look _ 4 = _ from rfl) ⟨rfl,hc⟩
 have ho4 : ∀ r,x4 = .out r → r = res := by
  rintro r rfl
  exact Option.some.inj hF
 refine cLoop N (loopW (S := S4) (x := x4) ?_ N 0 _ _ ⟨hf.keep ⟨rfl,rfl,rfl,rfl,trivial⟩,hc⟩ hx4)
 clear hF hf hc
 rintro x st4 a w KB4 ⟨hf,hc⟩ hF hfin4 hK4
 unfold slices_IndexFunc_Lshare_Point_share_Point_s2_b4 at hF
 refine wp_seq_k fun K6 h6 => cReg ?_
 refine stP hf rfl rfl rfl (pLt rfl rfl) fun a hf => cNil ?_
 refine h6 _ _ ?_
 refine wp_seq_k fun K7 h7 => cCond (b := (decide (x < ((s_.length : Nat) : Int)))) hf rfl (fun hb => ?_) (fun hb => ?_)
 ·replace hF := condT hb hF
  clear hb
  refine wp_skip ?_
  refine h7 _ _ ?_
  refine wp_seq_k fun K8 h8 => wp_block ?_
  refine wp_seq_k fun K9 h9 => cReg ?_
  refine stP hf rfl rfl rfl (pM rfl) fun a hf => stP hf rfl rfl rfl (pA rfl) fun a hf => cNil ?_
  refine h9 _ _ ?_
  refine wp_seq_k fun K10 h10 => cReg ?_
  refine stP hf rfl rfl rfl (pM rfl) fun a hf => stP hf rfl rfl rfl (pM rfl) fun a hf => stP hf rfl rfl rfl (pM rfl) fun a hf => ?_
  obtain ⟨e_1,he_1,hF⟩ := bnd_some hF
  obtain ⟨b_1,o,qa,qp⟩ := h_s_.atm he_1
  refine stP hf rfl rfl rfl (pIA Try.underlying86 sz_116 rfl rfl qa) fun a hf => stE hf hc rfl rfl rfl (eLdN (vs := [.int .i64 e_1.Index,.int .i64 e_1.Due]) ag_116 rfl rfl (cells_pc qp (n := 2) (o' := 0) rfl)) fun a w hf hc => stE hf hc rfl rfl rfl (eC (v := .bool (share_Border_due_1 e_1 f_)) (vs := [.agg #[.int .i64 e_1.Index,.int .i64 e_1.Due]]) (caps := [.pointer (some ⟨b_,0,none⟩)]) en_126 rfl rfl rfl rfl (fun w hc => (share_Border_due_1_ok e_1 f_ (hc.pick k0) rfl).mono fun e w h => ⟨h.1,(h.2.unpick k0)⟩)) fun a w hf hc => cNil ?_
  refine h10 _ _ ?_
  refine cCond (b := (share_Border_due_1 e_1 f_)) hf rfl (fun hb => ?_) (fun hb => ?_)
  ·replace hF := condT hb hF
   clear hb
   refine wp_seq_k fun K11 h11 => cReg ?_
   refine stP hf rfl rfl rfl (pM rfl) fun a hf => stP hf rfl rfl rfl (pA rfl) fun a hf => cNil ?_
   refine h11 _ _ ?_
   refine wp_ret ?_
   refine xBlkR ?_
   refine xThenR ?_
   refine xThenR ?_
   have he := Option.some.inj hF
   rw [← he] at hfin4
   replace hF := ho4 _ hfin4
   refine xBlkR ?_
   refine xThenR ?_
   obtain rfl := hF
   exact fnOut1 (by simp) rfl Try.results125 hf hc (show look _ 4 = _ from rfl) ⟨rfl,hc⟩
  ·replace hF := condF hb hF
   clear hb
   refine wp_skip ?_
   refine h8 _ _ ?_
   refine cReg ?_
   refine stP hf rfl rfl rfl (pAdd rfl rfl) fun a hf => stP hf rfl rfl rfl (pM rfl) fun a hf => cNil ?_
   exact hK4 (W (x + 1)) _ _ (Option.some.inj hF).symm ⟨hf.keep ⟨rfl,rfl,rfl,rfl,trivial⟩,hc⟩
 ·replace hF := condF hb hF
  clear hb
  refine wp_exit ?_
  refine xThen ?_
  refine xThen ?_
  have he := Option.some.inj hF
  rw [← he] at hfin4
  refine cHit ?_
  exact hr4 _ _ _ hfin4 ⟨hf.keep ⟨rfl,rfl,rfl,rfl,trivial⟩,hc⟩

def share_Border_due (N : Nat) (b_ : share_Border) (index : Int) : Option (Int) :=
 Option.bind (slices_IndexFunc_Lshare_Point_share_Point_s2 N b_.Table index) fun r =>
 cond (r == 0)
 (Option.bind (getI b_.Table 0) fun e_1 =>
 some e_1.Due)
 (cond (r == (-1))
 (Option.bind (getI b_.Table (W (((b_.Table.length : Nat) : Int) - 1))) fun e_2 =>
 some e_2.Due)
 (Option.bind (getI b_.Table (W (r - 1))) fun e_3 =>
 Option.bind (getI b_.Table r) fun e_4 =>
 Option.bind (nz (W (e_4.Index - e_3.Index))) fun un =>
 some (W (e_3.Due + (W ((W ((W (e_4.Due - e_3.Due)) * (W (index - e_3.Index)))).tdiv (W (e_4.Index - e_3.Index))))))))
theorem share_Border_due_ok {N : Nat} {G : Pers} {Lf : List Ent} {w : World} (b_ : share_Border) (index : Int) {b__Table_p : Option Addr} {b__Table_c : Nat} (h_b__Table : Rd G 2 b__Table_p b__Table_c (b_.Table.map enc_share_Point)) (hc : Ctx G (Lf) w) {res : Int} (hF : share_Border_due N b_ index = some res) : Calls Try.prog 97 #[.agg #[.slice b__Table_p b_.Table.length b__Table_c,.int .i64 b_.Credit],.int .i64 index] w (fun e w => e = .returned (.int .i64 res) ∧ Ctx G (Lf) w) := by
 unfold share_Border_due at hF
 refine fnIn (args := [.agg #[.slice b__Table_p b_.Table.length b__Table_c,.int .i64 b_.Credit],.int .i64 index]) Try.func97 rfl Try.ntmps97 rfl fun a hf => wp_seq_k fun K1 h1 => cReg ?_
 refine stBx (cs := [.slice b__Table_p b_.Table.length b__Table_c,.int .i64 b_.Credit]) hf hc rfl rfl rfl rfl fun b_1 a w hf hc => stBx (cs := [.int .i64 index]) hf hc rfl rfl rfl rfl fun b_2 a w hf hc => stP hf rfl rfl rfl (pA rfl) fun a hf => cNil ?_
 refine h1 _ _ ?_
 refine wp_seq_k fun K2 h2 => cReg ?_
 refine stP hf rfl rfl rfl (pFA fa_88_0 rfl) fun a hf => stE hf hc rfl rfl rfl (eLd1 sc_86 rfl (cell_box m1 rfl)) fun a w hf hc => stP hf rfl rfl rfl (pMF (us := [.pointer (some ⟨b_2,0,none⟩)]) rfl rfl) fun a hf => ?_
 obtain ⟨r,hr,hF⟩ := bnd_some hF
 refine stE hf hc rfl rfl rfl (eC (v := .int .i64 r) (vs := [.slice b__Table_p b_.Table.length b__Table_c,.func (.func 126) #[] #[.pointer (some ⟨b_2,0,none⟩)]]) (caps := []) en_125 rfl rfl rfl rfl (fun w hc => (slices_IndexFunc_Lshare_Point_share_Point_s2_ok b_.Table index h_b__Table (hc.pick k0) hr).mono fun e w h => ⟨h.1,(h.2.unpick k0)⟩)) fun a w hf hc => stP hf rfl rfl rfl (pA rfl) fun a hf => cNil ?_
 refine h2 _ _ ?_
 refine wp_seq_k fun K3 h3 => wp_seq_k fun K4 h4 => cReg ?_
 refine stP hf rfl rfl rfl (pM rfl) fun a hf => cNil ?_
 refine h4 _ _ ?_
 refine wp_block ?_
 refine wp_seq_k fun K5 h5 => cReg ?_
 refine stP hf rfl rfl rfl (pEq rfl rfl) fun a hf => stP hf rfl rfl rfl (pA rfl) fun a hf => cNil ?_
 refine h5 _ _ ?_
 refine cCond (b := (r == 0)) hf rfl (fun hb => ?_) (fun hb => ?_)
 ·replace hF := condT hb hF
  clear hb
  refine wp_seq_k fun K6 h6 => cReg ?_
  refine stP hf rfl rfl rfl (pFA fa_88_0 rfl) fun a hf => stE hf hc rfl rfl rfl (eLd1 sc_86 rfl (cell_box m1 rfl)) fun a w hf hc => ?_
  obtain ⟨e_1,he_1,hF⟩ := bnd_some hF
  obtain ⟨b_3,o,qa,qp⟩ := h_b__Table.atm he_1
  refine stP hf rfl rfl rfl (pIA Try.underlying86 sz_116 rfl rfl qa) fun a hf => stP hf rfl rfl rfl (pFA fa_116_1 rfl) fun a hf => stE hf hc rfl rfl rfl (eLd1 sc_3 rfl (cell_pc (j := 1) qp rfl)) fun a w hf hc => stP hf rfl rfl rfl (pA rfl) fun a hf => cNil ?_
  refine h6 _ _ ?_
  refine wp_ret ?_
  refine xBlkR ?_
  refine xThenR ?_
  obtain rfl := Option.some.inj hF
  replace hc := hc.drop k1
  replace hc := hc.drop k0
  exact fnOut1 (by simp) rfl Try.results97 hf hc (show look _ 4 = _ from rfl) ⟨rfl,hc⟩
 ·replace hF := condF hb hF
  clear hb
  refine wp_seq_k fun K7 h7 => cReg ?_
  refine stP hf rfl rfl rfl (pEq rfl rfl) fun a hf => stP hf rfl rfl rfl (pA rfl) fun a hf => cNil ?_
  refine h7 _ _ ?_
  refine cCond (b := (r == (-1))) hf rfl (fun hb => ?_) (fun hb => ?_)
  ·replace hF := condT hb hF
   clear hb
   refine wp_seq_k fun K8 h8 => cReg ?_
   refine stP hf rfl rfl rfl (pFA fa_88_0 rfl) fun a hf => stE hf hc rfl rfl rfl (eLd1 sc_86 rfl (cell_box m1 rfl)) fun a w hf hc => stP hf rfl rfl rfl (pFA fa_88_0 rfl) fun a hf => stE hf hc rfl rfl rfl (eLd1 sc_86 rfl (cell_box m1 rfl)) fun a w hf hc => stP hf rfl rfl rfl (pLenS Try.underlying86 rfl) fun a hf => stP hf rfl rfl rfl (pSub rfl rfl) fun a hf => ?_
   obtain ⟨e_2,he_2,hF⟩ := bnd_some hF
   obtain ⟨b_4,o_1,qa_1,qp_1⟩ := h_b__Table.atm he_2
   refine stP hf rfl rfl rfl (pIA Try.underlying86 sz_116 rfl rfl qa_1) fun a hf => stP hf rfl rfl rfl (pFA fa_116_1 rfl) fun a hf => stE hf hc rfl rfl rfl (eLd1 sc_3 rfl (cell_pc (j := 1) qp_1 rfl)) fun a w hf hc => stP hf rfl rfl rfl (pA rfl) fun a hf => cNil ?_
   refine h8 _ _ ?_
   refine wp_ret ?_
   refine xBlkR ?_
   refine xThenR ?_
   obtain rfl := Option.some.inj hF
   replace hc := hc.drop k1
   replace hc := hc.drop k0
   exact fnOut1 (by simp) rfl Try.results97 hf hc (show look _ 4 = _ from rfl) ⟨rfl,hc⟩
  ·replace hF := condF hb hF
   clear hb
   refine wp_skip ?_
   refine h3 _ _ ?_
   refine wp_seq_k fun K9 h9 => ?_
   obtain ⟨e_3,he_3,hF⟩ := bnd_some hF
   obtain ⟨b_5,o_2,qa_2,qp_2⟩ := h_b__Table.atm he_3
   obtain ⟨e_4,he_4,hF⟩ := bnd_some hF
   obtain ⟨b_6,o_3,qa_3,qp_3⟩ := h_b__Table.atm he_4
   replace hc := hc.nilRow 0 0
   replace hc := hc.nilRow 0 0
   refine regionE (fun θ => [⟨none,none,2,.pointer (some ⟨b_1,0,none⟩)⟩,⟨none,none,3,.pointer (some ⟨b_2,0,none⟩)⟩,⟨none,none,5,.int .i64 r⟩,⟨some 0,none,31,.pointer (some ⟨b_1,0,none⟩)⟩,⟨some 1,none,32,.slice b__Table_p b_.Table.length b__Table_c⟩,⟨some 2,none,33,.int .i64 r⟩,⟨some 3,none,34,.int .i64 (W (r - 1))⟩,⟨some 4,none,35,.pointer (some ⟨b_5,o_2,none⟩)⟩,⟨some 5,none,36,.agg #[.int .i64 e_3.Index,.int .i64 e_3.Due]⟩,⟨some 6,none,37,.pointer (some ⟨b_1,0,none⟩)⟩,⟨some 7,none,38,.slice b__Table_p b_.Table.length b__Table_c⟩,⟨some 8,none,39,.int .i64 r⟩,⟨some 9,none,40,.pointer (some ⟨b_6,o_3,none⟩)⟩,⟨some 10,none,41,.agg #[.int .i64 e_4.Index,.int .i64 e_4.Due]⟩,⟨some 11,none,6,.pointer (some ⟨(θ 88).b,0,none⟩)⟩,⟨some 12,none,7,.pointer (some ⟨(θ 96).b,0,none⟩)⟩]) (fun E θ => (bif E 14 then .box (θ 96).b [.int .i64 e_4.Index,.int .i64 e_4.Due] 116 else bif E 12 then .box (θ 96).b [.int .i64 0,.int .i64 0] 116 else .row none 0 [] 0 0)::(bif E 13 then .box (θ 88).b [.int .i64 e_3.Index,.int .i64 e_3.Due] 116 else bif E 11 then .box (θ 88).b [.int .i64 0,.int .i64 0] 116 else .row none 0 [] 0 0)::.box b_2 [.int .i64 index] 3::.box b_1 [.slice b__Table_p b_.Table.length b__Table_c,.int .i64 b_.Credit] 88::Lf) [(13,11),(14,12)] (fun a w => ∃ (b_9 : Nat) (b_10 : Nat),Has 61 a [(3,.pointer (some ⟨b_2,0,none⟩)),(6,.pointer (some ⟨b_9,0,none⟩)),(7,.pointer (some ⟨b_10,0,none⟩))] ∧ Ctx G (.box b_10 [.int .i64 e_4.Index,.int .i64 e_4.Due] 116::.box b_9 [.int .i64 e_3.Index,.int .i64 e_3.Due] 116::.box b_2 [.int .i64 index] 3::.box b_1 [.slice b__Table_p b_.Table.length b__Table_c,.int .i64 b_.Credit] 88::Lf) w) follows_mx (by kernel_rfl) (by kernel_rfl) (HasE.of hf ⟨rfl,rfl,rfl,trivial,trivial,trivial,trivial,trivial,trivial,trivial,trivial,trivial,trivial,trivial,trivial,trivial,trivial⟩) hc ⟨?_,?_,?_,?_,?_,?_,?_,?_,?_,?_,?_,?_,?_,?_,?_,trivial⟩ ?_ ?_
   ·intro E θ a w hD hi hp he hc
    have hf := he.h0
    replace hf := hf.more he 0 rfl onT
    refine stP hf rfl rfl rfl (pFA fa_88_0 rfl) fun a hf => cNil ?_
    refine xThenN ?_
    intro ds u hau
    refine ⟨θ,he.put0 hi hau hf rfl 3 rfl rfl,?_⟩
    exact hc
   ·intro E θ a w hD hi hp he hc
    have e0 := hp.of (k := 0) rfl
    have hf := he.h0
    replace hf := hf.more he 3 rfl (onP e0)
    refine stE hf hc rfl rfl rfl (eLd1 sc_86 rfl (cell_box m3 rfl)) fun a w hf hc => cNil ?_
    refine xThenN ?_
    intro ds u hau
    refine ⟨θ,he.put0 hi hau hf rfl 4 rfl rfl,?_⟩
    exact hc
   ·intro E θ a w hD hi hp he hc
    have hf := he.h0
    replace hf := hf.more he 2 rfl onT
    refine stP hf rfl rfl rfl (pM rfl) fun a hf => cNil ?_
    refine xThenN ?_
    intro ds u hau
    refine ⟨θ,he.put0 hi hau hf rfl 5 rfl rfl,?_⟩
    exact hc
   ·intro E θ a w hD hi hp he hc
    have e2 := hp.of (k := 2) rfl
    have hf := he.h0
    replace hf := hf.more he 5 rfl (onP e2)
    refine stP hf rfl rfl rfl (pSub rfl rfl) fun a hf => cNil ?_
    refine xThenN ?_
    intro ds u hau
    refine ⟨θ,he.put0 hi hau hf rfl 6 rfl rfl,?_⟩
    exact hc
   ·intro E θ a w hD hi hp he hc
    have e1 := hp.of (k := 1) rfl
    have e3 := hp.of (k := 3) rfl
    have hf := he.h0
    replace hf := hf.more he 4 rfl (onP e1)
    replace hf := hf.more he 6 rfl (onP e3)
    refine stP hf rfl rfl rfl (pIA Try.underlying86 sz_116 rfl rfl qa_2) fun a hf => cNil ?_
    refine xThenN ?_
    intro ds u hau
    refine ⟨θ,he.put0 hi hau hf rfl 7 rfl rfl,?_⟩
    exact hc
   ·intro E θ a w hD hi hp he hc
    have e4 := hp.of (k := 4) rfl
    have hf := he.h0
    replace hf := hf.more he 7 rfl (onP e4)
    refine stE hf hc rfl rfl rfl (eLdN (vs := [.int .i64 e_3.Index,.int .i64 e_3.Due]) ag_116 rfl rfl (cells_pc qp_2 (n := 2) (o' := 0) rfl)) fun a w hf hc => cNil ?_
    refine xThenN ?_
    intro ds u hau
    refine ⟨θ,he.put0 hi hau hf rfl 8 rfl rfl,?_⟩
    exact hc
   ·intro E θ a w hD hi hp he hc
    have hf := he.h0
    replace hf := hf.more he 0 rfl onT
    refine stP hf rfl rfl rfl (pFA fa_88_0 rfl) fun a hf => cNil ?_
    refine xThenN ?_
    intro ds u hau
    refine ⟨θ,he.put0 hi hau hf rfl 9 rfl rfl,?_⟩
    exact hc
   ·intro E θ a w hD hi hp he hc
    have e6 := hp.of (k := 6) rfl
    have hf := he.h0
    replace hf := hf.more he 9 rfl (onP e6)
    refine stE hf hc rfl rfl rfl (eLd1 sc_86 rfl (cell_box m3 rfl)) fun a w hf hc => cNil ?_
    refine xThenN ?_
    intro ds u hau
    refine ⟨θ,he.put0 hi hau hf rfl 10 rfl rfl,?_⟩
    exact hc
   ·intro E θ a w hD hi hp he hc
    have hf := he.h0
    replace hf := hf.more he 2 rfl onT
    refine stP hf rfl rfl rfl (pM rfl) fun a hf => cNil ?_
    refine xThenN ?_
    intro ds u hau
    refine ⟨θ,he.put0 hi hau hf rfl 11 rfl rfl,?_⟩
    exact hc
   ·intro E θ a w hD hi hp he hc
    have e7 := hp.of (k := 7) rfl
    have e8 := hp.of (k := 8) rfl
    have hf := he.h0
    replace hf := hf.more he 10 rfl (onP e7)
    replace hf := hf.more he 11 rfl (onP e8)
    refine stP hf rfl rfl rfl (pIA Try.underlying86 sz_116 rfl rfl qa_3) fun a hf => cNil ?_
    refine xThenN ?_
    intro ds u hau
    refine ⟨θ,he.put0 hi hau hf rfl 12 rfl rfl,?_⟩
    exact hc
   ·intro E θ a w hD hi hp he hc
    have e9 := hp.of (k := 9) rfl
    have hf := he.h0
    replace hf := hf.more he 12 rfl (onP e9)
    refine stE hf hc rfl rfl rfl (eLdN (vs := [.int .i64 e_4.Index,.int .i64 e_4.Due]) ag_116 rfl rfl (cells_pc qp_3 (n := 2) (o' := 0) rfl)) fun a w hf hc => cNil ?_
    refine xThenN ?_
    intro ds u hau
    refine ⟨θ,he.put0 hi hau hf rfl 13 rfl rfl,?_⟩
    exact hc
   ·intro E θ a w hD hi hp he hc
    have e13 := hD.f 0 rfl hi
    try dsimp only at hc
    rw [hi,e13] at hc
    have hf := he.h0
    refine stAl (cs := [.int .i64 0,.int .i64 0]) hf hc rfl rfl zr_116 rfl fun b_7 a w hf hc => cNil ?_
    refine xThenN ?_
    intro ds u hau
    replace hc := hc.drop k2
    replace hc := hc.pick k0
    replace hc := hc.pick k1
    refine ⟨(setT θ 88 ⟨b_7,none,0,(fun _ => (none,0))⟩),he.put hi hau hf rfl [] trivial ⟨qq,qq,qq,qq,qq,qq,qq,qq,qq,qq,qq,qq,qq,qq,qq,qq,trivial⟩,?_⟩
    try dsimp only
    rw [updE_self E 11,updE_fls 11 e13 rfl]
    exact hc
   ·intro E θ a w hD hi hp he hc
    have e14 := hD.f 1 rfl hi
    try dsimp only at hc
    rw [hi,e14] at hc
    have hf := he.h0
    refine stAl (cs := [.int .i64 0,.int .i64 0]) hf hc rfl rfl zr_116 rfl fun b_8 a w hf hc => cNil ?_
    refine xThenN ?_
    intro ds u hau
    replace hc := hc.drop k1
    refine ⟨(setT θ 96 ⟨b_8,none,0,(fun _ => (none,0))⟩),he.put hi hau hf rfl [] trivial ⟨qq,qq,qq,qq,qq,qq,qq,qq,qq,qq,qq,qq,qq,qq,qq,qq,trivial⟩,?_⟩
    try dsimp only
    rw [updE_self E 12,updE_fls 12 e14 rfl]
    exact hc
   ·intro E θ a w hD hi hp he hc
    have e5 := hp.of (k := 5) rfl
    have e11 := hp.of (k := 11) rfl
    try dsimp only at hc
    rw [e11,hi] at hc
    have hf := he.h0
    replace hf := hf.more he 8 rfl (onP e5)
    replace hf := hf.more he 14 rfl (onP e11)
    refine stSt (vs := [.int .i64 e_3.Index,.int .i64 e_3.Due]) hf hc rfl rfl rfl rfl sz_116 rfl rfl u1 fun w hc => cNil ?_
    refine xThenN ?_
    intro ds u hau
    refine ⟨θ,he.stay0 hi hau hf rfl,?_⟩
    try dsimp only
    rw [updE_tru 13 e11,updE_self E 13]
    exact hc
   ·intro E θ a w hD hi hp he hc
    have e10 := hp.of (k := 10) rfl
    have e12 := hp.of (k := 12) rfl
    try dsimp only at hc
    rw [e12,hi] at hc
    have hf := he.h0
    replace hf := hf.more he 13 rfl (onP e10)
    replace hf := hf.more he 15 rfl (onP e12)
    refine stSt (vs := [.int .i64 e_4.Index,.int .i64 e_4.Due]) hf hc rfl rfl rfl rfl sz_116 rfl rfl u0 fun w hc => cNil ?_
    refine xThenN ?_
    intro ds u hau
    refine ⟨θ,he.stay0 hi hau hf rfl,?_⟩
    try dsimp only
    rw [updE_tru 14 e12,updE_self E 14]
    exact hc
   ·intro E θ a w hall he hc
    have hf := he.h0
    have e11 := hall 11 rfl
    have e12 := hall 12 rfl
    have e13 := hall 13 rfl
    have e14 := hall 14 rfl
    replace hf := hf.more he 15 rfl (onP e12)
    replace hf := hf.more he 14 rfl (onP e11)
    replace hf := hf.more he 1 rfl (onT)
    try dsimp only at hc
    rw [e11,e12,e13,e14] at hc
    exact ⟨(θ 88).b,(θ 96).b,hf.keep ⟨rfl,rfl,rfl,trivial⟩,hc⟩
   rintro a w ⟨b_9,b_10,hf,hc⟩
   refine h9 _ _ ?_
   refine wp_seq_k fun K10 h10 => ?_
   obtain ⟨un,hun,hF⟩ := bnd_some hF
   refine cQ hc follows_mx (by kernel_rfl) ?_
   refine qE hf rfl rfl rfl (Pu.ev (pFA fa_116_1 rfl)) fun a hf => qE hf rfl rfl rfl (eLd1 sc_3 rfl (cell_box m1 rfl)) fun a hf => qE hf rfl rfl rfl (Pu.ev (pFA fa_116_1 rfl)) fun a hf => qE hf rfl rfl rfl (eLd1 sc_3 rfl (cell_box m0 rfl)) fun a hf => qE hf rfl rfl rfl (Pu.ev (pFA fa_116_1 rfl)) fun a hf => qE hf rfl rfl rfl (eLd1 sc_3 rfl (cell_box m1 rfl)) fun a hf => qE hf rfl rfl rfl (Pu.ev (pSub rfl rfl)) fun a hf => qE hf rfl rfl rfl (eLd1 sc_3 rfl (cell_box m2 rfl)) fun a hf => qE hf rfl rfl rfl (Pu.ev (pFA fa_116_0 rfl)) fun a hf => qE hf rfl rfl rfl (eLd1 sc_3 rfl (cell_box m1 rfl)) fun a hf => qE hf rfl rfl rfl (Pu.ev (pSub rfl rfl)) fun a hf => qE hf rfl rfl rfl (Pu.ev (pMul rfl rfl)) fun a hf => qE hf rfl rfl rfl (Pu.ev (pFA fa_116_0 rfl)) fun a hf => ?_
   refine qE hf rfl rfl rfl (eLd1 sc_3 rfl (cell_box m0 rfl)) fun a hf => qE hf rfl rfl rfl (Pu.ev (pFA fa_116_0 rfl)) fun a hf => qE hf rfl rfl rfl (eLd1 sc_3 rfl (cell_box m1 rfl)) fun a hf => qE hf rfl rfl rfl (Pu.ev (pSub rfl rfl)) fun a hf => qE hf rfl rfl rfl (Pu.ev (pQuo rfl rfl (nz_spec hun))) fun a hf => qE hf rfl rfl rfl (Pu.ev (pAdd rfl rfl)) fun a hf => qE hf rfl rfl rfl (Pu.ev (pA rfl)) fun a hf => ?_
   intro w hc
   refine h10 _ _ ?_
   refine wp_ret ?_
   obtain rfl := Option.some.inj hF
   replace hc := hc.drop k3
   replace hc := hc.drop k2
   replace hc := hc.drop k1
   replace hc := hc.drop k0
   exact fnOut1 (by simp) rfl Try.results97 hf hc (show look _ 4 = _ from rfl) ⟨rfl,hc⟩

end Go.Nilo
