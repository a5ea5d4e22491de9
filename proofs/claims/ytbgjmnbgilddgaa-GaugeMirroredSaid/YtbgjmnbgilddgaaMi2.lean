/-
  What functions of the Go text compute, as plain functions, and that they do, part 2 of 4. Conditions: what each theorem names.
-/
import Derived.Test.YtbgjmnbgilddgaaMi1
import Derived.Test.YtbgjmnbgilddgaaProg
set_option linter.unusedVariables false
set_option maxRecDepth 100000
set_option maxHeartbeats 4000000
namespace Go.Nilo
open Go.Proofs


def gauge_heavy_j9 (N : Nat) (x : Int) (out_1 : List Int) : Option (Step ((List Int) × Int) ((List Int))) :=
  some (.cont (out_1, W (x + 1)))
def gauge_heavy_j18 (N : Nat) (x_1 : Int) (all_1 : Int) : Option (Step (Int × Int) (Step ((List Int) × Int) ((List Int)))) :=
  some (.cont (all_1, W (x_1 + 1)))
def gauge_heavy_b14 (N : Nat) (l : List api_Span) (x : Int) (all : Int) (x_1 : Int) : Option (Step (Int × Int) (Step ((List Int) × Int) ((List Int)))) :=
  cond (decide (x_1 < ((l.length : Nat) : Int)))
  (Option.bind (getI l x_1) fun e_2 =>
  cond (x_1 == x)
  (gauge_heavy_j18 N x_1 (W (all + (gauge_high_1 e_2))))
  (gauge_heavy_j18 N x_1 (W (all + (gauge_low_1 e_2)))))
  (some (.brk (all, x_1)))
def gauge_heavy_b5 (N : Nat) (l : List api_Span) (permille : Int) (out : List Int) (x : Int) : Option (Step ((List Int) × Int) ((List Int))) :=
  cond (decide (x < ((l.length : Nat) : Int)))
  (Option.bind (loopO (fun s14 => gauge_heavy_b14 N l x s14.1 s14.2) N (0, 0)) fun x14 =>
  exK x14 (fun s14 => Option.bind (getI l x) fun e_1 =>
  cond (decide ((W (permille * s14.1)) < (W (1000 * (gauge_high_1 e_1)))))
  (Option.bind (room ((out ++ [x])).length) fun un =>
  gauge_heavy_j9 N x (out ++ [x]))
  (gauge_heavy_j9 N x out)) some)
  (some (.brk (out, x)))
def gauge_heavy (N : Nat) (l : List api_Span) (permille : Int) : Option ((List Int)) :=
  Option.bind (loopO (fun s5 => gauge_heavy_b5 N l permille s5.1 s5.2) N (([] : List Int), 0)) fun x5 =>
  exK x5 (fun s5 => some s5.1) some
theorem gauge_heavy_ok {N : Nat} {G : Pers} {Lf : List Ent} {w : World} (l : List api_Span) (permille : Int) {l_p : Option Addr} {l_c : Nat} (h_l : Rd G 2 l_p l_c (l.map enc_api_Span)) (hc : Ctx G (Lf) w) {res : (List Int)} (hF : gauge_heavy N l permille = some res) : Calls Try.prog 63 #[.slice l_p l.length l_c, .int .i64 permille, .agg #[.func (.func 97) #[] #[]], .agg #[.func (.func 98) #[] #[]]] w (fun e w => ∃ (p'1 : Option Addr) (c'1 : Nat), e = .returned (.slice p'1 res.length c'1) ∧ Ctx G (.row p'1 c'1 (res.map encI_i64) 3 1 :: Lf) w) := by
  unfold gauge_heavy at hF
  refine fnIn (args := [.slice l_p l.length l_c, .int .i64 permille, .agg #[.func (.func 97) #[] #[]], .agg #[.func (.func 98) #[] #[]]]) Try.func63 rfl Try.ntmps63 rfl fun a hf => ?_
  refine wp_seq_k fun K1 h1 => ?_
  refine cReg ?_
  refine stBx (cs := [.func (.func 97) #[] #[]]) hf hc rfl rfl rfl rfl fun b_1 a w hf hc => ?_
  refine stBx (cs := [.func (.func 98) #[] #[]]) hf hc rfl rfl rfl rfl fun b_2 a w hf hc => ?_
  refine stP hf rfl rfl rfl (pA rfl) fun a hf => ?_
  refine cNil ?_
  refine h1 _ _ ?_
  refine wp_seq_k fun K2 h2 => ?_
  refine cReg ?_
  refine stP hf rfl rfl rfl (pA rfl) fun a hf => ?_
  refine cNil ?_
  refine h2 _ _ ?_
  refine wp_seq_k fun K3 h3 => ?_
  refine wp_seq_k fun K4 h4 => ?_
  refine cReg ?_
  refine stP hf rfl rfl rfl (pM rfl) fun a hf => ?_
  refine stP hf rfl rfl rfl (pLenS Try.underlying72 rfl) fun a hf => ?_
  refine stP hf rfl rfl rfl (pM rfl) fun a hf => ?_
  refine cNil ?_
  refine h4 _ _ ?_
  refine wp_block ?_
  obtain ⟨x5, hx5, hF⟩ := bnd_some hF
  let S5 : ((List Int) × Int) → Act → World → Prop := (fun (zz : (List Int) × Int) a w => ∃ (p_1 : Option Addr) (c_1 : Nat), Has 60 a [(0, .slice l_p l.length l_c), (1, .int .i64 permille), (6, .pointer (some ⟨b_1, 0, none⟩)), (7, .pointer (some ⟨b_2, 0, none⟩)), (9, .slice p_1 zz.1.length c_1), (15, .int .i64 ((l.length : Nat) : Int)), (16, .int .i64 zz.2)] ∧ Ctx G (.row p_1 c_1 (zz.1.map encI_i64) 3 1 :: .box b_2 [.func (.func 98) #[] #[]] 120 :: .box b_1 [.func (.func 97) #[] #[]] 120 :: Lf) w)
  have hr5 : ∀ (zz : (List Int) × Int) a w, x5 = .go zz → S5 zz a w → K3 a w := by
    rintro ⟨out, x⟩ a w rfl ⟨p_1, c_1, hf, hc⟩
    replace hF : _ = some res := hF
    refine h3 _ _ ?_
    refine wp_seq_k fun K6 h6 => ?_
    refine cReg ?_
    refine stP hf rfl rfl rfl (pM rfl) fun a hf => ?_
    refine stP hf rfl rfl rfl (pA rfl) fun a hf => ?_
    refine cNil ?_
    refine h6 _ _ ?_
    refine wp_ret ?_
    obtain rfl := Option.some.inj hF
    replace hc := hc.drop k2
    replace hc := hc.drop k1
    exact fnOut1 (by simp) rfl Try.results63 hf hc (show look _ 8 = _ from rfl) ⟨p_1, c_1, rfl, hc⟩
  have ho5 : ∀ r, x5 = .out r → r = res := by
    rintro r rfl
    exact Option.some.inj hF
  replace hc := hc.nilRow 3 1
  refine cLoop N (loopW (S := S5) (x := x5) ?_ N (([] : List Int), 0) _ _ ⟨none, 0, hf.keep ⟨rfl, rfl, rfl, rfl, rfl, rfl, rfl, trivial⟩, hc⟩ hx5)
  clear hF hf hc
  rintro ⟨out, x⟩ st5 a w KB5 ⟨p_1, c_1, hf, hc⟩ hF hfin5 hK5
  unfold gauge_heavy_b5 at hF
  refine wp_seq_k fun K7 h7 => ?_
  refine cReg ?_
  refine stP hf rfl rfl rfl (pLt rfl rfl) fun a hf => ?_
  refine cNil ?_
  refine h7 _ _ ?_
  refine wp_seq_k fun K8 h8 => ?_
  refine cCond (b := (decide (x < ((l.length : Nat) : Int)))) hf rfl (fun hb => ?_) (fun hb => ?_)
  · replace hF := condT hb hF
    clear hb
    refine wp_skip ?_
    refine h8 _ _ ?_
    refine wp_seq_k fun K9 h9 => ?_
    have hj9 : ∀ (out_1 : List Int) (p_2 : Option Addr) (c_2 : Nat) a w, Has 60 a [(0, .slice l_p l.length l_c), (1, .int .i64 permille), (6, .pointer (some ⟨b_1, 0, none⟩)), (7, .pointer (some ⟨b_2, 0, none⟩)), (9, .slice p_2 out_1.length c_2), (15, .int .i64 ((l.length : Nat) : Int)), (16, .int .i64 x)] → Ctx G (.row p_2 c_2 (out_1.map encI_i64) 3 1 :: .box b_2 [.func (.func 98) #[] #[]] 120 :: .box b_1 [.func (.func 97) #[] #[]] 120 :: Lf) w → gauge_heavy_j9 N x out_1 = some st5 → K9 a w := by
      intro out_1 p_2 c_2 a w hf hc hF
      unfold gauge_heavy_j9 at hF
      refine h9 _ _ ?_
      refine cReg ?_
      refine stP hf rfl rfl rfl (pAdd rfl rfl) fun a hf => ?_
      refine stP hf rfl rfl rfl (pM rfl) fun a hf => ?_
      refine cNil ?_
      exact hK5 (out_1, W (x + 1)) _ _ (Option.some.inj hF).symm ⟨p_2, c_2, hf.keep ⟨rfl, rfl, rfl, rfl, rfl, rfl, rfl, trivial⟩, hc⟩
    refine wp_block ?_
    refine wp_seq_k fun K10 h10 => ?_
    refine cReg ?_
    refine stP hf rfl rfl rfl (pM rfl) fun a hf => ?_
    refine stP hf rfl rfl rfl (pA rfl) fun a hf => ?_
    refine cNil ?_
    refine h10 _ _ ?_
    refine wp_seq_k fun K11 h11 => ?_
    refine cReg ?_
    refine stP hf rfl rfl rfl (pA rfl) fun a hf => ?_
    refine cNil ?_
    refine h11 _ _ ?_
    refine wp_seq_k fun K12 h12 => ?_
    refine wp_seq_k fun K13 h13 => ?_
    refine cReg ?_
    refine stP hf rfl rfl rfl (pM rfl) fun a hf => ?_
    refine stP hf rfl rfl rfl (pLenS Try.underlying72 rfl) fun a hf => ?_
    refine stP hf rfl rfl rfl (pM rfl) fun a hf => ?_
    refine cNil ?_
    refine h13 _ _ ?_
    refine wp_block ?_
    obtain ⟨x14, hx14, hF⟩ := bnd_some hF
    let S14 : (Int × Int) → Act → World → Prop := (fun (zz : Int × Int) a w => Has 60 a [(0, .slice l_p l.length l_c), (1, .int .i64 permille), (6, .pointer (some ⟨b_1, 0, none⟩)), (7, .pointer (some ⟨b_2, 0, none⟩)), (9, .slice p_1 out.length c_1), (10, .int .i64 x), (11, .int .i64 zz.1), (15, .int .i64 ((l.length : Nat) : Int)), (16, .int .i64 x), (19, .slice l_p l.length l_c), (20, .int .i64 ((l.length : Nat) : Int)), (21, .int .i64 zz.2)] ∧ Ctx G (.row p_1 c_1 (out.map encI_i64) 3 1 :: .box b_2 [.func (.func 98) #[] #[]] 120 :: .box b_1 [.func (.func 97) #[] #[]] 120 :: Lf) w)
    have hr14 : ∀ (zz : Int × Int) a w, x14 = .go zz → S14 zz a w → K12 a w := by
      rintro ⟨all, x_1⟩ a w rfl ⟨hf, hc⟩
      replace hF : _ = some st5 := hF
      refine h12 _ _ ?_
      refine wp_seq_k fun K15 h15 => ?_
      obtain ⟨e_1, he_1, hF⟩ := bnd_some hF
      obtain ⟨b_3, o, qa, qp⟩ := h_l.atm he_1
      refine cQ hc follows_mx (by kernel_rfl) ?_
      refine qE hf rfl rfl rfl (Pu.ev (pFA fa_120_0 rfl)) fun a hf => ?_
      refine qE hf rfl rfl rfl (eLd1 sc_118 rfl (cell_box m2 rfl)) fun a hf => ?_
      refine qE hf rfl rfl rfl (Pu.ev (pM rfl)) fun a hf => ?_
      refine qE hf rfl rfl rfl (Pu.ev (pM rfl)) fun a hf => ?_
      refine qE hf rfl rfl rfl (Pu.ev (pIA Try.underlying72 sz_24 rfl rfl qa)) fun a hf => ?_
      refine qE hf rfl rfl rfl (eLdN (vs := [.int .i64 e_1.Lo, .int .i64 e_1.Hi]) ag_24 rfl rfl (cells_pc qp (n := 2) (o' := 0) rfl)) fun a hf => ?_
      refine qE hf rfl rfl rfl (eC (v := .int .i64 (gauge_high_1 e_1)) (vs := [.agg #[.int .i64 e_1.Lo, .int .i64 e_1.Hi]]) (caps := []) en_97 rfl rfl rfl rfl (fun w hc => gauge_high_1_ok e_1 hc rfl)) fun a hf => ?_
      refine qE hf rfl rfl rfl (Pu.ev (pMul rfl rfl)) fun a hf => ?_
      refine qE hf rfl rfl rfl (Pu.ev (pM rfl)) fun a hf => ?_
      refine qE hf rfl rfl rfl (Pu.ev (pM rfl)) fun a hf => ?_
      refine qE hf rfl rfl rfl (Pu.ev (pMul rfl rfl)) fun a hf => ?_
      refine qE hf rfl rfl rfl (Pu.ev (pGt rfl rfl)) fun a hf => ?_
      intro w hc
      refine h15 _ _ ?_
      refine cCond (b := (decide ((W (permille * all)) < (W (1000 * (gauge_high_1 e_1)))))) hf rfl (fun hb => ?_) (fun hb => ?_)
      · replace hF := condT hb hF
        clear hb
        refine cReg ?_
        refine stP hf rfl rfl rfl (pM rfl) fun a hf => ?_
        refine stP hf rfl rfl rfl (pM rfl) fun a hf => ?_
        refine stBS (rows := ([x] : List Int).map encI_i64) (vs := [(0, .int .i64 x)]) hf hc rfl rfl sl_43 rfl ⟨rfl, rfl, rfl, trivial⟩ rfl rfl fun b_4 a w hf hc => ?_
        obtain ⟨un, hun, hF⟩ := bnd_some hF
        refine stApm (xs := out) (ys := ([x] : List Int)) hf hc rfl rfl sl_43 rfl rfl rfl rfl rfl one_encI_i64 (src_row hc m0) (fun _ _ => u1) (by simpa using room_spec hun) fun p_3 c_3 a w hf hc => ?_
        refine stP hf rfl rfl rfl (pA rfl) fun a hf => ?_
        refine cNil ?_
        replace hc := hc.drop k0
        exact hj9 (out ++ [x]) p_3 c_3 _ _  (hf.keep ⟨rfl, rfl, rfl, rfl, rfl, rfl, rfl, trivial⟩) hc hF
      · replace hF := condF hb hF
        clear hb
        refine wp_skip ?_
        exact hj9 out p_1 c_1 _ _  (hf.keep ⟨rfl, rfl, rfl, rfl, rfl, rfl, rfl, trivial⟩) hc hF
    have ho14 : ∀ r, x14 = .out r → r = st5 := by
      rintro r rfl
      exact Option.some.inj hF
    refine cLoop N (loopW (S := S14) (x := x14) ?_ N (0, 0) _ _ ⟨hf.keep ⟨rfl, rfl, rfl, rfl, rfl, rfl, rfl, rfl, rfl, rfl, rfl, rfl, trivial⟩, hc⟩ hx14)
    clear hF hf hc
    rintro ⟨all, x_1⟩ st14 a w KB14 ⟨hf, hc⟩ hF hfin14 hK14
    unfold gauge_heavy_b14 at hF
    refine wp_seq_k fun K16 h16 => ?_
    refine cReg ?_
    refine stP hf rfl rfl rfl (pLt rfl rfl) fun a hf => ?_
    refine cNil ?_
    refine h16 _ _ ?_
    refine wp_seq_k fun K17 h17 => ?_
    refine cCond (b := (decide (x_1 < ((l.length : Nat) : Int)))) hf rfl (fun hb => ?_) (fun hb => ?_)
    · replace hF := condT hb hF
      clear hb
      refine wp_skip ?_
      refine h17 _ _ ?_
      refine wp_seq_k fun K18 h18 => ?_
      have hj18 : ∀ (all_1 : Int) a w, Has 60 a [(0, .slice l_p l.length l_c), (1, .int .i64 permille), (6, .pointer (some ⟨b_1, 0, none⟩)), (7, .pointer (some ⟨b_2, 0, none⟩)), (9, .slice p_1 out.length c_1), (10, .int .i64 x), (11, .int .i64 all_1), (15, .int .i64 ((l.length : Nat) : Int)), (16, .int .i64 x), (19, .slice l_p l.length l_c), (20, .int .i64 ((l.length : Nat) : Int)), (21, .int .i64 x_1)] → Ctx G (.row p_1 c_1 (out.map encI_i64) 3 1 :: .box b_2 [.func (.func 98) #[] #[]] 120 :: .box b_1 [.func (.func 97) #[] #[]] 120 :: Lf) w → gauge_heavy_j18 N x_1 all_1 = some st14 → K18 a w := by
        intro all_1 a w hf hc hF
        unfold gauge_heavy_j18 at hF
        refine h18 _ _ ?_
        refine cReg ?_
        refine stP hf rfl rfl rfl (pAdd rfl rfl) fun a hf => ?_
        refine stP hf rfl rfl rfl (pM rfl) fun a hf => ?_
        refine cNil ?_
        exact hK14 (all_1, W (x_1 + 1)) _ _ (Option.some.inj hF).symm ⟨hf.keep ⟨rfl, rfl, rfl, rfl, rfl, rfl, rfl, rfl, rfl, rfl, rfl, rfl, trivial⟩, hc⟩
      refine wp_block ?_
      refine wp_seq_k fun K19 h19 => ?_
      refine cReg ?_
      refine stP hf rfl rfl rfl (pM rfl) fun a hf => ?_
      obtain ⟨e_2, he_2, hF⟩ := bnd_some hF
      obtain ⟨b_5, o_1, qa_1, qp_1⟩ := h_l.atm he_2
      refine stP hf rfl rfl rfl (pIA Try.underlying72 sz_24 rfl rfl qa_1) fun a hf => ?_
      refine stE hf hc rfl rfl rfl (eLdN (vs := [.int .i64 e_2.Lo, .int .i64 e_2.Hi]) ag_24 rfl rfl (cells_pc qp_1 (n := 2) (o' := 0) rfl)) fun a w hf hc => ?_
      refine stAl (cs := [.int .i64 0, .int .i64 0]) hf hc rfl rfl zr_24 rfl fun b_6 a w hf hc => ?_
      refine stP hf rfl rfl rfl (pA rfl) fun a hf => ?_
      refine stSt (vs := [.int .i64 e_2.Lo, .int .i64 e_2.Hi]) hf hc rfl rfl rfl rfl sz_24 rfl rfl u0 fun w hc => ?_
      refine cNil ?_
      refine h19 _ _ ?_
      refine wp_seq_k fun K20 h20 => ?_
      refine cReg ?_
      refine stP hf rfl rfl rfl (pM rfl) fun a hf => ?_
      refine stP hf rfl rfl rfl (pM rfl) fun a hf => ?_
      refine stP hf rfl rfl rfl (pEq rfl rfl) fun a hf => ?_
      refine cNil ?_
      refine h20 _ _ ?_
      refine cCond (b := (x_1 == x)) hf rfl (fun hb => ?_) (fun hb => ?_)
      · replace hF := condT hb hF
        clear hb
        refine cReg ?_
        refine stP hf rfl rfl rfl (pM rfl) fun a hf => ?_
        refine stP hf rfl rfl rfl (pFA fa_120_0 rfl) fun a hf => ?_
        refine stE hf hc rfl rfl rfl (eLd1 sc_118 rfl (cell_box m3 rfl)) fun a w hf hc => ?_
        refine stE hf hc rfl rfl rfl (eLdN (vs := [.int .i64 e_2.Lo, .int .i64 e_2.Hi]) ag_24 rfl rfl (cells_box (n := 2) m0 rfl)) fun a w hf hc => ?_
        refine stE hf hc rfl rfl rfl (eC (v := .int .i64 (gauge_high_1 e_2)) (vs := [.agg #[.int .i64 e_2.Lo, .int .i64 e_2.Hi]]) (caps := []) en_97 rfl rfl rfl rfl (fun w hc => gauge_high_1_ok e_2 hc rfl)) fun a w hf hc => ?_
        refine stP hf rfl rfl rfl (pAdd rfl rfl) fun a hf => ?_
        refine stP hf rfl rfl rfl (pA rfl) fun a hf => ?_
        refine cNil ?_
        replace hc := hc.drop k0
        exact hj18 (W (all + (gauge_high_1 e_2))) _ _  (hf.keep ⟨rfl, rfl, rfl, rfl, rfl, rfl, rfl, rfl, rfl, rfl, rfl, rfl, trivial⟩) hc hF
      · replace hF := condF hb hF
        clear hb
        refine cReg ?_
        refine stP hf rfl rfl rfl (pM rfl) fun a hf => ?_
        refine stP hf rfl rfl rfl (pFA fa_120_0 rfl) fun a hf => ?_
        refine stE hf hc rfl rfl rfl (eLd1 sc_118 rfl (cell_box m2 rfl)) fun a w hf hc => ?_
        refine stE hf hc rfl rfl rfl (eLdN (vs := [.int .i64 e_2.Lo, .int .i64 e_2.Hi]) ag_24 rfl rfl (cells_box (n := 2) m0 rfl)) fun a w hf hc => ?_
        refine stE hf hc rfl rfl rfl (eC (v := .int .i64 (gauge_low_1 e_2)) (vs := [.agg #[.int .i64 e_2.Lo, .int .i64 e_2.Hi]]) (caps := []) en_98 rfl rfl rfl rfl (fun w hc => gauge_low_1_ok e_2 hc rfl)) fun a w hf hc => ?_
        refine stP hf rfl rfl rfl (pAdd rfl rfl) fun a hf => ?_
        refine stP hf rfl rfl rfl (pA rfl) fun a hf => ?_
        refine cNil ?_
        replace hc := hc.drop k0
        exact hj18 (W (all + (gauge_low_1 e_2))) _ _  (hf.keep ⟨rfl, rfl, rfl, rfl, rfl, rfl, rfl, rfl, rfl, rfl, rfl, rfl, trivial⟩) hc hF
    · replace hF := condF hb hF
      clear hb
      refine wp_exit ?_
      refine xThen ?_
      refine xThen ?_
      have he := Option.some.inj hF
      rw [← he] at hfin14
      refine cHit ?_
      exact hr14 _ _ _ hfin14 ⟨hf.keep ⟨rfl, rfl, rfl, rfl, rfl, rfl, rfl, rfl, rfl, rfl, rfl, rfl, trivial⟩, hc⟩
  · replace hF := condF hb hF
    clear hb
    refine wp_exit ?_
    refine xThen ?_
    refine xThen ?_
    have he := Option.some.inj hF
    rw [← he] at hfin5
    refine cHit ?_
    exact hr5 _ _ _ hfin5 ⟨p_1, c_1, hf.keep ⟨rfl, rfl, rfl, rfl, rfl, rfl, rfl, trivial⟩, hc⟩

def gauge_heavy_s2_j9 (N : Nat) (x : Int) (out_1 : List Int) : Option (Step ((List Int) × Int) ((List Int))) :=
  some (.cont (out_1, W (x + 1)))
def gauge_heavy_s2_j18 (N : Nat) (x_1 : Int) (all_1 : Int) : Option (Step (Int × Int) (Step ((List Int) × Int) ((List Int)))) :=
  some (.cont (all_1, W (x_1 + 1)))
def gauge_heavy_s2_b14 (N : Nat) (l : List api_Span) (x : Int) (all : Int) (x_1 : Int) : Option (Step (Int × Int) (Step ((List Int) × Int) ((List Int)))) :=
  cond (decide (x_1 < ((l.length : Nat) : Int)))
  (Option.bind (getI l x_1) fun e_2 =>
  cond (x_1 == x)
  (gauge_heavy_s2_j18 N x_1 (W (all + (gauge_low_1 e_2))))
  (gauge_heavy_s2_j18 N x_1 (W (all + (gauge_high_1 e_2)))))
  (some (.brk (all, x_1)))
def gauge_heavy_s2_b5 (N : Nat) (l : List api_Span) (permille : Int) (out : List Int) (x : Int) : Option (Step ((List Int) × Int) ((List Int))) :=
  cond (decide (x < ((l.length : Nat) : Int)))
  (Option.bind (loopO (fun s14 => gauge_heavy_s2_b14 N l x s14.1 s14.2) N (0, 0)) fun x14 =>
  exK x14 (fun s14 => Option.bind (getI l x) fun e_1 =>
  cond (decide ((W (permille * s14.1)) < (W (1000 * (gauge_low_1 e_1)))))
  (Option.bind (room ((out ++ [x])).length) fun un =>
  gauge_heavy_s2_j9 N x (out ++ [x]))
  (gauge_heavy_s2_j9 N x out)) some)
  (some (.brk (out, x)))
def gauge_heavy_s2 (N : Nat) (l : List api_Span) (permille : Int) : Option ((List Int)) :=
  Option.bind (loopO (fun s5 => gauge_heavy_s2_b5 N l permille s5.1 s5.2) N (([] : List Int), 0)) fun x5 =>
  exK x5 (fun s5 => some s5.1) some
theorem gauge_heavy_s2_ok {N : Nat} {G : Pers} {Lf : List Ent} {w : World} (l : List api_Span) (permille : Int) {l_p : Option Addr} {l_c : Nat} (h_l : Rd G 2 l_p l_c (l.map enc_api_Span)) (hc : Ctx G (Lf) w) {res : (List Int)} (hF : gauge_heavy_s2 N l permille = some res) : Calls Try.prog 63 #[.slice l_p l.length l_c, .int .i64 permille, .agg #[.func (.func 98) #[] #[]], .agg #[.func (.func 97) #[] #[]]] w (fun e w => ∃ (p'1 : Option Addr) (c'1 : Nat), e = .returned (.slice p'1 res.length c'1) ∧ Ctx G (.row p'1 c'1 (res.map encI_i64) 3 1 :: Lf) w) := by
  unfold gauge_heavy_s2 at hF
  refine fnIn (args := [.slice l_p l.length l_c, .int .i64 permille, .agg #[.func (.func 98) #[] #[]], .agg #[.func (.func 97) #[] #[]]]) Try.func63 rfl Try.ntmps63 rfl fun a hf => ?_
  refine wp_seq_k fun K1 h1 => ?_
  refine cReg ?_
  refine stBx (cs := [.func (.func 98) #[] #[]]) hf hc rfl rfl rfl rfl fun b_1 a w hf hc => ?_
  refine stBx (cs := [.func (.func 97) #[] #[]]) hf hc rfl rfl rfl rfl fun b_2 a w hf hc => ?_
  refine stP hf rfl rfl rfl (pA rfl) fun a hf => ?_
  refine cNil ?_
  refine h1 _ _ ?_
  refine wp_seq_k fun K2 h2 => ?_
  refine cReg ?_
  refine stP hf rfl rfl rfl (pA rfl) fun a hf => ?_
  refine cNil ?_
  refine h2 _ _ ?_
  refine wp_seq_k fun K3 h3 => ?_
  refine wp_seq_k fun K4 h4 => ?_
  refine cReg ?_
  refine stP hf rfl rfl rfl (pM rfl) fun a hf => ?_
  refine stP hf rfl rfl rfl (pLenS Try.underlying72 rfl) fun a hf => ?_
  refine stP hf rfl rfl rfl (pM rfl) fun a hf => ?_
  refine cNil ?_
  refine h4 _ _ ?_
  refine wp_block ?_
  obtain ⟨x5, hx5, hF⟩ := bnd_some hF
  let S5 : ((List Int) × Int) → Act → World → Prop := (fun (zz : (List Int) × Int) a w => ∃ (p_1 : Option Addr) (c_1 : Nat), Has 60 a [(0, .slice l_p l.length l_c), (1, .int .i64 permille), (6, .pointer (some ⟨b_1, 0, none⟩)), (7, .pointer (some ⟨b_2, 0, none⟩)), (9, .slice p_1 zz.1.length c_1), (15, .int .i64 ((l.length : Nat) : Int)), (16, .int .i64 zz.2)] ∧ Ctx G (.row p_1 c_1 (zz.1.map encI_i64) 3 1 :: .box b_2 [.func (.func 97) #[] #[]] 120 :: .box b_1 [.func (.func 98) #[] #[]] 120 :: Lf) w)
  have hr5 : ∀ (zz : (List Int) × Int) a w, x5 = .go zz → S5 zz a w → K3 a w := by
    rintro ⟨out, x⟩ a w rfl ⟨p_1, c_1, hf, hc⟩
    replace hF : _ = some res := hF
    refine h3 _ _ ?_
    refine wp_seq_k fun K6 h6 => ?_
    refine cReg ?_
    refine stP hf rfl rfl rfl (pM rfl) fun a hf => ?_
    refine stP hf rfl rfl rfl (pA rfl) fun a hf => ?_
    refine cNil ?_
    refine h6 _ _ ?_
    refine wp_ret ?_
    obtain rfl := Option.some.inj hF
    replace hc := hc.drop k2
    replace hc := hc.drop k1
    exact fnOut1 (by simp) rfl Try.results63 hf hc (show look _ 8 = _ from rfl) ⟨p_1, c_1, rfl, hc⟩
  have ho5 : ∀ r, x5 = .out r → r = res := by
    rintro r rfl
    exact Option.some.inj hF
  replace hc := hc.nilRow 3 1
  refine cLoop N (loopW (S := S5) (x := x5) ?_ N (([] : List Int), 0) _ _ ⟨none, 0, hf.keep ⟨rfl, rfl, rfl, rfl, rfl, rfl, rfl, trivial⟩, hc⟩ hx5)
  clear hF hf hc
  rintro ⟨out, x⟩ st5 a w KB5 ⟨p_1, c_1, hf, hc⟩ hF hfin5 hK5
  unfold gauge_heavy_s2_b5 at hF
  refine wp_seq_k fun K7 h7 => ?_
  refine cReg ?_
  refine stP hf rfl rfl rfl (pLt rfl rfl) fun a hf => ?_
  refine cNil ?_
  refine h7 _ _ ?_
  refine wp_seq_k fun K8 h8 => ?_
  refine cCond (b := (decide (x < ((l.length : Nat) : Int)))) hf rfl (fun hb => ?_) (fun hb => ?_)
  · replace hF := condT hb hF
    clear hb
    refine wp_skip ?_
    refine h8 _ _ ?_
    refine wp_seq_k fun K9 h9 => ?_
    have hj9 : ∀ (out_1 : List Int) (p_2 : Option Addr) (c_2 : Nat) a w, Has 60 a [(0, .slice l_p l.length l_c), (1, .int .i64 permille), (6, .pointer (some ⟨b_1, 0, none⟩)), (7, .pointer (some ⟨b_2, 0, none⟩)), (9, .slice p_2 out_1.length c_2), (15, .int .i64 ((l.length : Nat) : Int)), (16, .int .i64 x)] → Ctx G (.row p_2 c_2 (out_1.map encI_i64) 3 1 :: .box b_2 [.func (.func 97) #[] #[]] 120 :: .box b_1 [.func (.func 98) #[] #[]] 120 :: Lf) w → gauge_heavy_s2_j9 N x out_1 = some st5 → K9 a w := by
      intro out_1 p_2 c_2 a w hf hc hF
      unfold gauge_heavy_s2_j9 at hF
      refine h9 _ _ ?_
      refine cReg ?_
      refine stP hf rfl rfl rfl (pAdd rfl rfl) fun a hf => ?_
      refine stP hf rfl rfl rfl (pM rfl) fun a hf => ?_
      refine cNil ?_
      exact hK5 (out_1, W (x + 1)) _ _ (Option.some.inj hF).symm ⟨p_2, c_2, hf.keep ⟨rfl, rfl, rfl, rfl, rfl, rfl, rfl, trivial⟩, hc⟩
    refine wp_block ?_
    refine wp_seq_k fun K10 h10 => ?_
    refine cReg ?_
    refine stP hf rfl rfl rfl (pM rfl) fun a hf => ?_
    refine stP hf rfl rfl rfl (pA rfl) fun a hf => ?_
    refine cNil ?_
    refine h10 _ _ ?_
    refine wp_seq_k fun K11 h11 => ?_
    refine cReg ?_
    refine stP hf rfl rfl rfl (pA rfl) fun a hf => ?_
    refine cNil ?_
    refine h11 _ _ ?_
    refine wp_seq_k fun K12 h12 => ?_
    refine wp_seq_k fun K13 h13 => ?_
    refine cReg ?_
    refine stP hf rfl rfl rfl (pM rfl) fun a hf => ?_
    refine stP hf rfl rfl rfl (pLenS Try.underlying72 rfl) fun a hf => ?_
    refine stP hf rfl rfl rfl (pM rfl) fun a hf => ?_
    refine cNil ?_
    refine h13 _ _ ?_
    refine wp_block ?_
    obtain ⟨x14, hx14, hF⟩ := bnd_some hF
    let S14 : (Int × Int) → Act → World → Prop := (fun (zz : Int × Int) a w => Has 60 a [(0, .slice l_p l.length l_c), (1, .int .i64 permille), (6, .pointer (some ⟨b_1, 0, none⟩)), (7, .pointer (some ⟨b_2, 0, none⟩)), (9, .slice p_1 out.length c_1), (10, .int .i64 x), (11, .int .i64 zz.1), (15, .int .i64 ((l.length : Nat) : Int)), (16, .int .i64 x), (19, .slice l_p l.length l_c), (20, .int .i64 ((l.length : Nat) : Int)), (21, .int .i64 zz.2)] ∧ Ctx G (.row p_1 c_1 (out.map encI_i64) 3 1 :: .box b_2 [.func (.func 97) #[] #[]] 120 :: .box b_1 [.func (.func 98) #[] #[]] 120 :: Lf) w)
    have hr14 : ∀ (zz : Int × Int) a w, x14 = .go zz → S14 zz a w → K12 a w := by
      rintro ⟨all, x_1⟩ a w rfl ⟨hf, hc⟩
      replace hF : _ = some st5 := hF
      refine h12 _ _ ?_
      refine wp_seq_k fun K15 h15 => ?_
      obtain ⟨e_1, he_1, hF⟩ := bnd_some hF
      obtain ⟨b_3, o, qa, qp⟩ := h_l.atm he_1
      refine cQ hc follows_mx (by kernel_rfl) ?_
      refine qE hf rfl rfl rfl (Pu.ev (pFA fa_120_0 rfl)) fun a hf => ?_
      refine qE hf rfl rfl rfl (eLd1 sc_118 rfl (cell_box m2 rfl)) fun a hf => ?_
      refine qE hf rfl rfl rfl (Pu.ev (pM rfl)) fun a hf => ?_
      refine qE hf rfl rfl rfl (Pu.ev (pM rfl)) fun a hf => ?_
      refine qE hf rfl rfl rfl (Pu.ev (pIA Try.underlying72 sz_24 rfl rfl qa)) fun a hf => ?_
      refine qE hf rfl rfl rfl (eLdN (vs := [.int .i64 e_1.Lo, .int .i64 e_1.Hi]) ag_24 rfl rfl (cells_pc qp (n := 2) (o' := 0) rfl)) fun a hf => ?_
      refine qE hf rfl rfl rfl (eC (v := .int .i64 (gauge_low_1 e_1)) (vs := [.agg #[.int .i64 e_1.Lo, .int .i64 e_1.Hi]]) (caps := []) en_98 rfl rfl rfl rfl (fun w hc => gauge_low_1_ok e_1 hc rfl)) fun a hf => ?_
      refine qE hf rfl rfl rfl (Pu.ev (pMul rfl rfl)) fun a hf => ?_
      refine qE hf rfl rfl rfl (Pu.ev (pM rfl)) fun a hf => ?_
      refine qE hf rfl rfl rfl (Pu.ev (pM rfl)) fun a hf => ?_
      refine qE hf rfl rfl rfl (Pu.ev (pMul rfl rfl)) fun a hf => ?_
      refine qE hf rfl rfl rfl (Pu.ev (pGt rfl rfl)) fun a hf => ?_
      intro w hc
      refine h15 _ _ ?_
      refine cCond (b := (decide ((W (permille * all)) < (W (1000 * (gauge_low_1 e_1)))))) hf rfl (fun hb => ?_) (fun hb => ?_)
      · replace hF := condT hb hF
        clear hb
        refine cReg ?_
        refine stP hf rfl rfl rfl (pM rfl) fun a hf => ?_
        refine stP hf rfl rfl rfl (pM rfl) fun a hf => ?_
        refine stBS (rows := ([x] : List Int).map encI_i64) (vs := [(0, .int .i64 x)]) hf hc rfl rfl sl_43 rfl ⟨rfl, rfl, rfl, trivial⟩ rfl rfl fun b_4 a w hf hc => ?_
        obtain ⟨un, hun, hF⟩ := bnd_some hF
        refine stApm (xs := out) (ys := ([x] : List Int)) hf hc rfl rfl sl_43 rfl rfl rfl rfl rfl one_encI_i64 (src_row hc m0) (fun _ _ => u1) (by simpa using room_spec hun) fun p_3 c_3 a w hf hc => ?_
        refine stP hf rfl rfl rfl (pA rfl) fun a hf => ?_
        refine cNil ?_
        replace hc := hc.drop k0
        exact hj9 (out ++ [x]) p_3 c_3 _ _  (hf.keep ⟨rfl, rfl, rfl, rfl, rfl, rfl, rfl, trivial⟩) hc hF
      · replace hF := condF hb hF
        clear hb
        refine wp_skip ?_
        exact hj9 out p_1 c_1 _ _  (hf.keep ⟨rfl, rfl, rfl, rfl, rfl, rfl, rfl, trivial⟩) hc hF
    have ho14 : ∀ r, x14 = .out r → r = st5 := by
      rintro r rfl
      exact Option.some.inj hF
    refine cLoop N (loopW (S := S14) (x := x14) ?_ N (0, 0) _ _ ⟨hf.keep ⟨rfl, rfl, rfl, rfl, rfl, rfl, rfl, rfl, rfl, rfl, rfl, rfl, trivial⟩, hc⟩ hx14)
    clear hF hf hc
    rintro ⟨all, x_1⟩ st14 a w KB14 ⟨hf, hc⟩ hF hfin14 hK14
    unfold gauge_heavy_s2_b14 at hF
    refine wp_seq_k fun K16 h16 => ?_
    refine cReg ?_
    refine stP hf rfl rfl rfl (pLt rfl rfl) fun a hf => ?_
    refine cNil ?_
    refine h16 _ _ ?_
    refine wp_seq_k fun K17 h17 => ?_
    refine cCond (b := (decide (x_1 < ((l.length : Nat) : Int)))) hf rfl (fun hb => ?_) (fun hb => ?_)
    · replace hF := condT hb hF
      clear hb
      refine wp_skip ?_
      refine h17 _ _ ?_
      refine wp_seq_k fun K18 h18 => ?_
      have hj18 : ∀ (all_1 : Int) a w, Has 60 a [(0, .slice l_p l.length l_c), (1, .int .i64 permille), (6, .pointer (some ⟨b_1, 0, none⟩)), (7, .pointer (some ⟨b_2, 0, none⟩)), (9, .slice p_1 out.length c_1), (10, .int .i64 x), (11, .int .i64 all_1), (15, .int .i64 ((l.length : Nat) : Int)), (16, .int .i64 x), (19, .slice l_p l.length l_c), (20, .int .i64 ((l.length : Nat) : Int)), (21, .int .i64 x_1)] → Ctx G (.row p_1 c_1 (out.map encI_i64) 3 1 :: .box b_2 [.func (.func 97) #[] #[]] 120 :: .box b_1 [.func (.func 98) #[] #[]] 120 :: Lf) w → gauge_heavy_s2_j18 N x_1 all_1 = some st14 → K18 a w := by
        intro all_1 a w hf hc hF
        unfold gauge_heavy_s2_j18 at hF
        refine h18 _ _ ?_
        refine cReg ?_
        refine stP hf rfl rfl rfl (pAdd rfl rfl) fun a hf => ?_
        refine stP hf rfl rfl rfl (pM rfl) fun a hf => ?_
        refine cNil ?_
        exact hK14 (all_1, W (x_1 + 1)) _ _ (Option.some.inj hF).symm ⟨hf.keep ⟨rfl, rfl, rfl, rfl, rfl, rfl, rfl, rfl, rfl, rfl, rfl, rfl, trivial⟩, hc⟩
      refine wp_block ?_
      refine wp_seq_k fun K19 h19 => ?_
      refine cReg ?_
      refine stP hf rfl rfl rfl (pM rfl) fun a hf => ?_
      obtain ⟨e_2, he_2, hF⟩ := bnd_some hF
      obtain ⟨b_5, o_1, qa_1, qp_1⟩ := h_l.atm he_2
      refine stP hf rfl rfl rfl (pIA Try.underlying72 sz_24 rfl rfl qa_1) fun a hf => ?_
      refine stE hf hc rfl rfl rfl (eLdN (vs := [.int .i64 e_2.Lo, .int .i64 e_2.Hi]) ag_24 rfl rfl (cells_pc qp_1 (n := 2) (o' := 0) rfl)) fun a w hf hc => ?_
      refine stAl (cs := [.int .i64 0, .int .i64 0]) hf hc rfl rfl zr_24 rfl fun b_6 a w hf hc => ?_
      refine stP hf rfl rfl rfl (pA rfl) fun a hf => ?_
      refine stSt (vs := [.int .i64 e_2.Lo, .int .i64 e_2.Hi]) hf hc rfl rfl rfl rfl sz_24 rfl rfl u0 fun w hc => ?_
      refine cNil ?_
      refine h19 _ _ ?_
      refine wp_seq_k fun K20 h20 => ?_
      refine cReg ?_
      refine stP hf rfl rfl rfl (pM rfl) fun a hf => ?_
      refine stP hf rfl rfl rfl (pM rfl) fun a hf => ?_
      refine stP hf rfl rfl rfl (pEq rfl rfl) fun a hf => ?_
      refine cNil ?_
      refine h20 _ _ ?_
      refine cCond (b := (x_1 == x)) hf rfl (fun hb => ?_) (fun hb => ?_)
      · replace hF := condT hb hF
        clear hb
        refine cReg ?_
        refine stP hf rfl rfl rfl (pM rfl) fun a hf => ?_
        refine stP hf rfl rfl rfl (pFA fa_120_0 rfl) fun a hf => ?_
        refine stE hf hc rfl rfl rfl (eLd1 sc_118 rfl (cell_box m3 rfl)) fun a w hf hc => ?_
        refine stE hf hc rfl rfl rfl (eLdN (vs := [.int .i64 e_2.Lo, .int .i64 e_2.Hi]) ag_24 rfl rfl (cells_box (n := 2) m0 rfl)) fun a w hf hc => ?_
        refine stE hf hc rfl rfl rfl (eC (v := .int .i64 (gauge_low_1 e_2)) (vs := [.agg #[.int .i64 e_2.Lo, .int .i64 e_2.Hi]]) (caps := []) en_98 rfl rfl rfl rfl (fun w hc => gauge_low_1_ok e_2 hc rfl)) fun a w hf hc => ?_
        refine stP hf rfl rfl rfl (pAdd rfl rfl) fun a hf => ?_
        refine stP hf rfl rfl rfl (pA rfl) fun a hf => ?_
        refine cNil ?_
        replace hc := hc.drop k0
        exact hj18 (W (all + (gauge_low_1 e_2))) _ _  (hf.keep ⟨rfl, rfl, rfl, rfl, rfl, rfl, rfl, rfl, rfl, rfl, rfl, rfl, trivial⟩) hc hF
      · replace hF := condF hb hF
        clear hb
        refine cReg ?_
        refine stP hf rfl rfl rfl (pM rfl) fun a hf => ?_
        refine stP hf rfl rfl rfl (pFA fa_120_0 rfl) fun a hf => ?_
        refine stE hf hc rfl rfl rfl (eLd1 sc_118 rfl (cell_box m2 rfl)) fun a w hf hc => ?_
        refine stE hf hc rfl rfl rfl (eLdN (vs := [.int .i64 e_2.Lo, .int .i64 e_2.Hi]) ag_24 rfl rfl (cells_box (n := 2) m0 rfl)) fun a w hf hc => ?_
        refine stE hf hc rfl rfl rfl (eC (v := .int .i64 (gauge_high_1 e_2)) (vs := [.agg #[.int .i64 e_2.Lo, .int .i64 e_2.Hi]]) (caps := []) en_97 rfl rfl rfl rfl (fun w hc => gauge_high_1_ok e_2 hc rfl)) fun a w hf hc => ?_
        refine stP hf rfl rfl rfl (pAdd rfl rfl) fun a hf => ?_
        refine stP hf rfl rfl rfl (pA rfl) fun a hf => ?_
        refine cNil ?_
        replace hc := hc.drop k0
        exact hj18 (W (all + (gauge_high_1 e_2))) _ _  (hf.keep ⟨rfl, rfl, rfl, rfl, rfl, rfl, rfl, rfl, rfl, rfl, rfl, rfl, trivial⟩) hc hF
    · replace hF := condF hb hF
      clear hb
      refine wp_exit ?_
      refine xThen ?_
      refine xThen ?_
      have he := Option.some.inj hF
      rw [← he] at hfin14
      refine cHit ?_
      exact hr14 _ _ _ hfin14 ⟨hf.keep ⟨rfl, rfl, rfl, rfl, rfl, rfl, rfl, rfl, rfl, rfl, rfl, rfl, trivial⟩, hc⟩
  · replace hF := condF hb hF
    clear hb
    refine wp_exit ?_
    refine xThen ?_
    refine xThen ?_
    have he := Option.some.inj hF
    rw [← he] at hfin5
    refine cHit ?_
    exact hr5 _ _ _ hfin5 ⟨p_1, c_1, hf.keep ⟨rfl, rfl, rfl, rfl, rfl, rfl, rfl, trivial⟩, hc⟩

def gauge_Heavy_j3 (N : Nat) (permille : Int) (r : (List api_Span) × Int) (e_1 : Int) : Option ((List Int) × (List Int) × Int) :=
  cond (e_1 != 0)
  (some (([] : List Int), ([] : List Int), e_1))
  (Option.bind (gauge_high N) fun r_1 =>
  Option.bind (gauge_low N) fun r_2 =>
  Option.bind (gauge_heavy N r.1 permille) fun r_3 =>
  Option.bind (gauge_low N) fun r_4 =>
  Option.bind (gauge_high N) fun r_5 =>
  Option.bind (gauge_heavy_s2 N r.1 permille) fun r_6 =>
  some (r_3, r_6, 0))
def gauge_Heavy (N : Nat) (g : gauge_Gauging) (permille : Int) : Option ((List Int) × (List Int) × Int) :=
  Option.bind (gauge_Panels N g) fun r =>
  cond ((r.2 == 0) && (!(gauge_in permille 0 1000)))
  (gauge_Heavy_j3 N permille r 4)
  (gauge_Heavy_j3 N permille r r.2)
theorem gauge_Heavy_ok {N : Nat} {G : Pers} {Lf : List Ent} {w : World} (g : gauge_Gauging) (permille : Int) {g_Verticals_p : Option Addr} {g_Verticals_c : Nat} (h_g_Verticals : Rd G 5 g_Verticals_p g_Verticals_c (g.Verticals.map enc_gauge_Vertical)) (hc : Ctx G (Lf) w) {res : (List Int) × (List Int) × Int} (hF : gauge_Heavy N g permille = some res) : Calls Try.prog 28 #[.agg #[.int .i64 g.Left, .int .i64 g.Right, .slice g_Verticals_p g.Verticals.length g_Verticals_c], .int .i64 permille] w (fun e w => ∃ (p'1 : Option Addr) (c'1 : Nat) (p'2 : Option Addr) (c'2 : Nat), e = .returned (.tuple #[.slice p'1 res.1.length c'1, .slice p'2 res.2.1.length c'2, .int .i64 res.2.2]) ∧ Ctx G (.row p'1 c'1 (res.1.map encI_i64) 3 1 :: .row p'2 c'2 (res.2.1.map encI_i64) 3 1 :: Lf) w) := by
  unfold gauge_Heavy at hF
  refine fnIn (args := [.agg #[.int .i64 g.Left, .int .i64 g.Right, .slice g_Verticals_p g.Verticals.length g_Verticals_c], .int .i64 permille]) Try.func28 rfl Try.ntmps28 rfl fun a hf => ?_
  refine wp_seq_k fun K1 h1 => ?_
  refine cReg ?_
  refine stBx (cs := [.int .i64 g.Left, .int .i64 g.Right, .slice g_Verticals_p g.Verticals.length g_Verticals_c]) hf hc rfl rfl rfl rfl fun b_1 a w hf hc => ?_
  refine stP hf rfl rfl rfl (pA rfl) fun a hf => ?_
  refine stP hf rfl rfl rfl (pA rfl) fun a hf => ?_
  refine stP hf rfl rfl rfl (pA rfl) fun a hf => ?_
  refine cNil ?_
  refine h1 _ _ ?_
  refine wp_seq_k fun K2 h2 => ?_
  refine cReg ?_
  refine stE hf hc rfl rfl rfl (eLdN (vs := [.int .i64 g.Left, .int .i64 g.Right, .slice g_Verticals_p g.Verticals.length g_Verticals_c]) ag_48 rfl rfl (cells_box (n := 3) m0 rfl)) fun a w hf hc => ?_
  obtain ⟨r, hr, hF⟩ := bnd_some hF
  refine stC (vs := [.agg #[.int .i64 g.Left, .int .i64 g.Right, .slice g_Verticals_p g.Verticals.length g_Verticals_c]]) (caps := []) hf rfl rfl rfl en_31 rfl rfl rfl rfl (gauge_Panels_ok g h_g_Verticals hc hr) ?_
  rintro _ w ⟨p_1, c_1, rfl, hc⟩
  refine ⟨_, rfl, fun a hf => ?_⟩
  refine stP hf rfl rfl rfl (pM rfl) fun a hf => ?_
  refine stP hf rfl rfl rfl (pX rfl rfl) fun a hf => ?_
  refine stP hf rfl rfl rfl (pX rfl rfl) fun a hf => ?_
  refine stP hf rfl rfl rfl (pA rfl) fun a hf => ?_
  refine stP hf rfl rfl rfl (pA rfl) fun a hf => ?_
  refine cNil ?_
  refine h2 _ _ ?_
  refine wp_seq_k fun K3 h3 => ?_
  have hj3 : ∀ (e_1 : Int) a w, Has 33 a [(1, .int .i64 permille), (6, .int .i64 e_1), (7, .slice p_1 r.1.length c_1)] → Ctx G (.row p_1 c_1 (r.1.map enc_api_Span) 24 2 :: Lf) w → gauge_Heavy_j3 N permille r e_1 = some res → K3 a w := by
    intro e_1 a w hf hc hF
    unfold gauge_Heavy_j3 at hF
    refine h3 _ _ ?_
    refine wp_seq_k fun K4 h4 => ?_
    refine wp_seq_k fun K5 h5 => ?_
    refine cReg ?_
    refine stP hf rfl rfl rfl (pM rfl) fun a hf => ?_
    refine stP hf rfl rfl rfl (pNe rfl rfl) fun a hf => ?_
    refine cNil ?_
    refine h5 _ _ ?_
    refine cCond (b := (e_1 != 0)) hf rfl (fun hb => ?_) (fun hb => ?_)
    · replace hF := condT hb hF
      clear hb
      refine wp_seq_k fun K6 h6 => ?_
      refine cReg ?_
      refine stP hf rfl rfl rfl (pM rfl) fun a hf => ?_
      refine stP hf rfl rfl rfl (pA rfl) fun a hf => ?_
      refine stP hf rfl rfl rfl (pA rfl) fun a hf => ?_
      refine stP hf rfl rfl rfl (pA rfl) fun a hf => ?_
      refine cNil ?_
      refine h6 _ _ ?_
      refine wp_ret ?_
      refine xThenR ?_
      obtain rfl := Option.some.inj hF
      replace hc := hc.nilRow 3 1
      replace hc := hc.nilRow 3 1
      replace hc := hc.drop k2
      replace hc := hc.pick k0
      replace hc := hc.pick k1
      exact fnOut3 (by simp) rfl Try.results28 hf hc (show look _ 4 = _ from rfl) (show look _ 5 = _ from rfl) (show look _ 6 = _ from rfl) ⟨none, 0, none, 0, rfl, hc⟩
    · replace hF := condF hb hF
      clear hb
      refine wp_skip ?_
      refine h4 _ _ ?_
      refine wp_seq_k fun K7 h7 => ?_
      refine cReg ?_
      refine stP hf rfl rfl rfl (pM rfl) fun a hf => ?_
      refine stP hf rfl rfl rfl (pM rfl) fun a hf => ?_
      obtain ⟨r_1, hr_1, hF⟩ := bnd_some hF
      refine stE hf hc rfl rfl rfl (eC (v := .agg #[.func (.func 97) #[] #[]]) (vs := []) (caps := []) en_64 rfl rfl rfl rfl (fun w hc => gauge_high_ok hc hr_1)) fun a w hf hc => ?_
      obtain ⟨r_2, hr_2, hF⟩ := bnd_some hF
      refine stE hf hc rfl rfl rfl (eC (v := .agg #[.func (.func 98) #[] #[]]) (vs := []) (caps := []) en_65 rfl rfl rfl rfl (fun w hc => gauge_low_ok hc hr_2)) fun a w hf hc => ?_
      obtain ⟨r_3, hr_3, hF⟩ := bnd_some hF
      obtain ⟨G1, hle1, hrd1, hc, hth1⟩ := lend hc k0
      refine stC (vs := [.slice p_1 r.1.length c_1, .int .i64 permille, .agg #[.func (.func 97) #[] #[]], .agg #[.func (.func 98) #[] #[]]]) (caps := []) hf rfl rfl rfl en_63 rfl rfl rfl rfl (gauge_heavy_ok r.1 permille hrd1 hc hr_3) ?_
      rintro _ w ⟨p_2, c_2, rfl, hc⟩
      refine ⟨_, rfl, fun a hf => ?_⟩
      replace hc := hth1 _ _ hc
      refine stP hf rfl rfl rfl (pM rfl) fun a hf => ?_
      refine stP hf rfl rfl rfl (pM rfl) fun a hf => ?_
      obtain ⟨r_4, hr_4, hF⟩ := bnd_some hF
      refine stE hf hc rfl rfl rfl (eC (v := .agg #[.func (.func 98) #[] #[]]) (vs := []) (caps := []) en_65 rfl rfl rfl rfl (fun w hc => gauge_low_ok hc hr_4)) fun a w hf hc => ?_
      obtain ⟨r_5, hr_5, hF⟩ := bnd_some hF
      refine stE hf hc rfl rfl rfl (eC (v := .agg #[.func (.func 97) #[] #[]]) (vs := []) (caps := []) en_64 rfl rfl rfl rfl (fun w hc => gauge_high_ok hc hr_5)) fun a w hf hc => ?_
      obtain ⟨r_6, hr_6, hF⟩ := bnd_some hF
      obtain ⟨G1, hle1, hrd1, hc, hth1⟩ := lend hc k0
      refine stC (vs := [.slice p_1 r.1.length c_1, .int .i64 permille, .agg #[.func (.func 98) #[] #[]], .agg #[.func (.func 97) #[] #[]]]) (caps := []) hf rfl rfl rfl en_63 rfl rfl rfl rfl (gauge_heavy_s2_ok r.1 permille hrd1 hc hr_6) ?_
      rintro _ w ⟨p_3, c_3, rfl, hc⟩
      refine ⟨_, rfl, fun a hf => ?_⟩
      replace hc := hth1 _ _ hc
      refine stP hf rfl rfl rfl (pA rfl) fun a hf => ?_
      refine stP hf rfl rfl rfl (pA rfl) fun a hf => ?_
      refine stP hf rfl rfl rfl (pA rfl) fun a hf => ?_
      refine cNil ?_
      refine h7 _ _ ?_
      refine wp_ret ?_
      obtain rfl := Option.some.inj hF
      replace hc := hc.drop k0
      replace hc := hc.pick k0
      replace hc := hc.pick k1
      exact fnOut3 (by simp) rfl Try.results28 hf hc (show look _ 4 = _ from rfl) (show look _ 5 = _ from rfl) (show look _ 6 = _ from rfl) ⟨p_2, c_2, p_3, c_3, rfl, hc⟩
  refine wp_seq_k fun K8 h8 => ?_
  refine cReg ?_
  refine stP hf rfl rfl rfl (pM rfl) fun a hf => ?_
  refine stP hf rfl rfl rfl (pEq rfl rfl) fun a hf => ?_
  refine stP hf rfl rfl rfl (pM rfl) fun a hf => ?_
  refine stCut 4 (fun a w => Has 33 a [(1, .int .i64 permille), (6, .int .i64 r.2), (7, .slice p_1 r.1.length c_1), (13, .int .i64 r.2), (14, .bool (r.2 == 0)), (15, .bool (r.2 == 0)), (19, .bool ((r.2 == 0) && (!(gauge_in permille 0 1000))))] ∧ Ctx G (.row p_1 c_1 (r.1.map enc_api_Span) 24 2 :: .box b_1 [.int .i64 g.Left, .int .i64 g.Right, .slice g_Verticals_p g.Verticals.length g_Verticals_c] 48 :: Lf) w) ?_ ?_
  · cases hb : (r.2 == 0)
    · rw [hb] at hf
      refine stS hf rfl rfl rfl fun a hf => ?_
      refine stS hf rfl rfl rfl fun a hf => ?_
      refine stS hf rfl rfl rfl fun a hf => ?_
      refine stP hf rfl rfl rfl (pPf rfl rfl) fun a hf => ?_
      exact cNil ⟨hf.keep ⟨rfl, rfl, rfl, rfl, rfl, rfl, rfl, trivial⟩, hc⟩
    · rw [hb] at hf
      refine stP hf rfl rfl rfl (pM rfl) fun a hf => ?_
      refine stE hf hc rfl rfl rfl (eC (v := .bool (gauge_in permille 0 1000)) (vs := [.int .i64 permille, .int .i64 0, .int .i64 1000]) (caps := []) en_55 rfl rfl rfl rfl (fun w hc => gauge_in_ok permille 0 1000 hc rfl)) fun a w hf hc => ?_
      refine stP hf rfl rfl rfl (pNot rfl) fun a hf => ?_
      refine stP hf rfl rfl rfl (pPt rfl rfl) fun a hf => ?_
      exact cNil ⟨hf.keep ⟨rfl, rfl, rfl, rfl, rfl, rfl, rfl, trivial⟩, hc⟩
  intro a w ⟨hf, hc⟩
  refine cNil ?_
  refine h8 _ _ ?_
  refine cCond (b := ((r.2 == 0) && (!(gauge_in permille 0 1000)))) hf rfl (fun hb => ?_) (fun hb => ?_)
  · replace hF := condT hb hF
    clear hb
    refine cReg ?_
    refine stP hf rfl rfl rfl (pA rfl) fun a hf => ?_
    refine cNil ?_
    replace hc := hc.drop k1
    exact hj3 4 _ _  (hf.keep ⟨rfl, rfl, rfl, trivial⟩) hc hF
  · replace hF := condF hb hF
    clear hb
    refine wp_skip ?_
    replace hc := hc.drop k1
    exact hj3 r.2 _ _  (hf.keep ⟨rfl, rfl, rfl, trivial⟩) hc hF

def gauge_CheckSite_1 (p_ : gauge_Point) (x : gauge_Site) : Bool :=
  (((gauge_in p_.At (W (x.Left + 1)) (W (x.Right - 1))) && (gauge_in p_.Depth 0 2000)) && (gauge_in p_.Cost 0 1000000))
theorem gauge_CheckSite_1_ok {G : Pers} {Lf : List Ent} {w : World} (p_ : gauge_Point) (x : gauge_Site) {b_ : Nat} {x_Points_p : Option Addr} {x_Points_c : Nat} (h_x_Points : Rd G 3 x_Points_p x_Points_c (x.Points.map enc_gauge_Point)) (hc : Ctx G (.box b_ [.int .i64 x.Left, .int .i64 x.Right, .int .i64 x.Gap, .int .i64 x.Step_, .slice x_Points_p x.Points.length x_Points_c] 55 :: Lf) w) {res : Bool} (hF : gauge_CheckSite_1 p_ x = res) : Calls Try.prog 75 #[.agg #[.int .i64 p_.At, .int .i64 p_.Depth, .int .i64 p_.Cost], .pointer (some ⟨b_, 0, none⟩)] w (fun e w => e = .returned (.bool res) ∧ Ctx G (.box b_ [.int .i64 x.Left, .int .i64 x.Right, .int .i64 x.Gap, .int .i64 x.Step_, .slice x_Points_p x.Points.length x_Points_c] 55 :: Lf) w) := by
  unfold gauge_CheckSite_1 at hF
  refine fnIn (args := [.agg #[.int .i64 p_.At, .int .i64 p_.Depth, .int .i64 p_.Cost], .pointer (some ⟨b_, 0, none⟩)]) Try.func75 rfl Try.ntmps75 rfl fun a hf => ?_
  refine wp_seq_k fun K1 h1 => ?_
  refine cReg ?_
  refine stBx (cs := [.int .i64 p_.At, .int .i64 p_.Depth, .int .i64 p_.Cost]) hf hc rfl rfl rfl rfl fun b_1 a w hf hc => ?_
  refine stP hf rfl rfl rfl (pA rfl) fun a hf => ?_
  refine cNil ?_
  refine h1 _ _ ?_
  refine wp_seq_k fun K2 h2 => ?_
  refine cReg ?_
  refine stP hf rfl rfl rfl (pFA fa_64_0 rfl) fun a hf => ?_
  refine stE hf hc rfl rfl rfl (eLd1 sc_3 rfl (cell_box m0 rfl)) fun a w hf hc => ?_
  refine stP hf rfl rfl rfl (pFA fa_55_0 rfl) fun a hf => ?_
  refine stE hf hc rfl rfl rfl (eLd1 sc_3 rfl (cell_box m1 rfl)) fun a w hf hc => ?_
  refine stP hf rfl rfl rfl (pAdd rfl rfl) fun a hf => ?_
  refine stP hf rfl rfl rfl (pFA fa_55_1 rfl) fun a hf => ?_
  refine stE hf hc rfl rfl rfl (eLd1 sc_3 rfl (cell_box m1 rfl)) fun a w hf hc => ?_
  refine stP hf rfl rfl rfl (pSub rfl rfl) fun a hf => ?_
  refine stE hf hc rfl rfl rfl (eC (v := .bool (gauge_in p_.At (W (x.Left + 1)) (W (x.Right - 1)))) (vs := [.int .i64 p_.At, .int .i64 (W (x.Left + 1)), .int .i64 (W (x.Right - 1))]) (caps := []) en_55 rfl rfl rfl rfl (fun w hc => gauge_in_ok p_.At (W (x.Left + 1)) (W (x.Right - 1)) hc rfl)) fun a w hf hc => ?_
  refine stP hf rfl rfl rfl (pM rfl) fun a hf => ?_
  refine stCut 4 (fun a w => Has 23 a [(1, .pointer (some ⟨b_, 0, none⟩)), (2, .pointer (some ⟨b_1, 0, none⟩)), (3, .bool false), (4, .pointer (some ⟨b_1, 0, none⟩)), (5, .int .i64 p_.At), (6, .pointer (some ⟨b_, 0, none⟩)), (7, .int .i64 x.Left), (8, .int .i64 (W (x.Left + 1))), (9, .pointer (some ⟨b_, 1, none⟩)), (10, .int .i64 x.Right), (11, .int .i64 (W (x.Right - 1))), (12, .bool (gauge_in p_.At (W (x.Left + 1)) (W (x.Right - 1)))), (13, .bool (gauge_in p_.At (W (x.Left + 1)) (W (x.Right - 1)))), (17, .bool ((gauge_in p_.At (W (x.Left + 1)) (W (x.Right - 1))) && (gauge_in p_.Depth 0 2000)))] ∧ Ctx G (.box b_1 [.int .i64 p_.At, .int .i64 p_.Depth, .int .i64 p_.Cost] 64 :: .box b_ [.int .i64 x.Left, .int .i64 x.Right, .int .i64 x.Gap, .int .i64 x.Step_, .slice x_Points_p x.Points.length x_Points_c] 55 :: Lf) w) ?_ ?_
  · cases hb : (gauge_in p_.At (W (x.Left + 1)) (W (x.Right - 1)))
    · rw [hb] at hf
      refine stS hf rfl rfl rfl fun a hf => ?_
      refine stS hf rfl rfl rfl fun a hf => ?_
      refine stS hf rfl rfl rfl fun a hf => ?_
      refine stP hf rfl rfl rfl (pPf rfl rfl) fun a hf => ?_
      exact cNil ⟨hf.keep ⟨rfl, rfl, rfl, rfl, rfl, rfl, rfl, rfl, rfl, rfl, rfl, rfl, rfl, rfl, trivial⟩, hc⟩
    · rw [hb] at hf
      refine stP hf rfl rfl rfl (pFA fa_64_1 rfl) fun a hf => ?_
      refine stE hf hc rfl rfl rfl (eLd1 sc_3 rfl (cell_box m0 rfl)) fun a w hf hc => ?_
      refine stE hf hc rfl rfl rfl (eC (v := .bool (gauge_in p_.Depth 0 2000)) (vs := [.int .i64 p_.Depth, .int .i64 0, .int .i64 2000]) (caps := []) en_55 rfl rfl rfl rfl (fun w hc => gauge_in_ok p_.Depth 0 2000 hc rfl)) fun a w hf hc => ?_
      refine stP hf rfl rfl rfl (pPt rfl rfl) fun a hf => ?_
      exact cNil ⟨hf.keep ⟨rfl, rfl, rfl, rfl, rfl, rfl, rfl, rfl, rfl, rfl, rfl, rfl, rfl, rfl, trivial⟩, hc⟩
  intro a w ⟨hf, hc⟩
  refine stP hf rfl rfl rfl (pM rfl) fun a hf => ?_
  refine stCut 4 (fun a w => Has 23 a [(1, .pointer (some ⟨b_, 0, none⟩)), (2, .pointer (some ⟨b_1, 0, none⟩)), (3, .bool false), (4, .pointer (some ⟨b_1, 0, none⟩)), (5, .int .i64 p_.At), (6, .pointer (some ⟨b_, 0, none⟩)), (7, .int .i64 x.Left), (8, .int .i64 (W (x.Left + 1))), (9, .pointer (some ⟨b_, 1, none⟩)), (10, .int .i64 x.Right), (11, .int .i64 (W (x.Right - 1))), (12, .bool (gauge_in p_.At (W (x.Left + 1)) (W (x.Right - 1)))), (13, .bool (gauge_in p_.At (W (x.Left + 1)) (W (x.Right - 1)))), (17, .bool ((gauge_in p_.At (W (x.Left + 1)) (W (x.Right - 1))) && (gauge_in p_.Depth 0 2000))), (18, .bool ((gauge_in p_.At (W (x.Left + 1)) (W (x.Right - 1))) && (gauge_in p_.Depth 0 2000))), (22, .bool (((gauge_in p_.At (W (x.Left + 1)) (W (x.Right - 1))) && (gauge_in p_.Depth 0 2000)) && (gauge_in p_.Cost 0 1000000)))] ∧ Ctx G (.box b_1 [.int .i64 p_.At, .int .i64 p_.Depth, .int .i64 p_.Cost] 64 :: .box b_ [.int .i64 x.Left, .int .i64 x.Right, .int .i64 x.Gap, .int .i64 x.Step_, .slice x_Points_p x.Points.length x_Points_c] 55 :: Lf) w) ?_ ?_
  · cases hb : ((gauge_in p_.At (W (x.Left + 1)) (W (x.Right - 1))) && (gauge_in p_.Depth 0 2000))
    · rw [hb] at hf
      refine stS hf rfl rfl rfl fun a hf => ?_
      refine stS hf rfl rfl rfl fun a hf => ?_
      refine stS hf rfl rfl rfl fun a hf => ?_
      refine stP hf rfl rfl rfl (pPf rfl rfl) fun a hf => ?_
      exact cNil ⟨hf.keep ⟨rfl, rfl, rfl, rfl, rfl, rfl, rfl, rfl, rfl, rfl, rfl, rfl, rfl, rfl, rfl, rfl, trivial⟩, hc⟩
    · rw [hb] at hf
      refine stP hf rfl rfl rfl (pFA fa_64_2 rfl) fun a hf => ?_
      refine stE hf hc rfl rfl rfl (eLd1 sc_3 rfl (cell_box m0 rfl)) fun a w hf hc => ?_
      refine stE hf hc rfl rfl rfl (eC (v := .bool (gauge_in p_.Cost 0 1000000)) (vs := [.int .i64 p_.Cost, .int .i64 0, .int .i64 1000000]) (caps := []) en_55 rfl rfl rfl rfl (fun w hc => gauge_in_ok p_.Cost 0 1000000 hc rfl)) fun a w hf hc => ?_
      refine stP hf rfl rfl rfl (pPt rfl rfl) fun a hf => ?_
      exact cNil ⟨hf.keep ⟨rfl, rfl, rfl, rfl, rfl, rfl, rfl, rfl, rfl, rfl, rfl, rfl, rfl, rfl, rfl, rfl, trivial⟩, hc⟩
  intro a w ⟨hf, hc⟩
  refine stP hf rfl rfl rfl (pA rfl) fun a hf => ?_
  refine cNil ?_
  refine h2 _ _ ?_
  refine wp_ret ?_
  obtain rfl := hF
  replace hc := hc.drop k0
  exact fnOut1 (by simp) rfl Try.results75 hf hc (show look _ 3 = _ from rfl) ⟨rfl, hc⟩

def gauge_every_gauge_Point_1 (x : gauge_Point) (x_1 : gauge_Site) : Bool :=
  (!(gauge_CheckSite_1 (⟨x.At, x.Depth, x.Cost⟩ : gauge_Point) x_1))
theorem gauge_every_gauge_Point_1_ok {G : Pers} {Lf : List Ent} {w : World} (x : gauge_Point) (x_1 : gauge_Site) {b_ : Nat} {b__1 : Nat} {x_1_Points_p : Option Addr} {x_1_Points_c : Nat} (h_x_1_Points : Rd G 3 x_1_Points_p x_1_Points_c (x_1.Points.map enc_gauge_Point)) (hc : Ctx G (.box b_ [.func (.func 75) #[] #[.pointer (some ⟨b__1, 0, none⟩)]] 141 :: .box b__1 [.int .i64 x_1.Left, .int .i64 x_1.Right, .int .i64 x_1.Gap, .int .i64 x_1.Step_, .slice x_1_Points_p x_1.Points.length x_1_Points_c] 55 :: Lf) w) {res : Bool} (hF : gauge_every_gauge_Point_1 x x_1 = res) : Calls Try.prog 106 #[.agg #[.int .i64 x.At, .int .i64 x.Depth, .int .i64 x.Cost], .pointer (some ⟨b_, 0, none⟩)] w (fun e w => e = .returned (.bool res) ∧ Ctx G (.box b_ [.func (.func 75) #[] #[.pointer (some ⟨b__1, 0, none⟩)]] 141 :: .box b__1 [.int .i64 x_1.Left, .int .i64 x_1.Right, .int .i64 x_1.Gap, .int .i64 x_1.Step_, .slice x_1_Points_p x_1.Points.length x_1_Points_c] 55 :: Lf) w) := by
  unfold gauge_every_gauge_Point_1 at hF
  refine fnIn (args := [.agg #[.int .i64 x.At, .int .i64 x.Depth, .int .i64 x.Cost], .pointer (some ⟨b_, 0, none⟩)]) Try.func106 rfl Try.ntmps106 rfl fun a hf => ?_
  refine wp_seq_k fun K1 h1 => ?_
  refine cReg ?_
  refine stBx (cs := [.int .i64 x.At, .int .i64 x.Depth, .int .i64 x.Cost]) hf hc rfl rfl rfl rfl fun b_1 a w hf hc => ?_
  refine stP hf rfl rfl rfl (pA rfl) fun a hf => ?_
  refine cNil ?_
  refine h1 _ _ ?_
  refine wp_seq_k fun K2 h2 => ?_
  refine cReg ?_
  refine stE hf hc rfl rfl rfl (eLd1 sc_141 rfl (cell_box m1 rfl)) fun a w hf hc => ?_
  refine stE hf hc rfl rfl rfl (eLdN (vs := [.int .i64 x.At, .int .i64 x.Depth, .int .i64 x.Cost]) ag_64 rfl rfl (cells_box (n := 3) m0 rfl)) fun a w hf hc => ?_
  refine stE hf hc rfl rfl rfl (eC (v := .bool (gauge_CheckSite_1 (⟨x.At, x.Depth, x.Cost⟩ : gauge_Point) x_1)) (vs := [.agg #[.int .i64 x.At, .int .i64 x.Depth, .int .i64 x.Cost]]) (caps := [.pointer (some ⟨b__1, 0, none⟩)]) en_75 rfl rfl rfl rfl (fun w hc => (gauge_CheckSite_1_ok (⟨x.At, x.Depth, x.Cost⟩ : gauge_Point) x_1 h_x_1_Points (hc.pick k2) rfl).mono fun e w h => ⟨h.1, (h.2.unpick k2)⟩)) fun a w hf hc => ?_
  refine stP hf rfl rfl rfl (pNot rfl) fun a hf => ?_
  refine stP hf rfl rfl rfl (pA rfl) fun a hf => ?_
  refine cNil ?_
  refine h2 _ _ ?_
  refine wp_ret ?_
  obtain rfl := hF
  replace hc := hc.drop k0
  exact fnOut1 (by simp) rfl Try.results106 hf hc (show look _ 3 = _ from rfl) ⟨rfl, hc⟩

def slices_IndexFunc_Lgauge_Point_gauge_Point_b4 (N : Nat) (s_ : List gauge_Point) (f_ : gauge_Site) (x : Int) : Option (Step (Int) (Int)) :=
  cond (decide (x < ((s_.length : Nat) : Int)))
  (Option.bind (getI s_ x) fun e_1 =>
  cond (gauge_every_gauge_Point_1 e_1 f_)
  (some (.ret x))
  (some (.cont (W (x + 1)))))
  (some (.brk x))
def slices_IndexFunc_Lgauge_Point_gauge_Point (N : Nat) (s_ : List gauge_Point) (f_ : gauge_Site) : Option (Int) :=
  Option.bind (loopO (fun s4 => slices_IndexFunc_Lgauge_Point_gauge_Point_b4 N s_ f_ s4) N 0) fun x4 =>
  exK x4 (fun s4 => some (-1)) some
theorem slices_IndexFunc_Lgauge_Point_gauge_Point_ok {N : Nat} {G : Pers} {Lf : List Ent} {w : World} (s_ : List gauge_Point) (f_ : gauge_Site) {s__p : Option Addr} {s__c : Nat} {b_ : Nat} {b__1 : Nat} {f__Points_p : Option Addr} {f__Points_c : Nat} (h_s_ : Rd G 3 s__p s__c (s_.map enc_gauge_Point)) (h_f__Points : Rd G 3 f__Points_p f__Points_c (f_.Points.map enc_gauge_Point)) (hc : Ctx G (.box b_ [.func (.func 75) #[] #[.pointer (some ⟨b__1, 0, none⟩)]] 141 :: .box b__1 [.int .i64 f_.Left, .int .i64 f_.Right, .int .i64 f_.Gap, .int .i64 f_.Step_, .slice f__Points_p f_.Points.length f__Points_c] 55 :: Lf) w) {res : Int} (hF : slices_IndexFunc_Lgauge_Point_gauge_Point N s_ f_ = some res) : Calls Try.prog 117 #[.slice s__p s_.length s__c, .func (.func 106) #[] #[.pointer (some ⟨b_, 0, none⟩)]] w (fun e w => e = .returned (.int .i64 res) ∧ Ctx G (.box b_ [.func (.func 75) #[] #[.pointer (some ⟨b__1, 0, none⟩)]] 141 :: .box b__1 [.int .i64 f_.Left, .int .i64 f_.Right, .int .i64 f_.Gap, .int .i64 f_.Step_, .slice f__Points_p f_.Points.length f__Points_c] 55 :: Lf) w) := by
  unfold slices_IndexFunc_Lgauge_Point_gauge_Point at hF
  refine fnIn (args := [.slice s__p s_.length s__c, .func (.func 106) #[] #[.pointer (some ⟨b_, 0, none⟩)]]) Try.func117 rfl Try.ntmps117 rfl fun a hf => ?_
  refine wp_seq_k fun K1 h1 => ?_
  refine cReg ?_
  refine stP hf rfl rfl rfl (pA rfl) fun a hf => ?_
  refine cNil ?_
  refine h1 _ _ ?_
  refine wp_seq_k fun K2 h2 => ?_
  refine wp_seq_k fun K3 h3 => ?_
  refine cReg ?_
  refine stP hf rfl rfl rfl (pM rfl) fun a hf => ?_
  refine stP hf rfl rfl rfl (pLenS Try.underlying53 rfl) fun a hf => ?_
  refine stP hf rfl rfl rfl (pM rfl) fun a hf => ?_
  refine cNil ?_
  refine h3 _ _ ?_
  refine wp_block ?_
  obtain ⟨x4, hx4, hF⟩ := bnd_some hF
  let S4 : Int → Act → World → Prop := (fun (zz : Int) a w => Has 19 a [(0, .slice s__p s_.length s__c), (1, .func (.func 106) #[] #[.pointer (some ⟨b_, 0, none⟩)]), (7, .int .i64 ((s_.length : Nat) : Int)), (8, .int .i64 zz)] ∧ Ctx G (.box b_ [.func (.func 75) #[] #[.pointer (some ⟨b__1, 0, none⟩)]] 141 :: .box b__1 [.int .i64 f_.Left, .int .i64 f_.Right, .int .i64 f_.Gap, .int .i64 f_.Step_, .slice f__Points_p f_.Points.length f__Points_c] 55 :: Lf) w)
  have hr4 : ∀ (zz : Int) a w, x4 = .go zz → S4 zz a w → K2 a w := by
    rintro x a w rfl ⟨hf, hc⟩
    replace hF : _ = some res := hF
    refine h2 _ _ ?_
    refine wp_seq_k fun K5 h5 => ?_
    refine cReg ?_
    refine stP hf rfl rfl rfl (pA rfl) fun a hf => ?_
    refine cNil ?_
    refine h5 _ _ ?_
    refine wp_ret ?_
    obtain rfl := Option.some.inj hF
    exact fnOut1 (by simp) rfl Try.results117 hf hc (show look _ 4 = _ from rfl) ⟨rfl, hc⟩
  have ho4 : ∀ r, x4 = .out r → r = res := by
    rintro r rfl
    exact Option.some.inj hF
  refine cLoop N (loopW (S := S4) (x := x4) ?_ N 0 _ _ ⟨hf.keep ⟨rfl, rfl, rfl, rfl, trivial⟩, hc⟩ hx4)
  clear hF hf hc
  rintro x st4 a w KB4 ⟨hf, hc⟩ hF hfin4 hK4
  unfold slices_IndexFunc_Lgauge_Point_gauge_Point_b4 at hF
  refine wp_seq_k fun K6 h6 => ?_
  refine cReg ?_
  refine stP hf rfl rfl rfl (pLt rfl rfl) fun a hf => ?_
  refine cNil ?_
  refine h6 _ _ ?_
  refine wp_seq_k fun K7 h7 => ?_
  refine cCond (b := (decide (x < ((s_.length : Nat) : Int)))) hf rfl (fun hb => ?_) (fun hb => ?_)
  · replace hF := condT hb hF
    clear hb
    refine wp_skip ?_
    refine h7 _ _ ?_
    refine wp_seq_k fun K8 h8 => ?_
    refine wp_block ?_
    refine wp_seq_k fun K9 h9 => ?_
    refine cReg ?_
    refine stP hf rfl rfl rfl (pM rfl) fun a hf => ?_
    refine stP hf rfl rfl rfl (pA rfl) fun a hf => ?_
    refine cNil ?_
    refine h9 _ _ ?_
    refine wp_seq_k fun K10 h10 => ?_
    refine cReg ?_
    refine stP hf rfl rfl rfl (pM rfl) fun a hf => ?_
    refine stP hf rfl rfl rfl (pM rfl) fun a hf => ?_
    refine stP hf rfl rfl rfl (pM rfl) fun a hf => ?_
    obtain ⟨e_1, he_1, hF⟩ := bnd_some hF
    obtain ⟨b_1, o, qa, qp⟩ := h_s_.atm he_1
    refine stP hf rfl rfl rfl (pIA Try.underlying53 sz_64 rfl rfl qa) fun a hf => ?_
    refine stE hf hc rfl rfl rfl (eLdN (vs := [.int .i64 e_1.At, .int .i64 e_1.Depth, .int .i64 e_1.Cost]) ag_64 rfl rfl (cells_pc qp (n := 3) (o' := 0) rfl)) fun a w hf hc => ?_
    refine stE hf hc rfl rfl rfl (eC (v := .bool (gauge_every_gauge_Point_1 e_1 f_)) (vs := [.agg #[.int .i64 e_1.At, .int .i64 e_1.Depth, .int .i64 e_1.Cost]]) (caps := [.pointer (some ⟨b_, 0, none⟩)]) en_106 rfl rfl rfl rfl (fun w hc => (gauge_every_gauge_Point_1_ok e_1 f_ h_f__Points ((hc.pick k1).pick k1) rfl).mono fun e w h => ⟨h.1, ((h.2.unpick k1).unpick k1)⟩)) fun a w hf hc => ?_
    refine cNil ?_
    refine h10 _ _ ?_
    refine cCond (b := (gauge_every_gauge_Point_1 e_1 f_)) hf rfl (fun hb => ?_) (fun hb => ?_)
    · replace hF := condT hb hF
      clear hb
      refine wp_seq_k fun K11 h11 => ?_
      refine cReg ?_
      refine stP hf rfl rfl rfl (pM rfl) fun a hf => ?_
      refine stP hf rfl rfl rfl (pA rfl) fun a hf => ?_
      refine cNil ?_
      refine h11 _ _ ?_
      refine wp_ret ?_
      refine xBlkR ?_
      refine xThenR ?_
      refine xThenR ?_
      have he := Option.some.inj hF
      rw [← he] at hfin4
      replace hF := ho4 _ hfin4
      refine xBlkR ?_
      refine xThenR ?_
      obtain rfl := hF
      exact fnOut1 (by simp) rfl Try.results117 hf hc (show look _ 4 = _ from rfl) ⟨rfl, hc⟩
    · replace hF := condF hb hF
      clear hb
      refine wp_skip ?_
      refine h8 _ _ ?_
      refine cReg ?_
      refine stP hf rfl rfl rfl (pAdd rfl rfl) fun a hf => ?_
      refine stP hf rfl rfl rfl (pM rfl) fun a hf => ?_
      refine cNil ?_
      exact hK4 (W (x + 1)) _ _ (Option.some.inj hF).symm ⟨hf.keep ⟨rfl, rfl, rfl, rfl, trivial⟩, hc⟩
  · replace hF := condF hb hF
    clear hb
    refine wp_exit ?_
    refine xThen ?_
    refine xThen ?_
    have he := Option.some.inj hF
    rw [← he] at hfin4
    refine cHit ?_
    exact hr4 _ _ _ hfin4 ⟨hf.keep ⟨rfl, rfl, rfl, rfl, trivial⟩, hc⟩

def slices_ContainsFunc_Lgauge_Point_gauge_Point (N : Nat) (s_ : List gauge_Point) (f_ : gauge_Site) : Option (Bool) :=
  Option.bind (slices_IndexFunc_Lgauge_Point_gauge_Point N s_ f_) fun r =>
  some (decide (0 ≤ r))
theorem slices_ContainsFunc_Lgauge_Point_gauge_Point_ok {N : Nat} {G : Pers} {Lf : List Ent} {w : World} (s_ : List gauge_Point) (f_ : gauge_Site) {s__p : Option Addr} {s__c : Nat} {b_ : Nat} {b__1 : Nat} {f__Points_p : Option Addr} {f__Points_c : Nat} (h_s_ : Rd G 3 s__p s__c (s_.map enc_gauge_Point)) (h_f__Points : Rd G 3 f__Points_p f__Points_c (f_.Points.map enc_gauge_Point)) (hc : Ctx G (.box b_ [.func (.func 75) #[] #[.pointer (some ⟨b__1, 0, none⟩)]] 141 :: .box b__1 [.int .i64 f_.Left, .int .i64 f_.Right, .int .i64 f_.Gap, .int .i64 f_.Step_, .slice f__Points_p f_.Points.length f__Points_c] 55 :: Lf) w) {res : Bool} (hF : slices_ContainsFunc_Lgauge_Point_gauge_Point N s_ f_ = some res) : Calls Try.prog 105 #[.slice s__p s_.length s__c, .func (.func 106) #[] #[.pointer (some ⟨b_, 0, none⟩)]] w (fun e w => e = .returned (.bool res) ∧ Ctx G (.box b_ [.func (.func 75) #[] #[.pointer (some ⟨b__1, 0, none⟩)]] 141 :: .box b__1 [.int .i64 f_.Left, .int .i64 f_.Right, .int .i64 f_.Gap, .int .i64 f_.Step_, .slice f__Points_p f_.Points.length f__Points_c] 55 :: Lf) w) := by
  unfold slices_ContainsFunc_Lgauge_Point_gauge_Point at hF
  refine fnIn (args := [.slice s__p s_.length s__c, .func (.func 106) #[] #[.pointer (some ⟨b_, 0, none⟩)]]) Try.func105 rfl Try.ntmps105 rfl fun a hf => ?_
  refine wp_seq_k fun K1 h1 => ?_
  refine cReg ?_
  refine stP hf rfl rfl rfl (pA rfl) fun a hf => ?_
  refine cNil ?_
  refine h1 _ _ ?_
  refine wp_seq_k fun K2 h2 => ?_
  refine cReg ?_
  refine stP hf rfl rfl rfl (pM rfl) fun a hf => ?_
  refine stP hf rfl rfl rfl (pM rfl) fun a hf => ?_
  obtain ⟨r, hr, hF⟩ := bnd_some hF
  refine stE hf hc rfl rfl rfl (eC (v := .int .i64 r) (vs := [.slice s__p s_.length s__c, .func (.func 106) #[] #[.pointer (some ⟨b_, 0, none⟩)]]) (caps := []) en_117 rfl rfl rfl rfl (fun w hc => (slices_IndexFunc_Lgauge_Point_gauge_Point_ok s_ f_ h_s_ h_f__Points ((hc.pick k1).pick k1) hr).mono fun e w h => ⟨h.1, ((h.2.unpick k1).unpick k1)⟩)) fun a w hf hc => ?_
  refine stP hf rfl rfl rfl (pGe rfl rfl) fun a hf => ?_
  refine stP hf rfl rfl rfl (pA rfl) fun a hf => ?_
  refine cNil ?_
  refine h2 _ _ ?_
  refine wp_ret ?_
  obtain rfl := Option.some.inj hF
  exact fnOut1 (by simp) rfl Try.results105 hf hc (show look _ 4 = _ from rfl) ⟨rfl, hc⟩

def gauge_every_gauge_Point (N : Nat) (l : List gauge_Point) (so : gauge_Site) : Option (Bool) :=
  Option.bind (slices_ContainsFunc_Lgauge_Point_gauge_Point N l so) fun r =>
  some (!r)
theorem gauge_every_gauge_Point_ok {N : Nat} {G : Pers} {Lf : List Ent} {w : World} (l : List gauge_Point) (so : gauge_Site) {l_p : Option Addr} {l_c : Nat} {b_ : Nat} {so_Points_p : Option Addr} {so_Points_c : Nat} (h_l : Rd G 3 l_p l_c (l.map enc_gauge_Point)) (h_so_Points : Rd G 3 so_Points_p so_Points_c (so.Points.map enc_gauge_Point)) (hc : Ctx G (.box b_ [.int .i64 so.Left, .int .i64 so.Right, .int .i64 so.Gap, .int .i64 so.Step_, .slice so_Points_p so.Points.length so_Points_c] 55 :: Lf) w) {res : Bool} (hF : gauge_every_gauge_Point N l so = some res) : Calls Try.prog 74 #[.slice l_p l.length l_c, .func (.func 75) #[] #[.pointer (some ⟨b_, 0, none⟩)]] w (fun e w => e = .returned (.bool res) ∧ Ctx G (.box b_ [.int .i64 so.Left, .int .i64 so.Right, .int .i64 so.Gap, .int .i64 so.Step_, .slice so_Points_p so.Points.length so_Points_c] 55 :: Lf) w) := by
  unfold gauge_every_gauge_Point at hF
  refine fnIn (args := [.slice l_p l.length l_c, .func (.func 75) #[] #[.pointer (some ⟨b_, 0, none⟩)]]) Try.func74 rfl Try.ntmps74 rfl fun a hf => ?_
  refine wp_seq_k fun K1 h1 => ?_
  refine cReg ?_
  refine stBx (cs := [.func (.func 75) #[] #[.pointer (some ⟨b_, 0, none⟩)]]) hf hc rfl rfl rfl rfl fun b_1 a w hf hc => ?_
  refine stP hf rfl rfl rfl (pA rfl) fun a hf => ?_
  refine cNil ?_
  refine h1 _ _ ?_
  refine wp_seq_k fun K2 h2 => ?_
  refine cReg ?_
  refine stP hf rfl rfl rfl (pM rfl) fun a hf => ?_
  refine stP hf rfl rfl rfl (pMF (us := [.pointer (some ⟨b_1, 0, none⟩)]) rfl rfl) fun a hf => ?_
  obtain ⟨r, hr, hF⟩ := bnd_some hF
  refine stE hf hc rfl rfl rfl (eC (v := .bool r) (vs := [.slice l_p l.length l_c, .func (.func 106) #[] #[.pointer (some ⟨b_1, 0, none⟩)]]) (caps := []) en_105 rfl rfl rfl rfl (fun w hc => (slices_ContainsFunc_Lgauge_Point_gauge_Point_ok l so h_l h_so_Points ((hc.pick k1).pick k1) hr).mono fun e w h => ⟨h.1, ((h.2.unpick k1).unpick k1)⟩)) fun a w hf hc => ?_
  refine stP hf rfl rfl rfl (pNot rfl) fun a hf => ?_
  refine stP hf rfl rfl rfl (pA rfl) fun a hf => ?_
  refine cNil ?_
  refine h2 _ _ ?_
  refine wp_ret ?_
  obtain rfl := Option.some.inj hF
  replace hc := hc.drop k0
  exact fnOut1 (by simp) rfl Try.results74 hf hc (show look _ 4 = _ from rfl) ⟨rfl, hc⟩

def gauge_CheckSite_2 (N : Nat) (i_ : Int) (x : gauge_Site) : Option (Int) :=
  Option.bind (getI x.Points i_) fun e_1 =>
  some e_1.At
theorem gauge_CheckSite_2_ok {N : Nat} {G : Pers} {Lf : List Ent} {w : World} (i_ : Int) (x : gauge_Site) {b_ : Nat} {x_Points_p : Option Addr} {x_Points_c : Nat} (h_x_Points : Rd G 3 x_Points_p x_Points_c (x.Points.map enc_gauge_Point)) (hc : Ctx G (.box b_ [.int .i64 x.Left, .int .i64 x.Right, .int .i64 x.Gap, .int .i64 x.Step_, .slice x_Points_p x.Points.length x_Points_c] 55 :: Lf) w) {res : Int} (hF : gauge_CheckSite_2 N i_ x = some res) : Calls Try.prog 77 #[.int .i64 i_, .pointer (some ⟨b_, 0, none⟩)] w (fun e w => e = .returned (.int .i64 res) ∧ Ctx G (.box b_ [.int .i64 x.Left, .int .i64 x.Right, .int .i64 x.Gap, .int .i64 x.Step_, .slice x_Points_p x.Points.length x_Points_c] 55 :: Lf) w) := by
  unfold gauge_CheckSite_2 at hF
  refine fnIn (args := [.int .i64 i_, .pointer (some ⟨b_, 0, none⟩)]) Try.func77 rfl Try.ntmps77 rfl fun a hf => ?_
  refine wp_seq_k fun K1 h1 => ?_
  refine cReg ?_
  refine stP hf rfl rfl rfl (pA rfl) fun a hf => ?_
  refine cNil ?_
  refine h1 _ _ ?_
  refine wp_seq_k fun K2 h2 => ?_
  refine cReg ?_
  refine stP hf rfl rfl rfl (pFA fa_55_4 rfl) fun a hf => ?_
  refine stE hf hc rfl rfl rfl (eLd1 sc_53 rfl (cell_box m0 rfl)) fun a w hf hc => ?_
  refine stP hf rfl rfl rfl (pM rfl) fun a hf => ?_
  obtain ⟨e_1, he_1, hF⟩ := bnd_some hF
  obtain ⟨b_1, o, qa, qp⟩ := h_x_Points.atm he_1
  refine stP hf rfl rfl rfl (pIA Try.underlying53 sz_64 rfl rfl qa) fun a hf => ?_
  refine stP hf rfl rfl rfl (pFA fa_64_0 rfl) fun a hf => ?_
  refine stE hf hc rfl rfl rfl (eLd1 sc_3 rfl (cell_pc (j := 0) qp rfl)) fun a w hf hc => ?_
  refine stP hf rfl rfl rfl (pA rfl) fun a hf => ?_
  refine cNil ?_
  refine h2 _ _ ?_
  refine wp_ret ?_
  obtain rfl := Option.some.inj hF
  exact fnOut1 (by simp) rfl Try.results77 hf hc (show look _ 3 = _ from rfl) ⟨rfl, hc⟩

def gauge_rising_s2_b4 (N : Nat) (many : Int) (at_ : gauge_Site) (i_1 : Int) : Option (Step (Int) (Bool)) :=
  cond (decide (i_1 < many))
  (Option.bind (gauge_CheckSite_2 N i_1 at_) fun r =>
  Option.bind (gauge_CheckSite_2 N (W (i_1 - 1)) at_) fun r_1 =>
  cond (decide (r ≤ r_1))
  (some (.ret false))
  (some (.cont (W (i_1 + 1)))))
  (some (.brk i_1))
def gauge_rising_s2 (N : Nat) (many : Int) (at_ : gauge_Site) : Option (Bool) :=
  Option.bind (loopO (fun s4 => gauge_rising_s2_b4 N many at_ s4) N 1) fun x4 =>
  exK x4 (fun s4 => some true) some
theorem gauge_rising_s2_ok {N : Nat} {G : Pers} {Lf : List Ent} {w : World} (many : Int) (at_ : gauge_Site) {b_ : Nat} {at__Points_p : Option Addr} {at__Points_c : Nat} (h_at__Points : Rd G 3 at__Points_p at__Points_c (at_.Points.map enc_gauge_Point)) (hc : Ctx G (.box b_ [.int .i64 at_.Left, .int .i64 at_.Right, .int .i64 at_.Gap, .int .i64 at_.Step_, .slice at__Points_p at_.Points.length at__Points_c] 55 :: Lf) w) {res : Bool} (hF : gauge_rising_s2 N many at_ = some res) : Calls Try.prog 76 #[.int .i64 many, .func (.func 77) #[] #[.pointer (some ⟨b_, 0, none⟩)]] w (fun e w => e = .returned (.bool res) ∧ Ctx G (.box b_ [.int .i64 at_.Left, .int .i64 at_.Right, .int .i64 at_.Gap, .int .i64 at_.Step_, .slice at__Points_p at_.Points.length at__Points_c] 55 :: Lf) w) := by
  unfold gauge_rising_s2 at hF
  refine fnIn (args := [.int .i64 many, .func (.func 77) #[] #[.pointer (some ⟨b_, 0, none⟩)]]) Try.func76 rfl Try.ntmps76 rfl fun a hf => ?_
  refine wp_seq_k fun K1 h1 => ?_
  refine cReg ?_
  refine stP hf rfl rfl rfl (pA rfl) fun a hf => ?_
  refine cNil ?_
  refine h1 _ _ ?_
  refine wp_seq_k fun K2 h2 => ?_
  refine wp_seq_k fun K3 h3 => ?_
  refine cReg ?_
  refine stP hf rfl rfl rfl (pA rfl) fun a hf => ?_
  refine cNil ?_
  refine h3 _ _ ?_
  refine wp_block ?_
  obtain ⟨x4, hx4, hF⟩ := bnd_some hF
  let S4 : Int → Act → World → Prop := (fun (zz : Int) a w => Has 19 a [(0, .int .i64 many), (1, .func (.func 77) #[] #[.pointer (some ⟨b_, 0, none⟩)]), (5, .int .i64 zz)] ∧ Ctx G (.box b_ [.int .i64 at_.Left, .int .i64 at_.Right, .int .i64 at_.Gap, .int .i64 at_.Step_, .slice at__Points_p at_.Points.length at__Points_c] 55 :: Lf) w)
  have hr4 : ∀ (zz : Int) a w, x4 = .go zz → S4 zz a w → K2 a w := by
    rintro i_1 a w rfl ⟨hf, hc⟩
    replace hF : _ = some res := hF
    refine h2 _ _ ?_
    refine wp_seq_k fun K5 h5 => ?_
    refine cReg ?_
    refine stP hf rfl rfl rfl (pA rfl) fun a hf => ?_
    refine cNil ?_
    refine h5 _ _ ?_
    refine wp_ret ?_
    obtain rfl := Option.some.inj hF
    exact fnOut1 (by simp) rfl Try.results76 hf hc (show look _ 4 = _ from rfl) ⟨rfl, hc⟩
  have ho4 : ∀ r, x4 = .out r → r = res := by
    rintro r rfl
    exact Option.some.inj hF
  refine cLoop N (loopW (S := S4) (x := x4) ?_ N 1 _ _ ⟨hf.keep ⟨rfl, rfl, rfl, trivial⟩, hc⟩ hx4)
  clear hF hf hc
  rintro i_1 st4 a w KB4 ⟨hf, hc⟩ hF hfin4 hK4
  unfold gauge_rising_s2_b4 at hF
  refine wp_seq_k fun K6 h6 => ?_
  refine wp_seq_k fun K7 h7 => ?_
  refine cReg ?_
  refine stP hf rfl rfl rfl (pM rfl) fun a hf => ?_
  refine stP hf rfl rfl rfl (pM rfl) fun a hf => ?_
  refine stP hf rfl rfl rfl (pLt rfl rfl) fun a hf => ?_
  refine cNil ?_
  refine h7 _ _ ?_
  refine cCond (b := (decide (i_1 < many))) hf rfl (fun hb => ?_) (fun hb => ?_)
  · replace hF := condT hb hF
    clear hb
    refine wp_skip ?_
    refine h6 _ _ ?_
    refine wp_seq_k fun K8 h8 => ?_
    refine wp_block ?_
    refine wp_seq_k fun K9 h9 => ?_
    refine cReg ?_
    refine stP hf rfl rfl rfl (pM rfl) fun a hf => ?_
    refine stP hf rfl rfl rfl (pM rfl) fun a hf => ?_
    obtain ⟨r, hr, hF⟩ := bnd_some hF
    refine stE hf hc rfl rfl rfl (eC (v := .int .i64 r) (vs := [.int .i64 i_1]) (caps := [.pointer (some ⟨b_, 0, none⟩)]) en_77 rfl rfl rfl rfl (fun w hc => (gauge_CheckSite_2_ok i_1 at_ h_at__Points (hc.pick k0) hr).mono fun e w h => ⟨h.1, (h.2.unpick k0)⟩)) fun a w hf hc => ?_
    refine stP hf rfl rfl rfl (pM rfl) fun a hf => ?_
    refine stP hf rfl rfl rfl (pM rfl) fun a hf => ?_
    refine stP hf rfl rfl rfl (pSub rfl rfl) fun a hf => ?_
    obtain ⟨r_1, hr_1, hF⟩ := bnd_some hF
    refine stE hf hc rfl rfl rfl (eC (v := .int .i64 r_1) (vs := [.int .i64 (W (i_1 - 1))]) (caps := [.pointer (some ⟨b_, 0, none⟩)]) en_77 rfl rfl rfl rfl (fun w hc => (gauge_CheckSite_2_ok (W (i_1 - 1)) at_ h_at__Points (hc.pick k0) hr_1).mono fun e w h => ⟨h.1, (h.2.unpick k0)⟩)) fun a w hf hc => ?_
    refine stP hf rfl rfl rfl (pLe rfl rfl) fun a hf => ?_
    refine cNil ?_
    refine h9 _ _ ?_
    refine cCond (b := (decide (r ≤ r_1))) hf rfl (fun hb => ?_) (fun hb => ?_)
    · replace hF := condT hb hF
      clear hb
      refine wp_seq_k fun K10 h10 => ?_
      refine cReg ?_
      refine stP hf rfl rfl rfl (pA rfl) fun a hf => ?_
      refine cNil ?_
      refine h10 _ _ ?_
      refine wp_ret ?_
      refine xBlkR ?_
      refine xThenR ?_
      refine xThenR ?_
      have he := Option.some.inj hF
      rw [← he] at hfin4
      replace hF := ho4 _ hfin4
      refine xBlkR ?_
      refine xThenR ?_
      obtain rfl := hF
      exact fnOut1 (by simp) rfl Try.results76 hf hc (show look _ 4 = _ from rfl) ⟨rfl, hc⟩
    · replace hF := condF hb hF
      clear hb
      refine wp_skip ?_
      refine h8 _ _ ?_
      refine cReg ?_
      refine stP hf rfl rfl rfl (pM rfl) fun a hf => ?_
      refine stP hf rfl rfl rfl (pAdd rfl rfl) fun a hf => ?_
      refine stP hf rfl rfl rfl (pA rfl) fun a hf => ?_
      refine cNil ?_
      exact hK4 (W (i_1 + 1)) _ _ (Option.some.inj hF).symm ⟨hf.keep ⟨rfl, rfl, rfl, trivial⟩, hc⟩
  · replace hF := condF hb hF
    clear hb
    refine wp_exit ?_
    refine xThen ?_
    refine xThen ?_
    have he := Option.some.inj hF
    rw [← he] at hfin4
    refine cHit ?_
    exact hr4 _ _ _ hfin4 ⟨hf.keep ⟨rfl, rfl, rfl, trivial⟩, hc⟩

def gauge_CheckSite (N : Nat) (s_ : gauge_Site) : Option (Int) :=
  cond (decide (30 < ((s_.Points.length : Nat) : Int)))
  (some 3)
  (Option.bind (cond (((!(gauge_shore s_.Left s_.Right)) || (!(gauge_in s_.Gap 1 10000))) || (!(gauge_in s_.Step_ 0 2000))) (some true) (Option.bind (gauge_every_gauge_Point N s_.Points s_) fun r =>
  some (!r))) fun t_1 =>
  cond t_1
  (some 40)
  (Option.bind (gauge_rising_s2 N ((s_.Points.length : Nat) : Int) s_) fun r_1 =>
  cond (!r_1)
  (some 9)
  (some 0)))
theorem gauge_CheckSite_ok {N : Nat} {G : Pers} {Lf : List Ent} {w : World} (s_ : gauge_Site) {s__Points_p : Option Addr} {s__Points_c : Nat} (h_s__Points : Rd G 3 s__Points_p s__Points_c (s_.Points.map enc_gauge_Point)) (hc : Ctx G (Lf) w) {res : Int} (hF : gauge_CheckSite N s_ = some res) : Calls Try.prog 35 #[.agg #[.int .i64 s_.Left, .int .i64 s_.Right, .int .i64 s_.Gap, .int .i64 s_.Step_, .slice s__Points_p s_.Points.length s__Points_c]] w (fun e w => e = .returned (.int .i64 res) ∧ Ctx G (Lf) w) := by
  unfold gauge_CheckSite at hF
  refine fnIn (args := [.agg #[.int .i64 s_.Left, .int .i64 s_.Right, .int .i64 s_.Gap, .int .i64 s_.Step_, .slice s__Points_p s_.Points.length s__Points_c]]) Try.func35 rfl Try.ntmps35 rfl fun a hf => ?_
  refine wp_seq_k fun K1 h1 => ?_
  refine cReg ?_
  refine stBx (cs := [.int .i64 s_.Left, .int .i64 s_.Right, .int .i64 s_.Gap, .int .i64 s_.Step_, .slice s__Points_p s_.Points.length s__Points_c]) hf hc rfl rfl rfl rfl fun b_1 a w hf hc => ?_
  refine stP hf rfl rfl rfl (pA rfl) fun a hf => ?_
  refine cNil ?_
  refine h1 _ _ ?_
  refine wp_seq_k fun K2 h2 => ?_
  refine wp_block ?_
  refine wp_seq_k fun K3 h3 => ?_
  refine cReg ?_
  refine stP hf rfl rfl rfl (pFA fa_55_4 rfl) fun a hf => ?_
  refine stE hf hc rfl rfl rfl (eLd1 sc_53 rfl (cell_box m0 rfl)) fun a w hf hc => ?_
  refine stP hf rfl rfl rfl (pLenS Try.underlying53 rfl) fun a hf => ?_
  refine stP hf rfl rfl rfl (pGt rfl rfl) fun a hf => ?_
  refine stP hf rfl rfl rfl (pA rfl) fun a hf => ?_
  refine cNil ?_
  refine h3 _ _ ?_
  refine cCond (b := (decide (30 < ((s_.Points.length : Nat) : Int)))) hf rfl (fun hb => ?_) (fun hb => ?_)
  · replace hF := condT hb hF
    clear hb
    refine wp_seq_k fun K4 h4 => ?_
    refine cReg ?_
    refine stP hf rfl rfl rfl (pA rfl) fun a hf => ?_
    refine cNil ?_
    refine h4 _ _ ?_
    refine wp_ret ?_
    refine xBlkR ?_
    refine xThenR ?_
    obtain rfl := Option.some.inj hF
    replace hc := hc.drop k0
    exact fnOut1 (by simp) rfl Try.results35 hf hc (show look _ 2 = _ from rfl) ⟨rfl, hc⟩
  · replace hF := condF hb hF
    clear hb
    refine wp_seq_k fun K5 h5 => ?_
    refine cReg ?_
    refine stP hf rfl rfl rfl (pFA fa_55_0 rfl) fun a hf => ?_
    refine stE hf hc rfl rfl rfl (eLd1 sc_3 rfl (cell_box m0 rfl)) fun a w hf hc => ?_
    refine stP hf rfl rfl rfl (pFA fa_55_1 rfl) fun a hf => ?_
    refine stE hf hc rfl rfl rfl (eLd1 sc_3 rfl (cell_box m0 rfl)) fun a w hf hc => ?_
    refine stE hf hc rfl rfl rfl (eC (v := .bool (gauge_shore s_.Left s_.Right)) (vs := [.int .i64 s_.Left, .int .i64 s_.Right]) (caps := []) en_73 rfl rfl rfl rfl (fun w hc => gauge_shore_ok s_.Left s_.Right hc rfl)) fun a w hf hc => ?_
    refine stP hf rfl rfl rfl (pNot rfl) fun a hf => ?_
    refine stP hf rfl rfl rfl (pM rfl) fun a hf => ?_
    refine stCut 5 (fun a w => Has 41 a [(1, .pointer (some ⟨b_1, 0, none⟩)), (9, .pointer (some ⟨b_1, 0, none⟩)), (10, .int .i64 s_.Left), (11, .pointer (some ⟨b_1, 1, none⟩)), (12, .int .i64 s_.Right), (13, .bool (gauge_shore s_.Left s_.Right)), (14, .bool (!(gauge_shore s_.Left s_.Right))), (15, .bool (!(gauge_shore s_.Left s_.Right))), (20, .bool ((!(gauge_shore s_.Left s_.Right)) || (!(gauge_in s_.Gap 1 10000))))] ∧ Ctx G (.box b_1 [.int .i64 s_.Left, .int .i64 s_.Right, .int .i64 s_.Gap, .int .i64 s_.Step_, .slice s__Points_p s_.Points.length s__Points_c] 55 :: Lf) w) ?_ ?_
    · cases hb : (!(gauge_shore s_.Left s_.Right))
      · rw [hb] at hf
        refine stP hf rfl rfl rfl (pFA fa_55_2 rfl) fun a hf => ?_
        refine stE hf hc rfl rfl rfl (eLd1 sc_3 rfl (cell_box m0 rfl)) fun a w hf hc => ?_
        refine stE hf hc rfl rfl rfl (eC (v := .bool (gauge_in s_.Gap 1 10000)) (vs := [.int .i64 s_.Gap, .int .i64 1, .int .i64 10000]) (caps := []) en_55 rfl rfl rfl rfl (fun w hc => gauge_in_ok s_.Gap 1 10000 hc rfl)) fun a w hf hc => ?_
        refine stP hf rfl rfl rfl (pNot rfl) fun a hf => ?_
        refine stP hf rfl rfl rfl (pPf rfl rfl) fun a hf => ?_
        exact cNil ⟨hf.keep ⟨rfl, rfl, rfl, rfl, rfl, rfl, rfl, rfl, rfl, trivial⟩, hc⟩
      · rw [hb] at hf
        refine stS hf rfl rfl rfl fun a hf => ?_
        refine stS hf rfl rfl rfl fun a hf => ?_
        refine stS hf rfl rfl rfl fun a hf => ?_
        refine stS hf rfl rfl rfl fun a hf => ?_
        refine stP hf rfl rfl rfl (pPt rfl rfl) fun a hf => ?_
        exact cNil ⟨hf.keep ⟨rfl, rfl, rfl, rfl, rfl, rfl, rfl, rfl, rfl, trivial⟩, hc⟩
    intro a w ⟨hf, hc⟩
    refine stP hf rfl rfl rfl (pM rfl) fun a hf => ?_
    refine stCut 5 (fun a w => Has 41 a [(1, .pointer (some ⟨b_1, 0, none⟩)), (9, .pointer (some ⟨b_1, 0, none⟩)), (10, .int .i64 s_.Left), (11, .pointer (some ⟨b_1, 1, none⟩)), (12, .int .i64 s_.Right), (13, .bool (gauge_shore s_.Left s_.Right)), (14, .bool (!(gauge_shore s_.Left s_.Right))), (15, .bool (!(gauge_shore s_.Left s_.Right))), (20, .bool ((!(gauge_shore s_.Left s_.Right)) || (!(gauge_in s_.Gap 1 10000)))), (21, .bool ((!(gauge_shore s_.Left s_.Right)) || (!(gauge_in s_.Gap 1 10000)))), (26, .bool (((!(gauge_shore s_.Left s_.Right)) || (!(gauge_in s_.Gap 1 10000))) || (!(gauge_in s_.Step_ 0 2000))))] ∧ Ctx G (.box b_1 [.int .i64 s_.Left, .int .i64 s_.Right, .int .i64 s_.Gap, .int .i64 s_.Step_, .slice s__Points_p s_.Points.length s__Points_c] 55 :: Lf) w) ?_ ?_
    · cases hb : ((!(gauge_shore s_.Left s_.Right)) || (!(gauge_in s_.Gap 1 10000)))
      · rw [hb] at hf
        refine stP hf rfl rfl rfl (pFA fa_55_3 rfl) fun a hf => ?_
        refine stE hf hc rfl rfl rfl (eLd1 sc_3 rfl (cell_box m0 rfl)) fun a w hf hc => ?_
        refine stE hf hc rfl rfl rfl (eC (v := .bool (gauge_in s_.Step_ 0 2000)) (vs := [.int .i64 s_.Step_, .int .i64 0, .int .i64 2000]) (caps := []) en_55 rfl rfl rfl rfl (fun w hc => gauge_in_ok s_.Step_ 0 2000 hc rfl)) fun a w hf hc => ?_
        refine stP hf rfl rfl rfl (pNot rfl) fun a hf => ?_
        refine stP hf rfl rfl rfl (pPf rfl rfl) fun a hf => ?_
        exact cNil ⟨hf.keep ⟨rfl, rfl, rfl, rfl, rfl, rfl, rfl, rfl, rfl, rfl, rfl, trivial⟩, hc⟩
      · rw [hb] at hf
        refine stS hf rfl rfl rfl fun a hf => ?_
        refine stS hf rfl rfl rfl fun a hf => ?_
        refine stS hf rfl rfl rfl fun a hf => ?_
        refine stS hf rfl rfl rfl fun a hf => ?_
        refine stP hf rfl rfl rfl (pPt rfl rfl) fun a hf => ?_
        exact cNil ⟨hf.keep ⟨rfl, rfl, rfl, rfl, rfl, rfl, rfl, rfl, rfl, rfl, rfl, trivial⟩, hc⟩
    intro a w ⟨hf, hc⟩
    refine stP hf rfl rfl rfl (pM rfl) fun a hf => ?_
    obtain ⟨t_1, ht_1, hF⟩ := bnd_some hF
    refine stCut 6 (fun a w => Has 41 a [(1, .pointer (some ⟨b_1, 0, none⟩)), (9, .pointer (some ⟨b_1, 0, none⟩)), (10, .int .i64 s_.Left), (11, .pointer (some ⟨b_1, 1, none⟩)), (12, .int .i64 s_.Right), (13, .bool (gauge_shore s_.Left s_.Right)), (14, .bool (!(gauge_shore s_.Left s_.Right))), (15, .bool (!(gauge_shore s_.Left s_.Right))), (20, .bool ((!(gauge_shore s_.Left s_.Right)) || (!(gauge_in s_.Gap 1 10000)))), (21, .bool ((!(gauge_shore s_.Left s_.Right)) || (!(gauge_in s_.Gap 1 10000)))), (26, .bool (((!(gauge_shore s_.Left s_.Right)) || (!(gauge_in s_.Gap 1 10000))) || (!(gauge_in s_.Step_ 0 2000)))), (27, .bool (((!(gauge_shore s_.Left s_.Right)) || (!(gauge_in s_.Gap 1 10000))) || (!(gauge_in s_.Step_ 0 2000)))), (33, .bool t_1)] ∧ Ctx G (.box b_1 [.int .i64 s_.Left, .int .i64 s_.Right, .int .i64 s_.Gap, .int .i64 s_.Step_, .slice s__Points_p s_.Points.length s__Points_c] 55 :: Lf) w) ?_ ?_
    · cases hb : (((!(gauge_shore s_.Left s_.Right)) || (!(gauge_in s_.Gap 1 10000))) || (!(gauge_in s_.Step_ 0 2000)))
      · rw [hb] at hf
        have hF := condF hb ht_1
        refine stP hf rfl rfl rfl (pFA fa_55_4 rfl) fun a hf => ?_
        refine stE hf hc rfl rfl rfl (eLd1 sc_53 rfl (cell_box m0 rfl)) fun a w hf hc => ?_
        refine stP hf rfl rfl rfl (pMF (us := [.pointer (some ⟨b_1, 0, none⟩)]) rfl rfl) fun a hf => ?_
        obtain ⟨r, hr, hF⟩ := bnd_some hF
        refine stE hf hc rfl rfl rfl (eC (v := .bool r) (vs := [.slice s__Points_p s_.Points.length s__Points_c, .func (.func 75) #[] #[.pointer (some ⟨b_1, 0, none⟩)]]) (caps := []) en_74 rfl rfl rfl rfl (fun w hc => (gauge_every_gauge_Point_ok s_.Points s_ h_s__Points h_s__Points (hc.pick k0) hr).mono fun e w h => ⟨h.1, (h.2.unpick k0)⟩)) fun a w hf hc => ?_
        refine stP hf rfl rfl rfl (pNot rfl) fun a hf => ?_
        refine stP hf rfl rfl rfl (pPf rfl rfl) fun a hf => ?_
        obtain rfl := Option.some.inj hF
        exact cNil ⟨hf.keep ⟨rfl, rfl, rfl, rfl, rfl, rfl, rfl, rfl, rfl, rfl, rfl, rfl, rfl, trivial⟩, hc⟩
      · rw [hb] at hf
        have hF := condT hb ht_1
        obtain rfl := Option.some.inj hF
        refine stS hf rfl rfl rfl fun a hf => ?_
        refine stS hf rfl rfl rfl fun a hf => ?_
        refine stS hf rfl rfl rfl fun a hf => ?_
        refine stS hf rfl rfl rfl fun a hf => ?_
        refine stS hf rfl rfl rfl fun a hf => ?_
        refine stP hf rfl rfl rfl (pPt rfl rfl) fun a hf => ?_
        exact cNil ⟨hf.keep ⟨rfl, rfl, rfl, rfl, rfl, rfl, rfl, rfl, rfl, rfl, rfl, rfl, rfl, trivial⟩, hc⟩
    intro a w ⟨hf, hc⟩
    refine stP hf rfl rfl rfl (pA rfl) fun a hf => ?_
    refine cNil ?_
    refine h5 _ _ ?_
    refine cCond (b := t_1) hf rfl (fun hb => ?_) (fun hb => ?_)
    · replace hF := condT hb hF
      clear hb
      refine wp_seq_k fun K6 h6 => ?_
      refine cReg ?_
      refine stP hf rfl rfl rfl (pA rfl) fun a hf => ?_
      refine cNil ?_
      refine h6 _ _ ?_
      refine wp_ret ?_
      refine xBlkR ?_
      refine xThenR ?_
      obtain rfl := Option.some.inj hF
      replace hc := hc.drop k0
      exact fnOut1 (by simp) rfl Try.results35 hf hc (show look _ 2 = _ from rfl) ⟨rfl, hc⟩
    · replace hF := condF hb hF
      clear hb
      refine wp_seq_k fun K7 h7 => ?_
      refine cReg ?_
      refine stP hf rfl rfl rfl (pFA fa_55_4 rfl) fun a hf => ?_
      refine stE hf hc rfl rfl rfl (eLd1 sc_53 rfl (cell_box m0 rfl)) fun a w hf hc => ?_
      refine stP hf rfl rfl rfl (pLenS Try.underlying53 rfl) fun a hf => ?_
      refine stP hf rfl rfl rfl (pMF (us := [.pointer (some ⟨b_1, 0, none⟩)]) rfl rfl) fun a hf => ?_
      obtain ⟨r_1, hr_1, hF⟩ := bnd_some hF
      refine stE hf hc rfl rfl rfl (eC (v := .bool r_1) (vs := [.int .i64 ((s_.Points.length : Nat) : Int), .func (.func 77) #[] #[.pointer (some ⟨b_1, 0, none⟩)]]) (caps := []) en_76 rfl rfl rfl rfl (fun w hc => (gauge_rising_s2_ok ((s_.Points.length : Nat) : Int) s_ h_s__Points (hc.pick k0) hr_1).mono fun e w h => ⟨h.1, (h.2.unpick k0)⟩)) fun a w hf hc => ?_
      refine stP hf rfl rfl rfl (pNot rfl) fun a hf => ?_
      refine stP hf rfl rfl rfl (pA rfl) fun a hf => ?_
      refine cNil ?_
      refine h7 _ _ ?_
      refine cCond (b := (!r_1)) hf rfl (fun hb => ?_) (fun hb => ?_)
      · replace hF := condT hb hF
        clear hb
        refine wp_seq_k fun K8 h8 => ?_
        refine cReg ?_
        refine stP hf rfl rfl rfl (pA rfl) fun a hf => ?_
        refine cNil ?_
        refine h8 _ _ ?_
        refine wp_ret ?_
        refine xBlkR ?_
        refine xThenR ?_
        obtain rfl := Option.some.inj hF
        replace hc := hc.drop k0
        exact fnOut1 (by simp) rfl Try.results35 hf hc (show look _ 2 = _ from rfl) ⟨rfl, hc⟩
      · replace hF := condF hb hF
        clear hb
        refine wp_skip ?_
        refine h2 _ _ ?_
        refine wp_seq_k fun K9 h9 => ?_
        refine cReg ?_
        refine stP hf rfl rfl rfl (pA rfl) fun a hf => ?_
        refine cNil ?_
        refine h9 _ _ ?_
        refine wp_ret ?_
        obtain rfl := Option.some.inj hF
        replace hc := hc.drop k0
        exact fnOut1 (by simp) rfl Try.results35 hf hc (show look _ 2 = _ from rfl) ⟨rfl, hc⟩

def gauge_far (N : Nat)  : Option (gauge_spent) :=
  some (⟨1000000000, 0⟩ : gauge_spent)
theorem gauge_far_ok {N : Nat} {G : Pers} {Lf : List Ent} {w : World}    (hc : Ctx G (Lf) w) {res : gauge_spent} (hF : gauge_far N = some res) : Calls Try.prog 67 #[] w (fun e w => e = .returned (.agg #[.int .i64 res.cost, .int .i64 res.points]) ∧ Ctx G (Lf) w) := by
  unfold gauge_far at hF
  refine fnIn (args := []) Try.func67 rfl Try.ntmps67 rfl fun a hf => ?_
  refine wp_seq_k fun K1 h1 => ?_
  refine cReg ?_
  refine stAl (cs := [.int .i64 0, .int .i64 0]) hf hc rfl rfl zr_126 rfl fun b_1 a w hf hc => ?_
  refine cNil ?_
  refine h1 _ _ ?_
  refine wp_seq_k fun K2 h2 => ?_
  refine cReg ?_
  refine stP hf rfl rfl rfl (pBuildS (cells := [.int .i64 1000000000, .int .i64 0]) bt_126 rfl rfl) fun a hf => ?_
  refine stSt (vs := [.int .i64 1000000000, .int .i64 0]) hf hc rfl rfl rfl rfl sz_126 rfl rfl u0 fun w hc => ?_
  refine cNil ?_
  refine h2 _ _ ?_
  refine wp_ret ?_
  obtain rfl := Option.some.inj hF
  exact fnOut1 (by simp) rfl Try.results67 hf hc (rv_cellN (vs := [.int .i64 1000000000, .int .i64 0]) ag_126 rfl rfl (cells_box (n := 2) m0 rfl)) ⟨rfl, (hc.drop k0)⟩

def gauge_work_station (N : Nat) (w_ : gauge_work) (i_ : Int) : Option (gauge_Point) :=
  cond (i_ == 0)
  (some (⟨w_.Site.Left, 0, 0⟩ : gauge_Point))
  (cond (i_ == (W (((w_.Site.Points.length : Nat) : Int) + 1)))
  (some (⟨w_.Site.Right, 0, 0⟩ : gauge_Point))
  (Option.bind (getI w_.Site.Points (W (i_ - 1))) fun e_1 =>
  some e_1))
theorem gauge_work_station_ok {N : Nat} {G : Pers} {Lf : List Ent} {w : World} (w_ : gauge_work) (i_ : Int) {b_ : Nat} {w__Site_Points_p : Option Addr} {w__Site_Points_c : Nat} {mb : Nat} (h_w__Site_Points : Rd G 3 w__Site_Points_p w__Site_Points_c (w_.Site.Points.map enc_gauge_Point)) (hc : Ctx G (.box b_ (catc [.int .i64 w_.Site.Left, .int .i64 w_.Site.Right, .int .i64 w_.Site.Gap, .int .i64 w_.Site.Step_, .slice w__Site_Points_p w_.Site.Points.length w__Site_Points_c] 32 enc_gauge_spent w_.least [.map (some mb)]) 130 :: .im mb (fun j => (w_.from_ j).map (Value.int .i64)) none :: Lf) w) {res : gauge_Point} (hF : gauge_work_station N w_ i_ = some res) : Calls Try.prog 84 #[.pointer (some ⟨b_, 0, none⟩), .int .i64 i_] w (fun e w => e = .returned (.agg #[.int .i64 res.At, .int .i64 res.Depth, .int .i64 res.Cost]) ∧ Ctx G (.box b_ (catc [.int .i64 w_.Site.Left, .int .i64 w_.Site.Right, .int .i64 w_.Site.Gap, .int .i64 w_.Site.Step_, .slice w__Site_Points_p w_.Site.Points.length w__Site_Points_c] 32 enc_gauge_spent w_.least [.map (some mb)]) 130 :: .im mb (fun j => (w_.from_ j).map (Value.int .i64)) none :: Lf) w) := by
  unfold gauge_work_station at hF
  refine fnIn (args := [.pointer (some ⟨b_, 0, none⟩), .int .i64 i_]) Try.func84 rfl Try.ntmps84 rfl fun a hf => ?_
  refine wp_seq_k fun K1 h1 => ?_
  refine cReg ?_
  refine stAl (cs := [.int .i64 0, .int .i64 0, .int .i64 0]) hf hc rfl rfl zr_64 rfl fun b_1 a w hf hc => ?_
  refine cNil ?_
  refine h1 _ _ ?_
  refine wp_seq_k fun K2 h2 => ?_
  refine wp_seq_k fun K3 h3 => ?_
  refine cReg ?_
  refine stP hf rfl rfl rfl (pM rfl) fun a hf => ?_
  refine cNil ?_
  refine h3 _ _ ?_
  refine wp_block ?_
  refine wp_seq_k fun K4 h4 => ?_
  refine cReg ?_
  refine stP hf rfl rfl rfl (pEq rfl rfl) fun a hf => ?_
  refine stP hf rfl rfl rfl (pA rfl) fun a hf => ?_
  refine cNil ?_
  refine h4 _ _ ?_
  refine cCond (b := (i_ == 0)) hf rfl (fun hb => ?_) (fun hb => ?_)
  · replace hF := condT hb hF
    clear hb
    refine wp_seq_k fun K5 h5 => ?_
    refine cReg ?_
    refine stP hf rfl rfl rfl (pM rfl) fun a hf => ?_
    refine stP hf rfl rfl rfl (pNC rfl) fun a hf => ?_
    refine stP hf rfl rfl rfl (pFA fa_130_0 rfl) fun a hf => ?_
    refine stP hf rfl rfl rfl (pFA fa_55_0 rfl) fun a hf => ?_
    refine stE hf hc rfl rfl rfl (eLd1 sc_3 rfl (cell_box m1 rfl)) fun a w hf hc => ?_
    refine stP hf rfl rfl rfl (pBuildS (cells := [.int .i64 w_.Site.Left, .int .i64 0, .int .i64 0]) bt_64 rfl rfl) fun a hf => ?_
    refine stSt (vs := [.int .i64 w_.Site.Left, .int .i64 0, .int .i64 0]) hf hc rfl rfl rfl rfl sz_64 rfl rfl u0 fun w hc => ?_
    refine cNil ?_
    refine h5 _ _ ?_
    refine wp_ret ?_
    refine xBlkR ?_
    refine xThenR ?_
    obtain rfl := Option.some.inj hF
    replace hc := hc.pick k0
    replace hc := hc.pick k2
    replace hc := hc.pick k2
    exact fnOut1 (by simp) rfl Try.results84 hf hc (rv_cellN (vs := [.int .i64 w_.Site.Left, .int .i64 0, .int .i64 0]) ag_64 rfl rfl (cells_box (n := 3) m2 rfl)) ⟨rfl, (hc.drop k2)⟩
  · replace hF := condF hb hF
    clear hb
    refine wp_seq_k fun K6 h6 => ?_
    refine cReg ?_
    refine stP hf rfl rfl rfl (pM rfl) fun a hf => ?_
    refine stP hf rfl rfl rfl (pNC rfl) fun a hf => ?_
    refine stP hf rfl rfl rfl (pFA fa_130_0 rfl) fun a hf => ?_
    refine stP hf rfl rfl rfl (pFA fa_55_4 rfl) fun a hf => ?_
    refine stE hf hc rfl rfl rfl (eLd1 sc_53 rfl (cell_box m1 rfl)) fun a w hf hc => ?_
    refine stP hf rfl rfl rfl (pLenS Try.underlying53 rfl) fun a hf => ?_
    refine stP hf rfl rfl rfl (pAdd rfl rfl) fun a hf => ?_
    refine stP hf rfl rfl rfl (pEq rfl rfl) fun a hf => ?_
    refine stP hf rfl rfl rfl (pA rfl) fun a hf => ?_
    refine cNil ?_
    refine h6 _ _ ?_
    refine cCond (b := (i_ == (W (((w_.Site.Points.length : Nat) : Int) + 1)))) hf rfl (fun hb => ?_) (fun hb => ?_)
    · replace hF := condT hb hF
      clear hb
      refine wp_seq_k fun K7 h7 => ?_
      refine cReg ?_
      refine stP hf rfl rfl rfl (pM rfl) fun a hf => ?_
      refine stP hf rfl rfl rfl (pNC rfl) fun a hf => ?_
      refine stP hf rfl rfl rfl (pFA fa_130_0 rfl) fun a hf => ?_
      refine stP hf rfl rfl rfl (pFA fa_55_1 rfl) fun a hf => ?_
      refine stE hf hc rfl rfl rfl (eLd1 sc_3 rfl (cell_box m1 rfl)) fun a w hf hc => ?_
      refine stP hf rfl rfl rfl (pBuildS (cells := [.int .i64 w_.Site.Right, .int .i64 0, .int .i64 0]) bt_64 rfl rfl) fun a hf => ?_
      refine stSt (vs := [.int .i64 w_.Site.Right, .int .i64 0, .int .i64 0]) hf hc rfl rfl rfl rfl sz_64 rfl rfl u0 fun w hc => ?_
      refine cNil ?_
      refine h7 _ _ ?_
      refine wp_ret ?_
      refine xBlkR ?_
      refine xThenR ?_
      obtain rfl := Option.some.inj hF
      replace hc := hc.pick k0
      replace hc := hc.pick k2
      replace hc := hc.pick k2
      exact fnOut1 (by simp) rfl Try.results84 hf hc (rv_cellN (vs := [.int .i64 w_.Site.Right, .int .i64 0, .int .i64 0]) ag_64 rfl rfl (cells_box (n := 3) m2 rfl)) ⟨rfl, (hc.drop k2)⟩
    · replace hF := condF hb hF
      clear hb
      refine wp_skip ?_
      refine h2 _ _ ?_
      refine wp_seq_k fun K8 h8 => ?_
      refine cReg ?_
      refine stP hf rfl rfl rfl (pM rfl) fun a hf => ?_
      refine stP hf rfl rfl rfl (pNC rfl) fun a hf => ?_
      refine stP hf rfl rfl rfl (pFA fa_130_0 rfl) fun a hf => ?_
      refine stP hf rfl rfl rfl (pFA fa_55_4 rfl) fun a hf => ?_
      refine stE hf hc rfl rfl rfl (eLd1 sc_53 rfl (cell_box m1 rfl)) fun a w hf hc => ?_
      refine stP hf rfl rfl rfl (pM rfl) fun a hf => ?_
      refine stP hf rfl rfl rfl (pSub rfl rfl) fun a hf => ?_
      obtain ⟨e_1, he_1, hF⟩ := bnd_some hF
      obtain ⟨b_2, o, qa, qp⟩ := h_w__Site_Points.atm he_1
      refine stP hf rfl rfl rfl (pIA Try.underlying53 sz_64 rfl rfl qa) fun a hf => ?_
      refine stE hf hc rfl rfl rfl (eLdN (vs := [.int .i64 e_1.At, .int .i64 e_1.Depth, .int .i64 e_1.Cost]) ag_64 rfl rfl (cells_pc qp (n := 3) (o' := 0) rfl)) fun a w hf hc => ?_
      refine stSt (vs := [.int .i64 e_1.At, .int .i64 e_1.Depth, .int .i64 e_1.Cost]) hf hc rfl rfl rfl rfl sz_64 rfl rfl u0 fun w hc => ?_
      refine cNil ?_
      refine h8 _ _ ?_
      refine wp_ret ?_
      obtain rfl := Option.some.inj hF
      replace hc := hc.pick k0
      replace hc := hc.pick k2
      replace hc := hc.pick k2
      exact fnOut1 (by simp) rfl Try.results84 hf hc (rv_cellN (vs := [.int .i64 e_1.At, .int .i64 e_1.Depth, .int .i64 e_1.Cost]) ag_64 rfl rfl (cells_box (n := 3) m2 rfl)) ⟨rfl, (hc.drop k2)⟩

def gauge_work_steps (N : Nat) (w_ : gauge_work) (a_ : Int) (b__1 : Int) : Option (Bool) :=
  Option.bind (gauge_work_station N w_ a_) fun r =>
  Option.bind (gauge_work_station N w_ b__1) fun r_1 =>
  some ((decide ((W (r_1.At - r.At)) ≤ w_.Site.Gap)) && (decide ((max (W (r.Depth - r_1.Depth)) (W (r_1.Depth - r.Depth))) ≤ w_.Site.Step_)))
theorem gauge_work_steps_ok {N : Nat} {G : Pers} {Lf : List Ent} {w : World} (w_ : gauge_work) (a_ : Int) (b__1 : Int) {b_ : Nat} {w__Site_Points_p : Option Addr} {w__Site_Points_c : Nat} {mb : Nat} (h_w__Site_Points : Rd G 3 w__Site_Points_p w__Site_Points_c (w_.Site.Points.map enc_gauge_Point)) (hc : Ctx G (.box b_ (catc [.int .i64 w_.Site.Left, .int .i64 w_.Site.Right, .int .i64 w_.Site.Gap, .int .i64 w_.Site.Step_, .slice w__Site_Points_p w_.Site.Points.length w__Site_Points_c] 32 enc_gauge_spent w_.least [.map (some mb)]) 130 :: .im mb (fun j => (w_.from_ j).map (Value.int .i64)) none :: Lf) w) {res : Bool} (hF : gauge_work_steps N w_ a_ b__1 = some res) : Calls Try.prog 82 #[.pointer (some ⟨b_, 0, none⟩), .int .i64 a_, .int .i64 b__1] w (fun e w => e = .returned (.bool res) ∧ Ctx G (.box b_ (catc [.int .i64 w_.Site.Left, .int .i64 w_.Site.Right, .int .i64 w_.Site.Gap, .int .i64 w_.Site.Step_, .slice w__Site_Points_p w_.Site.Points.length w__Site_Points_c] 32 enc_gauge_spent w_.least [.map (some mb)]) 130 :: .im mb (fun j => (w_.from_ j).map (Value.int .i64)) none :: Lf) w) := by
  unfold gauge_work_steps at hF
  refine fnIn (args := [.pointer (some ⟨b_, 0, none⟩), .int .i64 a_, .int .i64 b__1]) Try.func82 rfl Try.ntmps82 rfl fun a hf => ?_
  refine wp_seq_k fun K1 h1 => ?_
  refine cReg ?_
  refine stP hf rfl rfl rfl (pA rfl) fun a hf => ?_
  refine cNil ?_
  refine h1 _ _ ?_
  refine wp_seq_k fun K2 h2 => ?_
  refine cReg ?_
  refine stP hf rfl rfl rfl (pM rfl) fun a hf => ?_
  refine stP hf rfl rfl rfl (pM rfl) fun a hf => ?_
  obtain ⟨r, hr, hF⟩ := bnd_some hF
  refine stE hf hc rfl rfl rfl (eC (v := .agg #[.int .i64 r.At, .int .i64 r.Depth, .int .i64 r.Cost]) (vs := [.pointer (some ⟨b_, 0, none⟩), .int .i64 a_]) (caps := []) en_84 rfl rfl rfl rfl (fun w hc => (gauge_work_station_ok w_ a_ h_w__Site_Points ((hc.pick k1).pick k1) hr).mono fun e w h => ⟨h.1, ((h.2.unpick k1).unpick k1)⟩)) fun a w hf hc => ?_
  refine stP hf rfl rfl rfl (pM rfl) fun a hf => ?_
  refine stP hf rfl rfl rfl (pM rfl) fun a hf => ?_
  obtain ⟨r_1, hr_1, hF⟩ := bnd_some hF
  refine stE hf hc rfl rfl rfl (eC (v := .agg #[.int .i64 r_1.At, .int .i64 r_1.Depth, .int .i64 r_1.Cost]) (vs := [.pointer (some ⟨b_, 0, none⟩), .int .i64 b__1]) (caps := []) en_84 rfl rfl rfl rfl (fun w hc => (gauge_work_station_ok w_ b__1 h_w__Site_Points ((hc.pick k1).pick k1) hr_1).mono fun e w h => ⟨h.1, ((h.2.unpick k1).unpick k1)⟩)) fun a w hf hc => ?_
  refine stAl (cs := [.int .i64 0, .int .i64 0, .int .i64 0]) hf hc rfl rfl zr_64 rfl fun b_1 a w hf hc => ?_
  refine stAl (cs := [.int .i64 0, .int .i64 0, .int .i64 0]) hf hc rfl rfl zr_64 rfl fun b_2 a w hf hc => ?_
  refine stSt (vs := [.int .i64 r.At, .int .i64 r.Depth, .int .i64 r.Cost]) hf hc rfl rfl rfl rfl sz_64 rfl rfl u1 fun w hc => ?_
  refine stSt (vs := [.int .i64 r_1.At, .int .i64 r_1.Depth, .int .i64 r_1.Cost]) hf hc rfl rfl rfl rfl sz_64 rfl rfl u0 fun w hc => ?_
  refine cNil ?_
  refine h2 _ _ ?_
  refine wp_seq_k fun K3 h3 => ?_
  refine cQ hc follows_mx (by kernel_rfl) ?_
  refine qE hf rfl rfl rfl (Pu.ev (pFA fa_64_0 rfl)) fun a hf => ?_
  refine qE hf rfl rfl rfl (eLd1 sc_3 rfl (cell_box m0 rfl)) fun a hf => ?_
  refine qE hf rfl rfl rfl (Pu.ev (pFA fa_64_0 rfl)) fun a hf => ?_
  refine qE hf rfl rfl rfl (eLd1 sc_3 rfl (cell_box m1 rfl)) fun a hf => ?_
  refine qE hf rfl rfl rfl (Pu.ev (pSub rfl rfl)) fun a hf => ?_
  refine qE hf rfl rfl rfl (Pu.ev (pM rfl)) fun a hf => ?_
  refine qE hf rfl rfl rfl (Pu.ev (pNC rfl)) fun a hf => ?_
  refine qE hf rfl rfl rfl (Pu.ev (pFA fa_130_0 rfl)) fun a hf => ?_
  refine qE hf rfl rfl rfl (Pu.ev (pFA fa_55_2 rfl)) fun a hf => ?_
  refine qE hf rfl rfl rfl (eLd1 sc_3 rfl (cell_box m2 rfl)) fun a hf => ?_
  refine qE hf rfl rfl rfl (Pu.ev (pLe rfl rfl)) fun a hf => ?_
  refine qE hf rfl rfl rfl (Pu.ev (pM rfl)) fun a hf => ?_
  refine qCut 18 (fun a => Has 45 a [(0, .pointer (some ⟨b_, 0, none⟩)), (6, .bool false), (7, .pointer (some ⟨b_1, 0, none⟩)), (8, .pointer (some ⟨b_2, 0, none⟩)), (15, .pointer (some ⟨b_2, 0, none⟩)), (16, .int .i64 r_1.At), (17, .pointer (some ⟨b_1, 0, none⟩)), (18, .int .i64 r.At), (19, .int .i64 (W (r_1.At - r.At))), (20, .pointer (some ⟨b_, 0, none⟩)), (21, .pointer (some ⟨b_, 0, none⟩)), (22, .pointer (some ⟨b_, 0, none⟩)), (23, .pointer (some ⟨b_, 2, none⟩)), (24, .int .i64 w_.Site.Gap), (25, .bool (decide ((W (r_1.At - r.At)) ≤ w_.Site.Gap))), (26, .bool (decide ((W (r_1.At - r.At)) ≤ w_.Site.Gap))), (44, .bool ((decide ((W (r_1.At - r.At)) ≤ w_.Site.Gap)) && (decide ((max (W (r.Depth - r_1.Depth)) (W (r_1.Depth - r.Depth))) ≤ w_.Site.Step_))))]) ?_ ?_
  · cases hb : (decide ((W (r_1.At - r.At)) ≤ w_.Site.Gap))
    · rw [hb] at hf
      refine qS hf rfl rfl rfl fun a hf => ?_
      refine qS hf rfl rfl rfl fun a hf => ?_
      refine qS hf rfl rfl rfl fun a hf => ?_
      refine qS hf rfl rfl rfl fun a hf => ?_
      refine qS hf rfl rfl rfl fun a hf => ?_
      refine qS hf rfl rfl rfl fun a hf => ?_
      refine qS hf rfl rfl rfl fun a hf => ?_
      refine qS hf rfl rfl rfl fun a hf => ?_
      refine qS hf rfl rfl rfl fun a hf => ?_
      refine qS hf rfl rfl rfl fun a hf => ?_
      refine qS hf rfl rfl rfl fun a hf => ?_
      refine qS hf rfl rfl rfl fun a hf => ?_
      refine qS hf rfl rfl rfl fun a hf => ?_
      refine qS hf rfl rfl rfl fun a hf => ?_
      refine qS hf rfl rfl rfl fun a hf => ?_
      refine qS hf rfl rfl rfl fun a hf => ?_
      refine qS hf rfl rfl rfl fun a hf => ?_
      refine qE hf rfl rfl rfl (Pu.ev (pPf rfl rfl)) fun a hf => ?_
      exact qNil (hf.keep ⟨rfl, rfl, rfl, rfl, rfl, rfl, rfl, rfl, rfl, rfl, rfl, rfl, rfl, rfl, rfl, rfl, rfl, trivial⟩)
    · rw [hb] at hf
      refine qE hf rfl rfl rfl (Pu.ev (pFA fa_64_1 rfl)) fun a hf => ?_
      refine qE hf rfl rfl rfl (eLd1 sc_3 rfl (cell_box m1 rfl)) fun a hf => ?_
      refine qE hf rfl rfl rfl (Pu.ev (pFA fa_64_1 rfl)) fun a hf => ?_
      refine qE hf rfl rfl rfl (eLd1 sc_3 rfl (cell_box m0 rfl)) fun a hf => ?_
      refine qE hf rfl rfl rfl (Pu.ev (pSub rfl rfl)) fun a hf => ?_
      refine qE hf rfl rfl rfl (Pu.ev (pFA fa_64_1 rfl)) fun a hf => ?_
      refine qE hf rfl rfl rfl (eLd1 sc_3 rfl (cell_box m0 rfl)) fun a hf => ?_
      refine qE hf rfl rfl rfl (Pu.ev (pFA fa_64_1 rfl)) fun a hf => ?_
      refine qE hf rfl rfl rfl (eLd1 sc_3 rfl (cell_box m1 rfl)) fun a hf => ?_
      refine qE hf rfl rfl rfl (Pu.ev (pSub rfl rfl)) fun a hf => ?_
      refine qE hf rfl rfl rfl (Pu.ev (pMax2 rfl rfl)) fun a hf => ?_
      refine qE hf rfl rfl rfl (Pu.ev (pM rfl)) fun a hf => ?_
      refine qE hf rfl rfl rfl (Pu.ev (pNC rfl)) fun a hf => ?_
      refine qE hf rfl rfl rfl (Pu.ev (pFA fa_130_0 rfl)) fun a hf => ?_
      refine qE hf rfl rfl rfl (Pu.ev (pFA fa_55_3 rfl)) fun a hf => ?_
      refine qE hf rfl rfl rfl (eLd1 sc_3 rfl (cell_box m2 rfl)) fun a hf => ?_
      refine qE hf rfl rfl rfl (Pu.ev (pLe rfl rfl)) fun a hf => ?_
      refine qE hf rfl rfl rfl (Pu.ev (pPt rfl rfl)) fun a hf => ?_
      exact qNil (hf.keep ⟨rfl, rfl, rfl, rfl, rfl, rfl, rfl, rfl, rfl, rfl, rfl, rfl, rfl, rfl, rfl, rfl, rfl, trivial⟩)
  intro a hf
  refine qE hf rfl rfl rfl (Pu.ev (pA rfl)) fun a hf => ?_
  intro w hc
  refine h3 _ _ ?_
  refine wp_ret ?_
  obtain rfl := Option.some.inj hF
  replace hc := hc.drop k1
  replace hc := hc.drop k0
  exact fnOut1 (by simp) rfl Try.results82 hf hc (show look _ 6 = _ from rfl) ⟨rfl, hc⟩

def cmp_isNaN_int (x : Int) : Bool :=
  (x != x)
theorem cmp_isNaN_int_ok {G : Pers} {Lf : List Ent} {w : World} (x : Int)   (hc : Ctx G (Lf) w) {res : Bool} (hF : cmp_isNaN_int x = res) : Calls Try.prog 120 #[.int .i64 x] w (fun e w => e = .returned (.bool res) ∧ Ctx G (Lf) w) := by
  unfold cmp_isNaN_int at hF
  refine fnIn (args := [.int .i64 x]) Try.func120 rfl Try.ntmps120 rfl fun a hf => ?_
  refine wp_seq_k fun K1 h1 => ?_
  refine cReg ?_
  refine stP hf rfl rfl rfl (pA rfl) fun a hf => ?_
  refine cNil ?_
  refine h1 _ _ ?_
  refine wp_seq_k fun K2 h2 => ?_
  refine cReg ?_
  refine stP hf rfl rfl rfl (pM rfl) fun a hf => ?_
  refine stP hf rfl rfl rfl (pM rfl) fun a hf => ?_
  refine stP hf rfl rfl rfl (pNe rfl rfl) fun a hf => ?_
  refine stP hf rfl rfl rfl (pA rfl) fun a hf => ?_
  refine cNil ?_
  refine h2 _ _ ?_
  refine wp_ret ?_
  obtain rfl := hF
  exact fnOut1 (by simp) rfl Try.results120 hf hc (show look _ 2 = _ from rfl) ⟨rfl, hc⟩

def cmp_Compare_int (x : Int) (y : Int) : Int :=
  cond (cmp_isNaN_int x)
  (cond (cmp_isNaN_int y)
  (0)
  ((-1)))
  (cond (cmp_isNaN_int y)
  (1)
  (cond (decide (x < y))
  ((-1))
  (cond (decide (y < x))
  (1)
  (0))))
theorem cmp_Compare_int_ok {G : Pers} {Lf : List Ent} {w : World} (x : Int) (y : Int)   (hc : Ctx G (Lf) w) {res : Int} (hF : cmp_Compare_int x y = res) : Calls Try.prog 114 #[.int .i64 x, .int .i64 y] w (fun e w => e = .returned (.int .i64 res) ∧ Ctx G (Lf) w) := by
  unfold cmp_Compare_int at hF
  refine fnIn (args := [.int .i64 x, .int .i64 y]) Try.func114 rfl Try.ntmps114 rfl fun a hf => ?_
  refine wp_seq_k fun K1 h1 => ?_
  refine cReg ?_
  refine stP hf rfl rfl rfl (pA rfl) fun a hf => ?_
  refine cNil ?_
  refine h1 _ _ ?_
  refine wp_seq_k fun K2 h2 => ?_
  refine cReg ?_
  refine stP hf rfl rfl rfl (pM rfl) fun a hf => ?_
  refine stE hf hc rfl rfl rfl (eC (v := .bool (cmp_isNaN_int x)) (vs := [.int .i64 x]) (caps := []) en_120 rfl rfl rfl rfl (fun w hc => cmp_isNaN_int_ok x hc rfl)) fun a w hf hc => ?_
  refine stP hf rfl rfl rfl (pA rfl) fun a hf => ?_
  refine cNil ?_
  refine h2 _ _ ?_
  refine wp_seq_k fun K3 h3 => ?_
  refine cReg ?_
  refine stP hf rfl rfl rfl (pM rfl) fun a hf => ?_
  refine stE hf hc rfl rfl rfl (eC (v := .bool (cmp_isNaN_int y)) (vs := [.int .i64 y]) (caps := []) en_120 rfl rfl rfl rfl (fun w hc => cmp_isNaN_int_ok y hc rfl)) fun a w hf hc => ?_
  refine stP hf rfl rfl rfl (pA rfl) fun a hf => ?_
  refine cNil ?_
  refine h3 _ _ ?_
  refine wp_seq_k fun K4 h4 => ?_
  refine wp_seq_k fun K5 h5 => ?_
  refine cReg ?_
  refine stP hf rfl rfl rfl (pM rfl) fun a hf => ?_
  refine cNil ?_
  refine h5 _ _ ?_
  refine cCond (b := (cmp_isNaN_int x)) hf rfl (fun hb => ?_) (fun hb => ?_)
  · replace hF := condT hb hF
    clear hb
    refine wp_seq_k fun K6 h6 => ?_
    refine wp_seq_k fun K7 h7 => ?_
    refine cReg ?_
    refine stP hf rfl rfl rfl (pM rfl) fun a hf => ?_
    refine cNil ?_
    refine h7 _ _ ?_
    refine cCond (b := (cmp_isNaN_int y)) hf rfl (fun hb => ?_) (fun hb => ?_)
    · replace hF := condT hb hF
      clear hb
      refine wp_seq_k fun K8 h8 => ?_
      refine cReg ?_
      refine stP hf rfl rfl rfl (pA rfl) fun a hf => ?_
      refine cNil ?_
      refine h8 _ _ ?_
      refine wp_ret ?_
      refine xThenR ?_
      refine xThenR ?_
      obtain rfl := hF
      exact fnOut1 (by simp) rfl Try.results114 hf hc (show look _ 4 = _ from rfl) ⟨rfl, hc⟩
    · replace hF := condF hb hF
      clear hb
      refine wp_skip ?_
      refine h6 _ _ ?_
      refine wp_seq_k fun K9 h9 => ?_
      refine cReg ?_
      refine stP hf rfl rfl rfl (pA rfl) fun a hf => ?_
      refine cNil ?_
      refine h9 _ _ ?_
      refine wp_ret ?_
      refine xThenR ?_
      obtain rfl := hF
      exact fnOut1 (by simp) rfl Try.results114 hf hc (show look _ 4 = _ from rfl) ⟨rfl, hc⟩
  · replace hF := condF hb hF
    clear hb
    refine wp_skip ?_
    refine h4 _ _ ?_
    refine wp_seq_k fun K10 h10 => ?_
    refine wp_seq_k fun K11 h11 => ?_
    refine cReg ?_
    refine stP hf rfl rfl rfl (pM rfl) fun a hf => ?_
    refine cNil ?_
    refine h11 _ _ ?_
    refine cCond (b := (cmp_isNaN_int y)) hf rfl (fun hb => ?_) (fun hb => ?_)
    · replace hF := condT hb hF
      clear hb
      refine wp_seq_k fun K12 h12 => ?_
      refine cReg ?_
      refine stP hf rfl rfl rfl (pA rfl) fun a hf => ?_
      refine cNil ?_
      refine h12 _ _ ?_
      refine wp_ret ?_
      refine xThenR ?_
      obtain rfl := hF
      exact fnOut1 (by simp) rfl Try.results114 hf hc (show look _ 4 = _ from rfl) ⟨rfl, hc⟩
    · replace hF := condF hb hF
      clear hb
      refine wp_skip ?_
      refine h10 _ _ ?_
      refine wp_seq_k fun K13 h13 => ?_
      refine wp_seq_k fun K14 h14 => ?_
      refine cReg ?_
      refine stP hf rfl rfl rfl (pM rfl) fun a hf => ?_
      refine stP hf rfl rfl rfl (pM rfl) fun a hf => ?_
      refine stP hf rfl rfl rfl (pLt rfl rfl) fun a hf => ?_
      refine cNil ?_
      refine h14 _ _ ?_
      refine cCond (b := (decide (x < y))) hf rfl (fun hb => ?_) (fun hb => ?_)
      · replace hF := condT hb hF
        clear hb
        refine wp_seq_k fun K15 h15 => ?_
        refine cReg ?_
        refine stP hf rfl rfl rfl (pA rfl) fun a hf => ?_
        refine cNil ?_
        refine h15 _ _ ?_
        refine wp_ret ?_
        refine xThenR ?_
        obtain rfl := hF
        exact fnOut1 (by simp) rfl Try.results114 hf hc (show look _ 4 = _ from rfl) ⟨rfl, hc⟩
      · replace hF := condF hb hF
        clear hb
        refine wp_skip ?_
        refine h13 _ _ ?_
        refine wp_seq_k fun K16 h16 => ?_
        refine wp_seq_k fun K17 h17 => ?_
        refine cReg ?_
        refine stP hf rfl rfl rfl (pM rfl) fun a hf => ?_
        refine stP hf rfl rfl rfl (pM rfl) fun a hf => ?_
        refine stP hf rfl rfl rfl (pGt rfl rfl) fun a hf => ?_
        refine cNil ?_
        refine h17 _ _ ?_
        refine cCond (b := (decide (y < x))) hf rfl (fun hb => ?_) (fun hb => ?_)
        · replace hF := condT hb hF
          clear hb
          refine wp_seq_k fun K18 h18 => ?_
          refine cReg ?_
          refine stP hf rfl rfl rfl (pA rfl) fun a hf => ?_
          refine cNil ?_
          refine h18 _ _ ?_
          refine wp_ret ?_
          refine xThenR ?_
          obtain rfl := hF
          exact fnOut1 (by simp) rfl Try.results114 hf hc (show look _ 4 = _ from rfl) ⟨rfl, hc⟩
        · replace hF := condF hb hF
          clear hb
          refine wp_skip ?_
          refine h16 _ _ ?_
          refine wp_seq_k fun K19 h19 => ?_
          refine cReg ?_
          refine stP hf rfl rfl rfl (pA rfl) fun a hf => ?_
          refine cNil ?_
          refine h19 _ _ ?_
          refine wp_ret ?_
          obtain rfl := hF
          exact fnOut1 (by simp) rfl Try.results114 hf hc (show look _ 4 = _ from rfl) ⟨rfl, hc⟩

def cmp_Or_int_b5 (N : Nat) (vals : List Int) (x : Int) : Option (Step (Int) (Int)) :=
  cond (decide (x < ((vals.length : Nat) : Int)))
  (Option.bind (getI vals x) fun e_1 =>
  cond (e_1 != 0)
  (some (.ret e_1))
  (some (.cont (W (x + 1)))))
  (some (.brk x))
def cmp_Or_int (N : Nat) (vals : List Int) : Option (Int) :=
  Option.bind (loopO (fun s5 => cmp_Or_int_b5 N vals s5) N 0) fun x5 =>
  exK x5 (fun s5 => some 0) some
theorem cmp_Or_int_ok {N : Nat} {G : Pers} {Lf : List Ent} {w : World} (vals : List Int) {vals_p : Option Addr} {vals_c : Nat} (h_vals : Rd G 1 vals_p vals_c (vals.map encI_i64)) (hc : Ctx G (Lf) w) {res : Int} (hF : cmp_Or_int N vals = some res) : Calls Try.prog 113 #[.slice vals_p vals.length vals_c] w (fun e w => e = .returned (.int .i64 res) ∧ Ctx G (Lf) w) := by
  unfold cmp_Or_int at hF
  refine fnIn (args := [.slice vals_p vals.length vals_c]) Try.func113 rfl Try.ntmps113 rfl fun a hf => ?_
  refine wp_seq_k fun K1 h1 => ?_
  refine cReg ?_
  refine stP hf rfl rfl rfl (pA rfl) fun a hf => ?_
  refine cNil ?_
  refine h1 _ _ ?_
  refine wp_seq_k fun K2 h2 => ?_
  refine cReg ?_
  refine stP hf rfl rfl rfl (pA rfl) fun a hf => ?_
  refine cNil ?_
  refine h2 _ _ ?_
  refine wp_seq_k fun K3 h3 => ?_
  refine wp_seq_k fun K4 h4 => ?_
  refine cReg ?_
  refine stP hf rfl rfl rfl (pM rfl) fun a hf => ?_
  refine stP hf rfl rfl rfl (pLenS Try.underlying43 rfl) fun a hf => ?_
  refine stP hf rfl rfl rfl (pM rfl) fun a hf => ?_
  refine cNil ?_
  refine h4 _ _ ?_
  refine wp_block ?_
  obtain ⟨x5, hx5, hF⟩ := bnd_some hF
  let S5 : Int → Act → World → Prop := (fun (zz : Int) a w => Has 18 a [(3, .int .i64 0), (6, .slice vals_p vals.length vals_c), (7, .int .i64 ((vals.length : Nat) : Int)), (8, .int .i64 zz)] ∧ Ctx G (Lf) w)
  have hr5 : ∀ (zz : Int) a w, x5 = .go zz → S5 zz a w → K3 a w := by
    rintro x a w rfl ⟨hf, hc⟩
    replace hF : _ = some res := hF
    refine h3 _ _ ?_
    refine wp_seq_k fun K6 h6 => ?_
    refine cReg ?_
    refine stP hf rfl rfl rfl (pM rfl) fun a hf => ?_
    refine stP hf rfl rfl rfl (pA rfl) fun a hf => ?_
    refine cNil ?_
    refine h6 _ _ ?_
    refine wp_ret ?_
    obtain rfl := Option.some.inj hF
    exact fnOut1 (by simp) rfl Try.results113 hf hc (show look _ 2 = _ from rfl) ⟨rfl, hc⟩
  have ho5 : ∀ r, x5 = .out r → r = res := by
    rintro r rfl
    exact Option.some.inj hF
  refine cLoop N (loopW (S := S5) (x := x5) ?_ N 0 _ _ ⟨hf.keep ⟨rfl, rfl, rfl, rfl, trivial⟩, hc⟩ hx5)
  clear hF hf hc
  rintro x st5 a w KB5 ⟨hf, hc⟩ hF hfin5 hK5
  unfold cmp_Or_int_b5 at hF
  refine wp_seq_k fun K7 h7 => ?_
  refine cReg ?_
  refine stP hf rfl rfl rfl (pLt rfl rfl) fun a hf => ?_
  refine cNil ?_
  refine h7 _ _ ?_
  refine wp_seq_k fun K8 h8 => ?_
  refine cCond (b := (decide (x < ((vals.length : Nat) : Int)))) hf rfl (fun hb => ?_) (fun hb => ?_)
  · replace hF := condT hb hF
    clear hb
    refine wp_skip ?_
    refine h8 _ _ ?_
    refine wp_seq_k fun K9 h9 => ?_
    refine wp_block ?_
    refine wp_seq_k fun K10 h10 => ?_
    refine cReg ?_
    obtain ⟨e_1, he_1, hF⟩ := bnd_some hF
    obtain ⟨b_1, o, qa, qp⟩ := h_vals.atm he_1
    refine stP hf rfl rfl rfl (pIA Try.underlying43 sz_3 rfl rfl qa) fun a hf => ?_
    refine stE hf hc rfl rfl rfl (eLd1 sc_3 rfl (cell_pc (j := 0) qp rfl)) fun a w hf hc => ?_
    refine stP hf rfl rfl rfl (pA rfl) fun a hf => ?_
    refine cNil ?_
    refine h10 _ _ ?_
    refine wp_seq_k fun K11 h11 => ?_
    refine cReg ?_
    refine stP hf rfl rfl rfl (pM rfl) fun a hf => ?_
    refine stP hf rfl rfl rfl (pM rfl) fun a hf => ?_
    refine stP hf rfl rfl rfl (pNe rfl rfl) fun a hf => ?_
    refine cNil ?_
    refine h11 _ _ ?_
    refine cCond (b := (e_1 != 0)) hf rfl (fun hb => ?_) (fun hb => ?_)
    · replace hF := condT hb hF
      clear hb
      refine wp_seq_k fun K12 h12 => ?_
      refine cReg ?_
      refine stP hf rfl rfl rfl (pM rfl) fun a hf => ?_
      refine stP hf rfl rfl rfl (pA rfl) fun a hf => ?_
      refine cNil ?_
      refine h12 _ _ ?_
      refine wp_ret ?_
      refine xBlkR ?_
      refine xThenR ?_
      refine xThenR ?_
      have he := Option.some.inj hF
      rw [← he] at hfin5
      replace hF := ho5 _ hfin5
      refine xBlkR ?_
      refine xThenR ?_
      obtain rfl := hF
      exact fnOut1 (by simp) rfl Try.results113 hf hc (show look _ 2 = _ from rfl) ⟨rfl, hc⟩
    · replace hF := condF hb hF
      clear hb
      refine wp_skip ?_
      refine h9 _ _ ?_
      refine cReg ?_
      refine stP hf rfl rfl rfl (pAdd rfl rfl) fun a hf => ?_
      refine stP hf rfl rfl rfl (pM rfl) fun a hf => ?_
      refine cNil ?_
      exact hK5 (W (x + 1)) _ _ (Option.some.inj hF).symm ⟨hf.keep ⟨rfl, rfl, rfl, rfl, trivial⟩, hc⟩
  · replace hF := condF hb hF
    clear hb
    refine wp_exit ?_
    refine xThen ?_
    refine xThen ?_
    have he := Option.some.inj hF
    rw [← he] at hfin5
    refine cHit ?_
    exact hr5 _ _ _ hfin5 ⟨hf.keep ⟨rfl, rfl, rfl, rfl, trivial⟩, hc⟩

def gauge_work_better_j2 (N : Nat) (w_ : gauge_work) (a_ : Int) (b__1 : Int) (x : Int) (x_1 : Int) : Option ((Nat → gauge_spent) × (Int → Option Int)) :=
  Option.bind (inR a_ 32) fun un_1 =>
  Option.bind (cmp_Or_int N ([(cmp_Compare_int x ((w_.least a_.toNat).cost)), (cmp_Compare_int x_1 ((w_.least a_.toNat).points))] : List Int)) fun r =>
  Option.bind (cond (decide (r < 0)) (some true) (Option.bind (gauge_far N) fun r_1 =>
  some (((w_.least a_.toNat).cost) == r_1.cost && ((w_.least a_.toNat).points) == r_1.points))) fun t_1 =>
  cond t_1
  (Option.bind (inR a_ 32) fun un_2 =>
  some ((setF w_.least a_.toNat (⟨x, x_1⟩ : gauge_spent)), (setM (setM w_.from_ a_ ((w_.from_ a_).getD 0)) a_ b__1)))
  (some (w_.least, w_.from_))
def gauge_work_better (N : Nat) (w_ : gauge_work) (a_ : Int) (b__1 : Int) : Option ((Nat → gauge_spent) × (Int → Option Int)) :=
  Option.bind (inR b__1 32) fun un =>
  cond (decide (b__1 ≤ ((w_.Site.Points.length : Nat) : Int)))
  (Option.bind (gauge_work_station N w_ b__1) fun r_2 =>
  gauge_work_better_j2 N w_ a_ b__1 (W (((w_.least b__1.toNat).cost) + r_2.Cost)) (W (((w_.least b__1.toNat).points) + 1)))
  (gauge_work_better_j2 N w_ a_ b__1 ((w_.least b__1.toNat).cost) ((w_.least b__1.toNat).points))
theorem gauge_work_better_ok {N : Nat} {G : Pers} {Lf : List Ent} {w : World} (w_ : gauge_work) (a_ : Int) (b__1 : Int) {b_ : Nat} {w__Site_Points_p : Option Addr} {w__Site_Points_c : Nat} {mb : Nat} (h_w__Site_Points : Rd G 3 w__Site_Points_p w__Site_Points_c (w_.Site.Points.map enc_gauge_Point)) (hc : Ctx G (.box b_ (catc [.int .i64 w_.Site.Left, .int .i64 w_.Site.Right, .int .i64 w_.Site.Gap, .int .i64 w_.Site.Step_, .slice w__Site_Points_p w_.Site.Points.length w__Site_Points_c] 32 enc_gauge_spent w_.least [.map (some mb)]) 130 :: .im mb (fun j => (w_.from_ j).map (Value.int .i64)) none :: Lf) w) {res : (Nat → gauge_spent) × (Int → Option Int)} (hF : gauge_work_better N w_ a_ b__1 = some res) : Calls Try.prog 99 #[.pointer (some ⟨b_, 0, none⟩), .int .i64 a_, .int .i64 b__1] w (fun e w => e = .returned (.tuple #[]) ∧ Ctx G (.box b_ (catc [.int .i64 w_.Site.Left, .int .i64 w_.Site.Right, .int .i64 w_.Site.Gap, .int .i64 w_.Site.Step_, .slice w__Site_Points_p w_.Site.Points.length w__Site_Points_c] 32 enc_gauge_spent res.1 [.map (some mb)]) 130 :: .im mb (fun j => (res.2 j).map (Value.int .i64)) none :: Lf) w) := by
  unfold gauge_work_better at hF
  refine fnIn (args := [.pointer (some ⟨b_, 0, none⟩), .int .i64 a_, .int .i64 b__1]) Try.func99 rfl Try.ntmps99 rfl fun a hf => ?_
  refine wp_seq_k fun K1 h1 => ?_
  refine cReg ?_
  refine stP hf rfl rfl rfl (pM rfl) fun a hf => ?_
  refine stP hf rfl rfl rfl (pM rfl) fun a hf => ?_
  refine stP hf rfl rfl rfl (pNC rfl) fun a hf => ?_
  refine stP hf rfl rfl rfl (pFA fa_130_1 rfl) fun a hf => ?_
  obtain ⟨un, hun, hF⟩ := bnd_some hF
  refine stP hf rfl rfl rfl (pIAA Try.underlying127 sz_126 rfl rfl (inR_spec hun).1 (inR_spec hun).2) fun a hf => ?_
  refine stE hf hc rfl rfl rfl (eLdN (vs := [.int .i64 ((w_.least b__1.toNat).cost), .int .i64 ((w_.least b__1.toNat).points)]) ag_126 rfl rfl (cells_arr (o' := 0) (m := 2) m0 (fun x => (one_enc_gauge_spent x).1) rfl hun rfl)) fun a w hf hc => ?_
  refine stAl (cs := [.int .i64 0, .int .i64 0]) hf hc rfl rfl zr_126 rfl fun b_1 a w hf hc => ?_
  refine stSt (vs := [.int .i64 ((w_.least b__1.toNat).cost), .int .i64 ((w_.least b__1.toNat).points)]) hf hc rfl rfl rfl rfl sz_126 rfl rfl u0 fun w hc => ?_
  refine cNil ?_
  refine h1 _ _ ?_
  refine wp_seq_k fun K2 h2 => ?_
  have hj2 : ∀ (x : Int) (x_1 : Int) a w, Has 73 a [(0, .pointer (some ⟨b_, 0, none⟩)), (1, .int .i64 a_), (2, .int .i64 b__1), (6, .pointer (some ⟨b_1, 0, none⟩))] → Ctx G (.box b_1 [.int .i64 x, .int .i64 x_1] 126 :: .box b_ (catc [.int .i64 w_.Site.Left, .int .i64 w_.Site.Right, .int .i64 w_.Site.Gap, .int .i64 w_.Site.Step_, .slice w__Site_Points_p w_.Site.Points.length w__Site_Points_c] 32 enc_gauge_spent w_.least [.map (some mb)]) 130 :: .im mb (fun j => (w_.from_ j).map (Value.int .i64)) none :: Lf) w → gauge_work_better_j2 N w_ a_ b__1 x x_1 = some res → K2 a w := by
    intro x x_1 a w hf hc hF
    unfold gauge_work_better_j2 at hF
    refine h2 _ _ ?_
    refine wp_seq_k fun K3 h3 => ?_
    refine cReg ?_
    refine stP hf rfl rfl rfl (pM rfl) fun a hf => ?_
    refine stP hf rfl rfl rfl (pM rfl) fun a hf => ?_
    refine stP hf rfl rfl rfl (pNC rfl) fun a hf => ?_
    refine stP hf rfl rfl rfl (pFA fa_130_1 rfl) fun a hf => ?_
    obtain ⟨un_1, hun_1, hF⟩ := bnd_some hF
    refine stP hf rfl rfl rfl (pIAA Try.underlying127 sz_126 rfl rfl (inR_spec hun_1).1 (inR_spec hun_1).2) fun a hf => ?_
    refine stE hf hc rfl rfl rfl (eLdN (vs := [.int .i64 ((w_.least a_.toNat).cost), .int .i64 ((w_.least a_.toNat).points)]) ag_126 rfl rfl (cells_arr (o' := 0) (m := 2) m1 (fun x => (one_enc_gauge_spent x).1) rfl hun_1 rfl)) fun a w hf hc => ?_
    refine stAl (cs := [.int .i64 0, .int .i64 0]) hf hc rfl rfl zr_126 rfl fun b_2 a w hf hc => ?_
    refine stSt (vs := [.int .i64 ((w_.least a_.toNat).cost), .int .i64 ((w_.least a_.toNat).points)]) hf hc rfl rfl rfl rfl sz_126 rfl rfl u0 fun w hc => ?_
    refine cNil ?_
    refine h3 _ _ ?_
    refine wp_seq_k fun K4 h4 => ?_
    obtain ⟨r, hr, hF⟩ := bnd_some hF
    replace hc := hc.nilRow 0 0
    refine regionE (fun θ => [⟨none, none, 0, .pointer (some ⟨b_, 0, none⟩)⟩, ⟨none, none, 1, .int .i64 a_⟩, ⟨none, none, 2, .int .i64 b__1⟩, ⟨none, none, 6, .pointer (some ⟨b_1, 0, none⟩)⟩, ⟨none, none, 7, .pointer (some ⟨b_2, 0, none⟩)⟩, ⟨some 0, none, 40, .pointer (some ⟨b_1, 0, none⟩)⟩, ⟨some 1, none, 41, .int .i64 x⟩, ⟨some 2, none, 42, .pointer (some ⟨b_2, 0, none⟩)⟩, ⟨some 3, none, 43, .int .i64 ((w_.least a_.toNat).cost)⟩, ⟨some 4, none, 44, .int .i64 (cmp_Compare_int x ((w_.least a_.toNat).cost))⟩, ⟨some 5, none, 45, .pointer (some ⟨b_1, 1, none⟩)⟩, ⟨some 6, none, 46, .int .i64 x_1⟩, ⟨some 7, none, 47, .pointer (some ⟨b_2, 1, none⟩)⟩, ⟨some 8, none, 48, .int .i64 ((w_.least a_.toNat).points)⟩, ⟨some 9, none, 49, .int .i64 (cmp_Compare_int x_1 ((w_.least a_.toNat).points))⟩, ⟨some 10, none, 50, .slice (some ⟨(θ 80).b, 0, none⟩) 2 2⟩, ⟨some 11, none, 51, .int .i64 r⟩, ⟨some 12, none, 8, .int .i64 r⟩]) (fun E θ => (bif E 10 then .row (some ⟨(θ 80).b, 0, none⟩) 2 (([(cmp_Compare_int x ((w_.least a_.toNat).cost)), (cmp_Compare_int x_1 ((w_.least a_.toNat).points))] : List Int).map encI_i64) 3 1 else .row none 0 [] 0 0) :: .box b_2 [.int .i64 ((w_.least a_.toNat).cost), .int .i64 ((w_.least a_.toNat).points)] 126 :: .box b_1 [.int .i64 x, .int .i64 x_1] 126 :: .box b_ (catc [.int .i64 w_.Site.Left, .int .i64 w_.Site.Right, .int .i64 w_.Site.Gap, .int .i64 w_.Site.Step_, .slice w__Site_Points_p w_.Site.Points.length w__Site_Points_c] 32 enc_gauge_spent w_.least [.map (some mb)]) 130 :: .im mb (fun j => (w_.from_ j).map (Value.int .i64)) none :: Lf) [] (fun a w => ∃ (b_4 : Nat), Has 73 a [(0, .pointer (some ⟨b_, 0, none⟩)), (1, .int .i64 a_), (2, .int .i64 b__1), (6, .pointer (some ⟨b_1, 0, none⟩)), (7, .pointer (some ⟨b_2, 0, none⟩)), (8, .int .i64 r)] ∧ Ctx G (.row (some ⟨b_4, 0, none⟩) 2 (([(cmp_Compare_int x ((w_.least a_.toNat).cost)), (cmp_Compare_int x_1 ((w_.least a_.toNat).points))] : List Int).map encI_i64) 3 1 :: .box b_2 [.int .i64 ((w_.least a_.toNat).cost), .int .i64 ((w_.least a_.toNat).points)] 126 :: .box b_1 [.int .i64 x, .int .i64 x_1] 126 :: .box b_ (catc [.int .i64 w_.Site.Left, .int .i64 w_.Site.Right, .int .i64 w_.Site.Gap, .int .i64 w_.Site.Step_, .slice w__Site_Points_p w_.Site.Points.length w__Site_Points_c] 32 enc_gauge_spent w_.least [.map (some mb)]) 130 :: .im mb (fun j => (w_.from_ j).map (Value.int .i64)) none :: Lf) w) follows_mx (by kernel_rfl) (by kernel_rfl) (HasE.of hf ⟨rfl, rfl, rfl, rfl, rfl, trivial, trivial, trivial, trivial, trivial, trivial, trivial, trivial, trivial, trivial, trivial, trivial, trivial, trivial⟩) hc ⟨?_, ?_, ?_, ?_, ?_, ?_, ?_, ?_, ?_, ?_, ?_, ?_, ?_, trivial⟩ ?_ ?_
    · intro E θ a w hD hi hp he hc
      have hf := he.h0
      replace hf := hf.more he 3 rfl onT
      refine stP hf rfl rfl rfl (pFA fa_126_0 rfl) fun a hf => ?_
      refine cNil ?_
      refine xThenN ?_
      intro ds u hau
      refine ⟨θ, he.put0 hi hau hf rfl 5 rfl rfl, ?_⟩
      exact hc
    · intro E θ a w hD hi hp he hc
      have e0 := hp.of (k := 0) rfl
      have hf := he.h0
      replace hf := hf.more he 5 rfl (onP e0)
      refine stE hf hc rfl rfl rfl (eLd1 sc_3 rfl (cell_box m2 rfl)) fun a w hf hc => ?_
      refine cNil ?_
      refine xThenN ?_
      intro ds u hau
      refine ⟨θ, he.put0 hi hau hf rfl 6 rfl rfl, ?_⟩
      exact hc
    · intro E θ a w hD hi hp he hc
      have hf := he.h0
      replace hf := hf.more he 4 rfl onT
      refine stP hf rfl rfl rfl (pFA fa_126_0 rfl) fun a hf => ?_
      refine cNil ?_
      refine xThenN ?_
      intro ds u hau
      refine ⟨θ, he.put0 hi hau hf rfl 7 rfl rfl, ?_⟩
      exact hc
    · intro E θ a w hD hi hp he hc
      have e2 := hp.of (k := 2) rfl
      have hf := he.h0
      replace hf := hf.more he 7 rfl (onP e2)
      refine stE hf hc rfl rfl rfl (eLd1 sc_3 rfl (cell_box m1 rfl)) fun a w hf hc => ?_
      refine cNil ?_
      refine xThenN ?_
      intro ds u hau
      refine ⟨θ, he.put0 hi hau hf rfl 8 rfl rfl, ?_⟩
      exact hc
    · intro E θ a w hD hi hp he hc
      have e1 := hp.of (k := 1) rfl
      have e3 := hp.of (k := 3) rfl
      have hf := he.h0
      replace hf := hf.more he 6 rfl (onP e1)
      replace hf := hf.more he 8 rfl (onP e3)
      refine stE hf hc rfl rfl rfl (eC (v := .int .i64 (cmp_Compare_int x ((w_.least a_.toNat).cost))) (vs := [.int .i64 x, .int .i64 ((w_.least a_.toNat).cost)]) (caps := []) en_114 rfl rfl rfl rfl (fun w hc => cmp_Compare_int_ok x ((w_.least a_.toNat).cost) hc rfl)) fun a w hf hc => ?_
      refine cNil ?_
      refine xThenN ?_
      intro ds u hau
      refine ⟨θ, he.put0 hi hau hf rfl 9 rfl rfl, ?_⟩
      exact hc
    · intro E θ a w hD hi hp he hc
      have hf := he.h0
      replace hf := hf.more he 3 rfl onT
      refine stP hf rfl rfl rfl (pFA fa_126_1 rfl) fun a hf => ?_
      refine cNil ?_
      refine xThenN ?_
      intro ds u hau
      refine ⟨θ, he.put0 hi hau hf rfl 10 rfl rfl, ?_⟩
      exact hc
    · intro E θ a w hD hi hp he hc
      have e5 := hp.of (k := 5) rfl
      have hf := he.h0
      replace hf := hf.more he 10 rfl (onP e5)
      refine stE hf hc rfl rfl rfl (eLd1 sc_3 rfl (cell_box m2 rfl)) fun a w hf hc => ?_
      refine cNil ?_
      refine xThenN ?_
      intro ds u hau
      refine ⟨θ, he.put0 hi hau hf rfl 11 rfl rfl, ?_⟩
      exact hc
    · intro E θ a w hD hi hp he hc
      have hf := he.h0
      replace hf := hf.more he 4 rfl onT
      refine stP hf rfl rfl rfl (pFA fa_126_1 rfl) fun a hf => ?_
      refine cNil ?_
      refine xThenN ?_
      intro ds u hau
      refine ⟨θ, he.put0 hi hau hf rfl 12 rfl rfl, ?_⟩
      exact hc
    · intro E θ a w hD hi hp he hc
      have e7 := hp.of (k := 7) rfl
      have hf := he.h0
      replace hf := hf.more he 12 rfl (onP e7)
      refine stE hf hc rfl rfl rfl (eLd1 sc_3 rfl (cell_box m1 rfl)) fun a w hf hc => ?_
      refine cNil ?_
      refine xThenN ?_
      intro ds u hau
      refine ⟨θ, he.put0 hi hau hf rfl 13 rfl rfl, ?_⟩
      exact hc
    · intro E θ a w hD hi hp he hc
      have e6 := hp.of (k := 6) rfl
      have e8 := hp.of (k := 8) rfl
      have hf := he.h0
      replace hf := hf.more he 11 rfl (onP e6)
      replace hf := hf.more he 13 rfl (onP e8)
      refine stE hf hc rfl rfl rfl (eC (v := .int .i64 (cmp_Compare_int x_1 ((w_.least a_.toNat).points))) (vs := [.int .i64 x_1, .int .i64 ((w_.least a_.toNat).points)]) (caps := []) en_114 rfl rfl rfl rfl (fun w hc => cmp_Compare_int_ok x_1 ((w_.least a_.toNat).points) hc rfl)) fun a w hf hc => ?_
      refine cNil ?_
      refine xThenN ?_
      intro ds u hau
      refine ⟨θ, he.put0 hi hau hf rfl 14 rfl rfl, ?_⟩
      exact hc
    · intro E θ a w hD hi hp he hc
      have e4 := hp.of (k := 4) rfl
      have e9 := hp.of (k := 9) rfl
      try dsimp only at hc
      rw [hi] at hc
      have hf := he.h0
      replace hf := hf.more he 9 rfl (onP e4)
      replace hf := hf.more he 14 rfl (onP e9)
      refine stBS (rows := ([(cmp_Compare_int x ((w_.least a_.toNat).cost)), (cmp_Compare_int x_1 ((w_.least a_.toNat).points))] : List Int).map encI_i64) (vs := [(0, .int .i64 (cmp_Compare_int x ((w_.least a_.toNat).cost))), (1, .int .i64 (cmp_Compare_int x_1 ((w_.least a_.toNat).points)))]) hf hc rfl rfl sl_43 rfl ⟨rfl, rfl, rfl, rfl, rfl, rfl, trivial⟩ rfl rfl fun b_3 a w hf hc => ?_
      refine cNil ?_
      refine xThenN ?_
      intro ds u hau
      replace hc := hc.drop k1
      refine ⟨(setT θ 80 ⟨b_3, none, 0⟩), he.put hi hau hf rfl [] trivial ⟨qq, qq, qq, qq, qq, qq, qq, qq, qq, qq, qq, qq, qq, qq, qq, qq, qq, qq, trivial⟩, ?_⟩
      try dsimp only
      rw [updE_self E 10]
      exact hc
    · intro E θ a w hD hi hp he hc
      have e10 := hp.of (k := 10) rfl
      try dsimp only at hc
      rw [e10] at hc
      have hf := he.h0
      replace hf := hf.more he 15 rfl (onP e10)
      refine stE hf hc rfl rfl rfl (eC (v := .int .i64 r) (vs := [.slice (some ⟨(θ 80).b, 0, none⟩) 2 2]) (caps := []) en_113 rfl rfl rfl rfl (fun w hc => by obtain ⟨G1, hle1, hrd1, hc, hth1⟩ := lend hc k0; exact (cmp_Or_int_ok ([(cmp_Compare_int x ((w_.least a_.toNat).cost)), (cmp_Compare_int x_1 ((w_.least a_.toNat).points))] : List Int) hrd1 hc hr).mono fun e w h => ⟨h.1, ((hth1 _ _ h.2).unpick k0)⟩)) fun a w hf hc => ?_
      refine cNil ?_
      refine xThenN ?_
      intro ds u hau
      refine ⟨θ, he.put0 hi hau hf rfl 16 rfl rfl, ?_⟩
      try dsimp only
      rw [updE_tru 11 e10]
      exact hc
    · intro E θ a w hD hi hp he hc
      have e11 := hp.of (k := 11) rfl
      have hf := he.h0
      replace hf := hf.more he 16 rfl (onP e11)
      refine stP hf rfl rfl rfl (pA rfl) fun a hf => ?_
      refine cNil ?_
      refine xThenN ?_
      intro ds u hau
      refine ⟨θ, he.put0 hi hau hf rfl 17 rfl rfl, ?_⟩
      exact hc
    · intro E θ a w hall he hc
      have hf := he.h0
      have e10 := hall 10 rfl
      have e12 := hall 12 rfl
      replace hf := hf.more he 17 rfl (onP e12)
      replace hf := hf.more he 4 rfl (onT)
      replace hf := hf.more he 3 rfl (onT)
      replace hf := hf.more he 2 rfl (onT)
      replace hf := hf.more he 1 rfl (onT)
      replace hf := hf.more he 0 rfl (onT)
      try dsimp only at hc
      rw [e10] at hc
      exact ⟨(θ 80).b, hf.keep ⟨rfl, rfl, rfl, rfl, rfl, rfl, trivial⟩, hc⟩
    rintro a w ⟨b_4, hf, hc⟩
    refine h4 _ _ ?_
    refine wp_seq_k fun K5 h5 => ?_
    obtain ⟨t_1, ht_1, hF⟩ := bnd_some hF
    refine cQ hc follows_mx (by kernel_rfl) ?_
    refine qE hf rfl rfl rfl (Pu.ev (pM rfl)) fun a hf => ?_
    refine qE hf rfl rfl rfl (Pu.ev (pLt rfl rfl)) fun a hf => ?_
    refine qE hf rfl rfl rfl (Pu.ev (pM rfl)) fun a hf => ?_
    refine qCut 4 (fun a => Has 73 a [(0, .pointer (some ⟨b_, 0, none⟩)), (1, .int .i64 a_), (2, .int .i64 b__1), (6, .pointer (some ⟨b_1, 0, none⟩)), (7, .pointer (some ⟨b_2, 0, none⟩)), (8, .int .i64 r), (52, .int .i64 r), (53, .bool (decide (r < 0))), (54, .bool (decide (r < 0))), (58, .bool t_1)]) ?_ ?_
    · cases hb : (decide (r < 0))
      · rw [hb] at hf
        have hF := condF hb ht_1
        obtain ⟨r_1, hr_1, hF⟩ := bnd_some hF
        refine qE hf rfl rfl rfl (eLdN (vs := [.int .i64 ((w_.least a_.toNat).cost), .int .i64 ((w_.least a_.toNat).points)]) ag_126 rfl rfl (cells_box (n := 2) m1 rfl)) fun a hf => ?_
        refine qE hf rfl rfl rfl (eC (v := .agg #[.int .i64 r_1.cost, .int .i64 r_1.points]) (vs := []) (caps := []) en_67 rfl rfl rfl rfl (fun w hc => gauge_far_ok hc hr_1)) fun a hf => ?_
        refine qE hf rfl rfl rfl (Pu.ev (pEqA ge_126 rfl rfl (eqs_126 _ _ _ _))) fun a hf => ?_
        refine qE hf rfl rfl rfl (Pu.ev (pPf rfl rfl)) fun a hf => ?_
        obtain rfl := Option.some.inj hF
        exact qNil (hf.keep ⟨rfl, rfl, rfl, rfl, rfl, rfl, rfl, rfl, rfl, rfl, trivial⟩)
      · rw [hb] at hf
        have hF := condT hb ht_1
        obtain rfl := Option.some.inj hF
        refine qS hf rfl rfl rfl fun a hf => ?_
        refine qS hf rfl rfl rfl fun a hf => ?_
        refine qS hf rfl rfl rfl fun a hf => ?_
        refine qE hf rfl rfl rfl (Pu.ev (pPt rfl rfl)) fun a hf => ?_
        exact qNil (hf.keep ⟨rfl, rfl, rfl, rfl, rfl, rfl, rfl, rfl, rfl, rfl, trivial⟩)
    intro a hf
    intro w hc
    refine h5 _ _ ?_
    refine cCond (b := t_1) hf rfl (fun hb => ?_) (fun hb => ?_)
    · replace hF := condT hb hF
      clear hb
      obtain ⟨un_2, hun_2, hF⟩ := bnd_some hF
      refine regionE (fun θ => [⟨none, none, 0, .pointer (some ⟨b_, 0, none⟩)⟩, ⟨none, none, 1, .int .i64 a_⟩, ⟨none, none, 2, .int .i64 b__1⟩, ⟨none, none, 6, .pointer (some ⟨b_1, 0, none⟩)⟩, ⟨some 0, none, 59, .pointer (some ⟨b_, 0, none⟩)⟩, ⟨some 1, none, 60, .int .i64 a_⟩, ⟨some 2, none, 61, .pointer (some ⟨b_, 0, none⟩)⟩, ⟨some 3, none, 62, .pointer (some ⟨b_, 0, none⟩)⟩, ⟨some 4, none, 63, .pointer (some ⟨b_, 69, none⟩)⟩, ⟨some 5, none, 64, .map (some mb)⟩, ⟨some 6, none, 65, .int .i64 a_⟩, ⟨some 7, none, 66, .agg #[.int .i64 x, .int .i64 x_1]⟩, ⟨some 8, none, 67, .int .i64 b__1⟩, ⟨some 9, none, 68, .pointer (some ⟨b_, 0, none⟩)⟩, ⟨some 10, none, 69, .pointer (some ⟨b_, 5, none⟩)⟩, ⟨some 11, none, 70, .pointer (some ⟨b_, 5 + a_.toNat * 2, none⟩)⟩, ⟨some 13, none, 71, .tuple #[.int .i64 ((w_.from_ a_).getD 0), .int .i64 (((θ 104).c : Nat) : Int)]⟩, ⟨some 14, none, 72, .int .i64 (((θ 104).c : Nat) : Int)⟩]) (fun E θ => .row (some ⟨b_4, 0, none⟩) 2 (([(cmp_Compare_int x ((w_.least a_.toNat).cost)), (cmp_Compare_int x_1 ((w_.least a_.toNat).points))] : List Int).map encI_i64) 3 1 :: .box b_2 [.int .i64 ((w_.least a_.toNat).cost), .int .i64 ((w_.least a_.toNat).points)] 126 :: .box b_1 [.int .i64 x, .int .i64 x_1] 126 :: (bif E 12 then .box b_ (catc [.int .i64 w_.Site.Left, .int .i64 w_.Site.Right, .int .i64 w_.Site.Gap, .int .i64 w_.Site.Step_, .slice w__Site_Points_p w_.Site.Points.length w__Site_Points_c] 32 enc_gauge_spent (setF w_.least a_.toNat (⟨x, x_1⟩ : gauge_spent)) [.map (some mb)]) 130 else .box b_ (catc [.int .i64 w_.Site.Left, .int .i64 w_.Site.Right, .int .i64 w_.Site.Gap, .int .i64 w_.Site.Step_, .slice w__Site_Points_p w_.Site.Points.length w__Site_Points_c] 32 enc_gauge_spent w_.least [.map (some mb)]) 130) :: (bif E 15 then .im mb (fun j => ((setM (setM w_.from_ a_ ((w_.from_ a_).getD 0)) a_ b__1) j).map (Value.int .i64)) none else bif E 13 then .im mb (fun j => ((setM w_.from_ a_ ((w_.from_ a_).getD 0)) j).map (Value.int .i64)) (some ((θ 104).c, a_)) else .im mb (fun j => (w_.from_ j).map (Value.int .i64)) none) :: Lf) [(12, 5), (15, 13), (14, 13)] (fun a w => Has 73 a [] ∧ Ctx G (.row (some ⟨b_4, 0, none⟩) 2 (([(cmp_Compare_int x ((w_.least a_.toNat).cost)), (cmp_Compare_int x_1 ((w_.least a_.toNat).points))] : List Int).map encI_i64) 3 1 :: .box b_2 [.int .i64 ((w_.least a_.toNat).cost), .int .i64 ((w_.least a_.toNat).points)] 126 :: .box b_1 [.int .i64 x, .int .i64 x_1] 126 :: .box b_ (catc [.int .i64 w_.Site.Left, .int .i64 w_.Site.Right, .int .i64 w_.Site.Gap, .int .i64 w_.Site.Step_, .slice w__Site_Points_p w_.Site.Points.length w__Site_Points_c] 32 enc_gauge_spent (setF w_.least a_.toNat (⟨x, x_1⟩ : gauge_spent)) [.map (some mb)]) 130 :: .im mb (fun j => ((setM (setM w_.from_ a_ ((w_.from_ a_).getD 0)) a_ b__1) j).map (Value.int .i64)) none :: Lf) w) follows_mx (by kernel_rfl) (by kernel_rfl) (HasE.of hf ⟨rfl, rfl, rfl, rfl, trivial, trivial, trivial, trivial, trivial, trivial, trivial, trivial, trivial, trivial, trivial, trivial, trivial, trivial, trivial⟩) hc ⟨?_, ?_, ?_, ?_, ?_, ?_, ?_, ?_, ?_, ?_, ?_, ?_, ?_, ?_, ?_, ?_, trivial⟩ ?_ ?_
      · intro E θ a w hD hi hp he hc
        have hf := he.h0
        replace hf := hf.more he 0 rfl onT
        refine stP hf rfl rfl rfl (pM rfl) fun a hf => ?_
        refine cNil ?_
        refine xThenN ?_
        intro ds u hau
        refine ⟨θ, he.put0 hi hau hf rfl 4 rfl rfl, ?_⟩
        exact hc
      · intro E θ a w hD hi hp he hc
        have hf := he.h0
        replace hf := hf.more he 1 rfl onT
        refine stP hf rfl rfl rfl (pM rfl) fun a hf => ?_
        refine cNil ?_
        refine xThenN ?_
        intro ds u hau
        refine ⟨θ, he.put0 hi hau hf rfl 5 rfl rfl, ?_⟩
        exact hc
      · intro E θ a w hD hi hp he hc
        have hf := he.h0
        replace hf := hf.more he 0 rfl onT
        refine stP hf rfl rfl rfl (pM rfl) fun a hf => ?_
        refine cNil ?_
        refine xThenN ?_
        intro ds u hau
        refine ⟨θ, he.put0 hi hau hf rfl 6 rfl rfl, ?_⟩
        exact hc
      · intro E θ a w hD hi hp he hc
        have e2 := hp.of (k := 2) rfl
        have hf := he.h0
        replace hf := hf.more he 6 rfl (onP e2)
        refine stP hf rfl rfl rfl (pNC rfl) fun a hf => ?_
        refine cNil ?_
        refine xThenN ?_
        intro ds u hau
        refine ⟨θ, he.put0 hi hau hf rfl 7 rfl rfl, ?_⟩
        exact hc
      · intro E θ a w hD hi hp he hc
        have e3 := hp.of (k := 3) rfl
        have hf := he.h0
        replace hf := hf.more he 7 rfl (onP e3)
        refine stP hf rfl rfl rfl (pFA fa_130_2 rfl) fun a hf => ?_
        refine cNil ?_
        refine xThenN ?_
        intro ds u hau
        refine ⟨θ, he.put0 hi hau hf rfl 8 rfl rfl, ?_⟩
        exact hc
      · intro E θ a w hD hi hp he hc
        have e4 := hp.of (k := 4) rfl
        have e12 := hD.f 0 rfl hi
        try dsimp only at hc
        rw [e12] at hc
        have hf := he.h0
        replace hf := hf.more he 8 rfl (onP e4)
        refine stE hf hc rfl rfl rfl (eLd1 sc_128 rfl (cell_box m3 rfl)) fun a w hf hc => ?_
        refine cNil ?_
        refine xThenN ?_
        intro ds u hau
        refine ⟨θ, he.put0 hi hau hf rfl 9 rfl rfl, ?_⟩
        try dsimp only
        rw [updE_fls 5 e12 rfl]
        exact hc
      · intro E θ a w hD hi hp he hc
        have hf := he.h0
        replace hf := hf.more he 1 rfl onT
        refine stP hf rfl rfl rfl (pM rfl) fun a hf => ?_
        refine cNil ?_
        refine xThenN ?_
        intro ds u hau
        refine ⟨θ, he.put0 hi hau hf rfl 10 rfl rfl, ?_⟩
        exact hc
      · intro E θ a w hD hi hp he hc
        have hf := he.h0
        replace hf := hf.more he 3 rfl onT
        refine stE hf hc rfl rfl rfl (eLdN (vs := [.int .i64 x, .int .i64 x_1]) ag_126 rfl rfl (cells_box (n := 2) m2 rfl)) fun a w hf hc => ?_
        refine cNil ?_
        refine xThenN ?_
        intro ds u hau
        refine ⟨θ, he.put0 hi hau hf rfl 11 rfl rfl, ?_⟩
        exact hc
      · intro E θ a w hD hi hp he hc
        have hf := he.h0
        replace hf := hf.more he 2 rfl onT
        refine stP hf rfl rfl rfl (pM rfl) fun a hf => ?_
        refine cNil ?_
        refine xThenN ?_
        intro ds u hau
        refine ⟨θ, he.put0 hi hau hf rfl 12 rfl rfl, ?_⟩
        exact hc
      · intro E θ a w hD hi hp he hc
        have e0 := hp.of (k := 0) rfl
        have hf := he.h0
        replace hf := hf.more he 4 rfl (onP e0)
        refine stP hf rfl rfl rfl (pNC rfl) fun a hf => ?_
        refine cNil ?_
        refine xThenN ?_
        intro ds u hau
        refine ⟨θ, he.put0 hi hau hf rfl 13 rfl rfl, ?_⟩
        exact hc
      · intro E θ a w hD hi hp he hc
        have e9 := hp.of (k := 9) rfl
        have hf := he.h0
        replace hf := hf.more he 13 rfl (onP e9)
        refine stP hf rfl rfl rfl (pFA fa_130_1 rfl) fun a hf => ?_
        refine cNil ?_
        refine xThenN ?_
        intro ds u hau
        refine ⟨θ, he.put0 hi hau hf rfl 14 rfl rfl, ?_⟩
        exact hc
      · intro E θ a w hD hi hp he hc
        have e1 := hp.of (k := 1) rfl
        have e10 := hp.of (k := 10) rfl
        have hf := he.h0
        replace hf := hf.more he 5 rfl (onP e1)
        replace hf := hf.more he 14 rfl (onP e10)
        refine stP hf rfl rfl rfl (pIAA Try.underlying127 sz_126 rfl rfl (inR_spec hun_2).1 (inR_spec hun_2).2) fun a hf => ?_
        refine cNil ?_
        refine xThenN ?_
        intro ds u hau
        refine ⟨θ, he.put0 hi hau hf rfl 15 rfl rfl, ?_⟩
        exact hc
      · intro E θ a w hD hi hp he hc
        have e7 := hp.of (k := 7) rfl
        have e11 := hp.of (k := 11) rfl
        try dsimp only at hc
        rw [hi] at hc
        have hf := he.h0
        replace hf := hf.more he 11 rfl (onP e7)
        replace hf := hf.more he 15 rfl (onP e11)
        refine stAr (vs := [.int .i64 x, .int .i64 x_1]) (o' := 0) (z := (⟨x, x_1⟩ : gauge_spent)) hf hc rfl rfl rfl rfl sz_126 rfl (fun x => (one_enc_gauge_spent x).1) rfl hun_2 rfl rfl u3 fun w hc => ?_
        refine cNil ?_
        refine xThenN ?_
        intro ds u hau
        refine ⟨θ, he.stay0 hi hau hf rfl, ?_⟩
        try dsimp only
        rw [updE_self E 12]
        exact hc
      · intro E θ a w hD hi hp he hc
        have e5 := hp.of (k := 5) rfl
        have e6 := hp.of (k := 6) rfl
        have e15 := hD.f 1 rfl hi
        have e14 := hD.f 2 rfl hi
        try dsimp only at hc
        rw [hi, e15] at hc
        have hf := he.h0
        replace hf := hf.more he 9 rfl (onP e5)
        replace hf := hf.more he 10 rfl (onP e6)
        refine stME (enc := (Value.int .i64)) (z0 := 0) (m := w_.from_) hf hc rfl rfl Try.underlying128 Try.underlying3 zr_3 rfl rfl (fun _ => u4) fun stp a w hf hc => ?_
        refine cNil ?_
        refine xThenN ?_
        intro ds u hau
        refine ⟨(setT θ 104 ⟨0, none, stp⟩), he.put hi hau hf rfl [14] ⟨⟨e14, rfl⟩, trivial⟩ ⟨qq, qq, qq, qq, qq, qq, qq, qq, qq, qq, qq, qq, qq, qq, qq, qq, qq, trivial, trivial⟩, ?_⟩
        try dsimp only
        rw [updE_self E 13, updE_fls 13 e15 rfl]
        exact hc
      · intro E θ a w hD hi hp he hc
        have e13 := hp.of (k := 13) rfl
        have hf := he.h0
        replace hf := hf.more he 16 rfl (onP e13)
        refine stP hf rfl rfl rfl (pX rfl rfl) fun a hf => ?_
        refine cNil ?_
        refine xThenN ?_
        intro ds u hau
        refine ⟨θ, he.put0 hi hau hf rfl 17 rfl rfl, ?_⟩
        exact hc
      · intro E θ a w hD hi hp he hc
        have e5 := hp.of (k := 5) rfl
        have e8 := hp.of (k := 8) rfl
        have e14 := hp.of (k := 14) rfl
        have e13 := hp.of (k := 13) rfl
        try dsimp only at hc
        rw [e13, hi] at hc
        have hf := he.h0
        replace hf := hf.more he 9 rfl (onP e5)
        replace hf := hf.more he 12 rfl (onP e8)
        replace hf := hf.more he 17 rfl (onP e14)
        refine stES (enc := (Value.int .i64)) (m := (setM w_.from_ a_ ((w_.from_ a_).getD 0))) (v := b__1) hf hc rfl rfl rfl rfl u4 fun w hc => ?_
        refine cNil ?_
        refine xThenN ?_
        intro ds u hau
        refine ⟨θ, he.stay0 hi hau hf rfl, ?_⟩
        try dsimp only
        rw [updE_tru 15 e13, updE_self E 15]
        exact hc
      · intro E θ a w hall he hc
        have hf := he.h0
        have e12 := hall 12 rfl
        have e13 := hall 13 rfl
        have e15 := hall 15 rfl
        try dsimp only at hc
        rw [e12, e13, e15] at hc
        exact ⟨hf.keep trivial, hc⟩
      rintro a w ⟨hf, hc⟩
      obtain rfl := Option.some.inj hF
      replace hc := hc.drop k2
      replace hc := hc.drop k1
      replace hc := hc.drop k0
      exact fnOut0 (by simp) rfl Try.results99 hf ⟨rfl, hc⟩
    · replace hF := condF hb hF
      clear hb
      refine wp_skip ?_
      obtain rfl := Option.some.inj hF
      replace hc := hc.drop k2
      replace hc := hc.drop k1
      replace hc := hc.drop k0
      exact fnOut0 (by simp) rfl Try.results99 hf ⟨rfl, hc⟩
  refine wp_seq_k fun K6 h6 => ?_
  refine cReg ?_
  refine stP hf rfl rfl rfl (pM rfl) fun a hf => ?_
  refine stP hf rfl rfl rfl (pM rfl) fun a hf => ?_
  refine stP hf rfl rfl rfl (pNC rfl) fun a hf => ?_
  refine stP hf rfl rfl rfl (pFA fa_130_0 rfl) fun a hf => ?_
  refine stP hf rfl rfl rfl (pFA fa_55_4 rfl) fun a hf => ?_
  refine stE hf hc rfl rfl rfl (eLd1 sc_53 rfl (cell_box m1 rfl)) fun a w hf hc => ?_
  refine stP hf rfl rfl rfl (pLenS Try.underlying53 rfl) fun a hf => ?_
  refine stP hf rfl rfl rfl (pLe rfl rfl) fun a hf => ?_
  refine cNil ?_
  refine h6 _ _ ?_
  refine cCond (b := (decide (b__1 ≤ ((w_.Site.Points.length : Nat) : Int)))) hf rfl (fun hb => ?_) (fun hb => ?_)
  · replace hF := condT hb hF
    clear hb
    obtain ⟨r_2, hr_2, hF⟩ := bnd_some hF
    refine regionE (fun θ => [⟨none, none, 0, .pointer (some ⟨b_, 0, none⟩)⟩, ⟨none, none, 1, .int .i64 a_⟩, ⟨none, none, 2, .int .i64 b__1⟩, ⟨none, none, 6, .pointer (some ⟨b_1, 0, none⟩)⟩, ⟨some 0, none, 23, .pointer (some ⟨b_1, 0, none⟩)⟩, ⟨some 1, none, 24, .int .i64 ((w_.least b__1.toNat).cost)⟩, ⟨some 2, none, 25, .pointer (some ⟨b_, 0, none⟩)⟩, ⟨some 3, none, 26, .int .i64 b__1⟩, ⟨some 4, none, 27, .agg #[.int .i64 r_2.At, .int .i64 r_2.Depth, .int .i64 r_2.Cost]⟩, ⟨some 5, none, 28, .int .i64 r_2.Cost⟩, ⟨some 6, none, 29, .int .i64 (W (((w_.least b__1.toNat).cost) + r_2.Cost))⟩, ⟨some 7, none, 30, .pointer (some ⟨b_1, 1, none⟩)⟩, ⟨some 8, none, 31, .int .i64 ((w_.least b__1.toNat).points)⟩, ⟨some 9, none, 32, .int .i64 (W (((w_.least b__1.toNat).points) + 1))⟩, ⟨some 10, none, 33, .agg #[.int .i64 (W (((w_.least b__1.toNat).cost) + r_2.Cost)), .int .i64 (W (((w_.least b__1.toNat).points) + 1))]⟩]) (fun E θ => (bif E 11 then .box b_1 [.int .i64 (W (((w_.least b__1.toNat).cost) + r_2.Cost)), .int .i64 (W (((w_.least b__1.toNat).points) + 1))] 126 else .box b_1 [.int .i64 ((w_.least b__1.toNat).cost), .int .i64 ((w_.least b__1.toNat).points)] 126) :: .box b_ (catc [.int .i64 w_.Site.Left, .int .i64 w_.Site.Right, .int .i64 w_.Site.Gap, .int .i64 w_.Site.Step_, .slice w__Site_Points_p w_.Site.Points.length w__Site_Points_c] 32 enc_gauge_spent w_.least [.map (some mb)]) 130 :: .im mb (fun j => (w_.from_ j).map (Value.int .i64)) none :: Lf) [(11, 1), (11, 8)] (fun a w => Has 73 a [(0, .pointer (some ⟨b_, 0, none⟩)), (1, .int .i64 a_), (2, .int .i64 b__1), (6, .pointer (some ⟨b_1, 0, none⟩))] ∧ Ctx G (.box b_1 [.int .i64 (W (((w_.least b__1.toNat).cost) + r_2.Cost)), .int .i64 (W (((w_.least b__1.toNat).points) + 1))] 126 :: .box b_ (catc [.int .i64 w_.Site.Left, .int .i64 w_.Site.Right, .int .i64 w_.Site.Gap, .int .i64 w_.Site.Step_, .slice w__Site_Points_p w_.Site.Points.length w__Site_Points_c] 32 enc_gauge_spent w_.least [.map (some mb)]) 130 :: .im mb (fun j => (w_.from_ j).map (Value.int .i64)) none :: Lf) w) follows_mx (by kernel_rfl) (by kernel_rfl) (HasE.of hf ⟨rfl, rfl, rfl, rfl, trivial, trivial, trivial, trivial, trivial, trivial, trivial, trivial, trivial, trivial, trivial, trivial⟩) hc ⟨?_, ?_, ?_, ?_, ?_, ?_, ?_, ?_, ?_, ?_, ?_, ?_, trivial⟩ ?_ ?_
    · intro E θ a w hD hi hp he hc
      have hf := he.h0
      replace hf := hf.more he 3 rfl onT
      refine stP hf rfl rfl rfl (pFA fa_126_0 rfl) fun a hf => ?_
      refine cNil ?_
      refine xThenN ?_
      intro ds u hau
      refine ⟨θ, he.put0 hi hau hf rfl 4 rfl rfl, ?_⟩
      exact hc
    · intro E θ a w hD hi hp he hc
      have e0 := hp.of (k := 0) rfl
      have e11 := hD.f 0 rfl hi
      try dsimp only at hc
      rw [e11] at hc
      have hf := he.h0
      replace hf := hf.more he 4 rfl (onP e0)
      refine stE hf hc rfl rfl rfl (eLd1 sc_3 rfl (cell_box m0 rfl)) fun a w hf hc => ?_
      refine cNil ?_
      refine xThenN ?_
      intro ds u hau
      refine ⟨θ, he.put0 hi hau hf rfl 5 rfl rfl, ?_⟩
      try dsimp only
      rw [updE_fls 1 e11 rfl]
      exact hc
    · intro E θ a w hD hi hp he hc
      have hf := he.h0
      replace hf := hf.more he 0 rfl onT
      refine stP hf rfl rfl rfl (pM rfl) fun a hf => ?_
      refine cNil ?_
      refine xThenN ?_
      intro ds u hau
      refine ⟨θ, he.put0 hi hau hf rfl 6 rfl rfl, ?_⟩
      exact hc
    · intro E θ a w hD hi hp he hc
      have hf := he.h0
      replace hf := hf.more he 2 rfl onT
      refine stP hf rfl rfl rfl (pM rfl) fun a hf => ?_
      refine cNil ?_
      refine xThenN ?_
      intro ds u hau
      refine ⟨θ, he.put0 hi hau hf rfl 7 rfl rfl, ?_⟩
      exact hc
    · intro E θ a w hD hi hp he hc
      have e2 := hp.of (k := 2) rfl
      have e3 := hp.of (k := 3) rfl
      have hf := he.h0
      replace hf := hf.more he 6 rfl (onP e2)
      replace hf := hf.more he 7 rfl (onP e3)
      refine stE hf hc rfl rfl rfl (eC (v := .agg #[.int .i64 r_2.At, .int .i64 r_2.Depth, .int .i64 r_2.Cost]) (vs := [.pointer (some ⟨b_, 0, none⟩), .int .i64 b__1]) (caps := []) en_84 rfl rfl rfl rfl (fun w hc => (gauge_work_station_ok w_ b__1 h_w__Site_Points ((hc.pick k2).pick k2) hr_2).mono fun e w h => ⟨h.1, ((h.2.unpick k2).unpick k2)⟩)) fun a w hf hc => ?_
      refine cNil ?_
      refine xThenN ?_
      intro ds u hau
      refine ⟨θ, he.put0 hi hau hf rfl 8 rfl rfl, ?_⟩
      exact hc
    · intro E θ a w hD hi hp he hc
      have e4 := hp.of (k := 4) rfl
      have hf := he.h0
      replace hf := hf.more he 8 rfl (onP e4)
      refine stP hf rfl rfl rfl (pField1 Try.underlying64 rfl sc_3 rfl rfl) fun a hf => ?_
      refine cNil ?_
      refine xThenN ?_
      intro ds u hau
      refine ⟨θ, he.put0 hi hau hf rfl 9 rfl rfl, ?_⟩
      exact hc
    · intro E θ a w hD hi hp he hc
      have e1 := hp.of (k := 1) rfl
      have e5 := hp.of (k := 5) rfl
      have hf := he.h0
      replace hf := hf.more he 5 rfl (onP e1)
      replace hf := hf.more he 9 rfl (onP e5)
      refine stP hf rfl rfl rfl (pAdd rfl rfl) fun a hf => ?_
      refine cNil ?_
      refine xThenN ?_
      intro ds u hau
      refine ⟨θ, he.put0 hi hau hf rfl 10 rfl rfl, ?_⟩
      exact hc
    · intro E θ a w hD hi hp he hc
      have hf := he.h0
      replace hf := hf.more he 3 rfl onT
      refine stP hf rfl rfl rfl (pFA fa_126_1 rfl) fun a hf => ?_
      refine cNil ?_
      refine xThenN ?_
      intro ds u hau
      refine ⟨θ, he.put0 hi hau hf rfl 11 rfl rfl, ?_⟩
      exact hc
    · intro E θ a w hD hi hp he hc
      have e7 := hp.of (k := 7) rfl
      have e11 := hD.f 1 rfl hi
      try dsimp only at hc
      rw [e11] at hc
      have hf := he.h0
      replace hf := hf.more he 11 rfl (onP e7)
      refine stE hf hc rfl rfl rfl (eLd1 sc_3 rfl (cell_box m0 rfl)) fun a w hf hc => ?_
      refine cNil ?_
      refine xThenN ?_
      intro ds u hau
      refine ⟨θ, he.put0 hi hau hf rfl 12 rfl rfl, ?_⟩
      try dsimp only
      rw [updE_fls 8 e11 rfl]
      exact hc
    · intro E θ a w hD hi hp he hc
      have e8 := hp.of (k := 8) rfl
      have hf := he.h0
      replace hf := hf.more he 12 rfl (onP e8)
      refine stP hf rfl rfl rfl (pAdd rfl rfl) fun a hf => ?_
      refine cNil ?_
      refine xThenN ?_
      intro ds u hau
      refine ⟨θ, he.put0 hi hau hf rfl 13 rfl rfl, ?_⟩
      exact hc
    · intro E θ a w hD hi hp he hc
      have e6 := hp.of (k := 6) rfl
      have e9 := hp.of (k := 9) rfl
      have hf := he.h0
      replace hf := hf.more he 10 rfl (onP e6)
      replace hf := hf.more he 13 rfl (onP e9)
      refine stP hf rfl rfl rfl (pBuildS (cells := [.int .i64 (W (((w_.least b__1.toNat).cost) + r_2.Cost)), .int .i64 (W (((w_.least b__1.toNat).points) + 1))]) bt_126 rfl rfl) fun a hf => ?_
      refine cNil ?_
      refine xThenN ?_
      intro ds u hau
      refine ⟨θ, he.put0 hi hau hf rfl 14 rfl rfl, ?_⟩
      exact hc
    · intro E θ a w hD hi hp he hc
      have e10 := hp.of (k := 10) rfl
      try dsimp only at hc
      rw [hi] at hc
      have hf := he.h0
      replace hf := hf.more he 3 rfl onT
      replace hf := hf.more he 14 rfl (onP e10)
      refine stSt (vs := [.int .i64 (W (((w_.least b__1.toNat).cost) + r_2.Cost)), .int .i64 (W (((w_.least b__1.toNat).points) + 1))]) hf hc rfl rfl rfl rfl sz_126 rfl rfl u0 fun w hc => ?_
      refine cNil ?_
      refine xThenN ?_
      intro ds u hau
      refine ⟨θ, he.stay0 hi hau hf rfl, ?_⟩
      try dsimp only
      rw [updE_self E 11]
      exact hc
    · intro E θ a w hall he hc
      have hf := he.h0
      have e11 := hall 11 rfl
      replace hf := hf.more he 3 rfl (onT)
      replace hf := hf.more he 2 rfl (onT)
      replace hf := hf.more he 1 rfl (onT)
      replace hf := hf.more he 0 rfl (onT)
      try dsimp only at hc
      rw [e11] at hc
      exact ⟨hf.keep ⟨rfl, rfl, rfl, rfl, trivial⟩, hc⟩
    rintro a w ⟨hf, hc⟩
    exact hj2 (W (((w_.least b__1.toNat).cost) + r_2.Cost)) (W (((w_.least b__1.toNat).points) + 1)) _ _  (hf.keep ⟨rfl, rfl, rfl, rfl, trivial⟩) hc hF
  · replace hF := condF hb hF
    clear hb
    refine wp_skip ?_
    exact hj2 ((w_.least b__1.toNat).cost) ((w_.least b__1.toNat).points) _ _  (hf.keep ⟨rfl, rfl, rfl, rfl, trivial⟩) hc hF

def gauge_opened_j21 (N : Nat) (b_3 : Int) (x_2 : Nat → gauge_spent) (mp_2 : Int → Option Int) : Option (Step (Int × (Nat → gauge_spent) × (Int → Option Int)) (Step (Int × (Nat → gauge_spent) × (Int → Option Int)) ((Int) ⊕ (Int × Int × Int × Int × (Nat → gauge_spent) × (Int → Option Int) × Int)))) :=
  some (.cont (W (b_3 + 1), x_2, mp_2))
def gauge_opened_b18 (N : Nat) (s_ : gauge_Site) (a_1 : Int) (b_3 : Int) (x_1 : Nat → gauge_spent) (mp_1 : Int → Option Int) : Option (Step (Int × (Nat → gauge_spent) × (Int → Option Int)) (Step (Int × (Nat → gauge_spent) × (Int → Option Int)) ((Int) ⊕ (Int × Int × Int × Int × (Nat → gauge_spent) × (Int → Option Int) × Int)))) :=
  cond (decide (b_3 ≤ (W (((s_.Points.length : Nat) : Int) + 1))))
  (Option.bind (gauge_work_steps N (⟨s_, x_1, mp_1⟩ : gauge_work) a_1 b_3) fun r_2 =>
  Option.bind (cond r_2 (Option.bind (inR b_3 32) fun un_1 =>
  Option.bind (gauge_far N) fun r_3 =>
  some (!(((x_1 b_3.toNat).cost) == r_3.cost && ((x_1 b_3.toNat).points) == r_3.points))) (some false)) fun t_1 =>
  cond t_1
  (Option.bind (gauge_work_better N (⟨s_, x_1, mp_1⟩ : gauge_work) a_1 b_3) fun r_4 =>
  gauge_opened_j21 N b_3 r_4.1 r_4.2)
  (gauge_opened_j21 N b_3 x_1 mp_1))
  (some (.brk (b_3, x_1, mp_1)))
def gauge_opened_b10 (N : Nat) (s_ : gauge_Site) (a_1 : Int) (x : Nat → gauge_spent) (mp : Int → Option Int) : Option (Step (Int × (Nat → gauge_spent) × (Int → Option Int)) ((Int) ⊕ (Int × Int × Int × Int × (Nat → gauge_spent) × (Int → Option Int) × Int))) :=
  cond (decide (0 ≤ a_1))
  (Option.bind (gauge_far N) fun r_1 =>
  Option.bind (inR a_1 32) fun un =>
  Option.bind (loopO (fun s18 => gauge_opened_b18 N s_ a_1 s18.1 s18.2.1 s18.2.2) N (W (a_1 + 1), (setF x a_1.toNat r_1), mp)) fun x18 =>
  exK x18 (fun s18 => some (.cont (W (a_1 - 1), s18.2.1, s18.2.2))) some)
  (some (.brk (a_1, x, mp)))
def gauge_opened (N : Nat) (s_ : gauge_Site) : Option ((Int) ⊕ (Int × Int × Int × Int × (Nat → gauge_spent) × (Int → Option Int) × Int)) :=
  Option.bind (gauge_CheckSite N s_) fun r =>
  cond (r != 0)
  (some (.inl r))
  (Option.bind (loopO (fun s10 => gauge_opened_b10 N s_ s10.1 s10.2.1 s10.2.2) N (W ((W (((s_.Points.length : Nat) : Int) + 1)) - 1), (fun _ => (⟨0, 0⟩ : gauge_spent)), (fun _ => none : Int → Option Int))) fun x10 =>
  exK x10 (fun s10 => some (.inr (s_.Left, s_.Right, s_.Gap, s_.Step_, s10.2.1, s10.2.2, 0))) some)
theorem gauge_opened_ok {N : Nat} {G : Pers} {Lf : List Ent} {w : World} (s_ : gauge_Site) {s__Points_p : Option Addr} {s__Points_c : Nat} (h_s__Points : Rd G 3 s__Points_p s__Points_c (s_.Points.map enc_gauge_Point)) (hc : Ctx G (Lf) w) {res : (Int) ⊕ (Int × Int × Int × Int × (Nat → gauge_spent) × (Int → Option Int) × Int)} (hF : gauge_opened N s_ = some res) : Calls Try.prog 66 #[.agg #[.int .i64 s_.Left, .int .i64 s_.Right, .int .i64 s_.Gap, .int .i64 s_.Step_, .slice s__Points_p s_.Points.length s__Points_c]] w (fun e w => sumK (fun rr => e = .returned (.tuple #[.pointer none, .int .i64 rr]) ∧ Ctx G (Lf) w) (fun rr => ∃ (b'1 : Nat) (b'2 : Nat), e = .returned (.tuple #[.pointer (some ⟨b'1, 0, none⟩), .int .i64 rr.2.2.2.2.2.2]) ∧ Ctx G (.im b'2 (fun j => (rr.2.2.2.2.2.1 j).map (Value.int .i64)) none :: .box b'1 (catc [.int .i64 rr.1, .int .i64 rr.2.1, .int .i64 rr.2.2.1, .int .i64 rr.2.2.2.1, .slice s__Points_p s_.Points.length s__Points_c] 32 enc_gauge_spent rr.2.2.2.2.1 [.map (some b'2)]) 130 :: Lf) w) res) := by
  unfold gauge_opened at hF
  refine fnIn (args := [.agg #[.int .i64 s_.Left, .int .i64 s_.Right, .int .i64 s_.Gap, .int .i64 s_.Step_, .slice s__Points_p s_.Points.length s__Points_c]]) Try.func66 rfl Try.ntmps66 rfl fun a hf => ?_
  refine wp_seq_k fun K1 h1 => ?_
  refine cReg ?_
  refine stBx (cs := [.int .i64 s_.Left, .int .i64 s_.Right, .int .i64 s_.Gap, .int .i64 s_.Step_, .slice s__Points_p s_.Points.length s__Points_c]) hf hc rfl rfl rfl rfl fun b_1 a w hf hc => ?_
  refine stP hf rfl rfl rfl (pA rfl) fun a hf => ?_
  refine stP hf rfl rfl rfl (pA rfl) fun a hf => ?_
  refine cNil ?_
  refine h1 _ _ ?_
  refine wp_seq_k fun K2 h2 => ?_
  refine wp_seq_k fun K3 h3 => ?_
  refine cReg ?_
  refine stE hf hc rfl rfl rfl (eLdN (vs := [.int .i64 s_.Left, .int .i64 s_.Right, .int .i64 s_.Gap, .int .i64 s_.Step_, .slice s__Points_p s_.Points.length s__Points_c]) ag_55 rfl rfl (cells_box (n := 5) m0 rfl)) fun a w hf hc => ?_
  obtain ⟨r, hr, hF⟩ := bnd_some hF
  refine stE hf hc rfl rfl rfl (eC (v := .int .i64 r) (vs := [.agg #[.int .i64 s_.Left, .int .i64 s_.Right, .int .i64 s_.Gap, .int .i64 s_.Step_, .slice s__Points_p s_.Points.length s__Points_c]]) (caps := []) en_35 rfl rfl rfl rfl (fun w hc => gauge_CheckSite_ok s_ h_s__Points hc hr)) fun a w hf hc => ?_
  refine stP hf rfl rfl rfl (pA rfl) fun a hf => ?_
  refine cNil ?_
  refine h3 _ _ ?_
  refine wp_seq_k fun K4 h4 => ?_
  refine cReg ?_
  refine stP hf rfl rfl rfl (pM rfl) fun a hf => ?_
  refine stP hf rfl rfl rfl (pNe rfl rfl) fun a hf => ?_
  refine cNil ?_
  refine h4 _ _ ?_
  refine cCond (b := (r != 0)) hf rfl (fun hb => ?_) (fun hb => ?_)
  · replace hF := condT hb hF
    clear hb
    refine wp_seq_k fun K5 h5 => ?_
    refine cReg ?_
    refine stP hf rfl rfl rfl (pM rfl) fun a hf => ?_
    refine stP hf rfl rfl rfl (pA rfl) fun a hf => ?_
    refine stP hf rfl rfl rfl (pA rfl) fun a hf => ?_
    refine cNil ?_
    refine h5 _ _ ?_
    refine wp_ret ?_
    refine xThenR ?_
    obtain rfl := Option.some.inj hF
    replace hc := hc.drop k0
    exact fnOut2 (by simp) rfl Try.results66 hf hc (show look _ 2 = _ from rfl) (show look _ 3 = _ from rfl) ⟨rfl, hc⟩
  · replace hF := condF hb hF
    clear hb
    refine wp_skip ?_
    refine h2 _ _ ?_
    refine wp_seq_k fun K6 h6 => ?_
    refine cReg ?_
    refine stE hf hc rfl rfl rfl (eLdN (vs := [.int .i64 s_.Left, .int .i64 s_.Right, .int .i64 s_.Gap, .int .i64 s_.Step_, .slice s__Points_p s_.Points.length s__Points_c]) ag_55 rfl rfl (cells_box (n := 5) m0 rfl)) fun a w hf hc => ?_
    refine stMM hf hc rfl rfl fun mb a w hf hc => ?_
    replace hc : Ctx _ (.im mb (fun j => ((fun _ => none : Int → Option Int) j).map (Value.int .i64)) none :: _) w := hc
    refine stP hf rfl rfl rfl (pBuildS (cells := (catc [.int .i64 s_.Left, .int .i64 s_.Right, .int .i64 s_.Gap, .int .i64 s_.Step_, .slice s__Points_p s_.Points.length s__Points_c] 32 enc_gauge_spent (fun _ => (⟨0, 0⟩ : gauge_spent)) [.map (some mb)])) bt_130 rfl rfl) fun a hf => ?_
    refine stBx (cs := (catc [.int .i64 s_.Left, .int .i64 s_.Right, .int .i64 s_.Gap, .int .i64 s_.Step_, .slice s__Points_p s_.Points.length s__Points_c] 32 enc_gauge_spent (fun _ => (⟨0, 0⟩ : gauge_spent)) [.map (some mb)])) hf hc rfl rfl rfl rfl fun b_2 a w hf hc => ?_
    refine stP hf rfl rfl rfl (pA rfl) fun a hf => ?_
    refine cNil ?_
    refine h6 _ _ ?_
    refine wp_seq_k fun K7 h7 => ?_
    refine cReg ?_
    refine stP hf rfl rfl rfl (pFA fa_55_4 rfl) fun a hf => ?_
    refine stE hf hc rfl rfl rfl (eLd1 sc_53 rfl (cell_box m2 rfl)) fun a w hf hc => ?_
    refine stP hf rfl rfl rfl (pLenS Try.underlying53 rfl) fun a hf => ?_
    refine stP hf rfl rfl rfl (pAdd rfl rfl) fun a hf => ?_
    refine stP hf rfl rfl rfl (pA rfl) fun a hf => ?_
    refine cNil ?_
    refine h7 _ _ ?_
    refine wp_seq_k fun K8 h8 => ?_
    refine wp_seq_k fun K9 h9 => ?_
    refine cReg ?_
    refine stP hf rfl rfl rfl (pM rfl) fun a hf => ?_
    refine stP hf rfl rfl rfl (pSub rfl rfl) fun a hf => ?_
    refine stP hf rfl rfl rfl (pA rfl) fun a hf => ?_
    refine cNil ?_
    refine h9 _ _ ?_
    refine wp_block ?_
    obtain ⟨x10, hx10, hF⟩ := bnd_some hF
    let S10 : (Int × (Nat → gauge_spent) × (Int → Option Int)) → Act → World → Prop := (fun (zz : Int × (Nat → gauge_spent) × (Int → Option Int)) a w => Has 60 a [(5, .pointer (some ⟨b_2, 0, none⟩)), (6, .int .i64 (W (((s_.Points.length : Nat) : Int) + 1))), (7, .int .i64 zz.1)] ∧ Ctx G (.box b_2 (catc [.int .i64 s_.Left, .int .i64 s_.Right, .int .i64 s_.Gap, .int .i64 s_.Step_, .slice s__Points_p s_.Points.length s__Points_c] 32 enc_gauge_spent zz.2.1 [.map (some mb)]) 130 :: .im mb (fun j => (zz.2.2 j).map (Value.int .i64)) none :: Lf) w)
    have hr10 : ∀ (zz : Int × (Nat → gauge_spent) × (Int → Option Int)) a w, x10 = .go zz → S10 zz a w → K8 a w := by
      rintro ⟨a_1, x, mp⟩ a w rfl ⟨hf, hc⟩
      replace hF : _ = some res := hF
      refine h8 _ _ ?_
      refine wp_seq_k fun K11 h11 => ?_
      refine cReg ?_
      refine stP hf rfl rfl rfl (pM rfl) fun a hf => ?_
      refine stP hf rfl rfl rfl (pA rfl) fun a hf => ?_
      refine stP hf rfl rfl rfl (pA rfl) fun a hf => ?_
      refine cNil ?_
      refine h11 _ _ ?_
      refine wp_ret ?_
      obtain rfl := Option.some.inj hF
      replace hc := hc.pick k0
      replace hc := hc.pick k1
      exact fnOut2 (by simp) rfl Try.results66 hf hc (show look _ 2 = _ from rfl) (show look _ 3 = _ from rfl) ⟨b_2, mb, rfl, hc⟩
    have ho10 : ∀ r, x10 = .out r → r = res := by
      rintro r rfl
      exact Option.some.inj hF
    replace hc := hc.drop k2
    refine cLoop N (loopW (S := S10) (x := x10) ?_ N (W ((W (((s_.Points.length : Nat) : Int) + 1)) - 1), (fun _ => (⟨0, 0⟩ : gauge_spent)), (fun _ => none : Int → Option Int)) _ _ ⟨hf.keep ⟨rfl, rfl, rfl, trivial⟩, hc⟩ hx10)
    clear hF hf hc
    rintro ⟨a_1, x, mp⟩ st10 a w KB10 ⟨hf, hc⟩ hF hfin10 hK10
    unfold gauge_opened_b10 at hF
    refine wp_seq_k fun K12 h12 => ?_
    refine wp_seq_k fun K13 h13 => ?_
    refine cReg ?_
    refine stP hf rfl rfl rfl (pM rfl) fun a hf => ?_
    refine stP hf rfl rfl rfl (pGe rfl rfl) fun a hf => ?_
    refine cNil ?_
    refine h13 _ _ ?_
    refine cCond (b := (decide (0 ≤ a_1))) hf rfl (fun hb => ?_) (fun hb => ?_)
    · replace hF := condT hb hF
      clear hb
      refine wp_skip ?_
      refine h12 _ _ ?_
      refine wp_seq_k fun K14 h14 => ?_
      refine wp_block ?_
      refine wp_seq_k fun K15 h15 => ?_
      obtain ⟨r_1, hr_1, hF⟩ := bnd_some hF
      obtain ⟨un, hun, hF⟩ := bnd_some hF
      refine regionE (fun θ => [⟨none, none, 5, .pointer (some ⟨b_2, 0, none⟩)⟩, ⟨none, none, 6, .int .i64 (W (((s_.Points.length : Nat) : Int) + 1))⟩, ⟨none, none, 7, .int .i64 a_1⟩, ⟨some 0, none, 28, .pointer (some ⟨b_2, 0, none⟩)⟩, ⟨some 1, none, 29, .int .i64 a_1⟩, ⟨some 2, none, 30, .agg #[.int .i64 r_1.cost, .int .i64 r_1.points]⟩, ⟨some 3, none, 31, .pointer (some ⟨b_2, 0, none⟩)⟩, ⟨some 4, none, 32, .pointer (some ⟨b_2, 5, none⟩)⟩, ⟨some 5, none, 33, .pointer (some ⟨b_2, 5 + a_1.toNat * 2, none⟩)⟩]) (fun E θ => (bif E 6 then .box b_2 (catc [.int .i64 s_.Left, .int .i64 s_.Right, .int .i64 s_.Gap, .int .i64 s_.Step_, .slice s__Points_p s_.Points.length s__Points_c] 32 enc_gauge_spent (setF x a_1.toNat r_1) [.map (some mb)]) 130 else .box b_2 (catc [.int .i64 s_.Left, .int .i64 s_.Right, .int .i64 s_.Gap, .int .i64 s_.Step_, .slice s__Points_p s_.Points.length s__Points_c] 32 enc_gauge_spent x [.map (some mb)]) 130) :: .im mb (fun j => (mp j).map (Value.int .i64)) none :: Lf) [] (fun a w => Has 60 a [(5, .pointer (some ⟨b_2, 0, none⟩)), (6, .int .i64 (W (((s_.Points.length : Nat) : Int) + 1))), (7, .int .i64 a_1)] ∧ Ctx G (.box b_2 (catc [.int .i64 s_.Left, .int .i64 s_.Right, .int .i64 s_.Gap, .int .i64 s_.Step_, .slice s__Points_p s_.Points.length s__Points_c] 32 enc_gauge_spent (setF x a_1.toNat r_1) [.map (some mb)]) 130 :: .im mb (fun j => (mp j).map (Value.int .i64)) none :: Lf) w) follows_mx (by kernel_rfl) (by kernel_rfl) (HasE.of hf ⟨rfl, rfl, rfl, trivial, trivial, trivial, trivial, trivial, trivial, trivial⟩) hc ⟨?_, ?_, ?_, ?_, ?_, ?_, ?_, trivial⟩ ?_ ?_
      · intro E θ a w hD hi hp he hc
        have hf := he.h0
        replace hf := hf.more he 0 rfl onT
        refine stP hf rfl rfl rfl (pM rfl) fun a hf => ?_
        refine cNil ?_
        refine xThenN ?_
        intro ds u hau
        refine ⟨θ, he.put0 hi hau hf rfl 3 rfl rfl, ?_⟩
        exact hc
      · intro E θ a w hD hi hp he hc
        have hf := he.h0
        replace hf := hf.more he 2 rfl onT
        refine stP hf rfl rfl rfl (pM rfl) fun a hf => ?_
        refine cNil ?_
        refine xThenN ?_
        intro ds u hau
        refine ⟨θ, he.put0 hi hau hf rfl 4 rfl rfl, ?_⟩
        exact hc
      · intro E θ a w hD hi hp he hc
        have hf := he.h0
        refine stE hf hc rfl rfl rfl (eC (v := .agg #[.int .i64 r_1.cost, .int .i64 r_1.points]) (vs := []) (caps := []) en_67 rfl rfl rfl rfl (fun w hc => gauge_far_ok hc hr_1)) fun a w hf hc => ?_
        refine cNil ?_
        refine xThenN ?_
        intro ds u hau
        refine ⟨θ, he.put0 hi hau hf rfl 5 rfl rfl, ?_⟩
        exact hc
      · intro E θ a w hD hi hp he hc
        have e0 := hp.of (k := 0) rfl
        have hf := he.h0
        replace hf := hf.more he 3 rfl (onP e0)
        refine stP hf rfl rfl rfl (pNC rfl) fun a hf => ?_
        refine cNil ?_
        refine xThenN ?_
        intro ds u hau
        refine ⟨θ, he.put0 hi hau hf rfl 6 rfl rfl, ?_⟩
        exact hc
      · intro E θ a w hD hi hp he hc
        have e3 := hp.of (k := 3) rfl
        have hf := he.h0
        replace hf := hf.more he 6 rfl (onP e3)
        refine stP hf rfl rfl rfl (pFA fa_130_1 rfl) fun a hf => ?_
        refine cNil ?_
        refine xThenN ?_
        intro ds u hau
        refine ⟨θ, he.put0 hi hau hf rfl 7 rfl rfl, ?_⟩
        exact hc
      · intro E θ a w hD hi hp he hc
        have e1 := hp.of (k := 1) rfl
        have e4 := hp.of (k := 4) rfl
        have hf := he.h0
        replace hf := hf.more he 4 rfl (onP e1)
        replace hf := hf.more he 7 rfl (onP e4)
        refine stP hf rfl rfl rfl (pIAA Try.underlying127 sz_126 rfl rfl (inR_spec hun).1 (inR_spec hun).2) fun a hf => ?_
        refine cNil ?_
        refine xThenN ?_
        intro ds u hau
        refine ⟨θ, he.put0 hi hau hf rfl 8 rfl rfl, ?_⟩
        exact hc
      · intro E θ a w hD hi hp he hc
        have e2 := hp.of (k := 2) rfl
        have e5 := hp.of (k := 5) rfl
        try dsimp only at hc
        rw [hi] at hc
        have hf := he.h0
        replace hf := hf.more he 5 rfl (onP e2)
        replace hf := hf.more he 8 rfl (onP e5)
        refine stAr (vs := [.int .i64 r_1.cost, .int .i64 r_1.points]) (o' := 0) (z := r_1) hf hc rfl rfl rfl rfl sz_126 rfl (fun x => (one_enc_gauge_spent x).1) rfl hun rfl rfl u0 fun w hc => ?_
        refine cNil ?_
        refine xThenN ?_
        intro ds u hau
        refine ⟨θ, he.stay0 hi hau hf rfl, ?_⟩
        try dsimp only
        rw [updE_self E 6]
        exact hc
      · intro E θ a w hall he hc
        have hf := he.h0
        have e6 := hall 6 rfl
        replace hf := hf.more he 2 rfl (onT)
        replace hf := hf.more he 1 rfl (onT)
        replace hf := hf.more he 0 rfl (onT)
        try dsimp only at hc
        rw [e6] at hc
        exact ⟨hf.keep ⟨rfl, rfl, rfl, trivial⟩, hc⟩
      rintro a w ⟨hf, hc⟩
      refine h15 _ _ ?_
      refine wp_seq_k fun K16 h16 => ?_
      refine cReg ?_
      refine stP hf rfl rfl rfl (pM rfl) fun a hf => ?_
      refine stP hf rfl rfl rfl (pAdd rfl rfl) fun a hf => ?_
      refine stP hf rfl rfl rfl (pA rfl) fun a hf => ?_
      refine cNil ?_
      refine h16 _ _ ?_
      refine wp_thenK fun K17 h17 => ?_
      refine wp_block ?_
      obtain ⟨x18, hx18, hF⟩ := bnd_some hF
      let S18 : (Int × (Nat → gauge_spent) × (Int → Option Int)) → Act → World → Prop := (fun (zz : Int × (Nat → gauge_spent) × (Int → Option Int)) a w => Has 60 a [(5, .pointer (some ⟨b_2, 0, none⟩)), (6, .int .i64 (W (((s_.Points.length : Nat) : Int) + 1))), (7, .int .i64 a_1), (8, .int .i64 zz.1)] ∧ Ctx G (.box b_2 (catc [.int .i64 s_.Left, .int .i64 s_.Right, .int .i64 s_.Gap, .int .i64 s_.Step_, .slice s__Points_p s_.Points.length s__Points_c] 32 enc_gauge_spent zz.2.1 [.map (some mb)]) 130 :: .im mb (fun j => (zz.2.2 j).map (Value.int .i64)) none :: Lf) w)
      have hr18 : ∀ (zz : Int × (Nat → gauge_spent) × (Int → Option Int)) a w, x18 = .go zz → S18 zz a w → K17 a w := by
        rintro ⟨b_3, x_1, mp_1⟩ a w rfl ⟨hf, hc⟩
        replace hF : _ = some st10 := hF
        refine h17 _ _ ?_
        refine h14 _ _ ?_
        refine cReg ?_
        refine stP hf rfl rfl rfl (pM rfl) fun a hf => ?_
        refine stP hf rfl rfl rfl (pSub rfl rfl) fun a hf => ?_
        refine stP hf rfl rfl rfl (pA rfl) fun a hf => ?_
        refine cNil ?_
        exact hK10 (W (a_1 - 1), x_1, mp_1) _ _ (Option.some.inj hF).symm ⟨hf.keep ⟨rfl, rfl, rfl, trivial⟩, hc⟩
      have ho18 : ∀ r, x18 = .out r → r = st10 := by
        rintro r rfl
        exact Option.some.inj hF
      refine cLoop N (loopW (S := S18) (x := x18) ?_ N (W (a_1 + 1), (setF x a_1.toNat r_1), mp) _ _ ⟨hf.keep ⟨rfl, rfl, rfl, rfl, trivial⟩, hc⟩ hx18)
      clear hF hf hc
      rintro ⟨b_3, x_1, mp_1⟩ st18 a w KB18 ⟨hf, hc⟩ hF hfin18 hK18
      unfold gauge_opened_b18 at hF
      refine wp_seq_k fun K19 h19 => ?_
      refine wp_seq_k fun K20 h20 => ?_
      refine cReg ?_
      refine stP hf rfl rfl rfl (pM rfl) fun a hf => ?_
      refine stP hf rfl rfl rfl (pM rfl) fun a hf => ?_
      refine stP hf rfl rfl rfl (pLe rfl rfl) fun a hf => ?_
      refine cNil ?_
      refine h20 _ _ ?_
      refine cCond (b := (decide (b_3 ≤ (W (((s_.Points.length : Nat) : Int) + 1))))) hf rfl (fun hb => ?_) (fun hb => ?_)
      · replace hF := condT hb hF
        clear hb
        refine wp_skip ?_
        refine h19 _ _ ?_
        refine wp_seq_k fun K21 h21 => ?_
        have hj21 : ∀ (x_2 : Nat → gauge_spent) (mp_2 : Int → Option Int) a w, Has 60 a [(5, .pointer (some ⟨b_2, 0, none⟩)), (6, .int .i64 (W (((s_.Points.length : Nat) : Int) + 1))), (7, .int .i64 a_1), (8, .int .i64 b_3)] → Ctx G (.box b_2 (catc [.int .i64 s_.Left, .int .i64 s_.Right, .int .i64 s_.Gap, .int .i64 s_.Step_, .slice s__Points_p s_.Points.length s__Points_c] 32 enc_gauge_spent x_2 [.map (some mb)]) 130 :: .im mb (fun j => (mp_2 j).map (Value.int .i64)) none :: Lf) w → gauge_opened_j21 N b_3 x_2 mp_2 = some st18 → K21 a w := by
          intro x_2 mp_2 a w hf hc hF
          unfold gauge_opened_j21 at hF
          refine h21 _ _ ?_
          refine cReg ?_
          refine stP hf rfl rfl rfl (pM rfl) fun a hf => ?_
          refine stP hf rfl rfl rfl (pAdd rfl rfl) fun a hf => ?_
          refine stP hf rfl rfl rfl (pA rfl) fun a hf => ?_
          refine cNil ?_
          exact hK18 (W (b_3 + 1), x_2, mp_2) _ _ (Option.some.inj hF).symm ⟨hf.keep ⟨rfl, rfl, rfl, rfl, trivial⟩, hc⟩
        refine wp_block ?_
        refine wp_seq_k fun K22 h22 => ?_
        obtain ⟨r_2, hr_2, hF⟩ := bnd_some hF
        obtain ⟨t_1, ht_1, hF⟩ := bnd_some hF
        refine cQ hc follows_mx (by kernel_rfl) ?_
        refine qE hf rfl rfl rfl (Pu.ev (pM rfl)) fun a hf => ?_
        refine qE hf rfl rfl rfl (Pu.ev (pM rfl)) fun a hf => ?_
        refine qE hf rfl rfl rfl (Pu.ev (pM rfl)) fun a hf => ?_
        refine qE hf rfl rfl rfl (eC (v := .bool r_2) (vs := [.pointer (some ⟨b_2, 0, none⟩), .int .i64 a_1, .int .i64 b_3]) (caps := []) en_82 rfl rfl rfl rfl (fun w hc => (gauge_work_steps_ok (⟨s_, x_1, mp_1⟩ : gauge_work) a_1 b_3 h_s__Points ((hc.pick k1).pick k1) hr_2).mono fun e w h => ⟨h.1, ((h.2.unpick k1).unpick k1)⟩)) fun a hf => ?_
        refine qE hf rfl rfl rfl (Pu.ev (pM rfl)) fun a hf => ?_
        refine qCut 9 (fun a => Has 60 a [(5, .pointer (some ⟨b_2, 0, none⟩)), (6, .int .i64 (W (((s_.Points.length : Nat) : Int) + 1))), (7, .int .i64 a_1), (8, .int .i64 b_3), (41, .pointer (some ⟨b_2, 0, none⟩)), (42, .int .i64 a_1), (43, .int .i64 b_3), (44, .bool r_2), (45, .bool r_2), (54, .bool t_1)]) ?_ ?_
        · cases hb : r_2
          · rw [hb] at hf
            have hF := condF hb ht_1
            obtain rfl := Option.some.inj hF
            refine qS hf rfl rfl rfl fun a hf => ?_
            refine qS hf rfl rfl rfl fun a hf => ?_
            refine qS hf rfl rfl rfl fun a hf => ?_
            refine qS hf rfl rfl rfl fun a hf => ?_
            refine qS hf rfl rfl rfl fun a hf => ?_
            refine qS hf rfl rfl rfl fun a hf => ?_
            refine qS hf rfl rfl rfl fun a hf => ?_
            refine qS hf rfl rfl rfl fun a hf => ?_
            refine qE hf rfl rfl rfl (Pu.ev (pPf rfl rfl)) fun a hf => ?_
            exact qNil (hf.keep ⟨rfl, rfl, rfl, rfl, rfl, rfl, rfl, rfl, rfl, rfl, trivial⟩)
          · rw [hb] at hf
            have hF := condT hb ht_1
            obtain ⟨un_1, hun_1, hF⟩ := bnd_some hF
            obtain ⟨r_3, hr_3, hF⟩ := bnd_some hF
            refine qE hf rfl rfl rfl (Pu.ev (pM rfl)) fun a hf => ?_
            refine qE hf rfl rfl rfl (Pu.ev (pM rfl)) fun a hf => ?_
            refine qE hf rfl rfl rfl (Pu.ev (pNC rfl)) fun a hf => ?_
            refine qE hf rfl rfl rfl (Pu.ev (pFA fa_130_1 rfl)) fun a hf => ?_
            refine qE hf rfl rfl rfl (Pu.ev (pIAA Try.underlying127 sz_126 rfl rfl (inR_spec hun_1).1 (inR_spec hun_1).2)) fun a hf => ?_
            refine qE hf rfl rfl rfl (eLdN (vs := [.int .i64 ((x_1 b_3.toNat).cost), .int .i64 ((x_1 b_3.toNat).points)]) ag_126 rfl rfl (cells_arr (o' := 0) (m := 2) m0 (fun x => (one_enc_gauge_spent x).1) rfl hun_1 rfl)) fun a hf => ?_
            refine qE hf rfl rfl rfl (eC (v := .agg #[.int .i64 r_3.cost, .int .i64 r_3.points]) (vs := []) (caps := []) en_67 rfl rfl rfl rfl (fun w hc => gauge_far_ok hc hr_3)) fun a hf => ?_
            refine qE hf rfl rfl rfl (Pu.ev (pNeA ge_126 rfl rfl (eqs_126 _ _ _ _))) fun a hf => ?_
            refine qE hf rfl rfl rfl (Pu.ev (pPt rfl rfl)) fun a hf => ?_
            obtain rfl := Option.some.inj hF
            exact qNil (hf.keep ⟨rfl, rfl, rfl, rfl, rfl, rfl, rfl, rfl, rfl, rfl, trivial⟩)
        intro a hf
        intro w hc
        refine h22 _ _ ?_
        refine cCond (b := t_1) hf rfl (fun hb => ?_) (fun hb => ?_)
        · replace hF := condT hb hF
          clear hb
          refine cReg ?_
          refine stP hf rfl rfl rfl (pM rfl) fun a hf => ?_
          refine stP hf rfl rfl rfl (pM rfl) fun a hf => ?_
          refine stP hf rfl rfl rfl (pM rfl) fun a hf => ?_
          obtain ⟨r_4, hr_4, hF⟩ := bnd_some hF
          refine stC (vs := [.pointer (some ⟨b_2, 0, none⟩), .int .i64 a_1, .int .i64 b_3]) (caps := []) hf rfl rfl rfl en_99 rfl rfl rfl rfl (gauge_work_better_ok (⟨s_, x_1, mp_1⟩ : gauge_work) a_1 b_3 h_s__Points ((hc.pick k1).pick k1) hr_4) ?_
          rintro _ w ⟨rfl, hc⟩
          refine ⟨_, rfl, fun a hf => ?_⟩
          refine cNil ?_
          exact hj21 r_4.1 r_4.2 _ _  (hf.keep ⟨rfl, rfl, rfl, rfl, trivial⟩) hc hF
        · replace hF := condF hb hF
          clear hb
          refine wp_skip ?_
          exact hj21 x_1 mp_1 _ _  (hf.keep ⟨rfl, rfl, rfl, rfl, trivial⟩) hc hF
      · replace hF := condF hb hF
        clear hb
        refine wp_exit ?_
        refine xThen ?_
        refine xThen ?_
        have he := Option.some.inj hF
        rw [← he] at hfin18
        refine cHit ?_
        exact hr18 _ _ _ hfin18 ⟨hf.keep ⟨rfl, rfl, rfl, rfl, trivial⟩, hc⟩
    · replace hF := condF hb hF
      clear hb
      refine wp_exit ?_
      refine xThen ?_
      refine xThen ?_
      have he := Option.some.inj hF
      rw [← he] at hfin10
      refine cHit ?_
      exact hr10 _ _ _ hfin10 ⟨hf.keep ⟨rfl, rfl, rfl, trivial⟩, hc⟩

def gauge_Plan_1 : Nat → Int → gauge_work → gauge_Site → (List Int) → Option ((List Int))
| 0, _, _, _, _ => none
| N + 1, at_, x, x_1, x_2 =>
  cond (decide (((x.from_ at_).getD 0) ≤ ((x_1.Points.length : Nat) : Int)))
  (Option.bind (room ((x_2 ++ [((x.from_ at_).getD 0)])).length) fun un =>
  Option.bind (gauge_Plan_1 N ((x.from_ at_).getD 0) (⟨x.Site, x.least, x.from_⟩ : gauge_work) x_1 (x_2 ++ [((x.from_ at_).getD 0)])) fun r =>
  some r)
  (some x_2)
theorem gauge_Plan_1_ok {N : Nat} : ∀ {G : Pers} {Lf : List Ent} {w : World} (at_ : Int) (x : gauge_work) (x_1 : gauge_Site) (x_2 : List Int) {b_ : Nat} {b__1 : Nat} {x_Site_Points_p : Option Addr} {x_Site_Points_c : Nat} {mb : Nat} {b__2 : Nat} {x_1_Points_p : Option Addr} {x_1_Points_c : Nat} {b__3 : Nat} {x_2_p : Option Addr} {x_2_c : Nat} {b__4 : Nat} (h_x_Site_Points : Rd G 3 x_Site_Points_p x_Site_Points_c (x.Site.Points.map enc_gauge_Point)) (h_x_1_Points : Rd G 3 x_1_Points_p x_1_Points_c (x_1.Points.map enc_gauge_Point)) (hc : Ctx G (.box b_ [.pointer (some ⟨b__1, 0, none⟩)] 122 :: .box b__1 (catc [.int .i64 x.Site.Left, .int .i64 x.Site.Right, .int .i64 x.Site.Gap, .int .i64 x.Site.Step_, .slice x_Site_Points_p x.Site.Points.length x_Site_Points_c] 32 enc_gauge_spent x.least [.map (some mb)]) 130 :: .im mb (fun j => (x.from_ j).map (Value.int .i64)) none :: .box b__2 [.int .i64 x_1.Left, .int .i64 x_1.Right, .int .i64 x_1.Gap, .int .i64 x_1.Step_, .slice x_1_Points_p x_1.Points.length x_1_Points_c] 55 :: .box b__3 [.slice x_2_p x_2.length x_2_c] 43 :: .row x_2_p x_2_c (x_2.map encI_i64) 3 1 :: .box b__4 [.func (.func 68) #[] #[.pointer (some ⟨b_, 0, none⟩), .pointer (some ⟨b__2, 0, none⟩), .pointer (some ⟨b__3, 0, none⟩), .pointer (some ⟨b__4, 0, none⟩)]] 132 :: Lf) w) {res : (List Int)} (hF : gauge_Plan_1 N at_ x x_1 x_2 = some res), Calls Try.prog 68 #[.int .i64 at_, .pointer (some ⟨b_, 0, none⟩), .pointer (some ⟨b__2, 0, none⟩), .pointer (some ⟨b__3, 0, none⟩), .pointer (some ⟨b__4, 0, none⟩)] w (fun e w => ∃ (p'1 : Option Addr) (c'1 : Nat), e = .returned (.tuple #[]) ∧ Ctx G (.row p'1 c'1 (res.map encI_i64) 3 1 :: .box b_ [.pointer (some ⟨b__1, 0, none⟩)] 122 :: .box b__1 (catc [.int .i64 x.Site.Left, .int .i64 x.Site.Right, .int .i64 x.Site.Gap, .int .i64 x.Site.Step_, .slice x_Site_Points_p x.Site.Points.length x_Site_Points_c] 32 enc_gauge_spent x.least [.map (some mb)]) 130 :: .im mb (fun j => (x.from_ j).map (Value.int .i64)) none :: .box b__2 [.int .i64 x_1.Left, .int .i64 x_1.Right, .int .i64 x_1.Gap, .int .i64 x_1.Step_, .slice x_1_Points_p x_1.Points.length x_1_Points_c] 55 :: .box b__3 [.slice p'1 res.length c'1] 43 :: .box b__4 [.func (.func 68) #[] #[.pointer (some ⟨b_, 0, none⟩), .pointer (some ⟨b__2, 0, none⟩), .pointer (some ⟨b__3, 0, none⟩), .pointer (some ⟨b__4, 0, none⟩)]] 132 :: Lf) w) := by
  induction N with
  | zero =>
    intro G Lf w at_ x x_1 x_2 b_ b__1 x_Site_Points_p x_Site_Points_c mb b__2 x_1_Points_p x_1_Points_c b__3 x_2_p x_2_c b__4 h_x_Site_Points h_x_1_Points hc res hF
    exact noneO hF
  | succ N ih =>
  intro G Lf w at_ x x_1 x_2 b_ b__1 x_Site_Points_p x_Site_Points_c mb b__2 x_1_Points_p x_1_Points_c b__3 x_2_p x_2_c b__4 h_x_Site_Points h_x_1_Points hc res hF
  rw [gauge_Plan_1] at hF
  refine fnIn (args := [.int .i64 at_, .pointer (some ⟨b_, 0, none⟩), .pointer (some ⟨b__2, 0, none⟩), .pointer (some ⟨b__3, 0, none⟩), .pointer (some ⟨b__4, 0, none⟩)]) Try.func68 rfl Try.ntmps68 rfl fun a hf => ?_
  refine wp_seq_k fun K1 h1 => ?_
  refine cReg ?_
  refine stE hf hc rfl rfl rfl (eLd1 sc_122 rfl (cell_box m0 rfl)) fun a w hf hc => ?_
  refine stP hf rfl rfl rfl (pNC rfl) fun a hf => ?_
  refine stP hf rfl rfl rfl (pFA fa_130_2 rfl) fun a hf => ?_
  refine stE hf hc rfl rfl rfl (eLd1 sc_128 rfl (cell_box m1 rfl)) fun a w hf hc => ?_
  refine stP hf rfl rfl rfl (pM rfl) fun a hf => ?_
  refine stE hf hc rfl rfl rfl (eLk (enc := (Value.int .i64)) (z0 := 0) (m := x.from_) m2 Try.underlying128 Try.underlying3 zr_3 rfl rfl) fun a w hf hc => ?_
  refine stP hf rfl rfl rfl (pA rfl) fun a hf => ?_
  refine cNil ?_
  refine h1 _ _ ?_
  refine wp_seq_k fun K2 h2 => ?_
  refine cReg ?_
  refine stP hf rfl rfl rfl (pM rfl) fun a hf => ?_
  refine stP hf rfl rfl rfl (pFA fa_55_4 rfl) fun a hf => ?_
  refine stE hf hc rfl rfl rfl (eLd1 sc_53 rfl (cell_box m3 rfl)) fun a w hf hc => ?_
  refine stP hf rfl rfl rfl (pLenS Try.underlying53 rfl) fun a hf => ?_
  refine stP hf rfl rfl rfl (pLe rfl rfl) fun a hf => ?_
  refine cNil ?_
  refine h2 _ _ ?_
  refine cCond (b := (decide (((x.from_ at_).getD 0) ≤ ((x_1.Points.length : Nat) : Int)))) hf rfl (fun hb => ?_) (fun hb => ?_)
  · replace hF := condT hb hF
    clear hb
    refine wp_seq_k fun K3 h3 => ?_
    refine cReg ?_
    refine stE hf hc rfl rfl rfl (eLd1 sc_43 rfl (cell_box m4 rfl)) fun a w hf hc => ?_
    refine stP hf rfl rfl rfl (pM rfl) fun a hf => ?_
    refine stBS (rows := ([((x.from_ at_).getD 0)] : List Int).map encI_i64) (vs := [(0, .int .i64 ((x.from_ at_).getD 0))]) hf hc rfl rfl sl_43 rfl ⟨rfl, rfl, rfl, trivial⟩ rfl rfl fun b_1 a w hf hc => ?_
    obtain ⟨un, hun, hF⟩ := bnd_some hF
    refine stApm (xs := x_2) (ys := ([((x.from_ at_).getD 0)] : List Int)) hf hc rfl rfl sl_43 rfl rfl rfl rfl rfl one_encI_i64 (src_row hc m0) (fun _ _ => u6) (by simpa using room_spec hun) fun p_1 c_1 a w hf hc => ?_
    refine stSt (vs := [.slice p_1 ((x_2 ++ [((x.from_ at_).getD 0)]).length) c_1]) hf hc rfl rfl rfl rfl sz_43 rfl rfl u5 fun w hc => ?_
    refine cNil ?_
    refine h3 _ _ ?_
    refine cReg ?_
    refine stE hf hc rfl rfl rfl (eLd1 sc_132 rfl (cell_box m7 rfl)) fun a w hf hc => ?_
    refine stP hf rfl rfl rfl (pM rfl) fun a hf => ?_
    obtain ⟨r, hr, hF⟩ := bnd_some hF
    refine stC (vs := [.int .i64 ((x.from_ at_).getD 0)]) (caps := [.pointer (some ⟨b_, 0, none⟩), .pointer (some ⟨b__2, 0, none⟩), .pointer (some ⟨b__3, 0, none⟩), .pointer (some ⟨b__4, 0, none⟩)]) hf rfl rfl rfl en_68 rfl rfl rfl rfl (ih ((x.from_ at_).getD 0) (⟨x.Site, x.least, x.from_⟩ : gauge_work) x_1 (x_2 ++ [((x.from_ at_).getD 0)]) h_x_Site_Points h_x_1_Points (((((((hc.pick k7).pick k7).pick k7).pick k7).pick k7).pick k7).pick k7) hr) ?_
    rintro _ w ⟨p_2, c_2, rfl, hc⟩
    refine ⟨_, rfl, fun a hf => ?_⟩
    refine cNil ?_
    obtain rfl := Option.some.inj hF
    replace hc := hc.drop k7
    exact fnOut0 (by simp) rfl Try.results68 hf ⟨p_2, c_2, rfl, hc⟩
  · replace hF := condF hb hF
    clear hb
    refine wp_skip ?_
    obtain rfl := Option.some.inj hF
    replace hc := hc.pick k4
    replace hc := hc.pick k4
    replace hc := hc.pick k4
    replace hc := hc.pick k4
    replace hc := hc.pick k4
    replace hc := hc.pick k5
    exact fnOut0 (by simp) rfl Try.results68 hf ⟨x_2_p, x_2_c, rfl, hc⟩

def gauge_Plan (N : Nat) (s_ : gauge_Site) : Option ((List Int) × Int × Int) :=
  Option.bind (gauge_opened N s_) (sumK (fun r => cond (r != 0)
  (some (([] : List Int), 0, r))
  (none))
  (fun r_1 => cond (r_1.2.2.2.2.2.2 != 0)
  (some (([] : List Int), 0, r_1.2.2.2.2.2.2))
  (Option.bind (inR 0 32) fun un =>
  Option.bind (gauge_far N) fun r_2 =>
  cond (((r_1.2.2.2.2.1 (0 : Int).toNat).cost) == r_2.cost && ((r_1.2.2.2.2.1 (0 : Int).toNat).points) == r_2.points)
  (some (([] : List Int), 0, 5))
  (Option.bind (gauge_Plan_1 N 0 (⟨(⟨r_1.1, r_1.2.1, r_1.2.2.1, r_1.2.2.2.1, s_.Points⟩ : gauge_Site), r_1.2.2.2.2.1, r_1.2.2.2.2.2.1⟩ : gauge_work) s_ ([] : List Int)) fun r_3 =>
  Option.bind (inR 0 32) fun un_1 =>
  some (r_3, (r_1.2.2.2.2.1 (0 : Int).toNat).cost, 0)))))
theorem gauge_Plan_ok {N : Nat} {G : Pers} {Lf : List Ent} {w : World} (s_ : gauge_Site) {s__Points_p : Option Addr} {s__Points_c : Nat} (h_s__Points : Rd G 3 s__Points_p s__Points_c (s_.Points.map enc_gauge_Point)) (hc : Ctx G (Lf) w) {res : (List Int) × Int × Int} (hF : gauge_Plan N s_ = some res) : Calls Try.prog 29 #[.agg #[.int .i64 s_.Left, .int .i64 s_.Right, .int .i64 s_.Gap, .int .i64 s_.Step_, .slice s__Points_p s_.Points.length s__Points_c]] w (fun e w => ∃ (p'1 : Option Addr) (c'1 : Nat), e = .returned (.tuple #[.slice p'1 res.1.length c'1, .int .i64 res.2.1, .int .i64 res.2.2]) ∧ Ctx G (.row p'1 c'1 (res.1.map encI_i64) 3 1 :: Lf) w) := by
  unfold gauge_Plan at hF
  refine fnIn (args := [.agg #[.int .i64 s_.Left, .int .i64 s_.Right, .int .i64 s_.Gap, .int .i64 s_.Step_, .slice s__Points_p s_.Points.length s__Points_c]]) Try.func29 rfl Try.ntmps29 rfl fun a hf => ?_
  refine wp_seq_k fun K1 h1 => ?_
  refine cReg ?_
  refine stBx (cs := [.int .i64 s_.Left, .int .i64 s_.Right, .int .i64 s_.Gap, .int .i64 s_.Step_, .slice s__Points_p s_.Points.length s__Points_c]) hf hc rfl rfl rfl rfl fun b_1 a w hf hc => ?_
  refine stP hf rfl rfl rfl (pA rfl) fun a hf => ?_
  refine stP hf rfl rfl rfl (pA rfl) fun a hf => ?_
  refine stP hf rfl rfl rfl (pA rfl) fun a hf => ?_
  refine cNil ?_
  refine h1 _ _ ?_
  refine wp_seq_k fun K2 h2 => ?_
  refine cReg ?_
  refine stE hf hc rfl rfl rfl (eLdN (vs := [.int .i64 s_.Left, .int .i64 s_.Right, .int .i64 s_.Gap, .int .i64 s_.Step_, .slice s__Points_p s_.Points.length s__Points_c]) ag_55 rfl rfl (cells_box (n := 5) m0 rfl)) fun a w hf hc => ?_
  obtain ⟨r, hr, hF⟩ := bnd_some hF
  cases r with
  | inl r =>
    replace hF := sumKl hF
    refine stC (vs := [.agg #[.int .i64 s_.Left, .int .i64 s_.Right, .int .i64 s_.Gap, .int .i64 s_.Step_, .slice s__Points_p s_.Points.length s__Points_c]]) (caps := []) hf rfl rfl rfl en_66 rfl rfl rfl rfl (gauge_opened_ok s_ h_s__Points hc hr) ?_
    rintro _ w ⟨rfl, hc⟩
    refine ⟨_, rfl, fun a hf => ?_⟩
    refine stP hf rfl rfl rfl (pM rfl) fun a hf => ?_
    refine stP hf rfl rfl rfl (pX rfl rfl) fun a hf => ?_
    refine stP hf rfl rfl rfl (pX rfl rfl) fun a hf => ?_
    refine stAl (cs := [.pointer none]) hf hc rfl rfl zr_122 rfl fun b_2 a w hf hc => ?_
    refine stSt (vs := [.pointer none]) hf hc rfl rfl rfl rfl sz_122 rfl rfl u0 fun w hc => ?_
    refine stP hf rfl rfl rfl (pA rfl) fun a hf => ?_
    refine cNil ?_
    refine h2 _ _ ?_
    refine wp_seq_k fun K3 h3 => ?_
    refine wp_block ?_
    refine wp_seq_k fun K4 h4 => ?_
    refine cReg ?_
    refine stP hf rfl rfl rfl (pM rfl) fun a hf => ?_
    refine stP hf rfl rfl rfl (pNe rfl rfl) fun a hf => ?_
    refine stP hf rfl rfl rfl (pA rfl) fun a hf => ?_
    refine cNil ?_
    refine h4 _ _ ?_
    refine cCond (b := (r != 0)) hf rfl (fun hb => ?_) (fun hb => ?_)
    · replace hF := condT hb hF
      clear hb
      refine wp_seq_k fun K5 h5 => ?_
      refine cReg ?_
      refine stP hf rfl rfl rfl (pM rfl) fun a hf => ?_
      refine stP hf rfl rfl rfl (pA rfl) fun a hf => ?_
      refine stP hf rfl rfl rfl (pA rfl) fun a hf => ?_
      refine stP hf rfl rfl rfl (pA rfl) fun a hf => ?_
      refine cNil ?_
      refine h5 _ _ ?_
      refine wp_ret ?_
      refine xBlkR ?_
      refine xThenR ?_
      obtain rfl := Option.some.inj hF
      replace hc := hc.nilRow 3 1
      replace hc := hc.drop k2
      replace hc := hc.drop k1
      exact fnOut3 (by simp) rfl Try.results29 hf hc (show look _ 2 = _ from rfl) (show look _ 3 = _ from rfl) (show look _ 4 = _ from rfl) ⟨none, 0, rfl, hc⟩
    · replace hF := condF hb hF
      clear hb
      refine wp_seq_k fun K6 h6 => ?_
      exact noneO hF
  | inr r_1 =>
    replace hF := sumKr hF
    have hr_1 := hr
    refine stC (vs := [.agg #[.int .i64 s_.Left, .int .i64 s_.Right, .int .i64 s_.Gap, .int .i64 s_.Step_, .slice s__Points_p s_.Points.length s__Points_c]]) (caps := []) hf rfl rfl rfl en_66 rfl rfl rfl rfl (gauge_opened_ok s_ h_s__Points hc hr_1) ?_
    rintro _ w ⟨b_3, b_4, rfl, hc⟩
    refine ⟨_, rfl, fun a hf => ?_⟩
    refine stP hf rfl rfl rfl (pM rfl) fun a hf => ?_
    refine stP hf rfl rfl rfl (pX rfl rfl) fun a hf => ?_
    refine stP hf rfl rfl rfl (pX rfl rfl) fun a hf => ?_
    refine stAl (cs := [.pointer none]) hf hc rfl rfl zr_122 rfl fun b_5 a w hf hc => ?_
    refine stSt (vs := [.pointer (some ⟨b_3, 0, none⟩)]) hf hc rfl rfl rfl rfl sz_122 rfl rfl u0 fun w hc => ?_
    refine stP hf rfl rfl rfl (pA rfl) fun a hf => ?_
    refine cNil ?_
    refine h2 _ _ ?_
    refine wp_seq_k fun K7 h7 => ?_
    refine wp_block ?_
    refine wp_seq_k fun K8 h8 => ?_
    refine cReg ?_
    refine stP hf rfl rfl rfl (pM rfl) fun a hf => ?_
    refine stP hf rfl rfl rfl (pNe rfl rfl) fun a hf => ?_
    refine stP hf rfl rfl rfl (pA rfl) fun a hf => ?_
    refine cNil ?_
    refine h8 _ _ ?_
    refine cCond (b := (r_1.2.2.2.2.2.2 != 0)) hf rfl (fun hb => ?_) (fun hb => ?_)
    · replace hF := condT hb hF
      clear hb
      refine wp_seq_k fun K9 h9 => ?_
      refine cReg ?_
      refine stP hf rfl rfl rfl (pM rfl) fun a hf => ?_
      refine stP hf rfl rfl rfl (pA rfl) fun a hf => ?_
      refine stP hf rfl rfl rfl (pA rfl) fun a hf => ?_
      refine stP hf rfl rfl rfl (pA rfl) fun a hf => ?_
      refine cNil ?_
      refine h9 _ _ ?_
      refine wp_ret ?_
      refine xBlkR ?_
      refine xThenR ?_
      obtain rfl := Option.some.inj hF
      replace hc := hc.nilRow 3 1
      replace hc := hc.drop k4
      replace hc := hc.drop k3
      replace hc := hc.drop k2
      replace hc := hc.drop k1
      exact fnOut3 (by simp) rfl Try.results29 hf hc (show look _ 2 = _ from rfl) (show look _ 3 = _ from rfl) (show look _ 4 = _ from rfl) ⟨none, 0, rfl, hc⟩
    · replace hF := condF hb hF
      clear hb
      refine wp_seq_k fun K10 h10 => ?_
      obtain ⟨un, hun, hF⟩ := bnd_some hF
      obtain ⟨r_2, hr_2, hF⟩ := bnd_some hF
      refine cQ hc follows_mx (by kernel_rfl) ?_
      refine qE hf rfl rfl rfl (eLd1 sc_122 rfl (cell_box m0 rfl)) fun a hf => ?_
      refine qE hf rfl rfl rfl (Pu.ev (pNC rfl)) fun a hf => ?_
      refine qE hf rfl rfl rfl (Pu.ev (pFA fa_130_1 rfl)) fun a hf => ?_
      refine qE hf rfl rfl rfl (Pu.ev (pIAA Try.underlying127 sz_126 rfl rfl (inR_spec hun).1 (inR_spec hun).2)) fun a hf => ?_
      refine qE hf rfl rfl rfl (eLdN (vs := [.int .i64 ((r_1.2.2.2.2.1 (0 : Int).toNat).cost), .int .i64 ((r_1.2.2.2.2.1 (0 : Int).toNat).points)]) ag_126 rfl rfl (cells_arr (o' := 0) (m := 2) m2 (fun x => (one_enc_gauge_spent x).1) rfl hun rfl)) fun a hf => ?_
      refine qE hf rfl rfl rfl (eC (v := .agg #[.int .i64 r_2.cost, .int .i64 r_2.points]) (vs := []) (caps := []) en_67 rfl rfl rfl rfl (fun w hc => gauge_far_ok hc hr_2)) fun a hf => ?_
      refine qE hf rfl rfl rfl (Pu.ev (pEqA ge_126 rfl rfl (eqs_126 _ _ _ _))) fun a hf => ?_
      refine qE hf rfl rfl rfl (Pu.ev (pA rfl)) fun a hf => ?_
      intro w hc
      refine h10 _ _ ?_
      refine cCond (b := (((r_1.2.2.2.2.1 (0 : Int).toNat).cost) == r_2.cost && ((r_1.2.2.2.2.1 (0 : Int).toNat).points) == r_2.points)) hf rfl (fun hb => ?_) (fun hb => ?_)
      · replace hF := condT hb hF
        clear hb
        refine wp_seq_k fun K11 h11 => ?_
        refine cReg ?_
        refine stP hf rfl rfl rfl (pA rfl) fun a hf => ?_
        refine stP hf rfl rfl rfl (pA rfl) fun a hf => ?_
        refine stP hf rfl rfl rfl (pA rfl) fun a hf => ?_
        refine cNil ?_
        refine h11 _ _ ?_
        refine wp_ret ?_
        refine xBlkR ?_
        refine xThenR ?_
        obtain rfl := Option.some.inj hF
        replace hc := hc.nilRow 3 1
        replace hc := hc.drop k4
        replace hc := hc.drop k3
        replace hc := hc.drop k2
        replace hc := hc.drop k1
        exact fnOut3 (by simp) rfl Try.results29 hf hc (show look _ 2 = _ from rfl) (show look _ 3 = _ from rfl) (show look _ 4 = _ from rfl) ⟨none, 0, rfl, hc⟩
      · replace hF := condF hb hF
        clear hb
        refine wp_skip ?_
        refine h7 _ _ ?_
        refine wp_seq_k fun K12 h12 => ?_
        refine cReg ?_
        refine stAl (cs := [.slice none 0 0]) hf hc rfl rfl zr_43 rfl fun b_6 a w hf hc => ?_
        refine cNil ?_
        refine h12 _ _ ?_
        refine wp_seq_k fun K13 h13 => ?_
        refine cReg ?_
        refine stAl (cs := [.nilFunc]) hf hc rfl rfl zr_132 rfl fun b_7 a w hf hc => ?_
        refine cNil ?_
        refine h13 _ _ ?_
        refine wp_seq_k fun K14 h14 => ?_
        refine cReg ?_
        refine stP hf rfl rfl rfl (pMF (us := [.pointer (some ⟨b_5, 0, none⟩), .pointer (some ⟨b_1, 0, none⟩), .pointer (some ⟨b_6, 0, none⟩), .pointer (some ⟨b_7, 0, none⟩)]) rfl rfl) fun a hf => ?_
        refine stSt (vs := [.func (.func 68) #[] #[.pointer (some ⟨b_5, 0, none⟩), .pointer (some ⟨b_1, 0, none⟩), .pointer (some ⟨b_6, 0, none⟩), .pointer (some ⟨b_7, 0, none⟩)]]) hf hc rfl rfl rfl rfl sz_132 rfl rfl u0 fun w hc => ?_
        refine cNil ?_
        refine h14 _ _ ?_
        refine wp_seq_k fun K15 h15 => ?_
        refine cReg ?_
        refine stE hf hc rfl rfl rfl (eLd1 sc_132 rfl (cell_box m0 rfl)) fun a w hf hc => ?_
        replace hc := hc.nilRow 3 1
        obtain ⟨r_3, hr_3, hF⟩ := bnd_some hF
        refine stC (vs := [.int .i64 0]) (caps := [.pointer (some ⟨b_5, 0, none⟩), .pointer (some ⟨b_1, 0, none⟩), .pointer (some ⟨b_6, 0, none⟩), .pointer (some ⟨b_7, 0, none⟩)]) hf rfl rfl rfl en_68 rfl rfl rfl rfl (gauge_Plan_1_ok 0 (⟨(⟨r_1.1, r_1.2.1, r_1.2.2.1, r_1.2.2.2.1, s_.Points⟩ : gauge_Site), r_1.2.2.2.2.1, r_1.2.2.2.2.2.1⟩ : gauge_work) s_ ([] : List Int) h_s__Points h_s__Points (((((((hc.pick k1).pick k1).pick k2).pick k6).pick k5).pick k6).pick k6) hr_3) ?_
        rintro _ w ⟨p_1, c_1, rfl, hc⟩
        refine ⟨_, rfl, fun a hf => ?_⟩
        refine cNil ?_
        refine h15 _ _ ?_
        refine wp_seq_k fun K16 h16 => ?_
        obtain ⟨un_1, hun_1, hF⟩ := bnd_some hF
        refine cQ hc follows_mx (by kernel_rfl) ?_
        refine qE hf rfl rfl rfl (eLd1 sc_43 rfl (cell_box m5 rfl)) fun a hf => ?_
        refine qE hf rfl rfl rfl (eLd1 sc_122 rfl (cell_box m1 rfl)) fun a hf => ?_
        refine qE hf rfl rfl rfl (Pu.ev (pNC rfl)) fun a hf => ?_
        refine qE hf rfl rfl rfl (Pu.ev (pFA fa_130_1 rfl)) fun a hf => ?_
        refine qE hf rfl rfl rfl (Pu.ev (pIAA Try.underlying127 sz_126 rfl rfl (inR_spec hun_1).1 (inR_spec hun_1).2)) fun a hf => ?_
        refine qE hf rfl rfl rfl (Pu.ev (pFA fa_126_0 rfl)) fun a hf => ?_
        refine qE hf rfl rfl rfl (eLd1 sc_3 rfl (cell_arr (j := 0) m2 (fun x => (one_enc_gauge_spent x).1) rfl hun_1 rfl)) fun a hf => ?_
        refine qE hf rfl rfl rfl (Pu.ev (pA rfl)) fun a hf => ?_
        refine qE hf rfl rfl rfl (Pu.ev (pA rfl)) fun a hf => ?_
        refine qE hf rfl rfl rfl (Pu.ev (pA rfl)) fun a hf => ?_
        intro w hc
        refine h16 _ _ ?_
        refine wp_ret ?_
        obtain rfl := Option.some.inj hF
        replace hc := hc.drop k6
        replace hc := hc.drop k5
        replace hc := hc.drop k4
        replace hc := hc.drop k3
        replace hc := hc.drop k2
        replace hc := hc.drop k1
        exact fnOut3 (by simp) rfl Try.results29 hf hc (show look _ 2 = _ from rfl) (show look _ 3 = _ from rfl) (show look _ 4 = _ from rfl) ⟨p_1, c_1, rfl, hc⟩

def law03_span (N : Nat) (lo : Int) (hi_ : Int) : Option (api_Span) :=
  some (⟨lo, hi_⟩ : api_Span)
theorem law03_span_ok {N : Nat} {G : Pers} {Lf : List Ent} {w : World} (lo : Int) (hi_ : Int)   (hc : Ctx G (Lf) w) {res : api_Span} (hF : law03_span N lo hi_ = some res) : Calls Try.prog 14 #[.int .i64 lo, .int .i64 hi_] w (fun e w => e = .returned (.agg #[.int .i64 res.Lo, .int .i64 res.Hi]) ∧ Ctx G (Lf) w) := by
  unfold law03_span at hF
  refine fnIn (args := [.int .i64 lo, .int .i64 hi_]) Try.func14 rfl Try.ntmps14 rfl fun a hf => ?_
  refine wp_seq_k fun K1 h1 => ?_
  refine cReg ?_
  refine stAl (cs := [.int .i64 0, .int .i64 0]) hf hc rfl rfl zr_24 rfl fun b_1 a w hf hc => ?_
  refine cNil ?_
  refine h1 _ _ ?_
  refine wp_seq_k fun K2 h2 => ?_
  refine cReg ?_
  refine stP hf rfl rfl rfl (pM rfl) fun a hf => ?_
  refine stP hf rfl rfl rfl (pM rfl) fun a hf => ?_
  refine stP hf rfl rfl rfl (pBuildS (cells := [.int .i64 lo, .int .i64 hi_]) bt_24 rfl rfl) fun a hf => ?_
  refine stSt (vs := [.int .i64 lo, .int .i64 hi_]) hf hc rfl rfl rfl rfl sz_24 rfl rfl u0 fun w hc => ?_
  refine cNil ?_
  refine h2 _ _ ?_
  refine wp_ret ?_
  obtain rfl := Option.some.inj hF
  exact fnOut1 (by simp) rfl Try.results14 hf hc (rv_cellN (vs := [.int .i64 lo, .int .i64 hi_]) ag_24 rfl rfl (cells_box (n := 2) m0 rfl)) ⟨rfl, (hc.drop k0)⟩

def law03_Two (N : Nat)  : Option (gauge_Gauging) :=
  Option.bind (law03_span N 10 10) fun r =>
  Option.bind (law03_span N 100 110) fun r_1 =>
  Option.bind (law03_span N 20 21) fun r_2 =>
  Option.bind (law03_span N (-5) 200) fun r_3 =>
  some (⟨0, 100, ([(⟨20, r, r_1⟩ : gauge_Vertical), (⟨60, r_2, r_3⟩ : gauge_Vertical)] : List gauge_Vertical)⟩ : gauge_Gauging)
theorem law03_Two_ok {N : Nat} {G : Pers} {Lf : List Ent} {w : World}    (hc : Ctx G (Lf) w) {res : gauge_Gauging} (hF : law03_Two N = some res) : Calls Try.prog 53 #[] w (fun e w => ∃ (p'1 : Option Addr) (c'1 : Nat), e = .returned (.agg #[.int .i64 res.Left, .int .i64 res.Right, .slice p'1 res.Verticals.length c'1]) ∧ Ctx G (.row p'1 c'1 (res.Verticals.map enc_gauge_Vertical) 61 5 :: Lf) w) := by
  unfold law03_Two at hF
  refine fnIn (args := []) Try.func53 rfl Try.ntmps53 rfl fun a hf => ?_
  refine wp_seq_k fun K1 h1 => ?_
  refine cReg ?_
  refine stAl (cs := [.int .i64 0, .int .i64 0, .slice none 0 0]) hf hc rfl rfl zr_48 rfl fun b_1 a w hf hc => ?_
  refine cNil ?_
  refine h1 _ _ ?_
  refine wp_seq_k fun K2 h2 => ?_
  refine cReg ?_
  obtain ⟨r, hr, hF⟩ := bnd_some hF
  refine stE hf hc rfl rfl rfl (eC (v := .agg #[.int .i64 r.Lo, .int .i64 r.Hi]) (vs := [.int .i64 10, .int .i64 10]) (caps := []) en_14 rfl rfl rfl rfl (fun w hc => law03_span_ok 10 10 hc hr)) fun a w hf hc => ?_
  obtain ⟨r_1, hr_1, hF⟩ := bnd_some hF
  refine stE hf hc rfl rfl rfl (eC (v := .agg #[.int .i64 r_1.Lo, .int .i64 r_1.Hi]) (vs := [.int .i64 100, .int .i64 110]) (caps := []) en_14 rfl rfl rfl rfl (fun w hc => law03_span_ok 100 110 hc hr_1)) fun a w hf hc => ?_
  refine stP hf rfl rfl rfl (pBuildS (cells := [.int .i64 20, .int .i64 r.Lo, .int .i64 r.Hi, .int .i64 r_1.Lo, .int .i64 r_1.Hi]) bt_61 rfl rfl) fun a hf => ?_
  obtain ⟨r_2, hr_2, hF⟩ := bnd_some hF
  refine stE hf hc rfl rfl rfl (eC (v := .agg #[.int .i64 r_2.Lo, .int .i64 r_2.Hi]) (vs := [.int .i64 20, .int .i64 21]) (caps := []) en_14 rfl rfl rfl rfl (fun w hc => law03_span_ok 20 21 hc hr_2)) fun a w hf hc => ?_
  obtain ⟨r_3, hr_3, hF⟩ := bnd_some hF
  refine stE hf hc rfl rfl rfl (eC (v := .agg #[.int .i64 r_3.Lo, .int .i64 r_3.Hi]) (vs := [.int .i64 (-5), .int .i64 200]) (caps := []) en_14 rfl rfl rfl rfl (fun w hc => law03_span_ok (-5) 200 hc hr_3)) fun a w hf hc => ?_
  refine stP hf rfl rfl rfl (pBuildS (cells := [.int .i64 60, .int .i64 r_2.Lo, .int .i64 r_2.Hi, .int .i64 r_3.Lo, .int .i64 r_3.Hi]) bt_61 rfl rfl) fun a hf => ?_
  refine stBS (rows := ([(⟨20, r, r_1⟩ : gauge_Vertical), (⟨60, r_2, r_3⟩ : gauge_Vertical)] : List gauge_Vertical).map enc_gauge_Vertical) (vs := [(0, .agg #[.int .i64 20, .int .i64 r.Lo, .int .i64 r.Hi, .int .i64 r_1.Lo, .int .i64 r_1.Hi]), (1, .agg #[.int .i64 60, .int .i64 r_2.Lo, .int .i64 r_2.Hi, .int .i64 r_3.Lo, .int .i64 r_3.Hi])]) hf hc rfl rfl sl_46 rfl ⟨rfl, rfl, rfl, rfl, rfl, rfl, trivial⟩ rfl rfl fun b_2 a w hf hc => ?_
  refine stP hf rfl rfl rfl (pBuildS (cells := [.int .i64 0, .int .i64 100, .slice (some ⟨b_2, 0, none⟩) 2 2]) bt_48 rfl rfl) fun a hf => ?_
  refine stSt (vs := [.int .i64 0, .int .i64 100, .slice (some ⟨b_2, 0, none⟩) 2 2]) hf hc rfl rfl rfl rfl sz_48 rfl rfl u1 fun w hc => ?_
  refine cNil ?_
  refine h2 _ _ ?_
  refine wp_ret ?_
  obtain rfl := Option.some.inj hF
  exact fnOut1 (by simp) rfl Try.results53 hf hc (rv_cellN (vs := [.int .i64 0, .int .i64 100, .slice (some ⟨b_2, 0, none⟩) 2 2]) ag_48 rfl rfl (cells_box (n := 3) m1 rfl)) ⟨(some ⟨b_2, 0, none⟩), 2, rfl, (hc.drop k1)⟩

def gauge_Cross_1 (g : gauge_Leg) : Bool :=
  (((((gauge_right g.X (-10000) 10000) && (gauge_right g.Y (-10000) 10000)) && (gauge_right g.Depth 0 2000)) && (gauge_right g.East (-5000) 5000)) && (gauge_right g.North (-5000) 5000))
theorem gauge_Cross_1_ok {G : Pers} {Lf : List Ent} {w : World} (g : gauge_Leg)   (hc : Ctx G (Lf) w) {res : Bool} (hF : gauge_Cross_1 g = res) : Calls Try.prog 57 #[.agg #[.int .i64 g.X.Lo, .int .i64 g.X.Hi, .int .i64 g.Y.Lo, .int .i64 g.Y.Hi, .int .i64 g.Depth.Lo, .int .i64 g.Depth.Hi, .int .i64 g.East.Lo, .int .i64 g.East.Hi, .int .i64 g.North.Lo, .int .i64 g.North.Hi]] w (fun e w => e = .returned (.bool res) ∧ Ctx G (Lf) w) := by
  unfold gauge_Cross_1 at hF
  refine fnIn (args := [.agg #[.int .i64 g.X.Lo, .int .i64 g.X.Hi, .int .i64 g.Y.Lo, .int .i64 g.Y.Hi, .int .i64 g.Depth.Lo, .int .i64 g.Depth.Hi, .int .i64 g.East.Lo, .int .i64 g.East.Hi, .int .i64 g.North.Lo, .int .i64 g.North.Hi]]) Try.func57 rfl Try.ntmps57 rfl fun a hf => ?_
  refine wp_seq_k fun K1 h1 => ?_
  refine cReg ?_
  refine stBx (cs := [.int .i64 g.X.Lo, .int .i64 g.X.Hi, .int .i64 g.Y.Lo, .int .i64 g.Y.Hi, .int .i64 g.Depth.Lo, .int .i64 g.Depth.Hi, .int .i64 g.East.Lo, .int .i64 g.East.Hi, .int .i64 g.North.Lo, .int .i64 g.North.Hi]) hf hc rfl rfl rfl rfl fun b_1 a w hf hc => ?_
  refine stP hf rfl rfl rfl (pA rfl) fun a hf => ?_
  refine cNil ?_
  refine h1 _ _ ?_
  refine wp_seq_k fun K2 h2 => ?_
  refine cReg ?_
  refine stP hf rfl rfl rfl (pFA fa_40_0 rfl) fun a hf => ?_
  refine stE hf hc rfl rfl rfl (eLdN (vs := [.int .i64 g.X.Lo, .int .i64 g.X.Hi]) ag_24 rfl rfl (cells_box (n := 2) m0 rfl)) fun a w hf hc => ?_
  refine stE hf hc rfl rfl rfl (eC (v := .bool (gauge_right g.X (-10000) 10000)) (vs := [.agg #[.int .i64 g.X.Lo, .int .i64 g.X.Hi], .int .i64 (-10000), .int .i64 10000]) (caps := []) en_52 rfl rfl rfl rfl (fun w hc => gauge_right_ok g.X (-10000) 10000 hc rfl)) fun a w hf hc => ?_
  refine stP hf rfl rfl rfl (pM rfl) fun a hf => ?_
  refine stCut 4 (fun a w => Has 26 a [(1, .pointer (some ⟨b_1, 0, none⟩)), (2, .bool false), (3, .pointer (some ⟨b_1, 0, none⟩)), (4, .agg #[.int .i64 g.X.Lo, .int .i64 g.X.Hi]), (5, .bool (gauge_right g.X (-10000) 10000)), (6, .bool (gauge_right g.X (-10000) 10000)), (10, .bool ((gauge_right g.X (-10000) 10000) && (gauge_right g.Y (-10000) 10000)))] ∧ Ctx G (.box b_1 [.int .i64 g.X.Lo, .int .i64 g.X.Hi, .int .i64 g.Y.Lo, .int .i64 g.Y.Hi, .int .i64 g.Depth.Lo, .int .i64 g.Depth.Hi, .int .i64 g.East.Lo, .int .i64 g.East.Hi, .int .i64 g.North.Lo, .int .i64 g.North.Hi] 40 :: Lf) w) ?_ ?_
  · cases hb : (gauge_right g.X (-10000) 10000)
    · rw [hb] at hf
      refine stS hf rfl rfl rfl fun a hf => ?_
      refine stS hf rfl rfl rfl fun a hf => ?_
      refine stS hf rfl rfl rfl fun a hf => ?_
      refine stP hf rfl rfl rfl (pPf rfl rfl) fun a hf => ?_
      exact cNil ⟨hf.keep ⟨rfl, rfl, rfl, rfl, rfl, rfl, rfl, trivial⟩, hc⟩
    · rw [hb] at hf
      refine stP hf rfl rfl rfl (pFA fa_40_1 rfl) fun a hf => ?_
      refine stE hf hc rfl rfl rfl (eLdN (vs := [.int .i64 g.Y.Lo, .int .i64 g.Y.Hi]) ag_24 rfl rfl (cells_box (n := 2) m0 rfl)) fun a w hf hc => ?_
      refine stE hf hc rfl rfl rfl (eC (v := .bool (gauge_right g.Y (-10000) 10000)) (vs := [.agg #[.int .i64 g.Y.Lo, .int .i64 g.Y.Hi], .int .i64 (-10000), .int .i64 10000]) (caps := []) en_52 rfl rfl rfl rfl (fun w hc => gauge_right_ok g.Y (-10000) 10000 hc rfl)) fun a w hf hc => ?_
      refine stP hf rfl rfl rfl (pPt rfl rfl) fun a hf => ?_
      exact cNil ⟨hf.keep ⟨rfl, rfl, rfl, rfl, rfl, rfl, rfl, trivial⟩, hc⟩
  intro a w ⟨hf, hc⟩
  refine stP hf rfl rfl rfl (pM rfl) fun a hf => ?_
  refine stCut 4 (fun a w => Has 26 a [(1, .pointer (some ⟨b_1, 0, none⟩)), (2, .bool false), (3, .pointer (some ⟨b_1, 0, none⟩)), (4, .agg #[.int .i64 g.X.Lo, .int .i64 g.X.Hi]), (5, .bool (gauge_right g.X (-10000) 10000)), (6, .bool (gauge_right g.X (-10000) 10000)), (10, .bool ((gauge_right g.X (-10000) 10000) && (gauge_right g.Y (-10000) 10000))), (11, .bool ((gauge_right g.X (-10000) 10000) && (gauge_right g.Y (-10000) 10000))), (15, .bool (((gauge_right g.X (-10000) 10000) && (gauge_right g.Y (-10000) 10000)) && (gauge_right g.Depth 0 2000)))] ∧ Ctx G (.box b_1 [.int .i64 g.X.Lo, .int .i64 g.X.Hi, .int .i64 g.Y.Lo, .int .i64 g.Y.Hi, .int .i64 g.Depth.Lo, .int .i64 g.Depth.Hi, .int .i64 g.East.Lo, .int .i64 g.East.Hi, .int .i64 g.North.Lo, .int .i64 g.North.Hi] 40 :: Lf) w) ?_ ?_
  · cases hb : ((gauge_right g.X (-10000) 10000) && (gauge_right g.Y (-10000) 10000))
    · rw [hb] at hf
      refine stS hf rfl rfl rfl fun a hf => ?_
      refine stS hf rfl rfl rfl fun a hf => ?_
      refine stS hf rfl rfl rfl fun a hf => ?_
      refine stP hf rfl rfl rfl (pPf rfl rfl) fun a hf => ?_
      exact cNil ⟨hf.keep ⟨rfl, rfl, rfl, rfl, rfl, rfl, rfl, rfl, rfl, trivial⟩, hc⟩
    · rw [hb] at hf
      refine stP hf rfl rfl rfl (pFA fa_40_2 rfl) fun a hf => ?_
      refine stE hf hc rfl rfl rfl (eLdN (vs := [.int .i64 g.Depth.Lo, .int .i64 g.Depth.Hi]) ag_24 rfl rfl (cells_box (n := 2) m0 rfl)) fun a w hf hc => ?_
      refine stE hf hc rfl rfl rfl (eC (v := .bool (gauge_right g.Depth 0 2000)) (vs := [.agg #[.int .i64 g.Depth.Lo, .int .i64 g.Depth.Hi], .int .i64 0, .int .i64 2000]) (caps := []) en_52 rfl rfl rfl rfl (fun w hc => gauge_right_ok g.Depth 0 2000 hc rfl)) fun a w hf hc => ?_
      refine stP hf rfl rfl rfl (pPt rfl rfl) fun a hf => ?_
      exact cNil ⟨hf.keep ⟨rfl, rfl, rfl, rfl, rfl, rfl, rfl, rfl, rfl, trivial⟩, hc⟩
  intro a w ⟨hf, hc⟩
  refine stP hf rfl rfl rfl (pM rfl) fun a hf => ?_
  refine stCut 4 (fun a w => Has 26 a [(1, .pointer (some ⟨b_1, 0, none⟩)), (2, .bool false), (3, .pointer (some ⟨b_1, 0, none⟩)), (4, .agg #[.int .i64 g.X.Lo, .int .i64 g.X.Hi]), (5, .bool (gauge_right g.X (-10000) 10000)), (6, .bool (gauge_right g.X (-10000) 10000)), (10, .bool ((gauge_right g.X (-10000) 10000) && (gauge_right g.Y (-10000) 10000))), (11, .bool ((gauge_right g.X (-10000) 10000) && (gauge_right g.Y (-10000) 10000))), (15, .bool (((gauge_right g.X (-10000) 10000) && (gauge_right g.Y (-10000) 10000)) && (gauge_right g.Depth 0 2000))), (16, .bool (((gauge_right g.X (-10000) 10000) && (gauge_right g.Y (-10000) 10000)) && (gauge_right g.Depth 0 2000))), (20, .bool ((((gauge_right g.X (-10000) 10000) && (gauge_right g.Y (-10000) 10000)) && (gauge_right g.Depth 0 2000)) && (gauge_right g.East (-5000) 5000)))] ∧ Ctx G (.box b_1 [.int .i64 g.X.Lo, .int .i64 g.X.Hi, .int .i64 g.Y.Lo, .int .i64 g.Y.Hi, .int .i64 g.Depth.Lo, .int .i64 g.Depth.Hi, .int .i64 g.East.Lo, .int .i64 g.East.Hi, .int .i64 g.North.Lo, .int .i64 g.North.Hi] 40 :: Lf) w) ?_ ?_
  · cases hb : (((gauge_right g.X (-10000) 10000) && (gauge_right g.Y (-10000) 10000)) && (gauge_right g.Depth 0 2000))
    · rw [hb] at hf
      refine stS hf rfl rfl rfl fun a hf => ?_
      refine stS hf rfl rfl rfl fun a hf => ?_
      refine stS hf rfl rfl rfl fun a hf => ?_
      refine stP hf rfl rfl rfl (pPf rfl rfl) fun a hf => ?_
      exact cNil ⟨hf.keep ⟨rfl, rfl, rfl, rfl, rfl, rfl, rfl, rfl, rfl, rfl, rfl, trivial⟩, hc⟩
    · rw [hb] at hf
      refine stP hf rfl rfl rfl (pFA fa_40_3 rfl) fun a hf => ?_
      refine stE hf hc rfl rfl rfl (eLdN (vs := [.int .i64 g.East.Lo, .int .i64 g.East.Hi]) ag_24 rfl rfl (cells_box (n := 2) m0 rfl)) fun a w hf hc => ?_
      refine stE hf hc rfl rfl rfl (eC (v := .bool (gauge_right g.East (-5000) 5000)) (vs := [.agg #[.int .i64 g.East.Lo, .int .i64 g.East.Hi], .int .i64 (-5000), .int .i64 5000]) (caps := []) en_52 rfl rfl rfl rfl (fun w hc => gauge_right_ok g.East (-5000) 5000 hc rfl)) fun a w hf hc => ?_
      refine stP hf rfl rfl rfl (pPt rfl rfl) fun a hf => ?_
      exact cNil ⟨hf.keep ⟨rfl, rfl, rfl, rfl, rfl, rfl, rfl, rfl, rfl, rfl, rfl, trivial⟩, hc⟩
  intro a w ⟨hf, hc⟩
  refine stP hf rfl rfl rfl (pM rfl) fun a hf => ?_
  refine stCut 4 (fun a w => Has 26 a [(1, .pointer (some ⟨b_1, 0, none⟩)), (2, .bool false), (3, .pointer (some ⟨b_1, 0, none⟩)), (4, .agg #[.int .i64 g.X.Lo, .int .i64 g.X.Hi]), (5, .bool (gauge_right g.X (-10000) 10000)), (6, .bool (gauge_right g.X (-10000) 10000)), (10, .bool ((gauge_right g.X (-10000) 10000) && (gauge_right g.Y (-10000) 10000))), (11, .bool ((gauge_right g.X (-10000) 10000) && (gauge_right g.Y (-10000) 10000))), (15, .bool (((gauge_right g.X (-10000) 10000) && (gauge_right g.Y (-10000) 10000)) && (gauge_right g.Depth 0 2000))), (16, .bool (((gauge_right g.X (-10000) 10000) && (gauge_right g.Y (-10000) 10000)) && (gauge_right g.Depth 0 2000))), (20, .bool ((((gauge_right g.X (-10000) 10000) && (gauge_right g.Y (-10000) 10000)) && (gauge_right g.Depth 0 2000)) && (gauge_right g.East (-5000) 5000))), (21, .bool ((((gauge_right g.X (-10000) 10000) && (gauge_right g.Y (-10000) 10000)) && (gauge_right g.Depth 0 2000)) && (gauge_right g.East (-5000) 5000))), (25, .bool (((((gauge_right g.X (-10000) 10000) && (gauge_right g.Y (-10000) 10000)) && (gauge_right g.Depth 0 2000)) && (gauge_right g.East (-5000) 5000)) && (gauge_right g.North (-5000) 5000)))] ∧ Ctx G (.box b_1 [.int .i64 g.X.Lo, .int .i64 g.X.Hi, .int .i64 g.Y.Lo, .int .i64 g.Y.Hi, .int .i64 g.Depth.Lo, .int .i64 g.Depth.Hi, .int .i64 g.East.Lo, .int .i64 g.East.Hi, .int .i64 g.North.Lo, .int .i64 g.North.Hi] 40 :: Lf) w) ?_ ?_
  · cases hb : ((((gauge_right g.X (-10000) 10000) && (gauge_right g.Y (-10000) 10000)) && (gauge_right g.Depth 0 2000)) && (gauge_right g.East (-5000) 5000))
    · rw [hb] at hf
      refine stS hf rfl rfl rfl fun a hf => ?_
      refine stS hf rfl rfl rfl fun a hf => ?_
      refine stS hf rfl rfl rfl fun a hf => ?_
      refine stP hf rfl rfl rfl (pPf rfl rfl) fun a hf => ?_
      exact cNil ⟨hf.keep ⟨rfl, rfl, rfl, rfl, rfl, rfl, rfl, rfl, rfl, rfl, rfl, rfl, rfl, trivial⟩, hc⟩
    · rw [hb] at hf
      refine stP hf rfl rfl rfl (pFA fa_40_4 rfl) fun a hf => ?_
      refine stE hf hc rfl rfl rfl (eLdN (vs := [.int .i64 g.North.Lo, .int .i64 g.North.Hi]) ag_24 rfl rfl (cells_box (n := 2) m0 rfl)) fun a w hf hc => ?_
      refine stE hf hc rfl rfl rfl (eC (v := .bool (gauge_right g.North (-5000) 5000)) (vs := [.agg #[.int .i64 g.North.Lo, .int .i64 g.North.Hi], .int .i64 (-5000), .int .i64 5000]) (caps := []) en_52 rfl rfl rfl rfl (fun w hc => gauge_right_ok g.North (-5000) 5000 hc rfl)) fun a w hf hc => ?_
      refine stP hf rfl rfl rfl (pPt rfl rfl) fun a hf => ?_
      exact cNil ⟨hf.keep ⟨rfl, rfl, rfl, rfl, rfl, rfl, rfl, rfl, rfl, rfl, rfl, rfl, rfl, trivial⟩, hc⟩
  intro a w ⟨hf, hc⟩
  refine stP hf rfl rfl rfl (pA rfl) fun a hf => ?_
  refine cNil ?_
  refine h2 _ _ ?_
  refine wp_ret ?_
  obtain rfl := hF
  replace hc := hc.drop k0
  exact fnOut1 (by simp) rfl Try.results57 hf hc (show look _ 2 = _ from rfl) ⟨rfl, hc⟩

def gauge_every_gauge_Leg_1 (x : gauge_Leg) : Bool :=
  (!(gauge_Cross_1 (⟨x.X, x.Y, x.Depth, x.East, x.North⟩ : gauge_Leg)))
theorem gauge_every_gauge_Leg_1_ok {G : Pers} {Lf : List Ent} {w : World} (x : gauge_Leg) {b_ : Nat}  (hc : Ctx G (.box b_ [.func (.func 57) #[] #[]] 112 :: Lf) w) {res : Bool} (hF : gauge_every_gauge_Leg_1 x = res) : Calls Try.prog 96 #[.agg #[.int .i64 x.X.Lo, .int .i64 x.X.Hi, .int .i64 x.Y.Lo, .int .i64 x.Y.Hi, .int .i64 x.Depth.Lo, .int .i64 x.Depth.Hi, .int .i64 x.East.Lo, .int .i64 x.East.Hi, .int .i64 x.North.Lo, .int .i64 x.North.Hi], .pointer (some ⟨b_, 0, none⟩)] w (fun e w => e = .returned (.bool res) ∧ Ctx G (.box b_ [.func (.func 57) #[] #[]] 112 :: Lf) w) := by
  unfold gauge_every_gauge_Leg_1 at hF
  refine fnIn (args := [.agg #[.int .i64 x.X.Lo, .int .i64 x.X.Hi, .int .i64 x.Y.Lo, .int .i64 x.Y.Hi, .int .i64 x.Depth.Lo, .int .i64 x.Depth.Hi, .int .i64 x.East.Lo, .int .i64 x.East.Hi, .int .i64 x.North.Lo, .int .i64 x.North.Hi], .pointer (some ⟨b_, 0, none⟩)]) Try.func96 rfl Try.ntmps96 rfl fun a hf => ?_
  refine wp_seq_k fun K1 h1 => ?_
  refine cReg ?_
  refine stBx (cs := [.int .i64 x.X.Lo, .int .i64 x.X.Hi, .int .i64 x.Y.Lo, .int .i64 x.Y.Hi, .int .i64 x.Depth.Lo, .int .i64 x.Depth.Hi, .int .i64 x.East.Lo, .int .i64 x.East.Hi, .int .i64 x.North.Lo, .int .i64 x.North.Hi]) hf hc rfl rfl rfl rfl fun b_1 a w hf hc => ?_
  refine stP hf rfl rfl rfl (pA rfl) fun a hf => ?_
  refine cNil ?_
  refine h1 _ _ ?_
  refine wp_seq_k fun K2 h2 => ?_
  refine cReg ?_
  refine stE hf hc rfl rfl rfl (eLd1 sc_112 rfl (cell_box m1 rfl)) fun a w hf hc => ?_
  refine stE hf hc rfl rfl rfl (eLdN (vs := [.int .i64 x.X.Lo, .int .i64 x.X.Hi, .int .i64 x.Y.Lo, .int .i64 x.Y.Hi, .int .i64 x.Depth.Lo, .int .i64 x.Depth.Hi, .int .i64 x.East.Lo, .int .i64 x.East.Hi, .int .i64 x.North.Lo, .int .i64 x.North.Hi]) ag_40 rfl rfl (cells_box (n := 10) m0 rfl)) fun a w hf hc => ?_
  refine stE hf hc rfl rfl rfl (eC (v := .bool (gauge_Cross_1 (⟨x.X, x.Y, x.Depth, x.East, x.North⟩ : gauge_Leg))) (vs := [.agg #[.int .i64 x.X.Lo, .int .i64 x.X.Hi, .int .i64 x.Y.Lo, .int .i64 x.Y.Hi, .int .i64 x.Depth.Lo, .int .i64 x.Depth.Hi, .int .i64 x.East.Lo, .int .i64 x.East.Hi, .int .i64 x.North.Lo, .int .i64 x.North.Hi]]) (caps := []) en_57 rfl rfl rfl rfl (fun w hc => gauge_Cross_1_ok (⟨x.X, x.Y, x.Depth, x.East, x.North⟩ : gauge_Leg) hc rfl)) fun a w hf hc => ?_
  refine stP hf rfl rfl rfl (pNot rfl) fun a hf => ?_
  refine stP hf rfl rfl rfl (pA rfl) fun a hf => ?_
  refine cNil ?_
  refine h2 _ _ ?_
  refine wp_ret ?_
  obtain rfl := hF
  replace hc := hc.drop k0
  exact fnOut1 (by simp) rfl Try.results96 hf hc (show look _ 3 = _ from rfl) ⟨rfl, hc⟩

def slices_IndexFunc_Lgauge_Leg_gauge_Leg_b4 (N : Nat) (s_ : List gauge_Leg) (x : Int) : Option (Step (Int) (Int)) :=
  cond (decide (x < ((s_.length : Nat) : Int)))
  (Option.bind (getI s_ x) fun e_1 =>
  cond (gauge_every_gauge_Leg_1 e_1)
  (some (.ret x))
  (some (.cont (W (x + 1)))))
  (some (.brk x))
def slices_IndexFunc_Lgauge_Leg_gauge_Leg (N : Nat) (s_ : List gauge_Leg) : Option (Int) :=
  Option.bind (loopO (fun s4 => slices_IndexFunc_Lgauge_Leg_gauge_Leg_b4 N s_ s4) N 0) fun x4 =>
  exK x4 (fun s4 => some (-1)) some
theorem slices_IndexFunc_Lgauge_Leg_gauge_Leg_ok {N : Nat} {G : Pers} {Lf : List Ent} {w : World} (s_ : List gauge_Leg) {s__p : Option Addr} {s__c : Nat} {b_ : Nat} (h_s_ : Rd G 10 s__p s__c (s_.map enc_gauge_Leg)) (hc : Ctx G (.box b_ [.func (.func 57) #[] #[]] 112 :: Lf) w) {res : Int} (hF : slices_IndexFunc_Lgauge_Leg_gauge_Leg N s_ = some res) : Calls Try.prog 112 #[.slice s__p s_.length s__c, .func (.func 96) #[] #[.pointer (some ⟨b_, 0, none⟩)]] w (fun e w => e = .returned (.int .i64 res) ∧ Ctx G (.box b_ [.func (.func 57) #[] #[]] 112 :: Lf) w) := by
  unfold slices_IndexFunc_Lgauge_Leg_gauge_Leg at hF
  refine fnIn (args := [.slice s__p s_.length s__c, .func (.func 96) #[] #[.pointer (some ⟨b_, 0, none⟩)]]) Try.func112 rfl Try.ntmps112 rfl fun a hf => ?_
  refine wp_seq_k fun K1 h1 => ?_
  refine cReg ?_
  refine stP hf rfl rfl rfl (pA rfl) fun a hf => ?_
  refine cNil ?_
  refine h1 _ _ ?_
  refine wp_seq_k fun K2 h2 => ?_
  refine wp_seq_k fun K3 h3 => ?_
  refine cReg ?_
  refine stP hf rfl rfl rfl (pM rfl) fun a hf => ?_
  refine stP hf rfl rfl rfl (pLenS Try.underlying38 rfl) fun a hf => ?_
  refine stP hf rfl rfl rfl (pM rfl) fun a hf => ?_
  refine cNil ?_
  refine h3 _ _ ?_
  refine wp_block ?_
  obtain ⟨x4, hx4, hF⟩ := bnd_some hF
  let S4 : Int → Act → World → Prop := (fun (zz : Int) a w => Has 19 a [(0, .slice s__p s_.length s__c), (1, .func (.func 96) #[] #[.pointer (some ⟨b_, 0, none⟩)]), (7, .int .i64 ((s_.length : Nat) : Int)), (8, .int .i64 zz)] ∧ Ctx G (.box b_ [.func (.func 57) #[] #[]] 112 :: Lf) w)
  have hr4 : ∀ (zz : Int) a w, x4 = .go zz → S4 zz a w → K2 a w := by
    rintro x a w rfl ⟨hf, hc⟩
    replace hF : _ = some res := hF
    refine h2 _ _ ?_
    refine wp_seq_k fun K5 h5 => ?_
    refine cReg ?_
    refine stP hf rfl rfl rfl (pA rfl) fun a hf => ?_
    refine cNil ?_
    refine h5 _ _ ?_
    refine wp_ret ?_
    obtain rfl := Option.some.inj hF
    exact fnOut1 (by simp) rfl Try.results112 hf hc (show look _ 4 = _ from rfl) ⟨rfl, hc⟩
  have ho4 : ∀ r, x4 = .out r → r = res := by
    rintro r rfl
    exact Option.some.inj hF
  refine cLoop N (loopW (S := S4) (x := x4) ?_ N 0 _ _ ⟨hf.keep ⟨rfl, rfl, rfl, rfl, trivial⟩, hc⟩ hx4)
  clear hF hf hc
  rintro x st4 a w KB4 ⟨hf, hc⟩ hF hfin4 hK4
  unfold slices_IndexFunc_Lgauge_Leg_gauge_Leg_b4 at hF
  refine wp_seq_k fun K6 h6 => ?_
  refine cReg ?_
  refine stP hf rfl rfl rfl (pLt rfl rfl) fun a hf => ?_
  refine cNil ?_
  refine h6 _ _ ?_
  refine wp_seq_k fun K7 h7 => ?_
  refine cCond (b := (decide (x < ((s_.length : Nat) : Int)))) hf rfl (fun hb => ?_) (fun hb => ?_)
  · replace hF := condT hb hF
    clear hb
    refine wp_skip ?_
    refine h7 _ _ ?_
    refine wp_seq_k fun K8 h8 => ?_
    refine wp_block ?_
    refine wp_seq_k fun K9 h9 => ?_
    refine cReg ?_
    refine stP hf rfl rfl rfl (pM rfl) fun a hf => ?_
    refine stP hf rfl rfl rfl (pA rfl) fun a hf => ?_
    refine cNil ?_
    refine h9 _ _ ?_
    refine wp_seq_k fun K10 h10 => ?_
    refine cReg ?_
    refine stP hf rfl rfl rfl (pM rfl) fun a hf => ?_
    refine stP hf rfl rfl rfl (pM rfl) fun a hf => ?_
    refine stP hf rfl rfl rfl (pM rfl) fun a hf => ?_
    obtain ⟨e_1, he_1, hF⟩ := bnd_some hF
    obtain ⟨b_1, o, qa, qp⟩ := h_s_.atm he_1
    refine stP hf rfl rfl rfl (pIA Try.underlying38 sz_40 rfl rfl qa) fun a hf => ?_
    refine stE hf hc rfl rfl rfl (eLdN (vs := [.int .i64 e_1.X.Lo, .int .i64 e_1.X.Hi, .int .i64 e_1.Y.Lo, .int .i64 e_1.Y.Hi, .int .i64 e_1.Depth.Lo, .int .i64 e_1.Depth.Hi, .int .i64 e_1.East.Lo, .int .i64 e_1.East.Hi, .int .i64 e_1.North.Lo, .int .i64 e_1.North.Hi]) ag_40 rfl rfl (cells_pc qp (n := 10) (o' := 0) rfl)) fun a w hf hc => ?_
    refine stE hf hc rfl rfl rfl (eC (v := .bool (gauge_every_gauge_Leg_1 e_1)) (vs := [.agg #[.int .i64 e_1.X.Lo, .int .i64 e_1.X.Hi, .int .i64 e_1.Y.Lo, .int .i64 e_1.Y.Hi, .int .i64 e_1.Depth.Lo, .int .i64 e_1.Depth.Hi, .int .i64 e_1.East.Lo, .int .i64 e_1.East.Hi, .int .i64 e_1.North.Lo, .int .i64 e_1.North.Hi]]) (caps := [.pointer (some ⟨b_, 0, none⟩)]) en_96 rfl rfl rfl rfl (fun w hc => (gauge_every_gauge_Leg_1_ok e_1 (hc.pick k0) rfl).mono fun e w h => ⟨h.1, (h.2.unpick k0)⟩)) fun a w hf hc => ?_
    refine cNil ?_
    refine h10 _ _ ?_
    refine cCond (b := (gauge_every_gauge_Leg_1 e_1)) hf rfl (fun hb => ?_) (fun hb => ?_)
    · replace hF := condT hb hF
      clear hb
      refine wp_seq_k fun K11 h11 => ?_
      refine cReg ?_
      refine stP hf rfl rfl rfl (pM rfl) fun a hf => ?_
      refine stP hf rfl rfl rfl (pA rfl) fun a hf => ?_
      refine cNil ?_
      refine h11 _ _ ?_
      refine wp_ret ?_
      refine xBlkR ?_
      refine xThenR ?_
      refine xThenR ?_
      have he := Option.some.inj hF
      rw [← he] at hfin4
      replace hF := ho4 _ hfin4
      refine xBlkR ?_
      refine xThenR ?_
      obtain rfl := hF
      exact fnOut1 (by simp) rfl Try.results112 hf hc (show look _ 4 = _ from rfl) ⟨rfl, hc⟩
    · replace hF := condF hb hF
      clear hb
      refine wp_skip ?_
      refine h8 _ _ ?_
      refine cReg ?_
      refine stP hf rfl rfl rfl (pAdd rfl rfl) fun a hf => ?_
      refine stP hf rfl rfl rfl (pM rfl) fun a hf => ?_
      refine cNil ?_
      exact hK4 (W (x + 1)) _ _ (Option.some.inj hF).symm ⟨hf.keep ⟨rfl, rfl, rfl, rfl, trivial⟩, hc⟩
  · replace hF := condF hb hF
    clear hb
    refine wp_exit ?_
    refine xThen ?_
    refine xThen ?_
    have he := Option.some.inj hF
    rw [← he] at hfin4
    refine cHit ?_
    exact hr4 _ _ _ hfin4 ⟨hf.keep ⟨rfl, rfl, rfl, rfl, trivial⟩, hc⟩

def slices_ContainsFunc_Lgauge_Leg_gauge_Leg (N : Nat) (s_ : List gauge_Leg) : Option (Bool) :=
  Option.bind (slices_IndexFunc_Lgauge_Leg_gauge_Leg N s_) fun r =>
  some (decide (0 ≤ r))
theorem slices_ContainsFunc_Lgauge_Leg_gauge_Leg_ok {N : Nat} {G : Pers} {Lf : List Ent} {w : World} (s_ : List gauge_Leg) {s__p : Option Addr} {s__c : Nat} {b_ : Nat} (h_s_ : Rd G 10 s__p s__c (s_.map enc_gauge_Leg)) (hc : Ctx G (.box b_ [.func (.func 57) #[] #[]] 112 :: Lf) w) {res : Bool} (hF : slices_ContainsFunc_Lgauge_Leg_gauge_Leg N s_ = some res) : Calls Try.prog 95 #[.slice s__p s_.length s__c, .func (.func 96) #[] #[.pointer (some ⟨b_, 0, none⟩)]] w (fun e w => e = .returned (.bool res) ∧ Ctx G (.box b_ [.func (.func 57) #[] #[]] 112 :: Lf) w) := by
  unfold slices_ContainsFunc_Lgauge_Leg_gauge_Leg at hF
  refine fnIn (args := [.slice s__p s_.length s__c, .func (.func 96) #[] #[.pointer (some ⟨b_, 0, none⟩)]]) Try.func95 rfl Try.ntmps95 rfl fun a hf => ?_
  refine wp_seq_k fun K1 h1 => ?_
  refine cReg ?_
  refine stP hf rfl rfl rfl (pA rfl) fun a hf => ?_
  refine cNil ?_
  refine h1 _ _ ?_
  refine wp_seq_k fun K2 h2 => ?_
  refine cReg ?_
  refine stP hf rfl rfl rfl (pM rfl) fun a hf => ?_
  refine stP hf rfl rfl rfl (pM rfl) fun a hf => ?_
  obtain ⟨r, hr, hF⟩ := bnd_some hF
  refine stE hf hc rfl rfl rfl (eC (v := .int .i64 r) (vs := [.slice s__p s_.length s__c, .func (.func 96) #[] #[.pointer (some ⟨b_, 0, none⟩)]]) (caps := []) en_112 rfl rfl rfl rfl (fun w hc => (slices_IndexFunc_Lgauge_Leg_gauge_Leg_ok s_ h_s_ (hc.pick k0) hr).mono fun e w h => ⟨h.1, (h.2.unpick k0)⟩)) fun a w hf hc => ?_
  refine stP hf rfl rfl rfl (pGe rfl rfl) fun a hf => ?_
  refine stP hf rfl rfl rfl (pA rfl) fun a hf => ?_
  refine cNil ?_
  refine h2 _ _ ?_
  refine wp_ret ?_
  obtain rfl := Option.some.inj hF
  exact fnOut1 (by simp) rfl Try.results95 hf hc (show look _ 4 = _ from rfl) ⟨rfl, hc⟩

def gauge_every_gauge_Leg (N : Nat) (l : List gauge_Leg) : Option (Bool) :=
  Option.bind (slices_ContainsFunc_Lgauge_Leg_gauge_Leg N l) fun r =>
  some (!r)
theorem gauge_every_gauge_Leg_ok {N : Nat} {G : Pers} {Lf : List Ent} {w : World} (l : List gauge_Leg) {l_p : Option Addr} {l_c : Nat} (h_l : Rd G 10 l_p l_c (l.map enc_gauge_Leg)) (hc : Ctx G (Lf) w) {res : Bool} (hF : gauge_every_gauge_Leg N l = some res) : Calls Try.prog 56 #[.slice l_p l.length l_c, .func (.func 57) #[] #[]] w (fun e w => e = .returned (.bool res) ∧ Ctx G (Lf) w) := by
  unfold gauge_every_gauge_Leg at hF
  refine fnIn (args := [.slice l_p l.length l_c, .func (.func 57) #[] #[]]) Try.func56 rfl Try.ntmps56 rfl fun a hf => ?_
  refine wp_seq_k fun K1 h1 => ?_
  refine cReg ?_
  refine stBx (cs := [.func (.func 57) #[] #[]]) hf hc rfl rfl rfl rfl fun b_1 a w hf hc => ?_
  refine stP hf rfl rfl rfl (pA rfl) fun a hf => ?_
  refine cNil ?_
  refine h1 _ _ ?_
  refine wp_seq_k fun K2 h2 => ?_
  refine cReg ?_
  refine stP hf rfl rfl rfl (pM rfl) fun a hf => ?_
  refine stP hf rfl rfl rfl (pMF (us := [.pointer (some ⟨b_1, 0, none⟩)]) rfl rfl) fun a hf => ?_
  obtain ⟨r, hr, hF⟩ := bnd_some hF
  refine stE hf hc rfl rfl rfl (eC (v := .bool r) (vs := [.slice l_p l.length l_c, .func (.func 96) #[] #[.pointer (some ⟨b_1, 0, none⟩)]]) (caps := []) en_95 rfl rfl rfl rfl (fun w hc => (slices_ContainsFunc_Lgauge_Leg_gauge_Leg_ok l h_l (hc.pick k0) hr).mono fun e w h => ⟨h.1, (h.2.unpick k0)⟩)) fun a w hf hc => ?_
  refine stP hf rfl rfl rfl (pNot rfl) fun a hf => ?_
  refine stP hf rfl rfl rfl (pA rfl) fun a hf => ?_
  refine cNil ?_
  refine h2 _ _ ?_
  refine wp_ret ?_
  obtain rfl := Option.some.inj hF
  replace hc := hc.drop k0
  exact fnOut1 (by simp) rfl Try.results56 hf hc (show look _ 4 = _ from rfl) ⟨rfl, hc⟩

def gauge_less (N : Nat) (a_ : api_Span) (b_ : api_Span) : Option (api_Span) :=
  some (⟨W (a_.Lo - b_.Hi), W (a_.Hi - b_.Lo)⟩ : api_Span)
theorem gauge_less_ok {N : Nat} {G : Pers} {Lf : List Ent} {w : World} (a_ : api_Span) (b_ : api_Span)   (hc : Ctx G (Lf) w) {res : api_Span} (hF : gauge_less N a_ b_ = some res) : Calls Try.prog 60 #[.agg #[.int .i64 a_.Lo, .int .i64 a_.Hi], .agg #[.int .i64 b_.Lo, .int .i64 b_.Hi]] w (fun e w => e = .returned (.agg #[.int .i64 res.Lo, .int .i64 res.Hi]) ∧ Ctx G (Lf) w) := by
  unfold gauge_less at hF
  refine fnIn (args := [.agg #[.int .i64 a_.Lo, .int .i64 a_.Hi], .agg #[.int .i64 b_.Lo, .int .i64 b_.Hi]]) Try.func60 rfl Try.ntmps60 rfl fun a hf => ?_
  refine wp_seq_k fun K1 h1 => ?_
  refine cReg ?_
  refine stBx (cs := [.int .i64 a_.Lo, .int .i64 a_.Hi]) hf hc rfl rfl rfl rfl fun b_1 a w hf hc => ?_
  refine stBx (cs := [.int .i64 b_.Lo, .int .i64 b_.Hi]) hf hc rfl rfl rfl rfl fun b_2 a w hf hc => ?_
  refine stAl (cs := [.int .i64 0, .int .i64 0]) hf hc rfl rfl zr_24 rfl fun b_3 a w hf hc => ?_
  refine cNil ?_
  refine h1 _ _ ?_
  refine wp_seq_k fun K2 h2 => ?_
  refine cReg ?_
  refine stP hf rfl rfl rfl (pFA fa_24_0 rfl) fun a hf => ?_
  refine stE hf hc rfl rfl rfl (eLd1 sc_3 rfl (cell_box m2 rfl)) fun a w hf hc => ?_
  refine stP hf rfl rfl rfl (pFA fa_24_1 rfl) fun a hf => ?_
  refine stE hf hc rfl rfl rfl (eLd1 sc_3 rfl (cell_box m1 rfl)) fun a w hf hc => ?_
  refine stP hf rfl rfl rfl (pSub rfl rfl) fun a hf => ?_
  refine stP hf rfl rfl rfl (pFA fa_24_1 rfl) fun a hf => ?_
  refine stE hf hc rfl rfl rfl (eLd1 sc_3 rfl (cell_box m2 rfl)) fun a w hf hc => ?_
  refine stP hf rfl rfl rfl (pFA fa_24_0 rfl) fun a hf => ?_
  refine stE hf hc rfl rfl rfl (eLd1 sc_3 rfl (cell_box m1 rfl)) fun a w hf hc => ?_
  refine stP hf rfl rfl rfl (pSub rfl rfl) fun a hf => ?_
  refine stP hf rfl rfl rfl (pBuildS (cells := [.int .i64 (W (a_.Lo - b_.Hi)), .int .i64 (W (a_.Hi - b_.Lo))]) bt_24 rfl rfl) fun a hf => ?_
  refine stSt (vs := [.int .i64 (W (a_.Lo - b_.Hi)), .int .i64 (W (a_.Hi - b_.Lo))]) hf hc rfl rfl rfl rfl sz_24 rfl rfl u0 fun w hc => ?_
  refine cNil ?_
  refine h2 _ _ ?_
  refine wp_ret ?_
  obtain rfl := Option.some.inj hF
  replace hc := hc.drop k2
  replace hc := hc.drop k1
  exact fnOut1 (by simp) rfl Try.results60 hf hc (rv_cellN (vs := [.int .i64 (W (a_.Lo - b_.Hi)), .int .i64 (W (a_.Hi - b_.Lo))]) ag_24 rfl rfl (cells_box (n := 2) m0 rfl)) ⟨rfl, (hc.drop k0)⟩

def gauge_Cross_b10 (N : Nat) (l : List gauge_Leg) (x : Int) (x_1 : Int) (x_2 : Int) : Option (Step (Int × Int × Int) (api_Span × Int)) :=
  cond (decide (x < ((l.length : Nat) : Int)))
  (Option.bind (getI l x) fun e_1 =>
  Option.bind (gauge_times N ([e_1.East, e_1.Y] : List api_Span)) fun r_1 =>
  Option.bind (gauge_times N ([e_1.North, e_1.X] : List api_Span)) fun r_2 =>
  Option.bind (gauge_less N r_1 r_2) fun r_3 =>
  Option.bind (gauge_times N ([e_1.Depth, r_3] : List api_Span)) fun r_4 =>
  Option.bind (gauge_plus N (⟨x_1, x_2⟩ : api_Span) r_4) fun r_5 =>
  some (.cont (W (x + 1), r_5.Lo, r_5.Hi)))
  (some (.brk (x, x_1, x_2)))
def gauge_Cross (N : Nat) (l : List gauge_Leg) : Option (api_Span × Int) :=
  cond (!(gauge_in ((l.length : Nat) : Int) 1 30))
  (some ((⟨0, 0⟩ : api_Span), 3))
  (Option.bind (gauge_every_gauge_Leg N l) fun r =>
  cond (!r)
  (some ((⟨0, 0⟩ : api_Span), 40))
  (Option.bind (loopO (fun s10 => gauge_Cross_b10 N l s10.1 s10.2.1 s10.2.2) N (0, 0, 0)) fun x10 =>
  exK x10 (fun s10 => some ((⟨s10.2.1, s10.2.2⟩ : api_Span), 0)) some))
theorem gauge_Cross_ok {N : Nat} {G : Pers} {Lf : List Ent} {w : World} (l : List gauge_Leg) {l_p : Option Addr} {l_c : Nat} (h_l : Rd G 10 l_p l_c (l.map enc_gauge_Leg)) (hc : Ctx G (Lf) w) {res : api_Span × Int} (hF : gauge_Cross N l = some res) : Calls Try.prog 18 #[.slice l_p l.length l_c] w (fun e w => e = .returned (.tuple #[.agg #[.int .i64 res.1.Lo, .int .i64 res.1.Hi], .int .i64 res.2]) ∧ Ctx G (Lf) w) := by
  unfold gauge_Cross at hF
  refine fnIn (args := [.slice l_p l.length l_c]) Try.func18 rfl Try.ntmps18 rfl fun a hf => ?_
  refine wp_seq_k fun K1 h1 => ?_
  refine cReg ?_
  refine stAl (cs := [.int .i64 0, .int .i64 0]) hf hc rfl rfl zr_24 rfl fun b_1 a w hf hc => ?_
  refine stP hf rfl rfl rfl (pA rfl) fun a hf => ?_
  refine cNil ?_
  refine h1 _ _ ?_
  refine wp_seq_k fun K2 h2 => ?_
  refine wp_block ?_
  refine wp_seq_k fun K3 h3 => ?_
  refine cReg ?_
  refine stP hf rfl rfl rfl (pM rfl) fun a hf => ?_
  refine stP hf rfl rfl rfl (pLenS Try.underlying38 rfl) fun a hf => ?_
  refine stE hf hc rfl rfl rfl (eC (v := .bool (gauge_in ((l.length : Nat) : Int) 1 30)) (vs := [.int .i64 ((l.length : Nat) : Int), .int .i64 1, .int .i64 30]) (caps := []) en_55 rfl rfl rfl rfl (fun w hc => gauge_in_ok ((l.length : Nat) : Int) 1 30 hc rfl)) fun a w hf hc => ?_
  refine stP hf rfl rfl rfl (pNot rfl) fun a hf => ?_
  refine stP hf rfl rfl rfl (pA rfl) fun a hf => ?_
  refine cNil ?_
  refine h3 _ _ ?_
  refine cCond (b := (!(gauge_in ((l.length : Nat) : Int) 1 30))) hf rfl (fun hb => ?_) (fun hb => ?_)
  · replace hF := condT hb hF
    clear hb
    refine wp_seq_k fun K4 h4 => ?_
    refine cReg ?_
    refine stP hf rfl rfl rfl (pBuildS (cells := [.int .i64 0, .int .i64 0]) bt_24 rfl rfl) fun a hf => ?_
    refine stSt (vs := [.int .i64 0, .int .i64 0]) hf hc rfl rfl rfl rfl sz_24 rfl rfl u0 fun w hc => ?_
    refine stP hf rfl rfl rfl (pA rfl) fun a hf => ?_
    refine cNil ?_
    refine h4 _ _ ?_
    refine wp_ret ?_
    refine xBlkR ?_
    refine xThenR ?_
    obtain rfl := Option.some.inj hF
    exact fnOut2 (by simp) rfl Try.results18 hf hc (rv_cellN (vs := [.int .i64 0, .int .i64 0]) ag_24 rfl rfl (cells_box (n := 2) m0 rfl)) (show look _ 3 = _ from rfl) ⟨rfl, (hc.drop k0)⟩
  · replace hF := condF hb hF
    clear hb
    refine wp_seq_k fun K5 h5 => ?_
    refine cReg ?_
    refine stP hf rfl rfl rfl (pM rfl) fun a hf => ?_
    obtain ⟨r, hr, hF⟩ := bnd_some hF
    refine stE hf hc rfl rfl rfl (eC (v := .bool r) (vs := [.slice l_p l.length l_c, .func (.func 57) #[] #[]]) (caps := []) en_56 rfl rfl rfl rfl (fun w hc => gauge_every_gauge_Leg_ok l h_l hc hr)) fun a w hf hc => ?_
    refine stP hf rfl rfl rfl (pNot rfl) fun a hf => ?_
    refine stP hf rfl rfl rfl (pA rfl) fun a hf => ?_
    refine cNil ?_
    refine h5 _ _ ?_
    refine cCond (b := (!r)) hf rfl (fun hb => ?_) (fun hb => ?_)
    · replace hF := condT hb hF
      clear hb
      refine wp_seq_k fun K6 h6 => ?_
      refine cReg ?_
      refine stP hf rfl rfl rfl (pBuildS (cells := [.int .i64 0, .int .i64 0]) bt_24 rfl rfl) fun a hf => ?_
      refine stSt (vs := [.int .i64 0, .int .i64 0]) hf hc rfl rfl rfl rfl sz_24 rfl rfl u0 fun w hc => ?_
      refine stP hf rfl rfl rfl (pA rfl) fun a hf => ?_
      refine cNil ?_
      refine h6 _ _ ?_
      refine wp_ret ?_
      refine xBlkR ?_
      refine xThenR ?_
      obtain rfl := Option.some.inj hF
      exact fnOut2 (by simp) rfl Try.results18 hf hc (rv_cellN (vs := [.int .i64 0, .int .i64 0]) ag_24 rfl rfl (cells_box (n := 2) m0 rfl)) (show look _ 3 = _ from rfl) ⟨rfl, (hc.drop k0)⟩
    · replace hF := condF hb hF
      clear hb
      refine wp_skip ?_
      refine h2 _ _ ?_
      refine wp_seq_k fun K7 h7 => ?_
      refine cReg ?_
      refine stAl (cs := [.int .i64 0, .int .i64 0]) hf hc rfl rfl zr_24 rfl fun b_2 a w hf hc => ?_
      refine cNil ?_
      refine h7 _ _ ?_
      refine wp_seq_k fun K8 h8 => ?_
      refine wp_seq_k fun K9 h9 => ?_
      refine cReg ?_
      refine stP hf rfl rfl rfl (pM rfl) fun a hf => ?_
      refine stP hf rfl rfl rfl (pLenS Try.underlying38 rfl) fun a hf => ?_
      refine stP hf rfl rfl rfl (pM rfl) fun a hf => ?_
      refine cNil ?_
      refine h9 _ _ ?_
      refine wp_block ?_
      obtain ⟨x10, hx10, hF⟩ := bnd_some hF
      let S10 : (Int × Int × Int) → Act → World → Prop := (fun (zz : Int × Int × Int) a w => Has 45 a [(2, .pointer (some ⟨b_1, 0, none⟩)), (4, .pointer (some ⟨b_2, 0, none⟩)), (18, .slice l_p l.length l_c), (19, .int .i64 ((l.length : Nat) : Int)), (20, .int .i64 zz.1)] ∧ Ctx G (.box b_2 [.int .i64 zz.2.1, .int .i64 zz.2.2] 24 :: .box b_1 [.int .i64 0, .int .i64 0] 24 :: Lf) w)
      have hr10 : ∀ (zz : Int × Int × Int) a w, x10 = .go zz → S10 zz a w → K8 a w := by
        rintro ⟨x, x_1, x_2⟩ a w rfl ⟨hf, hc⟩
        replace hF : _ = some res := hF
        refine h8 _ _ ?_
        refine wp_seq_k fun K11 h11 => ?_
        refine cReg ?_
        refine stE hf hc rfl rfl rfl (eLdN (vs := [.int .i64 x_1, .int .i64 x_2]) ag_24 rfl rfl (cells_box (n := 2) m0 rfl)) fun a w hf hc => ?_
        refine stSt (vs := [.int .i64 x_1, .int .i64 x_2]) hf hc rfl rfl rfl rfl sz_24 rfl rfl u1 fun w hc => ?_
        refine stP hf rfl rfl rfl (pA rfl) fun a hf => ?_
        refine cNil ?_
        refine h11 _ _ ?_
        refine wp_ret ?_
        obtain rfl := Option.some.inj hF
        replace hc := hc.drop k0
        exact fnOut2 (by simp) rfl Try.results18 hf hc (rv_cellN (vs := [.int .i64 x_1, .int .i64 x_2]) ag_24 rfl rfl (cells_box (n := 2) m0 rfl)) (show look _ 3 = _ from rfl) ⟨rfl, (hc.drop k0)⟩
      have ho10 : ∀ r, x10 = .out r → r = res := by
        rintro r rfl
        exact Option.some.inj hF
      refine cLoop N (loopW (S := S10) (x := x10) ?_ N (0, 0, 0) _ _ ⟨hf.keep ⟨rfl, rfl, rfl, rfl, rfl, trivial⟩, hc⟩ hx10)
      clear hF hf hc
      rintro ⟨x, x_1, x_2⟩ st10 a w KB10 ⟨hf, hc⟩ hF hfin10 hK10
      unfold gauge_Cross_b10 at hF
      refine wp_seq_k fun K12 h12 => ?_
      refine cReg ?_
      refine stP hf rfl rfl rfl (pLt rfl rfl) fun a hf => ?_
      refine cNil ?_
      refine h12 _ _ ?_
      refine wp_seq_k fun K13 h13 => ?_
      refine cCond (b := (decide (x < ((l.length : Nat) : Int)))) hf rfl (fun hb => ?_) (fun hb => ?_)
      · replace hF := condT hb hF
        clear hb
        refine wp_skip ?_
        refine h13 _ _ ?_
        refine wp_seq_k fun K14 h14 => ?_
        refine wp_block ?_
        refine wp_seq_k fun K15 h15 => ?_
        refine cReg ?_
        obtain ⟨e_1, he_1, hF⟩ := bnd_some hF
        obtain ⟨b_3, o, qa, qp⟩ := h_l.atm he_1
        refine stP hf rfl rfl rfl (pIA Try.underlying38 sz_40 rfl rfl qa) fun a hf => ?_
        refine stE hf hc rfl rfl rfl (eLdN (vs := [.int .i64 e_1.X.Lo, .int .i64 e_1.X.Hi, .int .i64 e_1.Y.Lo, .int .i64 e_1.Y.Hi, .int .i64 e_1.Depth.Lo, .int .i64 e_1.Depth.Hi, .int .i64 e_1.East.Lo, .int .i64 e_1.East.Hi, .int .i64 e_1.North.Lo, .int .i64 e_1.North.Hi]) ag_40 rfl rfl (cells_pc qp (n := 10) (o' := 0) rfl)) fun a w hf hc => ?_
        refine stAl (cs := [.int .i64 0, .int .i64 0, .int .i64 0, .int .i64 0, .int .i64 0, .int .i64 0, .int .i64 0, .int .i64 0, .int .i64 0, .int .i64 0]) hf hc rfl rfl zr_40 rfl fun b_4 a w hf hc => ?_
        refine stSt (vs := [.int .i64 e_1.X.Lo, .int .i64 e_1.X.Hi, .int .i64 e_1.Y.Lo, .int .i64 e_1.Y.Hi, .int .i64 e_1.Depth.Lo, .int .i64 e_1.Depth.Hi, .int .i64 e_1.East.Lo, .int .i64 e_1.East.Hi, .int .i64 e_1.North.Lo, .int .i64 e_1.North.Hi]) hf hc rfl rfl rfl rfl sz_40 rfl rfl u0 fun w hc => ?_
        refine cNil ?_
        refine h15 _ _ ?_
        obtain ⟨r_1, hr_1, hF⟩ := bnd_some hF
        obtain ⟨r_2, hr_2, hF⟩ := bnd_some hF
        obtain ⟨r_3, hr_3, hF⟩ := bnd_some hF
        obtain ⟨r_4, hr_4, hF⟩ := bnd_some hF
        obtain ⟨r_5, hr_5, hF⟩ := bnd_some hF
        replace hc := hc.nilRow 0 0
        replace hc := hc.nilRow 0 0
        replace hc := hc.nilRow 0 0
        refine regionE (fun θ => [⟨none, none, 2, .pointer (some ⟨b_1, 0, none⟩)⟩, ⟨none, none, 4, .pointer (some ⟨b_2, 0, none⟩)⟩, ⟨none, none, 6, .pointer (some ⟨b_4, 0, none⟩)⟩, ⟨none, none, 18, .slice l_p l.length l_c⟩, ⟨none, none, 19, .int .i64 ((l.length : Nat) : Int)⟩, ⟨none, none, 20, .int .i64 x⟩, ⟨some 0, none, 24, .agg #[.int .i64 x_1, .int .i64 x_2]⟩, ⟨some 1, none, 25, .pointer (some ⟨b_4, 4, none⟩)⟩, ⟨some 2, none, 26, .agg #[.int .i64 e_1.Depth.Lo, .int .i64 e_1.Depth.Hi]⟩, ⟨some 3, none, 27, .pointer (some ⟨b_4, 6, none⟩)⟩, ⟨some 4, none, 28, .agg #[.int .i64 e_1.East.Lo, .int .i64 e_1.East.Hi]⟩, ⟨some 5, none, 29, .pointer (some ⟨b_4, 2, none⟩)⟩, ⟨some 6, none, 30, .agg #[.int .i64 e_1.Y.Lo, .int .i64 e_1.Y.Hi]⟩, ⟨some 7, none, 31, .slice (some ⟨(θ 56).b, 0, none⟩) 2 2⟩, ⟨some 8, none, 32, .agg #[.int .i64 r_1.Lo, .int .i64 r_1.Hi]⟩, ⟨some 9, none, 33, .pointer (some ⟨b_4, 8, none⟩)⟩, ⟨some 10, none, 34, .agg #[.int .i64 e_1.North.Lo, .int .i64 e_1.North.Hi]⟩, ⟨some 11, none, 35, .pointer (some ⟨b_4, 0, none⟩)⟩, ⟨some 12, none, 36, .agg #[.int .i64 e_1.X.Lo, .int .i64 e_1.X.Hi]⟩, ⟨some 13, none, 37, .slice (some ⟨(θ 104).b, 0, none⟩) 2 2⟩, ⟨some 14, none, 38, .agg #[.int .i64 r_2.Lo, .int .i64 r_2.Hi]⟩, ⟨some 15, none, 39, .agg #[.int .i64 r_3.Lo, .int .i64 r_3.Hi]⟩, ⟨some 16, none, 40, .slice (some ⟨(θ 128).b, 0, none⟩) 2 2⟩, ⟨some 17, none, 41, .agg #[.int .i64 r_4.Lo, .int .i64 r_4.Hi]⟩, ⟨some 18, none, 42, .agg #[.int .i64 r_5.Lo, .int .i64 r_5.Hi]⟩]) (fun E θ => (bif E 16 then .row (some ⟨(θ 128).b, 0, none⟩) 2 (([e_1.Depth, r_3] : List api_Span).map enc_api_Span) 24 2 else .row none 0 [] 0 0) :: (bif E 13 then .row (some ⟨(θ 104).b, 0, none⟩) 2 (([e_1.North, e_1.X] : List api_Span).map enc_api_Span) 24 2 else .row none 0 [] 0 0) :: (bif E 7 then .row (some ⟨(θ 56).b, 0, none⟩) 2 (([e_1.East, e_1.Y] : List api_Span).map enc_api_Span) 24 2 else .row none 0 [] 0 0) :: .box b_4 [.int .i64 e_1.X.Lo, .int .i64 e_1.X.Hi, .int .i64 e_1.Y.Lo, .int .i64 e_1.Y.Hi, .int .i64 e_1.Depth.Lo, .int .i64 e_1.Depth.Hi, .int .i64 e_1.East.Lo, .int .i64 e_1.East.Hi, .int .i64 e_1.North.Lo, .int .i64 e_1.North.Hi] 40 :: (bif E 19 then .box b_2 [.int .i64 r_5.Lo, .int .i64 r_5.Hi] 24 else .box b_2 [.int .i64 x_1, .int .i64 x_2] 24) :: .box b_1 [.int .i64 0, .int .i64 0] 24 :: Lf) [(19, 0)] (fun a w => ∃ (b_8 : Nat) (b_9 : Nat) (b_10 : Nat), Has 45 a [(2, .pointer (some ⟨b_1, 0, none⟩)), (4, .pointer (some ⟨b_2, 0, none⟩)), (18, .slice l_p l.length l_c), (19, .int .i64 ((l.length : Nat) : Int)), (20, .int .i64 x)] ∧ Ctx G (.row (some ⟨b_8, 0, none⟩) 2 (([e_1.Depth, r_3] : List api_Span).map enc_api_Span) 24 2 :: .row (some ⟨b_9, 0, none⟩) 2 (([e_1.North, e_1.X] : List api_Span).map enc_api_Span) 24 2 :: .row (some ⟨b_10, 0, none⟩) 2 (([e_1.East, e_1.Y] : List api_Span).map enc_api_Span) 24 2 :: .box b_4 [.int .i64 e_1.X.Lo, .int .i64 e_1.X.Hi, .int .i64 e_1.Y.Lo, .int .i64 e_1.Y.Hi, .int .i64 e_1.Depth.Lo, .int .i64 e_1.Depth.Hi, .int .i64 e_1.East.Lo, .int .i64 e_1.East.Hi, .int .i64 e_1.North.Lo, .int .i64 e_1.North.Hi] 40 :: .box b_2 [.int .i64 r_5.Lo, .int .i64 r_5.Hi] 24 :: .box b_1 [.int .i64 0, .int .i64 0] 24 :: Lf) w) follows_mx (by kernel_rfl) (by kernel_rfl) (HasE.of hf ⟨rfl, rfl, rfl, rfl, rfl, rfl, trivial, trivial, trivial, trivial, trivial, trivial, trivial, trivial, trivial, trivial, trivial, trivial, trivial, trivial, trivial, trivial, trivial, trivial, trivial, trivial⟩) hc ⟨?_, ?_, ?_, ?_, ?_, ?_, ?_, ?_, ?_, ?_, ?_, ?_, ?_, ?_, ?_, ?_, ?_, ?_, ?_, ?_, trivial⟩ ?_ ?_
        · intro E θ a w hD hi hp he hc
          have e19 := hD.f 0 rfl hi
          try dsimp only at hc
          rw [e19] at hc
          have hf := he.h0
          replace hf := hf.more he 1 rfl onT
          refine stE hf hc rfl rfl rfl (eLdN (vs := [.int .i64 x_1, .int .i64 x_2]) ag_24 rfl rfl (cells_box (n := 2) m4 rfl)) fun a w hf hc => ?_
          refine cNil ?_
          refine xThenN ?_
          intro ds u hau
          refine ⟨θ, he.put0 hi hau hf rfl 6 rfl rfl, ?_⟩
          try dsimp only
          rw [updE_fls 0 e19 rfl]
          exact hc
        · intro E θ a w hD hi hp he hc
          have hf := he.h0
          replace hf := hf.more he 2 rfl onT
          refine stP hf rfl rfl rfl (pFA fa_40_2 rfl) fun a hf => ?_
          refine cNil ?_
          refine xThenN ?_
          intro ds u hau
          refine ⟨θ, he.put0 hi hau hf rfl 7 rfl rfl, ?_⟩
          exact hc
        · intro E θ a w hD hi hp he hc
          have e1 := hp.of (k := 1) rfl
          have hf := he.h0
          replace hf := hf.more he 7 rfl (onP e1)
          refine stE hf hc rfl rfl rfl (eLdN (vs := [.int .i64 e_1.Depth.Lo, .int .i64 e_1.Depth.Hi]) ag_24 rfl rfl (cells_box (n := 2) m3 rfl)) fun a w hf hc => ?_
          refine cNil ?_
          refine xThenN ?_
          intro ds u hau
          refine ⟨θ, he.put0 hi hau hf rfl 8 rfl rfl, ?_⟩
          exact hc
        · intro E θ a w hD hi hp he hc
          have hf := he.h0
          replace hf := hf.more he 2 rfl onT
          refine stP hf rfl rfl rfl (pFA fa_40_3 rfl) fun a hf => ?_
          refine cNil ?_
          refine xThenN ?_
          intro ds u hau
          refine ⟨θ, he.put0 hi hau hf rfl 9 rfl rfl, ?_⟩
          exact hc
        · intro E θ a w hD hi hp he hc
          have e3 := hp.of (k := 3) rfl
          have hf := he.h0
          replace hf := hf.more he 9 rfl (onP e3)
          refine stE hf hc rfl rfl rfl (eLdN (vs := [.int .i64 e_1.East.Lo, .int .i64 e_1.East.Hi]) ag_24 rfl rfl (cells_box (n := 2) m3 rfl)) fun a w hf hc => ?_
          refine cNil ?_
          refine xThenN ?_
          intro ds u hau
          refine ⟨θ, he.put0 hi hau hf rfl 10 rfl rfl, ?_⟩
          exact hc
        · intro E θ a w hD hi hp he hc
          have hf := he.h0
          replace hf := hf.more he 2 rfl onT
          refine stP hf rfl rfl rfl (pFA fa_40_1 rfl) fun a hf => ?_
          refine cNil ?_
          refine xThenN ?_
          intro ds u hau
          refine ⟨θ, he.put0 hi hau hf rfl 11 rfl rfl, ?_⟩
          exact hc
        · intro E θ a w hD hi hp he hc
          have e5 := hp.of (k := 5) rfl
          have hf := he.h0
          replace hf := hf.more he 11 rfl (onP e5)
          refine stE hf hc rfl rfl rfl (eLdN (vs := [.int .i64 e_1.Y.Lo, .int .i64 e_1.Y.Hi]) ag_24 rfl rfl (cells_box (n := 2) m3 rfl)) fun a w hf hc => ?_
          refine cNil ?_
          refine xThenN ?_
          intro ds u hau
          refine ⟨θ, he.put0 hi hau hf rfl 12 rfl rfl, ?_⟩
          exact hc
        · intro E θ a w hD hi hp he hc
          have e4 := hp.of (k := 4) rfl
          have e6 := hp.of (k := 6) rfl
          try dsimp only at hc
          rw [hi] at hc
          have hf := he.h0
          replace hf := hf.more he 10 rfl (onP e4)
          replace hf := hf.more he 12 rfl (onP e6)
          refine stBS (rows := ([e_1.East, e_1.Y] : List api_Span).map enc_api_Span) (vs := [(0, .agg #[.int .i64 e_1.East.Lo, .int .i64 e_1.East.Hi]), (1, .agg #[.int .i64 e_1.Y.Lo, .int .i64 e_1.Y.Hi])]) hf hc rfl rfl sl_72 rfl ⟨rfl, rfl, rfl, rfl, rfl, rfl, trivial⟩ rfl rfl fun b_5 a w hf hc => ?_
          refine cNil ?_
          refine xThenN ?_
          intro ds u hau
          replace hc := hc.drop k3
          replace hc := hc.pick k0
          replace hc := hc.pick k2
          replace hc := hc.pick k2
          refine ⟨(setT θ 56 ⟨b_5, none, 0⟩), he.put hi hau hf rfl [] trivial ⟨qq, qq, qq, qq, qq, qq, qq, qq, qq, qq, qq, qq, qq, qq, qq, qq, qq, qq, qq, qq, qq, qq, qq, qq, qq, trivial⟩, ?_⟩
          try dsimp only
          rw [updE_self E 7]
          exact hc
        · intro E θ a w hD hi hp he hc
          have e7 := hp.of (k := 7) rfl
          try dsimp only at hc
          rw [e7] at hc
          have hf := he.h0
          replace hf := hf.more he 13 rfl (onP e7)
          refine stE hf hc rfl rfl rfl (eC (v := .agg #[.int .i64 r_1.Lo, .int .i64 r_1.Hi]) (vs := [.slice (some ⟨(θ 56).b, 0, none⟩) 2 2]) (caps := []) en_59 rfl rfl rfl rfl (fun w hc => by obtain ⟨G1, hle1, hrd1, hc, hth1⟩ := lend hc k2; exact (gauge_times_ok ([e_1.East, e_1.Y] : List api_Span) hrd1 hc hr_1).mono fun e w h => ⟨h.1, ((hth1 _ _ h.2).unpick k2)⟩)) fun a w hf hc => ?_
          refine cNil ?_
          refine xThenN ?_
          intro ds u hau
          refine ⟨θ, he.put0 hi hau hf rfl 14 rfl rfl, ?_⟩
          try dsimp only
          rw [updE_tru 8 e7]
          exact hc
        · intro E θ a w hD hi hp he hc
          have hf := he.h0
          replace hf := hf.more he 2 rfl onT
          refine stP hf rfl rfl rfl (pFA fa_40_4 rfl) fun a hf => ?_
          refine cNil ?_
          refine xThenN ?_
          intro ds u hau
          refine ⟨θ, he.put0 hi hau hf rfl 15 rfl rfl, ?_⟩
          exact hc
        · intro E θ a w hD hi hp he hc
          have e9 := hp.of (k := 9) rfl
          have hf := he.h0
          replace hf := hf.more he 15 rfl (onP e9)
          refine stE hf hc rfl rfl rfl (eLdN (vs := [.int .i64 e_1.North.Lo, .int .i64 e_1.North.Hi]) ag_24 rfl rfl (cells_box (n := 2) m3 rfl)) fun a w hf hc => ?_
          refine cNil ?_
          refine xThenN ?_
          intro ds u hau
          refine ⟨θ, he.put0 hi hau hf rfl 16 rfl rfl, ?_⟩
          exact hc
        · intro E θ a w hD hi hp he hc
          have hf := he.h0
          replace hf := hf.more he 2 rfl onT
          refine stP hf rfl rfl rfl (pFA fa_40_0 rfl) fun a hf => ?_
          refine cNil ?_
          refine xThenN ?_
          intro ds u hau
          refine ⟨θ, he.put0 hi hau hf rfl 17 rfl rfl, ?_⟩
          exact hc
        · intro E θ a w hD hi hp he hc
          have e11 := hp.of (k := 11) rfl
          have hf := he.h0
          replace hf := hf.more he 17 rfl (onP e11)
          refine stE hf hc rfl rfl rfl (eLdN (vs := [.int .i64 e_1.X.Lo, .int .i64 e_1.X.Hi]) ag_24 rfl rfl (cells_box (n := 2) m3 rfl)) fun a w hf hc => ?_
          refine cNil ?_
          refine xThenN ?_
          intro ds u hau
          refine ⟨θ, he.put0 hi hau hf rfl 18 rfl rfl, ?_⟩
          exact hc
        · intro E θ a w hD hi hp he hc
          have e10 := hp.of (k := 10) rfl
          have e12 := hp.of (k := 12) rfl
          try dsimp only at hc
          rw [hi] at hc
          have hf := he.h0
          replace hf := hf.more he 16 rfl (onP e10)
          replace hf := hf.more he 18 rfl (onP e12)
          refine stBS (rows := ([e_1.North, e_1.X] : List api_Span).map enc_api_Span) (vs := [(0, .agg #[.int .i64 e_1.North.Lo, .int .i64 e_1.North.Hi]), (1, .agg #[.int .i64 e_1.X.Lo, .int .i64 e_1.X.Hi])]) hf hc rfl rfl sl_72 rfl ⟨rfl, rfl, rfl, rfl, rfl, rfl, trivial⟩ rfl rfl fun b_6 a w hf hc => ?_
          refine cNil ?_
          refine xThenN ?_
          intro ds u hau
          replace hc := hc.drop k2
          replace hc := hc.pick k0
          replace hc := hc.pick k1
          refine ⟨(setT θ 104 ⟨b_6, none, 0⟩), he.put hi hau hf rfl [] trivial ⟨qq, qq, qq, qq, qq, qq, qq, qq, qq, qq, qq, qq, qq, qq, qq, qq, qq, qq, qq, qq, qq, qq, qq, qq, qq, trivial⟩, ?_⟩
          try dsimp only
          rw [updE_self E 13]
          exact hc
        · intro E θ a w hD hi hp he hc
          have e13 := hp.of (k := 13) rfl
          try dsimp only at hc
          rw [e13] at hc
          have hf := he.h0
          replace hf := hf.more he 19 rfl (onP e13)
          refine stE hf hc rfl rfl rfl (eC (v := .agg #[.int .i64 r_2.Lo, .int .i64 r_2.Hi]) (vs := [.slice (some ⟨(θ 104).b, 0, none⟩) 2 2]) (caps := []) en_59 rfl rfl rfl rfl (fun w hc => by obtain ⟨G1, hle1, hrd1, hc, hth1⟩ := lend hc k1; exact (gauge_times_ok ([e_1.North, e_1.X] : List api_Span) hrd1 hc hr_2).mono fun e w h => ⟨h.1, ((hth1 _ _ h.2).unpick k1)⟩)) fun a w hf hc => ?_
          refine cNil ?_
          refine xThenN ?_
          intro ds u hau
          refine ⟨θ, he.put0 hi hau hf rfl 20 rfl rfl, ?_⟩
          try dsimp only
          rw [updE_tru 14 e13]
          exact hc
        · intro E θ a w hD hi hp he hc
          have e8 := hp.of (k := 8) rfl
          have e14 := hp.of (k := 14) rfl
          have hf := he.h0
          replace hf := hf.more he 14 rfl (onP e8)
          replace hf := hf.more he 20 rfl (onP e14)
          refine stE hf hc rfl rfl rfl (eC (v := .agg #[.int .i64 r_3.Lo, .int .i64 r_3.Hi]) (vs := [.agg #[.int .i64 r_1.Lo, .int .i64 r_1.Hi], .agg #[.int .i64 r_2.Lo, .int .i64 r_2.Hi]]) (caps := []) en_60 rfl rfl rfl rfl (fun w hc => gauge_less_ok r_1 r_2 hc hr_3)) fun a w hf hc => ?_
          refine cNil ?_
          refine xThenN ?_
          intro ds u hau
          refine ⟨θ, he.put0 hi hau hf rfl 21 rfl rfl, ?_⟩
          exact hc
        · intro E θ a w hD hi hp he hc
          have e2 := hp.of (k := 2) rfl
          have e15 := hp.of (k := 15) rfl
          try dsimp only at hc
          rw [hi] at hc
          have hf := he.h0
          replace hf := hf.more he 8 rfl (onP e2)
          replace hf := hf.more he 21 rfl (onP e15)
          refine stBS (rows := ([e_1.Depth, r_3] : List api_Span).map enc_api_Span) (vs := [(0, .agg #[.int .i64 e_1.Depth.Lo, .int .i64 e_1.Depth.Hi]), (1, .agg #[.int .i64 r_3.Lo, .int .i64 r_3.Hi])]) hf hc rfl rfl sl_72 rfl ⟨rfl, rfl, rfl, rfl, rfl, rfl, trivial⟩ rfl rfl fun b_7 a w hf hc => ?_
          refine cNil ?_
          refine xThenN ?_
          intro ds u hau
          replace hc := hc.drop k1
          refine ⟨(setT θ 128 ⟨b_7, none, 0⟩), he.put hi hau hf rfl [] trivial ⟨qq, qq, qq, qq, qq, qq, qq, qq, qq, qq, qq, qq, qq, qq, qq, qq, qq, qq, qq, qq, qq, qq, qq, qq, qq, trivial⟩, ?_⟩
          try dsimp only
          rw [updE_self E 16]
          exact hc
        · intro E θ a w hD hi hp he hc
          have e16 := hp.of (k := 16) rfl
          try dsimp only at hc
          rw [e16] at hc
          have hf := he.h0
          replace hf := hf.more he 22 rfl (onP e16)
          refine stE hf hc rfl rfl rfl (eC (v := .agg #[.int .i64 r_4.Lo, .int .i64 r_4.Hi]) (vs := [.slice (some ⟨(θ 128).b, 0, none⟩) 2 2]) (caps := []) en_59 rfl rfl rfl rfl (fun w hc => by obtain ⟨G1, hle1, hrd1, hc, hth1⟩ := lend hc k0; exact (gauge_times_ok ([e_1.Depth, r_3] : List api_Span) hrd1 hc hr_4).mono fun e w h => ⟨h.1, ((hth1 _ _ h.2).unpick k0)⟩)) fun a w hf hc => ?_
          refine cNil ?_
          refine xThenN ?_
          intro ds u hau
          refine ⟨θ, he.put0 hi hau hf rfl 23 rfl rfl, ?_⟩
          try dsimp only
          rw [updE_tru 17 e16]
          exact hc
        · intro E θ a w hD hi hp he hc
          have e0 := hp.of (k := 0) rfl
          have e17 := hp.of (k := 17) rfl
          have hf := he.h0
          replace hf := hf.more he 6 rfl (onP e0)
          replace hf := hf.more he 23 rfl (onP e17)
          refine stE hf hc rfl rfl rfl (eC (v := .agg #[.int .i64 r_5.Lo, .int .i64 r_5.Hi]) (vs := [.agg #[.int .i64 x_1, .int .i64 x_2], .agg #[.int .i64 r_4.Lo, .int .i64 r_4.Hi]]) (caps := []) en_58 rfl rfl rfl rfl (fun w hc => gauge_plus_ok (⟨x_1, x_2⟩ : api_Span) r_4 hc hr_5)) fun a w hf hc => ?_
          refine cNil ?_
          refine xThenN ?_
          intro ds u hau
          refine ⟨θ, he.put0 hi hau hf rfl 24 rfl rfl, ?_⟩
          exact hc
        · intro E θ a w hD hi hp he hc
          have e18 := hp.of (k := 18) rfl
          try dsimp only at hc
          rw [hi] at hc
          have hf := he.h0
          replace hf := hf.more he 1 rfl onT
          replace hf := hf.more he 24 rfl (onP e18)
          refine stSt (vs := [.int .i64 r_5.Lo, .int .i64 r_5.Hi]) hf hc rfl rfl rfl rfl sz_24 rfl rfl u4 fun w hc => ?_
          refine cNil ?_
          refine xThenN ?_
          intro ds u hau
          refine ⟨θ, he.stay0 hi hau hf rfl, ?_⟩
          try dsimp only
          rw [updE_self E 19]
          exact hc
        · intro E θ a w hall he hc
          have hf := he.h0
          have e7 := hall 7 rfl
          have e13 := hall 13 rfl
          have e16 := hall 16 rfl
          have e19 := hall 19 rfl
          replace hf := hf.more he 5 rfl (onT)
          replace hf := hf.more he 4 rfl (onT)
          replace hf := hf.more he 3 rfl (onT)
          replace hf := hf.more he 1 rfl (onT)
          replace hf := hf.more he 0 rfl (onT)
          try dsimp only at hc
          rw [e7, e13, e16, e19] at hc
          exact ⟨(θ 128).b, (θ 104).b, (θ 56).b, hf.keep ⟨rfl, rfl, rfl, rfl, rfl, trivial⟩, hc⟩
        rintro a w ⟨b_8, b_9, b_10, hf, hc⟩
        refine h14 _ _ ?_
        refine cReg ?_
        refine stP hf rfl rfl rfl (pAdd rfl rfl) fun a hf => ?_
        refine stP hf rfl rfl rfl (pM rfl) fun a hf => ?_
        refine cNil ?_
        replace hc := hc.drop k3
        replace hc := hc.drop k2
        replace hc := hc.drop k1
        replace hc := hc.drop k0
        exact hK10 (W (x + 1), r_5.Lo, r_5.Hi) _ _ (Option.some.inj hF).symm ⟨hf.keep ⟨rfl, rfl, rfl, rfl, rfl, trivial⟩, hc⟩
      · replace hF := condF hb hF
        clear hb
        refine wp_exit ?_
        refine xThen ?_
        refine xThen ?_
        have he := Option.some.inj hF
        rw [← he] at hfin10
        refine cHit ?_
        exact hr10 _ _ _ hfin10 ⟨hf.keep ⟨rfl, rfl, rfl, rfl, rfl, trivial⟩, hc⟩

def gauge_Thinned_1 (s_ : api_Span) : Bool :=
  (gauge_right s_ 0 1000000)
theorem gauge_Thinned_1_ok {G : Pers} {Lf : List Ent} {w : World} (s_ : api_Span)   (hc : Ctx G (Lf) w) {res : Bool} (hF : gauge_Thinned_1 s_ = res) : Calls Try.prog 51 #[.agg #[.int .i64 s_.Lo, .int .i64 s_.Hi]] w (fun e w => e = .returned (.bool res) ∧ Ctx G (Lf) w) := by
  unfold gauge_Thinned_1 at hF
  refine fnIn (args := [.agg #[.int .i64 s_.Lo, .int .i64 s_.Hi]]) Try.func51 rfl Try.ntmps51 rfl fun a hf => ?_
  refine wp_seq_k fun K1 h1 => ?_
  refine cReg ?_
  refine stBx (cs := [.int .i64 s_.Lo, .int .i64 s_.Hi]) hf hc rfl rfl rfl rfl fun b_1 a w hf hc => ?_
  refine stP hf rfl rfl rfl (pA rfl) fun a hf => ?_
  refine cNil ?_
  refine h1 _ _ ?_
  refine wp_seq_k fun K2 h2 => ?_
  refine cReg ?_
  refine stE hf hc rfl rfl rfl (eLdN (vs := [.int .i64 s_.Lo, .int .i64 s_.Hi]) ag_24 rfl rfl (cells_box (n := 2) m0 rfl)) fun a w hf hc => ?_
  refine stE hf hc rfl rfl rfl (eC (v := .bool (gauge_right s_ 0 1000000)) (vs := [.agg #[.int .i64 s_.Lo, .int .i64 s_.Hi], .int .i64 0, .int .i64 1000000]) (caps := []) en_52 rfl rfl rfl rfl (fun w hc => gauge_right_ok s_ 0 1000000 hc rfl)) fun a w hf hc => ?_
  refine stP hf rfl rfl rfl (pA rfl) fun a hf => ?_
  refine cNil ?_
  refine h2 _ _ ?_
  refine wp_ret ?_
  obtain rfl := hF
  replace hc := hc.drop k0
  exact fnOut1 (by simp) rfl Try.results51 hf hc (show look _ 2 = _ from rfl) ⟨rfl, hc⟩

def gauge_every_api_Span_1 (x : api_Span) : Bool :=
  (!(gauge_Thinned_1 (⟨x.Lo, x.Hi⟩ : api_Span)))
theorem gauge_every_api_Span_1_ok {G : Pers} {Lf : List Ent} {w : World} (x : api_Span) {b_ : Nat}  (hc : Ctx G (.box b_ [.func (.func 51) #[] #[]] 107 :: Lf) w) {res : Bool} (hF : gauge_every_api_Span_1 x = res) : Calls Try.prog 94 #[.agg #[.int .i64 x.Lo, .int .i64 x.Hi], .pointer (some ⟨b_, 0, none⟩)] w (fun e w => e = .returned (.bool res) ∧ Ctx G (.box b_ [.func (.func 51) #[] #[]] 107 :: Lf) w) := by
  unfold gauge_every_api_Span_1 at hF
  refine fnIn (args := [.agg #[.int .i64 x.Lo, .int .i64 x.Hi], .pointer (some ⟨b_, 0, none⟩)]) Try.func94 rfl Try.ntmps94 rfl fun a hf => ?_
  refine wp_seq_k fun K1 h1 => ?_
  refine cReg ?_
  refine stBx (cs := [.int .i64 x.Lo, .int .i64 x.Hi]) hf hc rfl rfl rfl rfl fun b_1 a w hf hc => ?_
  refine stP hf rfl rfl rfl (pA rfl) fun a hf => ?_
  refine cNil ?_
  refine h1 _ _ ?_
  refine wp_seq_k fun K2 h2 => ?_
  refine cReg ?_
  refine stE hf hc rfl rfl rfl (eLd1 sc_107 rfl (cell_box m1 rfl)) fun a w hf hc => ?_
  refine stE hf hc rfl rfl rfl (eLdN (vs := [.int .i64 x.Lo, .int .i64 x.Hi]) ag_24 rfl rfl (cells_box (n := 2) m0 rfl)) fun a w hf hc => ?_
  refine stE hf hc rfl rfl rfl (eC (v := .bool (gauge_Thinned_1 (⟨x.Lo, x.Hi⟩ : api_Span))) (vs := [.agg #[.int .i64 x.Lo, .int .i64 x.Hi]]) (caps := []) en_51 rfl rfl rfl rfl (fun w hc => gauge_Thinned_1_ok (⟨x.Lo, x.Hi⟩ : api_Span) hc rfl)) fun a w hf hc => ?_
  refine stP hf rfl rfl rfl (pNot rfl) fun a hf => ?_
  refine stP hf rfl rfl rfl (pA rfl) fun a hf => ?_
  refine cNil ?_
  refine h2 _ _ ?_
  refine wp_ret ?_
  obtain rfl := hF
  replace hc := hc.drop k0
  exact fnOut1 (by simp) rfl Try.results94 hf hc (show look _ 3 = _ from rfl) ⟨rfl, hc⟩

def slices_IndexFunc_Lapi_Span_api_Span_b4 (N : Nat) (s_ : List api_Span) (x : Int) : Option (Step (Int) (Int)) :=
  cond (decide (x < ((s_.length : Nat) : Int)))
  (Option.bind (getI s_ x) fun e_1 =>
  cond (gauge_every_api_Span_1 e_1)
  (some (.ret x))
  (some (.cont (W (x + 1)))))
  (some (.brk x))
def slices_IndexFunc_Lapi_Span_api_Span (N : Nat) (s_ : List api_Span) : Option (Int) :=
  Option.bind (loopO (fun s4 => slices_IndexFunc_Lapi_Span_api_Span_b4 N s_ s4) N 0) fun x4 =>
  exK x4 (fun s4 => some (-1)) some
theorem slices_IndexFunc_Lapi_Span_api_Span_ok {N : Nat} {G : Pers} {Lf : List Ent} {w : World} (s_ : List api_Span) {s__p : Option Addr} {s__c : Nat} {b_ : Nat} (h_s_ : Rd G 2 s__p s__c (s_.map enc_api_Span)) (hc : Ctx G (.box b_ [.func (.func 51) #[] #[]] 107 :: Lf) w) {res : Int} (hF : slices_IndexFunc_Lapi_Span_api_Span N s_ = some res) : Calls Try.prog 111 #[.slice s__p s_.length s__c, .func (.func 94) #[] #[.pointer (some ⟨b_, 0, none⟩)]] w (fun e w => e = .returned (.int .i64 res) ∧ Ctx G (.box b_ [.func (.func 51) #[] #[]] 107 :: Lf) w) := by
  unfold slices_IndexFunc_Lapi_Span_api_Span at hF
  refine fnIn (args := [.slice s__p s_.length s__c, .func (.func 94) #[] #[.pointer (some ⟨b_, 0, none⟩)]]) Try.func111 rfl Try.ntmps111 rfl fun a hf => ?_
  refine wp_seq_k fun K1 h1 => ?_
  refine cReg ?_
  refine stP hf rfl rfl rfl (pA rfl) fun a hf => ?_
  refine cNil ?_
  refine h1 _ _ ?_
  refine wp_seq_k fun K2 h2 => ?_
  refine wp_seq_k fun K3 h3 => ?_
  refine cReg ?_
  refine stP hf rfl rfl rfl (pM rfl) fun a hf => ?_
  refine stP hf rfl rfl rfl (pLenS Try.underlying72 rfl) fun a hf => ?_
  refine stP hf rfl rfl rfl (pM rfl) fun a hf => ?_
  refine cNil ?_
  refine h3 _ _ ?_
  refine wp_block ?_
  obtain ⟨x4, hx4, hF⟩ := bnd_some hF
  let S4 : Int → Act → World → Prop := (fun (zz : Int) a w => Has 19 a [(0, .slice s__p s_.length s__c), (1, .func (.func 94) #[] #[.pointer (some ⟨b_, 0, none⟩)]), (7, .int .i64 ((s_.length : Nat) : Int)), (8, .int .i64 zz)] ∧ Ctx G (.box b_ [.func (.func 51) #[] #[]] 107 :: Lf) w)
  have hr4 : ∀ (zz : Int) a w, x4 = .go zz → S4 zz a w → K2 a w := by
    rintro x a w rfl ⟨hf, hc⟩
    replace hF : _ = some res := hF
    refine h2 _ _ ?_
    refine wp_seq_k fun K5 h5 => ?_
    refine cReg ?_
    refine stP hf rfl rfl rfl (pA rfl) fun a hf => ?_
    refine cNil ?_
    refine h5 _ _ ?_
    refine wp_ret ?_
    obtain rfl := Option.some.inj hF
    exact fnOut1 (by simp) rfl Try.results111 hf hc (show look _ 4 = _ from rfl) ⟨rfl, hc⟩
  have ho4 : ∀ r, x4 = .out r → r = res := by
    rintro r rfl
    exact Option.some.inj hF
  refine cLoop N (loopW (S := S4) (x := x4) ?_ N 0 _ _ ⟨hf.keep ⟨rfl, rfl, rfl, rfl, trivial⟩, hc⟩ hx4)
  clear hF hf hc
  rintro x st4 a w KB4 ⟨hf, hc⟩ hF hfin4 hK4
  unfold slices_IndexFunc_Lapi_Span_api_Span_b4 at hF
  refine wp_seq_k fun K6 h6 => ?_
  refine cReg ?_
  refine stP hf rfl rfl rfl (pLt rfl rfl) fun a hf => ?_
  refine cNil ?_
  refine h6 _ _ ?_
  refine wp_seq_k fun K7 h7 => ?_
  refine cCond (b := (decide (x < ((s_.length : Nat) : Int)))) hf rfl (fun hb => ?_) (fun hb => ?_)
  · replace hF := condT hb hF
    clear hb
    refine wp_skip ?_
    refine h7 _ _ ?_
    refine wp_seq_k fun K8 h8 => ?_
    refine wp_block ?_
    refine wp_seq_k fun K9 h9 => ?_
    refine cReg ?_
    refine stP hf rfl rfl rfl (pM rfl) fun a hf => ?_
    refine stP hf rfl rfl rfl (pA rfl) fun a hf => ?_
    refine cNil ?_
    refine h9 _ _ ?_
    refine wp_seq_k fun K10 h10 => ?_
    refine cReg ?_
    refine stP hf rfl rfl rfl (pM rfl) fun a hf => ?_
    refine stP hf rfl rfl rfl (pM rfl) fun a hf => ?_
    refine stP hf rfl rfl rfl (pM rfl) fun a hf => ?_
    obtain ⟨e_1, he_1, hF⟩ := bnd_some hF
    obtain ⟨b_1, o, qa, qp⟩ := h_s_.atm he_1
    refine stP hf rfl rfl rfl (pIA Try.underlying72 sz_24 rfl rfl qa) fun a hf => ?_
    refine stE hf hc rfl rfl rfl (eLdN (vs := [.int .i64 e_1.Lo, .int .i64 e_1.Hi]) ag_24 rfl rfl (cells_pc qp (n := 2) (o' := 0) rfl)) fun a w hf hc => ?_
    refine stE hf hc rfl rfl rfl (eC (v := .bool (gauge_every_api_Span_1 e_1)) (vs := [.agg #[.int .i64 e_1.Lo, .int .i64 e_1.Hi]]) (caps := [.pointer (some ⟨b_, 0, none⟩)]) en_94 rfl rfl rfl rfl (fun w hc => (gauge_every_api_Span_1_ok e_1 (hc.pick k0) rfl).mono fun e w h => ⟨h.1, (h.2.unpick k0)⟩)) fun a w hf hc => ?_
    refine cNil ?_
    refine h10 _ _ ?_
    refine cCond (b := (gauge_every_api_Span_1 e_1)) hf rfl (fun hb => ?_) (fun hb => ?_)
    · replace hF := condT hb hF
      clear hb
      refine wp_seq_k fun K11 h11 => ?_
      refine cReg ?_
      refine stP hf rfl rfl rfl (pM rfl) fun a hf => ?_
      refine stP hf rfl rfl rfl (pA rfl) fun a hf => ?_
      refine cNil ?_
      refine h11 _ _ ?_
      refine wp_ret ?_
      refine xBlkR ?_
      refine xThenR ?_
      refine xThenR ?_
      have he := Option.some.inj hF
      rw [← he] at hfin4
      replace hF := ho4 _ hfin4
      refine xBlkR ?_
      refine xThenR ?_
      obtain rfl := hF
      exact fnOut1 (by simp) rfl Try.results111 hf hc (show look _ 4 = _ from rfl) ⟨rfl, hc⟩
    · replace hF := condF hb hF
      clear hb
      refine wp_skip ?_
      refine h8 _ _ ?_
      refine cReg ?_
      refine stP hf rfl rfl rfl (pAdd rfl rfl) fun a hf => ?_
      refine stP hf rfl rfl rfl (pM rfl) fun a hf => ?_
      refine cNil ?_
      exact hK4 (W (x + 1)) _ _ (Option.some.inj hF).symm ⟨hf.keep ⟨rfl, rfl, rfl, rfl, trivial⟩, hc⟩
  · replace hF := condF hb hF
    clear hb
    refine wp_exit ?_
    refine xThen ?_
    refine xThen ?_
    have he := Option.some.inj hF
    rw [← he] at hfin4
    refine cHit ?_
    exact hr4 _ _ _ hfin4 ⟨hf.keep ⟨rfl, rfl, rfl, rfl, trivial⟩, hc⟩

def slices_ContainsFunc_Lapi_Span_api_Span (N : Nat) (s_ : List api_Span) : Option (Bool) :=
  Option.bind (slices_IndexFunc_Lapi_Span_api_Span N s_) fun r =>
  some (decide (0 ≤ r))
theorem slices_ContainsFunc_Lapi_Span_api_Span_ok {N : Nat} {G : Pers} {Lf : List Ent} {w : World} (s_ : List api_Span) {s__p : Option Addr} {s__c : Nat} {b_ : Nat} (h_s_ : Rd G 2 s__p s__c (s_.map enc_api_Span)) (hc : Ctx G (.box b_ [.func (.func 51) #[] #[]] 107 :: Lf) w) {res : Bool} (hF : slices_ContainsFunc_Lapi_Span_api_Span N s_ = some res) : Calls Try.prog 93 #[.slice s__p s_.length s__c, .func (.func 94) #[] #[.pointer (some ⟨b_, 0, none⟩)]] w (fun e w => e = .returned (.bool res) ∧ Ctx G (.box b_ [.func (.func 51) #[] #[]] 107 :: Lf) w) := by
  unfold slices_ContainsFunc_Lapi_Span_api_Span at hF
  refine fnIn (args := [.slice s__p s_.length s__c, .func (.func 94) #[] #[.pointer (some ⟨b_, 0, none⟩)]]) Try.func93 rfl Try.ntmps93 rfl fun a hf => ?_
  refine wp_seq_k fun K1 h1 => ?_
  refine cReg ?_
  refine stP hf rfl rfl rfl (pA rfl) fun a hf => ?_
  refine cNil ?_
  refine h1 _ _ ?_
  refine wp_seq_k fun K2 h2 => ?_
  refine cReg ?_
  refine stP hf rfl rfl rfl (pM rfl) fun a hf => ?_
  refine stP hf rfl rfl rfl (pM rfl) fun a hf => ?_
  obtain ⟨r, hr, hF⟩ := bnd_some hF
  refine stE hf hc rfl rfl rfl (eC (v := .int .i64 r) (vs := [.slice s__p s_.length s__c, .func (.func 94) #[] #[.pointer (some ⟨b_, 0, none⟩)]]) (caps := []) en_111 rfl rfl rfl rfl (fun w hc => (slices_IndexFunc_Lapi_Span_api_Span_ok s_ h_s_ (hc.pick k0) hr).mono fun e w h => ⟨h.1, (h.2.unpick k0)⟩)) fun a w hf hc => ?_
  refine stP hf rfl rfl rfl (pGe rfl rfl) fun a hf => ?_
  refine stP hf rfl rfl rfl (pA rfl) fun a hf => ?_
  refine cNil ?_
  refine h2 _ _ ?_
  refine wp_ret ?_
  obtain rfl := Option.some.inj hF
  exact fnOut1 (by simp) rfl Try.results93 hf hc (show look _ 4 = _ from rfl) ⟨rfl, hc⟩

def gauge_every_api_Span (N : Nat) (l : List api_Span) : Option (Bool) :=
  Option.bind (slices_ContainsFunc_Lapi_Span_api_Span N l) fun r =>
  some (!r)
theorem gauge_every_api_Span_ok {N : Nat} {G : Pers} {Lf : List Ent} {w : World} (l : List api_Span) {l_p : Option Addr} {l_c : Nat} (h_l : Rd G 2 l_p l_c (l.map enc_api_Span)) (hc : Ctx G (Lf) w) {res : Bool} (hF : gauge_every_api_Span N l = some res) : Calls Try.prog 50 #[.slice l_p l.length l_c, .func (.func 51) #[] #[]] w (fun e w => e = .returned (.bool res) ∧ Ctx G (Lf) w) := by
  unfold gauge_every_api_Span at hF
  refine fnIn (args := [.slice l_p l.length l_c, .func (.func 51) #[] #[]]) Try.func50 rfl Try.ntmps50 rfl fun a hf => ?_
  refine wp_seq_k fun K1 h1 => ?_
  refine cReg ?_
  refine stBx (cs := [.func (.func 51) #[] #[]]) hf hc rfl rfl rfl rfl fun b_1 a w hf hc => ?_
  refine stP hf rfl rfl rfl (pA rfl) fun a hf => ?_
  refine cNil ?_
  refine h1 _ _ ?_
  refine wp_seq_k fun K2 h2 => ?_
  refine cReg ?_
  refine stP hf rfl rfl rfl (pM rfl) fun a hf => ?_
  refine stP hf rfl rfl rfl (pMF (us := [.pointer (some ⟨b_1, 0, none⟩)]) rfl rfl) fun a hf => ?_
  obtain ⟨r, hr, hF⟩ := bnd_some hF
  refine stE hf hc rfl rfl rfl (eC (v := .bool r) (vs := [.slice l_p l.length l_c, .func (.func 94) #[] #[.pointer (some ⟨b_1, 0, none⟩)]]) (caps := []) en_93 rfl rfl rfl rfl (fun w hc => (slices_ContainsFunc_Lapi_Span_api_Span_ok l h_l (hc.pick k0) hr).mono fun e w h => ⟨h.1, (h.2.unpick k0)⟩)) fun a w hf hc => ?_
  refine stP hf rfl rfl rfl (pNot rfl) fun a hf => ?_
  refine stP hf rfl rfl rfl (pA rfl) fun a hf => ?_
  refine cNil ?_
  refine h2 _ _ ?_
  refine wp_ret ?_
  obtain rfl := Option.some.inj hF
  replace hc := hc.drop k0
  exact fnOut1 (by simp) rfl Try.results50 hf hc (show look _ 4 = _ from rfl) ⟨rfl, hc⟩

end Go.Nilo
