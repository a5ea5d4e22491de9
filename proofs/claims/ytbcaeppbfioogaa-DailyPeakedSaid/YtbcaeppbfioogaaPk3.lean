/-
  What functions of the Go text compute, as plain functions, and that they do, part 3 of 3. Conditions: what each theorem names.
-/
import Derived.Test.YtbcaeppbfioogaaPk2
import Derived.Test.YtbcaeppbfioogaaProg
set_option linter.unusedVariables false
set_option linter.unusedSimpArgs false
set_option maxRecDepth 100000
set_option maxHeartbeats 4000000
namespace Go.Nilo
open Go.Proofs


def daily_Fall_wrong_j3 (N : Nat) (e_1 : Int) : Option (Int) :=
  some e_1
def daily_Fall_wrong_j5 (N : Nat)  : Option (Int) :=
  daily_Fall_wrong_j3 N 4
def daily_Fall_wrong_j7 (N : Nat)  : Option (Int) :=
  daily_Fall_wrong_j3 N 9
def daily_Fall_wrong_j9 (N : Nat)  : Option (Int) :=
  daily_Fall_wrong_j3 N 2
def daily_Fall_wrong (N : Nat) (f_ : daily_Fall) (readings : Int) : Option (Int) :=
  cond (!(daily_in f_.A 0 (W (readings - 1))))
  (daily_Fall_wrong_j9 N)
  (cond (!(daily_in f_.B 0 (W (readings - 1))))
  (daily_Fall_wrong_j9 N)
  (cond (decide (f_.B ≤ f_.A))
  (daily_Fall_wrong_j7 N)
  (cond (!(daily_in f_.Weight 1 100))
  (daily_Fall_wrong_j5 N)
  (daily_Fall_wrong_j3 N 0))))
theorem daily_Fall_wrong_ok {N : Nat} {G : Pers} {Lf : List Ent} {w : World} (f_ : daily_Fall) (readings : Int)   (hc : Ctx G (Lf) w) {res : Int} (hF : daily_Fall_wrong N f_ readings = some res) : Calls Try.prog 92 #[.agg #[.int .i64 f_.A, .int .i64 f_.B, .int .i64 f_.Weight], .int .i64 readings] w (fun e w => e = .returned (.int .i64 res) ∧ Ctx G (Lf) w) := by
  unfold daily_Fall_wrong at hF
  refine fnIn (args := [.agg #[.int .i64 f_.A, .int .i64 f_.B, .int .i64 f_.Weight], .int .i64 readings]) Try.func92 rfl Try.ntmps92 rfl fun a hf => ?_
  refine wp_seq_k fun K1 h1 => ?_
  refine cReg ?_
  refine stBx (cs := [.int .i64 f_.A, .int .i64 f_.B, .int .i64 f_.Weight]) hf hc rfl rfl rfl rfl fun b_1 a w hf hc => ?_
  refine stP hf rfl rfl rfl (pA rfl) fun a hf => ?_
  refine cNil ?_
  refine h1 _ _ ?_
  refine wp_seq_k fun K2 h2 => ?_
  refine cReg ?_
  refine stP hf rfl rfl rfl (pA rfl) fun a hf => ?_
  refine cNil ?_
  refine h2 _ _ ?_
  refine wp_seq_k fun K3 h3 => ?_
  have hj3 : ∀ (e_1 : Int) a w, Has 32 a [(5, .int .i64 e_1)] → Ctx G (Lf) w → daily_Fall_wrong_j3 N e_1 = some res → K3 a w := by
    repeat (clear hF)
    repeat (clear hc)
    repeat (clear hf)
    intro e_1 a w hf hc hF
    unfold daily_Fall_wrong_j3 at hF
    refine h3 _ _ ?_
    refine wp_seq_k fun K4 h4 => ?_
    refine cReg ?_
    refine stP hf rfl rfl rfl (pM rfl) fun a hf => ?_
    refine stP hf rfl rfl rfl (pA rfl) fun a hf => ?_
    refine cNil ?_
    refine h4 _ _ ?_
    refine wp_ret ?_
    obtain rfl := Option.some.inj hF
    exact fnOut1 (by simp) rfl Try.results92 hf hc (show look _ 4 = _ from rfl) ⟨rfl, hc⟩
  refine wp_block ?_
  refine wp_seq_k fun K5 h5 => ?_
  have hj5 : ∀ a w, Has 32 a [] → Ctx G (Lf) w → daily_Fall_wrong_j5 N = some res → K5 a w := by
    repeat (clear hF)
    repeat (clear hc)
    repeat (clear hf)
    intro a w hf hc hF
    unfold daily_Fall_wrong_j5 at hF
    refine h5 _ _ ?_
    refine wp_seq_k fun K6 h6 => ?_
    refine cReg ?_
    refine stP hf rfl rfl rfl (pA rfl) fun a hf => ?_
    refine cNil ?_
    refine h6 _ _ ?_
    refine wp_exit ?_
    refine cHit ?_
    exact hj3 4 _ _  (hf.keep ⟨rfl, trivial⟩) hc hF
  refine wp_block ?_
  refine wp_seq_k fun K7 h7 => ?_
  have hj7 : ∀ a w, Has 32 a [] → Ctx G (Lf) w → daily_Fall_wrong_j7 N = some res → K7 a w := by
    repeat (clear hF)
    repeat (clear hc)
    repeat (clear hf)
    intro a w hf hc hF
    unfold daily_Fall_wrong_j7 at hF
    refine h7 _ _ ?_
    refine wp_seq_k fun K8 h8 => ?_
    refine cReg ?_
    refine stP hf rfl rfl rfl (pA rfl) fun a hf => ?_
    refine cNil ?_
    refine h8 _ _ ?_
    refine wp_exit ?_
    refine cMiss rfl ?_
    refine xThen ?_
    refine cHit ?_
    exact hj3 9 _ _  (hf.keep ⟨rfl, trivial⟩) hc hF
  refine wp_block ?_
  refine wp_seq_k fun K9 h9 => ?_
  have hj9 : ∀ a w, Has 32 a [] → Ctx G (Lf) w → daily_Fall_wrong_j9 N = some res → K9 a w := by
    repeat (clear hF)
    repeat (clear hc)
    repeat (clear hf)
    intro a w hf hc hF
    unfold daily_Fall_wrong_j9 at hF
    refine h9 _ _ ?_
    refine wp_seq_k fun K10 h10 => ?_
    refine cReg ?_
    refine stP hf rfl rfl rfl (pA rfl) fun a hf => ?_
    refine cNil ?_
    refine h10 _ _ ?_
    refine wp_exit ?_
    refine cMiss rfl ?_
    refine xThen ?_
    refine cMiss rfl ?_
    refine xThen ?_
    refine cHit ?_
    exact hj3 2 _ _  (hf.keep ⟨rfl, trivial⟩) hc hF
  refine wp_block ?_
  refine wp_thenK fun K11 h11 => ?_
  refine wp_block ?_
  refine wp_seq_k fun K12 h12 => ?_
  refine wp_seq_k fun K13 h13 => ?_
  refine wp_seq_k fun K14 h14 => ?_
  refine cReg ?_
  refine stP hf rfl rfl rfl (pFA fa_111_0 rfl) fun a hf => ?_
  refine stE hf hc rfl rfl rfl (eLd1 sc_3 rfl (cell_box m0 rfl)) fun a w hf hc => ?_
  refine stP hf rfl rfl rfl (pM rfl) fun a hf => ?_
  refine stP hf rfl rfl rfl (pSub rfl rfl) fun a hf => ?_
  refine stE hf hc rfl rfl rfl (eC (v := .bool (daily_in f_.A 0 (W (readings - 1)))) (vs := [.int .i64 f_.A, .int .i64 0, .int .i64 (W (readings - 1))]) (caps := []) en_60 rfl rfl rfl rfl (fun w hc => daily_in_ok f_.A 0 (W (readings - 1)) hc rfl)) fun a w hf hc => ?_
  refine stP hf rfl rfl rfl (pNot rfl) fun a hf => ?_
  refine stP hf rfl rfl rfl (pA rfl) fun a hf => ?_
  refine cNil ?_
  refine h14 _ _ ?_
  refine cCond (b := (!(daily_in f_.A 0 (W (readings - 1))))) hf rfl (fun hb => ?_) (fun hb => ?_)
  · replace hF := condT hb hF
    clear hb
    refine wp_exit ?_
    refine xThen ?_
    refine xThen ?_
    refine cHit ?_
    refine h11 _ _ ?_
    replace hc := hc.drop k0
    exact hj9  _ _  (hf.keep trivial) hc hF
  · replace hF := condF hb hF
    clear hb
    refine wp_skip ?_
    refine h13 _ _ ?_
    refine wp_seq_k fun K15 h15 => ?_
    refine wp_seq_k fun K16 h16 => ?_
    refine cReg ?_
    refine stP hf rfl rfl rfl (pFA fa_111_1 rfl) fun a hf => ?_
    refine stE hf hc rfl rfl rfl (eLd1 sc_3 rfl (cell_box m0 rfl)) fun a w hf hc => ?_
    refine stP hf rfl rfl rfl (pM rfl) fun a hf => ?_
    refine stP hf rfl rfl rfl (pSub rfl rfl) fun a hf => ?_
    refine stE hf hc rfl rfl rfl (eC (v := .bool (daily_in f_.B 0 (W (readings - 1)))) (vs := [.int .i64 f_.B, .int .i64 0, .int .i64 (W (readings - 1))]) (caps := []) en_60 rfl rfl rfl rfl (fun w hc => daily_in_ok f_.B 0 (W (readings - 1)) hc rfl)) fun a w hf hc => ?_
    refine stP hf rfl rfl rfl (pNot rfl) fun a hf => ?_
    refine stP hf rfl rfl rfl (pA rfl) fun a hf => ?_
    refine cNil ?_
    refine h16 _ _ ?_
    refine cCond (b := (!(daily_in f_.B 0 (W (readings - 1))))) hf rfl (fun hb => ?_) (fun hb => ?_)
    · replace hF := condT hb hF
      clear hb
      refine wp_exit ?_
      refine xThen ?_
      refine xThen ?_
      refine cMiss rfl ?_
      refine xThen ?_
      refine cHit ?_
      replace hc := hc.drop k0
      exact hj9  _ _  (hf.keep trivial) hc hF
    · replace hF := condF hb hF
      clear hb
      refine wp_skip ?_
      refine h15 _ _ ?_
      refine wp_seq_k fun K17 h17 => ?_
      refine wp_seq_k fun K18 h18 => ?_
      refine cReg ?_
      refine stP hf rfl rfl rfl (pFA fa_111_0 rfl) fun a hf => ?_
      refine stE hf hc rfl rfl rfl (eLd1 sc_3 rfl (cell_box m0 rfl)) fun a w hf hc => ?_
      refine stP hf rfl rfl rfl (pFA fa_111_1 rfl) fun a hf => ?_
      refine stE hf hc rfl rfl rfl (eLd1 sc_3 rfl (cell_box m0 rfl)) fun a w hf hc => ?_
      refine stP hf rfl rfl rfl (pGe rfl rfl) fun a hf => ?_
      refine stP hf rfl rfl rfl (pA rfl) fun a hf => ?_
      refine cNil ?_
      refine h18 _ _ ?_
      refine cCond (b := (decide (f_.B ≤ f_.A))) hf rfl (fun hb => ?_) (fun hb => ?_)
      · replace hF := condT hb hF
        clear hb
        refine wp_exit ?_
        refine xThen ?_
        refine xThen ?_
        refine cMiss rfl ?_
        refine xThen ?_
        refine cMiss rfl ?_
        refine xThen ?_
        refine cHit ?_
        replace hc := hc.drop k0
        exact hj7  _ _  (hf.keep trivial) hc hF
      · replace hF := condF hb hF
        clear hb
        refine wp_skip ?_
        refine h17 _ _ ?_
        refine wp_seq_k fun K19 h19 => ?_
        refine cReg ?_
        refine stP hf rfl rfl rfl (pFA fa_111_2 rfl) fun a hf => ?_
        refine stE hf hc rfl rfl rfl (eLd1 sc_3 rfl (cell_box m0 rfl)) fun a w hf hc => ?_
        refine stE hf hc rfl rfl rfl (eC (v := .bool (daily_in f_.Weight 1 100)) (vs := [.int .i64 f_.Weight, .int .i64 1, .int .i64 100]) (caps := []) en_60 rfl rfl rfl rfl (fun w hc => daily_in_ok f_.Weight 1 100 hc rfl)) fun a w hf hc => ?_
        refine stP hf rfl rfl rfl (pNot rfl) fun a hf => ?_
        refine stP hf rfl rfl rfl (pA rfl) fun a hf => ?_
        refine cNil ?_
        refine h19 _ _ ?_
        refine cCond (b := (!(daily_in f_.Weight 1 100))) hf rfl (fun hb => ?_) (fun hb => ?_)
        · replace hF := condT hb hF
          clear hb
          refine wp_exit ?_
          refine xThen ?_
          refine cMiss rfl ?_
          refine xThen ?_
          refine cMiss rfl ?_
          refine xThen ?_
          refine cMiss rfl ?_
          refine xThen ?_
          refine cHit ?_
          replace hc := hc.drop k0
          exact hj5  _ _  (hf.keep trivial) hc hF
        · replace hF := condF hb hF
          clear hb
          refine wp_skip ?_
          refine h12 _ _ ?_
          refine wp_exit ?_
          refine cMiss rfl ?_
          refine xThen ?_
          refine cMiss rfl ?_
          refine xThen ?_
          refine cMiss rfl ?_
          refine xThen ?_
          refine cMiss rfl ?_
          refine xThen ?_
          refine cHit ?_
          replace hc := hc.drop k0
          exact hj3 0 _ _  (hf.keep ⟨rfl, trivial⟩) hc hF

def daily_Proves_b14 (N : Nat) (l : List daily_Reading) (x_1 : Nat → Int) (x_2 : Int) : Option (Step (Int) (Int × Int)) :=
  cond (decide (x_2 < ((l.length : Nat) : Int)))
  (Option.bind (getI l x_2) fun e_2 =>
  Option.bind (inR x_2 30) fun un =>
  cond (decide (e_2.Weight < (x_1 x_2.toNat)))
  (some (.ret (0, 11)))
  (some (.cont (W (x_2 + 1)))))
  (some (.brk x_2))
def daily_Proves_b11 (N : Nat) (l : List daily_Reading) (falls : List daily_Fall) (out : Int) (x : Int) (x_1 : Nat → Int) : Option (Step (Int × Int × (Nat → Int)) (Int × Int)) :=
  cond (decide (x < ((falls.length : Nat) : Int)))
  (Option.bind (getI falls x) fun e_3 =>
  Option.bind (daily_Fall_wrong N e_3 ((l.length : Nat) : Int)) fun r_1 =>
  cond (r_1 != 0)
  (some (.ret (0, r_1)))
  (Option.bind (inR e_3.A 30) fun un_1 =>
  Option.bind (inR e_3.A 30) fun un_2 =>
  Option.bind (inR e_3.B 30) fun un_3 =>
  Option.bind (inR e_3.B 30) fun un_4 =>
  Option.bind (getI l e_3.A) fun e_4 =>
  Option.bind (getI l e_3.B) fun e_5 =>
  some (.cont (W (out + (W (e_3.Weight * (W (e_4.Value - e_5.Value))))), W (x + 1), (setF (setF x_1 e_3.A.toNat (W ((x_1 e_3.A.toNat) + e_3.Weight))) e_3.B.toNat (W (((setF x_1 e_3.A.toNat (W ((x_1 e_3.A.toNat) + e_3.Weight))) e_3.B.toNat) + e_3.Weight)))))))
  (some (.brk (out, x, x_1)))
def daily_Proves_j3 (N : Nat) (l : List daily_Reading) (falls : List daily_Fall) (e_1 : Int) : Option (Int × Int) :=
  cond (e_1 != 0)
  (some (0, e_1))
  (Option.bind (loopO (fun s11 => daily_Proves_b11 N l falls s11.1 s11.2.1 s11.2.2) N (0, 0, (fun _ => 0))) fun x11 =>
  exK x11 (fun s11 => Option.bind (loopO (fun s14 => daily_Proves_b14 N l s11.2.2 s14) N 0) fun x14 =>
  exK x14 (fun s14 => some (s11.1, 0)) some) some)
def daily_Proves (N : Nat) (l : List daily_Reading) (falls : List daily_Fall) : Option (Int × Int) :=
  Option.bind (daily_CheckReadings N l) fun r =>
  cond ((r == 0) && (decide (900 < ((falls.length : Nat) : Int))))
  (daily_Proves_j3 N l falls 3)
  (daily_Proves_j3 N l falls r)
theorem daily_Proves_ok {N : Nat} {G : Pers} {Lf : List Ent} {w : World} (l : List daily_Reading) (falls : List daily_Fall) {l_p : Option Addr} {l_c : Nat} {falls_p : Option Addr} {falls_c : Nat} (h_l : Rd G 2 l_p l_c (l.map enc_daily_Reading)) (h_falls : Rd G 3 falls_p falls_c (falls.map enc_daily_Fall)) (hc : Ctx G (Lf) w) {res : Int × Int} (hF : daily_Proves N l falls = some res) : Calls Try.prog 54 #[.slice l_p l.length l_c, .slice falls_p falls.length falls_c] w (fun e w => e = .returned (.tuple #[.int .i64 res.1, .int .i64 res.2]) ∧ Ctx G (Lf) w) := by
  unfold daily_Proves at hF
  refine fnIn (args := [.slice l_p l.length l_c, .slice falls_p falls.length falls_c]) Try.func54 rfl Try.ntmps54 rfl fun a hf => ?_
  refine wp_seq_k fun K1 h1 => ?_
  refine cReg ?_
  refine stP hf rfl rfl rfl (pA rfl) fun a hf => ?_
  refine stP hf rfl rfl rfl (pA rfl) fun a hf => ?_
  refine cNil ?_
  refine h1 _ _ ?_
  refine wp_seq_k fun K2 h2 => ?_
  refine cReg ?_
  refine stP hf rfl rfl rfl (pM rfl) fun a hf => ?_
  obtain ⟨r, hr, hF⟩ := bnd_some hF
  refine stE hf hc rfl rfl rfl (eC (v := .int .i64 r) (vs := [.slice l_p l.length l_c]) (caps := []) en_87 rfl rfl rfl rfl (fun w hc => daily_CheckReadings_ok l h_l hc hr)) fun a w hf hc => ?_
  refine stP hf rfl rfl rfl (pA rfl) fun a hf => ?_
  refine cNil ?_
  refine h2 _ _ ?_
  refine wp_seq_k fun K3 h3 => ?_
  have hj3 : ∀ (e_1 : Int) a w, Has 89 a [(0, .slice l_p l.length l_c), (1, .slice falls_p falls.length falls_c), (6, .int .i64 e_1)] → Ctx G (Lf) w → daily_Proves_j3 N l falls e_1 = some res → K3 a w := by
    repeat (clear hF)
    repeat (clear hc)
    repeat (clear hf)
    intro e_1 a w hf hc hF
    unfold daily_Proves_j3 at hF
    refine h3 _ _ ?_
    refine wp_seq_k fun K4 h4 => ?_
    refine wp_seq_k fun K5 h5 => ?_
    refine cReg ?_
    refine stP hf rfl rfl rfl (pM rfl) fun a hf => ?_
    refine stP hf rfl rfl rfl (pNe rfl rfl) fun a hf => ?_
    refine cNil ?_
    refine h5 _ _ ?_
    refine cCond (b := (e_1 != 0)) hf rfl (fun hb => ?_) (fun hb => ?_)
    · replace hF := condT hb hF
      clear hb
      refine wp_seq_k fun K6 h6 => ?_
      refine cReg ?_
      refine stP hf rfl rfl rfl (pM rfl) fun a hf => ?_
      refine stP hf rfl rfl rfl (pA rfl) fun a hf => ?_
      refine stP hf rfl rfl rfl (pA rfl) fun a hf => ?_
      refine cNil ?_
      refine h6 _ _ ?_
      refine wp_ret ?_
      refine xThenR ?_
      obtain rfl := Option.some.inj hF
      exact fnOut2 (by simp) rfl Try.results54 hf hc (show look _ 4 = _ from rfl) (show look _ 5 = _ from rfl) ⟨rfl, hc⟩
    · replace hF := condF hb hF
      clear hb
      refine wp_skip ?_
      refine h4 _ _ ?_
      refine wp_seq_k fun K7 h7 => ?_
      refine cReg ?_
      refine stP hf rfl rfl rfl (pA rfl) fun a hf => ?_
      refine cNil ?_
      refine h7 _ _ ?_
      refine wp_seq_k fun K8 h8 => ?_
      refine cReg ?_
      refine stAl (cs := (catc [] 30 encI_i64 (fun _ => 0) [])) hf hc rfl rfl zr_157 rfl fun b_1 a w hf hc => ?_
      refine cNil ?_
      refine h8 _ _ ?_
      refine wp_seq_k fun K9 h9 => ?_
      refine wp_seq_k fun K10 h10 => ?_
      refine cReg ?_
      refine stP hf rfl rfl rfl (pM rfl) fun a hf => ?_
      refine stP hf rfl rfl rfl (pLenS Try.underlying103 rfl) fun a hf => ?_
      refine stP hf rfl rfl rfl (pM rfl) fun a hf => ?_
      refine cNil ?_
      refine h10 _ _ ?_
      refine wp_block ?_
      obtain ⟨x11, hx11, hF⟩ := bnd_some hF
      let S11 : (Int × Int × (Nat → Int)) → Act → World → Prop := (fun (zz : Int × Int × (Nat → Int)) a w => Has 89 a [(0, .slice l_p l.length l_c), (7, .int .i64 zz.1), (8, .pointer (some ⟨b_1, 0, none⟩)), (26, .slice falls_p falls.length falls_c), (27, .int .i64 ((falls.length : Nat) : Int)), (28, .int .i64 zz.2.1)] ∧ Ctx G (.box b_1 (catc [] 30 encI_i64 zz.2.2 []) 157 :: Lf) w)
      have hr11 : ∀ (zz : Int × Int × (Nat → Int)) a w, x11 = .go zz → S11 zz a w → K9 a w := by
        rintro ⟨out, x, x_1⟩ a w rfl ⟨hf, hc⟩
        replace hF := exK_go hF
        refine h9 _ _ ?_
        refine wp_seq_k fun K12 h12 => ?_
        refine wp_seq_k fun K13 h13 => ?_
        refine cReg ?_
        refine stP hf rfl rfl rfl (pM rfl) fun a hf => ?_
        refine stP hf rfl rfl rfl (pLenS Try.underlying96 rfl) fun a hf => ?_
        refine stP hf rfl rfl rfl (pM rfl) fun a hf => ?_
        refine cNil ?_
        refine h13 _ _ ?_
        refine wp_block ?_
        obtain ⟨x14, hx14, hF⟩ := bnd_some hF
        let S14 : Int → Act → World → Prop := (fun (zz : Int) a w => Has 89 a [(7, .int .i64 out), (8, .pointer (some ⟨b_1, 0, none⟩)), (74, .slice l_p l.length l_c), (75, .int .i64 ((l.length : Nat) : Int)), (76, .int .i64 zz)] ∧ Ctx G (.box b_1 (catc [] 30 encI_i64 x_1 []) 157 :: Lf) w)
        have hr14 : ∀ (zz : Int) a w, x14 = .go zz → S14 zz a w → K12 a w := by
          rintro x_2 a w rfl ⟨hf, hc⟩
          replace hF := exK_go hF
          refine h12 _ _ ?_
          refine wp_seq_k fun K15 h15 => ?_
          refine cReg ?_
          refine stP hf rfl rfl rfl (pM rfl) fun a hf => ?_
          refine stP hf rfl rfl rfl (pA rfl) fun a hf => ?_
          refine stP hf rfl rfl rfl (pA rfl) fun a hf => ?_
          refine cNil ?_
          refine h15 _ _ ?_
          refine wp_ret ?_
          obtain rfl := Option.some.inj hF
          replace hc := hc.drop k0
          exact fnOut2 (by simp) rfl Try.results54 hf hc (show look _ 4 = _ from rfl) (show look _ 5 = _ from rfl) ⟨rfl, hc⟩
        have ho14 : ∀ r, x14 = .out r → r = res := by
          rintro r rfl
          exact Option.some.inj hF
        refine cLoop N (loopW (S := S14) (x := x14) ?_ N 0 _ _ ⟨hf.keep ⟨rfl, rfl, rfl, rfl, rfl, trivial⟩, hc⟩ hx14)
        clear hF hf hc
        rintro x_2 st14 a w KB14 ⟨hf, hc⟩ hF hfin14 hK14
        unfold daily_Proves_b14 at hF
        refine wp_seq_k fun K16 h16 => ?_
        refine cReg ?_
        refine stP hf rfl rfl rfl (pLt rfl rfl) fun a hf => ?_
        refine cNil ?_
        refine h16 _ _ ?_
        refine wp_seq_k fun K17 h17 => ?_
        refine cCond (b := (decide (x_2 < ((l.length : Nat) : Int)))) hf rfl (fun hb => ?_) (fun hb => ?_)
        · replace hF := condT hb hF
          clear hb
          refine wp_skip ?_
          refine h17 _ _ ?_
          refine wp_seq_k fun K18 h18 => ?_
          refine wp_block ?_
          refine wp_seq_k fun K19 h19 => ?_
          refine cReg ?_
          refine stP hf rfl rfl rfl (pM rfl) fun a hf => ?_
          obtain ⟨e_2, he_2, hF⟩ := bnd_some hF
          obtain ⟨b_2, o, qa, qp⟩ := h_l.atm he_2
          refine stP hf rfl rfl rfl (pIA Try.underlying96 sz_102 rfl rfl qa) fun a hf => ?_
          refine stE hf hc rfl rfl rfl (eLdN (vs := [.int .i64 e_2.Value, .int .i64 e_2.Weight]) ag_102 rfl rfl (cells_pc qp (n := 2) (o' := 0) rfl)) fun a w hf hc => ?_
          refine stAl (cs := [.int .i64 0, .int .i64 0]) hf hc rfl rfl zr_102 rfl fun b_3 a w hf hc => ?_
          refine stP hf rfl rfl rfl (pA rfl) fun a hf => ?_
          refine stSt (vs := [.int .i64 e_2.Value, .int .i64 e_2.Weight]) hf hc rfl rfl rfl rfl sz_102 rfl rfl u0 fun w hc => ?_
          refine cNil ?_
          refine h19 _ _ ?_
          refine wp_seq_k fun K20 h20 => ?_
          obtain ⟨un, hun, hF⟩ := bnd_some hF
          refine cQ hc follows_mx (by kernel_rfl) ?_
          refine qE hf rfl rfl rfl (Pu.ev (pM rfl)) fun a hf => ?_
          refine qE hf rfl rfl rfl (Pu.ev (pIAA Try.underlying157 sz_3 rfl rfl (inR_spec hun).1 (inR_spec hun).2)) fun a hf => ?_
          refine qE hf rfl rfl rfl (eLd1 sc_3 rfl (cell_arr (j := 0) m1 (fun x => (one_encI_i64 x).1) rfl hun rfl)) fun a hf => ?_
          refine qE hf rfl rfl rfl (Pu.ev (pFA fa_102_1 rfl)) fun a hf => ?_
          refine qE hf rfl rfl rfl (eLd1 sc_3 rfl (cell_box m0 rfl)) fun a hf => ?_
          refine qE hf rfl rfl rfl (Pu.ev (pGt rfl rfl)) fun a hf => ?_
          intro w hc
          refine h20 _ _ ?_
          refine cCond (b := (decide (e_2.Weight < (x_1 x_2.toNat)))) hf rfl (fun hb => ?_) (fun hb => ?_)
          · replace hF := condT hb hF
            clear hb
            refine wp_seq_k fun K21 h21 => ?_
            refine cReg ?_
            refine stP hf rfl rfl rfl (pA rfl) fun a hf => ?_
            refine stP hf rfl rfl rfl (pA rfl) fun a hf => ?_
            refine cNil ?_
            refine h21 _ _ ?_
            refine wp_ret ?_
            refine xBlkR ?_
            refine xThenR ?_
            refine xThenR ?_
            have he := Option.some.inj hF
            rw [← he] at hfin14
            replace hF := ho14 _ hfin14
            refine xBlkR ?_
            refine xThenR ?_
            obtain rfl := hF
            replace hc := hc.drop k1
            replace hc := hc.drop k0
            exact fnOut2 (by simp) rfl Try.results54 hf hc (show look _ 4 = _ from rfl) (show look _ 5 = _ from rfl) ⟨rfl, hc⟩
          · replace hF := condF hb hF
            clear hb
            refine wp_skip ?_
            refine h18 _ _ ?_
            refine cReg ?_
            refine stP hf rfl rfl rfl (pAdd rfl rfl) fun a hf => ?_
            refine stP hf rfl rfl rfl (pM rfl) fun a hf => ?_
            refine cNil ?_
            replace hc := hc.drop k0
            exact hK14 (W (x_2 + 1)) _ _ (Option.some.inj hF).symm ⟨hf.keep ⟨rfl, rfl, rfl, rfl, rfl, trivial⟩, hc⟩
        · replace hF := condF hb hF
          clear hb
          refine wp_exit ?_
          refine xThen ?_
          refine xThen ?_
          have he := Option.some.inj hF
          rw [← he] at hfin14
          refine cHit ?_
          exact hr14 _ _ _ hfin14 ⟨hf.keep ⟨rfl, rfl, rfl, rfl, rfl, trivial⟩, hc⟩
      have ho11 : ∀ r, x11 = .out r → r = res := by
        rintro r rfl
        exact Option.some.inj hF
      refine cLoop N (loopW (S := S11) (x := x11) ?_ N (0, 0, (fun _ => 0)) _ _ ⟨hf.keep ⟨rfl, rfl, rfl, rfl, rfl, rfl, trivial⟩, hc⟩ hx11)
      clear hF hf hc
      rintro ⟨out, x, x_1⟩ st11 a w KB11 ⟨hf, hc⟩ hF hfin11 hK11
      unfold daily_Proves_b11 at hF
      refine wp_seq_k fun K22 h22 => ?_
      refine cReg ?_
      refine stP hf rfl rfl rfl (pLt rfl rfl) fun a hf => ?_
      refine cNil ?_
      refine h22 _ _ ?_
      refine wp_seq_k fun K23 h23 => ?_
      refine cCond (b := (decide (x < ((falls.length : Nat) : Int)))) hf rfl (fun hb => ?_) (fun hb => ?_)
      · replace hF := condT hb hF
        clear hb
        refine wp_skip ?_
        refine h23 _ _ ?_
        refine wp_seq_k fun K24 h24 => ?_
        refine wp_block ?_
        refine wp_seq_k fun K25 h25 => ?_
        refine cReg ?_
        obtain ⟨e_3, he_3, hF⟩ := bnd_some hF
        obtain ⟨b_4, o_1, qa_1, qp_1⟩ := h_falls.atm he_3
        refine stP hf rfl rfl rfl (pIA Try.underlying103 sz_111 rfl rfl qa_1) fun a hf => ?_
        refine stE hf hc rfl rfl rfl (eLdN (vs := [.int .i64 e_3.A, .int .i64 e_3.B, .int .i64 e_3.Weight]) ag_111 rfl rfl (cells_pc qp_1 (n := 3) (o' := 0) rfl)) fun a w hf hc => ?_
        refine stAl (cs := [.int .i64 0, .int .i64 0, .int .i64 0]) hf hc rfl rfl zr_111 rfl fun b_5 a w hf hc => ?_
        refine stSt (vs := [.int .i64 e_3.A, .int .i64 e_3.B, .int .i64 e_3.Weight]) hf hc rfl rfl rfl rfl sz_111 rfl rfl u0 fun w hc => ?_
        refine cNil ?_
        refine h25 _ _ ?_
        refine wp_seq_k fun K26 h26 => ?_
        refine wp_seq_k fun K27 h27 => ?_
        refine cReg ?_
        refine stE hf hc rfl rfl rfl (eLdN (vs := [.int .i64 e_3.A, .int .i64 e_3.B, .int .i64 e_3.Weight]) ag_111 rfl rfl (cells_box (n := 3) m0 rfl)) fun a w hf hc => ?_
        refine stP hf rfl rfl rfl (pM rfl) fun a hf => ?_
        refine stP hf rfl rfl rfl (pLenS Try.underlying96 rfl) fun a hf => ?_
        obtain ⟨r_1, hr_1, hF⟩ := bnd_some hF
        refine stE hf hc rfl rfl rfl (eC (v := .int .i64 r_1) (vs := [.agg #[.int .i64 e_3.A, .int .i64 e_3.B, .int .i64 e_3.Weight], .int .i64 ((l.length : Nat) : Int)]) (caps := []) en_92 rfl rfl rfl rfl (fun w hc => daily_Fall_wrong_ok e_3 ((l.length : Nat) : Int) hc hr_1)) fun a w hf hc => ?_
        refine stP hf rfl rfl rfl (pA rfl) fun a hf => ?_
        refine cNil ?_
        refine h27 _ _ ?_
        refine wp_seq_k fun K28 h28 => ?_
        refine cReg ?_
        refine stP hf rfl rfl rfl (pM rfl) fun a hf => ?_
        refine stP hf rfl rfl rfl (pNe rfl rfl) fun a hf => ?_
        refine cNil ?_
        refine h28 _ _ ?_
        refine cCond (b := (r_1 != 0)) hf rfl (fun hb => ?_) (fun hb => ?_)
        · replace hF := condT hb hF
          clear hb
          refine wp_seq_k fun K29 h29 => ?_
          refine cReg ?_
          refine stP hf rfl rfl rfl (pM rfl) fun a hf => ?_
          refine stP hf rfl rfl rfl (pA rfl) fun a hf => ?_
          refine stP hf rfl rfl rfl (pA rfl) fun a hf => ?_
          refine cNil ?_
          refine h29 _ _ ?_
          refine wp_ret ?_
          refine xThenR ?_
          refine xBlkR ?_
          refine xThenR ?_
          refine xThenR ?_
          have he := Option.some.inj hF
          rw [← he] at hfin11
          replace hF := ho11 _ hfin11
          refine xBlkR ?_
          refine xThenR ?_
          obtain rfl := hF
          replace hc := hc.drop k1
          replace hc := hc.drop k0
          exact fnOut2 (by simp) rfl Try.results54 hf hc (show look _ 4 = _ from rfl) (show look _ 5 = _ from rfl) ⟨rfl, hc⟩
        · replace hF := condF hb hF
          clear hb
          refine wp_skip ?_
          refine h26 _ _ ?_
          refine wp_seq_k fun K30 h30 => ?_
          obtain ⟨un_1, hun_1, hF⟩ := bnd_some hF
          obtain ⟨un_2, hun_2, hF⟩ := bnd_some hF
          refine regionE (fun θ => [⟨none, none, 0, .slice l_p l.length l_c⟩, ⟨none, none, 7, .int .i64 out⟩, ⟨none, none, 8, .pointer (some ⟨b_1, 0, none⟩)⟩, ⟨none, none, 10, .pointer (some ⟨b_5, 0, none⟩)⟩, ⟨none, none, 26, .slice falls_p falls.length falls_c⟩, ⟨none, none, 27, .int .i64 ((falls.length : Nat) : Int)⟩, ⟨none, none, 28, .int .i64 x⟩, ⟨some 0, none, 39, .pointer (some ⟨b_5, 0, none⟩)⟩, ⟨some 1, none, 40, .int .i64 e_3.A⟩, ⟨some 2, none, 41, .pointer (some ⟨b_1, 0 + e_3.A.toNat * 1, none⟩)⟩, ⟨some 3, none, 42, .int .i64 (x_1 e_3.A.toNat)⟩, ⟨some 4, none, 43, .pointer (some ⟨b_5, 2, none⟩)⟩, ⟨some 5, none, 44, .int .i64 e_3.Weight⟩, ⟨some 6, none, 45, .int .i64 (W ((x_1 e_3.A.toNat) + e_3.Weight))⟩, ⟨some 7, none, 46, .pointer (some ⟨b_1, 0 + e_3.A.toNat * 1, none⟩)⟩]) (fun E θ => .box b_5 [.int .i64 e_3.A, .int .i64 e_3.B, .int .i64 e_3.Weight] 111 :: (bif E 8 then .box b_1 (catc [] 30 encI_i64 (setF x_1 e_3.A.toNat (W ((x_1 e_3.A.toNat) + e_3.Weight))) []) 157 else .box b_1 (catc [] 30 encI_i64 x_1 []) 157) :: Lf) [(8, 3)] (fun a w => Has 89 a [(0, .slice l_p l.length l_c), (7, .int .i64 out), (8, .pointer (some ⟨b_1, 0, none⟩)), (10, .pointer (some ⟨b_5, 0, none⟩)), (26, .slice falls_p falls.length falls_c), (27, .int .i64 ((falls.length : Nat) : Int)), (28, .int .i64 x)] ∧ Ctx G (.box b_5 [.int .i64 e_3.A, .int .i64 e_3.B, .int .i64 e_3.Weight] 111 :: .box b_1 (catc [] 30 encI_i64 (setF x_1 e_3.A.toNat (W ((x_1 e_3.A.toNat) + e_3.Weight))) []) 157 :: Lf) w) follows_mx (by kernel_rfl) (by kernel_rfl) (HasE.of hf ⟨rfl, rfl, rfl, rfl, rfl, rfl, rfl, trivial, trivial, trivial, trivial, trivial, trivial, trivial, trivial, trivial⟩) hc ⟨?_, ?_, ?_, ?_, ?_, ?_, ?_, ?_, ?_, trivial⟩ ?_ ?_
          · intro E θ a w hD hi hp he hc
            have hf := he.h0
            replace hf := hf.more he 3 rfl onT
            refine stP hf rfl rfl rfl (pFA fa_111_0 rfl) fun a hf => ?_
            refine cNil ?_
            refine xThenN ?_
            intro ds u hau
            refine ⟨θ, he.put0 hi hau hf rfl 7 rfl rfl, ?_⟩
            exact hc
          · intro E θ a w hD hi hp he hc
            have e0 := hp.of (k := 0) rfl
            have hf := he.h0
            replace hf := hf.more he 7 rfl (onP e0)
            refine stE hf hc rfl rfl rfl (eLd1 sc_3 rfl (cell_box m0 rfl)) fun a w hf hc => ?_
            refine cNil ?_
            refine xThenN ?_
            intro ds u hau
            refine ⟨θ, he.put0 hi hau hf rfl 8 rfl rfl, ?_⟩
            exact hc
          · intro E θ a w hD hi hp he hc
            have e1 := hp.of (k := 1) rfl
            have hf := he.h0
            replace hf := hf.more he 2 rfl onT
            replace hf := hf.more he 8 rfl (onP e1)
            refine stP hf rfl rfl rfl (pIAA Try.underlying157 sz_3 rfl rfl (inR_spec hun_1).1 (inR_spec hun_1).2) fun a hf => ?_
            refine cNil ?_
            refine xThenN ?_
            intro ds u hau
            refine ⟨θ, he.put0 hi hau hf rfl 9 rfl rfl, ?_⟩
            exact hc
          · intro E θ a w hD hi hp he hc
            have e2 := hp.of (k := 2) rfl
            have e8 := hD.f 0 rfl hi
            try dsimp only at hc
            rw [e8] at hc
            have hf := he.h0
            replace hf := hf.more he 9 rfl (onP e2)
            refine stE hf hc rfl rfl rfl (eLd1 sc_3 rfl (cell_arr (j := 0) m1 (fun x => (one_encI_i64 x).1) rfl hun_1 rfl)) fun a w hf hc => ?_
            refine cNil ?_
            refine xThenN ?_
            intro ds u hau
            refine ⟨θ, he.put0 hi hau hf rfl 10 rfl rfl, ?_⟩
            try dsimp only
            rw [updE_fls 3 e8 rfl]
            exact hc
          · intro E θ a w hD hi hp he hc
            have hf := he.h0
            replace hf := hf.more he 3 rfl onT
            refine stP hf rfl rfl rfl (pFA fa_111_2 rfl) fun a hf => ?_
            refine cNil ?_
            refine xThenN ?_
            intro ds u hau
            refine ⟨θ, he.put0 hi hau hf rfl 11 rfl rfl, ?_⟩
            exact hc
          · intro E θ a w hD hi hp he hc
            have e4 := hp.of (k := 4) rfl
            have hf := he.h0
            replace hf := hf.more he 11 rfl (onP e4)
            refine stE hf hc rfl rfl rfl (eLd1 sc_3 rfl (cell_box m0 rfl)) fun a w hf hc => ?_
            refine cNil ?_
            refine xThenN ?_
            intro ds u hau
            refine ⟨θ, he.put0 hi hau hf rfl 12 rfl rfl, ?_⟩
            exact hc
          · intro E θ a w hD hi hp he hc
            have e3 := hp.of (k := 3) rfl
            have e5 := hp.of (k := 5) rfl
            have hf := he.h0
            replace hf := hf.more he 10 rfl (onP e3)
            replace hf := hf.more he 12 rfl (onP e5)
            refine stP hf rfl rfl rfl (pAdd rfl rfl) fun a hf => ?_
            refine cNil ?_
            refine xThenN ?_
            intro ds u hau
            refine ⟨θ, he.put0 hi hau hf rfl 13 rfl rfl, ?_⟩
            exact hc
          · intro E θ a w hD hi hp he hc
            have e1 := hp.of (k := 1) rfl
            have hf := he.h0
            replace hf := hf.more he 2 rfl onT
            replace hf := hf.more he 8 rfl (onP e1)
            refine stP hf rfl rfl rfl (pIAA Try.underlying157 sz_3 rfl rfl (inR_spec hun_2).1 (inR_spec hun_2).2) fun a hf => ?_
            refine cNil ?_
            refine xThenN ?_
            intro ds u hau
            refine ⟨θ, he.put0 hi hau hf rfl 14 rfl rfl, ?_⟩
            exact hc
          · intro E θ a w hD hi hp he hc
            have e6 := hp.of (k := 6) rfl
            have e7 := hp.of (k := 7) rfl
            try dsimp only at hc
            rw [hi] at hc
            have hf := he.h0
            replace hf := hf.more he 13 rfl (onP e6)
            replace hf := hf.more he 14 rfl (onP e7)
            refine stAr (vs := [.int .i64 (W ((x_1 e_3.A.toNat) + e_3.Weight))]) (o' := 0) (z := W ((x_1 e_3.A.toNat) + e_3.Weight)) hf hc rfl rfl rfl rfl sz_3 rfl (fun x => (one_encI_i64 x).1) rfl hun_2 rfl rfl u1 fun w hc => ?_
            refine cNil ?_
            refine xThenN ?_
            intro ds u hau
            refine ⟨θ, he.stay0 hi hau hf rfl, ?_⟩
            try dsimp only
            rw [updE_self E 8]
            exact hc
          · intro E θ a w hall he hc
            have hf := he.h0
            have e8 := hall 8 rfl
            replace hf := hf.more he 6 rfl (onT)
            replace hf := hf.more he 5 rfl (onT)
            replace hf := hf.more he 4 rfl (onT)
            replace hf := hf.more he 3 rfl (onT)
            replace hf := hf.more he 2 rfl (onT)
            replace hf := hf.more he 1 rfl (onT)
            replace hf := hf.more he 0 rfl (onT)
            try dsimp only at hc
            rw [e8] at hc
            exact ⟨hf.keep ⟨rfl, rfl, rfl, rfl, rfl, rfl, rfl, trivial⟩, hc⟩
          rintro a w ⟨hf, hc⟩
          refine h30 _ _ ?_
          refine wp_seq_k fun K31 h31 => ?_
          obtain ⟨un_3, hun_3, hF⟩ := bnd_some hF
          obtain ⟨un_4, hun_4, hF⟩ := bnd_some hF
          refine regionE (fun θ => [⟨none, none, 0, .slice l_p l.length l_c⟩, ⟨none, none, 7, .int .i64 out⟩, ⟨none, none, 8, .pointer (some ⟨b_1, 0, none⟩)⟩, ⟨none, none, 10, .pointer (some ⟨b_5, 0, none⟩)⟩, ⟨none, none, 26, .slice falls_p falls.length falls_c⟩, ⟨none, none, 27, .int .i64 ((falls.length : Nat) : Int)⟩, ⟨none, none, 28, .int .i64 x⟩, ⟨some 0, none, 47, .pointer (some ⟨b_5, 1, none⟩)⟩, ⟨some 1, none, 48, .int .i64 e_3.B⟩, ⟨some 2, none, 49, .pointer (some ⟨b_1, 0 + e_3.B.toNat * 1, none⟩)⟩, ⟨some 3, none, 50, .int .i64 ((setF x_1 e_3.A.toNat (W ((x_1 e_3.A.toNat) + e_3.Weight))) e_3.B.toNat)⟩, ⟨some 4, none, 51, .pointer (some ⟨b_5, 2, none⟩)⟩, ⟨some 5, none, 52, .int .i64 e_3.Weight⟩, ⟨some 6, none, 53, .int .i64 (W (((setF x_1 e_3.A.toNat (W ((x_1 e_3.A.toNat) + e_3.Weight))) e_3.B.toNat) + e_3.Weight))⟩, ⟨some 7, none, 54, .pointer (some ⟨b_1, 0 + e_3.B.toNat * 1, none⟩)⟩]) (fun E θ => .box b_5 [.int .i64 e_3.A, .int .i64 e_3.B, .int .i64 e_3.Weight] 111 :: (bif E 8 then .box b_1 (catc [] 30 encI_i64 (setF (setF x_1 e_3.A.toNat (W ((x_1 e_3.A.toNat) + e_3.Weight))) e_3.B.toNat (W (((setF x_1 e_3.A.toNat (W ((x_1 e_3.A.toNat) + e_3.Weight))) e_3.B.toNat) + e_3.Weight))) []) 157 else .box b_1 (catc [] 30 encI_i64 (setF x_1 e_3.A.toNat (W ((x_1 e_3.A.toNat) + e_3.Weight))) []) 157) :: Lf) [(8, 3)] (fun a w => Has 89 a [(0, .slice l_p l.length l_c), (7, .int .i64 out), (8, .pointer (some ⟨b_1, 0, none⟩)), (10, .pointer (some ⟨b_5, 0, none⟩)), (26, .slice falls_p falls.length falls_c), (27, .int .i64 ((falls.length : Nat) : Int)), (28, .int .i64 x)] ∧ Ctx G (.box b_5 [.int .i64 e_3.A, .int .i64 e_3.B, .int .i64 e_3.Weight] 111 :: .box b_1 (catc [] 30 encI_i64 (setF (setF x_1 e_3.A.toNat (W ((x_1 e_3.A.toNat) + e_3.Weight))) e_3.B.toNat (W (((setF x_1 e_3.A.toNat (W ((x_1 e_3.A.toNat) + e_3.Weight))) e_3.B.toNat) + e_3.Weight))) []) 157 :: Lf) w) follows_mx (by kernel_rfl) (by kernel_rfl) (HasE.of hf ⟨rfl, rfl, rfl, rfl, rfl, rfl, rfl, trivial, trivial, trivial, trivial, trivial, trivial, trivial, trivial, trivial⟩) hc ⟨?_, ?_, ?_, ?_, ?_, ?_, ?_, ?_, ?_, trivial⟩ ?_ ?_
          · intro E θ a w hD hi hp he hc
            have hf := he.h0
            replace hf := hf.more he 3 rfl onT
            refine stP hf rfl rfl rfl (pFA fa_111_1 rfl) fun a hf => ?_
            refine cNil ?_
            refine xThenN ?_
            intro ds u hau
            refine ⟨θ, he.put0 hi hau hf rfl 7 rfl rfl, ?_⟩
            exact hc
          · intro E θ a w hD hi hp he hc
            have e0 := hp.of (k := 0) rfl
            have hf := he.h0
            replace hf := hf.more he 7 rfl (onP e0)
            refine stE hf hc rfl rfl rfl (eLd1 sc_3 rfl (cell_box m0 rfl)) fun a w hf hc => ?_
            refine cNil ?_
            refine xThenN ?_
            intro ds u hau
            refine ⟨θ, he.put0 hi hau hf rfl 8 rfl rfl, ?_⟩
            exact hc
          · intro E θ a w hD hi hp he hc
            have e1 := hp.of (k := 1) rfl
            have hf := he.h0
            replace hf := hf.more he 2 rfl onT
            replace hf := hf.more he 8 rfl (onP e1)
            refine stP hf rfl rfl rfl (pIAA Try.underlying157 sz_3 rfl rfl (inR_spec hun_3).1 (inR_spec hun_3).2) fun a hf => ?_
            refine cNil ?_
            refine xThenN ?_
            intro ds u hau
            refine ⟨θ, he.put0 hi hau hf rfl 9 rfl rfl, ?_⟩
            exact hc
          · intro E θ a w hD hi hp he hc
            have e2 := hp.of (k := 2) rfl
            have e8 := hD.f 0 rfl hi
            try dsimp only at hc
            rw [e8] at hc
            have hf := he.h0
            replace hf := hf.more he 9 rfl (onP e2)
            refine stE hf hc rfl rfl rfl (eLd1 sc_3 rfl (cell_arr (j := 0) m1 (fun x => (one_encI_i64 x).1) rfl hun_3 rfl)) fun a w hf hc => ?_
            refine cNil ?_
            refine xThenN ?_
            intro ds u hau
            refine ⟨θ, he.put0 hi hau hf rfl 10 rfl rfl, ?_⟩
            try dsimp only
            rw [updE_fls 3 e8 rfl]
            exact hc
          · intro E θ a w hD hi hp he hc
            have hf := he.h0
            replace hf := hf.more he 3 rfl onT
            refine stP hf rfl rfl rfl (pFA fa_111_2 rfl) fun a hf => ?_
            refine cNil ?_
            refine xThenN ?_
            intro ds u hau
            refine ⟨θ, he.put0 hi hau hf rfl 11 rfl rfl, ?_⟩
            exact hc
          · intro E θ a w hD hi hp he hc
            have e4 := hp.of (k := 4) rfl
            have hf := he.h0
            replace hf := hf.more he 11 rfl (onP e4)
            refine stE hf hc rfl rfl rfl (eLd1 sc_3 rfl (cell_box m0 rfl)) fun a w hf hc => ?_
            refine cNil ?_
            refine xThenN ?_
            intro ds u hau
            refine ⟨θ, he.put0 hi hau hf rfl 12 rfl rfl, ?_⟩
            exact hc
          · intro E θ a w hD hi hp he hc
            have e3 := hp.of (k := 3) rfl
            have e5 := hp.of (k := 5) rfl
            have hf := he.h0
            replace hf := hf.more he 10 rfl (onP e3)
            replace hf := hf.more he 12 rfl (onP e5)
            refine stP hf rfl rfl rfl (pAdd rfl rfl) fun a hf => ?_
            refine cNil ?_
            refine xThenN ?_
            intro ds u hau
            refine ⟨θ, he.put0 hi hau hf rfl 13 rfl rfl, ?_⟩
            exact hc
          · intro E θ a w hD hi hp he hc
            have e1 := hp.of (k := 1) rfl
            have hf := he.h0
            replace hf := hf.more he 2 rfl onT
            replace hf := hf.more he 8 rfl (onP e1)
            refine stP hf rfl rfl rfl (pIAA Try.underlying157 sz_3 rfl rfl (inR_spec hun_4).1 (inR_spec hun_4).2) fun a hf => ?_
            refine cNil ?_
            refine xThenN ?_
            intro ds u hau
            refine ⟨θ, he.put0 hi hau hf rfl 14 rfl rfl, ?_⟩
            exact hc
          · intro E θ a w hD hi hp he hc
            have e6 := hp.of (k := 6) rfl
            have e7 := hp.of (k := 7) rfl
            try dsimp only at hc
            rw [hi] at hc
            have hf := he.h0
            replace hf := hf.more he 13 rfl (onP e6)
            replace hf := hf.more he 14 rfl (onP e7)
            refine stAr (vs := [.int .i64 (W (((setF x_1 e_3.A.toNat (W ((x_1 e_3.A.toNat) + e_3.Weight))) e_3.B.toNat) + e_3.Weight))]) (o' := 0) (z := W (((setF x_1 e_3.A.toNat (W ((x_1 e_3.A.toNat) + e_3.Weight))) e_3.B.toNat) + e_3.Weight)) hf hc rfl rfl rfl rfl sz_3 rfl (fun x => (one_encI_i64 x).1) rfl hun_4 rfl rfl u1 fun w hc => ?_
            refine cNil ?_
            refine xThenN ?_
            intro ds u hau
            refine ⟨θ, he.stay0 hi hau hf rfl, ?_⟩
            try dsimp only
            rw [updE_self E 8]
            exact hc
          · intro E θ a w hall he hc
            have hf := he.h0
            have e8 := hall 8 rfl
            replace hf := hf.more he 6 rfl (onT)
            replace hf := hf.more he 5 rfl (onT)
            replace hf := hf.more he 4 rfl (onT)
            replace hf := hf.more he 3 rfl (onT)
            replace hf := hf.more he 2 rfl (onT)
            replace hf := hf.more he 1 rfl (onT)
            replace hf := hf.more he 0 rfl (onT)
            try dsimp only at hc
            rw [e8] at hc
            exact ⟨hf.keep ⟨rfl, rfl, rfl, rfl, rfl, rfl, rfl, trivial⟩, hc⟩
          rintro a w ⟨hf, hc⟩
          refine h31 _ _ ?_
          obtain ⟨e_4, he_4, hF⟩ := bnd_some hF
          obtain ⟨b_6, o_2, qa_2, qp_2⟩ := h_l.atm he_4
          obtain ⟨e_5, he_5, hF⟩ := bnd_some hF
          obtain ⟨b_7, o_3, qa_3, qp_3⟩ := h_l.atm he_5
          refine cQ hc follows_mx (by kernel_rfl) ?_
          refine qE hf rfl rfl rfl (Pu.ev (pM rfl)) fun a hf => ?_
          refine qE hf rfl rfl rfl (Pu.ev (pFA fa_111_2 rfl)) fun a hf => ?_
          refine qE hf rfl rfl rfl (eLd1 sc_3 rfl (cell_box m0 rfl)) fun a hf => ?_
          refine qE hf rfl rfl rfl (Pu.ev (pM rfl)) fun a hf => ?_
          refine qE hf rfl rfl rfl (Pu.ev (pFA fa_111_0 rfl)) fun a hf => ?_
          refine qE hf rfl rfl rfl (eLd1 sc_3 rfl (cell_box m0 rfl)) fun a hf => ?_
          refine qE hf rfl rfl rfl (Pu.ev (pIA Try.underlying96 sz_102 rfl rfl qa_2)) fun a hf => ?_
          refine qE hf rfl rfl rfl (Pu.ev (pFA fa_102_0 rfl)) fun a hf => ?_
          refine qE hf rfl rfl rfl (eLd1 sc_3 rfl (cell_pc (j := 0) qp_2 rfl)) fun a hf => ?_
          refine qE hf rfl rfl rfl (Pu.ev (pM rfl)) fun a hf => ?_
          refine qE hf rfl rfl rfl (Pu.ev (pFA fa_111_1 rfl)) fun a hf => ?_
          refine qE hf rfl rfl rfl (eLd1 sc_3 rfl (cell_box m0 rfl)) fun a hf => ?_
          refine qE hf rfl rfl rfl (Pu.ev (pIA Try.underlying96 sz_102 rfl rfl qa_3)) fun a hf => ?_
          refine qE hf rfl rfl rfl (Pu.ev (pFA fa_102_0 rfl)) fun a hf => ?_
          refine qE hf rfl rfl rfl (eLd1 sc_3 rfl (cell_pc (j := 0) qp_3 rfl)) fun a hf => ?_
          refine qE hf rfl rfl rfl (Pu.ev (pSub rfl rfl)) fun a hf => ?_
          refine qE hf rfl rfl rfl (Pu.ev (pMul rfl rfl)) fun a hf => ?_
          refine qE hf rfl rfl rfl (Pu.ev (pAdd rfl rfl)) fun a hf => ?_
          refine qE hf rfl rfl rfl (Pu.ev (pA rfl)) fun a hf => ?_
          intro w hc
          refine h24 _ _ ?_
          refine cReg ?_
          refine stP hf rfl rfl rfl (pAdd rfl rfl) fun a hf => ?_
          refine stP hf rfl rfl rfl (pM rfl) fun a hf => ?_
          refine cNil ?_
          replace hc := hc.drop k0
          exact hK11 (W (out + (W (e_3.Weight * (W (e_4.Value - e_5.Value))))), W (x + 1), (setF (setF x_1 e_3.A.toNat (W ((x_1 e_3.A.toNat) + e_3.Weight))) e_3.B.toNat (W (((setF x_1 e_3.A.toNat (W ((x_1 e_3.A.toNat) + e_3.Weight))) e_3.B.toNat) + e_3.Weight)))) _ _ (Option.some.inj hF).symm ⟨hf.keep ⟨rfl, rfl, rfl, rfl, rfl, rfl, trivial⟩, hc⟩
      · replace hF := condF hb hF
        clear hb
        refine wp_exit ?_
        refine xThen ?_
        refine xThen ?_
        have he := Option.some.inj hF
        rw [← he] at hfin11
        refine cHit ?_
        exact hr11 _ _ _ hfin11 ⟨hf.keep ⟨rfl, rfl, rfl, rfl, rfl, rfl, trivial⟩, hc⟩
  refine wp_seq_k fun K32 h32 => ?_
  refine cReg ?_
  refine stP hf rfl rfl rfl (pM rfl) fun a hf => ?_
  refine stP hf rfl rfl rfl (pEq rfl rfl) fun a hf => ?_
  refine stP hf rfl rfl rfl (pM rfl) fun a hf => ?_
  refine stCut 4 (fun a w => Has 89 a [(0, .slice l_p l.length l_c), (1, .slice falls_p falls.length falls_c), (6, .int .i64 r), (16, .int .i64 r), (17, .bool (r == 0)), (18, .bool (r == 0)), (22, .bool ((r == 0) && (decide (900 < ((falls.length : Nat) : Int)))))] ∧ Ctx G (Lf) w) ?_ ?_
  · cases hb : (r == 0)
    · rw [hb] at hf
      refine stS hf rfl rfl rfl fun a hf => ?_
      refine stS hf rfl rfl rfl fun a hf => ?_
      refine stS hf rfl rfl rfl fun a hf => ?_
      refine stP hf rfl rfl rfl (pPf rfl rfl) fun a hf => ?_
      exact cNil ⟨hf.keep ⟨rfl, rfl, rfl, rfl, rfl, rfl, rfl, trivial⟩, hc⟩
    · rw [hb] at hf
      refine stP hf rfl rfl rfl (pM rfl) fun a hf => ?_
      refine stP hf rfl rfl rfl (pLenS Try.underlying103 rfl) fun a hf => ?_
      refine stP hf rfl rfl rfl (pGt rfl rfl) fun a hf => ?_
      refine stP hf rfl rfl rfl (pPt rfl rfl) fun a hf => ?_
      exact cNil ⟨hf.keep ⟨rfl, rfl, rfl, rfl, rfl, rfl, rfl, trivial⟩, hc⟩
  intro a w ⟨hf, hc⟩
  refine cNil ?_
  refine h32 _ _ ?_
  refine cCond (b := ((r == 0) && (decide (900 < ((falls.length : Nat) : Int))))) hf rfl (fun hb => ?_) (fun hb => ?_)
  · replace hF := condT hb hF
    clear hb
    refine cReg ?_
    refine stP hf rfl rfl rfl (pA rfl) fun a hf => ?_
    refine cNil ?_
    exact hj3 3 _ _  (hf.keep ⟨rfl, rfl, rfl, trivial⟩) hc hF
  · replace hF := condF hb hF
    clear hb
    refine wp_skip ?_
    exact hj3 r _ _  (hf.keep ⟨rfl, rfl, rfl, trivial⟩) hc hF

def law07_awake (N : Nat)  : Option (Bool) :=
  Option.bind (law07_Four N 58) fun r =>
  Option.bind (daily_Fill N r) fun r_1 =>
  Option.bind (law07_Four N 58) fun r_2 =>
  Option.bind (daily_Volume N r_2 1 2) fun r_3 =>
  Option.bind (law07_Four N 58) fun r_4 =>
  Option.bind (daily_Peak N r_4) fun r_5 =>
  Option.bind (law07_Four N 61) fun r_6 =>
  Option.bind (daily_Clash N r_6) fun r_7 =>
  Option.bind (cond (!((((r_1.2 != 0) || (r_3.2 != 0)) || (r_5.2.2 != 0)) || (r_7.2.2 != 0))) (kit_Same_api_Span N r_1.1 ([(⟨28, 30⟩ : api_Span), (⟨38, 40⟩ : api_Span), (⟨48, 50⟩ : api_Span), (⟨58, 60⟩ : api_Span)] : List api_Span)) (some false)) fun r_8 =>
  Option.bind (cond (!(((((r_1.2 != 0) || (r_3.2 != 0)) || (r_5.2.2 != 0)) || (r_7.2.2 != 0)) || (!r_8))) (law07_span N 86 90) (some (⟨0, 0⟩ : api_Span))) fun r_9 =>
  Option.bind (cond (!((((((r_1.2 != 0) || (r_3.2 != 0)) || (r_5.2.2 != 0)) || (r_7.2.2 != 0)) || (!r_8)) || (!(r_3.1.Lo == r_9.Lo && r_3.1.Hi == r_9.Hi)))) (law07_span N 58 60) (some (⟨0, 0⟩ : api_Span))) fun r_10 =>
  Option.bind (cond (!(((((((r_1.2 != 0) || (r_3.2 != 0)) || (r_5.2.2 != 0)) || (r_7.2.2 != 0)) || (!r_8)) || (!(r_3.1.Lo == r_9.Lo && r_3.1.Hi == r_9.Hi))) || (!(r_5.1.Lo == r_10.Lo && r_5.1.Hi == r_10.Hi)))) (kit_Same_int N r_5.2.1 ([3] : List Int)) (some false)) fun r_11 =>
  cond ((((((((((r_1.2 != 0) || (r_3.2 != 0)) || (r_5.2.2 != 0)) || (r_7.2.2 != 0)) || (!r_8)) || (!(r_3.1.Lo == r_9.Lo && r_3.1.Hi == r_9.Hi))) || (!(r_5.1.Lo == r_10.Lo && r_5.1.Hi == r_10.Hi))) || (!r_11)) || (r_7.1 != 0)) || (r_7.2.1 != 3))
  (some false)
  (Option.bind (law07_Four N 58) fun r_12 =>
  Option.bind (daily_Again N r_12 ([(⟨20, 35⟩ : api_Span), (⟨30, 40⟩ : api_Span), (⟨49, 60⟩ : api_Span), (⟨50, 60⟩ : api_Span)] : List api_Span)) fun r_13 =>
  Option.bind (law07_Counter N ([10, 14, 12, 20] : List Int)) fun r_14 =>
  Option.bind (daily_Correct N r_14) fun r_15 =>
  Option.bind (law07_Counter N ([9, 5, 7, 3] : List Int)) fun r_16 =>
  Option.bind (daily_Proves N r_16 ([(⟨0, 1, 1⟩ : daily_Fall), (⟨2, 3, 1⟩ : daily_Fall)] : List daily_Fall)) fun r_17 =>
  Option.bind (cond (((r_13.2 == 0) && (r_15.2.2 == 0)) && (r_17.2 == 0)) (Option.bind (kit_Same_int N r_13.1 ([2] : List Int)) fun r_18 =>
  some r_18) (some false)) fun t_1 =>
  Option.bind (cond t_1 (Option.bind (kit_Same_int N r_15.1 ([10, 12, 12, 20] : List Int)) fun r_19 =>
  some r_19) (some false)) fun t_2 =>
  some ((t_2 && (r_15.2.1 == 2)) && (r_17.1 == 8)))
theorem law07_awake_ok {N : Nat} {G : Pers} {Lf : List Ent} {w : World}    (hc : Ctx G (Lf) w) {res : Bool} (hF : law07_awake N = some res) : Calls Try.prog 12 #[] w (fun e w => e = .returned (.bool res) ∧ Ctx G (Lf) w) := by
  unfold law07_awake at hF
  refine fnIn (args := []) Try.func12 rfl Try.ntmps12 rfl fun a hf => ?_
  refine wp_seq_k fun K1 h1 => ?_
  refine cReg ?_
  refine stP hf rfl rfl rfl (pA rfl) fun a hf => ?_
  refine cNil ?_
  refine h1 _ _ ?_
  refine wp_seq_k fun K2 h2 => ?_
  refine cReg ?_
  obtain ⟨r, hr, hF⟩ := bnd_some hF
  refine stC (vs := [.int .i64 58]) (caps := []) hf rfl rfl rfl en_58 rfl rfl rfl rfl (law07_Four_ok 58 hc hr) ?_
  rintro _ w ⟨p_1, c_1, rfl, hc⟩
  refine ⟨_, rfl, fun a hf => ?_⟩
  obtain ⟨r_1, hr_1, hF⟩ := bnd_some hF
  obtain ⟨G1, hle1, hrd1, hc, hth1⟩ := lend hc k0
  refine stC (vs := [.agg #[.int .i64 r.Rise, .int .i64 r.Fall, .slice p_1 r.Days.length c_1]]) (caps := []) hf rfl rfl rfl en_29 rfl rfl rfl rfl (daily_Fill_ok r hrd1 hc hr_1) ?_
  rintro _ w ⟨p_2, c_2, rfl, hc⟩
  refine ⟨_, rfl, fun a hf => ?_⟩
  replace hc := hth1 _ _ hc
  refine stP hf rfl rfl rfl (pM rfl) fun a hf => ?_
  refine stP hf rfl rfl rfl (pX rfl rfl) fun a hf => ?_
  refine stP hf rfl rfl rfl (pX rfl rfl) fun a hf => ?_
  refine stP hf rfl rfl rfl (pA rfl) fun a hf => ?_
  refine stP hf rfl rfl rfl (pA rfl) fun a hf => ?_
  refine cNil ?_
  refine h2 _ _ ?_
  refine wp_seq_k fun K3 h3 => ?_
  refine cReg ?_
  obtain ⟨r_2, hr_2, hF⟩ := bnd_some hF
  refine stC (vs := [.int .i64 58]) (caps := []) hf rfl rfl rfl en_58 rfl rfl rfl rfl (law07_Four_ok 58 hc hr_2) ?_
  rintro _ w ⟨p_3, c_3, rfl, hc⟩
  refine ⟨_, rfl, fun a hf => ?_⟩
  obtain ⟨r_3, hr_3, hF⟩ := bnd_some hF
  refine stE hf hc rfl rfl rfl (eC (v := .tuple #[.agg #[.int .i64 r_3.1.Lo, .int .i64 r_3.1.Hi], .int .i64 r_3.2]) (vs := [.agg #[.int .i64 r_2.Rise, .int .i64 r_2.Fall, .slice p_3 r_2.Days.length c_3], .int .i64 1, .int .i64 2]) (caps := []) en_15 rfl rfl rfl rfl (fun w hc => by obtain ⟨G1, hle1, hrd1, hc, hth1⟩ := lend hc k0; exact (daily_Volume_ok r_2 1 2 hrd1 hc hr_3).mono fun e w h => ⟨h.1, ((hth1 _ _ h.2).unpick k0)⟩)) fun a w hf hc => ?_
  refine stP hf rfl rfl rfl (pM rfl) fun a hf => ?_
  refine stP hf rfl rfl rfl (pX rfl rfl) fun a hf => ?_
  refine stP hf rfl rfl rfl (pX rfl rfl) fun a hf => ?_
  refine stAl (cs := [.int .i64 0, .int .i64 0]) hf hc rfl rfl zr_30 rfl fun b_1 a w hf hc => ?_
  refine stSt (vs := [.int .i64 r_3.1.Lo, .int .i64 r_3.1.Hi]) hf hc rfl rfl rfl rfl sz_30 rfl rfl u0 fun w hc => ?_
  refine stP hf rfl rfl rfl (pA rfl) fun a hf => ?_
  refine cNil ?_
  refine h3 _ _ ?_
  refine wp_seq_k fun K4 h4 => ?_
  refine cReg ?_
  obtain ⟨r_4, hr_4, hF⟩ := bnd_some hF
  refine stC (vs := [.int .i64 58]) (caps := []) hf rfl rfl rfl en_58 rfl rfl rfl rfl (law07_Four_ok 58 hc hr_4) ?_
  rintro _ w ⟨p_4, c_4, rfl, hc⟩
  refine ⟨_, rfl, fun a hf => ?_⟩
  obtain ⟨r_5, hr_5, hF⟩ := bnd_some hF
  obtain ⟨G1, hle1, hrd1, hc, hth1⟩ := lend hc k0
  refine stC (vs := [.agg #[.int .i64 r_4.Rise, .int .i64 r_4.Fall, .slice p_4 r_4.Days.length c_4]]) (caps := []) hf rfl rfl rfl en_18 rfl rfl rfl rfl (daily_Peak_ok r_4 hrd1 hc hr_5) ?_
  rintro _ w ⟨p_5, c_5, rfl, hc⟩
  refine ⟨_, rfl, fun a hf => ?_⟩
  replace hc := hth1 _ _ hc
  refine stP hf rfl rfl rfl (pM rfl) fun a hf => ?_
  refine stP hf rfl rfl rfl (pX rfl rfl) fun a hf => ?_
  refine stP hf rfl rfl rfl (pX rfl rfl) fun a hf => ?_
  refine stP hf rfl rfl rfl (pX rfl rfl) fun a hf => ?_
  refine stAl (cs := [.int .i64 0, .int .i64 0]) hf hc rfl rfl zr_30 rfl fun b_2 a w hf hc => ?_
  refine stSt (vs := [.int .i64 r_5.1.Lo, .int .i64 r_5.1.Hi]) hf hc rfl rfl rfl rfl sz_30 rfl rfl u0 fun w hc => ?_
  refine stP hf rfl rfl rfl (pA rfl) fun a hf => ?_
  refine stP hf rfl rfl rfl (pA rfl) fun a hf => ?_
  refine cNil ?_
  refine h4 _ _ ?_
  refine wp_seq_k fun K5 h5 => ?_
  refine cReg ?_
  obtain ⟨r_6, hr_6, hF⟩ := bnd_some hF
  refine stC (vs := [.int .i64 61]) (caps := []) hf rfl rfl rfl en_58 rfl rfl rfl rfl (law07_Four_ok 61 hc hr_6) ?_
  rintro _ w ⟨p_6, c_6, rfl, hc⟩
  refine ⟨_, rfl, fun a hf => ?_⟩
  obtain ⟨r_7, hr_7, hF⟩ := bnd_some hF
  refine stE hf hc rfl rfl rfl (eC (v := .tuple #[.int .i64 r_7.1, .int .i64 r_7.2.1, .int .i64 r_7.2.2]) (vs := [.agg #[.int .i64 r_6.Rise, .int .i64 r_6.Fall, .slice p_6 r_6.Days.length c_6]]) (caps := []) en_28 rfl rfl rfl rfl (fun w hc => by obtain ⟨G1, hle1, hrd1, hc, hth1⟩ := lend hc k0; exact (daily_Clash_ok r_6 hrd1 hc hr_7).mono fun e w h => ⟨h.1, ((hth1 _ _ h.2).unpick k0)⟩)) fun a w hf hc => ?_
  refine stP hf rfl rfl rfl (pM rfl) fun a hf => ?_
  refine stP hf rfl rfl rfl (pX rfl rfl) fun a hf => ?_
  refine stP hf rfl rfl rfl (pX rfl rfl) fun a hf => ?_
  refine stP hf rfl rfl rfl (pX rfl rfl) fun a hf => ?_
  refine stP hf rfl rfl rfl (pA rfl) fun a hf => ?_
  refine stP hf rfl rfl rfl (pA rfl) fun a hf => ?_
  refine stP hf rfl rfl rfl (pA rfl) fun a hf => ?_
  refine cNil ?_
  refine h5 _ _ ?_
  refine wp_seq_k fun K6 h6 => ?_
  refine wp_seq_k fun K7 h7 => ?_
  obtain ⟨r_8, hr_8, hF⟩ := bnd_some hF
  obtain ⟨r_9, hr_9, hF⟩ := bnd_some hF
  obtain ⟨r_10, hr_10, hF⟩ := bnd_some hF
  obtain ⟨r_11, hr_11, hF⟩ := bnd_some hF
  replace hc := hc.nilRow 0 0
  replace hc := hc.nilRow 0 0
  refine regionE (fun θ => (⟨none, none, 1, .slice p_2 r_1.1.length c_2⟩ :: ⟨none, none, 2, .int .i64 r_1.2⟩ :: ⟨none, none, 3, .pointer (some ⟨b_1, 0, none⟩)⟩ :: ⟨none, none, 4, .int .i64 r_3.2⟩ :: ⟨none, none, 5, .pointer (some ⟨b_2, 0, none⟩)⟩ :: ⟨none, none, 6, .slice p_5 r_5.2.1.length c_5⟩ :: ⟨none, none, 7, .int .i64 r_5.2.2⟩ :: ⟨none, none, 8, .int .i64 r_7.1⟩ :: ⟨none, none, 9, .int .i64 r_7.2.1⟩ :: ⟨none, none, 10, .int .i64 r_7.2.2⟩ :: ⟨some 0, none, 37, .int .i64 r_1.2⟩ :: ⟨some 1, none, 38, .bool (r_1.2 != 0)⟩ :: ⟨some 2, none, 39, .bool (r_1.2 != 0)⟩ :: ⟨some 3, none, 40, (bif (r_1.2 != 0) then undef else .int .i64 r_3.2)⟩ :: ⟨some 4, none, 41, (bif (r_1.2 != 0) then undef else .bool (r_3.2 != 0))⟩ :: ⟨some 5, none, 42, .bool ((r_1.2 != 0) || (r_3.2 != 0))⟩ :: ⟨some 6, none, 43, .bool ((r_1.2 != 0) || (r_3.2 != 0))⟩ :: ⟨some 7, none, 44, (bif ((r_1.2 != 0) || (r_3.2 != 0)) then undef else .int .i64 r_5.2.2)⟩ :: ⟨some 8, none, 45, (bif ((r_1.2 != 0) || (r_3.2 != 0)) then undef else .bool (r_5.2.2 != 0))⟩ :: ⟨some 9, none, 46, .bool (((r_1.2 != 0) || (r_3.2 != 0)) || (r_5.2.2 != 0))⟩ :: ⟨some 10, none, 47, .bool (((r_1.2 != 0) || (r_3.2 != 0)) || (r_5.2.2 != 0))⟩ :: ⟨some 11, none, 48, (bif (((r_1.2 != 0) || (r_3.2 != 0)) || (r_5.2.2 != 0)) then undef else .int .i64 r_7.2.2)⟩ :: ⟨some 12, none, 49, (bif (((r_1.2 != 0) || (r_3.2 != 0)) || (r_5.2.2 != 0)) then undef else .bool (r_7.2.2 != 0))⟩ :: ⟨some 13, none, 50, .bool ((((r_1.2 != 0) || (r_3.2 != 0)) || (r_5.2.2 != 0)) || (r_7.2.2 != 0))⟩ :: ⟨some 14, none, 51, .bool ((((r_1.2 != 0) || (r_3.2 != 0)) || (r_5.2.2 != 0)) || (r_7.2.2 != 0))⟩ :: ⟨some 15, none, 52, (bif ((((r_1.2 != 0) || (r_3.2 != 0)) || (r_5.2.2 != 0)) || (r_7.2.2 != 0)) then undef else .slice p_2 r_1.1.length c_2)⟩ :: ⟨some 16, none, 53, (bif ((((r_1.2 != 0) || (r_3.2 != 0)) || (r_5.2.2 != 0)) || (r_7.2.2 != 0)) then undef else .agg #[.int .i64 28, .int .i64 30])⟩ :: ⟨some 17, none, 54, (bif ((((r_1.2 != 0) || (r_3.2 != 0)) || (r_5.2.2 != 0)) || (r_7.2.2 != 0)) then undef else .agg #[.int .i64 38, .int .i64 40])⟩ :: ⟨some 18, none, 55, (bif ((((r_1.2 != 0) || (r_3.2 != 0)) || (r_5.2.2 != 0)) || (r_7.2.2 != 0)) then undef else .agg #[.int .i64 48, .int .i64 50])⟩ :: ⟨some 19, none, 56, (bif ((((r_1.2 != 0) || (r_3.2 != 0)) || (r_5.2.2 != 0)) || (r_7.2.2 != 0)) then undef else .agg #[.int .i64 58, .int .i64 60])⟩ :: ⟨some 20, none, 57, (bif ((((r_1.2 != 0) || (r_3.2 != 0)) || (r_5.2.2 != 0)) || (r_7.2.2 != 0)) then undef else .slice (some ⟨(θ 160).b, 0, none⟩) 4 4)⟩ :: ⟨some 21, none, 58, (bif ((((r_1.2 != 0) || (r_3.2 != 0)) || (r_5.2.2 != 0)) || (r_7.2.2 != 0)) then undef else .bool r_8)⟩ :: ⟨some 22, none, 59, (bif ((((r_1.2 != 0) || (r_3.2 != 0)) || (r_5.2.2 != 0)) || (r_7.2.2 != 0)) then undef else .bool (!r_8))⟩ :: ⟨some 23, none, 60, .bool (((((r_1.2 != 0) || (r_3.2 != 0)) || (r_5.2.2 != 0)) || (r_7.2.2 != 0)) || (!r_8))⟩ :: ⟨some 24, none, 61, .bool (((((r_1.2 != 0) || (r_3.2 != 0)) || (r_5.2.2 != 0)) || (r_7.2.2 != 0)) || (!r_8))⟩ :: ⟨some 25, none, 62, (bif (((((r_1.2 != 0) || (r_3.2 != 0)) || (r_5.2.2 != 0)) || (r_7.2.2 != 0)) || (!r_8)) then undef else .agg #[.int .i64 r_3.1.Lo, .int .i64 r_3.1.Hi])⟩ :: ⟨some 26, none, 63, (bif (((((r_1.2 != 0) || (r_3.2 != 0)) || (r_5.2.2 != 0)) || (r_7.2.2 != 0)) || (!r_8)) then undef else .agg #[.int .i64 r_9.Lo, .int .i64 r_9.Hi])⟩ :: ⟨some 27, none, 64, (bif (((((r_1.2 != 0) || (r_3.2 != 0)) || (r_5.2.2 != 0)) || (r_7.2.2 != 0)) || (!r_8)) then undef else .bool (!(r_3.1.Lo == r_9.Lo && r_3.1.Hi == r_9.Hi)))⟩ :: ⟨some 28, none, 65, .bool ((((((r_1.2 != 0) || (r_3.2 != 0)) || (r_5.2.2 != 0)) || (r_7.2.2 != 0)) || (!r_8)) || (!(r_3.1.Lo == r_9.Lo && r_3.1.Hi == r_9.Hi)))⟩ :: ⟨some 29, none, 66, .bool ((((((r_1.2 != 0) || (r_3.2 != 0)) || (r_5.2.2 != 0)) || (r_7.2.2 != 0)) || (!r_8)) || (!(r_3.1.Lo == r_9.Lo && r_3.1.Hi == r_9.Hi)))⟩ :: ⟨some 30, none, 67, (bif ((((((r_1.2 != 0) || (r_3.2 != 0)) || (r_5.2.2 != 0)) || (r_7.2.2 != 0)) || (!r_8)) || (!(r_3.1.Lo == r_9.Lo && r_3.1.Hi == r_9.Hi))) then undef else .agg #[.int .i64 r_5.1.Lo, .int .i64 r_5.1.Hi])⟩ :: ⟨some 31, none, 68, (bif ((((((r_1.2 != 0) || (r_3.2 != 0)) || (r_5.2.2 != 0)) || (r_7.2.2 != 0)) || (!r_8)) || (!(r_3.1.Lo == r_9.Lo && r_3.1.Hi == r_9.Hi))) then undef else .agg #[.int .i64 r_10.Lo, .int .i64 r_10.Hi])⟩ :: ⟨some 32, none, 69, (bif ((((((r_1.2 != 0) || (r_3.2 != 0)) || (r_5.2.2 != 0)) || (r_7.2.2 != 0)) || (!r_8)) || (!(r_3.1.Lo == r_9.Lo && r_3.1.Hi == r_9.Hi))) then undef else .bool (!(r_5.1.Lo == r_10.Lo && r_5.1.Hi == r_10.Hi)))⟩ :: ⟨some 33, none, 70, .bool (((((((r_1.2 != 0) || (r_3.2 != 0)) || (r_5.2.2 != 0)) || (r_7.2.2 != 0)) || (!r_8)) || (!(r_3.1.Lo == r_9.Lo && r_3.1.Hi == r_9.Hi))) || (!(r_5.1.Lo == r_10.Lo && r_5.1.Hi == r_10.Hi)))⟩ :: ⟨some 34, none, 71, .bool (((((((r_1.2 != 0) || (r_3.2 != 0)) || (r_5.2.2 != 0)) || (r_7.2.2 != 0)) || (!r_8)) || (!(r_3.1.Lo == r_9.Lo && r_3.1.Hi == r_9.Hi))) || (!(r_5.1.Lo == r_10.Lo && r_5.1.Hi == r_10.Hi)))⟩ :: ⟨some 35, none, 72, (bif (((((((r_1.2 != 0) || (r_3.2 != 0)) || (r_5.2.2 != 0)) || (r_7.2.2 != 0)) || (!r_8)) || (!(r_3.1.Lo == r_9.Lo && r_3.1.Hi == r_9.Hi))) || (!(r_5.1.Lo == r_10.Lo && r_5.1.Hi == r_10.Hi))) then undef else .slice p_5 r_5.2.1.length c_5)⟩ :: ⟨some 36, none, 73, (bif (((((((r_1.2 != 0) || (r_3.2 != 0)) || (r_5.2.2 != 0)) || (r_7.2.2 != 0)) || (!r_8)) || (!(r_3.1.Lo == r_9.Lo && r_3.1.Hi == r_9.Hi))) || (!(r_5.1.Lo == r_10.Lo && r_5.1.Hi == r_10.Hi))) then undef else .slice (some ⟨(θ 288).b, 0, none⟩) 1 1)⟩ :: ⟨some 37, none, 74, (bif (((((((r_1.2 != 0) || (r_3.2 != 0)) || (r_5.2.2 != 0)) || (r_7.2.2 != 0)) || (!r_8)) || (!(r_3.1.Lo == r_9.Lo && r_3.1.Hi == r_9.Hi))) || (!(r_5.1.Lo == r_10.Lo && r_5.1.Hi == r_10.Hi))) then undef else .bool r_11)⟩ :: ⟨some 38, none, 75, (bif (((((((r_1.2 != 0) || (r_3.2 != 0)) || (r_5.2.2 != 0)) || (r_7.2.2 != 0)) || (!r_8)) || (!(r_3.1.Lo == r_9.Lo && r_3.1.Hi == r_9.Hi))) || (!(r_5.1.Lo == r_10.Lo && r_5.1.Hi == r_10.Hi))) then undef else .bool (!r_11))⟩ :: ⟨some 39, none, 76, .bool ((((((((r_1.2 != 0) || (r_3.2 != 0)) || (r_5.2.2 != 0)) || (r_7.2.2 != 0)) || (!r_8)) || (!(r_3.1.Lo == r_9.Lo && r_3.1.Hi == r_9.Hi))) || (!(r_5.1.Lo == r_10.Lo && r_5.1.Hi == r_10.Hi))) || (!r_11))⟩ :: ⟨some 40, none, 77, .bool ((((((((r_1.2 != 0) || (r_3.2 != 0)) || (r_5.2.2 != 0)) || (r_7.2.2 != 0)) || (!r_8)) || (!(r_3.1.Lo == r_9.Lo && r_3.1.Hi == r_9.Hi))) || (!(r_5.1.Lo == r_10.Lo && r_5.1.Hi == r_10.Hi))) || (!r_11))⟩ :: ⟨some 41, none, 78, (bif ((((((((r_1.2 != 0) || (r_3.2 != 0)) || (r_5.2.2 != 0)) || (r_7.2.2 != 0)) || (!r_8)) || (!(r_3.1.Lo == r_9.Lo && r_3.1.Hi == r_9.Hi))) || (!(r_5.1.Lo == r_10.Lo && r_5.1.Hi == r_10.Hi))) || (!r_11)) then undef else .int .i64 r_7.1)⟩ :: ⟨some 42, none, 79, (bif ((((((((r_1.2 != 0) || (r_3.2 != 0)) || (r_5.2.2 != 0)) || (r_7.2.2 != 0)) || (!r_8)) || (!(r_3.1.Lo == r_9.Lo && r_3.1.Hi == r_9.Hi))) || (!(r_5.1.Lo == r_10.Lo && r_5.1.Hi == r_10.Hi))) || (!r_11)) then undef else .bool (r_7.1 != 0))⟩ :: ⟨some 43, none, 80, .bool (((((((((r_1.2 != 0) || (r_3.2 != 0)) || (r_5.2.2 != 0)) || (r_7.2.2 != 0)) || (!r_8)) || (!(r_3.1.Lo == r_9.Lo && r_3.1.Hi == r_9.Hi))) || (!(r_5.1.Lo == r_10.Lo && r_5.1.Hi == r_10.Hi))) || (!r_11)) || (r_7.1 != 0))⟩ :: ⟨some 44, none, 81, .bool (((((((((r_1.2 != 0) || (r_3.2 != 0)) || (r_5.2.2 != 0)) || (r_7.2.2 != 0)) || (!r_8)) || (!(r_3.1.Lo == r_9.Lo && r_3.1.Hi == r_9.Hi))) || (!(r_5.1.Lo == r_10.Lo && r_5.1.Hi == r_10.Hi))) || (!r_11)) || (r_7.1 != 0))⟩ :: ⟨some 45, none, 82, (bif (((((((((r_1.2 != 0) || (r_3.2 != 0)) || (r_5.2.2 != 0)) || (r_7.2.2 != 0)) || (!r_8)) || (!(r_3.1.Lo == r_9.Lo && r_3.1.Hi == r_9.Hi))) || (!(r_5.1.Lo == r_10.Lo && r_5.1.Hi == r_10.Hi))) || (!r_11)) || (r_7.1 != 0)) then undef else .int .i64 r_7.2.1)⟩ :: ⟨some 46, none, 83, (bif (((((((((r_1.2 != 0) || (r_3.2 != 0)) || (r_5.2.2 != 0)) || (r_7.2.2 != 0)) || (!r_8)) || (!(r_3.1.Lo == r_9.Lo && r_3.1.Hi == r_9.Hi))) || (!(r_5.1.Lo == r_10.Lo && r_5.1.Hi == r_10.Hi))) || (!r_11)) || (r_7.1 != 0)) then undef else .bool (r_7.2.1 != 3))⟩ :: ⟨some 47, none, 84, .bool ((((((((((r_1.2 != 0) || (r_3.2 != 0)) || (r_5.2.2 != 0)) || (r_7.2.2 != 0)) || (!r_8)) || (!(r_3.1.Lo == r_9.Lo && r_3.1.Hi == r_9.Hi))) || (!(r_5.1.Lo == r_10.Lo && r_5.1.Hi == r_10.Hi))) || (!r_11)) || (r_7.1 != 0)) || (r_7.2.1 != 3))⟩ :: [])) (fun E θ => (bif E 36 then (gE (!(((((((r_1.2 != 0) || (r_3.2 != 0)) || (r_5.2.2 != 0)) || (r_7.2.2 != 0)) || (!r_8)) || (!(r_3.1.Lo == r_9.Lo && r_3.1.Hi == r_9.Hi))) || (!(r_5.1.Lo == r_10.Lo && r_5.1.Hi == r_10.Hi)))) (.row (some ⟨(θ 288).b, 0, none⟩) 1 (([3] : List Int).map encI_i64) 3 1)) else .row none 0 [] 0 0) :: (bif E 20 then (gE (!((((r_1.2 != 0) || (r_3.2 != 0)) || (r_5.2.2 != 0)) || (r_7.2.2 != 0))) (.row (some ⟨(θ 160).b, 0, none⟩) 4 (([(⟨28, 30⟩ : api_Span), (⟨38, 40⟩ : api_Span), (⟨48, 50⟩ : api_Span), (⟨58, 60⟩ : api_Span)] : List api_Span).map enc_api_Span) 30 2)) else .row none 0 [] 0 0) :: .row p_6 c_6 (r_6.Days.map enc_daily_Value) 56 3 :: .box b_2 [.int .i64 r_5.1.Lo, .int .i64 r_5.1.Hi] 30 :: .row p_4 c_4 (r_4.Days.map enc_daily_Value) 56 3 :: .row p_5 c_5 (r_5.2.1.map encI_i64) 3 1 :: .box b_1 [.int .i64 r_3.1.Lo, .int .i64 r_3.1.Hi] 30 :: .row p_3 c_3 (r_2.Days.map enc_daily_Value) 56 3 :: .row p_1 c_1 (r.Days.map enc_daily_Value) 56 3 :: .row p_2 c_2 (r_1.1.map enc_api_Span) 30 2 :: Lf) [] (fun a w => Has 139 a [(84, .bool ((((((((((r_1.2 != 0) || (r_3.2 != 0)) || (r_5.2.2 != 0)) || (r_7.2.2 != 0)) || (!r_8)) || (!(r_3.1.Lo == r_9.Lo && r_3.1.Hi == r_9.Hi))) || (!(r_5.1.Lo == r_10.Lo && r_5.1.Hi == r_10.Hi))) || (!r_11)) || (r_7.1 != 0)) || (r_7.2.1 != 3)))] ∧ Ctx G (.row p_6 c_6 (r_6.Days.map enc_daily_Value) 56 3 :: .box b_2 [.int .i64 r_5.1.Lo, .int .i64 r_5.1.Hi] 30 :: .row p_4 c_4 (r_4.Days.map enc_daily_Value) 56 3 :: .row p_5 c_5 (r_5.2.1.map encI_i64) 3 1 :: .box b_1 [.int .i64 r_3.1.Lo, .int .i64 r_3.1.Hi] 30 :: .row p_3 c_3 (r_2.Days.map enc_daily_Value) 56 3 :: .row p_1 c_1 (r.Days.map enc_daily_Value) 56 3 :: .row p_2 c_2 (r_1.1.map enc_api_Span) 30 2 :: Lf) w) follows_mx (by kernel_rfl) (by kernel_rfl) (HasE.of hf ⟨rfl, rfl, rfl, rfl, rfl, rfl, rfl, rfl, rfl, rfl, trivial, trivial, trivial, trivial, trivial, trivial, trivial, trivial, trivial, trivial, trivial, trivial, trivial, trivial, trivial, trivial, trivial, trivial, trivial, trivial, trivial, trivial, trivial, trivial, trivial, trivial, trivial, trivial, trivial, trivial, trivial, trivial, trivial, trivial, trivial, trivial, trivial, trivial, trivial, trivial, trivial, trivial, trivial, trivial, trivial, trivial, trivial, trivial, trivial⟩) hc ⟨?_, ?_, ?_, ?_, ?_, ?_, ?_, ?_, ?_, ?_, ?_, ?_, ?_, ?_, ?_, ?_, ?_, ?_, ?_, ?_, ?_, ?_, ?_, ?_, ?_, ?_, ?_, ?_, ?_, ?_, ?_, ?_, ?_, ?_, ?_, ?_, ?_, ?_, ?_, ?_, ?_, ?_, ?_, ?_, ?_, ?_, ?_, ?_, trivial⟩ ?_ ?_
  · intro E θ a w hD hi hp he hc
    have hf := he.h0
    replace hf := hf.more he 1 rfl onT
    refine stP hf rfl rfl rfl (pM rfl) fun a hf => ?_
    refine cNil ?_
    refine xThenN ?_
    intro ds u hau
    refine ⟨θ, he.put0 hi hau hf rfl 10 rfl rfl, ?_⟩
    exact hc
  · intro E θ a w hD hi hp he hc
    have e0 := hp.of (k := 0) rfl
    have hf := he.h0
    replace hf := hf.more he 10 rfl (onP e0)
    refine stP hf rfl rfl rfl (pNe rfl rfl) fun a hf => ?_
    refine cNil ?_
    refine xThenN ?_
    intro ds u hau
    refine ⟨θ, he.put0 hi hau hf rfl 11 rfl rfl, ?_⟩
    exact hc
  · intro E θ a w hD hi hp he hc
    have e1 := hp.of (k := 1) rfl
    have hf := he.h0
    replace hf := hf.more he 11 rfl (onP e1)
    refine stP hf rfl rfl rfl (pM rfl) fun a hf => ?_
    refine cNil ?_
    refine xThenN ?_
    intro ds u hau
    refine ⟨θ, he.put0 hi hau hf rfl 12 rfl rfl, ?_⟩
    exact hc
  · intro E θ a w hD hi hp he hc
    have e2 := hp.of (k := 2) rfl
    rcases boolEq (r_1.2 != 0) with hb | hb
    · have hf := he.h0
      replace hf := hf.more he 3 rfl onT
      replace hf := hf.more he 12 rfl (onP e2)
      replace hf := castB hb hf
      refine stS hf rfl rfl rfl fun a hf => ?_
      replace hf := castI (u := .int .i64 r_3.2) hb hf
      refine cNil ?_
      refine xThenN ?_
      intro ds u hau
      refine ⟨θ, he.put0 hi hau hf rfl 13 rfl rfl, ?_⟩
      exact hc
    · have hf := he.h0
      replace hf := hf.more he 3 rfl onT
      replace hf := hf.more he 12 rfl (onP e2)
      replace hf := castB hb hf
      refine stP hf rfl rfl rfl (pM rfl) fun a hf => ?_
      replace hf := castJ (u := undef) hb hf
      refine cNil ?_
      refine xThenN ?_
      intro ds u hau
      refine ⟨θ, he.put0 hi hau hf rfl 13 rfl rfl, ?_⟩
      exact hc
  · intro E θ a w hD hi hp he hc
    have e2 := hp.of (k := 2) rfl
    have e3 := hp.of (k := 3) rfl
    rcases boolEq (r_1.2 != 0) with hb | hb
    · have hf := he.h0
      replace hf := hf.more he 12 rfl (onP e2)
      replace hf := castB hb hf
      replace hf := hf.more he 13 rfl (onP e3)
      replace hf := castCT hb hf
      refine stS hf rfl rfl rfl fun a hf => ?_
      replace hf := castI (u := .bool (r_3.2 != 0)) hb hf
      refine cNil ?_
      refine xThenN ?_
      intro ds u hau
      refine ⟨θ, he.put0 hi hau hf rfl 14 rfl rfl, ?_⟩
      exact hc
    · have hf := he.h0
      replace hf := hf.more he 12 rfl (onP e2)
      replace hf := castB hb hf
      replace hf := hf.more he 13 rfl (onP e3)
      replace hf := castCF hb hf
      refine stP hf rfl rfl rfl (pNe rfl rfl) fun a hf => ?_
      replace hf := castJ (u := undef) hb hf
      refine cNil ?_
      refine xThenN ?_
      intro ds u hau
      refine ⟨θ, he.put0 hi hau hf rfl 14 rfl rfl, ?_⟩
      exact hc
  · intro E θ a w hD hi hp he hc
    have e2 := hp.of (k := 2) rfl
    have e4 := hp.of (k := 4) rfl
    rcases boolEq (r_1.2 != 0) with hb | hb
    · have hf := he.h0
      replace hf := hf.more he 12 rfl (onP e2)
      replace hf := castB hb hf
      replace hf := hf.more he 14 rfl (onP e4)
      replace hf := castCT hb hf
      refine stP hf rfl rfl rfl (pPt rfl rfl) fun a hf => ?_
      replace hf := castV (v' := .bool ((r_1.2 != 0) || (r_3.2 != 0))) (congrArg Value.bool (orT hb)) hf
      refine cNil ?_
      refine xThenN ?_
      intro ds u hau
      refine ⟨θ, he.put0 hi hau hf rfl 15 rfl rfl, ?_⟩
      exact hc
    · have hf := he.h0
      replace hf := hf.more he 12 rfl (onP e2)
      replace hf := castB hb hf
      replace hf := hf.more he 14 rfl (onP e4)
      replace hf := castCF hb hf
      refine stP hf rfl rfl rfl (pPf rfl rfl) fun a hf => ?_
      replace hf := castV (v' := .bool ((r_1.2 != 0) || (r_3.2 != 0))) (congrArg Value.bool (orF hb)) hf
      refine cNil ?_
      refine xThenN ?_
      intro ds u hau
      refine ⟨θ, he.put0 hi hau hf rfl 15 rfl rfl, ?_⟩
      exact hc
  · intro E θ a w hD hi hp he hc
    have e5 := hp.of (k := 5) rfl
    have hf := he.h0
    replace hf := hf.more he 15 rfl (onP e5)
    refine stP hf rfl rfl rfl (pM rfl) fun a hf => ?_
    refine cNil ?_
    refine xThenN ?_
    intro ds u hau
    refine ⟨θ, he.put0 hi hau hf rfl 16 rfl rfl, ?_⟩
    exact hc
  · intro E θ a w hD hi hp he hc
    have e6 := hp.of (k := 6) rfl
    rcases boolEq ((r_1.2 != 0) || (r_3.2 != 0)) with hb | hb
    · have hf := he.h0
      replace hf := hf.more he 6 rfl onT
      replace hf := hf.more he 16 rfl (onP e6)
      replace hf := castB hb hf
      refine stS hf rfl rfl rfl fun a hf => ?_
      replace hf := castI (u := .int .i64 r_5.2.2) hb hf
      refine cNil ?_
      refine xThenN ?_
      intro ds u hau
      refine ⟨θ, he.put0 hi hau hf rfl 17 rfl rfl, ?_⟩
      exact hc
    · have hf := he.h0
      replace hf := hf.more he 6 rfl onT
      replace hf := hf.more he 16 rfl (onP e6)
      replace hf := castB hb hf
      refine stP hf rfl rfl rfl (pM rfl) fun a hf => ?_
      replace hf := castJ (u := undef) hb hf
      refine cNil ?_
      refine xThenN ?_
      intro ds u hau
      refine ⟨θ, he.put0 hi hau hf rfl 17 rfl rfl, ?_⟩
      exact hc
  · intro E θ a w hD hi hp he hc
    have e6 := hp.of (k := 6) rfl
    have e7 := hp.of (k := 7) rfl
    rcases boolEq ((r_1.2 != 0) || (r_3.2 != 0)) with hb | hb
    · have hf := he.h0
      replace hf := hf.more he 16 rfl (onP e6)
      replace hf := castB hb hf
      replace hf := hf.more he 17 rfl (onP e7)
      replace hf := castCT hb hf
      refine stS hf rfl rfl rfl fun a hf => ?_
      replace hf := castI (u := .bool (r_5.2.2 != 0)) hb hf
      refine cNil ?_
      refine xThenN ?_
      intro ds u hau
      refine ⟨θ, he.put0 hi hau hf rfl 18 rfl rfl, ?_⟩
      exact hc
    · have hf := he.h0
      replace hf := hf.more he 16 rfl (onP e6)
      replace hf := castB hb hf
      replace hf := hf.more he 17 rfl (onP e7)
      replace hf := castCF hb hf
      refine stP hf rfl rfl rfl (pNe rfl rfl) fun a hf => ?_
      replace hf := castJ (u := undef) hb hf
      refine cNil ?_
      refine xThenN ?_
      intro ds u hau
      refine ⟨θ, he.put0 hi hau hf rfl 18 rfl rfl, ?_⟩
      exact hc
  · intro E θ a w hD hi hp he hc
    have e6 := hp.of (k := 6) rfl
    have e8 := hp.of (k := 8) rfl
    rcases boolEq ((r_1.2 != 0) || (r_3.2 != 0)) with hb | hb
    · have hf := he.h0
      replace hf := hf.more he 16 rfl (onP e6)
      replace hf := castB hb hf
      replace hf := hf.more he 18 rfl (onP e8)
      replace hf := castCT hb hf
      refine stP hf rfl rfl rfl (pPt rfl rfl) fun a hf => ?_
      replace hf := castV (v' := .bool (((r_1.2 != 0) || (r_3.2 != 0)) || (r_5.2.2 != 0))) (congrArg Value.bool (orT hb)) hf
      refine cNil ?_
      refine xThenN ?_
      intro ds u hau
      refine ⟨θ, he.put0 hi hau hf rfl 19 rfl rfl, ?_⟩
      exact hc
    · have hf := he.h0
      replace hf := hf.more he 16 rfl (onP e6)
      replace hf := castB hb hf
      replace hf := hf.more he 18 rfl (onP e8)
      replace hf := castCF hb hf
      refine stP hf rfl rfl rfl (pPf rfl rfl) fun a hf => ?_
      replace hf := castV (v' := .bool (((r_1.2 != 0) || (r_3.2 != 0)) || (r_5.2.2 != 0))) (congrArg Value.bool (orF hb)) hf
      refine cNil ?_
      refine xThenN ?_
      intro ds u hau
      refine ⟨θ, he.put0 hi hau hf rfl 19 rfl rfl, ?_⟩
      exact hc
  · intro E θ a w hD hi hp he hc
    have e9 := hp.of (k := 9) rfl
    have hf := he.h0
    replace hf := hf.more he 19 rfl (onP e9)
    refine stP hf rfl rfl rfl (pM rfl) fun a hf => ?_
    refine cNil ?_
    refine xThenN ?_
    intro ds u hau
    refine ⟨θ, he.put0 hi hau hf rfl 20 rfl rfl, ?_⟩
    exact hc
  · intro E θ a w hD hi hp he hc
    have e10 := hp.of (k := 10) rfl
    rcases boolEq (((r_1.2 != 0) || (r_3.2 != 0)) || (r_5.2.2 != 0)) with hb | hb
    · have hf := he.h0
      replace hf := hf.more he 9 rfl onT
      replace hf := hf.more he 20 rfl (onP e10)
      replace hf := castB hb hf
      refine stS hf rfl rfl rfl fun a hf => ?_
      replace hf := castI (u := .int .i64 r_7.2.2) hb hf
      refine cNil ?_
      refine xThenN ?_
      intro ds u hau
      refine ⟨θ, he.put0 hi hau hf rfl 21 rfl rfl, ?_⟩
      exact hc
    · have hf := he.h0
      replace hf := hf.more he 9 rfl onT
      replace hf := hf.more he 20 rfl (onP e10)
      replace hf := castB hb hf
      refine stP hf rfl rfl rfl (pM rfl) fun a hf => ?_
      replace hf := castJ (u := undef) hb hf
      refine cNil ?_
      refine xThenN ?_
      intro ds u hau
      refine ⟨θ, he.put0 hi hau hf rfl 21 rfl rfl, ?_⟩
      exact hc
  · intro E θ a w hD hi hp he hc
    have e10 := hp.of (k := 10) rfl
    have e11 := hp.of (k := 11) rfl
    rcases boolEq (((r_1.2 != 0) || (r_3.2 != 0)) || (r_5.2.2 != 0)) with hb | hb
    · have hf := he.h0
      replace hf := hf.more he 20 rfl (onP e10)
      replace hf := castB hb hf
      replace hf := hf.more he 21 rfl (onP e11)
      replace hf := castCT hb hf
      refine stS hf rfl rfl rfl fun a hf => ?_
      replace hf := castI (u := .bool (r_7.2.2 != 0)) hb hf
      refine cNil ?_
      refine xThenN ?_
      intro ds u hau
      refine ⟨θ, he.put0 hi hau hf rfl 22 rfl rfl, ?_⟩
      exact hc
    · have hf := he.h0
      replace hf := hf.more he 20 rfl (onP e10)
      replace hf := castB hb hf
      replace hf := hf.more he 21 rfl (onP e11)
      replace hf := castCF hb hf
      refine stP hf rfl rfl rfl (pNe rfl rfl) fun a hf => ?_
      replace hf := castJ (u := undef) hb hf
      refine cNil ?_
      refine xThenN ?_
      intro ds u hau
      refine ⟨θ, he.put0 hi hau hf rfl 22 rfl rfl, ?_⟩
      exact hc
  · intro E θ a w hD hi hp he hc
    have e10 := hp.of (k := 10) rfl
    have e12 := hp.of (k := 12) rfl
    rcases boolEq (((r_1.2 != 0) || (r_3.2 != 0)) || (r_5.2.2 != 0)) with hb | hb
    · have hf := he.h0
      replace hf := hf.more he 20 rfl (onP e10)
      replace hf := castB hb hf
      replace hf := hf.more he 22 rfl (onP e12)
      replace hf := castCT hb hf
      refine stP hf rfl rfl rfl (pPt rfl rfl) fun a hf => ?_
      replace hf := castV (v' := .bool ((((r_1.2 != 0) || (r_3.2 != 0)) || (r_5.2.2 != 0)) || (r_7.2.2 != 0))) (congrArg Value.bool (orT hb)) hf
      refine cNil ?_
      refine xThenN ?_
      intro ds u hau
      refine ⟨θ, he.put0 hi hau hf rfl 23 rfl rfl, ?_⟩
      exact hc
    · have hf := he.h0
      replace hf := hf.more he 20 rfl (onP e10)
      replace hf := castB hb hf
      replace hf := hf.more he 22 rfl (onP e12)
      replace hf := castCF hb hf
      refine stP hf rfl rfl rfl (pPf rfl rfl) fun a hf => ?_
      replace hf := castV (v' := .bool ((((r_1.2 != 0) || (r_3.2 != 0)) || (r_5.2.2 != 0)) || (r_7.2.2 != 0))) (congrArg Value.bool (orF hb)) hf
      refine cNil ?_
      refine xThenN ?_
      intro ds u hau
      refine ⟨θ, he.put0 hi hau hf rfl 23 rfl rfl, ?_⟩
      exact hc
  · intro E θ a w hD hi hp he hc
    have e13 := hp.of (k := 13) rfl
    have hf := he.h0
    replace hf := hf.more he 23 rfl (onP e13)
    refine stP hf rfl rfl rfl (pM rfl) fun a hf => ?_
    refine cNil ?_
    refine xThenN ?_
    intro ds u hau
    refine ⟨θ, he.put0 hi hau hf rfl 24 rfl rfl, ?_⟩
    exact hc
  · intro E θ a w hD hi hp he hc
    have e14 := hp.of (k := 14) rfl
    rcases boolEq ((((r_1.2 != 0) || (r_3.2 != 0)) || (r_5.2.2 != 0)) || (r_7.2.2 != 0)) with hb | hb
    · have hf := he.h0
      replace hf := hf.more he 0 rfl onT
      replace hf := hf.more he 24 rfl (onP e14)
      replace hf := castB hb hf
      refine stS hf rfl rfl rfl fun a hf => ?_
      replace hf := castI (u := .slice p_2 r_1.1.length c_2) hb hf
      refine cNil ?_
      refine xThenN ?_
      intro ds u hau
      refine ⟨θ, he.put0 hi hau hf rfl 25 rfl rfl, ?_⟩
      exact hc
    · have hf := he.h0
      replace hf := hf.more he 0 rfl onT
      replace hf := hf.more he 24 rfl (onP e14)
      replace hf := castB hb hf
      refine stP hf rfl rfl rfl (pM rfl) fun a hf => ?_
      replace hf := castJ (u := undef) hb hf
      refine cNil ?_
      refine xThenN ?_
      intro ds u hau
      refine ⟨θ, he.put0 hi hau hf rfl 25 rfl rfl, ?_⟩
      exact hc
  · intro E θ a w hD hi hp he hc
    have e14 := hp.of (k := 14) rfl
    rcases boolEq ((((r_1.2 != 0) || (r_3.2 != 0)) || (r_5.2.2 != 0)) || (r_7.2.2 != 0)) with hb | hb
    · have hf := he.h0
      replace hf := hf.more he 24 rfl (onP e14)
      replace hf := castB hb hf
      refine stS hf rfl rfl rfl fun a hf => ?_
      replace hf := castI (u := .agg #[.int .i64 28, .int .i64 30]) hb hf
      refine cNil ?_
      refine xThenN ?_
      intro ds u hau
      refine ⟨θ, he.put0 hi hau hf rfl 26 rfl rfl, ?_⟩
      exact hc
    · have hf := he.h0
      replace hf := hf.more he 24 rfl (onP e14)
      replace hf := castB hb hf
      refine stP hf rfl rfl rfl (pBuildS (cells := [.int .i64 28, .int .i64 30]) bt_30 rfl rfl) fun a hf => ?_
      replace hf := castJ (u := undef) hb hf
      refine cNil ?_
      refine xThenN ?_
      intro ds u hau
      refine ⟨θ, he.put0 hi hau hf rfl 26 rfl rfl, ?_⟩
      exact hc
  · intro E θ a w hD hi hp he hc
    have e14 := hp.of (k := 14) rfl
    rcases boolEq ((((r_1.2 != 0) || (r_3.2 != 0)) || (r_5.2.2 != 0)) || (r_7.2.2 != 0)) with hb | hb
    · have hf := he.h0
      replace hf := hf.more he 24 rfl (onP e14)
      replace hf := castB hb hf
      refine stS hf rfl rfl rfl fun a hf => ?_
      replace hf := castI (u := .agg #[.int .i64 38, .int .i64 40]) hb hf
      refine cNil ?_
      refine xThenN ?_
      intro ds u hau
      refine ⟨θ, he.put0 hi hau hf rfl 27 rfl rfl, ?_⟩
      exact hc
    · have hf := he.h0
      replace hf := hf.more he 24 rfl (onP e14)
      replace hf := castB hb hf
      refine stP hf rfl rfl rfl (pBuildS (cells := [.int .i64 38, .int .i64 40]) bt_30 rfl rfl) fun a hf => ?_
      replace hf := castJ (u := undef) hb hf
      refine cNil ?_
      refine xThenN ?_
      intro ds u hau
      refine ⟨θ, he.put0 hi hau hf rfl 27 rfl rfl, ?_⟩
      exact hc
  · intro E θ a w hD hi hp he hc
    have e14 := hp.of (k := 14) rfl
    rcases boolEq ((((r_1.2 != 0) || (r_3.2 != 0)) || (r_5.2.2 != 0)) || (r_7.2.2 != 0)) with hb | hb
    · have hf := he.h0
      replace hf := hf.more he 24 rfl (onP e14)
      replace hf := castB hb hf
      refine stS hf rfl rfl rfl fun a hf => ?_
      replace hf := castI (u := .agg #[.int .i64 48, .int .i64 50]) hb hf
      refine cNil ?_
      refine xThenN ?_
      intro ds u hau
      refine ⟨θ, he.put0 hi hau hf rfl 28 rfl rfl, ?_⟩
      exact hc
    · have hf := he.h0
      replace hf := hf.more he 24 rfl (onP e14)
      replace hf := castB hb hf
      refine stP hf rfl rfl rfl (pBuildS (cells := [.int .i64 48, .int .i64 50]) bt_30 rfl rfl) fun a hf => ?_
      replace hf := castJ (u := undef) hb hf
      refine cNil ?_
      refine xThenN ?_
      intro ds u hau
      refine ⟨θ, he.put0 hi hau hf rfl 28 rfl rfl, ?_⟩
      exact hc
  · intro E θ a w hD hi hp he hc
    have e14 := hp.of (k := 14) rfl
    rcases boolEq ((((r_1.2 != 0) || (r_3.2 != 0)) || (r_5.2.2 != 0)) || (r_7.2.2 != 0)) with hb | hb
    · have hf := he.h0
      replace hf := hf.more he 24 rfl (onP e14)
      replace hf := castB hb hf
      refine stS hf rfl rfl rfl fun a hf => ?_
      replace hf := castI (u := .agg #[.int .i64 58, .int .i64 60]) hb hf
      refine cNil ?_
      refine xThenN ?_
      intro ds u hau
      refine ⟨θ, he.put0 hi hau hf rfl 29 rfl rfl, ?_⟩
      exact hc
    · have hf := he.h0
      replace hf := hf.more he 24 rfl (onP e14)
      replace hf := castB hb hf
      refine stP hf rfl rfl rfl (pBuildS (cells := [.int .i64 58, .int .i64 60]) bt_30 rfl rfl) fun a hf => ?_
      replace hf := castJ (u := undef) hb hf
      refine cNil ?_
      refine xThenN ?_
      intro ds u hau
      refine ⟨θ, he.put0 hi hau hf rfl 29 rfl rfl, ?_⟩
      exact hc
  · intro E θ a w hD hi hp he hc
    have e14 := hp.of (k := 14) rfl
    have e16 := hp.of (k := 16) rfl
    have e17 := hp.of (k := 17) rfl
    have e18 := hp.of (k := 18) rfl
    have e19 := hp.of (k := 19) rfl
    try dsimp only at hc
    rw [hi] at hc
    rcases boolEq ((((r_1.2 != 0) || (r_3.2 != 0)) || (r_5.2.2 != 0)) || (r_7.2.2 != 0)) with hb | hb
    · have hf := he.h0
      replace hf := hf.more he 24 rfl (onP e14)
      replace hf := castB hb hf
      replace hf := hf.more he 26 rfl (onP e16)
      replace hf := castCT hb hf
      replace hf := hf.more he 27 rfl (onP e17)
      replace hf := castCT hb hf
      replace hf := hf.more he 28 rfl (onP e18)
      replace hf := castCT hb hf
      replace hf := hf.more he 29 rfl (onP e19)
      replace hf := castCT hb hf
      refine stS hf rfl rfl rfl fun a hf => ?_
      replace hf := castI (u := .slice (some ⟨(θ 160).b, 0, none⟩) 4 4) hb hf
      refine cNil ?_
      refine xThenN ?_
      intro ds u hau
      refine ⟨θ, he.put0 hi hau hf rfl 30 rfl rfl, ?_⟩
      try dsimp only
      rw [updE_self E 20]
      rw [gE_F (notF hb)]
      exact hc
    · have hf := he.h0
      replace hf := hf.more he 24 rfl (onP e14)
      replace hf := castB hb hf
      replace hf := hf.more he 26 rfl (onP e16)
      replace hf := castCF hb hf
      replace hf := hf.more he 27 rfl (onP e17)
      replace hf := castCF hb hf
      replace hf := hf.more he 28 rfl (onP e18)
      replace hf := castCF hb hf
      replace hf := hf.more he 29 rfl (onP e19)
      replace hf := castCF hb hf
      refine stBS (rows := ([(⟨28, 30⟩ : api_Span), (⟨38, 40⟩ : api_Span), (⟨48, 50⟩ : api_Span), (⟨58, 60⟩ : api_Span)] : List api_Span).map enc_api_Span) (vs := [(0, .agg #[.int .i64 28, .int .i64 30]), (1, .agg #[.int .i64 38, .int .i64 40]), (2, .agg #[.int .i64 48, .int .i64 50]), (3, .agg #[.int .i64 58, .int .i64 60])]) hf hc rfl rfl sl_25 rfl ⟨rfl, rfl, rfl, rfl, rfl, rfl, rfl, rfl, rfl, rfl, rfl, rfl, trivial⟩ rfl rfl fun b_3 a w hf hc => ?_
      replace hf := castJ (u := undef) hb hf
      refine cNil ?_
      refine xThenN ?_
      intro ds u hau
      replace hc := hc.drop k2
      replace hc := hc.pick k0
      replace hc := hc.pick k1
      refine ⟨(setT θ 160 ⟨b_3, none, 0⟩), he.put hi hau hf rfl [] trivial ⟨qq, qq, qq, qq, qq, qq, qq, qq, qq, qq, qq, qq, qq, qq, qq, qq, qq, qq, qq, qq, qq, qq, qq, qq, qq, qq, qq, qq, qq, qq, qq, qq, qq, qq, qq, qq, qq, qq, qq, qq, qq, qq, qq, qq, qq, qq, qq, qq, qq, qq, qq, qq, qq, qq, qq, qq, qq, qq, trivial⟩, ?_⟩
      try dsimp only
      rw [updE_self E 20]
      rw [gE_T (notT hb)]
      exact hc
  · intro E θ a w hD hi hp he hc
    have e14 := hp.of (k := 14) rfl
    have e15 := hp.of (k := 15) rfl
    have e20 := hp.of (k := 20) rfl
    try dsimp only at hc
    rw [e20] at hc
    rcases boolEq ((((r_1.2 != 0) || (r_3.2 != 0)) || (r_5.2.2 != 0)) || (r_7.2.2 != 0)) with hb | hb
    · have hf := he.h0
      replace hf := hf.more he 24 rfl (onP e14)
      replace hf := castB hb hf
      replace hf := hf.more he 25 rfl (onP e15)
      replace hf := castCT hb hf
      replace hf := hf.more he 30 rfl (onP e20)
      replace hf := castCT hb hf
      rw [gE_F (notF hb)] at hc
      refine stS hf rfl rfl rfl fun a hf => ?_
      replace hf := castI (u := .bool r_8) hb hf
      refine cNil ?_
      refine xThenN ?_
      intro ds u hau
      refine ⟨θ, he.put0 hi hau hf rfl 31 rfl rfl, ?_⟩
      try dsimp only
      rw [updE_tru 21 e20]
      rw [gE_F (notF hb)]
      exact hc
    · have hf := he.h0
      replace hf := hf.more he 24 rfl (onP e14)
      replace hf := castB hb hf
      replace hf := hf.more he 25 rfl (onP e15)
      replace hf := castCF hb hf
      replace hf := hf.more he 30 rfl (onP e20)
      replace hf := castCF hb hf
      rw [gE_T (notT hb)] at hc
      refine stE hf hc rfl rfl rfl (eC (v := .bool r_8) (vs := [.slice p_2 r_1.1.length c_2, .slice (some ⟨(θ 160).b, 0, none⟩) 4 4]) (caps := []) en_24 rfl rfl rfl rfl (fun w hc => by obtain ⟨G1, hle1, hrd1, hc, hth1⟩ := lend hc k9; obtain ⟨G2, hle2, hrd2, hc, hth2⟩ := lend hc k1; exact (kit_Same_api_Span_ok r_1.1 ([(⟨28, 30⟩ : api_Span), (⟨38, 40⟩ : api_Span), (⟨48, 50⟩ : api_Span), (⟨58, 60⟩ : api_Span)] : List api_Span) (hrd1.mono hle2) hrd2 hc (condT (notT hb) hr_8)).mono fun e w h => ⟨h.1, ((hth1 _ _ ((hth2 _ _ h.2).unpick k1)).unpick k9)⟩)) fun a w hf hc => ?_
      replace hf := castJ (u := undef) hb hf
      refine cNil ?_
      refine xThenN ?_
      intro ds u hau
      refine ⟨θ, he.put0 hi hau hf rfl 31 rfl rfl, ?_⟩
      try dsimp only
      rw [updE_tru 21 e20]
      rw [gE_T (notT hb)]
      exact hc
  · intro E θ a w hD hi hp he hc
    have e14 := hp.of (k := 14) rfl
    have e21 := hp.of (k := 21) rfl
    rcases boolEq ((((r_1.2 != 0) || (r_3.2 != 0)) || (r_5.2.2 != 0)) || (r_7.2.2 != 0)) with hb | hb
    · have hf := he.h0
      replace hf := hf.more he 24 rfl (onP e14)
      replace hf := castB hb hf
      replace hf := hf.more he 31 rfl (onP e21)
      replace hf := castCT hb hf
      refine stS hf rfl rfl rfl fun a hf => ?_
      replace hf := castI (u := .bool (!r_8)) hb hf
      refine cNil ?_
      refine xThenN ?_
      intro ds u hau
      refine ⟨θ, he.put0 hi hau hf rfl 32 rfl rfl, ?_⟩
      exact hc
    · have hf := he.h0
      replace hf := hf.more he 24 rfl (onP e14)
      replace hf := castB hb hf
      replace hf := hf.more he 31 rfl (onP e21)
      replace hf := castCF hb hf
      refine stP hf rfl rfl rfl (pNot rfl) fun a hf => ?_
      replace hf := castJ (u := undef) hb hf
      refine cNil ?_
      refine xThenN ?_
      intro ds u hau
      refine ⟨θ, he.put0 hi hau hf rfl 32 rfl rfl, ?_⟩
      exact hc
  · intro E θ a w hD hi hp he hc
    have e14 := hp.of (k := 14) rfl
    have e22 := hp.of (k := 22) rfl
    rcases boolEq ((((r_1.2 != 0) || (r_3.2 != 0)) || (r_5.2.2 != 0)) || (r_7.2.2 != 0)) with hb | hb
    · have hf := he.h0
      replace hf := hf.more he 24 rfl (onP e14)
      replace hf := castB hb hf
      replace hf := hf.more he 32 rfl (onP e22)
      replace hf := castCT hb hf
      refine stP hf rfl rfl rfl (pPt rfl rfl) fun a hf => ?_
      replace hf := castV (v' := .bool (((((r_1.2 != 0) || (r_3.2 != 0)) || (r_5.2.2 != 0)) || (r_7.2.2 != 0)) || (!r_8))) (congrArg Value.bool (orT hb)) hf
      refine cNil ?_
      refine xThenN ?_
      intro ds u hau
      refine ⟨θ, he.put0 hi hau hf rfl 33 rfl rfl, ?_⟩
      exact hc
    · have hf := he.h0
      replace hf := hf.more he 24 rfl (onP e14)
      replace hf := castB hb hf
      replace hf := hf.more he 32 rfl (onP e22)
      replace hf := castCF hb hf
      refine stP hf rfl rfl rfl (pPf rfl rfl) fun a hf => ?_
      replace hf := castV (v' := .bool (((((r_1.2 != 0) || (r_3.2 != 0)) || (r_5.2.2 != 0)) || (r_7.2.2 != 0)) || (!r_8))) (congrArg Value.bool (orF hb)) hf
      refine cNil ?_
      refine xThenN ?_
      intro ds u hau
      refine ⟨θ, he.put0 hi hau hf rfl 33 rfl rfl, ?_⟩
      exact hc
  · intro E θ a w hD hi hp he hc
    have e23 := hp.of (k := 23) rfl
    have hf := he.h0
    replace hf := hf.more he 33 rfl (onP e23)
    refine stP hf rfl rfl rfl (pM rfl) fun a hf => ?_
    refine cNil ?_
    refine xThenN ?_
    intro ds u hau
    refine ⟨θ, he.put0 hi hau hf rfl 34 rfl rfl, ?_⟩
    exact hc
  · intro E θ a w hD hi hp he hc
    have e24 := hp.of (k := 24) rfl
    rcases boolEq (((((r_1.2 != 0) || (r_3.2 != 0)) || (r_5.2.2 != 0)) || (r_7.2.2 != 0)) || (!r_8)) with hb | hb
    · have hf := he.h0
      replace hf := hf.more he 2 rfl onT
      replace hf := hf.more he 34 rfl (onP e24)
      replace hf := castB hb hf
      refine stS hf rfl rfl rfl fun a hf => ?_
      replace hf := castI (u := .agg #[.int .i64 r_3.1.Lo, .int .i64 r_3.1.Hi]) hb hf
      refine cNil ?_
      refine xThenN ?_
      intro ds u hau
      refine ⟨θ, he.put0 hi hau hf rfl 35 rfl rfl, ?_⟩
      exact hc
    · have hf := he.h0
      replace hf := hf.more he 2 rfl onT
      replace hf := hf.more he 34 rfl (onP e24)
      replace hf := castB hb hf
      refine stE hf hc rfl rfl rfl (eLdN (vs := [.int .i64 r_3.1.Lo, .int .i64 r_3.1.Hi]) ag_30 rfl rfl (cells_box (n := 2) m6 rfl)) fun a w hf hc => ?_
      replace hf := castJ (u := undef) hb hf
      refine cNil ?_
      refine xThenN ?_
      intro ds u hau
      refine ⟨θ, he.put0 hi hau hf rfl 35 rfl rfl, ?_⟩
      exact hc
  · intro E θ a w hD hi hp he hc
    have e24 := hp.of (k := 24) rfl
    rcases boolEq (((((r_1.2 != 0) || (r_3.2 != 0)) || (r_5.2.2 != 0)) || (r_7.2.2 != 0)) || (!r_8)) with hb | hb
    · have hf := he.h0
      replace hf := hf.more he 34 rfl (onP e24)
      replace hf := castB hb hf
      refine stS hf rfl rfl rfl fun a hf => ?_
      replace hf := castI (u := .agg #[.int .i64 r_9.Lo, .int .i64 r_9.Hi]) hb hf
      refine cNil ?_
      refine xThenN ?_
      intro ds u hau
      refine ⟨θ, he.put0 hi hau hf rfl 36 rfl rfl, ?_⟩
      exact hc
    · have hf := he.h0
      replace hf := hf.more he 34 rfl (onP e24)
      replace hf := castB hb hf
      refine stE hf hc rfl rfl rfl (eC (v := .agg #[.int .i64 r_9.Lo, .int .i64 r_9.Hi]) (vs := [.int .i64 86, .int .i64 90]) (caps := []) en_47 rfl rfl rfl rfl (fun w hc => law07_span_ok 86 90 hc (condT (notT hb) hr_9))) fun a w hf hc => ?_
      replace hf := castJ (u := undef) hb hf
      refine cNil ?_
      refine xThenN ?_
      intro ds u hau
      refine ⟨θ, he.put0 hi hau hf rfl 36 rfl rfl, ?_⟩
      exact hc
  · intro E θ a w hD hi hp he hc
    have e24 := hp.of (k := 24) rfl
    have e25 := hp.of (k := 25) rfl
    have e26 := hp.of (k := 26) rfl
    rcases boolEq (((((r_1.2 != 0) || (r_3.2 != 0)) || (r_5.2.2 != 0)) || (r_7.2.2 != 0)) || (!r_8)) with hb | hb
    · have hf := he.h0
      replace hf := hf.more he 34 rfl (onP e24)
      replace hf := castB hb hf
      replace hf := hf.more he 35 rfl (onP e25)
      replace hf := castCT hb hf
      replace hf := hf.more he 36 rfl (onP e26)
      replace hf := castCT hb hf
      refine stS hf rfl rfl rfl fun a hf => ?_
      replace hf := castI (u := .bool (!(r_3.1.Lo == r_9.Lo && r_3.1.Hi == r_9.Hi))) hb hf
      refine cNil ?_
      refine xThenN ?_
      intro ds u hau
      refine ⟨θ, he.put0 hi hau hf rfl 37 rfl rfl, ?_⟩
      exact hc
    · have hf := he.h0
      replace hf := hf.more he 34 rfl (onP e24)
      replace hf := castB hb hf
      replace hf := hf.more he 35 rfl (onP e25)
      replace hf := castCF hb hf
      replace hf := hf.more he 36 rfl (onP e26)
      replace hf := castCF hb hf
      refine stP hf rfl rfl rfl (pNeA ge_30 rfl rfl (eqs_30 _ _ _ _)) fun a hf => ?_
      replace hf := castJ (u := undef) hb hf
      refine cNil ?_
      refine xThenN ?_
      intro ds u hau
      refine ⟨θ, he.put0 hi hau hf rfl 37 rfl rfl, ?_⟩
      exact hc
  · intro E θ a w hD hi hp he hc
    have e24 := hp.of (k := 24) rfl
    have e27 := hp.of (k := 27) rfl
    rcases boolEq (((((r_1.2 != 0) || (r_3.2 != 0)) || (r_5.2.2 != 0)) || (r_7.2.2 != 0)) || (!r_8)) with hb | hb
    · have hf := he.h0
      replace hf := hf.more he 34 rfl (onP e24)
      replace hf := castB hb hf
      replace hf := hf.more he 37 rfl (onP e27)
      replace hf := castCT hb hf
      refine stP hf rfl rfl rfl (pPt rfl rfl) fun a hf => ?_
      replace hf := castV (v' := .bool ((((((r_1.2 != 0) || (r_3.2 != 0)) || (r_5.2.2 != 0)) || (r_7.2.2 != 0)) || (!r_8)) || (!(r_3.1.Lo == r_9.Lo && r_3.1.Hi == r_9.Hi)))) (congrArg Value.bool (orT hb)) hf
      refine cNil ?_
      refine xThenN ?_
      intro ds u hau
      refine ⟨θ, he.put0 hi hau hf rfl 38 rfl rfl, ?_⟩
      exact hc
    · have hf := he.h0
      replace hf := hf.more he 34 rfl (onP e24)
      replace hf := castB hb hf
      replace hf := hf.more he 37 rfl (onP e27)
      replace hf := castCF hb hf
      refine stP hf rfl rfl rfl (pPf rfl rfl) fun a hf => ?_
      replace hf := castV (v' := .bool ((((((r_1.2 != 0) || (r_3.2 != 0)) || (r_5.2.2 != 0)) || (r_7.2.2 != 0)) || (!r_8)) || (!(r_3.1.Lo == r_9.Lo && r_3.1.Hi == r_9.Hi)))) (congrArg Value.bool (orF hb)) hf
      refine cNil ?_
      refine xThenN ?_
      intro ds u hau
      refine ⟨θ, he.put0 hi hau hf rfl 38 rfl rfl, ?_⟩
      exact hc
  · intro E θ a w hD hi hp he hc
    have e28 := hp.of (k := 28) rfl
    have hf := he.h0
    replace hf := hf.more he 38 rfl (onP e28)
    refine stP hf rfl rfl rfl (pM rfl) fun a hf => ?_
    refine cNil ?_
    refine xThenN ?_
    intro ds u hau
    refine ⟨θ, he.put0 hi hau hf rfl 39 rfl rfl, ?_⟩
    exact hc
  · intro E θ a w hD hi hp he hc
    have e29 := hp.of (k := 29) rfl
    rcases boolEq ((((((r_1.2 != 0) || (r_3.2 != 0)) || (r_5.2.2 != 0)) || (r_7.2.2 != 0)) || (!r_8)) || (!(r_3.1.Lo == r_9.Lo && r_3.1.Hi == r_9.Hi))) with hb | hb
    · have hf := he.h0
      replace hf := hf.more he 4 rfl onT
      replace hf := hf.more he 39 rfl (onP e29)
      replace hf := castB hb hf
      refine stS hf rfl rfl rfl fun a hf => ?_
      replace hf := castI (u := .agg #[.int .i64 r_5.1.Lo, .int .i64 r_5.1.Hi]) hb hf
      refine cNil ?_
      refine xThenN ?_
      intro ds u hau
      refine ⟨θ, he.put0 hi hau hf rfl 40 rfl rfl, ?_⟩
      exact hc
    · have hf := he.h0
      replace hf := hf.more he 4 rfl onT
      replace hf := hf.more he 39 rfl (onP e29)
      replace hf := castB hb hf
      refine stE hf hc rfl rfl rfl (eLdN (vs := [.int .i64 r_5.1.Lo, .int .i64 r_5.1.Hi]) ag_30 rfl rfl (cells_box (n := 2) m3 rfl)) fun a w hf hc => ?_
      replace hf := castJ (u := undef) hb hf
      refine cNil ?_
      refine xThenN ?_
      intro ds u hau
      refine ⟨θ, he.put0 hi hau hf rfl 40 rfl rfl, ?_⟩
      exact hc
  · intro E θ a w hD hi hp he hc
    have e29 := hp.of (k := 29) rfl
    rcases boolEq ((((((r_1.2 != 0) || (r_3.2 != 0)) || (r_5.2.2 != 0)) || (r_7.2.2 != 0)) || (!r_8)) || (!(r_3.1.Lo == r_9.Lo && r_3.1.Hi == r_9.Hi))) with hb | hb
    · have hf := he.h0
      replace hf := hf.more he 39 rfl (onP e29)
      replace hf := castB hb hf
      refine stS hf rfl rfl rfl fun a hf => ?_
      replace hf := castI (u := .agg #[.int .i64 r_10.Lo, .int .i64 r_10.Hi]) hb hf
      refine cNil ?_
      refine xThenN ?_
      intro ds u hau
      refine ⟨θ, he.put0 hi hau hf rfl 41 rfl rfl, ?_⟩
      exact hc
    · have hf := he.h0
      replace hf := hf.more he 39 rfl (onP e29)
      replace hf := castB hb hf
      refine stE hf hc rfl rfl rfl (eC (v := .agg #[.int .i64 r_10.Lo, .int .i64 r_10.Hi]) (vs := [.int .i64 58, .int .i64 60]) (caps := []) en_47 rfl rfl rfl rfl (fun w hc => law07_span_ok 58 60 hc (condT (notT hb) hr_10))) fun a w hf hc => ?_
      replace hf := castJ (u := undef) hb hf
      refine cNil ?_
      refine xThenN ?_
      intro ds u hau
      refine ⟨θ, he.put0 hi hau hf rfl 41 rfl rfl, ?_⟩
      exact hc
  · intro E θ a w hD hi hp he hc
    have e29 := hp.of (k := 29) rfl
    have e30 := hp.of (k := 30) rfl
    have e31 := hp.of (k := 31) rfl
    rcases boolEq ((((((r_1.2 != 0) || (r_3.2 != 0)) || (r_5.2.2 != 0)) || (r_7.2.2 != 0)) || (!r_8)) || (!(r_3.1.Lo == r_9.Lo && r_3.1.Hi == r_9.Hi))) with hb | hb
    · have hf := he.h0
      replace hf := hf.more he 39 rfl (onP e29)
      replace hf := castB hb hf
      replace hf := hf.more he 40 rfl (onP e30)
      replace hf := castCT hb hf
      replace hf := hf.more he 41 rfl (onP e31)
      replace hf := castCT hb hf
      refine stS hf rfl rfl rfl fun a hf => ?_
      replace hf := castI (u := .bool (!(r_5.1.Lo == r_10.Lo && r_5.1.Hi == r_10.Hi))) hb hf
      refine cNil ?_
      refine xThenN ?_
      intro ds u hau
      refine ⟨θ, he.put0 hi hau hf rfl 42 rfl rfl, ?_⟩
      exact hc
    · have hf := he.h0
      replace hf := hf.more he 39 rfl (onP e29)
      replace hf := castB hb hf
      replace hf := hf.more he 40 rfl (onP e30)
      replace hf := castCF hb hf
      replace hf := hf.more he 41 rfl (onP e31)
      replace hf := castCF hb hf
      refine stP hf rfl rfl rfl (pNeA ge_30 rfl rfl (eqs_30 _ _ _ _)) fun a hf => ?_
      replace hf := castJ (u := undef) hb hf
      refine cNil ?_
      refine xThenN ?_
      intro ds u hau
      refine ⟨θ, he.put0 hi hau hf rfl 42 rfl rfl, ?_⟩
      exact hc
  · intro E θ a w hD hi hp he hc
    have e29 := hp.of (k := 29) rfl
    have e32 := hp.of (k := 32) rfl
    rcases boolEq ((((((r_1.2 != 0) || (r_3.2 != 0)) || (r_5.2.2 != 0)) || (r_7.2.2 != 0)) || (!r_8)) || (!(r_3.1.Lo == r_9.Lo && r_3.1.Hi == r_9.Hi))) with hb | hb
    · have hf := he.h0
      replace hf := hf.more he 39 rfl (onP e29)
      replace hf := castB hb hf
      replace hf := hf.more he 42 rfl (onP e32)
      replace hf := castCT hb hf
      refine stP hf rfl rfl rfl (pPt rfl rfl) fun a hf => ?_
      replace hf := castV (v' := .bool (((((((r_1.2 != 0) || (r_3.2 != 0)) || (r_5.2.2 != 0)) || (r_7.2.2 != 0)) || (!r_8)) || (!(r_3.1.Lo == r_9.Lo && r_3.1.Hi == r_9.Hi))) || (!(r_5.1.Lo == r_10.Lo && r_5.1.Hi == r_10.Hi)))) (congrArg Value.bool (orT hb)) hf
      refine cNil ?_
      refine xThenN ?_
      intro ds u hau
      refine ⟨θ, he.put0 hi hau hf rfl 43 rfl rfl, ?_⟩
      exact hc
    · have hf := he.h0
      replace hf := hf.more he 39 rfl (onP e29)
      replace hf := castB hb hf
      replace hf := hf.more he 42 rfl (onP e32)
      replace hf := castCF hb hf
      refine stP hf rfl rfl rfl (pPf rfl rfl) fun a hf => ?_
      replace hf := castV (v' := .bool (((((((r_1.2 != 0) || (r_3.2 != 0)) || (r_5.2.2 != 0)) || (r_7.2.2 != 0)) || (!r_8)) || (!(r_3.1.Lo == r_9.Lo && r_3.1.Hi == r_9.Hi))) || (!(r_5.1.Lo == r_10.Lo && r_5.1.Hi == r_10.Hi)))) (congrArg Value.bool (orF hb)) hf
      refine cNil ?_
      refine xThenN ?_
      intro ds u hau
      refine ⟨θ, he.put0 hi hau hf rfl 43 rfl rfl, ?_⟩
      exact hc
  · intro E θ a w hD hi hp he hc
    have e33 := hp.of (k := 33) rfl
    have hf := he.h0
    replace hf := hf.more he 43 rfl (onP e33)
    refine stP hf rfl rfl rfl (pM rfl) fun a hf => ?_
    refine cNil ?_
    refine xThenN ?_
    intro ds u hau
    refine ⟨θ, he.put0 hi hau hf rfl 44 rfl rfl, ?_⟩
    exact hc
  · intro E θ a w hD hi hp he hc
    have e34 := hp.of (k := 34) rfl
    rcases boolEq (((((((r_1.2 != 0) || (r_3.2 != 0)) || (r_5.2.2 != 0)) || (r_7.2.2 != 0)) || (!r_8)) || (!(r_3.1.Lo == r_9.Lo && r_3.1.Hi == r_9.Hi))) || (!(r_5.1.Lo == r_10.Lo && r_5.1.Hi == r_10.Hi))) with hb | hb
    · have hf := he.h0
      replace hf := hf.more he 5 rfl onT
      replace hf := hf.more he 44 rfl (onP e34)
      replace hf := castB hb hf
      refine stS hf rfl rfl rfl fun a hf => ?_
      replace hf := castI (u := .slice p_5 r_5.2.1.length c_5) hb hf
      refine cNil ?_
      refine xThenN ?_
      intro ds u hau
      refine ⟨θ, he.put0 hi hau hf rfl 45 rfl rfl, ?_⟩
      exact hc
    · have hf := he.h0
      replace hf := hf.more he 5 rfl onT
      replace hf := hf.more he 44 rfl (onP e34)
      replace hf := castB hb hf
      refine stP hf rfl rfl rfl (pM rfl) fun a hf => ?_
      replace hf := castJ (u := undef) hb hf
      refine cNil ?_
      refine xThenN ?_
      intro ds u hau
      refine ⟨θ, he.put0 hi hau hf rfl 45 rfl rfl, ?_⟩
      exact hc
  · intro E θ a w hD hi hp he hc
    have e34 := hp.of (k := 34) rfl
    try dsimp only at hc
    rw [hi] at hc
    rcases boolEq (((((((r_1.2 != 0) || (r_3.2 != 0)) || (r_5.2.2 != 0)) || (r_7.2.2 != 0)) || (!r_8)) || (!(r_3.1.Lo == r_9.Lo && r_3.1.Hi == r_9.Hi))) || (!(r_5.1.Lo == r_10.Lo && r_5.1.Hi == r_10.Hi))) with hb | hb
    · have hf := he.h0
      replace hf := hf.more he 44 rfl (onP e34)
      replace hf := castB hb hf
      refine stS hf rfl rfl rfl fun a hf => ?_
      replace hf := castI (u := .slice (some ⟨(θ 288).b, 0, none⟩) 1 1) hb hf
      refine cNil ?_
      refine xThenN ?_
      intro ds u hau
      refine ⟨θ, he.put0 hi hau hf rfl 46 rfl rfl, ?_⟩
      try dsimp only
      rw [updE_self E 36]
      rw [gE_F (notF hb)]
      exact hc
    · have hf := he.h0
      replace hf := hf.more he 44 rfl (onP e34)
      replace hf := castB hb hf
      refine stBS (rows := ([3] : List Int).map encI_i64) (vs := [(0, .int .i64 3)]) hf hc rfl rfl sl_39 rfl ⟨rfl, rfl, rfl, trivial⟩ rfl rfl fun b_4 a w hf hc => ?_
      replace hf := castJ (u := undef) hb hf
      refine cNil ?_
      refine xThenN ?_
      intro ds u hau
      replace hc := hc.drop k1
      refine ⟨(setT θ 288 ⟨b_4, none, 0⟩), he.put hi hau hf rfl [] trivial ⟨qq, qq, qq, qq, qq, qq, qq, qq, qq, qq, qq, qq, qq, qq, qq, qq, qq, qq, qq, qq, qq, qq, qq, qq, qq, qq, qq, qq, qq, qq, qq, qq, qq, qq, qq, qq, qq, qq, qq, qq, qq, qq, qq, qq, qq, qq, qq, qq, qq, qq, qq, qq, qq, qq, qq, qq, qq, qq, trivial⟩, ?_⟩
      try dsimp only
      rw [updE_self E 36]
      rw [gE_T (notT hb)]
      exact hc
  · intro E θ a w hD hi hp he hc
    have e34 := hp.of (k := 34) rfl
    have e35 := hp.of (k := 35) rfl
    have e36 := hp.of (k := 36) rfl
    try dsimp only at hc
    rw [e36] at hc
    rcases boolEq (((((((r_1.2 != 0) || (r_3.2 != 0)) || (r_5.2.2 != 0)) || (r_7.2.2 != 0)) || (!r_8)) || (!(r_3.1.Lo == r_9.Lo && r_3.1.Hi == r_9.Hi))) || (!(r_5.1.Lo == r_10.Lo && r_5.1.Hi == r_10.Hi))) with hb | hb
    · have hf := he.h0
      replace hf := hf.more he 44 rfl (onP e34)
      replace hf := castB hb hf
      replace hf := hf.more he 45 rfl (onP e35)
      replace hf := castCT hb hf
      replace hf := hf.more he 46 rfl (onP e36)
      replace hf := castCT hb hf
      rw [gE_F (notF hb)] at hc
      refine stS hf rfl rfl rfl fun a hf => ?_
      replace hf := castI (u := .bool r_11) hb hf
      refine cNil ?_
      refine xThenN ?_
      intro ds u hau
      refine ⟨θ, he.put0 hi hau hf rfl 47 rfl rfl, ?_⟩
      try dsimp only
      rw [updE_tru 37 e36]
      rw [gE_F (notF hb)]
      exact hc
    · have hf := he.h0
      replace hf := hf.more he 44 rfl (onP e34)
      replace hf := castB hb hf
      replace hf := hf.more he 45 rfl (onP e35)
      replace hf := castCF hb hf
      replace hf := hf.more he 46 rfl (onP e36)
      replace hf := castCF hb hf
      rw [gE_T (notT hb)] at hc
      refine stE hf hc rfl rfl rfl (eC (v := .bool r_11) (vs := [.slice p_5 r_5.2.1.length c_5, .slice (some ⟨(θ 288).b, 0, none⟩) 1 1]) (caps := []) en_20 rfl rfl rfl rfl (fun w hc => by obtain ⟨G1, hle1, hrd1, hc, hth1⟩ := lend hc k5; obtain ⟨G2, hle2, hrd2, hc, hth2⟩ := lend hc k0; exact (kit_Same_int_ok r_5.2.1 ([3] : List Int) (hrd1.mono hle2) hrd2 hc (condT (notT hb) hr_11)).mono fun e w h => ⟨h.1, ((hth1 _ _ ((hth2 _ _ h.2).unpick k0)).unpick k5)⟩)) fun a w hf hc => ?_
      replace hf := castJ (u := undef) hb hf
      refine cNil ?_
      refine xThenN ?_
      intro ds u hau
      refine ⟨θ, he.put0 hi hau hf rfl 47 rfl rfl, ?_⟩
      try dsimp only
      rw [updE_tru 37 e36]
      rw [gE_T (notT hb)]
      exact hc
  · intro E θ a w hD hi hp he hc
    have e34 := hp.of (k := 34) rfl
    have e37 := hp.of (k := 37) rfl
    rcases boolEq (((((((r_1.2 != 0) || (r_3.2 != 0)) || (r_5.2.2 != 0)) || (r_7.2.2 != 0)) || (!r_8)) || (!(r_3.1.Lo == r_9.Lo && r_3.1.Hi == r_9.Hi))) || (!(r_5.1.Lo == r_10.Lo && r_5.1.Hi == r_10.Hi))) with hb | hb
    · have hf := he.h0
      replace hf := hf.more he 44 rfl (onP e34)
      replace hf := castB hb hf
      replace hf := hf.more he 47 rfl (onP e37)
      replace hf := castCT hb hf
      refine stS hf rfl rfl rfl fun a hf => ?_
      replace hf := castI (u := .bool (!r_11)) hb hf
      refine cNil ?_
      refine xThenN ?_
      intro ds u hau
      refine ⟨θ, he.put0 hi hau hf rfl 48 rfl rfl, ?_⟩
      exact hc
    · have hf := he.h0
      replace hf := hf.more he 44 rfl (onP e34)
      replace hf := castB hb hf
      replace hf := hf.more he 47 rfl (onP e37)
      replace hf := castCF hb hf
      refine stP hf rfl rfl rfl (pNot rfl) fun a hf => ?_
      replace hf := castJ (u := undef) hb hf
      refine cNil ?_
      refine xThenN ?_
      intro ds u hau
      refine ⟨θ, he.put0 hi hau hf rfl 48 rfl rfl, ?_⟩
      exact hc
  · intro E θ a w hD hi hp he hc
    have e34 := hp.of (k := 34) rfl
    have e38 := hp.of (k := 38) rfl
    rcases boolEq (((((((r_1.2 != 0) || (r_3.2 != 0)) || (r_5.2.2 != 0)) || (r_7.2.2 != 0)) || (!r_8)) || (!(r_3.1.Lo == r_9.Lo && r_3.1.Hi == r_9.Hi))) || (!(r_5.1.Lo == r_10.Lo && r_5.1.Hi == r_10.Hi))) with hb | hb
    · have hf := he.h0
      replace hf := hf.more he 44 rfl (onP e34)
      replace hf := castB hb hf
      replace hf := hf.more he 48 rfl (onP e38)
      replace hf := castCT hb hf
      refine stP hf rfl rfl rfl (pPt rfl rfl) fun a hf => ?_
      replace hf := castV (v' := .bool ((((((((r_1.2 != 0) || (r_3.2 != 0)) || (r_5.2.2 != 0)) || (r_7.2.2 != 0)) || (!r_8)) || (!(r_3.1.Lo == r_9.Lo && r_3.1.Hi == r_9.Hi))) || (!(r_5.1.Lo == r_10.Lo && r_5.1.Hi == r_10.Hi))) || (!r_11))) (congrArg Value.bool (orT hb)) hf
      refine cNil ?_
      refine xThenN ?_
      intro ds u hau
      refine ⟨θ, he.put0 hi hau hf rfl 49 rfl rfl, ?_⟩
      exact hc
    · have hf := he.h0
      replace hf := hf.more he 44 rfl (onP e34)
      replace hf := castB hb hf
      replace hf := hf.more he 48 rfl (onP e38)
      replace hf := castCF hb hf
      refine stP hf rfl rfl rfl (pPf rfl rfl) fun a hf => ?_
      replace hf := castV (v' := .bool ((((((((r_1.2 != 0) || (r_3.2 != 0)) || (r_5.2.2 != 0)) || (r_7.2.2 != 0)) || (!r_8)) || (!(r_3.1.Lo == r_9.Lo && r_3.1.Hi == r_9.Hi))) || (!(r_5.1.Lo == r_10.Lo && r_5.1.Hi == r_10.Hi))) || (!r_11))) (congrArg Value.bool (orF hb)) hf
      refine cNil ?_
      refine xThenN ?_
      intro ds u hau
      refine ⟨θ, he.put0 hi hau hf rfl 49 rfl rfl, ?_⟩
      exact hc
  · intro E θ a w hD hi hp he hc
    have e39 := hp.of (k := 39) rfl
    have hf := he.h0
    replace hf := hf.more he 49 rfl (onP e39)
    refine stP hf rfl rfl rfl (pM rfl) fun a hf => ?_
    refine cNil ?_
    refine xThenN ?_
    intro ds u hau
    refine ⟨θ, he.put0 hi hau hf rfl 50 rfl rfl, ?_⟩
    exact hc
  · intro E θ a w hD hi hp he hc
    have e40 := hp.of (k := 40) rfl
    rcases boolEq ((((((((r_1.2 != 0) || (r_3.2 != 0)) || (r_5.2.2 != 0)) || (r_7.2.2 != 0)) || (!r_8)) || (!(r_3.1.Lo == r_9.Lo && r_3.1.Hi == r_9.Hi))) || (!(r_5.1.Lo == r_10.Lo && r_5.1.Hi == r_10.Hi))) || (!r_11)) with hb | hb
    · have hf := he.h0
      replace hf := hf.more he 7 rfl onT
      replace hf := hf.more he 50 rfl (onP e40)
      replace hf := castB hb hf
      refine stS hf rfl rfl rfl fun a hf => ?_
      replace hf := castI (u := .int .i64 r_7.1) hb hf
      refine cNil ?_
      refine xThenN ?_
      intro ds u hau
      refine ⟨θ, he.put0 hi hau hf rfl 51 rfl rfl, ?_⟩
      exact hc
    · have hf := he.h0
      replace hf := hf.more he 7 rfl onT
      replace hf := hf.more he 50 rfl (onP e40)
      replace hf := castB hb hf
      refine stP hf rfl rfl rfl (pM rfl) fun a hf => ?_
      replace hf := castJ (u := undef) hb hf
      refine cNil ?_
      refine xThenN ?_
      intro ds u hau
      refine ⟨θ, he.put0 hi hau hf rfl 51 rfl rfl, ?_⟩
      exact hc
  · intro E θ a w hD hi hp he hc
    have e40 := hp.of (k := 40) rfl
    have e41 := hp.of (k := 41) rfl
    rcases boolEq ((((((((r_1.2 != 0) || (r_3.2 != 0)) || (r_5.2.2 != 0)) || (r_7.2.2 != 0)) || (!r_8)) || (!(r_3.1.Lo == r_9.Lo && r_3.1.Hi == r_9.Hi))) || (!(r_5.1.Lo == r_10.Lo && r_5.1.Hi == r_10.Hi))) || (!r_11)) with hb | hb
    · have hf := he.h0
      replace hf := hf.more he 50 rfl (onP e40)
      replace hf := castB hb hf
      replace hf := hf.more he 51 rfl (onP e41)
      replace hf := castCT hb hf
      refine stS hf rfl rfl rfl fun a hf => ?_
      replace hf := castI (u := .bool (r_7.1 != 0)) hb hf
      refine cNil ?_
      refine xThenN ?_
      intro ds u hau
      refine ⟨θ, he.put0 hi hau hf rfl 52 rfl rfl, ?_⟩
      exact hc
    · have hf := he.h0
      replace hf := hf.more he 50 rfl (onP e40)
      replace hf := castB hb hf
      replace hf := hf.more he 51 rfl (onP e41)
      replace hf := castCF hb hf
      refine stP hf rfl rfl rfl (pNe rfl rfl) fun a hf => ?_
      replace hf := castJ (u := undef) hb hf
      refine cNil ?_
      refine xThenN ?_
      intro ds u hau
      refine ⟨θ, he.put0 hi hau hf rfl 52 rfl rfl, ?_⟩
      exact hc
  · intro E θ a w hD hi hp he hc
    have e40 := hp.of (k := 40) rfl
    have e42 := hp.of (k := 42) rfl
    rcases boolEq ((((((((r_1.2 != 0) || (r_3.2 != 0)) || (r_5.2.2 != 0)) || (r_7.2.2 != 0)) || (!r_8)) || (!(r_3.1.Lo == r_9.Lo && r_3.1.Hi == r_9.Hi))) || (!(r_5.1.Lo == r_10.Lo && r_5.1.Hi == r_10.Hi))) || (!r_11)) with hb | hb
    · have hf := he.h0
      replace hf := hf.more he 50 rfl (onP e40)
      replace hf := castB hb hf
      replace hf := hf.more he 52 rfl (onP e42)
      replace hf := castCT hb hf
      refine stP hf rfl rfl rfl (pPt rfl rfl) fun a hf => ?_
      replace hf := castV (v' := .bool (((((((((r_1.2 != 0) || (r_3.2 != 0)) || (r_5.2.2 != 0)) || (r_7.2.2 != 0)) || (!r_8)) || (!(r_3.1.Lo == r_9.Lo && r_3.1.Hi == r_9.Hi))) || (!(r_5.1.Lo == r_10.Lo && r_5.1.Hi == r_10.Hi))) || (!r_11)) || (r_7.1 != 0))) (congrArg Value.bool (orT hb)) hf
      refine cNil ?_
      refine xThenN ?_
      intro ds u hau
      refine ⟨θ, he.put0 hi hau hf rfl 53 rfl rfl, ?_⟩
      exact hc
    · have hf := he.h0
      replace hf := hf.more he 50 rfl (onP e40)
      replace hf := castB hb hf
      replace hf := hf.more he 52 rfl (onP e42)
      replace hf := castCF hb hf
      refine stP hf rfl rfl rfl (pPf rfl rfl) fun a hf => ?_
      replace hf := castV (v' := .bool (((((((((r_1.2 != 0) || (r_3.2 != 0)) || (r_5.2.2 != 0)) || (r_7.2.2 != 0)) || (!r_8)) || (!(r_3.1.Lo == r_9.Lo && r_3.1.Hi == r_9.Hi))) || (!(r_5.1.Lo == r_10.Lo && r_5.1.Hi == r_10.Hi))) || (!r_11)) || (r_7.1 != 0))) (congrArg Value.bool (orF hb)) hf
      refine cNil ?_
      refine xThenN ?_
      intro ds u hau
      refine ⟨θ, he.put0 hi hau hf rfl 53 rfl rfl, ?_⟩
      exact hc
  · intro E θ a w hD hi hp he hc
    have e43 := hp.of (k := 43) rfl
    have hf := he.h0
    replace hf := hf.more he 53 rfl (onP e43)
    refine stP hf rfl rfl rfl (pM rfl) fun a hf => ?_
    refine cNil ?_
    refine xThenN ?_
    intro ds u hau
    refine ⟨θ, he.put0 hi hau hf rfl 54 rfl rfl, ?_⟩
    exact hc
  · intro E θ a w hD hi hp he hc
    have e44 := hp.of (k := 44) rfl
    rcases boolEq (((((((((r_1.2 != 0) || (r_3.2 != 0)) || (r_5.2.2 != 0)) || (r_7.2.2 != 0)) || (!r_8)) || (!(r_3.1.Lo == r_9.Lo && r_3.1.Hi == r_9.Hi))) || (!(r_5.1.Lo == r_10.Lo && r_5.1.Hi == r_10.Hi))) || (!r_11)) || (r_7.1 != 0)) with hb | hb
    · have hf := he.h0
      replace hf := hf.more he 8 rfl onT
      replace hf := hf.more he 54 rfl (onP e44)
      replace hf := castB hb hf
      refine stS hf rfl rfl rfl fun a hf => ?_
      replace hf := castI (u := .int .i64 r_7.2.1) hb hf
      refine cNil ?_
      refine xThenN ?_
      intro ds u hau
      refine ⟨θ, he.put0 hi hau hf rfl 55 rfl rfl, ?_⟩
      exact hc
    · have hf := he.h0
      replace hf := hf.more he 8 rfl onT
      replace hf := hf.more he 54 rfl (onP e44)
      replace hf := castB hb hf
      refine stP hf rfl rfl rfl (pM rfl) fun a hf => ?_
      replace hf := castJ (u := undef) hb hf
      refine cNil ?_
      refine xThenN ?_
      intro ds u hau
      refine ⟨θ, he.put0 hi hau hf rfl 55 rfl rfl, ?_⟩
      exact hc
  · intro E θ a w hD hi hp he hc
    have e44 := hp.of (k := 44) rfl
    have e45 := hp.of (k := 45) rfl
    rcases boolEq (((((((((r_1.2 != 0) || (r_3.2 != 0)) || (r_5.2.2 != 0)) || (r_7.2.2 != 0)) || (!r_8)) || (!(r_3.1.Lo == r_9.Lo && r_3.1.Hi == r_9.Hi))) || (!(r_5.1.Lo == r_10.Lo && r_5.1.Hi == r_10.Hi))) || (!r_11)) || (r_7.1 != 0)) with hb | hb
    · have hf := he.h0
      replace hf := hf.more he 54 rfl (onP e44)
      replace hf := castB hb hf
      replace hf := hf.more he 55 rfl (onP e45)
      replace hf := castCT hb hf
      refine stS hf rfl rfl rfl fun a hf => ?_
      replace hf := castI (u := .bool (r_7.2.1 != 3)) hb hf
      refine cNil ?_
      refine xThenN ?_
      intro ds u hau
      refine ⟨θ, he.put0 hi hau hf rfl 56 rfl rfl, ?_⟩
      exact hc
    · have hf := he.h0
      replace hf := hf.more he 54 rfl (onP e44)
      replace hf := castB hb hf
      replace hf := hf.more he 55 rfl (onP e45)
      replace hf := castCF hb hf
      refine stP hf rfl rfl rfl (pNe rfl rfl) fun a hf => ?_
      replace hf := castJ (u := undef) hb hf
      refine cNil ?_
      refine xThenN ?_
      intro ds u hau
      refine ⟨θ, he.put0 hi hau hf rfl 56 rfl rfl, ?_⟩
      exact hc
  · intro E θ a w hD hi hp he hc
    have e44 := hp.of (k := 44) rfl
    have e46 := hp.of (k := 46) rfl
    rcases boolEq (((((((((r_1.2 != 0) || (r_3.2 != 0)) || (r_5.2.2 != 0)) || (r_7.2.2 != 0)) || (!r_8)) || (!(r_3.1.Lo == r_9.Lo && r_3.1.Hi == r_9.Hi))) || (!(r_5.1.Lo == r_10.Lo && r_5.1.Hi == r_10.Hi))) || (!r_11)) || (r_7.1 != 0)) with hb | hb
    · have hf := he.h0
      replace hf := hf.more he 54 rfl (onP e44)
      replace hf := castB hb hf
      replace hf := hf.more he 56 rfl (onP e46)
      replace hf := castCT hb hf
      refine stP hf rfl rfl rfl (pPt rfl rfl) fun a hf => ?_
      replace hf := castV (v' := .bool ((((((((((r_1.2 != 0) || (r_3.2 != 0)) || (r_5.2.2 != 0)) || (r_7.2.2 != 0)) || (!r_8)) || (!(r_3.1.Lo == r_9.Lo && r_3.1.Hi == r_9.Hi))) || (!(r_5.1.Lo == r_10.Lo && r_5.1.Hi == r_10.Hi))) || (!r_11)) || (r_7.1 != 0)) || (r_7.2.1 != 3))) (congrArg Value.bool (orT hb)) hf
      refine cNil ?_
      refine xThenN ?_
      intro ds u hau
      refine ⟨θ, he.put0 hi hau hf rfl 57 rfl rfl, ?_⟩
      exact hc
    · have hf := he.h0
      replace hf := hf.more he 54 rfl (onP e44)
      replace hf := castB hb hf
      replace hf := hf.more he 56 rfl (onP e46)
      replace hf := castCF hb hf
      refine stP hf rfl rfl rfl (pPf rfl rfl) fun a hf => ?_
      replace hf := castV (v' := .bool ((((((((((r_1.2 != 0) || (r_3.2 != 0)) || (r_5.2.2 != 0)) || (r_7.2.2 != 0)) || (!r_8)) || (!(r_3.1.Lo == r_9.Lo && r_3.1.Hi == r_9.Hi))) || (!(r_5.1.Lo == r_10.Lo && r_5.1.Hi == r_10.Hi))) || (!r_11)) || (r_7.1 != 0)) || (r_7.2.1 != 3))) (congrArg Value.bool (orF hb)) hf
      refine cNil ?_
      refine xThenN ?_
      intro ds u hau
      refine ⟨θ, he.put0 hi hau hf rfl 57 rfl rfl, ?_⟩
      exact hc
  · intro E θ a w hall he hc
    have hf := he.h0
    have e20 := hall 20 rfl
    have e36 := hall 36 rfl
    have e47 := hall 47 rfl
    replace hf := hf.more he 57 rfl (onP e47)
    try dsimp only at hc
    rw [e20, e36] at hc
    replace hc := hc.drop k1
    replace hc := hc.drop k0
    exact ⟨hf.keep ⟨rfl, trivial⟩, hc⟩
  rintro a w ⟨hf, hc⟩
  refine h7 _ _ ?_
  refine cCond (b := ((((((((((r_1.2 != 0) || (r_3.2 != 0)) || (r_5.2.2 != 0)) || (r_7.2.2 != 0)) || (!r_8)) || (!(r_3.1.Lo == r_9.Lo && r_3.1.Hi == r_9.Hi))) || (!(r_5.1.Lo == r_10.Lo && r_5.1.Hi == r_10.Hi))) || (!r_11)) || (r_7.1 != 0)) || (r_7.2.1 != 3))) hf rfl (fun hb => ?_) (fun hb => ?_)
  · replace hF := condT hb hF
    clear hb
    refine wp_seq_k fun K8 h8 => ?_
    refine cReg ?_
    refine stP hf rfl rfl rfl (pA rfl) fun a hf => ?_
    refine cNil ?_
    refine h8 _ _ ?_
    refine wp_ret ?_
    refine xThenR ?_
    obtain rfl := Option.some.inj hF
    replace hc := hc.drop k7
    replace hc := hc.drop k6
    replace hc := hc.drop k5
    replace hc := hc.drop k4
    replace hc := hc.drop k3
    replace hc := hc.drop k2
    replace hc := hc.drop k1
    replace hc := hc.drop k0
    exact fnOut1 (by simp) rfl Try.results12 hf hc (show look _ 0 = _ from rfl) ⟨rfl, hc⟩
  · replace hF := condF hb hF
    clear hb
    refine wp_skip ?_
    refine h6 _ _ ?_
    refine wp_seq_k fun K9 h9 => ?_
    refine cReg ?_
    obtain ⟨r_12, hr_12, hF⟩ := bnd_some hF
    refine stC (vs := [.int .i64 58]) (caps := []) hf rfl rfl rfl en_58 rfl rfl rfl rfl (law07_Four_ok 58 hc hr_12) ?_
    rintro _ w ⟨p_7, c_7, rfl, hc⟩
    refine ⟨_, rfl, fun a hf => ?_⟩
    refine stP hf rfl rfl rfl (pBuildS (cells := [.int .i64 20, .int .i64 35]) bt_30 rfl rfl) fun a hf => ?_
    refine stP hf rfl rfl rfl (pBuildS (cells := [.int .i64 30, .int .i64 40]) bt_30 rfl rfl) fun a hf => ?_
    refine stP hf rfl rfl rfl (pBuildS (cells := [.int .i64 49, .int .i64 60]) bt_30 rfl rfl) fun a hf => ?_
    refine stP hf rfl rfl rfl (pBuildS (cells := [.int .i64 50, .int .i64 60]) bt_30 rfl rfl) fun a hf => ?_
    refine stBS (rows := ([(⟨20, 35⟩ : api_Span), (⟨30, 40⟩ : api_Span), (⟨49, 60⟩ : api_Span), (⟨50, 60⟩ : api_Span)] : List api_Span).map enc_api_Span) (vs := [(0, .agg #[.int .i64 20, .int .i64 35]), (1, .agg #[.int .i64 30, .int .i64 40]), (2, .agg #[.int .i64 49, .int .i64 60]), (3, .agg #[.int .i64 50, .int .i64 60])]) hf hc rfl rfl sl_25 rfl ⟨rfl, rfl, rfl, rfl, rfl, rfl, rfl, rfl, rfl, rfl, rfl, rfl, trivial⟩ rfl rfl fun b_5 a w hf hc => ?_
    obtain ⟨r_13, hr_13, hF⟩ := bnd_some hF
    obtain ⟨G1, hle1, hrd1, hc, hth1⟩ := lend hc k1
    obtain ⟨G2, hle2, hrd2, hc, hth2⟩ := lend hc k0
    refine stC (vs := [.agg #[.int .i64 r_12.Rise, .int .i64 r_12.Fall, .slice p_7 r_12.Days.length c_7], .slice (some ⟨b_5, 0, none⟩) 4 4]) (caps := []) hf rfl rfl rfl en_21 rfl rfl rfl rfl (daily_Again_ok r_12 ([(⟨20, 35⟩ : api_Span), (⟨30, 40⟩ : api_Span), (⟨49, 60⟩ : api_Span), (⟨50, 60⟩ : api_Span)] : List api_Span) (hrd1.mono hle2) hrd2 hc hr_13) ?_
    rintro _ w ⟨p_8, c_8, rfl, hc⟩
    refine ⟨_, rfl, fun a hf => ?_⟩
    replace hc := hth2 _ _ hc
    replace hc := hth1 _ _ hc
    refine stP hf rfl rfl rfl (pM rfl) fun a hf => ?_
    refine stP hf rfl rfl rfl (pX rfl rfl) fun a hf => ?_
    refine stP hf rfl rfl rfl (pX rfl rfl) fun a hf => ?_
    refine stP hf rfl rfl rfl (pA rfl) fun a hf => ?_
    refine stP hf rfl rfl rfl (pA rfl) fun a hf => ?_
    refine cNil ?_
    refine h9 _ _ ?_
    refine wp_seq_k fun K10 h10 => ?_
    refine cReg ?_
    refine stBS (rows := ([10, 14, 12, 20] : List Int).map encI_i64) (vs := [(0, .int .i64 10), (1, .int .i64 14), (2, .int .i64 12), (3, .int .i64 20)]) hf hc rfl rfl sl_39 rfl ⟨rfl, rfl, rfl, rfl, rfl, rfl, rfl, rfl, rfl, rfl, rfl, rfl, trivial⟩ rfl rfl fun b_6 a w hf hc => ?_
    obtain ⟨r_14, hr_14, hF⟩ := bnd_some hF
    obtain ⟨G1, hle1, hrd1, hc, hth1⟩ := lend hc k0
    refine stC (vs := [.slice (some ⟨b_6, 0, none⟩) 4 4]) (caps := []) hf rfl rfl rfl en_59 rfl rfl rfl rfl (law07_Counter_ok ([10, 14, 12, 20] : List Int) hrd1 hc hr_14) ?_
    rintro _ w ⟨p_9, c_9, rfl, hc⟩
    refine ⟨_, rfl, fun a hf => ?_⟩
    replace hc := hth1 _ _ hc
    obtain ⟨r_15, hr_15, hF⟩ := bnd_some hF
    obtain ⟨G1, hle1, hrd1, hc, hth1⟩ := lend hc k1
    refine stC (vs := [.slice p_9 r_14.length c_9]) (caps := []) hf rfl rfl rfl en_51 rfl rfl rfl rfl (daily_Correct_ok r_14 hrd1 hc hr_15) ?_
    rintro _ w ⟨p_10, c_10, rfl, hc⟩
    refine ⟨_, rfl, fun a hf => ?_⟩
    replace hc := hth1 _ _ hc
    refine stP hf rfl rfl rfl (pM rfl) fun a hf => ?_
    refine stP hf rfl rfl rfl (pX rfl rfl) fun a hf => ?_
    refine stP hf rfl rfl rfl (pX rfl rfl) fun a hf => ?_
    refine stP hf rfl rfl rfl (pX rfl rfl) fun a hf => ?_
    refine stP hf rfl rfl rfl (pA rfl) fun a hf => ?_
    refine stP hf rfl rfl rfl (pA rfl) fun a hf => ?_
    refine stP hf rfl rfl rfl (pA rfl) fun a hf => ?_
    refine cNil ?_
    refine h10 _ _ ?_
    refine wp_seq_k fun K11 h11 => ?_
    refine cReg ?_
    refine stBS (rows := ([9, 5, 7, 3] : List Int).map encI_i64) (vs := [(0, .int .i64 9), (1, .int .i64 5), (2, .int .i64 7), (3, .int .i64 3)]) hf hc rfl rfl sl_39 rfl ⟨rfl, rfl, rfl, rfl, rfl, rfl, rfl, rfl, rfl, rfl, rfl, rfl, trivial⟩ rfl rfl fun b_7 a w hf hc => ?_
    obtain ⟨r_16, hr_16, hF⟩ := bnd_some hF
    obtain ⟨G1, hle1, hrd1, hc, hth1⟩ := lend hc k0
    refine stC (vs := [.slice (some ⟨b_7, 0, none⟩) 4 4]) (caps := []) hf rfl rfl rfl en_59 rfl rfl rfl rfl (law07_Counter_ok ([9, 5, 7, 3] : List Int) hrd1 hc hr_16) ?_
    rintro _ w ⟨p_11, c_11, rfl, hc⟩
    refine ⟨_, rfl, fun a hf => ?_⟩
    replace hc := hth1 _ _ hc
    refine stP hf rfl rfl rfl (pBuildS (cells := [.int .i64 0, .int .i64 1, .int .i64 1]) bt_111 rfl rfl) fun a hf => ?_
    refine stP hf rfl rfl rfl (pBuildS (cells := [.int .i64 2, .int .i64 3, .int .i64 1]) bt_111 rfl rfl) fun a hf => ?_
    refine stBS (rows := ([(⟨0, 1, 1⟩ : daily_Fall), (⟨2, 3, 1⟩ : daily_Fall)] : List daily_Fall).map enc_daily_Fall) (vs := [(0, .agg #[.int .i64 0, .int .i64 1, .int .i64 1]), (1, .agg #[.int .i64 2, .int .i64 3, .int .i64 1])]) hf hc rfl rfl sl_103 rfl ⟨rfl, rfl, rfl, rfl, rfl, rfl, trivial⟩ rfl rfl fun b_8 a w hf hc => ?_
    obtain ⟨r_17, hr_17, hF⟩ := bnd_some hF
    refine stE hf hc rfl rfl rfl (eC (v := .tuple #[.int .i64 r_17.1, .int .i64 r_17.2]) (vs := [.slice p_11 r_16.length c_11, .slice (some ⟨b_8, 0, none⟩) 2 2]) (caps := []) en_54 rfl rfl rfl rfl (fun w hc => by obtain ⟨G1, hle1, hrd1, hc, hth1⟩ := lend hc k2; obtain ⟨G2, hle2, hrd2, hc, hth2⟩ := lend hc k0; exact (daily_Proves_ok r_16 ([(⟨0, 1, 1⟩ : daily_Fall), (⟨2, 3, 1⟩ : daily_Fall)] : List daily_Fall) (hrd1.mono hle2) hrd2 hc hr_17).mono fun e w h => ⟨h.1, ((hth1 _ _ ((hth2 _ _ h.2).unpick k0)).unpick k2)⟩)) fun a w hf hc => ?_
    refine stP hf rfl rfl rfl (pM rfl) fun a hf => ?_
    refine stP hf rfl rfl rfl (pX rfl rfl) fun a hf => ?_
    refine stP hf rfl rfl rfl (pX rfl rfl) fun a hf => ?_
    refine stP hf rfl rfl rfl (pA rfl) fun a hf => ?_
    refine stP hf rfl rfl rfl (pA rfl) fun a hf => ?_
    refine cNil ?_
    refine h11 _ _ ?_
    refine wp_seq_k fun K12 h12 => ?_
    refine cReg ?_
    refine stP hf rfl rfl rfl (pM rfl) fun a hf => ?_
    refine stP hf rfl rfl rfl (pEq rfl rfl) fun a hf => ?_
    refine stP hf rfl rfl rfl (pM rfl) fun a hf => ?_
    refine stCut 3 (fun a w => Has 139 a [(11, .slice p_8 r_13.1.length c_8), (2, .int .i64 r_13.2), (12, .slice p_10 r_15.1.length c_10), (13, .int .i64 r_15.2.1), (4, .int .i64 r_15.2.2), (14, .int .i64 r_17.1), (7, .int .i64 r_17.2), (111, .int .i64 r_13.2), (112, .bool (r_13.2 == 0)), (113, .bool (r_13.2 == 0)), (116, .bool ((r_13.2 == 0) && (r_15.2.2 == 0)))] ∧ Ctx G (.row (some ⟨b_8, 0, none⟩) 2 (([(⟨0, 1, 1⟩ : daily_Fall), (⟨2, 3, 1⟩ : daily_Fall)] : List daily_Fall).map enc_daily_Fall) 111 3 :: .row (some ⟨b_7, 0, none⟩) 4 (([9, 5, 7, 3] : List Int).map encI_i64) 3 1 :: .row p_11 c_11 (r_16.map enc_daily_Reading) 102 2 :: .row p_9 c_9 (r_14.map enc_daily_Reading) 102 2 :: .row p_10 c_10 (r_15.1.map encI_i64) 3 1 :: .row (some ⟨b_6, 0, none⟩) 4 (([10, 14, 12, 20] : List Int).map encI_i64) 3 1 :: .row p_7 c_7 (r_12.Days.map enc_daily_Value) 56 3 :: .row (some ⟨b_5, 0, none⟩) 4 (([(⟨20, 35⟩ : api_Span), (⟨30, 40⟩ : api_Span), (⟨49, 60⟩ : api_Span), (⟨50, 60⟩ : api_Span)] : List api_Span).map enc_api_Span) 30 2 :: .row p_8 c_8 (r_13.1.map encI_i64) 3 1 :: .row p_6 c_6 (r_6.Days.map enc_daily_Value) 56 3 :: .box b_2 [.int .i64 r_5.1.Lo, .int .i64 r_5.1.Hi] 30 :: .row p_4 c_4 (r_4.Days.map enc_daily_Value) 56 3 :: .row p_5 c_5 (r_5.2.1.map encI_i64) 3 1 :: .box b_1 [.int .i64 r_3.1.Lo, .int .i64 r_3.1.Hi] 30 :: .row p_3 c_3 (r_2.Days.map enc_daily_Value) 56 3 :: .row p_1 c_1 (r.Days.map enc_daily_Value) 56 3 :: .row p_2 c_2 (r_1.1.map enc_api_Span) 30 2 :: Lf) w) ?_ ?_
    · cases hb : (r_13.2 == 0)
      · rw [hb] at hf
        refine stS hf rfl rfl rfl fun a hf => ?_
        refine stS hf rfl rfl rfl fun a hf => ?_
        refine stP hf rfl rfl rfl (pPf rfl rfl) fun a hf => ?_
        exact cNil ⟨hf.keep ⟨rfl, rfl, rfl, rfl, rfl, rfl, rfl, rfl, rfl, rfl, rfl, trivial⟩, hc⟩
      · rw [hb] at hf
        refine stP hf rfl rfl rfl (pM rfl) fun a hf => ?_
        refine stP hf rfl rfl rfl (pEq rfl rfl) fun a hf => ?_
        refine stP hf rfl rfl rfl (pPt rfl rfl) fun a hf => ?_
        exact cNil ⟨hf.keep ⟨rfl, rfl, rfl, rfl, rfl, rfl, rfl, rfl, rfl, rfl, rfl, trivial⟩, hc⟩
    intro a w ⟨hf, hc⟩
    refine stP hf rfl rfl rfl (pM rfl) fun a hf => ?_
    refine stCut 3 (fun a w => Has 139 a [(11, .slice p_8 r_13.1.length c_8), (2, .int .i64 r_13.2), (12, .slice p_10 r_15.1.length c_10), (13, .int .i64 r_15.2.1), (4, .int .i64 r_15.2.2), (14, .int .i64 r_17.1), (7, .int .i64 r_17.2), (111, .int .i64 r_13.2), (112, .bool (r_13.2 == 0)), (113, .bool (r_13.2 == 0)), (116, .bool ((r_13.2 == 0) && (r_15.2.2 == 0))), (117, .bool ((r_13.2 == 0) && (r_15.2.2 == 0))), (120, .bool (((r_13.2 == 0) && (r_15.2.2 == 0)) && (r_17.2 == 0)))] ∧ Ctx G (.row (some ⟨b_8, 0, none⟩) 2 (([(⟨0, 1, 1⟩ : daily_Fall), (⟨2, 3, 1⟩ : daily_Fall)] : List daily_Fall).map enc_daily_Fall) 111 3 :: .row (some ⟨b_7, 0, none⟩) 4 (([9, 5, 7, 3] : List Int).map encI_i64) 3 1 :: .row p_11 c_11 (r_16.map enc_daily_Reading) 102 2 :: .row p_9 c_9 (r_14.map enc_daily_Reading) 102 2 :: .row p_10 c_10 (r_15.1.map encI_i64) 3 1 :: .row (some ⟨b_6, 0, none⟩) 4 (([10, 14, 12, 20] : List Int).map encI_i64) 3 1 :: .row p_7 c_7 (r_12.Days.map enc_daily_Value) 56 3 :: .row (some ⟨b_5, 0, none⟩) 4 (([(⟨20, 35⟩ : api_Span), (⟨30, 40⟩ : api_Span), (⟨49, 60⟩ : api_Span), (⟨50, 60⟩ : api_Span)] : List api_Span).map enc_api_Span) 30 2 :: .row p_8 c_8 (r_13.1.map encI_i64) 3 1 :: .row p_6 c_6 (r_6.Days.map enc_daily_Value) 56 3 :: .box b_2 [.int .i64 r_5.1.Lo, .int .i64 r_5.1.Hi] 30 :: .row p_4 c_4 (r_4.Days.map enc_daily_Value) 56 3 :: .row p_5 c_5 (r_5.2.1.map encI_i64) 3 1 :: .box b_1 [.int .i64 r_3.1.Lo, .int .i64 r_3.1.Hi] 30 :: .row p_3 c_3 (r_2.Days.map enc_daily_Value) 56 3 :: .row p_1 c_1 (r.Days.map enc_daily_Value) 56 3 :: .row p_2 c_2 (r_1.1.map enc_api_Span) 30 2 :: Lf) w) ?_ ?_
    · cases hb : ((r_13.2 == 0) && (r_15.2.2 == 0))
      · rw [hb] at hf
        refine stS hf rfl rfl rfl fun a hf => ?_
        refine stS hf rfl rfl rfl fun a hf => ?_
        refine stP hf rfl rfl rfl (pPf rfl rfl) fun a hf => ?_
        exact cNil ⟨hf.keep ⟨rfl, rfl, rfl, rfl, rfl, rfl, rfl, rfl, rfl, rfl, rfl, rfl, rfl, trivial⟩, hc⟩
      · rw [hb] at hf
        refine stP hf rfl rfl rfl (pM rfl) fun a hf => ?_
        refine stP hf rfl rfl rfl (pEq rfl rfl) fun a hf => ?_
        refine stP hf rfl rfl rfl (pPt rfl rfl) fun a hf => ?_
        exact cNil ⟨hf.keep ⟨rfl, rfl, rfl, rfl, rfl, rfl, rfl, rfl, rfl, rfl, rfl, rfl, rfl, trivial⟩, hc⟩
    intro a w ⟨hf, hc⟩
    refine stP hf rfl rfl rfl (pM rfl) fun a hf => ?_
    obtain ⟨t_1, ht_1, hF⟩ := bnd_some hF
    refine stCut 4 (fun a w => Has 139 a [(11, .slice p_8 r_13.1.length c_8), (2, .int .i64 r_13.2), (12, .slice p_10 r_15.1.length c_10), (13, .int .i64 r_15.2.1), (4, .int .i64 r_15.2.2), (14, .int .i64 r_17.1), (7, .int .i64 r_17.2), (111, .int .i64 r_13.2), (112, .bool (r_13.2 == 0)), (113, .bool (r_13.2 == 0)), (116, .bool ((r_13.2 == 0) && (r_15.2.2 == 0))), (117, .bool ((r_13.2 == 0) && (r_15.2.2 == 0))), (120, .bool (((r_13.2 == 0) && (r_15.2.2 == 0)) && (r_17.2 == 0))), (121, .bool (((r_13.2 == 0) && (r_15.2.2 == 0)) && (r_17.2 == 0))), (125, .bool t_1)] ∧ Ctx G (.row (some ⟨b_8, 0, none⟩) 2 (([(⟨0, 1, 1⟩ : daily_Fall), (⟨2, 3, 1⟩ : daily_Fall)] : List daily_Fall).map enc_daily_Fall) 111 3 :: .row (some ⟨b_7, 0, none⟩) 4 (([9, 5, 7, 3] : List Int).map encI_i64) 3 1 :: .row p_11 c_11 (r_16.map enc_daily_Reading) 102 2 :: .row p_9 c_9 (r_14.map enc_daily_Reading) 102 2 :: .row p_10 c_10 (r_15.1.map encI_i64) 3 1 :: .row (some ⟨b_6, 0, none⟩) 4 (([10, 14, 12, 20] : List Int).map encI_i64) 3 1 :: .row p_7 c_7 (r_12.Days.map enc_daily_Value) 56 3 :: .row (some ⟨b_5, 0, none⟩) 4 (([(⟨20, 35⟩ : api_Span), (⟨30, 40⟩ : api_Span), (⟨49, 60⟩ : api_Span), (⟨50, 60⟩ : api_Span)] : List api_Span).map enc_api_Span) 30 2 :: .row p_8 c_8 (r_13.1.map encI_i64) 3 1 :: .row p_6 c_6 (r_6.Days.map enc_daily_Value) 56 3 :: .box b_2 [.int .i64 r_5.1.Lo, .int .i64 r_5.1.Hi] 30 :: .row p_4 c_4 (r_4.Days.map enc_daily_Value) 56 3 :: .row p_5 c_5 (r_5.2.1.map encI_i64) 3 1 :: .box b_1 [.int .i64 r_3.1.Lo, .int .i64 r_3.1.Hi] 30 :: .row p_3 c_3 (r_2.Days.map enc_daily_Value) 56 3 :: .row p_1 c_1 (r.Days.map enc_daily_Value) 56 3 :: .row p_2 c_2 (r_1.1.map enc_api_Span) 30 2 :: Lf) w) ?_ ?_
    · cases hb : (((r_13.2 == 0) && (r_15.2.2 == 0)) && (r_17.2 == 0))
      · rw [hb] at hf
        have hF := condF hb ht_1
        obtain rfl := Option.some.inj hF
        refine stS hf rfl rfl rfl fun a hf => ?_
        refine stS hf rfl rfl rfl fun a hf => ?_
        refine stS hf rfl rfl rfl fun a hf => ?_
        refine stP hf rfl rfl rfl (pPf rfl rfl) fun a hf => ?_
        exact cNil ⟨hf.keep ⟨rfl, rfl, rfl, rfl, rfl, rfl, rfl, rfl, rfl, rfl, rfl, rfl, rfl, rfl, rfl, trivial⟩, hc⟩
      · rw [hb] at hf
        have hF := condT hb ht_1
        refine stP hf rfl rfl rfl (pM rfl) fun a hf => ?_
        refine stBS (rows := ([2] : List Int).map encI_i64) (vs := [(0, .int .i64 2)]) hf hc rfl rfl sl_39 rfl ⟨rfl, rfl, rfl, trivial⟩ rfl rfl fun b_9 a w hf hc => ?_
        obtain ⟨r_18, hr_18, hF⟩ := bnd_some hF
        refine stE hf hc rfl rfl rfl (eC (v := .bool r_18) (vs := [.slice p_8 r_13.1.length c_8, .slice (some ⟨b_9, 0, none⟩) 1 1]) (caps := []) en_20 rfl rfl rfl rfl (fun w hc => by obtain ⟨G1, hle1, hrd1, hc, hth1⟩ := lend hc k9; obtain ⟨G2, hle2, hrd2, hc, hth2⟩ := lend hc k0; exact (kit_Same_int_ok r_13.1 ([2] : List Int) (hrd1.mono hle2) hrd2 hc hr_18).mono fun e w h => ⟨h.1, ((hth1 _ _ ((hth2 _ _ h.2).unpick k0)).unpick k9)⟩)) fun a w hf hc => ?_
        refine stP hf rfl rfl rfl (pPt rfl rfl) fun a hf => ?_
        replace hc := hc.drop k0
        obtain rfl := Option.some.inj hF
        exact cNil ⟨hf.keep ⟨rfl, rfl, rfl, rfl, rfl, rfl, rfl, rfl, rfl, rfl, rfl, rfl, rfl, rfl, rfl, trivial⟩, hc⟩
    intro a w ⟨hf, hc⟩
    refine stP hf rfl rfl rfl (pM rfl) fun a hf => ?_
    obtain ⟨t_2, ht_2, hF⟩ := bnd_some hF
    refine stCut 4 (fun a w => Has 139 a [(11, .slice p_8 r_13.1.length c_8), (2, .int .i64 r_13.2), (12, .slice p_10 r_15.1.length c_10), (13, .int .i64 r_15.2.1), (4, .int .i64 r_15.2.2), (14, .int .i64 r_17.1), (7, .int .i64 r_17.2), (111, .int .i64 r_13.2), (112, .bool (r_13.2 == 0)), (113, .bool (r_13.2 == 0)), (116, .bool ((r_13.2 == 0) && (r_15.2.2 == 0))), (117, .bool ((r_13.2 == 0) && (r_15.2.2 == 0))), (120, .bool (((r_13.2 == 0) && (r_15.2.2 == 0)) && (r_17.2 == 0))), (121, .bool (((r_13.2 == 0) && (r_15.2.2 == 0)) && (r_17.2 == 0))), (125, .bool t_1), (126, .bool t_1), (130, .bool t_2)] ∧ Ctx G (.row (some ⟨b_8, 0, none⟩) 2 (([(⟨0, 1, 1⟩ : daily_Fall), (⟨2, 3, 1⟩ : daily_Fall)] : List daily_Fall).map enc_daily_Fall) 111 3 :: .row (some ⟨b_7, 0, none⟩) 4 (([9, 5, 7, 3] : List Int).map encI_i64) 3 1 :: .row p_11 c_11 (r_16.map enc_daily_Reading) 102 2 :: .row p_9 c_9 (r_14.map enc_daily_Reading) 102 2 :: .row p_10 c_10 (r_15.1.map encI_i64) 3 1 :: .row (some ⟨b_6, 0, none⟩) 4 (([10, 14, 12, 20] : List Int).map encI_i64) 3 1 :: .row p_7 c_7 (r_12.Days.map enc_daily_Value) 56 3 :: .row (some ⟨b_5, 0, none⟩) 4 (([(⟨20, 35⟩ : api_Span), (⟨30, 40⟩ : api_Span), (⟨49, 60⟩ : api_Span), (⟨50, 60⟩ : api_Span)] : List api_Span).map enc_api_Span) 30 2 :: .row p_8 c_8 (r_13.1.map encI_i64) 3 1 :: .row p_6 c_6 (r_6.Days.map enc_daily_Value) 56 3 :: .box b_2 [.int .i64 r_5.1.Lo, .int .i64 r_5.1.Hi] 30 :: .row p_4 c_4 (r_4.Days.map enc_daily_Value) 56 3 :: .row p_5 c_5 (r_5.2.1.map encI_i64) 3 1 :: .box b_1 [.int .i64 r_3.1.Lo, .int .i64 r_3.1.Hi] 30 :: .row p_3 c_3 (r_2.Days.map enc_daily_Value) 56 3 :: .row p_1 c_1 (r.Days.map enc_daily_Value) 56 3 :: .row p_2 c_2 (r_1.1.map enc_api_Span) 30 2 :: Lf) w) ?_ ?_
    · cases hb : t_1
      · rw [hb] at hf
        have hF := condF hb ht_2
        obtain rfl := Option.some.inj hF
        refine stS hf rfl rfl rfl fun a hf => ?_
        refine stS hf rfl rfl rfl fun a hf => ?_
        refine stS hf rfl rfl rfl fun a hf => ?_
        refine stP hf rfl rfl rfl (pPf rfl rfl) fun a hf => ?_
        exact cNil ⟨hf.keep ⟨rfl, rfl, rfl, rfl, rfl, rfl, rfl, rfl, rfl, rfl, rfl, rfl, rfl, rfl, rfl, rfl, rfl, trivial⟩, hc⟩
      · rw [hb] at hf
        have hF := condT hb ht_2
        refine stP hf rfl rfl rfl (pM rfl) fun a hf => ?_
        refine stBS (rows := ([10, 12, 12, 20] : List Int).map encI_i64) (vs := [(0, .int .i64 10), (1, .int .i64 12), (2, .int .i64 12), (3, .int .i64 20)]) hf hc rfl rfl sl_39 rfl ⟨rfl, rfl, rfl, rfl, rfl, rfl, rfl, rfl, rfl, rfl, rfl, rfl, trivial⟩ rfl rfl fun b_10 a w hf hc => ?_
        obtain ⟨r_19, hr_19, hF⟩ := bnd_some hF
        refine stE hf hc rfl rfl rfl (eC (v := .bool r_19) (vs := [.slice p_10 r_15.1.length c_10, .slice (some ⟨b_10, 0, none⟩) 4 4]) (caps := []) en_20 rfl rfl rfl rfl (fun w hc => by obtain ⟨G1, hle1, hrd1, hc, hth1⟩ := lend hc k5; obtain ⟨G2, hle2, hrd2, hc, hth2⟩ := lend hc k0; exact (kit_Same_int_ok r_15.1 ([10, 12, 12, 20] : List Int) (hrd1.mono hle2) hrd2 hc hr_19).mono fun e w h => ⟨h.1, ((hth1 _ _ ((hth2 _ _ h.2).unpick k0)).unpick k5)⟩)) fun a w hf hc => ?_
        refine stP hf rfl rfl rfl (pPt rfl rfl) fun a hf => ?_
        replace hc := hc.drop k0
        obtain rfl := Option.some.inj hF
        exact cNil ⟨hf.keep ⟨rfl, rfl, rfl, rfl, rfl, rfl, rfl, rfl, rfl, rfl, rfl, rfl, rfl, rfl, rfl, rfl, rfl, trivial⟩, hc⟩
    intro a w ⟨hf, hc⟩
    refine stP hf rfl rfl rfl (pM rfl) fun a hf => ?_
    refine stCut 3 (fun a w => Has 139 a [(11, .slice p_8 r_13.1.length c_8), (2, .int .i64 r_13.2), (12, .slice p_10 r_15.1.length c_10), (13, .int .i64 r_15.2.1), (4, .int .i64 r_15.2.2), (14, .int .i64 r_17.1), (7, .int .i64 r_17.2), (111, .int .i64 r_13.2), (112, .bool (r_13.2 == 0)), (113, .bool (r_13.2 == 0)), (116, .bool ((r_13.2 == 0) && (r_15.2.2 == 0))), (117, .bool ((r_13.2 == 0) && (r_15.2.2 == 0))), (120, .bool (((r_13.2 == 0) && (r_15.2.2 == 0)) && (r_17.2 == 0))), (121, .bool (((r_13.2 == 0) && (r_15.2.2 == 0)) && (r_17.2 == 0))), (125, .bool t_1), (126, .bool t_1), (130, .bool t_2), (131, .bool t_2), (134, .bool (t_2 && (r_15.2.1 == 2)))] ∧ Ctx G (.row (some ⟨b_8, 0, none⟩) 2 (([(⟨0, 1, 1⟩ : daily_Fall), (⟨2, 3, 1⟩ : daily_Fall)] : List daily_Fall).map enc_daily_Fall) 111 3 :: .row (some ⟨b_7, 0, none⟩) 4 (([9, 5, 7, 3] : List Int).map encI_i64) 3 1 :: .row p_11 c_11 (r_16.map enc_daily_Reading) 102 2 :: .row p_9 c_9 (r_14.map enc_daily_Reading) 102 2 :: .row p_10 c_10 (r_15.1.map encI_i64) 3 1 :: .row (some ⟨b_6, 0, none⟩) 4 (([10, 14, 12, 20] : List Int).map encI_i64) 3 1 :: .row p_7 c_7 (r_12.Days.map enc_daily_Value) 56 3 :: .row (some ⟨b_5, 0, none⟩) 4 (([(⟨20, 35⟩ : api_Span), (⟨30, 40⟩ : api_Span), (⟨49, 60⟩ : api_Span), (⟨50, 60⟩ : api_Span)] : List api_Span).map enc_api_Span) 30 2 :: .row p_8 c_8 (r_13.1.map encI_i64) 3 1 :: .row p_6 c_6 (r_6.Days.map enc_daily_Value) 56 3 :: .box b_2 [.int .i64 r_5.1.Lo, .int .i64 r_5.1.Hi] 30 :: .row p_4 c_4 (r_4.Days.map enc_daily_Value) 56 3 :: .row p_5 c_5 (r_5.2.1.map encI_i64) 3 1 :: .box b_1 [.int .i64 r_3.1.Lo, .int .i64 r_3.1.Hi] 30 :: .row p_3 c_3 (r_2.Days.map enc_daily_Value) 56 3 :: .row p_1 c_1 (r.Days.map enc_daily_Value) 56 3 :: .row p_2 c_2 (r_1.1.map enc_api_Span) 30 2 :: Lf) w) ?_ ?_
    · cases hb : t_2
      · rw [hb] at hf
        refine stS hf rfl rfl rfl fun a hf => ?_
        refine stS hf rfl rfl rfl fun a hf => ?_
        refine stP hf rfl rfl rfl (pPf rfl rfl) fun a hf => ?_
        exact cNil ⟨hf.keep ⟨rfl, rfl, rfl, rfl, rfl, rfl, rfl, rfl, rfl, rfl, rfl, rfl, rfl, rfl, rfl, rfl, rfl, rfl, rfl, trivial⟩, hc⟩
      · rw [hb] at hf
        refine stP hf rfl rfl rfl (pM rfl) fun a hf => ?_
        refine stP hf rfl rfl rfl (pEq rfl rfl) fun a hf => ?_
        refine stP hf rfl rfl rfl (pPt rfl rfl) fun a hf => ?_
        exact cNil ⟨hf.keep ⟨rfl, rfl, rfl, rfl, rfl, rfl, rfl, rfl, rfl, rfl, rfl, rfl, rfl, rfl, rfl, rfl, rfl, rfl, rfl, trivial⟩, hc⟩
    intro a w ⟨hf, hc⟩
    refine stP hf rfl rfl rfl (pM rfl) fun a hf => ?_
    refine stCut 3 (fun a w => Has 139 a [(11, .slice p_8 r_13.1.length c_8), (2, .int .i64 r_13.2), (12, .slice p_10 r_15.1.length c_10), (13, .int .i64 r_15.2.1), (4, .int .i64 r_15.2.2), (14, .int .i64 r_17.1), (7, .int .i64 r_17.2), (111, .int .i64 r_13.2), (112, .bool (r_13.2 == 0)), (113, .bool (r_13.2 == 0)), (116, .bool ((r_13.2 == 0) && (r_15.2.2 == 0))), (117, .bool ((r_13.2 == 0) && (r_15.2.2 == 0))), (120, .bool (((r_13.2 == 0) && (r_15.2.2 == 0)) && (r_17.2 == 0))), (121, .bool (((r_13.2 == 0) && (r_15.2.2 == 0)) && (r_17.2 == 0))), (125, .bool t_1), (126, .bool t_1), (130, .bool t_2), (131, .bool t_2), (134, .bool (t_2 && (r_15.2.1 == 2))), (135, .bool (t_2 && (r_15.2.1 == 2))), (138, .bool ((t_2 && (r_15.2.1 == 2)) && (r_17.1 == 8)))] ∧ Ctx G (.row (some ⟨b_8, 0, none⟩) 2 (([(⟨0, 1, 1⟩ : daily_Fall), (⟨2, 3, 1⟩ : daily_Fall)] : List daily_Fall).map enc_daily_Fall) 111 3 :: .row (some ⟨b_7, 0, none⟩) 4 (([9, 5, 7, 3] : List Int).map encI_i64) 3 1 :: .row p_11 c_11 (r_16.map enc_daily_Reading) 102 2 :: .row p_9 c_9 (r_14.map enc_daily_Reading) 102 2 :: .row p_10 c_10 (r_15.1.map encI_i64) 3 1 :: .row (some ⟨b_6, 0, none⟩) 4 (([10, 14, 12, 20] : List Int).map encI_i64) 3 1 :: .row p_7 c_7 (r_12.Days.map enc_daily_Value) 56 3 :: .row (some ⟨b_5, 0, none⟩) 4 (([(⟨20, 35⟩ : api_Span), (⟨30, 40⟩ : api_Span), (⟨49, 60⟩ : api_Span), (⟨50, 60⟩ : api_Span)] : List api_Span).map enc_api_Span) 30 2 :: .row p_8 c_8 (r_13.1.map encI_i64) 3 1 :: .row p_6 c_6 (r_6.Days.map enc_daily_Value) 56 3 :: .box b_2 [.int .i64 r_5.1.Lo, .int .i64 r_5.1.Hi] 30 :: .row p_4 c_4 (r_4.Days.map enc_daily_Value) 56 3 :: .row p_5 c_5 (r_5.2.1.map encI_i64) 3 1 :: .box b_1 [.int .i64 r_3.1.Lo, .int .i64 r_3.1.Hi] 30 :: .row p_3 c_3 (r_2.Days.map enc_daily_Value) 56 3 :: .row p_1 c_1 (r.Days.map enc_daily_Value) 56 3 :: .row p_2 c_2 (r_1.1.map enc_api_Span) 30 2 :: Lf) w) ?_ ?_
    · cases hb : (t_2 && (r_15.2.1 == 2))
      · rw [hb] at hf
        refine stS hf rfl rfl rfl fun a hf => ?_
        refine stS hf rfl rfl rfl fun a hf => ?_
        refine stP hf rfl rfl rfl (pPf rfl rfl) fun a hf => ?_
        exact cNil ⟨hf.keep ⟨rfl, rfl, rfl, rfl, rfl, rfl, rfl, rfl, rfl, rfl, rfl, rfl, rfl, rfl, rfl, rfl, rfl, rfl, rfl, rfl, rfl, trivial⟩, hc⟩
      · rw [hb] at hf
        refine stP hf rfl rfl rfl (pM rfl) fun a hf => ?_
        refine stP hf rfl rfl rfl (pEq rfl rfl) fun a hf => ?_
        refine stP hf rfl rfl rfl (pPt rfl rfl) fun a hf => ?_
        exact cNil ⟨hf.keep ⟨rfl, rfl, rfl, rfl, rfl, rfl, rfl, rfl, rfl, rfl, rfl, rfl, rfl, rfl, rfl, rfl, rfl, rfl, rfl, rfl, rfl, trivial⟩, hc⟩
    intro a w ⟨hf, hc⟩
    refine stP hf rfl rfl rfl (pA rfl) fun a hf => ?_
    refine cNil ?_
    refine h12 _ _ ?_
    refine wp_ret ?_
    obtain rfl := Option.some.inj hF
    replace hc := hc.drop k16
    replace hc := hc.drop k15
    replace hc := hc.drop k14
    replace hc := hc.drop k13
    replace hc := hc.drop k12
    replace hc := hc.drop k11
    replace hc := hc.drop k10
    replace hc := hc.drop k9
    replace hc := hc.drop k8
    replace hc := hc.drop k7
    replace hc := hc.drop k6
    replace hc := hc.drop k5
    replace hc := hc.drop k4
    replace hc := hc.drop k3
    replace hc := hc.drop k2
    replace hc := hc.drop k1
    replace hc := hc.drop k0
    exact fnOut1 (by simp) rfl Try.results12 hf hc (show look _ 0 = _ from rfl) ⟨rfl, hc⟩

def law07_DailyPeaked_j27 (N : Nat) (flows : List Int) (x_1 : Int) (e_3 : api_Span) (near : Int) : Option (Step ((List Int) × Int) (Bool)) :=
  Option.bind (room ((flows ++ [max e_3.Lo near])).length) fun un_1 =>
  some (.cont ((flows ++ [max e_3.Lo near]), W (x_1 + 1)))
def law07_DailyPeaked_b19 (N : Nat) (r_1 : daily_Record × (List Int) × Int × Int) (r_2 : (List api_Span) × Int) (e_1 : Int) (flows : List Int) (x_1 : Int) : Option (Step ((List Int) × Int) (Bool)) :=
  cond (decide (x_1 < ((r_2.1.length : Nat) : Int)))
  (Option.bind (getI r_2.1 x_1) fun e_3 =>
  Option.bind (getI r_2.1 e_1) fun e_4 =>
  cond (decide (x_1 < e_1))
  (Option.bind (getI r_2.1 e_1) fun e_5 =>
  law07_DailyPeaked_j27 N flows x_1 e_3 (W (e_5.Hi - (W (r_1.1.Rise * (W (e_1 - x_1)))))))
  (law07_DailyPeaked_j27 N flows x_1 e_3 (W (e_4.Hi - (W (r_1.1.Fall * (W (x_1 - e_1))))))))
  (some (.brk (flows, x_1)))
def law07_DailyPeaked_b39 (N : Nat) (r_3 : api_Span × (List Int) × Int) (e_6 : List Int) (r_8 : Int) (x_2 : Int) : Option (Step (Int) (Step (Int) (Bool))) :=
  cond (decide (x_2 < ((e_6.length : Nat) : Int)))
  (Option.bind (getI e_6 x_2) fun e_7 =>
  Option.bind (cond (e_7 == r_8) (Option.bind (slices_Contains_Lint_int N r_3.2.1 x_2) fun r_9 =>
  some (!r_9)) (some false)) fun t_3 =>
  cond t_3
  (some (.ret (.ret false)))
  (some (.cont (W (x_2 + 1)))))
  (some (.brk x_2))
def law07_DailyPeaked_b11 (N : Nat) (r_1 : daily_Record × (List Int) × Int × Int) (r_3 : api_Span × (List Int) × Int) (r_4 : (List Int) × (List Int)) (x : Int) : Option (Step (Int) (Bool)) :=
  cond (decide (x < (3 : Int)))
  (Option.bind (getI ([r_4.1, r_4.2, r_1.2.1] : List (List Int)) x) fun e_6 =>
  Option.bind (slices_Max_Lint_int N e_6) fun r_8 =>
  cond ((((decide (r_8 < r_3.1.Lo)) || (decide (r_3.1.Hi < r_8))) || ((x == 0) && (r_8 != r_3.1.Lo))) || ((x == 1) && (r_8 != r_3.1.Hi)))
  (some (.ret false))
  (Option.bind (loopO (fun s39 => law07_DailyPeaked_b39 N r_3 e_6 r_8 s39) N 0) fun x39 =>
  exK x39 (fun s39 => some (.cont (W (x + 1)))) some))
  (some (.brk x))
def law07_DailyPeaked (N : Nat) (numbers : List Int) (which : Int) : Option (Bool) :=
  Option.bind (kit_New N numbers) fun r =>
  Option.bind (law07_Made N (⟨numbers, r.1, r.2⟩ : kit_Stream) 20) fun r_1 =>
  Option.bind (daily_Fill N r_1.1) fun r_2 =>
  Option.bind (daily_Peak N r_1.1) fun r_3 =>
  cond ((((r_2.2 != 0) || (r_3.2.2 != 0)) || (((r_2.1.length : Nat) : Int) != ((r_1.2.1.length : Nat) : Int))) || (((r_3.2.1.length : Nat) : Int) == 0))
  (some false)
  (Option.bind (law07_lists N r_2.1) fun r_4 =>
  Option.bind (loopO (fun s11 => law07_DailyPeaked_b11 N r_1 r_3 r_4 s11) N 0) fun x11 =>
  exK x11 (fun s11 => Option.bind (nz ((r_3.2.1.length : Nat) : Int)) fun un =>
  Option.bind (getI r_3.2.1 ((W (which)).tmod ((r_3.2.1.length : Nat) : Int))) fun e_1 =>
  cond ((decide (e_1 < 0)) || (decide (((r_2.1.length : Nat) : Int) ≤ e_1)))
  (some false)
  (Option.bind (loopO (fun s19 => law07_DailyPeaked_b19 N r_1 r_2 e_1 s19.1 s19.2) N (([] : List Int), 0)) fun x19 =>
  exK x19 (fun s19 => Option.bind (daily_Holds N r_1.1 s19.1) fun r_5 =>
  Option.bind (cond ((r_5.2 == 0) && (r_5.1 == (-1))) (Option.bind (slices_Max_Lint_int N s19.1) fun r_6 =>
  Option.bind (getI s19.1 e_1) fun e_2 =>
  some (r_6 == e_2)) (some false)) fun t_1 =>
  Option.bind (cond t_1 (Option.bind (law07_awake N) fun r_7 =>
  some r_7) (some false)) fun t_2 =>
  some t_2) some)) some)
theorem law07_DailyPeaked_ok {N : Nat} {G : Pers} {Lf : List Ent} {w : World} (numbers : List Int) (which : Int) {numbers_p : Option Addr} {numbers_c : Nat} (h_numbers : Rd G 1 numbers_p numbers_c (numbers.map encI_u8)) (hc : Ctx G (Lf) w) {res : Bool} (hF : law07_DailyPeaked N numbers which = some res) : Calls Try.prog 8 #[.slice numbers_p numbers.length numbers_c, .int .u8 which] w (fun e w => e = .returned (.bool res) ∧ Ctx G (Lf) w) := by
  unfold law07_DailyPeaked at hF
  refine fnIn (args := [.slice numbers_p numbers.length numbers_c, .int .u8 which]) Try.func8 rfl Try.ntmps8 rfl fun a hf => ?_
  refine wp_seq_k fun K1 h1 => ?_
  refine cReg ?_
  refine stP hf rfl rfl rfl (pA rfl) fun a hf => ?_
  refine cNil ?_
  refine h1 _ _ ?_
  refine wp_seq_k fun K2 h2 => ?_
  refine cReg ?_
  refine stP hf rfl rfl rfl (pM rfl) fun a hf => ?_
  obtain ⟨r, hr, hF⟩ := bnd_some hF
  refine stC (vs := [.slice numbers_p numbers.length numbers_c]) (caps := []) hf rfl rfl rfl en_26 rfl rfl rfl rfl (kit_New_ok numbers h_numbers hc hr) ?_
  rintro _ w ⟨b_1, rfl, hc⟩
  refine ⟨_, rfl, fun a hf => ?_⟩
  obtain ⟨r_1, hr_1, hF⟩ := bnd_some hF
  refine stC (vs := [.pointer (some ⟨b_1, 0, none⟩), .int .i64 20]) (caps := []) hf rfl rfl rfl en_25 rfl rfl rfl rfl (law07_Made_ok (⟨numbers, r.1, r.2⟩ : kit_Stream) 20 h_numbers (hc.pick k0) hr_1) ?_
  rintro _ w ⟨p_1, c_1, p_2, c_2, rfl, hc⟩
  refine ⟨_, rfl, fun a hf => ?_⟩
  refine stP hf rfl rfl rfl (pM rfl) fun a hf => ?_
  refine stP hf rfl rfl rfl (pX rfl rfl) fun a hf => ?_
  refine stP hf rfl rfl rfl (pX rfl rfl) fun a hf => ?_
  refine stAl (cs := [.int .i64 0, .int .i64 0, .slice none 0 0]) hf hc rfl rfl zr_24 rfl fun b_2 a w hf hc => ?_
  refine stSt (vs := [.int .i64 r_1.1.Rise, .int .i64 r_1.1.Fall, .slice p_1 r_1.1.Days.length c_1]) hf hc rfl rfl rfl rfl sz_24 rfl rfl u0 fun w hc => ?_
  refine stP hf rfl rfl rfl (pA rfl) fun a hf => ?_
  refine cNil ?_
  refine h2 _ _ ?_
  refine wp_seq_k fun K3 h3 => ?_
  refine cReg ?_
  refine stE hf hc rfl rfl rfl (eLdN (vs := [.int .i64 r_1.1.Rise, .int .i64 r_1.1.Fall, .slice p_1 r_1.1.Days.length c_1]) ag_24 rfl rfl (cells_box (n := 3) m0 rfl)) fun a w hf hc => ?_
  obtain ⟨r_2, hr_2, hF⟩ := bnd_some hF
  obtain ⟨G1, hle1, hrd1, hc, hth1⟩ := lend hc k1
  refine stC (vs := [.agg #[.int .i64 r_1.1.Rise, .int .i64 r_1.1.Fall, .slice p_1 r_1.1.Days.length c_1]]) (caps := []) hf rfl rfl rfl en_29 rfl rfl rfl rfl (daily_Fill_ok r_1.1 hrd1 hc hr_2) ?_
  rintro _ w ⟨p_3, c_3, rfl, hc⟩
  refine ⟨_, rfl, fun a hf => ?_⟩
  replace hc := hth1 _ _ hc
  refine stP hf rfl rfl rfl (pM rfl) fun a hf => ?_
  refine stP hf rfl rfl rfl (pX rfl rfl) fun a hf => ?_
  refine stP hf rfl rfl rfl (pX rfl rfl) fun a hf => ?_
  refine stP hf rfl rfl rfl (pA rfl) fun a hf => ?_
  refine stP hf rfl rfl rfl (pA rfl) fun a hf => ?_
  refine cNil ?_
  refine h3 _ _ ?_
  refine wp_seq_k fun K4 h4 => ?_
  refine cReg ?_
  refine stE hf hc rfl rfl rfl (eLdN (vs := [.int .i64 r_1.1.Rise, .int .i64 r_1.1.Fall, .slice p_1 r_1.1.Days.length c_1]) ag_24 rfl rfl (cells_box (n := 3) m2 rfl)) fun a w hf hc => ?_
  obtain ⟨r_3, hr_3, hF⟩ := bnd_some hF
  obtain ⟨G1, hle1, hrd1, hc, hth1⟩ := lend hc k0
  refine stC (vs := [.agg #[.int .i64 r_1.1.Rise, .int .i64 r_1.1.Fall, .slice p_1 r_1.1.Days.length c_1]]) (caps := []) hf rfl rfl rfl en_18 rfl rfl rfl rfl (daily_Peak_ok r_1.1 hrd1 hc hr_3) ?_
  rintro _ w ⟨p_4, c_4, rfl, hc⟩
  refine ⟨_, rfl, fun a hf => ?_⟩
  replace hc := hth1 _ _ hc
  refine stP hf rfl rfl rfl (pM rfl) fun a hf => ?_
  refine stP hf rfl rfl rfl (pX rfl rfl) fun a hf => ?_
  refine stP hf rfl rfl rfl (pX rfl rfl) fun a hf => ?_
  refine stP hf rfl rfl rfl (pX rfl rfl) fun a hf => ?_
  refine stAl (cs := [.int .i64 0, .int .i64 0]) hf hc rfl rfl zr_30 rfl fun b_3 a w hf hc => ?_
  refine stSt (vs := [.int .i64 r_3.1.Lo, .int .i64 r_3.1.Hi]) hf hc rfl rfl rfl rfl sz_30 rfl rfl u0 fun w hc => ?_
  refine stP hf rfl rfl rfl (pA rfl) fun a hf => ?_
  refine stP hf rfl rfl rfl (pA rfl) fun a hf => ?_
  refine cNil ?_
  refine h4 _ _ ?_
  refine wp_seq_k fun K5 h5 => ?_
  refine wp_seq_k fun K6 h6 => ?_
  refine cReg ?_
  refine stP hf rfl rfl rfl (pM rfl) fun a hf => ?_
  refine stP hf rfl rfl rfl (pNe rfl rfl) fun a hf => ?_
  refine stP hf rfl rfl rfl (pM rfl) fun a hf => ?_
  refine stCut 3 (fun a w => Has 207 a [(1, .int .u8 which), (5, .pointer (some ⟨b_2, 0, none⟩)), (6, .slice p_2 r_1.2.1.length c_2), (7, .slice p_3 r_2.1.length c_3), (8, .int .i64 r_2.2), (9, .pointer (some ⟨b_3, 0, none⟩)), (10, .slice p_4 r_3.2.1.length c_4), (11, .int .i64 r_3.2.2), (41, .int .i64 r_2.2), (42, .bool (r_2.2 != 0)), (43, .bool (r_2.2 != 0)), (46, .bool ((r_2.2 != 0) || (r_3.2.2 != 0)))] ∧ Ctx G (.box b_3 [.int .i64 r_3.1.Lo, .int .i64 r_3.1.Hi] 30 :: .row p_1 c_1 (r_1.1.Days.map enc_daily_Value) 56 3 :: .row p_4 c_4 (r_3.2.1.map encI_i64) 3 1 :: .row p_3 c_3 (r_2.1.map enc_api_Span) 30 2 :: .box b_2 [.int .i64 r_1.1.Rise, .int .i64 r_1.1.Fall, .slice p_1 r_1.1.Days.length c_1] 24 :: .row p_2 c_2 (r_1.2.1.map encI_i64) 3 1 :: .box b_1 [.slice numbers_p numbers.length numbers_c, .int .i64 r_1.2.2.1, .int .i64 r_1.2.2.2] 135 :: Lf) w) ?_ ?_
  · cases hb : (r_2.2 != 0)
    · rw [hb] at hf
      refine stP hf rfl rfl rfl (pM rfl) fun a hf => ?_
      refine stP hf rfl rfl rfl (pNe rfl rfl) fun a hf => ?_
      refine stP hf rfl rfl rfl (pPf rfl rfl) fun a hf => ?_
      exact cNil ⟨hf.keep ⟨rfl, rfl, rfl, rfl, rfl, rfl, rfl, rfl, rfl, rfl, rfl, rfl, trivial⟩, hc⟩
    · rw [hb] at hf
      refine stS hf rfl rfl rfl fun a hf => ?_
      refine stS hf rfl rfl rfl fun a hf => ?_
      refine stP hf rfl rfl rfl (pPt rfl rfl) fun a hf => ?_
      exact cNil ⟨hf.keep ⟨rfl, rfl, rfl, rfl, rfl, rfl, rfl, rfl, rfl, rfl, rfl, rfl, trivial⟩, hc⟩
  intro a w ⟨hf, hc⟩
  refine stP hf rfl rfl rfl (pM rfl) fun a hf => ?_
  refine stCut 6 (fun a w => Has 207 a [(1, .int .u8 which), (5, .pointer (some ⟨b_2, 0, none⟩)), (6, .slice p_2 r_1.2.1.length c_2), (7, .slice p_3 r_2.1.length c_3), (8, .int .i64 r_2.2), (9, .pointer (some ⟨b_3, 0, none⟩)), (10, .slice p_4 r_3.2.1.length c_4), (11, .int .i64 r_3.2.2), (41, .int .i64 r_2.2), (42, .bool (r_2.2 != 0)), (43, .bool (r_2.2 != 0)), (46, .bool ((r_2.2 != 0) || (r_3.2.2 != 0))), (47, .bool ((r_2.2 != 0) || (r_3.2.2 != 0))), (53, .bool (((r_2.2 != 0) || (r_3.2.2 != 0)) || (((r_2.1.length : Nat) : Int) != ((r_1.2.1.length : Nat) : Int))))] ∧ Ctx G (.box b_3 [.int .i64 r_3.1.Lo, .int .i64 r_3.1.Hi] 30 :: .row p_1 c_1 (r_1.1.Days.map enc_daily_Value) 56 3 :: .row p_4 c_4 (r_3.2.1.map encI_i64) 3 1 :: .row p_3 c_3 (r_2.1.map enc_api_Span) 30 2 :: .box b_2 [.int .i64 r_1.1.Rise, .int .i64 r_1.1.Fall, .slice p_1 r_1.1.Days.length c_1] 24 :: .row p_2 c_2 (r_1.2.1.map encI_i64) 3 1 :: .box b_1 [.slice numbers_p numbers.length numbers_c, .int .i64 r_1.2.2.1, .int .i64 r_1.2.2.2] 135 :: Lf) w) ?_ ?_
  · cases hb : ((r_2.2 != 0) || (r_3.2.2 != 0))
    · rw [hb] at hf
      refine stP hf rfl rfl rfl (pM rfl) fun a hf => ?_
      refine stP hf rfl rfl rfl (pLenS Try.underlying25 rfl) fun a hf => ?_
      refine stP hf rfl rfl rfl (pM rfl) fun a hf => ?_
      refine stP hf rfl rfl rfl (pLenS Try.underlying39 rfl) fun a hf => ?_
      refine stP hf rfl rfl rfl (pNe rfl rfl) fun a hf => ?_
      refine stP hf rfl rfl rfl (pPf rfl rfl) fun a hf => ?_
      exact cNil ⟨hf.keep ⟨rfl, rfl, rfl, rfl, rfl, rfl, rfl, rfl, rfl, rfl, rfl, rfl, rfl, rfl, trivial⟩, hc⟩
    · rw [hb] at hf
      refine stS hf rfl rfl rfl fun a hf => ?_
      refine stS hf rfl rfl rfl fun a hf => ?_
      refine stS hf rfl rfl rfl fun a hf => ?_
      refine stS hf rfl rfl rfl fun a hf => ?_
      refine stS hf rfl rfl rfl fun a hf => ?_
      refine stP hf rfl rfl rfl (pPt rfl rfl) fun a hf => ?_
      exact cNil ⟨hf.keep ⟨rfl, rfl, rfl, rfl, rfl, rfl, rfl, rfl, rfl, rfl, rfl, rfl, rfl, rfl, trivial⟩, hc⟩
  intro a w ⟨hf, hc⟩
  refine stP hf rfl rfl rfl (pM rfl) fun a hf => ?_
  refine stCut 4 (fun a w => Has 207 a [(1, .int .u8 which), (5, .pointer (some ⟨b_2, 0, none⟩)), (6, .slice p_2 r_1.2.1.length c_2), (7, .slice p_3 r_2.1.length c_3), (8, .int .i64 r_2.2), (9, .pointer (some ⟨b_3, 0, none⟩)), (10, .slice p_4 r_3.2.1.length c_4), (11, .int .i64 r_3.2.2), (41, .int .i64 r_2.2), (42, .bool (r_2.2 != 0)), (43, .bool (r_2.2 != 0)), (46, .bool ((r_2.2 != 0) || (r_3.2.2 != 0))), (47, .bool ((r_2.2 != 0) || (r_3.2.2 != 0))), (53, .bool (((r_2.2 != 0) || (r_3.2.2 != 0)) || (((r_2.1.length : Nat) : Int) != ((r_1.2.1.length : Nat) : Int)))), (54, .bool (((r_2.2 != 0) || (r_3.2.2 != 0)) || (((r_2.1.length : Nat) : Int) != ((r_1.2.1.length : Nat) : Int)))), (58, .bool ((((r_2.2 != 0) || (r_3.2.2 != 0)) || (((r_2.1.length : Nat) : Int) != ((r_1.2.1.length : Nat) : Int))) || (((r_3.2.1.length : Nat) : Int) == 0)))] ∧ Ctx G (.box b_3 [.int .i64 r_3.1.Lo, .int .i64 r_3.1.Hi] 30 :: .row p_1 c_1 (r_1.1.Days.map enc_daily_Value) 56 3 :: .row p_4 c_4 (r_3.2.1.map encI_i64) 3 1 :: .row p_3 c_3 (r_2.1.map enc_api_Span) 30 2 :: .box b_2 [.int .i64 r_1.1.Rise, .int .i64 r_1.1.Fall, .slice p_1 r_1.1.Days.length c_1] 24 :: .row p_2 c_2 (r_1.2.1.map encI_i64) 3 1 :: .box b_1 [.slice numbers_p numbers.length numbers_c, .int .i64 r_1.2.2.1, .int .i64 r_1.2.2.2] 135 :: Lf) w) ?_ ?_
  · cases hb : (((r_2.2 != 0) || (r_3.2.2 != 0)) || (((r_2.1.length : Nat) : Int) != ((r_1.2.1.length : Nat) : Int)))
    · rw [hb] at hf
      refine stP hf rfl rfl rfl (pM rfl) fun a hf => ?_
      refine stP hf rfl rfl rfl (pLenS Try.underlying39 rfl) fun a hf => ?_
      refine stP hf rfl rfl rfl (pEq rfl rfl) fun a hf => ?_
      refine stP hf rfl rfl rfl (pPf rfl rfl) fun a hf => ?_
      exact cNil ⟨hf.keep ⟨rfl, rfl, rfl, rfl, rfl, rfl, rfl, rfl, rfl, rfl, rfl, rfl, rfl, rfl, rfl, rfl, trivial⟩, hc⟩
    · rw [hb] at hf
      refine stS hf rfl rfl rfl fun a hf => ?_
      refine stS hf rfl rfl rfl fun a hf => ?_
      refine stS hf rfl rfl rfl fun a hf => ?_
      refine stP hf rfl rfl rfl (pPt rfl rfl) fun a hf => ?_
      exact cNil ⟨hf.keep ⟨rfl, rfl, rfl, rfl, rfl, rfl, rfl, rfl, rfl, rfl, rfl, rfl, rfl, rfl, rfl, rfl, trivial⟩, hc⟩
  intro a w ⟨hf, hc⟩
  refine cNil ?_
  refine h6 _ _ ?_
  refine cCond (b := ((((r_2.2 != 0) || (r_3.2.2 != 0)) || (((r_2.1.length : Nat) : Int) != ((r_1.2.1.length : Nat) : Int))) || (((r_3.2.1.length : Nat) : Int) == 0))) hf rfl (fun hb => ?_) (fun hb => ?_)
  · replace hF := condT hb hF
    clear hb
    refine wp_seq_k fun K7 h7 => ?_
    refine cReg ?_
    refine stP hf rfl rfl rfl (pA rfl) fun a hf => ?_
    refine cNil ?_
    refine h7 _ _ ?_
    refine wp_ret ?_
    refine xThenR ?_
    obtain rfl := Option.some.inj hF
    replace hc := hc.drop k6
    replace hc := hc.drop k5
    replace hc := hc.drop k4
    replace hc := hc.drop k3
    replace hc := hc.drop k2
    replace hc := hc.drop k1
    replace hc := hc.drop k0
    exact fnOut1 (by simp) rfl Try.results8 hf hc (show look _ 4 = _ from rfl) ⟨rfl, hc⟩
  · replace hF := condF hb hF
    clear hb
    refine wp_skip ?_
    refine h5 _ _ ?_
    refine wp_seq_k fun K8 h8 => ?_
    refine cReg ?_
    refine stP hf rfl rfl rfl (pM rfl) fun a hf => ?_
    obtain ⟨r_4, hr_4, hF⟩ := bnd_some hF
    obtain ⟨G1, hle1, hrd1, hc, hth1⟩ := lend hc k3
    refine stC (vs := [.slice p_3 r_2.1.length c_3]) (caps := []) hf rfl rfl rfl en_40 rfl rfl rfl rfl (law07_lists_ok r_2.1 hrd1 hc hr_4) ?_
    rintro _ w ⟨p_5, c_5, p_6, c_6, rfl, hc⟩
    refine ⟨_, rfl, fun a hf => ?_⟩
    replace hc := hth1 _ _ hc
    refine stP hf rfl rfl rfl (pM rfl) fun a hf => ?_
    refine stP hf rfl rfl rfl (pX rfl rfl) fun a hf => ?_
    refine stP hf rfl rfl rfl (pX rfl rfl) fun a hf => ?_
    refine stP hf rfl rfl rfl (pA rfl) fun a hf => ?_
    refine stP hf rfl rfl rfl (pA rfl) fun a hf => ?_
    refine cNil ?_
    refine h8 _ _ ?_
    refine wp_seq_k fun K9 h9 => ?_
    refine wp_seq_k fun K10 h10 => ?_
    refine cReg ?_
    refine stP hf rfl rfl rfl (pM rfl) fun a hf => ?_
    refine stP hf rfl rfl rfl (pM rfl) fun a hf => ?_
    refine stP hf rfl rfl rfl (pM rfl) fun a hf => ?_
    obtain ⟨G, hle_fz, rd_fz, hc, -⟩ := lend hc k1
    obtain ⟨G, hle_fz_1, rd_fz_1, hc, -⟩ := lend hc k1
    obtain ⟨G, hle_fz_2, rd_fz_2, hc, -⟩ := lend hc k5
    refine stBS (rows := ([[.slice p_5 r_4.1.length c_5], [.slice p_6 r_4.2.length c_6], [.slice p_2 r_1.2.1.length c_2]] : List (List Value))) (vs := [(0, .slice p_5 r_4.1.length c_5), (1, .slice p_6 r_4.2.length c_6), (2, .slice p_2 r_1.2.1.length c_2)]) hf hc rfl rfl sl_78 rfl ⟨rfl, rfl, rfl, rfl, rfl, rfl, rfl, rfl, rfl, trivial⟩ rfl rfl fun b_4 a w hf hc => ?_
    obtain ⟨G, hle_fz_3, rd_fz_3, hc, -⟩ := lend hc k0
    have rdd : Rd2 G 1 encI_i64 (some ⟨b_4, 0, none⟩) 3 ([r_4.1, r_4.2, r_1.2.1] : List (List Int)) := ⟨_, rd_fz_3, ⟨⟨_, _, rfl, (((rd_fz.mono hle_fz_1).mono hle_fz_2).mono hle_fz_3)⟩, ⟨⟨_, _, rfl, ((rd_fz_1.mono hle_fz_2).mono hle_fz_3)⟩, ⟨⟨_, _, rfl, (rd_fz_2.mono hle_fz_3)⟩, trivial⟩⟩⟩⟩
    refine stP hf rfl rfl rfl (pLenS Try.underlying78 rfl) fun a hf => ?_
    refine stP hf rfl rfl rfl (pM rfl) fun a hf => ?_
    refine cNil ?_
    refine h10 _ _ ?_
    refine wp_block ?_
    obtain ⟨x11, hx11, hF⟩ := bnd_some hF
    let S11 : Int → Act → World → Prop := (fun (zz : Int) a w => Has 207 a [(1, .int .u8 which), (5, .pointer (some ⟨b_2, 0, none⟩)), (7, .slice p_3 r_2.1.length c_3), (9, .pointer (some ⟨b_3, 0, none⟩)), (10, .slice p_4 r_3.2.1.length c_4), (67, .slice (some ⟨b_4, 0, none⟩) 3 3), (68, .int .i64 (3 : Int)), (69, .int .i64 zz)] ∧ Ctx G (.row p_3 c_3 (r_2.1.map enc_api_Span) 30 2 :: .box b_3 [.int .i64 r_3.1.Lo, .int .i64 r_3.1.Hi] 30 :: .row p_1 c_1 (r_1.1.Days.map enc_daily_Value) 56 3 :: .row p_4 c_4 (r_3.2.1.map encI_i64) 3 1 :: .box b_2 [.int .i64 r_1.1.Rise, .int .i64 r_1.1.Fall, .slice p_1 r_1.1.Days.length c_1] 24 :: Lf) w)
    have hr11 : ∀ (zz : Int) a w, x11 = .go zz → S11 zz a w → K9 a w := by
      rintro x a w rfl ⟨hf, hc⟩
      replace hF := exK_go hF
      refine h9 _ _ ?_
      refine wp_seq_k fun K12 h12 => ?_
      refine cReg ?_
      refine stP hf rfl rfl rfl (pM rfl) fun a hf => ?_
      refine stP hf rfl rfl rfl (pM rfl) fun a hf => ?_
      refine stP hf rfl rfl rfl (pCv Try.underlying5 Try.underlying3 rfl) fun a hf => ?_
      refine stP hf rfl rfl rfl (pM rfl) fun a hf => ?_
      refine stP hf rfl rfl rfl (pLenS Try.underlying39 rfl) fun a hf => ?_
      obtain ⟨un, hun, hF⟩ := bnd_some hF
      refine stP hf rfl rfl rfl (pRem rfl rfl (nz_spec hun)) fun a hf => ?_
      obtain ⟨e_1, he_1, hF⟩ := bnd_some hF
      obtain ⟨g, rfl, qa, qr⟩ := row_atm hc m3 he_1
      refine stP hf rfl rfl rfl (pIA Try.underlying39 sz_3 rfl rfl qa) fun a hf => ?_
      refine stE hf hc rfl rfl rfl (eLd1 sc_3 rfl (cell_row (sz := 1) (i := ((W (which)).tmod ((r_3.2.1.length : Nat) : Int)).toNat) (j := 0) m3 qr rfl)) fun a w hf hc => ?_
      refine stP hf rfl rfl rfl (pA rfl) fun a hf => ?_
      refine cNil ?_
      refine h12 _ _ ?_
      refine wp_seq_k fun K13 h13 => ?_
      refine wp_seq_k fun K14 h14 => ?_
      refine cReg ?_
      refine stP hf rfl rfl rfl (pM rfl) fun a hf => ?_
      refine stP hf rfl rfl rfl (pLt rfl rfl) fun a hf => ?_
      refine stP hf rfl rfl rfl (pM rfl) fun a hf => ?_
      refine stCut 5 (fun a w => Has 207 a [(5, .pointer (some ⟨b_2, 0, none⟩)), (7, .slice p_3 r_2.1.length c_3), (18, .int .i64 e_1), (133, .int .i64 e_1), (134, .bool (decide (e_1 < 0))), (135, .bool (decide (e_1 < 0))), (140, .bool ((decide (e_1 < 0)) || (decide (((r_2.1.length : Nat) : Int) ≤ e_1))))] ∧ Ctx G (.row p_3 c_3 (r_2.1.map enc_api_Span) 30 2 :: .box b_3 [.int .i64 r_3.1.Lo, .int .i64 r_3.1.Hi] 30 :: .row p_1 c_1 (r_1.1.Days.map enc_daily_Value) 56 3 :: .row (some ⟨g, 0, none⟩) c_4 (r_3.2.1.map encI_i64) 3 1 :: .box b_2 [.int .i64 r_1.1.Rise, .int .i64 r_1.1.Fall, .slice p_1 r_1.1.Days.length c_1] 24 :: Lf) w) ?_ ?_
      · cases hb : (decide (e_1 < 0))
        · rw [hb] at hf
          refine stP hf rfl rfl rfl (pM rfl) fun a hf => ?_
          refine stP hf rfl rfl rfl (pM rfl) fun a hf => ?_
          refine stP hf rfl rfl rfl (pLenS Try.underlying25 rfl) fun a hf => ?_
          refine stP hf rfl rfl rfl (pGe rfl rfl) fun a hf => ?_
          refine stP hf rfl rfl rfl (pPf rfl rfl) fun a hf => ?_
          exact cNil ⟨hf.keep ⟨rfl, rfl, rfl, rfl, rfl, rfl, rfl, trivial⟩, hc⟩
        · rw [hb] at hf
          refine stS hf rfl rfl rfl fun a hf => ?_
          refine stS hf rfl rfl rfl fun a hf => ?_
          refine stS hf rfl rfl rfl fun a hf => ?_
          refine stS hf rfl rfl rfl fun a hf => ?_
          refine stP hf rfl rfl rfl (pPt rfl rfl) fun a hf => ?_
          exact cNil ⟨hf.keep ⟨rfl, rfl, rfl, rfl, rfl, rfl, rfl, trivial⟩, hc⟩
      intro a w ⟨hf, hc⟩
      refine cNil ?_
      refine h14 _ _ ?_
      refine cCond (b := ((decide (e_1 < 0)) || (decide (((r_2.1.length : Nat) : Int) ≤ e_1)))) hf rfl (fun hb => ?_) (fun hb => ?_)
      · replace hF := condT hb hF
        clear hb
        refine wp_seq_k fun K15 h15 => ?_
        refine cReg ?_
        refine stP hf rfl rfl rfl (pA rfl) fun a hf => ?_
        refine cNil ?_
        refine h15 _ _ ?_
        refine wp_ret ?_
        refine xThenR ?_
        obtain rfl := Option.some.inj hF
        replace hc := hc.down hle_fz_3
        replace hc := hc.down hle_fz_2
        replace hc := hc.down hle_fz_1
        replace hc := hc.down hle_fz
        replace hc := hc.drop k4
        replace hc := hc.drop k3
        replace hc := hc.drop k2
        replace hc := hc.drop k1
        replace hc := hc.drop k0
        exact fnOut1 (by simp) rfl Try.results8 hf hc (show look _ 4 = _ from rfl) ⟨rfl, hc⟩
      · replace hF := condF hb hF
        clear hb
        refine wp_skip ?_
        refine h13 _ _ ?_
        refine wp_seq_k fun K16 h16 => ?_
        refine cReg ?_
        refine stP hf rfl rfl rfl (pA rfl) fun a hf => ?_
        refine cNil ?_
        refine h16 _ _ ?_
        refine wp_seq_k fun K17 h17 => ?_
        refine wp_seq_k fun K18 h18 => ?_
        refine cReg ?_
        refine stP hf rfl rfl rfl (pM rfl) fun a hf => ?_
        refine stP hf rfl rfl rfl (pLenS Try.underlying25 rfl) fun a hf => ?_
        refine stP hf rfl rfl rfl (pM rfl) fun a hf => ?_
        refine cNil ?_
        refine h18 _ _ ?_
        refine wp_block ?_
        obtain ⟨x19, hx19, hF⟩ := bnd_some hF
        let S19 : ((List Int) × Int) → Act → World → Prop := (fun (zz : (List Int) × Int) a w => ∃ (p_7 : Option Addr) (c_7 : Nat) (p_8 : Option Addr) (c_8 : Nat), Has 207 a [(5, .pointer (some ⟨b_2, 0, none⟩)), (7, .slice p_7 r_2.1.length c_7), (18, .int .i64 e_1), (19, .slice p_8 zz.1.length c_8), (141, .slice p_7 r_2.1.length c_7), (142, .int .i64 ((r_2.1.length : Nat) : Int)), (143, .int .i64 zz.2)] ∧ Ctx G (.row p_8 c_8 (zz.1.map encI_i64) 3 1 :: .row p_7 c_7 (r_2.1.map enc_api_Span) 30 2 :: .row p_1 c_1 (r_1.1.Days.map enc_daily_Value) 56 3 :: .box b_2 [.int .i64 r_1.1.Rise, .int .i64 r_1.1.Fall, .slice p_1 r_1.1.Days.length c_1] 24 :: Lf) w)
        have hr19 : ∀ (zz : (List Int) × Int) a w, x19 = .go zz → S19 zz a w → K17 a w := by
          rintro ⟨flows, x_1⟩ a w rfl ⟨p_7, c_7, p_8, c_8, hf, hc⟩
          replace hF := exK_go hF
          refine h17 _ _ ?_
          refine wp_seq_k fun K20 h20 => ?_
          refine cReg ?_
          refine stE hf hc rfl rfl rfl (eLdN (vs := [.int .i64 r_1.1.Rise, .int .i64 r_1.1.Fall, .slice p_1 r_1.1.Days.length c_1]) ag_24 rfl rfl (cells_box (n := 3) m3 rfl)) fun a w hf hc => ?_
          refine stP hf rfl rfl rfl (pM rfl) fun a hf => ?_
          obtain ⟨r_5, hr_5, hF⟩ := bnd_some hF
          refine stE hf hc rfl rfl rfl (eC (v := .tuple #[.int .i64 r_5.1, .int .i64 r_5.2]) (vs := [.agg #[.int .i64 r_1.1.Rise, .int .i64 r_1.1.Fall, .slice p_1 r_1.1.Days.length c_1], .slice p_8 flows.length c_8]) (caps := []) en_36 rfl rfl rfl rfl (fun w hc => by obtain ⟨G1, hle1, hrd1, hc, hth1⟩ := lend hc k2; obtain ⟨G2, hle2, hrd2, hc, hth2⟩ := lend hc k0; exact (daily_Holds_ok r_1.1 flows (hrd1.mono hle2) hrd2 hc hr_5).mono fun e w h => ⟨h.1, ((hth1 _ _ ((hth2 _ _ h.2).unpick k0)).unpick k2)⟩)) fun a w hf hc => ?_
          refine stP hf rfl rfl rfl (pM rfl) fun a hf => ?_
          refine stP hf rfl rfl rfl (pX rfl rfl) fun a hf => ?_
          refine stP hf rfl rfl rfl (pX rfl rfl) fun a hf => ?_
          refine stP hf rfl rfl rfl (pA rfl) fun a hf => ?_
          refine stP hf rfl rfl rfl (pA rfl) fun a hf => ?_
          refine cNil ?_
          refine h20 _ _ ?_
          refine wp_seq_k fun K21 h21 => ?_
          obtain ⟨t_1, ht_1, hF⟩ := bnd_some hF
          obtain ⟨t_2, ht_2, hF⟩ := bnd_some hF
          refine cQ hc follows_mx (by kernel_rfl) ?_
          refine qE hf rfl rfl rfl (Pu.ev (pM rfl)) fun a hf => ?_
          refine qE hf rfl rfl rfl (Pu.ev (pEq rfl rfl)) fun a hf => ?_
          refine qE hf rfl rfl rfl (Pu.ev (pM rfl)) fun a hf => ?_
          refine qCut 3 (fun a => Has 207 a [(18, .int .i64 e_1), (19, .slice p_8 flows.length c_8), (23, .int .i64 r_5.1), (8, .int .i64 r_5.2), (189, .int .i64 r_5.2), (190, .bool (r_5.2 == 0)), (191, .bool (r_5.2 == 0)), (194, .bool ((r_5.2 == 0) && (r_5.1 == (-1))))]) ?_ ?_
          · cases hb : (r_5.2 == 0)
            · rw [hb] at hf
              refine qS hf rfl rfl rfl fun a hf => ?_
              refine qS hf rfl rfl rfl fun a hf => ?_
              refine qE hf rfl rfl rfl (Pu.ev (pPf rfl rfl)) fun a hf => ?_
              exact qNil (hf.keep ⟨rfl, rfl, rfl, rfl, rfl, rfl, rfl, rfl, trivial⟩)
            · rw [hb] at hf
              refine qE hf rfl rfl rfl (Pu.ev (pM rfl)) fun a hf => ?_
              refine qE hf rfl rfl rfl (Pu.ev (pEq rfl rfl)) fun a hf => ?_
              refine qE hf rfl rfl rfl (Pu.ev (pPt rfl rfl)) fun a hf => ?_
              exact qNil (hf.keep ⟨rfl, rfl, rfl, rfl, rfl, rfl, rfl, rfl, trivial⟩)
          intro a hf
          refine qE hf rfl rfl rfl (Pu.ev (pM rfl)) fun a hf => ?_
          refine qCut 8 (fun a => Has 207 a [(18, .int .i64 e_1), (19, .slice p_8 flows.length c_8), (23, .int .i64 r_5.1), (8, .int .i64 r_5.2), (189, .int .i64 r_5.2), (190, .bool (r_5.2 == 0)), (191, .bool (r_5.2 == 0)), (194, .bool ((r_5.2 == 0) && (r_5.1 == (-1)))), (195, .bool ((r_5.2 == 0) && (r_5.1 == (-1)))), (203, .bool t_1)]) ?_ ?_
          · cases hb : ((r_5.2 == 0) && (r_5.1 == (-1)))
            · rw [hb] at hf
              have hF := condF hb ht_1
              obtain rfl := Option.some.inj hF
              refine qS hf rfl rfl rfl fun a hf => ?_
              refine qS hf rfl rfl rfl fun a hf => ?_
              refine qS hf rfl rfl rfl fun a hf => ?_
              refine qS hf rfl rfl rfl fun a hf => ?_
              refine qS hf rfl rfl rfl fun a hf => ?_
              refine qS hf rfl rfl rfl fun a hf => ?_
              refine qS hf rfl rfl rfl fun a hf => ?_
              refine qE hf rfl rfl rfl (Pu.ev (pPf rfl rfl)) fun a hf => ?_
              exact qNil (hf.keep ⟨rfl, rfl, rfl, rfl, rfl, rfl, rfl, rfl, rfl, rfl, trivial⟩)
            · rw [hb] at hf
              have hF := condT hb ht_1
              obtain ⟨r_6, hr_6, hF⟩ := bnd_some hF
              obtain ⟨e_2, he_2, hF⟩ := bnd_some hF
              obtain ⟨g_1, rfl, qa_1, qr_1⟩ := row_atm hc m0 he_2
              refine qE hf rfl rfl rfl (Pu.ev (pM rfl)) fun a hf => ?_
              refine qE hf rfl rfl rfl (eC (v := .int .i64 r_6) (vs := [.slice (some ⟨g_1, 0, none⟩) flows.length c_8]) (caps := []) en_43 rfl rfl rfl rfl (fun w hc => by obtain ⟨G1, hle1, hrd1, hc, hth1⟩ := lend hc k0; exact (slices_Max_Lint_int_ok flows hrd1 hc hr_6).mono fun e w h => ⟨h.1, ((hth1 _ _ h.2).unpick k0)⟩)) fun a hf => ?_
              refine qE hf rfl rfl rfl (Pu.ev (pM rfl)) fun a hf => ?_
              refine qE hf rfl rfl rfl (Pu.ev (pM rfl)) fun a hf => ?_
              refine qE hf rfl rfl rfl (Pu.ev (pIA Try.underlying39 sz_3 rfl rfl qa_1)) fun a hf => ?_
              refine qE hf rfl rfl rfl (eLd1 sc_3 rfl (cell_row (sz := 1) (i := e_1.toNat) (j := 0) m0 qr_1 rfl)) fun a hf => ?_
              refine qE hf rfl rfl rfl (Pu.ev (pEq rfl rfl)) fun a hf => ?_
              refine qE hf rfl rfl rfl (Pu.ev (pPt rfl rfl)) fun a hf => ?_
              obtain rfl := Option.some.inj hF
              exact qNil (hf.keep ⟨rfl, rfl, rfl, rfl, rfl, rfl, rfl, rfl, rfl, rfl, trivial⟩)
          intro a hf
          refine qE hf rfl rfl rfl (Pu.ev (pM rfl)) fun a hf => ?_
          refine qCut 2 (fun a => Has 207 a [(18, .int .i64 e_1), (19, .slice p_8 flows.length c_8), (23, .int .i64 r_5.1), (8, .int .i64 r_5.2), (189, .int .i64 r_5.2), (190, .bool (r_5.2 == 0)), (191, .bool (r_5.2 == 0)), (194, .bool ((r_5.2 == 0) && (r_5.1 == (-1)))), (195, .bool ((r_5.2 == 0) && (r_5.1 == (-1)))), (203, .bool t_1), (204, .bool t_1), (206, .bool t_2)]) ?_ ?_
          · cases hb : t_1
            · rw [hb] at hf
              have hF := condF hb ht_2
              obtain rfl := Option.some.inj hF
              refine qS hf rfl rfl rfl fun a hf => ?_
              refine qE hf rfl rfl rfl (Pu.ev (pPf rfl rfl)) fun a hf => ?_
              exact qNil (hf.keep ⟨rfl, rfl, rfl, rfl, rfl, rfl, rfl, rfl, rfl, rfl, rfl, rfl, trivial⟩)
            · rw [hb] at hf
              have hF := condT hb ht_2
              obtain ⟨r_7, hr_7, hF⟩ := bnd_some hF
              refine qE hf rfl rfl rfl (eC (v := .bool r_7) (vs := []) (caps := []) en_12 rfl rfl rfl rfl (fun w hc => law07_awake_ok hc hr_7)) fun a hf => ?_
              refine qE hf rfl rfl rfl (Pu.ev (pPt rfl rfl)) fun a hf => ?_
              obtain rfl := Option.some.inj hF
              exact qNil (hf.keep ⟨rfl, rfl, rfl, rfl, rfl, rfl, rfl, rfl, rfl, rfl, rfl, rfl, trivial⟩)
          intro a hf
          refine qE hf rfl rfl rfl (Pu.ev (pA rfl)) fun a hf => ?_
          intro w hc
          refine h21 _ _ ?_
          refine wp_ret ?_
          obtain rfl := Option.some.inj hF
          replace hc := hc.down hle_fz_3
          replace hc := hc.down hle_fz_2
          replace hc := hc.down hle_fz_1
          replace hc := hc.down hle_fz
          replace hc := hc.drop k3
          replace hc := hc.drop k2
          replace hc := hc.drop k1
          replace hc := hc.drop k0
          exact fnOut1 (by simp) rfl Try.results8 hf hc (show look _ 4 = _ from rfl) ⟨rfl, hc⟩
        have ho19 : ∀ r, x19 = .out r → r = res := by
          rintro r rfl
          exact Option.some.inj hF
        replace hc := hc.nilRow 3 1
        replace hc := hc.drop k4
        replace hc := hc.drop k2
        refine cLoop N (loopW (S := S19) (x := x19) ?_ N (([] : List Int), 0) _ _ ⟨p_3, c_3, none, 0, hf.keep ⟨rfl, rfl, rfl, rfl, rfl, rfl, rfl, trivial⟩, hc⟩ hx19)
        clear hF hf hc
        rintro ⟨flows, x_1⟩ st19 a w KB19 ⟨p_7, c_7, p_8, c_8, hf, hc⟩ hF hfin19 hK19
        unfold law07_DailyPeaked_b19 at hF
        refine wp_seq_k fun K22 h22 => ?_
        refine cReg ?_
        refine stP hf rfl rfl rfl (pLt rfl rfl) fun a hf => ?_
        refine cNil ?_
        refine h22 _ _ ?_
        refine wp_seq_k fun K23 h23 => ?_
        refine cCond (b := (decide (x_1 < ((r_2.1.length : Nat) : Int)))) hf rfl (fun hb => ?_) (fun hb => ?_)
        · replace hF := condT hb hF
          clear hb
          refine wp_skip ?_
          refine h23 _ _ ?_
          refine wp_seq_k fun K24 h24 => ?_
          refine wp_block ?_
          refine wp_seq_k fun K25 h25 => ?_
          refine cReg ?_
          refine stP hf rfl rfl rfl (pM rfl) fun a hf => ?_
          obtain ⟨e_3, he_3, hF⟩ := bnd_some hF
          obtain ⟨g_2, rfl, qa_2, qr_2⟩ := row_atm hc m1 he_3
          refine stP hf rfl rfl rfl (pIA Try.underlying25 sz_30 rfl rfl qa_2) fun a hf => ?_
          refine stE hf hc rfl rfl rfl (eLdN (vs := [.int .i64 e_3.Lo, .int .i64 e_3.Hi]) ag_30 rfl rfl (cells_rw (sz := 2) (i := x_1.toNat) m1 qr_2 (n := 2) (o' := 0) rfl)) fun a w hf hc => ?_
          refine stAl (cs := [.int .i64 0, .int .i64 0]) hf hc rfl rfl zr_30 rfl fun b_5 a w hf hc => ?_
          refine stP hf rfl rfl rfl (pA rfl) fun a hf => ?_
          refine stSt (vs := [.int .i64 e_3.Lo, .int .i64 e_3.Hi]) hf hc rfl rfl rfl rfl sz_30 rfl rfl u0 fun w hc => ?_
          refine cNil ?_
          refine h25 _ _ ?_
          refine wp_seq_k fun K26 h26 => ?_
          obtain ⟨e_4, he_4, hF⟩ := bnd_some hF
          obtain ⟨qa_3, qr_3⟩ := row_atk hc m2 he_4
          refine cQ hc follows_mx (by kernel_rfl) ?_
          refine qE hf rfl rfl rfl (Pu.ev (pM rfl)) fun a hf => ?_
          refine qE hf rfl rfl rfl (Pu.ev (pM rfl)) fun a hf => ?_
          refine qE hf rfl rfl rfl (Pu.ev (pIA Try.underlying25 sz_30 rfl rfl qa_3)) fun a hf => ?_
          refine qE hf rfl rfl rfl (Pu.ev (pFA fa_30_1 rfl)) fun a hf => ?_
          refine qE hf rfl rfl rfl (eLd1 sc_3 rfl (cell_row (sz := 2) (i := e_1.toNat) (j := 1) m2 qr_3 rfl)) fun a hf => ?_
          refine qE hf rfl rfl rfl (Pu.ev (pFA fa_24_1 rfl)) fun a hf => ?_
          refine qE hf rfl rfl rfl (eLd1 sc_3 rfl (cell_box m4 rfl)) fun a hf => ?_
          refine qE hf rfl rfl rfl (Pu.ev (pM rfl)) fun a hf => ?_
          refine qE hf rfl rfl rfl (Pu.ev (pM rfl)) fun a hf => ?_
          refine qE hf rfl rfl rfl (Pu.ev (pSub rfl rfl)) fun a hf => ?_
          refine qE hf rfl rfl rfl (Pu.ev (pMul rfl rfl)) fun a hf => ?_
          refine qE hf rfl rfl rfl (Pu.ev (pSub rfl rfl)) fun a hf => ?_
          refine qE hf rfl rfl rfl (Pu.ev (pA rfl)) fun a hf => ?_
          intro w hc
          refine h26 _ _ ?_
          refine wp_seq_k fun K27 h27 => ?_
          have hj27 : ∀ (near : Int) a w, Has 207 a [(5, .pointer (some ⟨b_2, 0, none⟩)), (7, .slice (some ⟨g_2, 0, none⟩) r_2.1.length c_7), (18, .int .i64 e_1), (19, .slice p_8 flows.length c_8), (21, .pointer (some ⟨b_5, 0, none⟩)), (22, .int .i64 near), (141, .slice (some ⟨g_2, 0, none⟩) r_2.1.length c_7), (142, .int .i64 ((r_2.1.length : Nat) : Int)), (143, .int .i64 x_1)] → Ctx G (.box b_5 [.int .i64 e_3.Lo, .int .i64 e_3.Hi] 30 :: .row p_8 c_8 (flows.map encI_i64) 3 1 :: .row (some ⟨g_2, 0, none⟩) c_7 (r_2.1.map enc_api_Span) 30 2 :: .row p_1 c_1 (r_1.1.Days.map enc_daily_Value) 56 3 :: .box b_2 [.int .i64 r_1.1.Rise, .int .i64 r_1.1.Fall, .slice p_1 r_1.1.Days.length c_1] 24 :: Lf) w → law07_DailyPeaked_j27 N flows x_1 e_3 near = some st19 → K27 a w := by
            repeat (clear hF)
            repeat (clear hc)
            repeat (clear hf)
            intro near a w hf hc hF
            unfold law07_DailyPeaked_j27 at hF
            refine h27 _ _ ?_
            refine cReg ?_
            refine stP hf rfl rfl rfl (pM rfl) fun a hf => ?_
            refine stP hf rfl rfl rfl (pFA fa_30_0 rfl) fun a hf => ?_
            refine stE hf hc rfl rfl rfl (eLd1 sc_3 rfl (cell_box m0 rfl)) fun a w hf hc => ?_
            refine stP hf rfl rfl rfl (pM rfl) fun a hf => ?_
            refine stP hf rfl rfl rfl (pMax2 rfl rfl) fun a hf => ?_
            refine stBS (rows := ([max e_3.Lo near] : List Int).map encI_i64) (vs := [(0, .int .i64 (max e_3.Lo near))]) hf hc rfl rfl sl_39 rfl ⟨rfl, rfl, rfl, trivial⟩ rfl rfl fun b_6 a w hf hc => ?_
            obtain ⟨un_1, hun_1, hF⟩ := bnd_some hF
            refine stApm (xs := flows) (ys := ([max e_3.Lo near] : List Int)) hf hc rfl rfl sl_39 rfl rfl rfl rfl rfl one_encI_i64 (src_row hc m0) (fun _ _ => u2) (by simpa using room_spec hun_1) fun p_9 c_9 a w hf hc => ?_
            refine stP hf rfl rfl rfl (pA rfl) fun a hf => ?_
            refine cNil ?_
            refine h24 _ _ ?_
            refine cReg ?_
            refine stP hf rfl rfl rfl (pAdd rfl rfl) fun a hf => ?_
            refine stP hf rfl rfl rfl (pM rfl) fun a hf => ?_
            refine cNil ?_
            replace hc := hc.drop k1
            replace hc := hc.drop k0
            exact hK19 ((flows ++ [max e_3.Lo near]), W (x_1 + 1)) _ _ (Option.some.inj hF).symm ⟨(some ⟨g_2, 0, none⟩), c_7, p_9, c_9, hf.keep ⟨rfl, rfl, rfl, rfl, rfl, rfl, rfl, trivial⟩, hc⟩
          refine wp_seq_k fun K28 h28 => ?_
          refine cReg ?_
          refine stP hf rfl rfl rfl (pM rfl) fun a hf => ?_
          refine stP hf rfl rfl rfl (pM rfl) fun a hf => ?_
          refine stP hf rfl rfl rfl (pLt rfl rfl) fun a hf => ?_
          refine cNil ?_
          refine h28 _ _ ?_
          refine cCond (b := (decide (x_1 < e_1))) hf rfl (fun hb => ?_) (fun hb => ?_)
          · replace hF := condT hb hF
            clear hb
            obtain ⟨e_5, he_5, hF⟩ := bnd_some hF
            obtain ⟨qa_4, qr_4⟩ := row_atk hc m2 he_5
            refine cQ hc follows_mx (by kernel_rfl) ?_
            refine qE hf rfl rfl rfl (Pu.ev (pM rfl)) fun a hf => ?_
            refine qE hf rfl rfl rfl (Pu.ev (pM rfl)) fun a hf => ?_
            refine qE hf rfl rfl rfl (Pu.ev (pIA Try.underlying25 sz_30 rfl rfl qa_4)) fun a hf => ?_
            refine qE hf rfl rfl rfl (Pu.ev (pFA fa_30_1 rfl)) fun a hf => ?_
            refine qE hf rfl rfl rfl (eLd1 sc_3 rfl (cell_row (sz := 2) (i := e_1.toNat) (j := 1) m2 qr_4 rfl)) fun a hf => ?_
            refine qE hf rfl rfl rfl (Pu.ev (pFA fa_24_0 rfl)) fun a hf => ?_
            refine qE hf rfl rfl rfl (eLd1 sc_3 rfl (cell_box m4 rfl)) fun a hf => ?_
            refine qE hf rfl rfl rfl (Pu.ev (pM rfl)) fun a hf => ?_
            refine qE hf rfl rfl rfl (Pu.ev (pM rfl)) fun a hf => ?_
            refine qE hf rfl rfl rfl (Pu.ev (pSub rfl rfl)) fun a hf => ?_
            refine qE hf rfl rfl rfl (Pu.ev (pMul rfl rfl)) fun a hf => ?_
            refine qE hf rfl rfl rfl (Pu.ev (pSub rfl rfl)) fun a hf => ?_
            refine qE hf rfl rfl rfl (Pu.ev (pA rfl)) fun a hf => ?_
            intro w hc
            exact hj27 (W (e_5.Hi - (W (r_1.1.Rise * (W (e_1 - x_1)))))) _ _  (hf.keep ⟨rfl, rfl, rfl, rfl, rfl, rfl, rfl, rfl, rfl, trivial⟩) hc hF
          · replace hF := condF hb hF
            clear hb
            refine wp_skip ?_
            exact hj27 (W (e_4.Hi - (W (r_1.1.Fall * (W (x_1 - e_1)))))) _ _  (hf.keep ⟨rfl, rfl, rfl, rfl, rfl, rfl, rfl, rfl, rfl, trivial⟩) hc hF
        · replace hF := condF hb hF
          clear hb
          refine wp_exit ?_
          refine xThen ?_
          refine xThen ?_
          have he := Option.some.inj hF
          rw [← he] at hfin19
          refine cHit ?_
          exact hr19 _ _ _ hfin19 ⟨p_7, c_7, p_8, c_8, hf.keep ⟨rfl, rfl, rfl, rfl, rfl, rfl, rfl, trivial⟩, hc⟩
    have ho11 : ∀ r, x11 = .out r → r = res := by
      rintro r rfl
      exact Option.some.inj hF
    replace hc := hc.drop k5
    refine cLoop N (loopW (S := S11) (x := x11) ?_ N 0 _ _ ⟨hf.keep ⟨rfl, rfl, rfl, rfl, rfl, rfl, rfl, rfl, trivial⟩, hc⟩ hx11)
    clear hF hf hc
    rintro x st11 a w KB11 ⟨hf, hc⟩ hF hfin11 hK11
    unfold law07_DailyPeaked_b11 at hF
    refine wp_seq_k fun K29 h29 => ?_
    refine cReg ?_
    refine stP hf rfl rfl rfl (pLt rfl rfl) fun a hf => ?_
    refine cNil ?_
    refine h29 _ _ ?_
    refine wp_seq_k fun K30 h30 => ?_
    refine cCond (b := (decide (x < (3 : Int)))) hf rfl (fun hb => ?_) (fun hb => ?_)
    · replace hF := condT hb hF
      clear hb
      refine wp_skip ?_
      refine h30 _ _ ?_
      refine wp_seq_k fun K31 h31 => ?_
      refine wp_block ?_
      refine wp_seq_k fun K32 h32 => ?_
      refine cReg ?_
      refine stP hf rfl rfl rfl (pM rfl) fun a hf => ?_
      obtain ⟨e_6, he_6, hF⟩ := bnd_some hF
      obtain ⟨b_7, o, q2, c2, qa_5, qp, qr_5⟩ := rdd.atm he_6
      refine stP hf rfl rfl rfl (pIA Try.underlying78 sz_39 rfl rfl qa_5) fun a hf => ?_
      refine stE hf hc rfl rfl rfl (eLd1 sc_39 rfl (cell_pc (j := 0) qp rfl)) fun a w hf hc => ?_
      refine stP hf rfl rfl rfl (pA rfl) fun a hf => ?_
      refine stP hf rfl rfl rfl (pA rfl) fun a hf => ?_
      refine cNil ?_
      refine h32 _ _ ?_
      refine wp_seq_k fun K33 h33 => ?_
      refine cReg ?_
      refine stP hf rfl rfl rfl (pM rfl) fun a hf => ?_
      obtain ⟨r_8, hr_8, hF⟩ := bnd_some hF
      refine stE hf hc rfl rfl rfl (eC (v := .int .i64 r_8) (vs := [.slice q2 e_6.length c2]) (caps := []) en_43 rfl rfl rfl rfl (fun w hc => slices_Max_Lint_int_ok e_6 qr_5 hc hr_8)) fun a w hf hc => ?_
      refine stP hf rfl rfl rfl (pA rfl) fun a hf => ?_
      refine cNil ?_
      refine h33 _ _ ?_
      refine wp_seq_k fun K34 h34 => ?_
      refine wp_seq_k fun K35 h35 => ?_
      refine cReg ?_
      refine stP hf rfl rfl rfl (pM rfl) fun a hf => ?_
      refine stP hf rfl rfl rfl (pFA fa_30_0 rfl) fun a hf => ?_
      refine stE hf hc rfl rfl rfl (eLd1 sc_3 rfl (cell_box m1 rfl)) fun a w hf hc => ?_
      refine stP hf rfl rfl rfl (pLt rfl rfl) fun a hf => ?_
      refine stP hf rfl rfl rfl (pM rfl) fun a hf => ?_
      refine stCut 5 (fun a w => Has 207 a [(1, .int .u8 which), (5, .pointer (some ⟨b_2, 0, none⟩)), (7, .slice p_3 r_2.1.length c_3), (9, .pointer (some ⟨b_3, 0, none⟩)), (10, .slice p_4 r_3.2.1.length c_4), (67, .slice (some ⟨b_4, 0, none⟩) 3 3), (68, .int .i64 (3 : Int)), (69, .int .i64 x), (14, .int .i64 x), (15, .slice q2 e_6.length c2), (16, .int .i64 r_8), (76, .int .i64 r_8), (77, .pointer (some ⟨b_3, 0, none⟩)), (78, .int .i64 r_3.1.Lo), (79, .bool (decide (r_8 < r_3.1.Lo))), (80, .bool (decide (r_8 < r_3.1.Lo))), (85, .bool ((decide (r_8 < r_3.1.Lo)) || (decide (r_3.1.Hi < r_8))))] ∧ Ctx G (.row p_3 c_3 (r_2.1.map enc_api_Span) 30 2 :: .box b_3 [.int .i64 r_3.1.Lo, .int .i64 r_3.1.Hi] 30 :: .row p_1 c_1 (r_1.1.Days.map enc_daily_Value) 56 3 :: .row p_4 c_4 (r_3.2.1.map encI_i64) 3 1 :: .box b_2 [.int .i64 r_1.1.Rise, .int .i64 r_1.1.Fall, .slice p_1 r_1.1.Days.length c_1] 24 :: Lf) w) ?_ ?_
      · cases hb : (decide (r_8 < r_3.1.Lo))
        · rw [hb] at hf
          refine stP hf rfl rfl rfl (pM rfl) fun a hf => ?_
          refine stP hf rfl rfl rfl (pFA fa_30_1 rfl) fun a hf => ?_
          refine stE hf hc rfl rfl rfl (eLd1 sc_3 rfl (cell_box m1 rfl)) fun a w hf hc => ?_
          refine stP hf rfl rfl rfl (pGt rfl rfl) fun a hf => ?_
          refine stP hf rfl rfl rfl (pPf rfl rfl) fun a hf => ?_
          exact cNil ⟨hf.keep ⟨rfl, rfl, rfl, rfl, rfl, rfl, rfl, rfl, rfl, rfl, rfl, rfl, rfl, rfl, rfl, rfl, rfl, trivial⟩, hc⟩
        · rw [hb] at hf
          refine stS hf rfl rfl rfl fun a hf => ?_
          refine stS hf rfl rfl rfl fun a hf => ?_
          refine stS hf rfl rfl rfl fun a hf => ?_
          refine stS hf rfl rfl rfl fun a hf => ?_
          refine stP hf rfl rfl rfl (pPt rfl rfl) fun a hf => ?_
          exact cNil ⟨hf.keep ⟨rfl, rfl, rfl, rfl, rfl, rfl, rfl, rfl, rfl, rfl, rfl, rfl, rfl, rfl, rfl, rfl, rfl, trivial⟩, hc⟩
      intro a w ⟨hf, hc⟩
      refine stP hf rfl rfl rfl (pM rfl) fun a hf => ?_
      refine stCut 9 (fun a w => Has 207 a [(1, .int .u8 which), (5, .pointer (some ⟨b_2, 0, none⟩)), (7, .slice p_3 r_2.1.length c_3), (9, .pointer (some ⟨b_3, 0, none⟩)), (10, .slice p_4 r_3.2.1.length c_4), (67, .slice (some ⟨b_4, 0, none⟩) 3 3), (68, .int .i64 (3 : Int)), (69, .int .i64 x), (14, .int .i64 x), (15, .slice q2 e_6.length c2), (16, .int .i64 r_8), (76, .int .i64 r_8), (77, .pointer (some ⟨b_3, 0, none⟩)), (78, .int .i64 r_3.1.Lo), (79, .bool (decide (r_8 < r_3.1.Lo))), (80, .bool (decide (r_8 < r_3.1.Lo))), (85, .bool ((decide (r_8 < r_3.1.Lo)) || (decide (r_3.1.Hi < r_8)))), (86, .bool ((decide (r_8 < r_3.1.Lo)) || (decide (r_3.1.Hi < r_8)))), (95, .bool (((decide (r_8 < r_3.1.Lo)) || (decide (r_3.1.Hi < r_8))) || ((x == 0) && (r_8 != r_3.1.Lo))))] ∧ Ctx G (.row p_3 c_3 (r_2.1.map enc_api_Span) 30 2 :: .box b_3 [.int .i64 r_3.1.Lo, .int .i64 r_3.1.Hi] 30 :: .row p_1 c_1 (r_1.1.Days.map enc_daily_Value) 56 3 :: .row p_4 c_4 (r_3.2.1.map encI_i64) 3 1 :: .box b_2 [.int .i64 r_1.1.Rise, .int .i64 r_1.1.Fall, .slice p_1 r_1.1.Days.length c_1] 24 :: Lf) w) ?_ ?_
      · cases hb : ((decide (r_8 < r_3.1.Lo)) || (decide (r_3.1.Hi < r_8)))
        · rw [hb] at hf
          refine stP hf rfl rfl rfl (pM rfl) fun a hf => ?_
          refine stP hf rfl rfl rfl (pEq rfl rfl) fun a hf => ?_
          refine stP hf rfl rfl rfl (pM rfl) fun a hf => ?_
          refine stCut 5 (fun a w => Has 207 a [(1, .int .u8 which), (5, .pointer (some ⟨b_2, 0, none⟩)), (7, .slice p_3 r_2.1.length c_3), (9, .pointer (some ⟨b_3, 0, none⟩)), (10, .slice p_4 r_3.2.1.length c_4), (67, .slice (some ⟨b_4, 0, none⟩) 3 3), (68, .int .i64 (3 : Int)), (69, .int .i64 x), (14, .int .i64 x), (15, .slice q2 e_6.length c2), (16, .int .i64 r_8), (76, .int .i64 r_8), (77, .pointer (some ⟨b_3, 0, none⟩)), (78, .int .i64 r_3.1.Lo), (79, .bool (decide (r_8 < r_3.1.Lo))), (80, .bool (decide (r_8 < r_3.1.Lo))), (85, .bool false), (86, .bool false), (87, .int .i64 x), (88, .bool (x == 0)), (89, .bool (x == 0)), (94, .bool ((x == 0) && (r_8 != r_3.1.Lo)))] ∧ Ctx G (.row p_3 c_3 (r_2.1.map enc_api_Span) 30 2 :: .box b_3 [.int .i64 r_3.1.Lo, .int .i64 r_3.1.Hi] 30 :: .row p_1 c_1 (r_1.1.Days.map enc_daily_Value) 56 3 :: .row p_4 c_4 (r_3.2.1.map encI_i64) 3 1 :: .box b_2 [.int .i64 r_1.1.Rise, .int .i64 r_1.1.Fall, .slice p_1 r_1.1.Days.length c_1] 24 :: Lf) w) ?_ ?_
          · cases hb : (x == 0)
            · rw [hb] at hf
              refine stS hf rfl rfl rfl fun a hf => ?_
              refine stS hf rfl rfl rfl fun a hf => ?_
              refine stS hf rfl rfl rfl fun a hf => ?_
              refine stS hf rfl rfl rfl fun a hf => ?_
              refine stP hf rfl rfl rfl (pPf rfl rfl) fun a hf => ?_
              exact cNil ⟨hf.keep ⟨rfl, rfl, rfl, rfl, rfl, rfl, rfl, rfl, rfl, rfl, rfl, rfl, rfl, rfl, rfl, rfl, rfl, rfl, rfl, rfl, rfl, rfl, trivial⟩, hc⟩
            · rw [hb] at hf
              refine stP hf rfl rfl rfl (pM rfl) fun a hf => ?_
              refine stP hf rfl rfl rfl (pFA fa_30_0 rfl) fun a hf => ?_
              refine stE hf hc rfl rfl rfl (eLd1 sc_3 rfl (cell_box m1 rfl)) fun a w hf hc => ?_
              refine stP hf rfl rfl rfl (pNe rfl rfl) fun a hf => ?_
              refine stP hf rfl rfl rfl (pPt rfl rfl) fun a hf => ?_
              exact cNil ⟨hf.keep ⟨rfl, rfl, rfl, rfl, rfl, rfl, rfl, rfl, rfl, rfl, rfl, rfl, rfl, rfl, rfl, rfl, rfl, rfl, rfl, rfl, rfl, rfl, trivial⟩, hc⟩
          intro a w ⟨hf, hc⟩
          refine stP hf rfl rfl rfl (pPf rfl rfl) fun a hf => ?_
          exact cNil ⟨hf.keep ⟨rfl, rfl, rfl, rfl, rfl, rfl, rfl, rfl, rfl, rfl, rfl, rfl, rfl, rfl, rfl, rfl, rfl, rfl, rfl, trivial⟩, hc⟩
        · rw [hb] at hf
          refine stS hf rfl rfl rfl fun a hf => ?_
          refine stS hf rfl rfl rfl fun a hf => ?_
          refine stS hf rfl rfl rfl fun a hf => ?_
          refine stS hf rfl rfl rfl fun a hf => ?_
          refine stS hf rfl rfl rfl fun a hf => ?_
          refine stS hf rfl rfl rfl fun a hf => ?_
          refine stS hf rfl rfl rfl fun a hf => ?_
          refine stS hf rfl rfl rfl fun a hf => ?_
          refine stP hf rfl rfl rfl (pPt rfl rfl) fun a hf => ?_
          exact cNil ⟨hf.keep ⟨rfl, rfl, rfl, rfl, rfl, rfl, rfl, rfl, rfl, rfl, rfl, rfl, rfl, rfl, rfl, rfl, rfl, rfl, rfl, trivial⟩, hc⟩
      intro a w ⟨hf, hc⟩
      refine stP hf rfl rfl rfl (pM rfl) fun a hf => ?_
      refine stCut 9 (fun a w => Has 207 a [(1, .int .u8 which), (5, .pointer (some ⟨b_2, 0, none⟩)), (7, .slice p_3 r_2.1.length c_3), (9, .pointer (some ⟨b_3, 0, none⟩)), (10, .slice p_4 r_3.2.1.length c_4), (67, .slice (some ⟨b_4, 0, none⟩) 3 3), (68, .int .i64 (3 : Int)), (69, .int .i64 x), (14, .int .i64 x), (15, .slice q2 e_6.length c2), (16, .int .i64 r_8), (76, .int .i64 r_8), (77, .pointer (some ⟨b_3, 0, none⟩)), (78, .int .i64 r_3.1.Lo), (79, .bool (decide (r_8 < r_3.1.Lo))), (80, .bool (decide (r_8 < r_3.1.Lo))), (85, .bool ((decide (r_8 < r_3.1.Lo)) || (decide (r_3.1.Hi < r_8)))), (86, .bool ((decide (r_8 < r_3.1.Lo)) || (decide (r_3.1.Hi < r_8)))), (95, .bool (((decide (r_8 < r_3.1.Lo)) || (decide (r_3.1.Hi < r_8))) || ((x == 0) && (r_8 != r_3.1.Lo)))), (96, .bool (((decide (r_8 < r_3.1.Lo)) || (decide (r_3.1.Hi < r_8))) || ((x == 0) && (r_8 != r_3.1.Lo)))), (105, .bool ((((decide (r_8 < r_3.1.Lo)) || (decide (r_3.1.Hi < r_8))) || ((x == 0) && (r_8 != r_3.1.Lo))) || ((x == 1) && (r_8 != r_3.1.Hi))))] ∧ Ctx G (.row p_3 c_3 (r_2.1.map enc_api_Span) 30 2 :: .box b_3 [.int .i64 r_3.1.Lo, .int .i64 r_3.1.Hi] 30 :: .row p_1 c_1 (r_1.1.Days.map enc_daily_Value) 56 3 :: .row p_4 c_4 (r_3.2.1.map encI_i64) 3 1 :: .box b_2 [.int .i64 r_1.1.Rise, .int .i64 r_1.1.Fall, .slice p_1 r_1.1.Days.length c_1] 24 :: Lf) w) ?_ ?_
      · cases hb : (((decide (r_8 < r_3.1.Lo)) || (decide (r_3.1.Hi < r_8))) || ((x == 0) && (r_8 != r_3.1.Lo)))
        · rw [hb] at hf
          refine stP hf rfl rfl rfl (pM rfl) fun a hf => ?_
          refine stP hf rfl rfl rfl (pEq rfl rfl) fun a hf => ?_
          refine stP hf rfl rfl rfl (pM rfl) fun a hf => ?_
          refine stCut 5 (fun a w => Has 207 a [(1, .int .u8 which), (5, .pointer (some ⟨b_2, 0, none⟩)), (7, .slice p_3 r_2.1.length c_3), (9, .pointer (some ⟨b_3, 0, none⟩)), (10, .slice p_4 r_3.2.1.length c_4), (67, .slice (some ⟨b_4, 0, none⟩) 3 3), (68, .int .i64 (3 : Int)), (69, .int .i64 x), (14, .int .i64 x), (15, .slice q2 e_6.length c2), (16, .int .i64 r_8), (76, .int .i64 r_8), (77, .pointer (some ⟨b_3, 0, none⟩)), (78, .int .i64 r_3.1.Lo), (79, .bool (decide (r_8 < r_3.1.Lo))), (80, .bool (decide (r_8 < r_3.1.Lo))), (85, .bool ((decide (r_8 < r_3.1.Lo)) || (decide (r_3.1.Hi < r_8)))), (86, .bool ((decide (r_8 < r_3.1.Lo)) || (decide (r_3.1.Hi < r_8)))), (95, .bool false), (96, .bool false), (97, .int .i64 x), (98, .bool (x == 1)), (99, .bool (x == 1)), (104, .bool ((x == 1) && (r_8 != r_3.1.Hi)))] ∧ Ctx G (.row p_3 c_3 (r_2.1.map enc_api_Span) 30 2 :: .box b_3 [.int .i64 r_3.1.Lo, .int .i64 r_3.1.Hi] 30 :: .row p_1 c_1 (r_1.1.Days.map enc_daily_Value) 56 3 :: .row p_4 c_4 (r_3.2.1.map encI_i64) 3 1 :: .box b_2 [.int .i64 r_1.1.Rise, .int .i64 r_1.1.Fall, .slice p_1 r_1.1.Days.length c_1] 24 :: Lf) w) ?_ ?_
          · cases hb : (x == 1)
            · rw [hb] at hf
              refine stS hf rfl rfl rfl fun a hf => ?_
              refine stS hf rfl rfl rfl fun a hf => ?_
              refine stS hf rfl rfl rfl fun a hf => ?_
              refine stS hf rfl rfl rfl fun a hf => ?_
              refine stP hf rfl rfl rfl (pPf rfl rfl) fun a hf => ?_
              exact cNil ⟨hf.keep ⟨rfl, rfl, rfl, rfl, rfl, rfl, rfl, rfl, rfl, rfl, rfl, rfl, rfl, rfl, rfl, rfl, rfl, rfl, rfl, rfl, rfl, rfl, rfl, rfl, trivial⟩, hc⟩
            · rw [hb] at hf
              refine stP hf rfl rfl rfl (pM rfl) fun a hf => ?_
              refine stP hf rfl rfl rfl (pFA fa_30_1 rfl) fun a hf => ?_
              refine stE hf hc rfl rfl rfl (eLd1 sc_3 rfl (cell_box m1 rfl)) fun a w hf hc => ?_
              refine stP hf rfl rfl rfl (pNe rfl rfl) fun a hf => ?_
              refine stP hf rfl rfl rfl (pPt rfl rfl) fun a hf => ?_
              exact cNil ⟨hf.keep ⟨rfl, rfl, rfl, rfl, rfl, rfl, rfl, rfl, rfl, rfl, rfl, rfl, rfl, rfl, rfl, rfl, rfl, rfl, rfl, rfl, rfl, rfl, rfl, rfl, trivial⟩, hc⟩
          intro a w ⟨hf, hc⟩
          refine stP hf rfl rfl rfl (pPf rfl rfl) fun a hf => ?_
          exact cNil ⟨hf.keep ⟨rfl, rfl, rfl, rfl, rfl, rfl, rfl, rfl, rfl, rfl, rfl, rfl, rfl, rfl, rfl, rfl, rfl, rfl, rfl, rfl, rfl, trivial⟩, hc⟩
        · rw [hb] at hf
          refine stS hf rfl rfl rfl fun a hf => ?_
          refine stS hf rfl rfl rfl fun a hf => ?_
          refine stS hf rfl rfl rfl fun a hf => ?_
          refine stS hf rfl rfl rfl fun a hf => ?_
          refine stS hf rfl rfl rfl fun a hf => ?_
          refine stS hf rfl rfl rfl fun a hf => ?_
          refine stS hf rfl rfl rfl fun a hf => ?_
          refine stS hf rfl rfl rfl fun a hf => ?_
          refine stP hf rfl rfl rfl (pPt rfl rfl) fun a hf => ?_
          exact cNil ⟨hf.keep ⟨rfl, rfl, rfl, rfl, rfl, rfl, rfl, rfl, rfl, rfl, rfl, rfl, rfl, rfl, rfl, rfl, rfl, rfl, rfl, rfl, rfl, trivial⟩, hc⟩
      intro a w ⟨hf, hc⟩
      refine cNil ?_
      refine h35 _ _ ?_
      refine cCond (b := ((((decide (r_8 < r_3.1.Lo)) || (decide (r_3.1.Hi < r_8))) || ((x == 0) && (r_8 != r_3.1.Lo))) || ((x == 1) && (r_8 != r_3.1.Hi)))) hf rfl (fun hb => ?_) (fun hb => ?_)
      · replace hF := condT hb hF
        clear hb
        refine wp_seq_k fun K36 h36 => ?_
        refine cReg ?_
        refine stP hf rfl rfl rfl (pA rfl) fun a hf => ?_
        refine cNil ?_
        refine h36 _ _ ?_
        refine wp_ret ?_
        refine xThenR ?_
        refine xBlkR ?_
        refine xThenR ?_
        refine xThenR ?_
        have he := Option.some.inj hF
        rw [← he] at hfin11
        replace hF := ho11 _ hfin11
        refine xBlkR ?_
        refine xThenR ?_
        obtain rfl := hF
        replace hc := hc.down hle_fz_3
        replace hc := hc.down hle_fz_2
        replace hc := hc.down hle_fz_1
        replace hc := hc.down hle_fz
        replace hc := hc.drop k4
        replace hc := hc.drop k3
        replace hc := hc.drop k2
        replace hc := hc.drop k1
        replace hc := hc.drop k0
        exact fnOut1 (by simp) rfl Try.results8 hf hc (show look _ 4 = _ from rfl) ⟨rfl, hc⟩
      · replace hF := condF hb hF
        clear hb
        refine wp_skip ?_
        refine h34 _ _ ?_
        refine wp_seq_k fun K37 h37 => ?_
        refine cReg ?_
        refine stP hf rfl rfl rfl (pM rfl) fun a hf => ?_
        refine stP hf rfl rfl rfl (pLenS Try.underlying39 rfl) fun a hf => ?_
        refine stP hf rfl rfl rfl (pM rfl) fun a hf => ?_
        refine cNil ?_
        refine h37 _ _ ?_
        refine wp_thenK fun K38 h38 => ?_
        refine wp_block ?_
        obtain ⟨x39, hx39, hF⟩ := bnd_some hF
        let S39 : Int → Act → World → Prop := (fun (zz : Int) a w => Has 207 a [(1, .int .u8 which), (5, .pointer (some ⟨b_2, 0, none⟩)), (7, .slice p_3 r_2.1.length c_3), (9, .pointer (some ⟨b_3, 0, none⟩)), (10, .slice p_4 r_3.2.1.length c_4), (15, .slice q2 e_6.length c2), (16, .int .i64 r_8), (67, .slice (some ⟨b_4, 0, none⟩) 3 3), (68, .int .i64 (3 : Int)), (69, .int .i64 x), (107, .int .i64 ((e_6.length : Nat) : Int)), (108, .int .i64 zz)] ∧ Ctx G (.row p_3 c_3 (r_2.1.map enc_api_Span) 30 2 :: .box b_3 [.int .i64 r_3.1.Lo, .int .i64 r_3.1.Hi] 30 :: .row p_1 c_1 (r_1.1.Days.map enc_daily_Value) 56 3 :: .row p_4 c_4 (r_3.2.1.map encI_i64) 3 1 :: .box b_2 [.int .i64 r_1.1.Rise, .int .i64 r_1.1.Fall, .slice p_1 r_1.1.Days.length c_1] 24 :: Lf) w)
        have hr39 : ∀ (zz : Int) a w, x39 = .go zz → S39 zz a w → K38 a w := by
          rintro x_2 a w rfl ⟨hf, hc⟩
          replace hF := exK_go hF
          refine h38 _ _ ?_
          refine h31 _ _ ?_
          refine cReg ?_
          refine stP hf rfl rfl rfl (pAdd rfl rfl) fun a hf => ?_
          refine stP hf rfl rfl rfl (pM rfl) fun a hf => ?_
          refine cNil ?_
          exact hK11 (W (x + 1)) _ _ (Option.some.inj hF).symm ⟨hf.keep ⟨rfl, rfl, rfl, rfl, rfl, rfl, rfl, rfl, trivial⟩, hc⟩
        have ho39 : ∀ r, x39 = .out r → r = st11 := by
          rintro r rfl
          exact Option.some.inj hF
        refine cLoop N (loopW (S := S39) (x := x39) ?_ N 0 _ _ ⟨hf.keep ⟨rfl, rfl, rfl, rfl, rfl, rfl, rfl, rfl, rfl, rfl, rfl, rfl, trivial⟩, hc⟩ hx39)
        clear hF hf hc
        rintro x_2 st39 a w KB39 ⟨hf, hc⟩ hF hfin39 hK39
        unfold law07_DailyPeaked_b39 at hF
        refine wp_seq_k fun K40 h40 => ?_
        refine cReg ?_
        refine stP hf rfl rfl rfl (pLt rfl rfl) fun a hf => ?_
        refine cNil ?_
        refine h40 _ _ ?_
        refine wp_seq_k fun K41 h41 => ?_
        refine cCond (b := (decide (x_2 < ((e_6.length : Nat) : Int)))) hf rfl (fun hb => ?_) (fun hb => ?_)
        · replace hF := condT hb hF
          clear hb
          refine wp_skip ?_
          refine h41 _ _ ?_
          refine wp_seq_k fun K42 h42 => ?_
          refine wp_block ?_
          refine wp_seq_k fun K43 h43 => ?_
          refine cReg ?_
          refine stP hf rfl rfl rfl (pM rfl) fun a hf => ?_
          refine stP hf rfl rfl rfl (pA rfl) fun a hf => ?_
          refine cNil ?_
          refine h43 _ _ ?_
          refine wp_seq_k fun K44 h44 => ?_
          refine cReg ?_
          refine stP hf rfl rfl rfl (pM rfl) fun a hf => ?_
          refine stP hf rfl rfl rfl (pM rfl) fun a hf => ?_
          obtain ⟨e_7, he_7, hF⟩ := bnd_some hF
          obtain ⟨b_8, o_1, qa_6, qp_1⟩ := qr_5.atm he_7
          refine stP hf rfl rfl rfl (pIA Try.underlying39 sz_3 rfl rfl qa_6) fun a hf => ?_
          refine stE hf hc rfl rfl rfl (eLd1 sc_3 rfl (cell_pc (j := 0) qp_1 rfl)) fun a w hf hc => ?_
          refine stP hf rfl rfl rfl (pM rfl) fun a hf => ?_
          refine stP hf rfl rfl rfl (pEq rfl rfl) fun a hf => ?_
          refine stP hf rfl rfl rfl (pM rfl) fun a hf => ?_
          obtain ⟨t_3, ht_3, hF⟩ := bnd_some hF
          refine stCut 5 (fun a w => Has 207 a [(1, .int .u8 which), (5, .pointer (some ⟨b_2, 0, none⟩)), (7, .slice p_3 r_2.1.length c_3), (9, .pointer (some ⟨b_3, 0, none⟩)), (10, .slice p_4 r_3.2.1.length c_4), (15, .slice q2 e_6.length c2), (16, .int .i64 r_8), (67, .slice (some ⟨b_4, 0, none⟩) 3 3), (68, .int .i64 (3 : Int)), (69, .int .i64 x), (107, .int .i64 ((e_6.length : Nat) : Int)), (108, .int .i64 x_2), (17, .int .i64 x_2), (111, .slice q2 e_6.length c2), (112, .int .i64 x_2), (113, .pointer (some ⟨b_8, o_1, none⟩)), (114, .int .i64 e_7), (115, .int .i64 r_8), (116, .bool (e_7 == r_8)), (117, .bool (e_7 == r_8)), (122, .bool t_3)] ∧ Ctx G (.row p_3 c_3 (r_2.1.map enc_api_Span) 30 2 :: .box b_3 [.int .i64 r_3.1.Lo, .int .i64 r_3.1.Hi] 30 :: .row p_1 c_1 (r_1.1.Days.map enc_daily_Value) 56 3 :: .row p_4 c_4 (r_3.2.1.map encI_i64) 3 1 :: .box b_2 [.int .i64 r_1.1.Rise, .int .i64 r_1.1.Fall, .slice p_1 r_1.1.Days.length c_1] 24 :: Lf) w) ?_ ?_
          · cases hb : (e_7 == r_8)
            · rw [hb] at hf
              have hF := condF hb ht_3
              obtain rfl := Option.some.inj hF
              refine stS hf rfl rfl rfl fun a hf => ?_
              refine stS hf rfl rfl rfl fun a hf => ?_
              refine stS hf rfl rfl rfl fun a hf => ?_
              refine stS hf rfl rfl rfl fun a hf => ?_
              refine stP hf rfl rfl rfl (pPf rfl rfl) fun a hf => ?_
              exact cNil ⟨hf.keep ⟨rfl, rfl, rfl, rfl, rfl, rfl, rfl, rfl, rfl, rfl, rfl, rfl, rfl, rfl, rfl, rfl, rfl, rfl, rfl, rfl, rfl, trivial⟩, hc⟩
            · rw [hb] at hf
              have hF := condT hb ht_3
              refine stP hf rfl rfl rfl (pM rfl) fun a hf => ?_
              refine stP hf rfl rfl rfl (pM rfl) fun a hf => ?_
              obtain ⟨r_9, hr_9, hF⟩ := bnd_some hF
              refine stE hf hc rfl rfl rfl (eC (v := .bool r_9) (vs := [.slice p_4 r_3.2.1.length c_4, .int .i64 x_2]) (caps := []) en_32 rfl rfl rfl rfl (fun w hc => by obtain ⟨G1, hle1, hrd1, hc, hth1⟩ := lend hc k3; exact (slices_Contains_Lint_int_ok r_3.2.1 x_2 hrd1 hc hr_9).mono fun e w h => ⟨h.1, ((hth1 _ _ h.2).unpick k3)⟩)) fun a w hf hc => ?_
              refine stP hf rfl rfl rfl (pNot rfl) fun a hf => ?_
              refine stP hf rfl rfl rfl (pPt rfl rfl) fun a hf => ?_
              obtain rfl := Option.some.inj hF
              exact cNil ⟨hf.keep ⟨rfl, rfl, rfl, rfl, rfl, rfl, rfl, rfl, rfl, rfl, rfl, rfl, rfl, rfl, rfl, rfl, rfl, rfl, rfl, rfl, rfl, trivial⟩, hc⟩
          intro a w ⟨hf, hc⟩
          refine cNil ?_
          refine h44 _ _ ?_
          refine cCond (b := t_3) hf rfl (fun hb => ?_) (fun hb => ?_)
          · replace hF := condT hb hF
            clear hb
            refine wp_seq_k fun K45 h45 => ?_
            refine cReg ?_
            refine stP hf rfl rfl rfl (pA rfl) fun a hf => ?_
            refine cNil ?_
            refine h45 _ _ ?_
            refine wp_ret ?_
            refine xBlkR ?_
            refine xThenR ?_
            refine xThenR ?_
            have he := Option.some.inj hF
            rw [← he] at hfin39
            replace hF := ho39 _ hfin39
            refine xBlkR ?_
            refine xThenR ?_
            refine xBlkR ?_
            refine xThenR ?_
            refine xThenR ?_
            have he := hF
            rw [← he] at hfin11
            replace hF := ho11 _ hfin11
            refine xBlkR ?_
            refine xThenR ?_
            obtain rfl := hF
            replace hc := hc.down hle_fz_3
            replace hc := hc.down hle_fz_2
            replace hc := hc.down hle_fz_1
            replace hc := hc.down hle_fz
            replace hc := hc.drop k4
            replace hc := hc.drop k3
            replace hc := hc.drop k2
            replace hc := hc.drop k1
            replace hc := hc.drop k0
            exact fnOut1 (by simp) rfl Try.results8 hf hc (show look _ 4 = _ from rfl) ⟨rfl, hc⟩
          · replace hF := condF hb hF
            clear hb
            refine wp_skip ?_
            refine h42 _ _ ?_
            refine cReg ?_
            refine stP hf rfl rfl rfl (pAdd rfl rfl) fun a hf => ?_
            refine stP hf rfl rfl rfl (pM rfl) fun a hf => ?_
            refine cNil ?_
            exact hK39 (W (x_2 + 1)) _ _ (Option.some.inj hF).symm ⟨hf.keep ⟨rfl, rfl, rfl, rfl, rfl, rfl, rfl, rfl, rfl, rfl, rfl, rfl, trivial⟩, hc⟩
        · replace hF := condF hb hF
          clear hb
          refine wp_exit ?_
          refine xThen ?_
          refine xThen ?_
          have he := Option.some.inj hF
          rw [← he] at hfin39
          refine cHit ?_
          exact hr39 _ _ _ hfin39 ⟨hf.keep ⟨rfl, rfl, rfl, rfl, rfl, rfl, rfl, rfl, rfl, rfl, rfl, rfl, trivial⟩, hc⟩
    · replace hF := condF hb hF
      clear hb
      refine wp_exit ?_
      refine xThen ?_
      refine xThen ?_
      have he := Option.some.inj hF
      rw [← he] at hfin11
      refine cHit ?_
      exact hr11 _ _ _ hfin11 ⟨hf.keep ⟨rfl, rfl, rfl, rfl, rfl, rfl, rfl, rfl, trivial⟩, hc⟩

end Go.Nilo
