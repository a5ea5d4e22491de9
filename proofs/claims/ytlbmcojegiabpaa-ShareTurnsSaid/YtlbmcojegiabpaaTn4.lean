/-
  What functions of the Go text compute, as plain functions, and that they do, part 4 of 4. Conditions: what each theorem names.
-/
import Derived.Test.YtlbmcojegiabpaaTn3
import Derived.Test.YtlbmcojegiabpaaProg
set_option linter.unusedVariables false
set_option maxRecDepth 100000
set_option maxHeartbeats 4000000
namespace Go.Nilo
open Go.Proofs


def share_Proves_b11 (N : Nat) (claims : List Int) (shares : List Int) (rule : Int) (divisor : api_Ratio) (x : Int) : Option (Step (Int) (Bool × Int)) :=
  cond (decide (x < ((shares.length : Nat) : Int)))
  (Option.bind (getI shares x) fun e_1 =>
  Option.bind (getI claims x) fun e_2 =>
  Option.bind (share_proof_proves N (⟨rule, (⟨divisor.N, divisor.D⟩ : share_quotient)⟩ : share_proof) e_2 e_1) fun r_1 =>
  cond (!r_1)
  (some (.ret (false, 0)))
  (some (.cont (W (x + 1)))))
  (some (.brk x))
def share_Proves (N : Nat) (claims : List Int) (shares : List Int) (rule : Int) (divisor : api_Ratio) : Option (Bool × Int) :=
  Option.bind (share_shared N claims shares rule) fun r =>
  cond (r != 0)
  (some (false, r))
  (cond (((!(share_in divisor.N 1 1000000000)) || (!(share_in divisor.D 1 1000000000))) || (decide ((W (2000000 * divisor.D)) < divisor.N)))
  (some (false, 4))
  (Option.bind (loopO (fun s11 => share_Proves_b11 N claims shares rule divisor s11) N 0) fun x11 =>
  exK x11 (fun s11 => some (true, 0)) some))
theorem share_Proves_ok {N : Nat} {G : Pers} {Lf : List Ent} {w : World} (claims : List Int) (shares : List Int) (rule : Int) (divisor : api_Ratio) {claims_p : Option Addr} {claims_c : Nat} {shares_p : Option Addr} {shares_c : Nat} (h_claims : Rd G 1 claims_p claims_c (claims.map encI_i64)) (h_shares : Rd G 1 shares_p shares_c (shares.map encI_i64)) (hc : Ctx G (Lf) w) {res : Bool × Int} (hF : share_Proves N claims shares rule divisor = some res) : Calls Try.prog 41 #[.slice claims_p claims.length claims_c, .slice shares_p shares.length shares_c, .int .i64 rule, .agg #[.int .i64 divisor.N, .int .i64 divisor.D]] w (fun e w => e = .returned (.tuple #[.bool res.1, .int .i64 res.2]) ∧ Ctx G (Lf) w) := by
  unfold share_Proves at hF
  refine fnIn (args := [.slice claims_p claims.length claims_c, .slice shares_p shares.length shares_c, .int .i64 rule, .agg #[.int .i64 divisor.N, .int .i64 divisor.D]]) Try.func41 rfl Try.ntmps41 rfl fun a hf => ?_
  refine wp_seq_k fun K1 h1 => ?_
  refine cReg ?_
  refine stBx (cs := [.int .i64 divisor.N, .int .i64 divisor.D]) hf hc rfl rfl rfl rfl fun b_1 a w hf hc => ?_
  refine stP hf rfl rfl rfl (pA rfl) fun a hf => ?_
  refine stP hf rfl rfl rfl (pA rfl) fun a hf => ?_
  refine cNil ?_
  refine h1 _ _ ?_
  refine wp_seq_k fun K2 h2 => ?_
  refine cReg ?_
  refine stP hf rfl rfl rfl (pM rfl) fun a hf => ?_
  refine stP hf rfl rfl rfl (pM rfl) fun a hf => ?_
  refine stP hf rfl rfl rfl (pM rfl) fun a hf => ?_
  obtain ⟨r, hr, hF⟩ := bnd_some hF
  refine stE hf hc rfl rfl rfl (eC (v := .int .i64 r) (vs := [.slice claims_p claims.length claims_c, .slice shares_p shares.length shares_c, .int .i64 rule]) (caps := []) en_88 rfl rfl rfl rfl (fun w hc => share_shared_ok claims shares rule h_claims h_shares hc hr)) fun a w hf hc => ?_
  refine stP hf rfl rfl rfl (pA rfl) fun a hf => ?_
  refine cNil ?_
  refine h2 _ _ ?_
  refine wp_seq_k fun K3 h3 => ?_
  refine wp_block ?_
  refine wp_seq_k fun K4 h4 => ?_
  refine cReg ?_
  refine stP hf rfl rfl rfl (pM rfl) fun a hf => ?_
  refine stP hf rfl rfl rfl (pNe rfl rfl) fun a hf => ?_
  refine stP hf rfl rfl rfl (pA rfl) fun a hf => ?_
  refine cNil ?_
  refine h4 _ _ ?_
  refine cCond (b := (r != 0)) hf rfl (fun hb => ?_) (fun hb => ?_)
  · replace hF := condT hb hF
    clear hb
    refine wp_seq_k fun K5 h5 => ?_
    refine cReg ?_
    refine stP hf rfl rfl rfl (pM rfl) fun a hf => ?_
    refine stP hf rfl rfl rfl (pA rfl) fun a hf => ?_
    refine stP hf rfl rfl rfl (pA rfl) fun a hf => ?_
    refine cNil ?_
    refine h5 _ _ ?_
    refine wp_ret ?_
    refine xBlkR ?_
    refine xThenR ?_
    obtain rfl := Option.some.inj hF
    replace hc := hc.drop k0
    exact fnOut2 (by simp) rfl Try.results41 hf hc (show look _ 8 = _ from rfl) (show look _ 9 = _ from rfl) ⟨rfl, hc⟩
  · replace hF := condF hb hF
    clear hb
    refine wp_seq_k fun K6 h6 => ?_
    refine cReg ?_
    refine stP hf rfl rfl rfl (pFA fa_71_0 rfl) fun a hf => ?_
    refine stE hf hc rfl rfl rfl (eLd1 sc_3 rfl (cell_box m0 rfl)) fun a w hf hc => ?_
    refine stE hf hc rfl rfl rfl (eC (v := .bool (share_in divisor.N 1 1000000000)) (vs := [.int .i64 divisor.N, .int .i64 1, .int .i64 1000000000]) (caps := []) en_70 rfl rfl rfl rfl (fun w hc => share_in_ok divisor.N 1 1000000000 hc rfl)) fun a w hf hc => ?_
    refine stP hf rfl rfl rfl (pNot rfl) fun a hf => ?_
    refine stP hf rfl rfl rfl (pM rfl) fun a hf => ?_
    refine stCut 5 (fun a w => Has 65 a [(0, .slice claims_p claims.length claims_c), (1, .slice shares_p shares.length shares_c), (2, .int .i64 rule), (7, .pointer (some ⟨b_1, 0, none⟩)), (23, .pointer (some ⟨b_1, 0, none⟩)), (24, .int .i64 divisor.N), (25, .bool (share_in divisor.N 1 1000000000)), (26, .bool (!(share_in divisor.N 1 1000000000))), (27, .bool (!(share_in divisor.N 1 1000000000))), (32, .bool ((!(share_in divisor.N 1 1000000000)) || (!(share_in divisor.D 1 1000000000))))] ∧ Ctx G (.box b_1 [.int .i64 divisor.N, .int .i64 divisor.D] 71 :: Lf) w) ?_ ?_
    · cases hb : (!(share_in divisor.N 1 1000000000))
      · rw [hb] at hf
        refine stP hf rfl rfl rfl (pFA fa_71_1 rfl) fun a hf => ?_
        refine stE hf hc rfl rfl rfl (eLd1 sc_3 rfl (cell_box m0 rfl)) fun a w hf hc => ?_
        refine stE hf hc rfl rfl rfl (eC (v := .bool (share_in divisor.D 1 1000000000)) (vs := [.int .i64 divisor.D, .int .i64 1, .int .i64 1000000000]) (caps := []) en_70 rfl rfl rfl rfl (fun w hc => share_in_ok divisor.D 1 1000000000 hc rfl)) fun a w hf hc => ?_
        refine stP hf rfl rfl rfl (pNot rfl) fun a hf => ?_
        refine stP hf rfl rfl rfl (pPf rfl rfl) fun a hf => ?_
        exact cNil ⟨hf.keep ⟨rfl, rfl, rfl, rfl, rfl, rfl, rfl, rfl, rfl, rfl, trivial⟩, hc⟩
      · rw [hb] at hf
        refine stS hf rfl rfl rfl fun a hf => ?_
        refine stS hf rfl rfl rfl fun a hf => ?_
        refine stS hf rfl rfl rfl fun a hf => ?_
        refine stS hf rfl rfl rfl fun a hf => ?_
        refine stP hf rfl rfl rfl (pPt rfl rfl) fun a hf => ?_
        exact cNil ⟨hf.keep ⟨rfl, rfl, rfl, rfl, rfl, rfl, rfl, rfl, rfl, rfl, trivial⟩, hc⟩
    intro a w ⟨hf, hc⟩
    refine stP hf rfl rfl rfl (pM rfl) fun a hf => ?_
    refine stCut 7 (fun a w => Has 65 a [(0, .slice claims_p claims.length claims_c), (1, .slice shares_p shares.length shares_c), (2, .int .i64 rule), (7, .pointer (some ⟨b_1, 0, none⟩)), (23, .pointer (some ⟨b_1, 0, none⟩)), (24, .int .i64 divisor.N), (25, .bool (share_in divisor.N 1 1000000000)), (26, .bool (!(share_in divisor.N 1 1000000000))), (27, .bool (!(share_in divisor.N 1 1000000000))), (32, .bool ((!(share_in divisor.N 1 1000000000)) || (!(share_in divisor.D 1 1000000000)))), (33, .bool ((!(share_in divisor.N 1 1000000000)) || (!(share_in divisor.D 1 1000000000)))), (40, .bool (((!(share_in divisor.N 1 1000000000)) || (!(share_in divisor.D 1 1000000000))) || (decide ((W (2000000 * divisor.D)) < divisor.N))))] ∧ Ctx G (.box b_1 [.int .i64 divisor.N, .int .i64 divisor.D] 71 :: Lf) w) ?_ ?_
    · cases hb : ((!(share_in divisor.N 1 1000000000)) || (!(share_in divisor.D 1 1000000000)))
      · rw [hb] at hf
        refine stP hf rfl rfl rfl (pFA fa_71_0 rfl) fun a hf => ?_
        refine stE hf hc rfl rfl rfl (eLd1 sc_3 rfl (cell_box m0 rfl)) fun a w hf hc => ?_
        refine stP hf rfl rfl rfl (pFA fa_71_1 rfl) fun a hf => ?_
        refine stE hf hc rfl rfl rfl (eLd1 sc_3 rfl (cell_box m0 rfl)) fun a w hf hc => ?_
        refine stP hf rfl rfl rfl (pMul rfl rfl) fun a hf => ?_
        refine stP hf rfl rfl rfl (pGt rfl rfl) fun a hf => ?_
        refine stP hf rfl rfl rfl (pPf rfl rfl) fun a hf => ?_
        exact cNil ⟨hf.keep ⟨rfl, rfl, rfl, rfl, rfl, rfl, rfl, rfl, rfl, rfl, rfl, rfl, trivial⟩, hc⟩
      · rw [hb] at hf
        refine stS hf rfl rfl rfl fun a hf => ?_
        refine stS hf rfl rfl rfl fun a hf => ?_
        refine stS hf rfl rfl rfl fun a hf => ?_
        refine stS hf rfl rfl rfl fun a hf => ?_
        refine stS hf rfl rfl rfl fun a hf => ?_
        refine stS hf rfl rfl rfl fun a hf => ?_
        refine stP hf rfl rfl rfl (pPt rfl rfl) fun a hf => ?_
        exact cNil ⟨hf.keep ⟨rfl, rfl, rfl, rfl, rfl, rfl, rfl, rfl, rfl, rfl, rfl, rfl, trivial⟩, hc⟩
    intro a w ⟨hf, hc⟩
    refine stP hf rfl rfl rfl (pA rfl) fun a hf => ?_
    refine cNil ?_
    refine h6 _ _ ?_
    refine cCond (b := (((!(share_in divisor.N 1 1000000000)) || (!(share_in divisor.D 1 1000000000))) || (decide ((W (2000000 * divisor.D)) < divisor.N)))) hf rfl (fun hb => ?_) (fun hb => ?_)
    · replace hF := condT hb hF
      clear hb
      refine wp_seq_k fun K7 h7 => ?_
      refine cReg ?_
      refine stP hf rfl rfl rfl (pA rfl) fun a hf => ?_
      refine stP hf rfl rfl rfl (pA rfl) fun a hf => ?_
      refine cNil ?_
      refine h7 _ _ ?_
      refine wp_ret ?_
      refine xBlkR ?_
      refine xThenR ?_
      obtain rfl := Option.some.inj hF
      replace hc := hc.drop k0
      exact fnOut2 (by simp) rfl Try.results41 hf hc (show look _ 8 = _ from rfl) (show look _ 9 = _ from rfl) ⟨rfl, hc⟩
    · replace hF := condF hb hF
      clear hb
      refine wp_skip ?_
      refine h3 _ _ ?_
      refine wp_seq_k fun K8 h8 => ?_
      refine cReg ?_
      refine stP hf rfl rfl rfl (pM rfl) fun a hf => ?_
      refine stP hf rfl rfl rfl (pFA fa_71_0 rfl) fun a hf => ?_
      refine stE hf hc rfl rfl rfl (eLd1 sc_3 rfl (cell_box m0 rfl)) fun a w hf hc => ?_
      refine stP hf rfl rfl rfl (pFA fa_71_1 rfl) fun a hf => ?_
      refine stE hf hc rfl rfl rfl (eLd1 sc_3 rfl (cell_box m0 rfl)) fun a w hf hc => ?_
      refine stP hf rfl rfl rfl (pBuildS (cells := [.int .i64 divisor.N, .int .i64 divisor.D]) bt_165 rfl rfl) fun a hf => ?_
      refine stP hf rfl rfl rfl (pBuildS (cells := [.int .i64 rule, .int .i64 divisor.N, .int .i64 divisor.D]) bt_177 rfl rfl) fun a hf => ?_
      refine stP hf rfl rfl rfl (pMF (vs := [.agg #[.int .i64 rule, .int .i64 divisor.N, .int .i64 divisor.D]]) (us := []) rfl rfl) fun a hf => ?_
      refine stP hf rfl rfl rfl (pA rfl) fun a hf => ?_
      refine cNil ?_
      refine h8 _ _ ?_
      refine wp_seq_k fun K9 h9 => ?_
      refine wp_seq_k fun K10 h10 => ?_
      refine cReg ?_
      refine stP hf rfl rfl rfl (pM rfl) fun a hf => ?_
      refine stP hf rfl rfl rfl (pLenS Try.underlying36 rfl) fun a hf => ?_
      refine stP hf rfl rfl rfl (pM rfl) fun a hf => ?_
      refine cNil ?_
      refine h10 _ _ ?_
      refine wp_block ?_
      obtain ⟨x11, hx11, hF⟩ := bnd_some hF
      let S11 : Int → Act → World → Prop := (fun (zz : Int) a w => Has 65 a [(0, .slice claims_p claims.length claims_c), (11, .func (.func 93) #[.agg #[.int .i64 rule, .int .i64 divisor.N, .int .i64 divisor.D]] #[]), (49, .slice shares_p shares.length shares_c), (50, .int .i64 ((shares.length : Nat) : Int)), (51, .int .i64 zz)] ∧ Ctx G (Lf) w)
      have hr11 : ∀ (zz : Int) a w, x11 = .go zz → S11 zz a w → K9 a w := by
        rintro x a w rfl ⟨hf, hc⟩
        replace hF : _ = some res := hF
        refine h9 _ _ ?_
        refine wp_seq_k fun K12 h12 => ?_
        refine cReg ?_
        refine stP hf rfl rfl rfl (pA rfl) fun a hf => ?_
        refine stP hf rfl rfl rfl (pA rfl) fun a hf => ?_
        refine cNil ?_
        refine h12 _ _ ?_
        refine wp_ret ?_
        obtain rfl := Option.some.inj hF
        exact fnOut2 (by simp) rfl Try.results41 hf hc (show look _ 8 = _ from rfl) (show look _ 9 = _ from rfl) ⟨rfl, hc⟩
      have ho11 : ∀ r, x11 = .out r → r = res := by
        rintro r rfl
        exact Option.some.inj hF
      replace hc := hc.drop k0
      refine cLoop N (loopW (S := S11) (x := x11) ?_ N 0 _ _ ⟨hf.keep ⟨rfl, rfl, rfl, rfl, rfl, trivial⟩, hc⟩ hx11)
      clear hF hf hc
      rintro x st11 a w KB11 ⟨hf, hc⟩ hF hfin11 hK11
      unfold share_Proves_b11 at hF
      refine wp_seq_k fun K13 h13 => ?_
      refine cReg ?_
      refine stP hf rfl rfl rfl (pLt rfl rfl) fun a hf => ?_
      refine cNil ?_
      refine h13 _ _ ?_
      refine wp_seq_k fun K14 h14 => ?_
      refine cCond (b := (decide (x < ((shares.length : Nat) : Int)))) hf rfl (fun hb => ?_) (fun hb => ?_)
      · replace hF := condT hb hF
        clear hb
        refine wp_skip ?_
        refine h14 _ _ ?_
        refine wp_seq_k fun K15 h15 => ?_
        refine wp_block ?_
        refine wp_seq_k fun K16 h16 => ?_
        refine cReg ?_
        refine stP hf rfl rfl rfl (pM rfl) fun a hf => ?_
        obtain ⟨e_1, he_1, hF⟩ := bnd_some hF
        obtain ⟨b_2, o, qa, qp⟩ := h_shares.atm he_1
        refine stP hf rfl rfl rfl (pIA Try.underlying36 sz_3 rfl rfl qa) fun a hf => ?_
        refine stE hf hc rfl rfl rfl (eLd1 sc_3 rfl (cell_pc (j := 0) qp rfl)) fun a w hf hc => ?_
        refine stP hf rfl rfl rfl (pA rfl) fun a hf => ?_
        refine stP hf rfl rfl rfl (pA rfl) fun a hf => ?_
        refine cNil ?_
        refine h16 _ _ ?_
        refine wp_seq_k fun K17 h17 => ?_
        refine cReg ?_
        refine stP hf rfl rfl rfl (pM rfl) fun a hf => ?_
        refine stP hf rfl rfl rfl (pM rfl) fun a hf => ?_
        refine stP hf rfl rfl rfl (pM rfl) fun a hf => ?_
        obtain ⟨e_2, he_2, hF⟩ := bnd_some hF
        obtain ⟨b_3, o_1, qa_1, qp_1⟩ := h_claims.atm he_2
        refine stP hf rfl rfl rfl (pIA Try.underlying36 sz_3 rfl rfl qa_1) fun a hf => ?_
        refine stE hf hc rfl rfl rfl (eLd1 sc_3 rfl (cell_pc (j := 0) qp_1 rfl)) fun a w hf hc => ?_
        refine stP hf rfl rfl rfl (pM rfl) fun a hf => ?_
        obtain ⟨r_1, hr_1, hF⟩ := bnd_some hF
        refine stE hf hc rfl rfl rfl (eCB (v := .bool r_1) (bs := [.agg #[.int .i64 rule, .int .i64 divisor.N, .int .i64 divisor.D]]) (vs := [.int .i64 e_2, .int .i64 e_1]) (caps := []) en_93 rfl rfl rfl rfl (fun w hc => share_proof_proves_ok (⟨rule, (⟨divisor.N, divisor.D⟩ : share_quotient)⟩ : share_proof) e_2 e_1 hc hr_1)) fun a w hf hc => ?_
        refine stP hf rfl rfl rfl (pNot rfl) fun a hf => ?_
        refine cNil ?_
        refine h17 _ _ ?_
        refine cCond (b := (!r_1)) hf rfl (fun hb => ?_) (fun hb => ?_)
        · replace hF := condT hb hF
          clear hb
          refine wp_seq_k fun K18 h18 => ?_
          refine cReg ?_
          refine stP hf rfl rfl rfl (pA rfl) fun a hf => ?_
          refine stP hf rfl rfl rfl (pA rfl) fun a hf => ?_
          refine cNil ?_
          refine h18 _ _ ?_
          refine wp_ret ?_
          refine xBlkR ?_
          refine xThenR ?_
          refine xThenR ?_
          have he := Option.some.inj hF
          rw [← he] at hfin11
          replace hF := ho11 _ hfin11
          refine xBlkR ?_
          refine xThenR ?_
          obtain rfl := hF
          exact fnOut2 (by simp) rfl Try.results41 hf hc (show look _ 8 = _ from rfl) (show look _ 9 = _ from rfl) ⟨rfl, hc⟩
        · replace hF := condF hb hF
          clear hb
          refine wp_skip ?_
          refine h15 _ _ ?_
          refine cReg ?_
          refine stP hf rfl rfl rfl (pAdd rfl rfl) fun a hf => ?_
          refine stP hf rfl rfl rfl (pM rfl) fun a hf => ?_
          refine cNil ?_
          exact hK11 (W (x + 1)) _ _ (Option.some.inj hF).symm ⟨hf.keep ⟨rfl, rfl, rfl, rfl, rfl, trivial⟩, hc⟩
      · replace hF := condF hb hF
        clear hb
        refine wp_exit ?_
        refine xThen ?_
        refine xThen ?_
        have he := Option.some.inj hF
        rw [← he] at hfin11
        refine cHit ?_
        exact hr11 _ _ _ hfin11 ⟨hf.keep ⟨rfl, rfl, rfl, rfl, rfl, trivial⟩, hc⟩

def law09_ShareTurns (N : Nat) (debt : Int) (p_ : share_Pact) (claims : List Int) (shares : List Int) (days : Int) (rule : Int) (x : api_Ratio) : Option (Bool) :=
  cond ((((decide (45 < ((p_.Can.length : Nat) : Int))) || (decide (15 < ((claims.length : Nat) : Int)))) || (decide (15 < ((shares.length : Nat) : Int)))) || ((decide (40 < days)) && (decide (days ≤ 366))))
  (Option.bind (law09_awake N) fun r =>
  some r)
  (Option.bind (kit_Copy_int N claims) fun r_1 =>
  Option.bind (kit_Copy_int N shares) fun r_2 =>
  Option.bind (kit_Copy_int N p_.Can) fun r_3 =>
  Option.bind (share_Payback N debt (⟨p_.Least, p_.Part, r_3⟩ : share_Pact)) fun r_4 =>
  Option.bind (ref09_Payback N debt p_.Least p_.Part p_.Can) fun r_5 =>
  Option.bind (kit_Same_int N r_4.1 r_5.1) fun r_6 =>
  cond ((!r_6) || (r_4.2 != r_5.2))
  (some false)
  (Option.bind (share_Turns N r_1 days rule) fun r_7 =>
  Option.bind (ref09_Turns N claims days rule) fun r_8 =>
  Option.bind (kit_Same_int N r_7.1 r_8.1) fun r_9 =>
  cond ((!r_9) || (r_7.2 != r_8.2))
  (some false)
  (Option.bind (share_Unfair N r_1 r_2 rule) fun r_10 =>
  Option.bind (ref09_Unfair N claims shares rule) fun r_11 =>
  cond (((r_10.1 != r_11.1) || (r_10.2.1 != r_11.2.1)) || (r_10.2.2 != r_11.2.2))
  (some false)
  (Option.bind (share_Divisors N r_1 r_2 rule) fun r_12 =>
  Option.bind (ref09_Divisors N claims shares rule) fun r_13 =>
  cond (((!(r_12.1.N == r_13.1.N && r_12.1.D == r_13.1.D)) || (!(r_12.2.1.N == r_13.2.1.N && r_12.2.1.D == r_13.2.1.D))) || (r_12.2.2 != r_13.2.2))
  (some false)
  (Option.bind (share_Proves N r_1 r_2 rule x) fun r_14 =>
  Option.bind (ref09_Proves N claims shares rule x) fun r_15 =>
  Option.bind (cond ((r_14.1 == r_15.1) && (r_14.2 == r_15.2)) (Option.bind (kit_Same_int N r_1 claims) fun r_16 =>
  some r_16) (some false)) fun t_1 =>
  Option.bind (cond t_1 (Option.bind (kit_Same_int N r_2 shares) fun r_17 =>
  some r_17) (some false)) fun t_2 =>
  Option.bind (cond t_2 (Option.bind (kit_Same_int N r_3 p_.Can) fun r_18 =>
  some r_18) (some false)) fun t_3 =>
  Option.bind (cond t_3 (Option.bind (law09_awake N) fun r_19 =>
  some r_19) (some false)) fun t_4 =>
  some t_4)))))
theorem law09_ShareTurns_ok {N : Nat} {G : Pers} {Lf : List Ent} {w : World} (debt : Int) (p_ : share_Pact) (claims : List Int) (shares : List Int) (days : Int) (rule : Int) (x : api_Ratio) {p__Can_p : Option Addr} {p__Can_c : Nat} {claims_p : Option Addr} {claims_c : Nat} {shares_p : Option Addr} {shares_c : Nat} (h_p__Can : Rd G 1 p__Can_p p__Can_c (p_.Can.map encI_i64)) (h_claims : Rd G 1 claims_p claims_c (claims.map encI_i64)) (h_shares : Rd G 1 shares_p shares_c (shares.map encI_i64)) (hc : Ctx G (Lf) w) {res : Bool} (hF : law09_ShareTurns N debt p_ claims shares days rule x = some res) : Calls Try.prog 6 #[.int .i64 debt, .agg #[.int .i64 p_.Least, .int .i64 p_.Part, .slice p__Can_p p_.Can.length p__Can_c], .slice claims_p claims.length claims_c, .slice shares_p shares.length shares_c, .int .i64 days, .int .i64 rule, .agg #[.int .i64 x.N, .int .i64 x.D]] w (fun e w => e = .returned (.bool res) ∧ Ctx G (Lf) w) := by
  unfold law09_ShareTurns at hF
  refine fnIn (args := [.int .i64 debt, .agg #[.int .i64 p_.Least, .int .i64 p_.Part, .slice p__Can_p p_.Can.length p__Can_c], .slice claims_p claims.length claims_c, .slice shares_p shares.length shares_c, .int .i64 days, .int .i64 rule, .agg #[.int .i64 x.N, .int .i64 x.D]]) Try.func6 rfl Try.ntmps6 rfl fun a hf => ?_
  refine wp_seq_k fun K1 h1 => ?_
  refine cReg ?_
  refine stBx (cs := [.int .i64 p_.Least, .int .i64 p_.Part, .slice p__Can_p p_.Can.length p__Can_c]) hf hc rfl rfl rfl rfl fun b_1 a w hf hc => ?_
  refine stBx (cs := [.int .i64 x.N, .int .i64 x.D]) hf hc rfl rfl rfl rfl fun b_2 a w hf hc => ?_
  refine stP hf rfl rfl rfl (pA rfl) fun a hf => ?_
  refine cNil ?_
  refine h1 _ _ ?_
  refine wp_seq_k fun K2 h2 => ?_
  refine wp_seq_k fun K3 h3 => ?_
  refine cReg ?_
  refine stP hf rfl rfl rfl (pFA fa_59_2 rfl) fun a hf => ?_
  refine stE hf hc rfl rfl rfl (eLd1 sc_36 rfl (cell_box m1 rfl)) fun a w hf hc => ?_
  refine stP hf rfl rfl rfl (pLenS Try.underlying36 rfl) fun a hf => ?_
  refine stP hf rfl rfl rfl (pGt rfl rfl) fun a hf => ?_
  refine stP hf rfl rfl rfl (pM rfl) fun a hf => ?_
  refine stCut 4 (fun a w => Has 217 a [(0, .int .i64 debt), (2, .slice claims_p claims.length claims_c), (3, .slice shares_p shares.length shares_c), (4, .int .i64 days), (5, .int .i64 rule), (8, .pointer (some ⟨b_1, 0, none⟩)), (13, .pointer (some ⟨b_2, 0, none⟩)), (32, .pointer (some ⟨b_1, 2, none⟩)), (33, .slice p__Can_p p_.Can.length p__Can_c), (34, .int .i64 ((p_.Can.length : Nat) : Int)), (35, .bool (decide (45 < ((p_.Can.length : Nat) : Int)))), (36, .bool (decide (45 < ((p_.Can.length : Nat) : Int)))), (40, .bool ((decide (45 < ((p_.Can.length : Nat) : Int))) || (decide (15 < ((claims.length : Nat) : Int)))))] ∧ Ctx G (.box b_2 [.int .i64 x.N, .int .i64 x.D] 71 :: .box b_1 [.int .i64 p_.Least, .int .i64 p_.Part, .slice p__Can_p p_.Can.length p__Can_c] 59 :: Lf) w) ?_ ?_
  · cases hb : (decide (45 < ((p_.Can.length : Nat) : Int)))
    · rw [hb] at hf
      refine stP hf rfl rfl rfl (pM rfl) fun a hf => ?_
      refine stP hf rfl rfl rfl (pLenS Try.underlying36 rfl) fun a hf => ?_
      refine stP hf rfl rfl rfl (pGt rfl rfl) fun a hf => ?_
      refine stP hf rfl rfl rfl (pPf rfl rfl) fun a hf => ?_
      exact cNil ⟨hf.keep ⟨rfl, rfl, rfl, rfl, rfl, rfl, rfl, rfl, rfl, rfl, rfl, rfl, rfl, trivial⟩, hc⟩
    · rw [hb] at hf
      refine stS hf rfl rfl rfl fun a hf => ?_
      refine stS hf rfl rfl rfl fun a hf => ?_
      refine stS hf rfl rfl rfl fun a hf => ?_
      refine stP hf rfl rfl rfl (pPt rfl rfl) fun a hf => ?_
      exact cNil ⟨hf.keep ⟨rfl, rfl, rfl, rfl, rfl, rfl, rfl, rfl, rfl, rfl, rfl, rfl, rfl, trivial⟩, hc⟩
  intro a w ⟨hf, hc⟩
  refine stP hf rfl rfl rfl (pM rfl) fun a hf => ?_
  refine stCut 4 (fun a w => Has 217 a [(0, .int .i64 debt), (2, .slice claims_p claims.length claims_c), (3, .slice shares_p shares.length shares_c), (4, .int .i64 days), (5, .int .i64 rule), (8, .pointer (some ⟨b_1, 0, none⟩)), (13, .pointer (some ⟨b_2, 0, none⟩)), (32, .pointer (some ⟨b_1, 2, none⟩)), (33, .slice p__Can_p p_.Can.length p__Can_c), (34, .int .i64 ((p_.Can.length : Nat) : Int)), (35, .bool (decide (45 < ((p_.Can.length : Nat) : Int)))), (36, .bool (decide (45 < ((p_.Can.length : Nat) : Int)))), (40, .bool ((decide (45 < ((p_.Can.length : Nat) : Int))) || (decide (15 < ((claims.length : Nat) : Int))))), (41, .bool ((decide (45 < ((p_.Can.length : Nat) : Int))) || (decide (15 < ((claims.length : Nat) : Int))))), (45, .bool (((decide (45 < ((p_.Can.length : Nat) : Int))) || (decide (15 < ((claims.length : Nat) : Int)))) || (decide (15 < ((shares.length : Nat) : Int)))))] ∧ Ctx G (.box b_2 [.int .i64 x.N, .int .i64 x.D] 71 :: .box b_1 [.int .i64 p_.Least, .int .i64 p_.Part, .slice p__Can_p p_.Can.length p__Can_c] 59 :: Lf) w) ?_ ?_
  · cases hb : ((decide (45 < ((p_.Can.length : Nat) : Int))) || (decide (15 < ((claims.length : Nat) : Int))))
    · rw [hb] at hf
      refine stP hf rfl rfl rfl (pM rfl) fun a hf => ?_
      refine stP hf rfl rfl rfl (pLenS Try.underlying36 rfl) fun a hf => ?_
      refine stP hf rfl rfl rfl (pGt rfl rfl) fun a hf => ?_
      refine stP hf rfl rfl rfl (pPf rfl rfl) fun a hf => ?_
      exact cNil ⟨hf.keep ⟨rfl, rfl, rfl, rfl, rfl, rfl, rfl, rfl, rfl, rfl, rfl, rfl, rfl, rfl, rfl, trivial⟩, hc⟩
    · rw [hb] at hf
      refine stS hf rfl rfl rfl fun a hf => ?_
      refine stS hf rfl rfl rfl fun a hf => ?_
      refine stS hf rfl rfl rfl fun a hf => ?_
      refine stP hf rfl rfl rfl (pPt rfl rfl) fun a hf => ?_
      exact cNil ⟨hf.keep ⟨rfl, rfl, rfl, rfl, rfl, rfl, rfl, rfl, rfl, rfl, rfl, rfl, rfl, rfl, rfl, trivial⟩, hc⟩
  intro a w ⟨hf, hc⟩
  refine stP hf rfl rfl rfl (pM rfl) fun a hf => ?_
  refine stCut 7 (fun a w => Has 217 a [(0, .int .i64 debt), (2, .slice claims_p claims.length claims_c), (3, .slice shares_p shares.length shares_c), (4, .int .i64 days), (5, .int .i64 rule), (8, .pointer (some ⟨b_1, 0, none⟩)), (13, .pointer (some ⟨b_2, 0, none⟩)), (32, .pointer (some ⟨b_1, 2, none⟩)), (33, .slice p__Can_p p_.Can.length p__Can_c), (34, .int .i64 ((p_.Can.length : Nat) : Int)), (35, .bool (decide (45 < ((p_.Can.length : Nat) : Int)))), (36, .bool (decide (45 < ((p_.Can.length : Nat) : Int)))), (40, .bool ((decide (45 < ((p_.Can.length : Nat) : Int))) || (decide (15 < ((claims.length : Nat) : Int))))), (41, .bool ((decide (45 < ((p_.Can.length : Nat) : Int))) || (decide (15 < ((claims.length : Nat) : Int))))), (45, .bool (((decide (45 < ((p_.Can.length : Nat) : Int))) || (decide (15 < ((claims.length : Nat) : Int)))) || (decide (15 < ((shares.length : Nat) : Int))))), (46, .bool (((decide (45 < ((p_.Can.length : Nat) : Int))) || (decide (15 < ((claims.length : Nat) : Int)))) || (decide (15 < ((shares.length : Nat) : Int))))), (53, .bool ((((decide (45 < ((p_.Can.length : Nat) : Int))) || (decide (15 < ((claims.length : Nat) : Int)))) || (decide (15 < ((shares.length : Nat) : Int)))) || ((decide (40 < days)) && (decide (days ≤ 366)))))] ∧ Ctx G (.box b_2 [.int .i64 x.N, .int .i64 x.D] 71 :: .box b_1 [.int .i64 p_.Least, .int .i64 p_.Part, .slice p__Can_p p_.Can.length p__Can_c] 59 :: Lf) w) ?_ ?_
  · cases hb : (((decide (45 < ((p_.Can.length : Nat) : Int))) || (decide (15 < ((claims.length : Nat) : Int)))) || (decide (15 < ((shares.length : Nat) : Int))))
    · rw [hb] at hf
      refine stP hf rfl rfl rfl (pM rfl) fun a hf => ?_
      refine stP hf rfl rfl rfl (pGt rfl rfl) fun a hf => ?_
      refine stP hf rfl rfl rfl (pM rfl) fun a hf => ?_
      refine stCut 3 (fun a w => Has 217 a [(0, .int .i64 debt), (2, .slice claims_p claims.length claims_c), (3, .slice shares_p shares.length shares_c), (4, .int .i64 days), (5, .int .i64 rule), (8, .pointer (some ⟨b_1, 0, none⟩)), (13, .pointer (some ⟨b_2, 0, none⟩)), (32, .pointer (some ⟨b_1, 2, none⟩)), (33, .slice p__Can_p p_.Can.length p__Can_c), (34, .int .i64 ((p_.Can.length : Nat) : Int)), (35, .bool (decide (45 < ((p_.Can.length : Nat) : Int)))), (36, .bool (decide (45 < ((p_.Can.length : Nat) : Int)))), (40, .bool ((decide (45 < ((p_.Can.length : Nat) : Int))) || (decide (15 < ((claims.length : Nat) : Int))))), (41, .bool ((decide (45 < ((p_.Can.length : Nat) : Int))) || (decide (15 < ((claims.length : Nat) : Int))))), (45, .bool false), (46, .bool false), (47, .int .i64 days), (48, .bool (decide (40 < days))), (49, .bool (decide (40 < days))), (52, .bool ((decide (40 < days)) && (decide (days ≤ 366))))] ∧ Ctx G (.box b_2 [.int .i64 x.N, .int .i64 x.D] 71 :: .box b_1 [.int .i64 p_.Least, .int .i64 p_.Part, .slice p__Can_p p_.Can.length p__Can_c] 59 :: Lf) w) ?_ ?_
      · cases hb : (decide (40 < days))
        · rw [hb] at hf
          refine stS hf rfl rfl rfl fun a hf => ?_
          refine stS hf rfl rfl rfl fun a hf => ?_
          refine stP hf rfl rfl rfl (pPf rfl rfl) fun a hf => ?_
          exact cNil ⟨hf.keep ⟨rfl, rfl, rfl, rfl, rfl, rfl, rfl, rfl, rfl, rfl, rfl, rfl, rfl, rfl, rfl, rfl, rfl, rfl, rfl, rfl, trivial⟩, hc⟩
        · rw [hb] at hf
          refine stP hf rfl rfl rfl (pM rfl) fun a hf => ?_
          refine stP hf rfl rfl rfl (pLe rfl rfl) fun a hf => ?_
          refine stP hf rfl rfl rfl (pPt rfl rfl) fun a hf => ?_
          exact cNil ⟨hf.keep ⟨rfl, rfl, rfl, rfl, rfl, rfl, rfl, rfl, rfl, rfl, rfl, rfl, rfl, rfl, rfl, rfl, rfl, rfl, rfl, rfl, trivial⟩, hc⟩
      intro a w ⟨hf, hc⟩
      refine stP hf rfl rfl rfl (pPf rfl rfl) fun a hf => ?_
      exact cNil ⟨hf.keep ⟨rfl, rfl, rfl, rfl, rfl, rfl, rfl, rfl, rfl, rfl, rfl, rfl, rfl, rfl, rfl, rfl, rfl, trivial⟩, hc⟩
    · rw [hb] at hf
      refine stS hf rfl rfl rfl fun a hf => ?_
      refine stS hf rfl rfl rfl fun a hf => ?_
      refine stS hf rfl rfl rfl fun a hf => ?_
      refine stS hf rfl rfl rfl fun a hf => ?_
      refine stS hf rfl rfl rfl fun a hf => ?_
      refine stS hf rfl rfl rfl fun a hf => ?_
      refine stP hf rfl rfl rfl (pPt rfl rfl) fun a hf => ?_
      exact cNil ⟨hf.keep ⟨rfl, rfl, rfl, rfl, rfl, rfl, rfl, rfl, rfl, rfl, rfl, rfl, rfl, rfl, rfl, rfl, rfl, trivial⟩, hc⟩
  intro a w ⟨hf, hc⟩
  refine cNil ?_
  refine h3 _ _ ?_
  refine cCond (b := ((((decide (45 < ((p_.Can.length : Nat) : Int))) || (decide (15 < ((claims.length : Nat) : Int)))) || (decide (15 < ((shares.length : Nat) : Int)))) || ((decide (40 < days)) && (decide (days ≤ 366))))) hf rfl (fun hb => ?_) (fun hb => ?_)
  · replace hF := condT hb hF
    clear hb
    refine wp_seq_k fun K4 h4 => ?_
    refine cReg ?_
    obtain ⟨r, hr, hF⟩ := bnd_some hF
    refine stE hf hc rfl rfl rfl (eC (v := .bool r) (vs := []) (caps := []) en_13 rfl rfl rfl rfl (fun w hc => law09_awake_ok hc hr)) fun a w hf hc => ?_
    refine stP hf rfl rfl rfl (pA rfl) fun a hf => ?_
    refine cNil ?_
    refine h4 _ _ ?_
    refine wp_ret ?_
    refine xThenR ?_
    obtain rfl := Option.some.inj hF
    replace hc := hc.drop k1
    replace hc := hc.drop k0
    exact fnOut1 (by simp) rfl Try.results6 hf hc (show look _ 14 = _ from rfl) ⟨rfl, hc⟩
  · replace hF := condF hb hF
    clear hb
    refine wp_skip ?_
    refine h2 _ _ ?_
    refine wp_seq_k fun K5 h5 => ?_
    obtain ⟨r_1, hr_1, hF⟩ := bnd_some hF
    obtain ⟨r_2, hr_2, hF⟩ := bnd_some hF
    obtain ⟨r_3, hr_3, hF⟩ := bnd_some hF
    replace hc := hc.nilRow 0 0
    replace hc := hc.nilRow 0 0
    replace hc := hc.nilRow 0 0
    refine regionE (fun θ => [⟨none, none, 0, .int .i64 debt⟩, ⟨none, none, 2, .slice claims_p claims.length claims_c⟩, ⟨none, none, 3, .slice shares_p shares.length shares_c⟩, ⟨none, none, 4, .int .i64 days⟩, ⟨none, none, 5, .int .i64 rule⟩, ⟨none, none, 8, .pointer (some ⟨b_1, 0, none⟩)⟩, ⟨none, none, 13, .pointer (some ⟨b_2, 0, none⟩)⟩, ⟨some 0, none, 55, .slice claims_p claims.length claims_c⟩, ⟨some 1, none, 56, .slice ((θ 8).p) r_1.length ((θ 8).c)⟩, ⟨some 2, none, 57, .slice shares_p shares.length shares_c⟩, ⟨some 3, none, 58, .slice ((θ 24).p) r_2.length ((θ 24).c)⟩, ⟨some 4, none, 59, .pointer (some ⟨b_1, 2, none⟩)⟩, ⟨some 5, none, 60, .slice p__Can_p p_.Can.length p__Can_c⟩, ⟨some 6, none, 61, .slice ((θ 48).p) r_3.length ((θ 48).c)⟩, ⟨some 7, none, 15, .slice ((θ 8).p) r_1.length ((θ 8).c)⟩, ⟨some 8, none, 16, .slice ((θ 24).p) r_2.length ((θ 24).c)⟩, ⟨some 9, none, 17, .slice ((θ 48).p) r_3.length ((θ 48).c)⟩]) (fun E θ => (bif E 6 then .row ((θ 48).p) ((θ 48).c) (r_3.map encI_i64) 3 1 else .row none 0 [] 0 0) :: (bif E 3 then .row ((θ 24).p) ((θ 24).c) (r_2.map encI_i64) 3 1 else .row none 0 [] 0 0) :: (bif E 1 then .row ((θ 8).p) ((θ 8).c) (r_1.map encI_i64) 3 1 else .row none 0 [] 0 0) :: .box b_2 [.int .i64 x.N, .int .i64 x.D] 71 :: .box b_1 [.int .i64 p_.Least, .int .i64 p_.Part, .slice p__Can_p p_.Can.length p__Can_c] 59 :: Lf) [(7, 1), (8, 3), (9, 6)] (fun a w => ∃ (p_4 : Option Addr) (c_4 : Nat) (p_5 : Option Addr) (c_5 : Nat) (p_6 : Option Addr) (c_6 : Nat), Has 217 a [(0, .int .i64 debt), (2, .slice claims_p claims.length claims_c), (3, .slice shares_p shares.length shares_c), (4, .int .i64 days), (5, .int .i64 rule), (8, .pointer (some ⟨b_1, 0, none⟩)), (13, .pointer (some ⟨b_2, 0, none⟩)), (15, .slice p_4 r_1.length c_4), (16, .slice p_5 r_2.length c_5), (17, .slice p_6 r_3.length c_6)] ∧ Ctx G (.row p_6 c_6 (r_3.map encI_i64) 3 1 :: .row p_5 c_5 (r_2.map encI_i64) 3 1 :: .row p_4 c_4 (r_1.map encI_i64) 3 1 :: .box b_2 [.int .i64 x.N, .int .i64 x.D] 71 :: .box b_1 [.int .i64 p_.Least, .int .i64 p_.Part, .slice p__Can_p p_.Can.length p__Can_c] 59 :: Lf) w) follows_mx (by kernel_rfl) (by kernel_rfl) (HasE.of hf ⟨rfl, rfl, rfl, rfl, rfl, rfl, rfl, trivial, trivial, trivial, trivial, trivial, trivial, trivial, trivial, trivial, trivial, trivial⟩) hc ⟨?_, ?_, ?_, ?_, ?_, ?_, ?_, ?_, ?_, ?_, trivial⟩ ?_ ?_
    · intro E θ a w hD hi hp he hc
      have hf := he.h0
      replace hf := hf.more he 1 rfl onT
      refine stP hf rfl rfl rfl (pM rfl) fun a hf => ?_
      refine cNil ?_
      refine xThenN ?_
      intro ds u hau
      refine ⟨θ, he.put0 hi hau hf rfl 7 rfl rfl, ?_⟩
      exact hc
    · intro E θ a w hD hi hp he hc
      have e0 := hp.of (k := 0) rfl
      have e7 := hD.f 0 rfl hi
      try dsimp only at hc
      rw [hi] at hc
      have hf := he.h0
      replace hf := hf.more he 7 rfl (onP e0)
      refine stC (vs := [.slice claims_p claims.length claims_c]) (caps := []) hf rfl rfl rfl en_32 rfl rfl rfl rfl (kit_Copy_int_ok claims h_claims hc hr_1) ?_
      rintro _ w ⟨p_1, c_1, rfl, hc⟩
      refine ⟨_, rfl, fun a hf => ?_⟩
      refine cNil ?_
      refine xThenN ?_
      intro ds u hau
      replace hc := hc.drop k3
      replace hc := hc.pick k0
      replace hc := hc.pick k2
      replace hc := hc.pick k2
      refine ⟨(setT θ 8 ⟨0, p_1, c_1⟩), he.put hi hau hf rfl [7] ⟨⟨e7, rfl⟩, trivial⟩ ⟨qq, qq, qq, qq, qq, qq, qq, qq, qq, qq, qq, qq, qq, qq, trivial, qq, qq, trivial⟩, ?_⟩
      try dsimp only
      rw [updE_self E 1]
      exact hc
    · intro E θ a w hD hi hp he hc
      have hf := he.h0
      replace hf := hf.more he 2 rfl onT
      refine stP hf rfl rfl rfl (pM rfl) fun a hf => ?_
      refine cNil ?_
      refine xThenN ?_
      intro ds u hau
      refine ⟨θ, he.put0 hi hau hf rfl 9 rfl rfl, ?_⟩
      exact hc
    · intro E θ a w hD hi hp he hc
      have e2 := hp.of (k := 2) rfl
      have e8 := hD.f 1 rfl hi
      try dsimp only at hc
      rw [hi] at hc
      have hf := he.h0
      replace hf := hf.more he 9 rfl (onP e2)
      refine stC (vs := [.slice shares_p shares.length shares_c]) (caps := []) hf rfl rfl rfl en_32 rfl rfl rfl rfl (kit_Copy_int_ok shares h_shares hc hr_2) ?_
      rintro _ w ⟨p_2, c_2, rfl, hc⟩
      refine ⟨_, rfl, fun a hf => ?_⟩
      refine cNil ?_
      refine xThenN ?_
      intro ds u hau
      replace hc := hc.drop k2
      replace hc := hc.pick k0
      replace hc := hc.pick k1
      refine ⟨(setT θ 24 ⟨0, p_2, c_2⟩), he.put hi hau hf rfl [8] ⟨⟨e8, rfl⟩, trivial⟩ ⟨qq, qq, qq, qq, qq, qq, qq, qq, qq, qq, qq, qq, qq, qq, qq, trivial, qq, trivial⟩, ?_⟩
      try dsimp only
      rw [updE_self E 3]
      exact hc
    · intro E θ a w hD hi hp he hc
      have hf := he.h0
      replace hf := hf.more he 5 rfl onT
      refine stP hf rfl rfl rfl (pFA fa_59_2 rfl) fun a hf => ?_
      refine cNil ?_
      refine xThenN ?_
      intro ds u hau
      refine ⟨θ, he.put0 hi hau hf rfl 11 rfl rfl, ?_⟩
      exact hc
    · intro E θ a w hD hi hp he hc
      have e4 := hp.of (k := 4) rfl
      have hf := he.h0
      replace hf := hf.more he 11 rfl (onP e4)
      refine stE hf hc rfl rfl rfl (eLd1 sc_36 rfl (cell_box m4 rfl)) fun a w hf hc => ?_
      refine cNil ?_
      refine xThenN ?_
      intro ds u hau
      refine ⟨θ, he.put0 hi hau hf rfl 12 rfl rfl, ?_⟩
      exact hc
    · intro E θ a w hD hi hp he hc
      have e5 := hp.of (k := 5) rfl
      have e9 := hD.f 2 rfl hi
      try dsimp only at hc
      rw [hi] at hc
      have hf := he.h0
      replace hf := hf.more he 12 rfl (onP e5)
      refine stC (vs := [.slice p__Can_p p_.Can.length p__Can_c]) (caps := []) hf rfl rfl rfl en_32 rfl rfl rfl rfl (kit_Copy_int_ok p_.Can h_p__Can hc hr_3) ?_
      rintro _ w ⟨p_3, c_3, rfl, hc⟩
      refine ⟨_, rfl, fun a hf => ?_⟩
      refine cNil ?_
      refine xThenN ?_
      intro ds u hau
      replace hc := hc.drop k1
      refine ⟨(setT θ 48 ⟨0, p_3, c_3⟩), he.put hi hau hf rfl [9] ⟨⟨e9, rfl⟩, trivial⟩ ⟨qq, qq, qq, qq, qq, qq, qq, qq, qq, qq, qq, qq, qq, qq, qq, qq, trivial, trivial⟩, ?_⟩
      try dsimp only
      rw [updE_self E 6]
      exact hc
    · intro E θ a w hD hi hp he hc
      have e1 := hp.of (k := 1) rfl
      have hf := he.h0
      replace hf := hf.more he 8 rfl (onP e1)
      refine stP hf rfl rfl rfl (pA rfl) fun a hf => ?_
      refine cNil ?_
      refine xThenN ?_
      intro ds u hau
      refine ⟨θ, he.put0 hi hau hf rfl 14 rfl rfl, ?_⟩
      exact hc
    · intro E θ a w hD hi hp he hc
      have e3 := hp.of (k := 3) rfl
      have hf := he.h0
      replace hf := hf.more he 10 rfl (onP e3)
      refine stP hf rfl rfl rfl (pA rfl) fun a hf => ?_
      refine cNil ?_
      refine xThenN ?_
      intro ds u hau
      refine ⟨θ, he.put0 hi hau hf rfl 15 rfl rfl, ?_⟩
      exact hc
    · intro E θ a w hD hi hp he hc
      have e6 := hp.of (k := 6) rfl
      have hf := he.h0
      replace hf := hf.more he 13 rfl (onP e6)
      refine stP hf rfl rfl rfl (pA rfl) fun a hf => ?_
      refine cNil ?_
      refine xThenN ?_
      intro ds u hau
      refine ⟨θ, he.put0 hi hau hf rfl 16 rfl rfl, ?_⟩
      exact hc
    · intro E θ a w hall he hc
      have hf := he.h0
      have e1 := hall 1 rfl
      have e3 := hall 3 rfl
      have e6 := hall 6 rfl
      have e7 := hall 7 rfl
      have e8 := hall 8 rfl
      have e9 := hall 9 rfl
      replace hf := hf.more he 16 rfl (onP e9)
      replace hf := hf.more he 15 rfl (onP e8)
      replace hf := hf.more he 14 rfl (onP e7)
      replace hf := hf.more he 6 rfl (onT)
      replace hf := hf.more he 5 rfl (onT)
      replace hf := hf.more he 4 rfl (onT)
      replace hf := hf.more he 3 rfl (onT)
      replace hf := hf.more he 2 rfl (onT)
      replace hf := hf.more he 1 rfl (onT)
      replace hf := hf.more he 0 rfl (onT)
      try dsimp only at hc
      rw [e1, e3, e6] at hc
      exact ⟨(θ 8).p, (θ 8).c, (θ 24).p, (θ 24).c, (θ 48).p, (θ 48).c, hf.keep ⟨rfl, rfl, rfl, rfl, rfl, rfl, rfl, rfl, rfl, rfl, trivial⟩, hc⟩
    rintro a w ⟨p_4, c_4, p_5, c_5, p_6, c_6, hf, hc⟩
    refine h5 _ _ ?_
    refine wp_seq_k fun K6 h6 => ?_
    refine cReg ?_
    refine stP hf rfl rfl rfl (pM rfl) fun a hf => ?_
    refine stP hf rfl rfl rfl (pFA fa_59_0 rfl) fun a hf => ?_
    refine stE hf hc rfl rfl rfl (eLd1 sc_3 rfl (cell_box m4 rfl)) fun a w hf hc => ?_
    refine stP hf rfl rfl rfl (pFA fa_59_1 rfl) fun a hf => ?_
    refine stE hf hc rfl rfl rfl (eLd1 sc_3 rfl (cell_box m4 rfl)) fun a w hf hc => ?_
    refine stP hf rfl rfl rfl (pM rfl) fun a hf => ?_
    refine stP hf rfl rfl rfl (pBuildS (cells := [.int .i64 p_.Least, .int .i64 p_.Part, .slice p_6 r_3.length c_6]) bt_59 rfl rfl) fun a hf => ?_
    obtain ⟨r_4, hr_4, hF⟩ := bnd_some hF
    obtain ⟨G1, hle1, hrd1, hc, hth1⟩ := lend hc k0
    refine stC (vs := [.int .i64 debt, .agg #[.int .i64 p_.Least, .int .i64 p_.Part, .slice p_6 r_3.length c_6]]) (caps := []) hf rfl rfl rfl en_30 rfl rfl rfl rfl (share_Payback_ok debt (⟨p_.Least, p_.Part, r_3⟩ : share_Pact) hrd1 hc hr_4) ?_
    rintro _ w ⟨p_7, c_7, rfl, hc⟩
    refine ⟨_, rfl, fun a hf => ?_⟩
    replace hc := hth1 _ _ hc
    refine stP hf rfl rfl rfl (pM rfl) fun a hf => ?_
    refine stP hf rfl rfl rfl (pX rfl rfl) fun a hf => ?_
    refine stP hf rfl rfl rfl (pX rfl rfl) fun a hf => ?_
    refine stP hf rfl rfl rfl (pA rfl) fun a hf => ?_
    refine stP hf rfl rfl rfl (pA rfl) fun a hf => ?_
    refine cNil ?_
    refine h6 _ _ ?_
    refine wp_seq_k fun K7 h7 => ?_
    refine cReg ?_
    refine stP hf rfl rfl rfl (pM rfl) fun a hf => ?_
    refine stP hf rfl rfl rfl (pFA fa_59_0 rfl) fun a hf => ?_
    refine stE hf hc rfl rfl rfl (eLd1 sc_3 rfl (cell_box m5 rfl)) fun a w hf hc => ?_
    refine stP hf rfl rfl rfl (pFA fa_59_1 rfl) fun a hf => ?_
    refine stE hf hc rfl rfl rfl (eLd1 sc_3 rfl (cell_box m5 rfl)) fun a w hf hc => ?_
    refine stP hf rfl rfl rfl (pFA fa_59_2 rfl) fun a hf => ?_
    refine stE hf hc rfl rfl rfl (eLd1 sc_36 rfl (cell_box m5 rfl)) fun a w hf hc => ?_
    obtain ⟨r_5, hr_5, hF⟩ := bnd_some hF
    refine stC (vs := [.int .i64 debt, .int .i64 p_.Least, .int .i64 p_.Part, .slice p__Can_p p_.Can.length p__Can_c]) (caps := []) hf rfl rfl rfl en_35 rfl rfl rfl rfl (ref09_Payback_ok debt p_.Least p_.Part p_.Can h_p__Can hc hr_5) ?_
    rintro _ w ⟨p_8, c_8, rfl, hc⟩
    refine ⟨_, rfl, fun a hf => ?_⟩
    refine stP hf rfl rfl rfl (pM rfl) fun a hf => ?_
    refine stP hf rfl rfl rfl (pX rfl rfl) fun a hf => ?_
    refine stP hf rfl rfl rfl (pX rfl rfl) fun a hf => ?_
    refine stP hf rfl rfl rfl (pA rfl) fun a hf => ?_
    refine stP hf rfl rfl rfl (pA rfl) fun a hf => ?_
    refine cNil ?_
    refine h7 _ _ ?_
    refine wp_seq_k fun K8 h8 => ?_
    refine wp_seq_k fun K9 h9 => ?_
    refine cReg ?_
    refine stP hf rfl rfl rfl (pM rfl) fun a hf => ?_
    refine stP hf rfl rfl rfl (pM rfl) fun a hf => ?_
    obtain ⟨r_6, hr_6, hF⟩ := bnd_some hF
    refine stE hf hc rfl rfl rfl (eC (v := .bool r_6) (vs := [.slice p_7 r_4.1.length c_7, .slice p_8 r_5.1.length c_8]) (caps := []) en_20 rfl rfl rfl rfl (fun w hc => by obtain ⟨G1, hle1, hrd1, hc, hth1⟩ := lend hc k2; obtain ⟨G2, hle2, hrd2, hc, hth2⟩ := lend hc k0; exact (kit_Same_int_ok r_4.1 r_5.1 (hrd1.mono hle2) hrd2 hc hr_6).mono fun e w h => ⟨h.1, ((hth1 _ _ ((hth2 _ _ h.2).unpick k0)).unpick k2)⟩)) fun a w hf hc => ?_
    refine stP hf rfl rfl rfl (pNot rfl) fun a hf => ?_
    refine stP hf rfl rfl rfl (pM rfl) fun a hf => ?_
    refine stCut 4 (fun a w => Has 217 a [(2, .slice claims_p claims.length claims_c), (3, .slice shares_p shares.length shares_c), (4, .int .i64 days), (5, .int .i64 rule), (8, .pointer (some ⟨b_1, 0, none⟩)), (13, .pointer (some ⟨b_2, 0, none⟩)), (15, .slice p_4 r_1.length c_4), (16, .slice p_5 r_2.length c_5), (17, .slice p_6 r_3.length c_6), (18, .slice p_7 r_4.1.length c_7), (19, .int .i64 r_4.2), (20, .slice p_8 r_5.1.length c_8), (21, .int .i64 r_5.2), (84, .slice p_7 r_4.1.length c_7), (85, .slice p_8 r_5.1.length c_8), (86, .bool r_6), (87, .bool (!r_6)), (88, .bool (!r_6)), (92, .bool ((!r_6) || (r_4.2 != r_5.2)))] ∧ Ctx G (.row p_8 c_8 (r_5.1.map encI_i64) 3 1 :: .row p_6 c_6 (r_3.map encI_i64) 3 1 :: .row p_7 c_7 (r_4.1.map encI_i64) 3 1 :: .row p_5 c_5 (r_2.map encI_i64) 3 1 :: .row p_4 c_4 (r_1.map encI_i64) 3 1 :: .box b_2 [.int .i64 x.N, .int .i64 x.D] 71 :: .box b_1 [.int .i64 p_.Least, .int .i64 p_.Part, .slice p__Can_p p_.Can.length p__Can_c] 59 :: Lf) w) ?_ ?_
    · cases hb : (!r_6)
      · rw [hb] at hf
        refine stP hf rfl rfl rfl (pM rfl) fun a hf => ?_
        refine stP hf rfl rfl rfl (pM rfl) fun a hf => ?_
        refine stP hf rfl rfl rfl (pNe rfl rfl) fun a hf => ?_
        refine stP hf rfl rfl rfl (pPf rfl rfl) fun a hf => ?_
        exact cNil ⟨hf.keep ⟨rfl, rfl, rfl, rfl, rfl, rfl, rfl, rfl, rfl, rfl, rfl, rfl, rfl, rfl, rfl, rfl, rfl, rfl, rfl, trivial⟩, hc⟩
      · rw [hb] at hf
        refine stS hf rfl rfl rfl fun a hf => ?_
        refine stS hf rfl rfl rfl fun a hf => ?_
        refine stS hf rfl rfl rfl fun a hf => ?_
        refine stP hf rfl rfl rfl (pPt rfl rfl) fun a hf => ?_
        exact cNil ⟨hf.keep ⟨rfl, rfl, rfl, rfl, rfl, rfl, rfl, rfl, rfl, rfl, rfl, rfl, rfl, rfl, rfl, rfl, rfl, rfl, rfl, trivial⟩, hc⟩
    intro a w ⟨hf, hc⟩
    refine cNil ?_
    refine h9 _ _ ?_
    refine cCond (b := ((!r_6) || (r_4.2 != r_5.2))) hf rfl (fun hb => ?_) (fun hb => ?_)
    · replace hF := condT hb hF
      clear hb
      refine wp_seq_k fun K10 h10 => ?_
      refine cReg ?_
      refine stP hf rfl rfl rfl (pA rfl) fun a hf => ?_
      refine cNil ?_
      refine h10 _ _ ?_
      refine wp_ret ?_
      refine xThenR ?_
      obtain rfl := Option.some.inj hF
      replace hc := hc.drop k6
      replace hc := hc.drop k5
      replace hc := hc.drop k4
      replace hc := hc.drop k3
      replace hc := hc.drop k2
      replace hc := hc.drop k1
      replace hc := hc.drop k0
      exact fnOut1 (by simp) rfl Try.results6 hf hc (show look _ 14 = _ from rfl) ⟨rfl, hc⟩
    · replace hF := condF hb hF
      clear hb
      refine wp_skip ?_
      refine h8 _ _ ?_
      refine wp_seq_k fun K11 h11 => ?_
      refine cReg ?_
      refine stP hf rfl rfl rfl (pM rfl) fun a hf => ?_
      refine stP hf rfl rfl rfl (pM rfl) fun a hf => ?_
      refine stP hf rfl rfl rfl (pM rfl) fun a hf => ?_
      obtain ⟨r_7, hr_7, hF⟩ := bnd_some hF
      obtain ⟨G1, hle1, hrd1, hc, hth1⟩ := lend hc k4
      refine stC (vs := [.slice p_4 r_1.length c_4, .int .i64 days, .int .i64 rule]) (caps := []) hf rfl rfl rfl en_34 rfl rfl rfl rfl (share_Turns_ok r_1 days rule hrd1 hc hr_7) ?_
      rintro _ w ⟨p_9, c_9, rfl, hc⟩
      refine ⟨_, rfl, fun a hf => ?_⟩
      replace hc := hth1 _ _ hc
      refine stP hf rfl rfl rfl (pM rfl) fun a hf => ?_
      refine stP hf rfl rfl rfl (pX rfl rfl) fun a hf => ?_
      refine stP hf rfl rfl rfl (pX rfl rfl) fun a hf => ?_
      refine stP hf rfl rfl rfl (pA rfl) fun a hf => ?_
      refine stP hf rfl rfl rfl (pA rfl) fun a hf => ?_
      refine cNil ?_
      refine h11 _ _ ?_
      refine wp_seq_k fun K12 h12 => ?_
      refine cReg ?_
      refine stP hf rfl rfl rfl (pM rfl) fun a hf => ?_
      refine stP hf rfl rfl rfl (pM rfl) fun a hf => ?_
      refine stP hf rfl rfl rfl (pM rfl) fun a hf => ?_
      obtain ⟨r_8, hr_8, hF⟩ := bnd_some hF
      refine stC (vs := [.slice claims_p claims.length claims_c, .int .i64 days, .int .i64 rule]) (caps := []) hf rfl rfl rfl en_36 rfl rfl rfl rfl (ref09_Turns_ok claims days rule h_claims hc hr_8) ?_
      rintro _ w ⟨p_10, c_10, rfl, hc⟩
      refine ⟨_, rfl, fun a hf => ?_⟩
      refine stP hf rfl rfl rfl (pM rfl) fun a hf => ?_
      refine stP hf rfl rfl rfl (pX rfl rfl) fun a hf => ?_
      refine stP hf rfl rfl rfl (pX rfl rfl) fun a hf => ?_
      refine stP hf rfl rfl rfl (pA rfl) fun a hf => ?_
      refine stP hf rfl rfl rfl (pA rfl) fun a hf => ?_
      refine cNil ?_
      refine h12 _ _ ?_
      refine wp_seq_k fun K13 h13 => ?_
      refine wp_seq_k fun K14 h14 => ?_
      refine cReg ?_
      refine stP hf rfl rfl rfl (pM rfl) fun a hf => ?_
      refine stP hf rfl rfl rfl (pM rfl) fun a hf => ?_
      obtain ⟨r_9, hr_9, hF⟩ := bnd_some hF
      refine stE hf hc rfl rfl rfl (eC (v := .bool r_9) (vs := [.slice p_9 r_7.1.length c_9, .slice p_10 r_8.1.length c_10]) (caps := []) en_20 rfl rfl rfl rfl (fun w hc => by obtain ⟨G1, hle1, hrd1, hc, hth1⟩ := lend hc k2; obtain ⟨G2, hle2, hrd2, hc, hth2⟩ := lend hc k0; exact (kit_Same_int_ok r_7.1 r_8.1 (hrd1.mono hle2) hrd2 hc hr_9).mono fun e w h => ⟨h.1, ((hth1 _ _ ((hth2 _ _ h.2).unpick k0)).unpick k2)⟩)) fun a w hf hc => ?_
      refine stP hf rfl rfl rfl (pNot rfl) fun a hf => ?_
      refine stP hf rfl rfl rfl (pM rfl) fun a hf => ?_
      refine stCut 4 (fun a w => Has 217 a [(2, .slice claims_p claims.length claims_c), (3, .slice shares_p shares.length shares_c), (5, .int .i64 rule), (8, .pointer (some ⟨b_1, 0, none⟩)), (13, .pointer (some ⟨b_2, 0, none⟩)), (15, .slice p_4 r_1.length c_4), (16, .slice p_5 r_2.length c_5), (17, .slice p_6 r_3.length c_6), (18, .slice p_9 r_7.1.length c_9), (19, .int .i64 r_7.2), (20, .slice p_10 r_8.1.length c_10), (21, .int .i64 r_8.2), (107, .slice p_9 r_7.1.length c_9), (108, .slice p_10 r_8.1.length c_10), (109, .bool r_9), (110, .bool (!r_9)), (111, .bool (!r_9)), (115, .bool ((!r_9) || (r_7.2 != r_8.2)))] ∧ Ctx G (.row p_10 c_10 (r_8.1.map encI_i64) 3 1 :: .row p_4 c_4 (r_1.map encI_i64) 3 1 :: .row p_9 c_9 (r_7.1.map encI_i64) 3 1 :: .row p_8 c_8 (r_5.1.map encI_i64) 3 1 :: .row p_6 c_6 (r_3.map encI_i64) 3 1 :: .row p_7 c_7 (r_4.1.map encI_i64) 3 1 :: .row p_5 c_5 (r_2.map encI_i64) 3 1 :: .box b_2 [.int .i64 x.N, .int .i64 x.D] 71 :: .box b_1 [.int .i64 p_.Least, .int .i64 p_.Part, .slice p__Can_p p_.Can.length p__Can_c] 59 :: Lf) w) ?_ ?_
      · cases hb : (!r_9)
        · rw [hb] at hf
          refine stP hf rfl rfl rfl (pM rfl) fun a hf => ?_
          refine stP hf rfl rfl rfl (pM rfl) fun a hf => ?_
          refine stP hf rfl rfl rfl (pNe rfl rfl) fun a hf => ?_
          refine stP hf rfl rfl rfl (pPf rfl rfl) fun a hf => ?_
          exact cNil ⟨hf.keep ⟨rfl, rfl, rfl, rfl, rfl, rfl, rfl, rfl, rfl, rfl, rfl, rfl, rfl, rfl, rfl, rfl, rfl, rfl, trivial⟩, hc⟩
        · rw [hb] at hf
          refine stS hf rfl rfl rfl fun a hf => ?_
          refine stS hf rfl rfl rfl fun a hf => ?_
          refine stS hf rfl rfl rfl fun a hf => ?_
          refine stP hf rfl rfl rfl (pPt rfl rfl) fun a hf => ?_
          exact cNil ⟨hf.keep ⟨rfl, rfl, rfl, rfl, rfl, rfl, rfl, rfl, rfl, rfl, rfl, rfl, rfl, rfl, rfl, rfl, rfl, rfl, trivial⟩, hc⟩
      intro a w ⟨hf, hc⟩
      refine cNil ?_
      refine h14 _ _ ?_
      refine cCond (b := ((!r_9) || (r_7.2 != r_8.2))) hf rfl (fun hb => ?_) (fun hb => ?_)
      · replace hF := condT hb hF
        clear hb
        refine wp_seq_k fun K15 h15 => ?_
        refine cReg ?_
        refine stP hf rfl rfl rfl (pA rfl) fun a hf => ?_
        refine cNil ?_
        refine h15 _ _ ?_
        refine wp_ret ?_
        refine xThenR ?_
        obtain rfl := Option.some.inj hF
        replace hc := hc.drop k8
        replace hc := hc.drop k7
        replace hc := hc.drop k6
        replace hc := hc.drop k5
        replace hc := hc.drop k4
        replace hc := hc.drop k3
        replace hc := hc.drop k2
        replace hc := hc.drop k1
        replace hc := hc.drop k0
        exact fnOut1 (by simp) rfl Try.results6 hf hc (show look _ 14 = _ from rfl) ⟨rfl, hc⟩
      · replace hF := condF hb hF
        clear hb
        refine wp_skip ?_
        refine h13 _ _ ?_
        refine wp_seq_k fun K16 h16 => ?_
        refine cReg ?_
        refine stP hf rfl rfl rfl (pM rfl) fun a hf => ?_
        refine stP hf rfl rfl rfl (pM rfl) fun a hf => ?_
        refine stP hf rfl rfl rfl (pM rfl) fun a hf => ?_
        obtain ⟨r_10, hr_10, hF⟩ := bnd_some hF
        refine stE hf hc rfl rfl rfl (eC (v := .tuple #[.int .i64 r_10.1, .int .i64 r_10.2.1, .int .i64 r_10.2.2]) (vs := [.slice p_4 r_1.length c_4, .slice p_5 r_2.length c_5, .int .i64 rule]) (caps := []) en_37 rfl rfl rfl rfl (fun w hc => by obtain ⟨G1, hle1, hrd1, hc, hth1⟩ := lend hc k1; obtain ⟨G2, hle2, hrd2, hc, hth2⟩ := lend hc k5; exact (share_Unfair_ok r_1 r_2 rule (hrd1.mono hle2) hrd2 hc hr_10).mono fun e w h => ⟨h.1, ((hth1 _ _ ((hth2 _ _ h.2).unpick k5)).unpick k1)⟩)) fun a w hf hc => ?_
        refine stP hf rfl rfl rfl (pM rfl) fun a hf => ?_
        refine stP hf rfl rfl rfl (pX rfl rfl) fun a hf => ?_
        refine stP hf rfl rfl rfl (pX rfl rfl) fun a hf => ?_
        refine stP hf rfl rfl rfl (pX rfl rfl) fun a hf => ?_
        refine stP hf rfl rfl rfl (pA rfl) fun a hf => ?_
        refine stP hf rfl rfl rfl (pA rfl) fun a hf => ?_
        refine stP hf rfl rfl rfl (pA rfl) fun a hf => ?_
        refine cNil ?_
        refine h16 _ _ ?_
        refine wp_seq_k fun K17 h17 => ?_
        refine cReg ?_
        refine stP hf rfl rfl rfl (pM rfl) fun a hf => ?_
        refine stP hf rfl rfl rfl (pM rfl) fun a hf => ?_
        refine stP hf rfl rfl rfl (pM rfl) fun a hf => ?_
        obtain ⟨r_11, hr_11, hF⟩ := bnd_some hF
        refine stE hf hc rfl rfl rfl (eC (v := .tuple #[.int .i64 r_11.1, .int .i64 r_11.2.1, .int .i64 r_11.2.2]) (vs := [.slice claims_p claims.length claims_c, .slice shares_p shares.length shares_c, .int .i64 rule]) (caps := []) en_38 rfl rfl rfl rfl (fun w hc => ref09_Unfair_ok claims shares rule h_claims h_shares hc hr_11)) fun a w hf hc => ?_
        refine stP hf rfl rfl rfl (pM rfl) fun a hf => ?_
        refine stP hf rfl rfl rfl (pX rfl rfl) fun a hf => ?_
        refine stP hf rfl rfl rfl (pX rfl rfl) fun a hf => ?_
        refine stP hf rfl rfl rfl (pX rfl rfl) fun a hf => ?_
        refine stP hf rfl rfl rfl (pA rfl) fun a hf => ?_
        refine stP hf rfl rfl rfl (pA rfl) fun a hf => ?_
        refine stP hf rfl rfl rfl (pA rfl) fun a hf => ?_
        refine cNil ?_
        refine h17 _ _ ?_
        refine wp_seq_k fun K18 h18 => ?_
        refine wp_seq_k fun K19 h19 => ?_
        refine cReg ?_
        refine stP hf rfl rfl rfl (pM rfl) fun a hf => ?_
        refine stP hf rfl rfl rfl (pM rfl) fun a hf => ?_
        refine stP hf rfl rfl rfl (pNe rfl rfl) fun a hf => ?_
        refine stP hf rfl rfl rfl (pM rfl) fun a hf => ?_
        refine stCut 4 (fun a w => Has 217 a [(2, .slice claims_p claims.length claims_c), (3, .slice shares_p shares.length shares_c), (5, .int .i64 rule), (8, .pointer (some ⟨b_1, 0, none⟩)), (13, .pointer (some ⟨b_2, 0, none⟩)), (15, .slice p_4 r_1.length c_4), (16, .slice p_5 r_2.length c_5), (17, .slice p_6 r_3.length c_6), (19, .int .i64 r_10.2.2), (21, .int .i64 r_11.2.2), (22, .int .i64 r_10.1), (23, .int .i64 r_10.2.1), (24, .int .i64 r_11.1), (25, .int .i64 r_11.2.1), (132, .int .i64 r_10.1), (133, .int .i64 r_11.1), (134, .bool (r_10.1 != r_11.1)), (135, .bool (r_10.1 != r_11.1)), (139, .bool ((r_10.1 != r_11.1) || (r_10.2.1 != r_11.2.1)))] ∧ Ctx G (.row p_10 c_10 (r_8.1.map encI_i64) 3 1 :: .row p_4 c_4 (r_1.map encI_i64) 3 1 :: .row p_9 c_9 (r_7.1.map encI_i64) 3 1 :: .row p_8 c_8 (r_5.1.map encI_i64) 3 1 :: .row p_6 c_6 (r_3.map encI_i64) 3 1 :: .row p_7 c_7 (r_4.1.map encI_i64) 3 1 :: .row p_5 c_5 (r_2.map encI_i64) 3 1 :: .box b_2 [.int .i64 x.N, .int .i64 x.D] 71 :: .box b_1 [.int .i64 p_.Least, .int .i64 p_.Part, .slice p__Can_p p_.Can.length p__Can_c] 59 :: Lf) w) ?_ ?_
        · cases hb : (r_10.1 != r_11.1)
          · rw [hb] at hf
            refine stP hf rfl rfl rfl (pM rfl) fun a hf => ?_
            refine stP hf rfl rfl rfl (pM rfl) fun a hf => ?_
            refine stP hf rfl rfl rfl (pNe rfl rfl) fun a hf => ?_
            refine stP hf rfl rfl rfl (pPf rfl rfl) fun a hf => ?_
            exact cNil ⟨hf.keep ⟨rfl, rfl, rfl, rfl, rfl, rfl, rfl, rfl, rfl, rfl, rfl, rfl, rfl, rfl, rfl, rfl, rfl, rfl, rfl, trivial⟩, hc⟩
          · rw [hb] at hf
            refine stS hf rfl rfl rfl fun a hf => ?_
            refine stS hf rfl rfl rfl fun a hf => ?_
            refine stS hf rfl rfl rfl fun a hf => ?_
            refine stP hf rfl rfl rfl (pPt rfl rfl) fun a hf => ?_
            exact cNil ⟨hf.keep ⟨rfl, rfl, rfl, rfl, rfl, rfl, rfl, rfl, rfl, rfl, rfl, rfl, rfl, rfl, rfl, rfl, rfl, rfl, rfl, trivial⟩, hc⟩
        intro a w ⟨hf, hc⟩
        refine stP hf rfl rfl rfl (pM rfl) fun a hf => ?_
        refine stCut 4 (fun a w => Has 217 a [(2, .slice claims_p claims.length claims_c), (3, .slice shares_p shares.length shares_c), (5, .int .i64 rule), (8, .pointer (some ⟨b_1, 0, none⟩)), (13, .pointer (some ⟨b_2, 0, none⟩)), (15, .slice p_4 r_1.length c_4), (16, .slice p_5 r_2.length c_5), (17, .slice p_6 r_3.length c_6), (19, .int .i64 r_10.2.2), (21, .int .i64 r_11.2.2), (22, .int .i64 r_10.1), (23, .int .i64 r_10.2.1), (24, .int .i64 r_11.1), (25, .int .i64 r_11.2.1), (132, .int .i64 r_10.1), (133, .int .i64 r_11.1), (134, .bool (r_10.1 != r_11.1)), (135, .bool (r_10.1 != r_11.1)), (139, .bool ((r_10.1 != r_11.1) || (r_10.2.1 != r_11.2.1))), (140, .bool ((r_10.1 != r_11.1) || (r_10.2.1 != r_11.2.1))), (144, .bool (((r_10.1 != r_11.1) || (r_10.2.1 != r_11.2.1)) || (r_10.2.2 != r_11.2.2)))] ∧ Ctx G (.row p_10 c_10 (r_8.1.map encI_i64) 3 1 :: .row p_4 c_4 (r_1.map encI_i64) 3 1 :: .row p_9 c_9 (r_7.1.map encI_i64) 3 1 :: .row p_8 c_8 (r_5.1.map encI_i64) 3 1 :: .row p_6 c_6 (r_3.map encI_i64) 3 1 :: .row p_7 c_7 (r_4.1.map encI_i64) 3 1 :: .row p_5 c_5 (r_2.map encI_i64) 3 1 :: .box b_2 [.int .i64 x.N, .int .i64 x.D] 71 :: .box b_1 [.int .i64 p_.Least, .int .i64 p_.Part, .slice p__Can_p p_.Can.length p__Can_c] 59 :: Lf) w) ?_ ?_
        · cases hb : ((r_10.1 != r_11.1) || (r_10.2.1 != r_11.2.1))
          · rw [hb] at hf
            refine stP hf rfl rfl rfl (pM rfl) fun a hf => ?_
            refine stP hf rfl rfl rfl (pM rfl) fun a hf => ?_
            refine stP hf rfl rfl rfl (pNe rfl rfl) fun a hf => ?_
            refine stP hf rfl rfl rfl (pPf rfl rfl) fun a hf => ?_
            exact cNil ⟨hf.keep ⟨rfl, rfl, rfl, rfl, rfl, rfl, rfl, rfl, rfl, rfl, rfl, rfl, rfl, rfl, rfl, rfl, rfl, rfl, rfl, rfl, rfl, trivial⟩, hc⟩
          · rw [hb] at hf
            refine stS hf rfl rfl rfl fun a hf => ?_
            refine stS hf rfl rfl rfl fun a hf => ?_
            refine stS hf rfl rfl rfl fun a hf => ?_
            refine stP hf rfl rfl rfl (pPt rfl rfl) fun a hf => ?_
            exact cNil ⟨hf.keep ⟨rfl, rfl, rfl, rfl, rfl, rfl, rfl, rfl, rfl, rfl, rfl, rfl, rfl, rfl, rfl, rfl, rfl, rfl, rfl, rfl, rfl, trivial⟩, hc⟩
        intro a w ⟨hf, hc⟩
        refine cNil ?_
        refine h19 _ _ ?_
        refine cCond (b := (((r_10.1 != r_11.1) || (r_10.2.1 != r_11.2.1)) || (r_10.2.2 != r_11.2.2))) hf rfl (fun hb => ?_) (fun hb => ?_)
        · replace hF := condT hb hF
          clear hb
          refine wp_seq_k fun K20 h20 => ?_
          refine cReg ?_
          refine stP hf rfl rfl rfl (pA rfl) fun a hf => ?_
          refine cNil ?_
          refine h20 _ _ ?_
          refine wp_ret ?_
          refine xThenR ?_
          obtain rfl := Option.some.inj hF
          replace hc := hc.drop k8
          replace hc := hc.drop k7
          replace hc := hc.drop k6
          replace hc := hc.drop k5
          replace hc := hc.drop k4
          replace hc := hc.drop k3
          replace hc := hc.drop k2
          replace hc := hc.drop k1
          replace hc := hc.drop k0
          exact fnOut1 (by simp) rfl Try.results6 hf hc (show look _ 14 = _ from rfl) ⟨rfl, hc⟩
        · replace hF := condF hb hF
          clear hb
          refine wp_skip ?_
          refine h18 _ _ ?_
          refine wp_seq_k fun K21 h21 => ?_
          refine cReg ?_
          refine stP hf rfl rfl rfl (pM rfl) fun a hf => ?_
          refine stP hf rfl rfl rfl (pM rfl) fun a hf => ?_
          refine stP hf rfl rfl rfl (pM rfl) fun a hf => ?_
          obtain ⟨r_12, hr_12, hF⟩ := bnd_some hF
          refine stE hf hc rfl rfl rfl (eC (v := .tuple #[.agg #[.int .i64 r_12.1.N, .int .i64 r_12.1.D], .agg #[.int .i64 r_12.2.1.N, .int .i64 r_12.2.1.D], .int .i64 r_12.2.2]) (vs := [.slice p_4 r_1.length c_4, .slice p_5 r_2.length c_5, .int .i64 rule]) (caps := []) en_39 rfl rfl rfl rfl (fun w hc => by obtain ⟨G1, hle1, hrd1, hc, hth1⟩ := lend hc k1; obtain ⟨G2, hle2, hrd2, hc, hth2⟩ := lend hc k5; exact (share_Divisors_ok r_1 r_2 rule (hrd1.mono hle2) hrd2 hc hr_12).mono fun e w h => ⟨h.1, ((hth1 _ _ ((hth2 _ _ h.2).unpick k5)).unpick k1)⟩)) fun a w hf hc => ?_
          refine stP hf rfl rfl rfl (pM rfl) fun a hf => ?_
          refine stP hf rfl rfl rfl (pX rfl rfl) fun a hf => ?_
          refine stP hf rfl rfl rfl (pX rfl rfl) fun a hf => ?_
          refine stP hf rfl rfl rfl (pX rfl rfl) fun a hf => ?_
          refine stAl (cs := [.int .i64 0, .int .i64 0]) hf hc rfl rfl zr_71 rfl fun b_3 a w hf hc => ?_
          refine stAl (cs := [.int .i64 0, .int .i64 0]) hf hc rfl rfl zr_71 rfl fun b_4 a w hf hc => ?_
          refine stSt (vs := [.int .i64 r_12.1.N, .int .i64 r_12.1.D]) hf hc rfl rfl rfl rfl sz_71 rfl rfl u1 fun w hc => ?_
          refine stSt (vs := [.int .i64 r_12.2.1.N, .int .i64 r_12.2.1.D]) hf hc rfl rfl rfl rfl sz_71 rfl rfl u0 fun w hc => ?_
          refine stP hf rfl rfl rfl (pA rfl) fun a hf => ?_
          refine cNil ?_
          refine h21 _ _ ?_
          refine wp_seq_k fun K22 h22 => ?_
          refine cReg ?_
          refine stP hf rfl rfl rfl (pM rfl) fun a hf => ?_
          refine stP hf rfl rfl rfl (pM rfl) fun a hf => ?_
          refine stP hf rfl rfl rfl (pM rfl) fun a hf => ?_
          obtain ⟨r_13, hr_13, hF⟩ := bnd_some hF
          refine stE hf hc rfl rfl rfl (eC (v := .tuple #[.agg #[.int .i64 r_13.1.N, .int .i64 r_13.1.D], .agg #[.int .i64 r_13.2.1.N, .int .i64 r_13.2.1.D], .int .i64 r_13.2.2]) (vs := [.slice claims_p claims.length claims_c, .slice shares_p shares.length shares_c, .int .i64 rule]) (caps := []) en_40 rfl rfl rfl rfl (fun w hc => ref09_Divisors_ok claims shares rule h_claims h_shares hc hr_13)) fun a w hf hc => ?_
          refine stP hf rfl rfl rfl (pM rfl) fun a hf => ?_
          refine stP hf rfl rfl rfl (pX rfl rfl) fun a hf => ?_
          refine stP hf rfl rfl rfl (pX rfl rfl) fun a hf => ?_
          refine stP hf rfl rfl rfl (pX rfl rfl) fun a hf => ?_
          refine stAl (cs := [.int .i64 0, .int .i64 0]) hf hc rfl rfl zr_71 rfl fun b_5 a w hf hc => ?_
          refine stAl (cs := [.int .i64 0, .int .i64 0]) hf hc rfl rfl zr_71 rfl fun b_6 a w hf hc => ?_
          refine stSt (vs := [.int .i64 r_13.1.N, .int .i64 r_13.1.D]) hf hc rfl rfl rfl rfl sz_71 rfl rfl u1 fun w hc => ?_
          refine stSt (vs := [.int .i64 r_13.2.1.N, .int .i64 r_13.2.1.D]) hf hc rfl rfl rfl rfl sz_71 rfl rfl u0 fun w hc => ?_
          refine stP hf rfl rfl rfl (pA rfl) fun a hf => ?_
          refine cNil ?_
          refine h22 _ _ ?_
          refine wp_seq_k fun K23 h23 => ?_
          refine wp_seq_k fun K24 h24 => ?_
          refine cReg ?_
          refine stE hf hc rfl rfl rfl (eLdN (vs := [.int .i64 r_12.1.N, .int .i64 r_12.1.D]) ag_71 rfl rfl (cells_box (n := 2) m3 rfl)) fun a w hf hc => ?_
          refine stE hf hc rfl rfl rfl (eLdN (vs := [.int .i64 r_13.1.N, .int .i64 r_13.1.D]) ag_71 rfl rfl (cells_box (n := 2) m1 rfl)) fun a w hf hc => ?_
          refine stP hf rfl rfl rfl (pNeA ge_71 rfl rfl (eqs_71 _ _ _ _)) fun a hf => ?_
          refine stP hf rfl rfl rfl (pM rfl) fun a hf => ?_
          refine stCut 4 (fun a w => Has 217 a [(2, .slice claims_p claims.length claims_c), (3, .slice shares_p shares.length shares_c), (5, .int .i64 rule), (8, .pointer (some ⟨b_1, 0, none⟩)), (13, .pointer (some ⟨b_2, 0, none⟩)), (15, .slice p_4 r_1.length c_4), (16, .slice p_5 r_2.length c_5), (17, .slice p_6 r_3.length c_6), (19, .int .i64 r_12.2.2), (21, .int .i64 r_13.2.2), (26, .pointer (some ⟨b_3, 0, none⟩)), (27, .pointer (some ⟨b_4, 0, none⟩)), (28, .pointer (some ⟨b_5, 0, none⟩)), (29, .pointer (some ⟨b_6, 0, none⟩)), (161, .agg #[.int .i64 r_12.1.N, .int .i64 r_12.1.D]), (162, .agg #[.int .i64 r_13.1.N, .int .i64 r_13.1.D]), (163, .bool (!(r_12.1.N == r_13.1.N && r_12.1.D == r_13.1.D))), (164, .bool (!(r_12.1.N == r_13.1.N && r_12.1.D == r_13.1.D))), (168, .bool ((!(r_12.1.N == r_13.1.N && r_12.1.D == r_13.1.D)) || (!(r_12.2.1.N == r_13.2.1.N && r_12.2.1.D == r_13.2.1.D))))] ∧ Ctx G (.box b_6 [.int .i64 r_13.2.1.N, .int .i64 r_13.2.1.D] 71 :: .box b_5 [.int .i64 r_13.1.N, .int .i64 r_13.1.D] 71 :: .box b_4 [.int .i64 r_12.2.1.N, .int .i64 r_12.2.1.D] 71 :: .box b_3 [.int .i64 r_12.1.N, .int .i64 r_12.1.D] 71 :: .row p_10 c_10 (r_8.1.map encI_i64) 3 1 :: .row p_4 c_4 (r_1.map encI_i64) 3 1 :: .row p_9 c_9 (r_7.1.map encI_i64) 3 1 :: .row p_8 c_8 (r_5.1.map encI_i64) 3 1 :: .row p_6 c_6 (r_3.map encI_i64) 3 1 :: .row p_7 c_7 (r_4.1.map encI_i64) 3 1 :: .row p_5 c_5 (r_2.map encI_i64) 3 1 :: .box b_2 [.int .i64 x.N, .int .i64 x.D] 71 :: .box b_1 [.int .i64 p_.Least, .int .i64 p_.Part, .slice p__Can_p p_.Can.length p__Can_c] 59 :: Lf) w) ?_ ?_
          · cases hb : (!(r_12.1.N == r_13.1.N && r_12.1.D == r_13.1.D))
            · rw [hb] at hf
              refine stE hf hc rfl rfl rfl (eLdN (vs := [.int .i64 r_12.2.1.N, .int .i64 r_12.2.1.D]) ag_71 rfl rfl (cells_box (n := 2) m2 rfl)) fun a w hf hc => ?_
              refine stE hf hc rfl rfl rfl (eLdN (vs := [.int .i64 r_13.2.1.N, .int .i64 r_13.2.1.D]) ag_71 rfl rfl (cells_box (n := 2) m0 rfl)) fun a w hf hc => ?_
              refine stP hf rfl rfl rfl (pNeA ge_71 rfl rfl (eqs_71 _ _ _ _)) fun a hf => ?_
              refine stP hf rfl rfl rfl (pPf rfl rfl) fun a hf => ?_
              exact cNil ⟨hf.keep ⟨rfl, rfl, rfl, rfl, rfl, rfl, rfl, rfl, rfl, rfl, rfl, rfl, rfl, rfl, rfl, rfl, rfl, rfl, rfl, trivial⟩, hc⟩
            · rw [hb] at hf
              refine stS hf rfl rfl rfl fun a hf => ?_
              refine stS hf rfl rfl rfl fun a hf => ?_
              refine stS hf rfl rfl rfl fun a hf => ?_
              refine stP hf rfl rfl rfl (pPt rfl rfl) fun a hf => ?_
              exact cNil ⟨hf.keep ⟨rfl, rfl, rfl, rfl, rfl, rfl, rfl, rfl, rfl, rfl, rfl, rfl, rfl, rfl, rfl, rfl, rfl, rfl, rfl, trivial⟩, hc⟩
          intro a w ⟨hf, hc⟩
          refine stP hf rfl rfl rfl (pM rfl) fun a hf => ?_
          refine stCut 4 (fun a w => Has 217 a [(2, .slice claims_p claims.length claims_c), (3, .slice shares_p shares.length shares_c), (5, .int .i64 rule), (8, .pointer (some ⟨b_1, 0, none⟩)), (13, .pointer (some ⟨b_2, 0, none⟩)), (15, .slice p_4 r_1.length c_4), (16, .slice p_5 r_2.length c_5), (17, .slice p_6 r_3.length c_6), (19, .int .i64 r_12.2.2), (21, .int .i64 r_13.2.2), (26, .pointer (some ⟨b_3, 0, none⟩)), (27, .pointer (some ⟨b_4, 0, none⟩)), (28, .pointer (some ⟨b_5, 0, none⟩)), (29, .pointer (some ⟨b_6, 0, none⟩)), (161, .agg #[.int .i64 r_12.1.N, .int .i64 r_12.1.D]), (162, .agg #[.int .i64 r_13.1.N, .int .i64 r_13.1.D]), (163, .bool (!(r_12.1.N == r_13.1.N && r_12.1.D == r_13.1.D))), (164, .bool (!(r_12.1.N == r_13.1.N && r_12.1.D == r_13.1.D))), (168, .bool ((!(r_12.1.N == r_13.1.N && r_12.1.D == r_13.1.D)) || (!(r_12.2.1.N == r_13.2.1.N && r_12.2.1.D == r_13.2.1.D)))), (169, .bool ((!(r_12.1.N == r_13.1.N && r_12.1.D == r_13.1.D)) || (!(r_12.2.1.N == r_13.2.1.N && r_12.2.1.D == r_13.2.1.D)))), (173, .bool (((!(r_12.1.N == r_13.1.N && r_12.1.D == r_13.1.D)) || (!(r_12.2.1.N == r_13.2.1.N && r_12.2.1.D == r_13.2.1.D))) || (r_12.2.2 != r_13.2.2)))] ∧ Ctx G (.box b_6 [.int .i64 r_13.2.1.N, .int .i64 r_13.2.1.D] 71 :: .box b_5 [.int .i64 r_13.1.N, .int .i64 r_13.1.D] 71 :: .box b_4 [.int .i64 r_12.2.1.N, .int .i64 r_12.2.1.D] 71 :: .box b_3 [.int .i64 r_12.1.N, .int .i64 r_12.1.D] 71 :: .row p_10 c_10 (r_8.1.map encI_i64) 3 1 :: .row p_4 c_4 (r_1.map encI_i64) 3 1 :: .row p_9 c_9 (r_7.1.map encI_i64) 3 1 :: .row p_8 c_8 (r_5.1.map encI_i64) 3 1 :: .row p_6 c_6 (r_3.map encI_i64) 3 1 :: .row p_7 c_7 (r_4.1.map encI_i64) 3 1 :: .row p_5 c_5 (r_2.map encI_i64) 3 1 :: .box b_2 [.int .i64 x.N, .int .i64 x.D] 71 :: .box b_1 [.int .i64 p_.Least, .int .i64 p_.Part, .slice p__Can_p p_.Can.length p__Can_c] 59 :: Lf) w) ?_ ?_
          · cases hb : ((!(r_12.1.N == r_13.1.N && r_12.1.D == r_13.1.D)) || (!(r_12.2.1.N == r_13.2.1.N && r_12.2.1.D == r_13.2.1.D)))
            · rw [hb] at hf
              refine stP hf rfl rfl rfl (pM rfl) fun a hf => ?_
              refine stP hf rfl rfl rfl (pM rfl) fun a hf => ?_
              refine stP hf rfl rfl rfl (pNe rfl rfl) fun a hf => ?_
              refine stP hf rfl rfl rfl (pPf rfl rfl) fun a hf => ?_
              exact cNil ⟨hf.keep ⟨rfl, rfl, rfl, rfl, rfl, rfl, rfl, rfl, rfl, rfl, rfl, rfl, rfl, rfl, rfl, rfl, rfl, rfl, rfl, rfl, rfl, trivial⟩, hc⟩
            · rw [hb] at hf
              refine stS hf rfl rfl rfl fun a hf => ?_
              refine stS hf rfl rfl rfl fun a hf => ?_
              refine stS hf rfl rfl rfl fun a hf => ?_
              refine stP hf rfl rfl rfl (pPt rfl rfl) fun a hf => ?_
              exact cNil ⟨hf.keep ⟨rfl, rfl, rfl, rfl, rfl, rfl, rfl, rfl, rfl, rfl, rfl, rfl, rfl, rfl, rfl, rfl, rfl, rfl, rfl, rfl, rfl, trivial⟩, hc⟩
          intro a w ⟨hf, hc⟩
          refine cNil ?_
          refine h24 _ _ ?_
          refine cCond (b := (((!(r_12.1.N == r_13.1.N && r_12.1.D == r_13.1.D)) || (!(r_12.2.1.N == r_13.2.1.N && r_12.2.1.D == r_13.2.1.D))) || (r_12.2.2 != r_13.2.2))) hf rfl (fun hb => ?_) (fun hb => ?_)
          · replace hF := condT hb hF
            clear hb
            refine wp_seq_k fun K25 h25 => ?_
            refine cReg ?_
            refine stP hf rfl rfl rfl (pA rfl) fun a hf => ?_
            refine cNil ?_
            refine h25 _ _ ?_
            refine wp_ret ?_
            refine xThenR ?_
            obtain rfl := Option.some.inj hF
            replace hc := hc.drop k12
            replace hc := hc.drop k11
            replace hc := hc.drop k10
            replace hc := hc.drop k9
            replace hc := hc.drop k8
            replace hc := hc.drop k7
            replace hc := hc.drop k6
            replace hc := hc.drop k5
            replace hc := hc.drop k4
            replace hc := hc.drop k3
            replace hc := hc.drop k2
            replace hc := hc.drop k1
            replace hc := hc.drop k0
            exact fnOut1 (by simp) rfl Try.results6 hf hc (show look _ 14 = _ from rfl) ⟨rfl, hc⟩
          · replace hF := condF hb hF
            clear hb
            refine wp_skip ?_
            refine h23 _ _ ?_
            refine wp_seq_k fun K26 h26 => ?_
            refine cReg ?_
            refine stP hf rfl rfl rfl (pM rfl) fun a hf => ?_
            refine stP hf rfl rfl rfl (pM rfl) fun a hf => ?_
            refine stP hf rfl rfl rfl (pM rfl) fun a hf => ?_
            refine stE hf hc rfl rfl rfl (eLdN (vs := [.int .i64 x.N, .int .i64 x.D]) ag_71 rfl rfl (cells_box (n := 2) m11 rfl)) fun a w hf hc => ?_
            obtain ⟨r_14, hr_14, hF⟩ := bnd_some hF
            refine stE hf hc rfl rfl rfl (eC (v := .tuple #[.bool r_14.1, .int .i64 r_14.2]) (vs := [.slice p_4 r_1.length c_4, .slice p_5 r_2.length c_5, .int .i64 rule, .agg #[.int .i64 x.N, .int .i64 x.D]]) (caps := []) en_41 rfl rfl rfl rfl (fun w hc => by obtain ⟨G1, hle1, hrd1, hc, hth1⟩ := lend hc k5; obtain ⟨G2, hle2, hrd2, hc, hth2⟩ := lend hc k9; exact (share_Proves_ok r_1 r_2 rule x (hrd1.mono hle2) hrd2 hc hr_14).mono fun e w h => ⟨h.1, ((hth1 _ _ ((hth2 _ _ h.2).unpick k9)).unpick k5)⟩)) fun a w hf hc => ?_
            refine stP hf rfl rfl rfl (pM rfl) fun a hf => ?_
            refine stP hf rfl rfl rfl (pX rfl rfl) fun a hf => ?_
            refine stP hf rfl rfl rfl (pX rfl rfl) fun a hf => ?_
            refine stP hf rfl rfl rfl (pA rfl) fun a hf => ?_
            refine stP hf rfl rfl rfl (pA rfl) fun a hf => ?_
            refine cNil ?_
            refine h26 _ _ ?_
            refine wp_seq_k fun K27 h27 => ?_
            refine cReg ?_
            refine stP hf rfl rfl rfl (pM rfl) fun a hf => ?_
            refine stP hf rfl rfl rfl (pM rfl) fun a hf => ?_
            refine stP hf rfl rfl rfl (pM rfl) fun a hf => ?_
            refine stE hf hc rfl rfl rfl (eLdN (vs := [.int .i64 x.N, .int .i64 x.D]) ag_71 rfl rfl (cells_box (n := 2) m11 rfl)) fun a w hf hc => ?_
            obtain ⟨r_15, hr_15, hF⟩ := bnd_some hF
            refine stE hf hc rfl rfl rfl (eC (v := .tuple #[.bool r_15.1, .int .i64 r_15.2]) (vs := [.slice claims_p claims.length claims_c, .slice shares_p shares.length shares_c, .int .i64 rule, .agg #[.int .i64 x.N, .int .i64 x.D]]) (caps := []) en_42 rfl rfl rfl rfl (fun w hc => ref09_Proves_ok claims shares rule x h_claims h_shares hc hr_15)) fun a w hf hc => ?_
            refine stP hf rfl rfl rfl (pM rfl) fun a hf => ?_
            refine stP hf rfl rfl rfl (pX rfl rfl) fun a hf => ?_
            refine stP hf rfl rfl rfl (pX rfl rfl) fun a hf => ?_
            refine stP hf rfl rfl rfl (pA rfl) fun a hf => ?_
            refine stP hf rfl rfl rfl (pA rfl) fun a hf => ?_
            refine cNil ?_
            refine h27 _ _ ?_
            refine wp_seq_k fun K28 h28 => ?_
            refine cReg ?_
            refine stP hf rfl rfl rfl (pM rfl) fun a hf => ?_
            refine stP hf rfl rfl rfl (pM rfl) fun a hf => ?_
            refine stP hf rfl rfl rfl (pEqB Try.underlying4 rfl rfl) fun a hf => ?_
            refine stP hf rfl rfl rfl (pM rfl) fun a hf => ?_
            refine stCut 4 (fun a w => Has 217 a [(2, .slice claims_p claims.length claims_c), (3, .slice shares_p shares.length shares_c), (8, .pointer (some ⟨b_1, 0, none⟩)), (15, .slice p_4 r_1.length c_4), (16, .slice p_5 r_2.length c_5), (17, .slice p_6 r_3.length c_6), (19, .int .i64 r_14.2), (21, .int .i64 r_15.2), (30, .bool r_14.1), (31, .bool r_15.1), (190, .bool r_14.1), (191, .bool r_15.1), (192, .bool (r_14.1 == r_15.1)), (193, .bool (r_14.1 == r_15.1)), (197, .bool ((r_14.1 == r_15.1) && (r_14.2 == r_15.2)))] ∧ Ctx G (.box b_6 [.int .i64 r_13.2.1.N, .int .i64 r_13.2.1.D] 71 :: .box b_5 [.int .i64 r_13.1.N, .int .i64 r_13.1.D] 71 :: .box b_4 [.int .i64 r_12.2.1.N, .int .i64 r_12.2.1.D] 71 :: .box b_3 [.int .i64 r_12.1.N, .int .i64 r_12.1.D] 71 :: .row p_10 c_10 (r_8.1.map encI_i64) 3 1 :: .row p_4 c_4 (r_1.map encI_i64) 3 1 :: .row p_9 c_9 (r_7.1.map encI_i64) 3 1 :: .row p_8 c_8 (r_5.1.map encI_i64) 3 1 :: .row p_6 c_6 (r_3.map encI_i64) 3 1 :: .row p_7 c_7 (r_4.1.map encI_i64) 3 1 :: .row p_5 c_5 (r_2.map encI_i64) 3 1 :: .box b_2 [.int .i64 x.N, .int .i64 x.D] 71 :: .box b_1 [.int .i64 p_.Least, .int .i64 p_.Part, .slice p__Can_p p_.Can.length p__Can_c] 59 :: Lf) w) ?_ ?_
            · cases hb : (r_14.1 == r_15.1)
              · rw [hb] at hf
                refine stS hf rfl rfl rfl fun a hf => ?_
                refine stS hf rfl rfl rfl fun a hf => ?_
                refine stS hf rfl rfl rfl fun a hf => ?_
                refine stP hf rfl rfl rfl (pPf rfl rfl) fun a hf => ?_
                exact cNil ⟨hf.keep ⟨rfl, rfl, rfl, rfl, rfl, rfl, rfl, rfl, rfl, rfl, rfl, rfl, rfl, rfl, rfl, trivial⟩, hc⟩
              · rw [hb] at hf
                refine stP hf rfl rfl rfl (pM rfl) fun a hf => ?_
                refine stP hf rfl rfl rfl (pM rfl) fun a hf => ?_
                refine stP hf rfl rfl rfl (pEq rfl rfl) fun a hf => ?_
                refine stP hf rfl rfl rfl (pPt rfl rfl) fun a hf => ?_
                exact cNil ⟨hf.keep ⟨rfl, rfl, rfl, rfl, rfl, rfl, rfl, rfl, rfl, rfl, rfl, rfl, rfl, rfl, rfl, trivial⟩, hc⟩
            intro a w ⟨hf, hc⟩
            refine stP hf rfl rfl rfl (pM rfl) fun a hf => ?_
            obtain ⟨t_1, ht_1, hF⟩ := bnd_some hF
            refine stCut 4 (fun a w => Has 217 a [(2, .slice claims_p claims.length claims_c), (3, .slice shares_p shares.length shares_c), (8, .pointer (some ⟨b_1, 0, none⟩)), (15, .slice p_4 r_1.length c_4), (16, .slice p_5 r_2.length c_5), (17, .slice p_6 r_3.length c_6), (19, .int .i64 r_14.2), (21, .int .i64 r_15.2), (30, .bool r_14.1), (31, .bool r_15.1), (190, .bool r_14.1), (191, .bool r_15.1), (192, .bool (r_14.1 == r_15.1)), (193, .bool (r_14.1 == r_15.1)), (197, .bool ((r_14.1 == r_15.1) && (r_14.2 == r_15.2))), (198, .bool ((r_14.1 == r_15.1) && (r_14.2 == r_15.2))), (202, .bool t_1)] ∧ Ctx G (.box b_6 [.int .i64 r_13.2.1.N, .int .i64 r_13.2.1.D] 71 :: .box b_5 [.int .i64 r_13.1.N, .int .i64 r_13.1.D] 71 :: .box b_4 [.int .i64 r_12.2.1.N, .int .i64 r_12.2.1.D] 71 :: .box b_3 [.int .i64 r_12.1.N, .int .i64 r_12.1.D] 71 :: .row p_10 c_10 (r_8.1.map encI_i64) 3 1 :: .row p_4 c_4 (r_1.map encI_i64) 3 1 :: .row p_9 c_9 (r_7.1.map encI_i64) 3 1 :: .row p_8 c_8 (r_5.1.map encI_i64) 3 1 :: .row p_6 c_6 (r_3.map encI_i64) 3 1 :: .row p_7 c_7 (r_4.1.map encI_i64) 3 1 :: .row p_5 c_5 (r_2.map encI_i64) 3 1 :: .box b_2 [.int .i64 x.N, .int .i64 x.D] 71 :: .box b_1 [.int .i64 p_.Least, .int .i64 p_.Part, .slice p__Can_p p_.Can.length p__Can_c] 59 :: Lf) w) ?_ ?_
            · cases hb : ((r_14.1 == r_15.1) && (r_14.2 == r_15.2))
              · rw [hb] at hf
                have hF := condF hb ht_1
                obtain rfl := Option.some.inj hF
                refine stS hf rfl rfl rfl fun a hf => ?_
                refine stS hf rfl rfl rfl fun a hf => ?_
                refine stS hf rfl rfl rfl fun a hf => ?_
                refine stP hf rfl rfl rfl (pPf rfl rfl) fun a hf => ?_
                exact cNil ⟨hf.keep ⟨rfl, rfl, rfl, rfl, rfl, rfl, rfl, rfl, rfl, rfl, rfl, rfl, rfl, rfl, rfl, rfl, rfl, trivial⟩, hc⟩
              · rw [hb] at hf
                have hF := condT hb ht_1
                refine stP hf rfl rfl rfl (pM rfl) fun a hf => ?_
                refine stP hf rfl rfl rfl (pM rfl) fun a hf => ?_
                obtain ⟨r_16, hr_16, hF⟩ := bnd_some hF
                refine stE hf hc rfl rfl rfl (eC (v := .bool r_16) (vs := [.slice p_4 r_1.length c_4, .slice claims_p claims.length claims_c]) (caps := []) en_20 rfl rfl rfl rfl (fun w hc => by obtain ⟨G1, hle1, hrd1, hc, hth1⟩ := lend hc k5; exact (kit_Same_int_ok r_1 claims hrd1 (h_claims.mono hle1) hc hr_16).mono fun e w h => ⟨h.1, ((hth1 _ _ h.2).unpick k5)⟩)) fun a w hf hc => ?_
                refine stP hf rfl rfl rfl (pPt rfl rfl) fun a hf => ?_
                obtain rfl := Option.some.inj hF
                exact cNil ⟨hf.keep ⟨rfl, rfl, rfl, rfl, rfl, rfl, rfl, rfl, rfl, rfl, rfl, rfl, rfl, rfl, rfl, rfl, rfl, trivial⟩, hc⟩
            intro a w ⟨hf, hc⟩
            refine stP hf rfl rfl rfl (pM rfl) fun a hf => ?_
            obtain ⟨t_2, ht_2, hF⟩ := bnd_some hF
            refine stCut 4 (fun a w => Has 217 a [(2, .slice claims_p claims.length claims_c), (3, .slice shares_p shares.length shares_c), (8, .pointer (some ⟨b_1, 0, none⟩)), (15, .slice p_4 r_1.length c_4), (16, .slice p_5 r_2.length c_5), (17, .slice p_6 r_3.length c_6), (19, .int .i64 r_14.2), (21, .int .i64 r_15.2), (30, .bool r_14.1), (31, .bool r_15.1), (190, .bool r_14.1), (191, .bool r_15.1), (192, .bool (r_14.1 == r_15.1)), (193, .bool (r_14.1 == r_15.1)), (197, .bool ((r_14.1 == r_15.1) && (r_14.2 == r_15.2))), (198, .bool ((r_14.1 == r_15.1) && (r_14.2 == r_15.2))), (202, .bool t_1), (203, .bool t_1), (207, .bool t_2)] ∧ Ctx G (.box b_6 [.int .i64 r_13.2.1.N, .int .i64 r_13.2.1.D] 71 :: .box b_5 [.int .i64 r_13.1.N, .int .i64 r_13.1.D] 71 :: .box b_4 [.int .i64 r_12.2.1.N, .int .i64 r_12.2.1.D] 71 :: .box b_3 [.int .i64 r_12.1.N, .int .i64 r_12.1.D] 71 :: .row p_10 c_10 (r_8.1.map encI_i64) 3 1 :: .row p_4 c_4 (r_1.map encI_i64) 3 1 :: .row p_9 c_9 (r_7.1.map encI_i64) 3 1 :: .row p_8 c_8 (r_5.1.map encI_i64) 3 1 :: .row p_6 c_6 (r_3.map encI_i64) 3 1 :: .row p_7 c_7 (r_4.1.map encI_i64) 3 1 :: .row p_5 c_5 (r_2.map encI_i64) 3 1 :: .box b_2 [.int .i64 x.N, .int .i64 x.D] 71 :: .box b_1 [.int .i64 p_.Least, .int .i64 p_.Part, .slice p__Can_p p_.Can.length p__Can_c] 59 :: Lf) w) ?_ ?_
            · cases hb : t_1
              · rw [hb] at hf
                have hF := condF hb ht_2
                obtain rfl := Option.some.inj hF
                refine stS hf rfl rfl rfl fun a hf => ?_
                refine stS hf rfl rfl rfl fun a hf => ?_
                refine stS hf rfl rfl rfl fun a hf => ?_
                refine stP hf rfl rfl rfl (pPf rfl rfl) fun a hf => ?_
                exact cNil ⟨hf.keep ⟨rfl, rfl, rfl, rfl, rfl, rfl, rfl, rfl, rfl, rfl, rfl, rfl, rfl, rfl, rfl, rfl, rfl, rfl, rfl, trivial⟩, hc⟩
              · rw [hb] at hf
                have hF := condT hb ht_2
                refine stP hf rfl rfl rfl (pM rfl) fun a hf => ?_
                refine stP hf rfl rfl rfl (pM rfl) fun a hf => ?_
                obtain ⟨r_17, hr_17, hF⟩ := bnd_some hF
                refine stE hf hc rfl rfl rfl (eC (v := .bool r_17) (vs := [.slice p_5 r_2.length c_5, .slice shares_p shares.length shares_c]) (caps := []) en_20 rfl rfl rfl rfl (fun w hc => by obtain ⟨G1, hle1, hrd1, hc, hth1⟩ := lend hc k10; exact (kit_Same_int_ok r_2 shares hrd1 (h_shares.mono hle1) hc hr_17).mono fun e w h => ⟨h.1, ((hth1 _ _ h.2).unpick k10)⟩)) fun a w hf hc => ?_
                refine stP hf rfl rfl rfl (pPt rfl rfl) fun a hf => ?_
                obtain rfl := Option.some.inj hF
                exact cNil ⟨hf.keep ⟨rfl, rfl, rfl, rfl, rfl, rfl, rfl, rfl, rfl, rfl, rfl, rfl, rfl, rfl, rfl, rfl, rfl, rfl, rfl, trivial⟩, hc⟩
            intro a w ⟨hf, hc⟩
            refine stP hf rfl rfl rfl (pM rfl) fun a hf => ?_
            obtain ⟨t_3, ht_3, hF⟩ := bnd_some hF
            refine stCut 5 (fun a w => Has 217 a [(2, .slice claims_p claims.length claims_c), (3, .slice shares_p shares.length shares_c), (8, .pointer (some ⟨b_1, 0, none⟩)), (15, .slice p_4 r_1.length c_4), (16, .slice p_5 r_2.length c_5), (17, .slice p_6 r_3.length c_6), (19, .int .i64 r_14.2), (21, .int .i64 r_15.2), (30, .bool r_14.1), (31, .bool r_15.1), (190, .bool r_14.1), (191, .bool r_15.1), (192, .bool (r_14.1 == r_15.1)), (193, .bool (r_14.1 == r_15.1)), (197, .bool ((r_14.1 == r_15.1) && (r_14.2 == r_15.2))), (198, .bool ((r_14.1 == r_15.1) && (r_14.2 == r_15.2))), (202, .bool t_1), (203, .bool t_1), (207, .bool t_2), (208, .bool t_2), (213, .bool t_3)] ∧ Ctx G (.box b_6 [.int .i64 r_13.2.1.N, .int .i64 r_13.2.1.D] 71 :: .box b_5 [.int .i64 r_13.1.N, .int .i64 r_13.1.D] 71 :: .box b_4 [.int .i64 r_12.2.1.N, .int .i64 r_12.2.1.D] 71 :: .box b_3 [.int .i64 r_12.1.N, .int .i64 r_12.1.D] 71 :: .row p_10 c_10 (r_8.1.map encI_i64) 3 1 :: .row p_4 c_4 (r_1.map encI_i64) 3 1 :: .row p_9 c_9 (r_7.1.map encI_i64) 3 1 :: .row p_8 c_8 (r_5.1.map encI_i64) 3 1 :: .row p_6 c_6 (r_3.map encI_i64) 3 1 :: .row p_7 c_7 (r_4.1.map encI_i64) 3 1 :: .row p_5 c_5 (r_2.map encI_i64) 3 1 :: .box b_2 [.int .i64 x.N, .int .i64 x.D] 71 :: .box b_1 [.int .i64 p_.Least, .int .i64 p_.Part, .slice p__Can_p p_.Can.length p__Can_c] 59 :: Lf) w) ?_ ?_
            · cases hb : t_2
              · rw [hb] at hf
                have hF := condF hb ht_3
                obtain rfl := Option.some.inj hF
                refine stS hf rfl rfl rfl fun a hf => ?_
                refine stS hf rfl rfl rfl fun a hf => ?_
                refine stS hf rfl rfl rfl fun a hf => ?_
                refine stS hf rfl rfl rfl fun a hf => ?_
                refine stP hf rfl rfl rfl (pPf rfl rfl) fun a hf => ?_
                exact cNil ⟨hf.keep ⟨rfl, rfl, rfl, rfl, rfl, rfl, rfl, rfl, rfl, rfl, rfl, rfl, rfl, rfl, rfl, rfl, rfl, rfl, rfl, rfl, rfl, trivial⟩, hc⟩
              · rw [hb] at hf
                have hF := condT hb ht_3
                refine stP hf rfl rfl rfl (pM rfl) fun a hf => ?_
                refine stP hf rfl rfl rfl (pFA fa_59_2 rfl) fun a hf => ?_
                refine stE hf hc rfl rfl rfl (eLd1 sc_36 rfl (cell_box m12 rfl)) fun a w hf hc => ?_
                obtain ⟨r_18, hr_18, hF⟩ := bnd_some hF
                refine stE hf hc rfl rfl rfl (eC (v := .bool r_18) (vs := [.slice p_6 r_3.length c_6, .slice p__Can_p p_.Can.length p__Can_c]) (caps := []) en_20 rfl rfl rfl rfl (fun w hc => by obtain ⟨G1, hle1, hrd1, hc, hth1⟩ := lend hc k8; exact (kit_Same_int_ok r_3 p_.Can hrd1 (h_p__Can.mono hle1) hc hr_18).mono fun e w h => ⟨h.1, ((hth1 _ _ h.2).unpick k8)⟩)) fun a w hf hc => ?_
                refine stP hf rfl rfl rfl (pPt rfl rfl) fun a hf => ?_
                obtain rfl := Option.some.inj hF
                exact cNil ⟨hf.keep ⟨rfl, rfl, rfl, rfl, rfl, rfl, rfl, rfl, rfl, rfl, rfl, rfl, rfl, rfl, rfl, rfl, rfl, rfl, rfl, rfl, rfl, trivial⟩, hc⟩
            intro a w ⟨hf, hc⟩
            refine stP hf rfl rfl rfl (pM rfl) fun a hf => ?_
            obtain ⟨t_4, ht_4, hF⟩ := bnd_some hF
            refine stCut 2 (fun a w => Has 217 a [(2, .slice claims_p claims.length claims_c), (3, .slice shares_p shares.length shares_c), (8, .pointer (some ⟨b_1, 0, none⟩)), (15, .slice p_4 r_1.length c_4), (16, .slice p_5 r_2.length c_5), (17, .slice p_6 r_3.length c_6), (19, .int .i64 r_14.2), (21, .int .i64 r_15.2), (30, .bool r_14.1), (31, .bool r_15.1), (190, .bool r_14.1), (191, .bool r_15.1), (192, .bool (r_14.1 == r_15.1)), (193, .bool (r_14.1 == r_15.1)), (197, .bool ((r_14.1 == r_15.1) && (r_14.2 == r_15.2))), (198, .bool ((r_14.1 == r_15.1) && (r_14.2 == r_15.2))), (202, .bool t_1), (203, .bool t_1), (207, .bool t_2), (208, .bool t_2), (213, .bool t_3), (214, .bool t_3), (216, .bool t_4)] ∧ Ctx G (.box b_6 [.int .i64 r_13.2.1.N, .int .i64 r_13.2.1.D] 71 :: .box b_5 [.int .i64 r_13.1.N, .int .i64 r_13.1.D] 71 :: .box b_4 [.int .i64 r_12.2.1.N, .int .i64 r_12.2.1.D] 71 :: .box b_3 [.int .i64 r_12.1.N, .int .i64 r_12.1.D] 71 :: .row p_10 c_10 (r_8.1.map encI_i64) 3 1 :: .row p_4 c_4 (r_1.map encI_i64) 3 1 :: .row p_9 c_9 (r_7.1.map encI_i64) 3 1 :: .row p_8 c_8 (r_5.1.map encI_i64) 3 1 :: .row p_6 c_6 (r_3.map encI_i64) 3 1 :: .row p_7 c_7 (r_4.1.map encI_i64) 3 1 :: .row p_5 c_5 (r_2.map encI_i64) 3 1 :: .box b_2 [.int .i64 x.N, .int .i64 x.D] 71 :: .box b_1 [.int .i64 p_.Least, .int .i64 p_.Part, .slice p__Can_p p_.Can.length p__Can_c] 59 :: Lf) w) ?_ ?_
            · cases hb : t_3
              · rw [hb] at hf
                have hF := condF hb ht_4
                obtain rfl := Option.some.inj hF
                refine stS hf rfl rfl rfl fun a hf => ?_
                refine stP hf rfl rfl rfl (pPf rfl rfl) fun a hf => ?_
                exact cNil ⟨hf.keep ⟨rfl, rfl, rfl, rfl, rfl, rfl, rfl, rfl, rfl, rfl, rfl, rfl, rfl, rfl, rfl, rfl, rfl, rfl, rfl, rfl, rfl, rfl, rfl, trivial⟩, hc⟩
              · rw [hb] at hf
                have hF := condT hb ht_4
                obtain ⟨r_19, hr_19, hF⟩ := bnd_some hF
                refine stE hf hc rfl rfl rfl (eC (v := .bool r_19) (vs := []) (caps := []) en_13 rfl rfl rfl rfl (fun w hc => law09_awake_ok hc hr_19)) fun a w hf hc => ?_
                refine stP hf rfl rfl rfl (pPt rfl rfl) fun a hf => ?_
                obtain rfl := Option.some.inj hF
                exact cNil ⟨hf.keep ⟨rfl, rfl, rfl, rfl, rfl, rfl, rfl, rfl, rfl, rfl, rfl, rfl, rfl, rfl, rfl, rfl, rfl, rfl, rfl, rfl, rfl, rfl, rfl, trivial⟩, hc⟩
            intro a w ⟨hf, hc⟩
            refine stP hf rfl rfl rfl (pA rfl) fun a hf => ?_
            refine cNil ?_
            refine h28 _ _ ?_
            refine wp_ret ?_
            obtain rfl := Option.some.inj hF
            replace hc := hc.drop k12
            replace hc := hc.drop k11
            replace hc := hc.drop k10
            replace hc := hc.drop k9
            replace hc := hc.drop k8
            replace hc := hc.drop k7
            replace hc := hc.drop k6
            replace hc := hc.drop k5
            replace hc := hc.drop k4
            replace hc := hc.drop k3
            replace hc := hc.drop k2
            replace hc := hc.drop k1
            replace hc := hc.drop k0
            exact fnOut1 (by simp) rfl Try.results6 hf hc (show look _ 14 = _ from rfl) ⟨rfl, hc⟩

end Go.Nilo
