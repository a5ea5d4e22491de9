/-
  What functions of the Go text compute, as plain functions, and that they do, part 3 of 3. Conditions: what each theorem names.
-/
import Derived.Test.YtlbmcojegiabpaaLe2
import Derived.Test.YtlbmcojegiabpaaProg
set_option linter.unusedVariables false
set_option maxRecDepth 100000
set_option maxHeartbeats 4000000
namespace Go.Nilo
open Go.Proofs


def share_Divisors_j18 (N : Nat) (x : Int) (next__1 : List share_quotient) (x_3 : Int) (x_4 : Int) : Option (Step ((List share_quotient) × Int × Int × Int) (api_Ratio × api_Ratio × Int)) :=
  some (.cont (next__1, W (x + 1), x_3, x_4))
def share_Divisors_b10 (N : Nat) (claims : List Int) (shares : List Int) (rule : Int) (next_ : List share_quotient) (x : Int) (x_1 : Int) (x_2 : Int) : Option (Step ((List share_quotient) × Int × Int × Int) (api_Ratio × api_Ratio × Int)) :=
  cond (decide (x < ((shares.length : Nat) : Int)))
  (Option.bind (getI shares x) fun e_2 =>
  Option.bind (getI claims x) fun e_3 =>
  Option.bind (share_Rule_day N rule e_3 (W (e_2 + 1))) fun r_4 =>
  Option.bind (room ((next_ ++ [r_4])).length) fun un =>
  Option.bind (getI claims x) fun e_4 =>
  Option.bind (share_Rule_day N rule e_4 e_2) fun r_5 =>
  cond ((decide (0 < r_5.by_)) && (share_quotient_more (⟨x_1, x_2⟩ : share_quotient) r_5))
  (share_Divisors_j18 N x (next_ ++ [r_4]) r_5.claim r_5.by_)
  (share_Divisors_j18 N x (next_ ++ [r_4]) x_1 x_2))
  (some (.brk (next_, x, x_1, x_2)))
def share_Divisors (N : Nat) (claims : List Int) (shares : List Int) (rule : Int) : Option (api_Ratio × api_Ratio × Int) :=
  Option.bind (share_shared N claims shares rule) fun r =>
  cond (r != 0)
  (some ((⟨0, 0⟩ : api_Ratio), (⟨0, 0⟩ : api_Ratio), r))
  (Option.bind (loopO (fun s10 => share_Divisors_b10 N claims shares rule s10.1 s10.2.1 s10.2.2.1 s10.2.2.2) N (([] : List share_quotient), 0, 2000000, 1)) fun x10 =>
  exK x10 (fun s10 => Option.bind (getI s10.1 0) fun e_1 =>
  Option.bind (subO s10.1 1 ((s10.1.length : Nat) : Int)) fun sub =>
  Option.bind (share_greatest N e_1 sub) fun r_1 =>
  cond (share_quotient_more r_1 (⟨s10.2.2.1, s10.2.2.2⟩ : share_quotient))
  (some ((⟨0, 0⟩ : api_Ratio), (⟨0, 0⟩ : api_Ratio), 7))
  (Option.bind (share_quotient_ratio N r_1) fun r_2 =>
  Option.bind (share_quotient_ratio N (⟨s10.2.2.1, s10.2.2.2⟩ : share_quotient)) fun r_3 =>
  some (r_2, r_3, 0))) some)
theorem share_Divisors_ok {N : Nat} {G : Pers} {Lf : List Ent} {w : World} (claims : List Int) (shares : List Int) (rule : Int) {claims_p : Option Addr} {claims_c : Nat} {shares_p : Option Addr} {shares_c : Nat} (h_claims : Rd G 1 claims_p claims_c (claims.map encI_i64)) (h_shares : Rd G 1 shares_p shares_c (shares.map encI_i64)) (hc : Ctx G (Lf) w) {res : api_Ratio × api_Ratio × Int} (hF : share_Divisors N claims shares rule = some res) : Calls Try.prog 39 #[.slice claims_p claims.length claims_c, .slice shares_p shares.length shares_c, .int .i64 rule] w (fun e w => e = .returned (.tuple #[.agg #[.int .i64 res.1.N, .int .i64 res.1.D], .agg #[.int .i64 res.2.1.N, .int .i64 res.2.1.D], .int .i64 res.2.2]) ∧ Ctx G (Lf) w) := by
  unfold share_Divisors at hF
  refine fnIn (args := [.slice claims_p claims.length claims_c, .slice shares_p shares.length shares_c, .int .i64 rule]) Try.func39 rfl Try.ntmps39 rfl fun a hf => ?_
  refine wp_seq_k fun K1 h1 => ?_
  refine cReg ?_
  refine stAl (cs := [.int .i64 0, .int .i64 0]) hf hc rfl rfl zr_71 rfl fun b_1 a w hf hc => ?_
  refine stAl (cs := [.int .i64 0, .int .i64 0]) hf hc rfl rfl zr_71 rfl fun b_2 a w hf hc => ?_
  refine stP hf rfl rfl rfl (pA rfl) fun a hf => ?_
  refine cNil ?_
  refine h1 _ _ ?_
  refine wp_seq_k fun K2 h2 => ?_
  refine wp_seq_k fun K3 h3 => ?_
  refine cReg ?_
  refine stP hf rfl rfl rfl (pM rfl) fun a hf => ?_
  refine stP hf rfl rfl rfl (pM rfl) fun a hf => ?_
  refine stP hf rfl rfl rfl (pM rfl) fun a hf => ?_
  obtain ⟨r, hr, hF⟩ := bnd_some hF
  refine stE hf hc rfl rfl rfl (eC (v := .int .i64 r) (vs := [.slice claims_p claims.length claims_c, .slice shares_p shares.length shares_c, .int .i64 rule]) (caps := []) en_88 rfl rfl rfl rfl (fun w hc => share_shared_ok claims shares rule h_claims h_shares hc hr)) fun a w hf hc => ?_
  refine stP hf rfl rfl rfl (pA rfl) fun a hf => ?_
  refine cNil ?_
  refine h3 _ _ ?_
  refine wp_seq_k fun K4 h4 => ?_
  refine cReg ?_
  refine stP hf rfl rfl rfl (pM rfl) fun a hf => ?_
  refine stP hf rfl rfl rfl (pNe rfl rfl) fun a hf => ?_
  refine cNil ?_
  refine h4 _ _ ?_
  refine cCond (b := (r != 0)) hf rfl (fun hb => ?_) (fun hb => ?_)
  · replace hF := condT hb hF
    clear hb
    refine wp_seq_k fun K5 h5 => ?_
    refine cReg ?_
    refine stP hf rfl rfl rfl (pBuildS (cells := [.int .i64 0, .int .i64 0]) bt_71 rfl rfl) fun a hf => ?_
    refine stP hf rfl rfl rfl (pBuildS (cells := [.int .i64 0, .int .i64 0]) bt_71 rfl rfl) fun a hf => ?_
    refine stP hf rfl rfl rfl (pM rfl) fun a hf => ?_
    refine stSt (vs := [.int .i64 0, .int .i64 0]) hf hc rfl rfl rfl rfl sz_71 rfl rfl u1 fun w hc => ?_
    refine stSt (vs := [.int .i64 0, .int .i64 0]) hf hc rfl rfl rfl rfl sz_71 rfl rfl u0 fun w hc => ?_
    refine stP hf rfl rfl rfl (pA rfl) fun a hf => ?_
    refine cNil ?_
    refine h5 _ _ ?_
    refine wp_ret ?_
    refine xThenR ?_
    obtain rfl := Option.some.inj hF
    replace hc := hc.pick k0
    replace hc := hc.pick k1
    exact fnOut3 (by simp) rfl Try.results39 hf hc (rv_cellN (vs := [.int .i64 0, .int .i64 0]) ag_71 rfl rfl (cells_box (n := 2) m0 rfl)) (rv_cellN (vs := [.int .i64 0, .int .i64 0]) ag_71 rfl rfl (cells_box (n := 2) m1 rfl)) (show look _ 8 = _ from rfl) ⟨rfl, ((hc.drop k1).drop k0)⟩
  · replace hF := condF hb hF
    clear hb
    refine wp_skip ?_
    refine h2 _ _ ?_
    refine wp_seq_k fun K6 h6 => ?_
    refine cReg ?_
    refine stP hf rfl rfl rfl (pA rfl) fun a hf => ?_
    refine cNil ?_
    refine h6 _ _ ?_
    refine wp_seq_k fun K7 h7 => ?_
    refine cReg ?_
    refine stP hf rfl rfl rfl (pBuildS (cells := [.int .i64 2000000, .int .i64 1]) bt_165 rfl rfl) fun a hf => ?_
    refine stAl (cs := [.int .i64 0, .int .i64 0]) hf hc rfl rfl zr_165 rfl fun b_3 a w hf hc => ?_
    refine stSt (vs := [.int .i64 2000000, .int .i64 1]) hf hc rfl rfl rfl rfl sz_165 rfl rfl u0 fun w hc => ?_
    refine cNil ?_
    refine h7 _ _ ?_
    refine wp_seq_k fun K8 h8 => ?_
    refine wp_seq_k fun K9 h9 => ?_
    refine cReg ?_
    refine stP hf rfl rfl rfl (pM rfl) fun a hf => ?_
    refine stP hf rfl rfl rfl (pLenS Try.underlying36 rfl) fun a hf => ?_
    refine stP hf rfl rfl rfl (pM rfl) fun a hf => ?_
    refine cNil ?_
    refine h9 _ _ ?_
    refine wp_block ?_
    obtain ⟨x10, hx10, hF⟩ := bnd_some hF
    let S10 : ((List share_quotient) × Int × Int × Int) → Act → World → Prop := (fun (zz : (List share_quotient) × Int × Int × Int) a w => ∃ (p_1 : Option Addr) (c_1 : Nat), Has 76 a [(0, .slice claims_p claims.length claims_c), (2, .int .i64 rule), (6, .pointer (some ⟨b_1, 0, none⟩)), (7, .pointer (some ⟨b_2, 0, none⟩)), (10, .slice p_1 zz.1.length c_1), (11, .pointer (some ⟨b_3, 0, none⟩)), (26, .slice shares_p shares.length shares_c), (27, .int .i64 ((shares.length : Nat) : Int)), (28, .int .i64 zz.2.1)] ∧ Ctx G (.row p_1 c_1 (zz.1.map enc_share_quotient) 165 2 :: .box b_3 [.int .i64 zz.2.2.1, .int .i64 zz.2.2.2] 165 :: .box b_2 [.int .i64 0, .int .i64 0] 71 :: .box b_1 [.int .i64 0, .int .i64 0] 71 :: Lf) w)
    have hr10 : ∀ (zz : (List share_quotient) × Int × Int × Int) a w, x10 = .go zz → S10 zz a w → K8 a w := by
      rintro ⟨next_, x, x_1, x_2⟩ a w rfl ⟨p_1, c_1, hf, hc⟩
      replace hF : _ = some res := hF
      refine h8 _ _ ?_
      refine wp_seq_k fun K11 h11 => ?_
      obtain ⟨e_1, he_1, hF⟩ := bnd_some hF
      obtain ⟨g, rfl, qa, qr⟩ := row_atm hc m0 he_1
      have qc := row_cap hc m0
      obtain ⟨sub, hsub, hF⟩ := bnd_some hF
      obtain ⟨r_1, hr_1, hF⟩ := bnd_some hF
      replace hc := hc.nilRow 0 0
      refine regionE (fun θ => [⟨none, none, 6, .pointer (some ⟨b_1, 0, none⟩)⟩, ⟨none, none, 7, .pointer (some ⟨b_2, 0, none⟩)⟩, ⟨none, none, 10, .slice (some ⟨g, 0, none⟩) next_.length c_1⟩, ⟨none, none, 11, .pointer (some ⟨b_3, 0, none⟩)⟩, ⟨some 0, none, 61, .slice (some ⟨g, 0, none⟩) next_.length c_1⟩, ⟨some 1, none, 62, .pointer (some ⟨g, (0 : Int).toNat * 2, none⟩)⟩, ⟨some 2, none, 63, .agg #[.int .i64 e_1.claim, .int .i64 e_1.by_]⟩, ⟨some 3, none, 64, .slice (some ⟨g, 0, none⟩) next_.length c_1⟩, ⟨some 4, none, 65, .slice (subP (some ⟨g, 0, none⟩) c_1 (1 : Int).toNat 2) sub.length (c_1 - (1 : Int).toNat)⟩, ⟨some 5, none, 66, .agg #[.int .i64 r_1.claim, .int .i64 r_1.by_]⟩, ⟨some 6, none, 15, .pointer (some ⟨(θ 48).b, 0, none⟩)⟩]) (fun E θ => (bif E 7 then .box (θ 48).b [.int .i64 r_1.claim, .int .i64 r_1.by_] 165 else bif E 6 then .box (θ 48).b [.int .i64 0, .int .i64 0] 165 else .row none 0 [] 0 0) :: .row (some ⟨g, 0, none⟩) c_1 (next_.map enc_share_quotient) 165 2 :: .box b_3 [.int .i64 x_1, .int .i64 x_2] 165 :: .box b_2 [.int .i64 0, .int .i64 0] 71 :: .box b_1 [.int .i64 0, .int .i64 0] 71 :: Lf) [(7, 6)] (fun a w => ∃ (b_5 : Nat), Has 76 a [(6, .pointer (some ⟨b_1, 0, none⟩)), (7, .pointer (some ⟨b_2, 0, none⟩)), (11, .pointer (some ⟨b_3, 0, none⟩)), (15, .pointer (some ⟨b_5, 0, none⟩))] ∧ Ctx G (.box b_5 [.int .i64 r_1.claim, .int .i64 r_1.by_] 165 :: .row (some ⟨g, 0, none⟩) c_1 (next_.map enc_share_quotient) 165 2 :: .box b_3 [.int .i64 x_1, .int .i64 x_2] 165 :: .box b_2 [.int .i64 0, .int .i64 0] 71 :: .box b_1 [.int .i64 0, .int .i64 0] 71 :: Lf) w) follows_mx (by kernel_rfl) (by kernel_rfl) (HasE.of hf ⟨rfl, rfl, rfl, rfl, trivial, trivial, trivial, trivial, trivial, trivial, trivial, trivial⟩) hc ⟨?_, ?_, ?_, ?_, ?_, ?_, ?_, ?_, trivial⟩ ?_ ?_
      · intro E θ a w hD hi hp he hc
        have hf := he.h0
        replace hf := hf.more he 2 rfl onT
        refine stP hf rfl rfl rfl (pM rfl) fun a hf => ?_
        refine cNil ?_
        refine xThenN ?_
        intro ds u hau
        refine ⟨θ, he.put0 hi hau hf rfl 4 rfl rfl, ?_⟩
        exact hc
      · intro E θ a w hD hi hp he hc
        have e0 := hp.of (k := 0) rfl
        have hf := he.h0
        replace hf := hf.more he 4 rfl (onP e0)
        refine stP hf rfl rfl rfl (pIA Try.underlying171 sz_165 rfl rfl qa) fun a hf => ?_
        refine cNil ?_
        refine xThenN ?_
        intro ds u hau
        refine ⟨θ, he.put0 hi hau hf rfl 5 rfl rfl, ?_⟩
        exact hc
      · intro E θ a w hD hi hp he hc
        have e1 := hp.of (k := 1) rfl
        have hf := he.h0
        replace hf := hf.more he 5 rfl (onP e1)
        refine stE hf hc rfl rfl rfl (eLdN (vs := [.int .i64 e_1.claim, .int .i64 e_1.by_]) ag_165 rfl rfl (cells_rw (sz := 2) (i := (0 : Int).toNat) m1 qr (n := 2) (o' := 0) rfl)) fun a w hf hc => ?_
        refine cNil ?_
        refine xThenN ?_
        intro ds u hau
        refine ⟨θ, he.put0 hi hau hf rfl 6 rfl rfl, ?_⟩
        exact hc
      · intro E θ a w hD hi hp he hc
        have hf := he.h0
        replace hf := hf.more he 2 rfl onT
        refine stP hf rfl rfl rfl (pM rfl) fun a hf => ?_
        refine cNil ?_
        refine xThenN ?_
        intro ds u hau
        refine ⟨θ, he.put0 hi hau hf rfl 7 rfl rfl, ?_⟩
        exact hc
      · intro E θ a w hD hi hp he hc
        have e3 := hp.of (k := 3) rfl
        have hf := he.h0
        replace hf := hf.more he 7 rfl (onP e3)
        refine stP hf rfl rfl rfl (pSl Try.underlying171 sz_165 rfl rfl qc rfl rfl hsub) fun a hf => ?_
        refine cNil ?_
        refine xThenN ?_
        intro ds u hau
        refine ⟨θ, he.put0 hi hau hf rfl 8 rfl rfl, ?_⟩
        exact hc
      · intro E θ a w hD hi hp he hc
        have e2 := hp.of (k := 2) rfl
        have e4 := hp.of (k := 4) rfl
        have hf := he.h0
        replace hf := hf.more he 6 rfl (onP e2)
        replace hf := hf.more he 8 rfl (onP e4)
        refine stE hf hc rfl rfl rfl (eC (v := .agg #[.int .i64 r_1.claim, .int .i64 r_1.by_]) (vs := [.agg #[.int .i64 e_1.claim, .int .i64 e_1.by_], .slice (subP (some ⟨g, 0, none⟩) c_1 (1 : Int).toNat 2) sub.length (c_1 - (1 : Int).toNat)]) (caps := []) en_90 rfl rfl rfl rfl (fun w hc => by obtain ⟨G1, hle1, hrd1, hc, hth1⟩ := lend hc k1; exact (share_greatest_ok e_1 sub (Rd.sub hrd1 hsub) hc hr_1).mono fun e w h => ⟨h.1, ((hth1 _ _ h.2).unpick k1)⟩)) fun a w hf hc => ?_
        refine cNil ?_
        refine xThenN ?_
        intro ds u hau
        refine ⟨θ, he.put0 hi hau hf rfl 9 rfl rfl, ?_⟩
        exact hc
      · intro E θ a w hD hi hp he hc
        have e7 := hD.f 0 rfl hi
        try dsimp only at hc
        rw [hi, e7] at hc
        have hf := he.h0
        refine stAl (cs := [.int .i64 0, .int .i64 0]) hf hc rfl rfl zr_165 rfl fun b_4 a w hf hc => ?_
        refine cNil ?_
        refine xThenN ?_
        intro ds u hau
        replace hc := hc.drop k1
        refine ⟨(setT θ 48 ⟨b_4, none, 0⟩), he.put hi hau hf rfl [] trivial ⟨qq, qq, qq, qq, qq, qq, qq, qq, qq, qq, qq, trivial⟩, ?_⟩
        try dsimp only
        rw [updE_self E 6, updE_fls 6 e7 rfl]
        exact hc
      · intro E θ a w hD hi hp he hc
        have e5 := hp.of (k := 5) rfl
        have e6 := hp.of (k := 6) rfl
        try dsimp only at hc
        rw [e6, hi] at hc
        have hf := he.h0
        replace hf := hf.more he 9 rfl (onP e5)
        replace hf := hf.more he 10 rfl (onP e6)
        refine stSt (vs := [.int .i64 r_1.claim, .int .i64 r_1.by_]) hf hc rfl rfl rfl rfl sz_165 rfl rfl u0 fun w hc => ?_
        refine cNil ?_
        refine xThenN ?_
        intro ds u hau
        refine ⟨θ, he.stay0 hi hau hf rfl, ?_⟩
        try dsimp only
        rw [updE_tru 7 e6, updE_self E 7]
        exact hc
      · intro E θ a w hall he hc
        have hf := he.h0
        have e6 := hall 6 rfl
        have e7 := hall 7 rfl
        replace hf := hf.more he 10 rfl (onP e6)
        replace hf := hf.more he 3 rfl (onT)
        replace hf := hf.more he 1 rfl (onT)
        replace hf := hf.more he 0 rfl (onT)
        try dsimp only at hc
        rw [e6, e7] at hc
        exact ⟨(θ 48).b, hf.keep ⟨rfl, rfl, rfl, rfl, trivial⟩, hc⟩
      rintro a w ⟨b_5, hf, hc⟩
      refine h11 _ _ ?_
      refine wp_seq_k fun K12 h12 => ?_
      refine wp_seq_k fun K13 h13 => ?_
      refine cReg ?_
      refine stE hf hc rfl rfl rfl (eLdN (vs := [.int .i64 r_1.claim, .int .i64 r_1.by_]) ag_165 rfl rfl (cells_box (n := 2) m0 rfl)) fun a w hf hc => ?_
      refine stE hf hc rfl rfl rfl (eLdN (vs := [.int .i64 x_1, .int .i64 x_2]) ag_165 rfl rfl (cells_box (n := 2) m2 rfl)) fun a w hf hc => ?_
      refine stE hf hc rfl rfl rfl (eC (v := .bool (share_quotient_more r_1 (⟨x_1, x_2⟩ : share_quotient))) (vs := [.agg #[.int .i64 r_1.claim, .int .i64 r_1.by_], .agg #[.int .i64 x_1, .int .i64 x_2]]) (caps := []) en_84 rfl rfl rfl rfl (fun w hc => share_quotient_more_ok r_1 (⟨x_1, x_2⟩ : share_quotient) hc rfl)) fun a w hf hc => ?_
      refine cNil ?_
      refine h13 _ _ ?_
      refine cCond (b := (share_quotient_more r_1 (⟨x_1, x_2⟩ : share_quotient))) hf rfl (fun hb => ?_) (fun hb => ?_)
      · replace hF := condT hb hF
        clear hb
        refine wp_seq_k fun K14 h14 => ?_
        refine cReg ?_
        refine stP hf rfl rfl rfl (pBuildS (cells := [.int .i64 0, .int .i64 0]) bt_71 rfl rfl) fun a hf => ?_
        refine stP hf rfl rfl rfl (pBuildS (cells := [.int .i64 0, .int .i64 0]) bt_71 rfl rfl) fun a hf => ?_
        refine stSt (vs := [.int .i64 0, .int .i64 0]) hf hc rfl rfl rfl rfl sz_71 rfl rfl u4 fun w hc => ?_
        refine stSt (vs := [.int .i64 0, .int .i64 0]) hf hc rfl rfl rfl rfl sz_71 rfl rfl u3 fun w hc => ?_
        refine stP hf rfl rfl rfl (pA rfl) fun a hf => ?_
        refine cNil ?_
        refine h14 _ _ ?_
        refine wp_ret ?_
        refine xThenR ?_
        obtain rfl := Option.some.inj hF
        replace hc := hc.drop k2
        replace hc := hc.drop k1
        replace hc := hc.drop k0
        replace hc := hc.pick k0
        replace hc := hc.pick k1
        exact fnOut3 (by simp) rfl Try.results39 hf hc (rv_cellN (vs := [.int .i64 0, .int .i64 0]) ag_71 rfl rfl (cells_box (n := 2) m0 rfl)) (rv_cellN (vs := [.int .i64 0, .int .i64 0]) ag_71 rfl rfl (cells_box (n := 2) m1 rfl)) (show look _ 8 = _ from rfl) ⟨rfl, ((hc.drop k1).drop k0)⟩
      · replace hF := condF hb hF
        clear hb
        refine wp_skip ?_
        refine h12 _ _ ?_
        refine wp_seq_k fun K15 h15 => ?_
        obtain ⟨r_2, hr_2, hF⟩ := bnd_some hF
        obtain ⟨r_3, hr_3, hF⟩ := bnd_some hF
        refine regionE (fun θ => [⟨none, none, 6, .pointer (some ⟨b_1, 0, none⟩)⟩, ⟨none, none, 7, .pointer (some ⟨b_2, 0, none⟩)⟩, ⟨none, none, 11, .pointer (some ⟨b_3, 0, none⟩)⟩, ⟨none, none, 15, .pointer (some ⟨b_5, 0, none⟩)⟩, ⟨some 0, none, 72, .agg #[.int .i64 r_1.claim, .int .i64 r_1.by_]⟩, ⟨some 1, none, 73, .agg #[.int .i64 r_2.N, .int .i64 r_2.D]⟩, ⟨some 2, none, 74, .agg #[.int .i64 x_1, .int .i64 x_2]⟩, ⟨some 3, none, 75, .agg #[.int .i64 r_3.N, .int .i64 r_3.D]⟩, ⟨some 6, none, 8, .int .i64 0⟩]) (fun E θ => .box b_5 [.int .i64 r_1.claim, .int .i64 r_1.by_] 165 :: .row (some ⟨g, 0, none⟩) c_1 (next_.map enc_share_quotient) 165 2 :: .box b_3 [.int .i64 x_1, .int .i64 x_2] 165 :: (bif E 5 then .box b_2 [.int .i64 r_3.N, .int .i64 r_3.D] 71 else .box b_2 [.int .i64 0, .int .i64 0] 71) :: (bif E 4 then .box b_1 [.int .i64 r_2.N, .int .i64 r_2.D] 71 else .box b_1 [.int .i64 0, .int .i64 0] 71) :: Lf) [] (fun a w => Has 76 a [(6, .pointer (some ⟨b_1, 0, none⟩)), (7, .pointer (some ⟨b_2, 0, none⟩)), (8, .int .i64 0)] ∧ Ctx G (.box b_5 [.int .i64 r_1.claim, .int .i64 r_1.by_] 165 :: .row (some ⟨g, 0, none⟩) c_1 (next_.map enc_share_quotient) 165 2 :: .box b_3 [.int .i64 x_1, .int .i64 x_2] 165 :: .box b_2 [.int .i64 r_3.N, .int .i64 r_3.D] 71 :: .box b_1 [.int .i64 r_2.N, .int .i64 r_2.D] 71 :: Lf) w) follows_mx (by kernel_rfl) (by kernel_rfl) (HasE.of hf ⟨rfl, rfl, rfl, rfl, trivial, trivial, trivial, trivial, trivial, trivial⟩) hc ⟨?_, ?_, ?_, ?_, ?_, ?_, ?_, trivial⟩ ?_ ?_
        · intro E θ a w hD hi hp he hc
          have hf := he.h0
          replace hf := hf.more he 3 rfl onT
          refine stE hf hc rfl rfl rfl (eLdN (vs := [.int .i64 r_1.claim, .int .i64 r_1.by_]) ag_165 rfl rfl (cells_box (n := 2) m0 rfl)) fun a w hf hc => ?_
          refine cNil ?_
          refine xThenN ?_
          intro ds u hau
          refine ⟨θ, he.put0 hi hau hf rfl 4 rfl rfl, ?_⟩
          exact hc
        · intro E θ a w hD hi hp he hc
          have e0 := hp.of (k := 0) rfl
          have hf := he.h0
          replace hf := hf.more he 4 rfl (onP e0)
          refine stE hf hc rfl rfl rfl (eC (v := .agg #[.int .i64 r_2.N, .int .i64 r_2.D]) (vs := [.agg #[.int .i64 r_1.claim, .int .i64 r_1.by_]]) (caps := []) en_91 rfl rfl rfl rfl (fun w hc => share_quotient_ratio_ok r_1 hc hr_2)) fun a w hf hc => ?_
          refine cNil ?_
          refine xThenN ?_
          intro ds u hau
          refine ⟨θ, he.put0 hi hau hf rfl 5 rfl rfl, ?_⟩
          exact hc
        · intro E θ a w hD hi hp he hc
          have hf := he.h0
          replace hf := hf.more he 2 rfl onT
          refine stE hf hc rfl rfl rfl (eLdN (vs := [.int .i64 x_1, .int .i64 x_2]) ag_165 rfl rfl (cells_box (n := 2) m2 rfl)) fun a w hf hc => ?_
          refine cNil ?_
          refine xThenN ?_
          intro ds u hau
          refine ⟨θ, he.put0 hi hau hf rfl 6 rfl rfl, ?_⟩
          exact hc
        · intro E θ a w hD hi hp he hc
          have e2 := hp.of (k := 2) rfl
          have hf := he.h0
          replace hf := hf.more he 6 rfl (onP e2)
          refine stE hf hc rfl rfl rfl (eC (v := .agg #[.int .i64 r_3.N, .int .i64 r_3.D]) (vs := [.agg #[.int .i64 x_1, .int .i64 x_2]]) (caps := []) en_91 rfl rfl rfl rfl (fun w hc => share_quotient_ratio_ok (⟨x_1, x_2⟩ : share_quotient) hc hr_3)) fun a w hf hc => ?_
          refine cNil ?_
          refine xThenN ?_
          intro ds u hau
          refine ⟨θ, he.put0 hi hau hf rfl 7 rfl rfl, ?_⟩
          exact hc
        · intro E θ a w hD hi hp he hc
          have e1 := hp.of (k := 1) rfl
          try dsimp only at hc
          rw [hi] at hc
          have hf := he.h0
          replace hf := hf.more he 0 rfl onT
          replace hf := hf.more he 5 rfl (onP e1)
          refine stSt (vs := [.int .i64 r_2.N, .int .i64 r_2.D]) hf hc rfl rfl rfl rfl sz_71 rfl rfl u4 fun w hc => ?_
          refine cNil ?_
          refine xThenN ?_
          intro ds u hau
          refine ⟨θ, he.stay0 hi hau hf rfl, ?_⟩
          try dsimp only
          rw [updE_self E 4]
          exact hc
        · intro E θ a w hD hi hp he hc
          have e3 := hp.of (k := 3) rfl
          try dsimp only at hc
          rw [hi] at hc
          have hf := he.h0
          replace hf := hf.more he 1 rfl onT
          replace hf := hf.more he 7 rfl (onP e3)
          refine stSt (vs := [.int .i64 r_3.N, .int .i64 r_3.D]) hf hc rfl rfl rfl rfl sz_71 rfl rfl u3 fun w hc => ?_
          refine cNil ?_
          refine xThenN ?_
          intro ds u hau
          refine ⟨θ, he.stay0 hi hau hf rfl, ?_⟩
          try dsimp only
          rw [updE_self E 5]
          exact hc
        · intro E θ a w hD hi hp he hc
          have hf := he.h0
          refine stP hf rfl rfl rfl (pA rfl) fun a hf => ?_
          refine cNil ?_
          refine xThenN ?_
          intro ds u hau
          refine ⟨θ, he.put0 hi hau hf rfl 8 rfl rfl, ?_⟩
          exact hc
        · intro E θ a w hall he hc
          have hf := he.h0
          have e4 := hall 4 rfl
          have e5 := hall 5 rfl
          have e6 := hall 6 rfl
          replace hf := hf.more he 8 rfl (onP e6)
          replace hf := hf.more he 1 rfl (onT)
          replace hf := hf.more he 0 rfl (onT)
          try dsimp only at hc
          rw [e4, e5] at hc
          exact ⟨hf.keep ⟨rfl, rfl, rfl, trivial⟩, hc⟩
        rintro a w ⟨hf, hc⟩
        refine h15 _ _ ?_
        refine wp_ret ?_
        obtain rfl := Option.some.inj hF
        replace hc := hc.drop k2
        replace hc := hc.drop k1
        replace hc := hc.drop k0
        replace hc := hc.pick k0
        replace hc := hc.pick k1
        exact fnOut3 (by simp) rfl Try.results39 hf hc (rv_cellN (vs := [.int .i64 r_2.N, .int .i64 r_2.D]) ag_71 rfl rfl (cells_box (n := 2) m0 rfl)) (rv_cellN (vs := [.int .i64 r_3.N, .int .i64 r_3.D]) ag_71 rfl rfl (cells_box (n := 2) m1 rfl)) (show look _ 8 = _ from rfl) ⟨rfl, ((hc.drop k1).drop k0)⟩
    have ho10 : ∀ r, x10 = .out r → r = res := by
      rintro r rfl
      exact Option.some.inj hF
    replace hc := hc.nilRow 165 2
    refine cLoop N (loopW (S := S10) (x := x10) ?_ N (([] : List share_quotient), 0, 2000000, 1) _ _ ⟨none, 0, hf.keep ⟨rfl, rfl, rfl, rfl, rfl, rfl, rfl, rfl, rfl, trivial⟩, hc⟩ hx10)
    clear hF hf hc
    rintro ⟨next_, x, x_1, x_2⟩ st10 a w KB10 ⟨p_1, c_1, hf, hc⟩ hF hfin10 hK10
    unfold share_Divisors_b10 at hF
    refine wp_seq_k fun K16 h16 => ?_
    refine cReg ?_
    refine stP hf rfl rfl rfl (pLt rfl rfl) fun a hf => ?_
    refine cNil ?_
    refine h16 _ _ ?_
    refine wp_seq_k fun K17 h17 => ?_
    refine cCond (b := (decide (x < ((shares.length : Nat) : Int)))) hf rfl (fun hb => ?_) (fun hb => ?_)
    · replace hF := condT hb hF
      clear hb
      refine wp_skip ?_
      refine h17 _ _ ?_
      refine wp_seq_k fun K18 h18 => ?_
      have hj18 : ∀ (next__1 : List share_quotient) (x_3 : Int) (x_4 : Int) (p_2 : Option Addr) (c_2 : Nat) a w, Has 76 a [(0, .slice claims_p claims.length claims_c), (2, .int .i64 rule), (6, .pointer (some ⟨b_1, 0, none⟩)), (7, .pointer (some ⟨b_2, 0, none⟩)), (10, .slice p_2 next__1.length c_2), (11, .pointer (some ⟨b_3, 0, none⟩)), (26, .slice shares_p shares.length shares_c), (27, .int .i64 ((shares.length : Nat) : Int)), (28, .int .i64 x)] → Ctx G (.row p_2 c_2 (next__1.map enc_share_quotient) 165 2 :: .box b_3 [.int .i64 x_3, .int .i64 x_4] 165 :: .box b_2 [.int .i64 0, .int .i64 0] 71 :: .box b_1 [.int .i64 0, .int .i64 0] 71 :: Lf) w → share_Divisors_j18 N x next__1 x_3 x_4 = some st10 → K18 a w := by
        intro next__1 x_3 x_4 p_2 c_2 a w hf hc hF
        unfold share_Divisors_j18 at hF
        refine h18 _ _ ?_
        refine cReg ?_
        refine stP hf rfl rfl rfl (pAdd rfl rfl) fun a hf => ?_
        refine stP hf rfl rfl rfl (pM rfl) fun a hf => ?_
        refine cNil ?_
        exact hK10 (next__1, W (x + 1), x_3, x_4) _ _ (Option.some.inj hF).symm ⟨p_2, c_2, hf.keep ⟨rfl, rfl, rfl, rfl, rfl, rfl, rfl, rfl, rfl, trivial⟩, hc⟩
      refine wp_block ?_
      refine wp_seq_k fun K19 h19 => ?_
      refine cReg ?_
      refine stP hf rfl rfl rfl (pM rfl) fun a hf => ?_
      obtain ⟨e_2, he_2, hF⟩ := bnd_some hF
      obtain ⟨b_6, o, qa_1, qp⟩ := h_shares.atm he_2
      refine stP hf rfl rfl rfl (pIA Try.underlying36 sz_3 rfl rfl qa_1) fun a hf => ?_
      refine stE hf hc rfl rfl rfl (eLd1 sc_3 rfl (cell_pc (j := 0) qp rfl)) fun a w hf hc => ?_
      refine stP hf rfl rfl rfl (pA rfl) fun a hf => ?_
      refine stP hf rfl rfl rfl (pA rfl) fun a hf => ?_
      refine cNil ?_
      refine h19 _ _ ?_
      refine wp_seq_k fun K20 h20 => ?_
      refine cReg ?_
      refine stP hf rfl rfl rfl (pM rfl) fun a hf => ?_
      refine stP hf rfl rfl rfl (pM rfl) fun a hf => ?_
      refine stP hf rfl rfl rfl (pM rfl) fun a hf => ?_
      refine stP hf rfl rfl rfl (pM rfl) fun a hf => ?_
      obtain ⟨e_3, he_3, hF⟩ := bnd_some hF
      obtain ⟨b_7, o_1, qa_2, qp_1⟩ := h_claims.atm he_3
      refine stP hf rfl rfl rfl (pIA Try.underlying36 sz_3 rfl rfl qa_2) fun a hf => ?_
      refine stE hf hc rfl rfl rfl (eLd1 sc_3 rfl (cell_pc (j := 0) qp_1 rfl)) fun a w hf hc => ?_
      refine stP hf rfl rfl rfl (pM rfl) fun a hf => ?_
      refine stP hf rfl rfl rfl (pAdd rfl rfl) fun a hf => ?_
      obtain ⟨r_4, hr_4, hF⟩ := bnd_some hF
      refine stE hf hc rfl rfl rfl (eC (v := .agg #[.int .i64 r_4.claim, .int .i64 r_4.by_]) (vs := [.int .i64 rule, .int .i64 e_3, .int .i64 (W (e_2 + 1))]) (caps := []) en_83 rfl rfl rfl rfl (fun w hc => share_Rule_day_ok rule e_3 (W (e_2 + 1)) hc hr_4)) fun a w hf hc => ?_
      refine stBS (rows := ([r_4] : List share_quotient).map enc_share_quotient) (vs := [(0, .agg #[.int .i64 r_4.claim, .int .i64 r_4.by_])]) hf hc rfl rfl sl_171 rfl ⟨rfl, rfl, rfl, trivial⟩ rfl rfl fun b_8 a w hf hc => ?_
      obtain ⟨un, hun, hF⟩ := bnd_some hF
      refine stApm (xs := next_) (ys := ([r_4] : List share_quotient)) hf hc rfl rfl sl_171 rfl rfl rfl rfl rfl one_enc_share_quotient (src_row hc m0) (fun _ _ => u1) (by simpa using room_spec hun) fun p_3 c_3 a w hf hc => ?_
      refine stP hf rfl rfl rfl (pA rfl) fun a hf => ?_
      refine cNil ?_
      refine h20 _ _ ?_
      refine wp_seq_k fun K21 h21 => ?_
      refine cReg ?_
      refine stP hf rfl rfl rfl (pM rfl) fun a hf => ?_
      refine stP hf rfl rfl rfl (pM rfl) fun a hf => ?_
      refine stP hf rfl rfl rfl (pM rfl) fun a hf => ?_
      obtain ⟨e_4, he_4, hF⟩ := bnd_some hF
      obtain ⟨b_9, o_2, qa_3, qp_2⟩ := h_claims.atm he_4
      refine stP hf rfl rfl rfl (pIA Try.underlying36 sz_3 rfl rfl qa_3) fun a hf => ?_
      refine stE hf hc rfl rfl rfl (eLd1 sc_3 rfl (cell_pc (j := 0) qp_2 rfl)) fun a w hf hc => ?_
      refine stP hf rfl rfl rfl (pM rfl) fun a hf => ?_
      obtain ⟨r_5, hr_5, hF⟩ := bnd_some hF
      refine stE hf hc rfl rfl rfl (eC (v := .agg #[.int .i64 r_5.claim, .int .i64 r_5.by_]) (vs := [.int .i64 rule, .int .i64 e_4, .int .i64 e_2]) (caps := []) en_83 rfl rfl rfl rfl (fun w hc => share_Rule_day_ok rule e_4 e_2 hc hr_5)) fun a w hf hc => ?_
      refine stAl (cs := [.int .i64 0, .int .i64 0]) hf hc rfl rfl zr_165 rfl fun b_10 a w hf hc => ?_
      refine stSt (vs := [.int .i64 r_5.claim, .int .i64 r_5.by_]) hf hc rfl rfl rfl rfl sz_165 rfl rfl u0 fun w hc => ?_
      refine cNil ?_
      refine h21 _ _ ?_
      refine wp_seq_k fun K22 h22 => ?_
      refine cReg ?_
      refine stP hf rfl rfl rfl (pFA fa_165_1 rfl) fun a hf => ?_
      refine stE hf hc rfl rfl rfl (eLd1 sc_3 rfl (cell_box m0 rfl)) fun a w hf hc => ?_
      refine stP hf rfl rfl rfl (pGt rfl rfl) fun a hf => ?_
      refine stP hf rfl rfl rfl (pM rfl) fun a hf => ?_
      refine stCut 4 (fun a w => Has 76 a [(0, .slice claims_p claims.length claims_c), (2, .int .i64 rule), (6, .pointer (some ⟨b_1, 0, none⟩)), (7, .pointer (some ⟨b_2, 0, none⟩)), (10, .slice p_3 ((next_ ++ [r_4]).length) c_3), (11, .pointer (some ⟨b_3, 0, none⟩)), (26, .slice shares_p shares.length shares_c), (27, .int .i64 ((shares.length : Nat) : Int)), (28, .int .i64 x), (14, .pointer (some ⟨b_10, 0, none⟩)), (51, .pointer (some ⟨b_10, 1, none⟩)), (52, .int .i64 r_5.by_), (53, .bool (decide (0 < r_5.by_))), (54, .bool (decide (0 < r_5.by_))), (58, .bool ((decide (0 < r_5.by_)) && (share_quotient_more (⟨x_1, x_2⟩ : share_quotient) r_5)))] ∧ Ctx G (.box b_10 [.int .i64 r_5.claim, .int .i64 r_5.by_] 165 :: .row (some ⟨b_8, 0, none⟩) 1 (([r_4] : List share_quotient).map enc_share_quotient) 165 2 :: .row p_3 c_3 ((next_ ++ [r_4]).map enc_share_quotient) 165 2 :: .box b_3 [.int .i64 x_1, .int .i64 x_2] 165 :: .box b_2 [.int .i64 0, .int .i64 0] 71 :: .box b_1 [.int .i64 0, .int .i64 0] 71 :: Lf) w) ?_ ?_
      · cases hb : (decide (0 < r_5.by_))
        · rw [hb] at hf
          refine stS hf rfl rfl rfl fun a hf => ?_
          refine stS hf rfl rfl rfl fun a hf => ?_
          refine stS hf rfl rfl rfl fun a hf => ?_
          refine stP hf rfl rfl rfl (pPf rfl rfl) fun a hf => ?_
          exact cNil ⟨hf.keep ⟨rfl, rfl, rfl, rfl, rfl, rfl, rfl, rfl, rfl, rfl, rfl, rfl, rfl, rfl, rfl, trivial⟩, hc⟩
        · rw [hb] at hf
          refine stE hf hc rfl rfl rfl (eLdN (vs := [.int .i64 x_1, .int .i64 x_2]) ag_165 rfl rfl (cells_box (n := 2) m3 rfl)) fun a w hf hc => ?_
          refine stE hf hc rfl rfl rfl (eLdN (vs := [.int .i64 r_5.claim, .int .i64 r_5.by_]) ag_165 rfl rfl (cells_box (n := 2) m0 rfl)) fun a w hf hc => ?_
          refine stE hf hc rfl rfl rfl (eC (v := .bool (share_quotient_more (⟨x_1, x_2⟩ : share_quotient) r_5)) (vs := [.agg #[.int .i64 x_1, .int .i64 x_2], .agg #[.int .i64 r_5.claim, .int .i64 r_5.by_]]) (caps := []) en_84 rfl rfl rfl rfl (fun w hc => share_quotient_more_ok (⟨x_1, x_2⟩ : share_quotient) r_5 hc rfl)) fun a w hf hc => ?_
          refine stP hf rfl rfl rfl (pPt rfl rfl) fun a hf => ?_
          exact cNil ⟨hf.keep ⟨rfl, rfl, rfl, rfl, rfl, rfl, rfl, rfl, rfl, rfl, rfl, rfl, rfl, rfl, rfl, trivial⟩, hc⟩
      intro a w ⟨hf, hc⟩
      refine cNil ?_
      refine h22 _ _ ?_
      refine cCond (b := ((decide (0 < r_5.by_)) && (share_quotient_more (⟨x_1, x_2⟩ : share_quotient) r_5))) hf rfl (fun hb => ?_) (fun hb => ?_)
      · replace hF := condT hb hF
        clear hb
        refine cReg ?_
        refine stE hf hc rfl rfl rfl (eLdN (vs := [.int .i64 r_5.claim, .int .i64 r_5.by_]) ag_165 rfl rfl (cells_box (n := 2) m0 rfl)) fun a w hf hc => ?_
        refine stSt (vs := [.int .i64 r_5.claim, .int .i64 r_5.by_]) hf hc rfl rfl rfl rfl sz_165 rfl rfl u3 fun w hc => ?_
        refine cNil ?_
        replace hc := hc.drop k1
        replace hc := hc.drop k0
        exact hj18 (next_ ++ [r_4]) r_5.claim r_5.by_ p_3 c_3 _ _  (hf.keep ⟨rfl, rfl, rfl, rfl, rfl, rfl, rfl, rfl, rfl, trivial⟩) hc hF
      · replace hF := condF hb hF
        clear hb
        refine wp_skip ?_
        replace hc := hc.drop k1
        replace hc := hc.drop k0
        exact hj18 (next_ ++ [r_4]) x_1 x_2 p_3 c_3 _ _  (hf.keep ⟨rfl, rfl, rfl, rfl, rfl, rfl, rfl, rfl, rfl, trivial⟩) hc hF
    · replace hF := condF hb hF
      clear hb
      refine wp_exit ?_
      refine xThen ?_
      refine xThen ?_
      have he := Option.some.inj hF
      rw [← he] at hfin10
      refine cHit ?_
      exact hr10 _ _ _ hfin10 ⟨p_1, c_1, hf.keep ⟨rfl, rfl, rfl, rfl, rfl, rfl, rfl, rfl, rfl, trivial⟩, hc⟩

def share_Unfair_b18 (N : Nat) (claims : List Int) (shares : List Int) (rule : Int) (x : Int) (e_2 : Int) (x_1 : Int) : Option (Step (Int) (Step (Int × Int × Int × Int) (Int × Int × Int))) :=
  cond (decide (x_1 < ((shares.length : Nat) : Int)))
  (Option.bind (getI shares x_1) fun e_3 =>
  Option.bind (cond ((decide (0 < e_2)) && (x_1 != x)) (Option.bind (getI claims x_1) fun e_4 =>
  Option.bind (share_Rule_day N rule e_4 (W (e_3 + 1))) fun r_1 =>
  Option.bind (getI claims x) fun e_5 =>
  Option.bind (share_Rule_day N rule e_5 e_2) fun r_2 =>
  some (share_quotient_more r_1 r_2)) (some false)) fun t_1 =>
  cond t_1
  (some (.ret (.brk (x, x_1, 0, x))))
  (some (.cont (W (x_1 + 1)))))
  (some (.brk x_1))
def share_Unfair_b10 (N : Nat) (claims : List Int) (shares : List Int) (rule : Int) (a_1 : Int) (b_1 : Int) (e_1 : Int) (x : Int) : Option (Step (Int × Int × Int × Int) (Int × Int × Int)) :=
  cond (decide (x < ((shares.length : Nat) : Int)))
  (Option.bind (getI shares x) fun e_2 =>
  Option.bind (loopO (fun s18 => share_Unfair_b18 N claims shares rule x e_2 s18) N 0) fun x18 =>
  exK x18 (fun s18 => some (.cont (a_1, b_1, e_1, W (x + 1)))) some)
  (some (.brk (a_1, b_1, e_1, x)))
def share_Unfair (N : Nat) (claims : List Int) (shares : List Int) (rule : Int) : Option (Int × Int × Int) :=
  Option.bind (share_shared N claims shares rule) fun r =>
  cond (r != 0)
  (some (0, 0, r))
  (Option.bind (loopO (fun s10 => share_Unfair_b10 N claims shares rule s10.1 s10.2.1 s10.2.2.1 s10.2.2.2) N (0, 0, 5, 0)) fun x10 =>
  exK x10 (fun s10 => some (s10.1, s10.2.1, s10.2.2.1)) some)
theorem share_Unfair_ok {N : Nat} {G : Pers} {Lf : List Ent} {w : World} (claims : List Int) (shares : List Int) (rule : Int) {claims_p : Option Addr} {claims_c : Nat} {shares_p : Option Addr} {shares_c : Nat} (h_claims : Rd G 1 claims_p claims_c (claims.map encI_i64)) (h_shares : Rd G 1 shares_p shares_c (shares.map encI_i64)) (hc : Ctx G (Lf) w) {res : Int × Int × Int} (hF : share_Unfair N claims shares rule = some res) : Calls Try.prog 37 #[.slice claims_p claims.length claims_c, .slice shares_p shares.length shares_c, .int .i64 rule] w (fun e w => e = .returned (.tuple #[.int .i64 res.1, .int .i64 res.2.1, .int .i64 res.2.2]) ∧ Ctx G (Lf) w) := by
  unfold share_Unfair at hF
  refine fnIn (args := [.slice claims_p claims.length claims_c, .slice shares_p shares.length shares_c, .int .i64 rule]) Try.func37 rfl Try.ntmps37 rfl fun a hf => ?_
  refine wp_seq_k fun K1 h1 => ?_
  refine cReg ?_
  refine stP hf rfl rfl rfl (pA rfl) fun a hf => ?_
  refine stP hf rfl rfl rfl (pA rfl) fun a hf => ?_
  refine stP hf rfl rfl rfl (pA rfl) fun a hf => ?_
  refine cNil ?_
  refine h1 _ _ ?_
  refine wp_scope_straight ?_
  refine wp_seq_k fun K2 h2 => ?_
  refine wp_seq_k fun K3 h3 => ?_
  refine cReg ?_
  refine stP hf rfl rfl rfl (pM rfl) fun a hf => ?_
  refine stP hf rfl rfl rfl (pM rfl) fun a hf => ?_
  refine stP hf rfl rfl rfl (pM rfl) fun a hf => ?_
  obtain ⟨r, hr, hF⟩ := bnd_some hF
  refine stE hf hc rfl rfl rfl (eC (v := .int .i64 r) (vs := [.slice claims_p claims.length claims_c, .slice shares_p shares.length shares_c, .int .i64 rule]) (caps := []) en_88 rfl rfl rfl rfl (fun w hc => share_shared_ok claims shares rule h_claims h_shares hc hr)) fun a w hf hc => ?_
  refine stP hf rfl rfl rfl (pA rfl) fun a hf => ?_
  refine cNil ?_
  refine h3 _ _ ?_
  refine wp_seq_k fun K4 h4 => ?_
  refine cReg ?_
  refine stP hf rfl rfl rfl (pM rfl) fun a hf => ?_
  refine stP hf rfl rfl rfl (pNe rfl rfl) fun a hf => ?_
  refine cNil ?_
  refine h4 _ _ ?_
  refine cCond (b := (r != 0)) hf rfl (fun hb => ?_) (fun hb => ?_)
  · replace hF := condT hb hF
    clear hb
    refine wp_seq_k fun K5 h5 => ?_
    refine cReg ?_
    refine stP hf rfl rfl rfl (pM rfl) fun a hf => ?_
    refine stP hf rfl rfl rfl (pA rfl) fun a hf => ?_
    refine stP hf rfl rfl rfl (pA rfl) fun a hf => ?_
    refine stP hf rfl rfl rfl (pA rfl) fun a hf => ?_
    refine cNil ?_
    refine h5 _ _ ?_
    refine wp_ret ?_
    refine xThenR ?_
    refine xScopeR ?_
    obtain rfl := Option.some.inj hF
    exact fnOut3 (by simp) rfl Try.results37 hf hc (show look _ 6 = _ from rfl) (show look _ 7 = _ from rfl) (show look _ 8 = _ from rfl) ⟨rfl, hc⟩
  · replace hF := condF hb hF
    clear hb
    refine wp_skip ?_
    refine h2 _ _ ?_
    refine wp_seq_k fun K6 h6 => ?_
    refine cReg ?_
    refine stP hf rfl rfl rfl (pA rfl) fun a hf => ?_
    refine stP hf rfl rfl rfl (pA rfl) fun a hf => ?_
    refine stP hf rfl rfl rfl (pA rfl) fun a hf => ?_
    refine cNil ?_
    refine h6 _ _ ?_
    refine wp_seq_k fun K7 h7 => ?_
    refine wp_label ?_
    refine h7 _ _ ?_
    refine wp_seq_k fun K8 h8 => ?_
    refine wp_seq_k fun K9 h9 => ?_
    refine cReg ?_
    refine stP hf rfl rfl rfl (pM rfl) fun a hf => ?_
    refine stP hf rfl rfl rfl (pLenS Try.underlying36 rfl) fun a hf => ?_
    refine stP hf rfl rfl rfl (pM rfl) fun a hf => ?_
    refine cNil ?_
    refine h9 _ _ ?_
    refine wp_block ?_
    obtain ⟨x10, hx10, hF⟩ := bnd_some hF
    let S10 : (Int × Int × Int × Int) → Act → World → Prop := (fun (zz : Int × Int × Int × Int) a w => Has 70 a [(0, .slice claims_p claims.length claims_c), (1, .slice shares_p shares.length shares_c), (2, .int .i64 rule), (10, .int .i64 zz.1), (11, .int .i64 zz.2.1), (12, .int .i64 zz.2.2.1), (24, .slice shares_p shares.length shares_c), (25, .int .i64 ((shares.length : Nat) : Int)), (26, .int .i64 zz.2.2.2)] ∧ Ctx G (Lf) w)
    have hr10 : ∀ (zz : Int × Int × Int × Int) a w, x10 = .go zz → S10 zz a w → K8 a w := by
      rintro ⟨a_1, b_1, e_1, x⟩ a w rfl ⟨hf, hc⟩
      replace hF : _ = some res := hF
      refine h8 _ _ ?_
      refine wp_seq_k fun K11 h11 => ?_
      refine cReg ?_
      refine stP hf rfl rfl rfl (pM rfl) fun a hf => ?_
      refine stP hf rfl rfl rfl (pM rfl) fun a hf => ?_
      refine stP hf rfl rfl rfl (pM rfl) fun a hf => ?_
      refine stP hf rfl rfl rfl (pA rfl) fun a hf => ?_
      refine stP hf rfl rfl rfl (pA rfl) fun a hf => ?_
      refine stP hf rfl rfl rfl (pA rfl) fun a hf => ?_
      refine cNil ?_
      refine h11 _ _ ?_
      refine wp_ret ?_
      refine xScopeR ?_
      obtain rfl := Option.some.inj hF
      exact fnOut3 (by simp) rfl Try.results37 hf hc (show look _ 6 = _ from rfl) (show look _ 7 = _ from rfl) (show look _ 8 = _ from rfl) ⟨rfl, hc⟩
    have ho10 : ∀ r, x10 = .out r → r = res := by
      rintro r rfl
      exact Option.some.inj hF
    refine cLoop N (loopW (S := S10) (x := x10) ?_ N (0, 0, 5, 0) _ _ ⟨hf.keep ⟨rfl, rfl, rfl, rfl, rfl, rfl, rfl, rfl, rfl, trivial⟩, hc⟩ hx10)
    clear hF hf hc
    rintro ⟨a_1, b_1, e_1, x⟩ st10 a w KB10 ⟨hf, hc⟩ hF hfin10 hK10
    unfold share_Unfair_b10 at hF
    refine wp_seq_k fun K12 h12 => ?_
    refine cReg ?_
    refine stP hf rfl rfl rfl (pLt rfl rfl) fun a hf => ?_
    refine cNil ?_
    refine h12 _ _ ?_
    refine wp_seq_k fun K13 h13 => ?_
    refine cCond (b := (decide (x < ((shares.length : Nat) : Int)))) hf rfl (fun hb => ?_) (fun hb => ?_)
    · replace hF := condT hb hF
      clear hb
      refine wp_skip ?_
      refine h13 _ _ ?_
      refine wp_seq_k fun K14 h14 => ?_
      refine wp_block ?_
      refine wp_seq_k fun K15 h15 => ?_
      refine cReg ?_
      refine stP hf rfl rfl rfl (pM rfl) fun a hf => ?_
      obtain ⟨e_2, he_2, hF⟩ := bnd_some hF
      obtain ⟨b_2, o, qa, qp⟩ := h_shares.atm he_2
      refine stP hf rfl rfl rfl (pIA Try.underlying36 sz_3 rfl rfl qa) fun a hf => ?_
      refine stE hf hc rfl rfl rfl (eLd1 sc_3 rfl (cell_pc (j := 0) qp rfl)) fun a w hf hc => ?_
      refine stP hf rfl rfl rfl (pA rfl) fun a hf => ?_
      refine stP hf rfl rfl rfl (pA rfl) fun a hf => ?_
      refine cNil ?_
      refine h15 _ _ ?_
      refine wp_seq_k fun K16 h16 => ?_
      refine cReg ?_
      refine stP hf rfl rfl rfl (pM rfl) fun a hf => ?_
      refine stP hf rfl rfl rfl (pLenS Try.underlying36 rfl) fun a hf => ?_
      refine stP hf rfl rfl rfl (pM rfl) fun a hf => ?_
      refine cNil ?_
      refine h16 _ _ ?_
      refine wp_thenK fun K17 h17 => ?_
      refine wp_block ?_
      obtain ⟨x18, hx18, hF⟩ := bnd_some hF
      let S18 : Int → Act → World → Prop := (fun (zz : Int) a w => Has 70 a [(0, .slice claims_p claims.length claims_c), (1, .slice shares_p shares.length shares_c), (2, .int .i64 rule), (10, .int .i64 a_1), (11, .int .i64 b_1), (12, .int .i64 e_1), (13, .int .i64 x), (14, .int .i64 e_2), (24, .slice shares_p shares.length shares_c), (25, .int .i64 ((shares.length : Nat) : Int)), (26, .int .i64 x), (31, .slice shares_p shares.length shares_c), (32, .int .i64 ((shares.length : Nat) : Int)), (33, .int .i64 zz)] ∧ Ctx G (Lf) w)
      have hr18 : ∀ (zz : Int) a w, x18 = .go zz → S18 zz a w → K17 a w := by
        rintro x_1 a w rfl ⟨hf, hc⟩
        replace hF : _ = some st10 := hF
        refine h17 _ _ ?_
        refine h14 _ _ ?_
        refine cReg ?_
        refine stP hf rfl rfl rfl (pAdd rfl rfl) fun a hf => ?_
        refine stP hf rfl rfl rfl (pM rfl) fun a hf => ?_
        refine cNil ?_
        exact hK10 (a_1, b_1, e_1, W (x + 1)) _ _ (Option.some.inj hF).symm ⟨hf.keep ⟨rfl, rfl, rfl, rfl, rfl, rfl, rfl, rfl, rfl, trivial⟩, hc⟩
      have ho18 : ∀ r, x18 = .out r → r = st10 := by
        rintro r rfl
        exact Option.some.inj hF
      refine cLoop N (loopW (S := S18) (x := x18) ?_ N 0 _ _ ⟨hf.keep ⟨rfl, rfl, rfl, rfl, rfl, rfl, rfl, rfl, rfl, rfl, rfl, rfl, rfl, rfl, trivial⟩, hc⟩ hx18)
      clear hF hf hc
      rintro x_1 st18 a w KB18 ⟨hf, hc⟩ hF hfin18 hK18
      unfold share_Unfair_b18 at hF
      refine wp_seq_k fun K19 h19 => ?_
      refine cReg ?_
      refine stP hf rfl rfl rfl (pLt rfl rfl) fun a hf => ?_
      refine cNil ?_
      refine h19 _ _ ?_
      refine wp_seq_k fun K20 h20 => ?_
      refine cCond (b := (decide (x_1 < ((shares.length : Nat) : Int)))) hf rfl (fun hb => ?_) (fun hb => ?_)
      · replace hF := condT hb hF
        clear hb
        refine wp_skip ?_
        refine h20 _ _ ?_
        refine wp_seq_k fun K21 h21 => ?_
        refine wp_block ?_
        refine wp_seq_k fun K22 h22 => ?_
        refine cReg ?_
        refine stP hf rfl rfl rfl (pM rfl) fun a hf => ?_
        obtain ⟨e_3, he_3, hF⟩ := bnd_some hF
        obtain ⟨b_3, o_1, qa_1, qp_1⟩ := h_shares.atm he_3
        refine stP hf rfl rfl rfl (pIA Try.underlying36 sz_3 rfl rfl qa_1) fun a hf => ?_
        refine stE hf hc rfl rfl rfl (eLd1 sc_3 rfl (cell_pc (j := 0) qp_1 rfl)) fun a w hf hc => ?_
        refine stP hf rfl rfl rfl (pA rfl) fun a hf => ?_
        refine stP hf rfl rfl rfl (pA rfl) fun a hf => ?_
        refine cNil ?_
        refine h22 _ _ ?_
        refine wp_seq_k fun K23 h23 => ?_
        obtain ⟨t_1, ht_1, hF⟩ := bnd_some hF
        refine cQ hc follows_mx (by kernel_rfl) ?_
        refine qE hf rfl rfl rfl (Pu.ev (pM rfl)) fun a hf => ?_
        refine qE hf rfl rfl rfl (Pu.ev (pGt rfl rfl)) fun a hf => ?_
        refine qE hf rfl rfl rfl (Pu.ev (pM rfl)) fun a hf => ?_
        refine qCut 4 (fun a => Has 70 a [(0, .slice claims_p claims.length claims_c), (1, .slice shares_p shares.length shares_c), (2, .int .i64 rule), (10, .int .i64 a_1), (11, .int .i64 b_1), (12, .int .i64 e_1), (13, .int .i64 x), (14, .int .i64 e_2), (24, .slice shares_p shares.length shares_c), (25, .int .i64 ((shares.length : Nat) : Int)), (26, .int .i64 x), (31, .slice shares_p shares.length shares_c), (32, .int .i64 ((shares.length : Nat) : Int)), (33, .int .i64 x_1), (15, .int .i64 x_1), (16, .int .i64 e_3), (38, .int .i64 e_2), (39, .bool (decide (0 < e_2))), (40, .bool (decide (0 < e_2))), (44, .bool ((decide (0 < e_2)) && (x_1 != x)))]) ?_ ?_
        · cases hb : (decide (0 < e_2))
          · rw [hb] at hf
            refine qS hf rfl rfl rfl fun a hf => ?_
            refine qS hf rfl rfl rfl fun a hf => ?_
            refine qS hf rfl rfl rfl fun a hf => ?_
            refine qE hf rfl rfl rfl (Pu.ev (pPf rfl rfl)) fun a hf => ?_
            exact qNil (hf.keep ⟨rfl, rfl, rfl, rfl, rfl, rfl, rfl, rfl, rfl, rfl, rfl, rfl, rfl, rfl, rfl, rfl, rfl, rfl, rfl, rfl, trivial⟩)
          · rw [hb] at hf
            refine qE hf rfl rfl rfl (Pu.ev (pM rfl)) fun a hf => ?_
            refine qE hf rfl rfl rfl (Pu.ev (pM rfl)) fun a hf => ?_
            refine qE hf rfl rfl rfl (Pu.ev (pNe rfl rfl)) fun a hf => ?_
            refine qE hf rfl rfl rfl (Pu.ev (pPt rfl rfl)) fun a hf => ?_
            exact qNil (hf.keep ⟨rfl, rfl, rfl, rfl, rfl, rfl, rfl, rfl, rfl, rfl, rfl, rfl, rfl, rfl, rfl, rfl, rfl, rfl, rfl, rfl, trivial⟩)
        intro a hf
        refine qE hf rfl rfl rfl (Pu.ev (pM rfl)) fun a hf => ?_
        refine qCut 17 (fun a => Has 70 a [(0, .slice claims_p claims.length claims_c), (1, .slice shares_p shares.length shares_c), (2, .int .i64 rule), (10, .int .i64 a_1), (11, .int .i64 b_1), (12, .int .i64 e_1), (13, .int .i64 x), (14, .int .i64 e_2), (24, .slice shares_p shares.length shares_c), (25, .int .i64 ((shares.length : Nat) : Int)), (26, .int .i64 x), (31, .slice shares_p shares.length shares_c), (32, .int .i64 ((shares.length : Nat) : Int)), (33, .int .i64 x_1), (15, .int .i64 x_1), (16, .int .i64 e_3), (38, .int .i64 e_2), (39, .bool (decide (0 < e_2))), (40, .bool (decide (0 < e_2))), (44, .bool ((decide (0 < e_2)) && (x_1 != x))), (45, .bool ((decide (0 < e_2)) && (x_1 != x))), (62, .bool t_1)]) ?_ ?_
        · cases hb : ((decide (0 < e_2)) && (x_1 != x))
          · rw [hb] at hf
            have hF := condF hb ht_1
            obtain rfl := Option.some.inj hF
            refine qS hf rfl rfl rfl fun a hf => ?_
            refine qS hf rfl rfl rfl fun a hf => ?_
            refine qS hf rfl rfl rfl fun a hf => ?_
            refine qS hf rfl rfl rfl fun a hf => ?_
            refine qS hf rfl rfl rfl fun a hf => ?_
            refine qS hf rfl rfl rfl fun a hf => ?_
            refine qS hf rfl rfl rfl fun a hf => ?_
            refine qS hf rfl rfl rfl fun a hf => ?_
            refine qS hf rfl rfl rfl fun a hf => ?_
            refine qS hf rfl rfl rfl fun a hf => ?_
            refine qS hf rfl rfl rfl fun a hf => ?_
            refine qS hf rfl rfl rfl fun a hf => ?_
            refine qS hf rfl rfl rfl fun a hf => ?_
            refine qS hf rfl rfl rfl fun a hf => ?_
            refine qS hf rfl rfl rfl fun a hf => ?_
            refine qS hf rfl rfl rfl fun a hf => ?_
            refine qE hf rfl rfl rfl (Pu.ev (pPf rfl rfl)) fun a hf => ?_
            exact qNil (hf.keep ⟨rfl, rfl, rfl, rfl, rfl, rfl, rfl, rfl, rfl, rfl, rfl, rfl, rfl, rfl, rfl, rfl, rfl, rfl, rfl, rfl, rfl, rfl, trivial⟩)
          · rw [hb] at hf
            have hF := condT hb ht_1
            obtain ⟨e_4, he_4, hF⟩ := bnd_some hF
            obtain ⟨b_4, o_2, qa_2, qp_2⟩ := h_claims.atm he_4
            obtain ⟨r_1, hr_1, hF⟩ := bnd_some hF
            obtain ⟨e_5, he_5, hF⟩ := bnd_some hF
            obtain ⟨b_5, o_3, qa_3, qp_3⟩ := h_claims.atm he_5
            obtain ⟨r_2, hr_2, hF⟩ := bnd_some hF
            refine qE hf rfl rfl rfl (Pu.ev (pM rfl)) fun a hf => ?_
            refine qE hf rfl rfl rfl (Pu.ev (pM rfl)) fun a hf => ?_
            refine qE hf rfl rfl rfl (Pu.ev (pM rfl)) fun a hf => ?_
            refine qE hf rfl rfl rfl (Pu.ev (pIA Try.underlying36 sz_3 rfl rfl qa_2)) fun a hf => ?_
            refine qE hf rfl rfl rfl (eLd1 sc_3 rfl (cell_pc (j := 0) qp_2 rfl)) fun a hf => ?_
            refine qE hf rfl rfl rfl (Pu.ev (pM rfl)) fun a hf => ?_
            refine qE hf rfl rfl rfl (Pu.ev (pAdd rfl rfl)) fun a hf => ?_
            refine qE hf rfl rfl rfl (eC (v := .agg #[.int .i64 r_1.claim, .int .i64 r_1.by_]) (vs := [.int .i64 rule, .int .i64 e_4, .int .i64 (W (e_3 + 1))]) (caps := []) en_83 rfl rfl rfl rfl (fun w hc => share_Rule_day_ok rule e_4 (W (e_3 + 1)) hc hr_1)) fun a hf => ?_
            refine qE hf rfl rfl rfl (Pu.ev (pM rfl)) fun a hf => ?_
            refine qE hf rfl rfl rfl (Pu.ev (pM rfl)) fun a hf => ?_
            refine qE hf rfl rfl rfl (Pu.ev (pM rfl)) fun a hf => ?_
            refine qE hf rfl rfl rfl (Pu.ev (pIA Try.underlying36 sz_3 rfl rfl qa_3)) fun a hf => ?_
            refine qE hf rfl rfl rfl (eLd1 sc_3 rfl (cell_pc (j := 0) qp_3 rfl)) fun a hf => ?_
            refine qE hf rfl rfl rfl (Pu.ev (pM rfl)) fun a hf => ?_
            refine qE hf rfl rfl rfl (eC (v := .agg #[.int .i64 r_2.claim, .int .i64 r_2.by_]) (vs := [.int .i64 rule, .int .i64 e_5, .int .i64 e_2]) (caps := []) en_83 rfl rfl rfl rfl (fun w hc => share_Rule_day_ok rule e_5 e_2 hc hr_2)) fun a hf => ?_
            refine qE hf rfl rfl rfl (eC (v := .bool (share_quotient_more r_1 r_2)) (vs := [.agg #[.int .i64 r_1.claim, .int .i64 r_1.by_], .agg #[.int .i64 r_2.claim, .int .i64 r_2.by_]]) (caps := []) en_84 rfl rfl rfl rfl (fun w hc => share_quotient_more_ok r_1 r_2 hc rfl)) fun a hf => ?_
            refine qE hf rfl rfl rfl (Pu.ev (pPt rfl rfl)) fun a hf => ?_
            obtain rfl := Option.some.inj hF
            exact qNil (hf.keep ⟨rfl, rfl, rfl, rfl, rfl, rfl, rfl, rfl, rfl, rfl, rfl, rfl, rfl, rfl, rfl, rfl, rfl, rfl, rfl, rfl, rfl, rfl, trivial⟩)
        intro a hf
        intro w hc
        refine h23 _ _ ?_
        refine cCond (b := t_1) hf rfl (fun hb => ?_) (fun hb => ?_)
        · replace hF := condT hb hF
          clear hb
          refine wp_seq_k fun K24 h24 => ?_
          refine cReg ?_
          refine stP hf rfl rfl rfl (pM rfl) fun a hf => ?_
          refine stP hf rfl rfl rfl (pM rfl) fun a hf => ?_
          refine stP hf rfl rfl rfl (pA rfl) fun a hf => ?_
          refine stP hf rfl rfl rfl (pA rfl) fun a hf => ?_
          refine stP hf rfl rfl rfl (pA rfl) fun a hf => ?_
          refine cNil ?_
          refine h24 _ _ ?_
          refine wp_exit ?_
          refine cMiss rfl ?_
          refine xThen ?_
          refine xThen ?_
          have he := Option.some.inj hF
          rw [← he] at hfin18
          replace hF := ho18 _ hfin18
          refine cMiss rfl ?_
          refine xThen ?_
          refine cMiss rfl ?_
          refine xThen ?_
          refine xThen ?_
          have he := hF
          rw [← he] at hfin10
          refine cHit ?_
          exact hr10 _ _ _ hfin10 ⟨hf.keep ⟨rfl, rfl, rfl, rfl, rfl, rfl, rfl, rfl, rfl, trivial⟩, hc⟩
        · replace hF := condF hb hF
          clear hb
          refine wp_skip ?_
          refine h21 _ _ ?_
          refine cReg ?_
          refine stP hf rfl rfl rfl (pAdd rfl rfl) fun a hf => ?_
          refine stP hf rfl rfl rfl (pM rfl) fun a hf => ?_
          refine cNil ?_
          exact hK18 (W (x_1 + 1)) _ _ (Option.some.inj hF).symm ⟨hf.keep ⟨rfl, rfl, rfl, rfl, rfl, rfl, rfl, rfl, rfl, rfl, rfl, rfl, rfl, rfl, trivial⟩, hc⟩
      · replace hF := condF hb hF
        clear hb
        refine wp_exit ?_
        refine xThen ?_
        refine xThen ?_
        have he := Option.some.inj hF
        rw [← he] at hfin18
        refine cHit ?_
        exact hr18 _ _ _ hfin18 ⟨hf.keep ⟨rfl, rfl, rfl, rfl, rfl, rfl, rfl, rfl, rfl, rfl, rfl, rfl, rfl, rfl, trivial⟩, hc⟩
    · replace hF := condF hb hF
      clear hb
      refine wp_exit ?_
      refine xThen ?_
      refine xThen ?_
      have he := Option.some.inj hF
      rw [← he] at hfin10
      refine cHit ?_
      exact hr10 _ _ _ hfin10 ⟨hf.keep ⟨rfl, rfl, rfl, rfl, rfl, rfl, rfl, rfl, rfl, trivial⟩, hc⟩

def law09_awake (N : Nat)  : Option (Bool) :=
  Option.bind (law09_Two N) fun r =>
  Option.bind (share_Real N r 120) fun r_1 =>
  Option.bind (law09_Two N) fun r_2 =>
  Option.bind (law09_span N 90 185) fun r_3 =>
  Option.bind (share_Shares N r_2 r_3) fun r_4 =>
  Option.bind (law09_Two N) fun r_5 =>
  Option.bind (share_Short N r_5 120) fun r_6 =>
  Option.bind (law09_Line N) fun r_7 =>
  Option.bind (share_Debts N r_7.1 (⟨0, 0⟩ : api_Span) r_7.2) fun r_8 =>
  Option.bind (cond ((((r_1.2 != 0) || (r_4.2 != 0)) || (r_6.2 != 0)) || (r_8.2 != 0)) (some true) (Option.bind (kit_Same_int N r_1.1 ([95, 18] : List Int)) fun r_9 =>
  some (!r_9))) fun t_1 =>
  Option.bind (cond t_1 (some true) (Option.bind (kit_Same_api_Span N r_4.1 ([(⟨85, 120⟩ : api_Span), (⟨0, 54⟩ : api_Span)] : List api_Span)) fun r_10 =>
  some (!r_10))) fun t_2 =>
  Option.bind (cond (t_2 || (r_6.1 != 1)) (some true) (Option.bind (kit_Same_api_Span N r_8.1 ([(⟨(-2), 8⟩ : api_Span), (⟨(-15), (-12)⟩ : api_Span), (⟨0, 0⟩ : api_Span)] : List api_Span)) fun r_11 =>
  some (!r_11))) fun t_3 =>
  cond t_3
  (some false)
  (Option.bind (share_Payback N 100 (⟨15, 4, ([20, 30, 30, 40, 40, 40] : List Int)⟩ : share_Pact)) fun r_12 =>
  Option.bind (share_Turns N ([60, 30, 10] : List Int) 9 0) fun r_13 =>
  Option.bind (share_Turns N ([60, 30, 10] : List Int) 9 1) fun r_14 =>
  Option.bind (share_Divisors N ([60, 30, 10] : List Int) ([6, 3, 0] : List Int) 0) fun r_15 =>
  Option.bind (share_Unfair N ([60, 30, 10] : List Int) ([7, 2, 0] : List Int) 0) fun r_16 =>
  Option.bind (cond (((((r_12.2 == 0) && (r_13.2 == 0)) && (r_14.2 == 0)) && (r_15.2.2 == 0)) && (r_16.2.2 == 0)) (Option.bind (kit_Same_int N r_12.1 ([20, 20, 15, 15, 15, 15] : List Int)) fun r_17 =>
  some r_17) (some false)) fun t_4 =>
  Option.bind (cond t_4 (Option.bind (kit_Same_int N r_13.1 ([6, 3, 0] : List Int)) fun r_18 =>
  some r_18) (some false)) fun t_5 =>
  Option.bind (cond t_5 (Option.bind (kit_Same_int N r_14.1 ([5, 3, 1] : List Int)) fun r_19 =>
  some r_19) (some false)) fun t_6 =>
  some ((((t_6 && (r_15.1.N == 10 && r_15.1.D == 1)) && (r_15.2.1.N == r_15.1.N && r_15.2.1.D == r_15.1.D)) && (r_16.1 == 0)) && (r_16.2.1 == 1)))
theorem law09_awake_ok {N : Nat} {G : Pers} {Lf : List Ent} {w : World}    (hc : Ctx G (Lf) w) {res : Bool} (hF : law09_awake N = some res) : Calls Try.prog 13 #[] w (fun e w => e = .returned (.bool res) ∧ Ctx G (Lf) w) := by
  unfold law09_awake at hF
  refine fnIn (args := []) Try.func13 rfl Try.ntmps13 rfl fun a hf => ?_
  refine wp_seq_k fun K1 h1 => ?_
  refine cReg ?_
  refine stP hf rfl rfl rfl (pA rfl) fun a hf => ?_
  refine cNil ?_
  refine h1 _ _ ?_
  refine wp_seq_k fun K2 h2 => ?_
  refine cReg ?_
  obtain ⟨r, hr, hF⟩ := bnd_some hF
  refine stC (vs := []) (caps := []) hf rfl rfl rfl en_67 rfl rfl rfl rfl (law09_Two_ok hc hr) ?_
  rintro _ w ⟨p_1, c_1, rfl, hc⟩
  refine ⟨_, rfl, fun a hf => ?_⟩
  obtain ⟨r_1, hr_1, hF⟩ := bnd_some hF
  obtain ⟨G1, hle1, hrd1, hc, hth1⟩ := lend hc k0
  refine stC (vs := [.agg #[.int .i64 r.States, .slice p_1 r.Rights.length c_1], .int .i64 120]) (caps := []) hf rfl rfl rfl en_18 rfl rfl rfl rfl (share_Real_ok r 120 hrd1 hc hr_1) ?_
  rintro _ w ⟨p_2, c_2, rfl, hc⟩
  refine ⟨_, rfl, fun a hf => ?_⟩
  replace hc := hth1 _ _ hc
  refine stP hf rfl rfl rfl (pM rfl) fun a hf => ?_
  refine stP hf rfl rfl rfl (pX rfl rfl) fun a hf => ?_
  refine stP hf rfl rfl rfl (pX rfl rfl) fun a hf => ?_
  refine stP hf rfl rfl rfl (pA rfl) fun a hf => ?_
  refine stP hf rfl rfl rfl (pA rfl) fun a hf => ?_
  refine cNil ?_
  refine h2 _ _ ?_
  refine wp_seq_k fun K3 h3 => ?_
  refine cReg ?_
  obtain ⟨r_2, hr_2, hF⟩ := bnd_some hF
  refine stC (vs := []) (caps := []) hf rfl rfl rfl en_67 rfl rfl rfl rfl (law09_Two_ok hc hr_2) ?_
  rintro _ w ⟨p_3, c_3, rfl, hc⟩
  refine ⟨_, rfl, fun a hf => ?_⟩
  obtain ⟨r_3, hr_3, hF⟩ := bnd_some hF
  refine stE hf hc rfl rfl rfl (eC (v := .agg #[.int .i64 r_3.Lo, .int .i64 r_3.Hi]) (vs := [.int .i64 90, .int .i64 185]) (caps := []) en_60 rfl rfl rfl rfl (fun w hc => law09_span_ok 90 185 hc hr_3)) fun a w hf hc => ?_
  obtain ⟨r_4, hr_4, hF⟩ := bnd_some hF
  obtain ⟨G1, hle1, hrd1, hc, hth1⟩ := lend hc k0
  refine stC (vs := [.agg #[.int .i64 r_2.States, .slice p_3 r_2.Rights.length c_3], .agg #[.int .i64 r_3.Lo, .int .i64 r_3.Hi]]) (caps := []) hf rfl rfl rfl en_21 rfl rfl rfl rfl (share_Shares_ok r_2 r_3 hrd1 hc hr_4) ?_
  rintro _ w ⟨p_4, c_4, rfl, hc⟩
  refine ⟨_, rfl, fun a hf => ?_⟩
  replace hc := hth1 _ _ hc
  refine stP hf rfl rfl rfl (pM rfl) fun a hf => ?_
  refine stP hf rfl rfl rfl (pX rfl rfl) fun a hf => ?_
  refine stP hf rfl rfl rfl (pX rfl rfl) fun a hf => ?_
  refine stP hf rfl rfl rfl (pA rfl) fun a hf => ?_
  refine stP hf rfl rfl rfl (pA rfl) fun a hf => ?_
  refine cNil ?_
  refine h3 _ _ ?_
  refine wp_seq_k fun K4 h4 => ?_
  refine cReg ?_
  obtain ⟨r_5, hr_5, hF⟩ := bnd_some hF
  refine stC (vs := []) (caps := []) hf rfl rfl rfl en_67 rfl rfl rfl rfl (law09_Two_ok hc hr_5) ?_
  rintro _ w ⟨p_5, c_5, rfl, hc⟩
  refine ⟨_, rfl, fun a hf => ?_⟩
  obtain ⟨r_6, hr_6, hF⟩ := bnd_some hF
  refine stE hf hc rfl rfl rfl (eC (v := .tuple #[.int .i64 r_6.1, .int .i64 r_6.2]) (vs := [.agg #[.int .i64 r_5.States, .slice p_5 r_5.Rights.length c_5], .int .i64 120]) (caps := []) en_24 rfl rfl rfl rfl (fun w hc => by obtain ⟨G1, hle1, hrd1, hc, hth1⟩ := lend hc k0; exact (share_Short_ok r_5 120 hrd1 hc hr_6).mono fun e w h => ⟨h.1, ((hth1 _ _ h.2).unpick k0)⟩)) fun a w hf hc => ?_
  refine stP hf rfl rfl rfl (pM rfl) fun a hf => ?_
  refine stP hf rfl rfl rfl (pX rfl rfl) fun a hf => ?_
  refine stP hf rfl rfl rfl (pX rfl rfl) fun a hf => ?_
  refine stP hf rfl rfl rfl (pA rfl) fun a hf => ?_
  refine stP hf rfl rfl rfl (pA rfl) fun a hf => ?_
  refine cNil ?_
  refine h4 _ _ ?_
  refine wp_seq_k fun K5 h5 => ?_
  refine cReg ?_
  obtain ⟨r_7, hr_7, hF⟩ := bnd_some hF
  refine stC (vs := []) (caps := []) hf rfl rfl rfl en_68 rfl rfl rfl rfl (law09_Line_ok hc hr_7) ?_
  rintro _ w ⟨p_6, c_6, p_7, c_7, rfl, hc⟩
  refine ⟨_, rfl, fun a hf => ?_⟩
  refine stP hf rfl rfl rfl (pM rfl) fun a hf => ?_
  refine stP hf rfl rfl rfl (pX rfl rfl) fun a hf => ?_
  refine stP hf rfl rfl rfl (pX rfl rfl) fun a hf => ?_
  refine stAl (cs := [.slice none 0 0, .int .i64 0]) hf hc rfl rfl zr_88 rfl fun b_1 a w hf hc => ?_
  refine stSt (vs := [.slice p_6 r_7.1.Table.length c_6, .int .i64 r_7.1.Credit]) hf hc rfl rfl rfl rfl sz_88 rfl rfl u0 fun w hc => ?_
  refine stP hf rfl rfl rfl (pA rfl) fun a hf => ?_
  refine cNil ?_
  refine h5 _ _ ?_
  refine wp_seq_k fun K6 h6 => ?_
  refine cReg ?_
  refine stE hf hc rfl rfl rfl (eLdN (vs := [.slice p_6 r_7.1.Table.length c_6, .int .i64 r_7.1.Credit]) ag_88 rfl rfl (cells_box (n := 2) m0 rfl)) fun a w hf hc => ?_
  refine stP hf rfl rfl rfl (pBuildS (cells := [.int .i64 0, .int .i64 0]) bt_26 rfl rfl) fun a hf => ?_
  refine stP hf rfl rfl rfl (pM rfl) fun a hf => ?_
  obtain ⟨r_8, hr_8, hF⟩ := bnd_some hF
  obtain ⟨G1, hle1, hrd1, hc, hth1⟩ := lend hc k1
  obtain ⟨G2, hle2, hrd2, hc, hth2⟩ := lend hc k1
  refine stC (vs := [.agg #[.slice p_6 r_7.1.Table.length c_6, .int .i64 r_7.1.Credit], .agg #[.int .i64 0, .int .i64 0], .slice p_7 r_7.2.length c_7]) (caps := []) hf rfl rfl rfl en_54 rfl rfl rfl rfl (share_Debts_ok r_7.1 (⟨0, 0⟩ : api_Span) r_7.2 (hrd1.mono hle2) hrd2 hc hr_8) ?_
  rintro _ w ⟨p_8, c_8, rfl, hc⟩
  refine ⟨_, rfl, fun a hf => ?_⟩
  replace hc := hth2 _ _ hc
  replace hc := hth1 _ _ hc
  refine stP hf rfl rfl rfl (pM rfl) fun a hf => ?_
  refine stP hf rfl rfl rfl (pX rfl rfl) fun a hf => ?_
  refine stP hf rfl rfl rfl (pX rfl rfl) fun a hf => ?_
  refine stP hf rfl rfl rfl (pA rfl) fun a hf => ?_
  refine stP hf rfl rfl rfl (pA rfl) fun a hf => ?_
  refine cNil ?_
  refine h6 _ _ ?_
  refine wp_seq_k fun K7 h7 => ?_
  refine wp_seq_k fun K8 h8 => ?_
  refine cReg ?_
  refine stP hf rfl rfl rfl (pM rfl) fun a hf => ?_
  refine stP hf rfl rfl rfl (pNe rfl rfl) fun a hf => ?_
  refine stP hf rfl rfl rfl (pM rfl) fun a hf => ?_
  refine stCut 3 (fun a w => Has 168 a [(1, .slice p_2 r_1.1.length c_2), (2, .int .i64 r_1.2), (3, .slice p_4 r_4.1.length c_4), (4, .int .i64 r_4.2), (5, .int .i64 r_6.1), (6, .int .i64 r_6.2), (9, .slice p_8 r_8.1.length c_8), (10, .int .i64 r_8.2), (46, .int .i64 r_1.2), (47, .bool (r_1.2 != 0)), (48, .bool (r_1.2 != 0)), (51, .bool ((r_1.2 != 0) || (r_4.2 != 0)))] ∧ Ctx G (.row p_6 c_6 (r_7.1.Table.map enc_share_Point) 116 2 :: .row p_7 c_7 (r_7.2.map enc_share_Year) 94 5 :: .row p_8 c_8 (r_8.1.map enc_api_Span) 26 2 :: .box b_1 [.slice p_6 r_7.1.Table.length c_6, .int .i64 r_7.1.Credit] 88 :: .row p_5 c_5 (r_5.Rights.map enc_share_Right) 51 3 :: .row p_3 c_3 (r_2.Rights.map enc_share_Right) 51 3 :: .row p_4 c_4 (r_4.1.map enc_api_Span) 26 2 :: .row p_1 c_1 (r.Rights.map enc_share_Right) 51 3 :: .row p_2 c_2 (r_1.1.map encI_i64) 3 1 :: Lf) w) ?_ ?_
  · cases hb : (r_1.2 != 0)
    · rw [hb] at hf
      refine stP hf rfl rfl rfl (pM rfl) fun a hf => ?_
      refine stP hf rfl rfl rfl (pNe rfl rfl) fun a hf => ?_
      refine stP hf rfl rfl rfl (pPf rfl rfl) fun a hf => ?_
      exact cNil ⟨hf.keep ⟨rfl, rfl, rfl, rfl, rfl, rfl, rfl, rfl, rfl, rfl, rfl, rfl, trivial⟩, hc⟩
    · rw [hb] at hf
      refine stS hf rfl rfl rfl fun a hf => ?_
      refine stS hf rfl rfl rfl fun a hf => ?_
      refine stP hf rfl rfl rfl (pPt rfl rfl) fun a hf => ?_
      exact cNil ⟨hf.keep ⟨rfl, rfl, rfl, rfl, rfl, rfl, rfl, rfl, rfl, rfl, rfl, rfl, trivial⟩, hc⟩
  intro a w ⟨hf, hc⟩
  refine stP hf rfl rfl rfl (pM rfl) fun a hf => ?_
  refine stCut 3 (fun a w => Has 168 a [(1, .slice p_2 r_1.1.length c_2), (2, .int .i64 r_1.2), (3, .slice p_4 r_4.1.length c_4), (4, .int .i64 r_4.2), (5, .int .i64 r_6.1), (6, .int .i64 r_6.2), (9, .slice p_8 r_8.1.length c_8), (10, .int .i64 r_8.2), (46, .int .i64 r_1.2), (47, .bool (r_1.2 != 0)), (48, .bool (r_1.2 != 0)), (51, .bool ((r_1.2 != 0) || (r_4.2 != 0))), (52, .bool ((r_1.2 != 0) || (r_4.2 != 0))), (55, .bool (((r_1.2 != 0) || (r_4.2 != 0)) || (r_6.2 != 0)))] ∧ Ctx G (.row p_6 c_6 (r_7.1.Table.map enc_share_Point) 116 2 :: .row p_7 c_7 (r_7.2.map enc_share_Year) 94 5 :: .row p_8 c_8 (r_8.1.map enc_api_Span) 26 2 :: .box b_1 [.slice p_6 r_7.1.Table.length c_6, .int .i64 r_7.1.Credit] 88 :: .row p_5 c_5 (r_5.Rights.map enc_share_Right) 51 3 :: .row p_3 c_3 (r_2.Rights.map enc_share_Right) 51 3 :: .row p_4 c_4 (r_4.1.map enc_api_Span) 26 2 :: .row p_1 c_1 (r.Rights.map enc_share_Right) 51 3 :: .row p_2 c_2 (r_1.1.map encI_i64) 3 1 :: Lf) w) ?_ ?_
  · cases hb : ((r_1.2 != 0) || (r_4.2 != 0))
    · rw [hb] at hf
      refine stP hf rfl rfl rfl (pM rfl) fun a hf => ?_
      refine stP hf rfl rfl rfl (pNe rfl rfl) fun a hf => ?_
      refine stP hf rfl rfl rfl (pPf rfl rfl) fun a hf => ?_
      exact cNil ⟨hf.keep ⟨rfl, rfl, rfl, rfl, rfl, rfl, rfl, rfl, rfl, rfl, rfl, rfl, rfl, rfl, trivial⟩, hc⟩
    · rw [hb] at hf
      refine stS hf rfl rfl rfl fun a hf => ?_
      refine stS hf rfl rfl rfl fun a hf => ?_
      refine stP hf rfl rfl rfl (pPt rfl rfl) fun a hf => ?_
      exact cNil ⟨hf.keep ⟨rfl, rfl, rfl, rfl, rfl, rfl, rfl, rfl, rfl, rfl, rfl, rfl, rfl, rfl, trivial⟩, hc⟩
  intro a w ⟨hf, hc⟩
  refine stP hf rfl rfl rfl (pM rfl) fun a hf => ?_
  refine stCut 3 (fun a w => Has 168 a [(1, .slice p_2 r_1.1.length c_2), (2, .int .i64 r_1.2), (3, .slice p_4 r_4.1.length c_4), (4, .int .i64 r_4.2), (5, .int .i64 r_6.1), (6, .int .i64 r_6.2), (9, .slice p_8 r_8.1.length c_8), (10, .int .i64 r_8.2), (46, .int .i64 r_1.2), (47, .bool (r_1.2 != 0)), (48, .bool (r_1.2 != 0)), (51, .bool ((r_1.2 != 0) || (r_4.2 != 0))), (52, .bool ((r_1.2 != 0) || (r_4.2 != 0))), (55, .bool (((r_1.2 != 0) || (r_4.2 != 0)) || (r_6.2 != 0))), (56, .bool (((r_1.2 != 0) || (r_4.2 != 0)) || (r_6.2 != 0))), (59, .bool ((((r_1.2 != 0) || (r_4.2 != 0)) || (r_6.2 != 0)) || (r_8.2 != 0)))] ∧ Ctx G (.row p_6 c_6 (r_7.1.Table.map enc_share_Point) 116 2 :: .row p_7 c_7 (r_7.2.map enc_share_Year) 94 5 :: .row p_8 c_8 (r_8.1.map enc_api_Span) 26 2 :: .box b_1 [.slice p_6 r_7.1.Table.length c_6, .int .i64 r_7.1.Credit] 88 :: .row p_5 c_5 (r_5.Rights.map enc_share_Right) 51 3 :: .row p_3 c_3 (r_2.Rights.map enc_share_Right) 51 3 :: .row p_4 c_4 (r_4.1.map enc_api_Span) 26 2 :: .row p_1 c_1 (r.Rights.map enc_share_Right) 51 3 :: .row p_2 c_2 (r_1.1.map encI_i64) 3 1 :: Lf) w) ?_ ?_
  · cases hb : (((r_1.2 != 0) || (r_4.2 != 0)) || (r_6.2 != 0))
    · rw [hb] at hf
      refine stP hf rfl rfl rfl (pM rfl) fun a hf => ?_
      refine stP hf rfl rfl rfl (pNe rfl rfl) fun a hf => ?_
      refine stP hf rfl rfl rfl (pPf rfl rfl) fun a hf => ?_
      exact cNil ⟨hf.keep ⟨rfl, rfl, rfl, rfl, rfl, rfl, rfl, rfl, rfl, rfl, rfl, rfl, rfl, rfl, rfl, rfl, trivial⟩, hc⟩
    · rw [hb] at hf
      refine stS hf rfl rfl rfl fun a hf => ?_
      refine stS hf rfl rfl rfl fun a hf => ?_
      refine stP hf rfl rfl rfl (pPt rfl rfl) fun a hf => ?_
      exact cNil ⟨hf.keep ⟨rfl, rfl, rfl, rfl, rfl, rfl, rfl, rfl, rfl, rfl, rfl, rfl, rfl, rfl, rfl, rfl, trivial⟩, hc⟩
  intro a w ⟨hf, hc⟩
  refine stP hf rfl rfl rfl (pM rfl) fun a hf => ?_
  obtain ⟨t_1, ht_1, hF⟩ := bnd_some hF
  refine stCut 5 (fun a w => Has 168 a [(1, .slice p_2 r_1.1.length c_2), (2, .int .i64 r_1.2), (3, .slice p_4 r_4.1.length c_4), (4, .int .i64 r_4.2), (5, .int .i64 r_6.1), (6, .int .i64 r_6.2), (9, .slice p_8 r_8.1.length c_8), (10, .int .i64 r_8.2), (46, .int .i64 r_1.2), (47, .bool (r_1.2 != 0)), (48, .bool (r_1.2 != 0)), (51, .bool ((r_1.2 != 0) || (r_4.2 != 0))), (52, .bool ((r_1.2 != 0) || (r_4.2 != 0))), (55, .bool (((r_1.2 != 0) || (r_4.2 != 0)) || (r_6.2 != 0))), (56, .bool (((r_1.2 != 0) || (r_4.2 != 0)) || (r_6.2 != 0))), (59, .bool ((((r_1.2 != 0) || (r_4.2 != 0)) || (r_6.2 != 0)) || (r_8.2 != 0))), (60, .bool ((((r_1.2 != 0) || (r_4.2 != 0)) || (r_6.2 != 0)) || (r_8.2 != 0))), (65, .bool t_1)] ∧ Ctx G (.row p_6 c_6 (r_7.1.Table.map enc_share_Point) 116 2 :: .row p_7 c_7 (r_7.2.map enc_share_Year) 94 5 :: .row p_8 c_8 (r_8.1.map enc_api_Span) 26 2 :: .box b_1 [.slice p_6 r_7.1.Table.length c_6, .int .i64 r_7.1.Credit] 88 :: .row p_5 c_5 (r_5.Rights.map enc_share_Right) 51 3 :: .row p_3 c_3 (r_2.Rights.map enc_share_Right) 51 3 :: .row p_4 c_4 (r_4.1.map enc_api_Span) 26 2 :: .row p_1 c_1 (r.Rights.map enc_share_Right) 51 3 :: .row p_2 c_2 (r_1.1.map encI_i64) 3 1 :: Lf) w) ?_ ?_
  · cases hb : ((((r_1.2 != 0) || (r_4.2 != 0)) || (r_6.2 != 0)) || (r_8.2 != 0))
    · rw [hb] at hf
      have hF := condF hb ht_1
      refine stP hf rfl rfl rfl (pM rfl) fun a hf => ?_
      refine stBS (rows := ([95, 18] : List Int).map encI_i64) (vs := [(0, .int .i64 95), (1, .int .i64 18)]) hf hc rfl rfl sl_36 rfl ⟨rfl, rfl, rfl, rfl, rfl, rfl, trivial⟩ rfl rfl fun b_2 a w hf hc => ?_
      obtain ⟨r_9, hr_9, hF⟩ := bnd_some hF
      refine stE hf hc rfl rfl rfl (eC (v := .bool r_9) (vs := [.slice p_2 r_1.1.length c_2, .slice (some ⟨b_2, 0, none⟩) 2 2]) (caps := []) en_20 rfl rfl rfl rfl (fun w hc => by obtain ⟨G1, hle1, hrd1, hc, hth1⟩ := lend hc k9; obtain ⟨G2, hle2, hrd2, hc, hth2⟩ := lend hc k0; exact (kit_Same_int_ok r_1.1 ([95, 18] : List Int) (hrd1.mono hle2) hrd2 hc hr_9).mono fun e w h => ⟨h.1, ((hth1 _ _ ((hth2 _ _ h.2).unpick k0)).unpick k9)⟩)) fun a w hf hc => ?_
      refine stP hf rfl rfl rfl (pNot rfl) fun a hf => ?_
      refine stP hf rfl rfl rfl (pPf rfl rfl) fun a hf => ?_
      replace hc := hc.drop k0
      obtain rfl := Option.some.inj hF
      exact cNil ⟨hf.keep ⟨rfl, rfl, rfl, rfl, rfl, rfl, rfl, rfl, rfl, rfl, rfl, rfl, rfl, rfl, rfl, rfl, rfl, rfl, trivial⟩, hc⟩
    · rw [hb] at hf
      have hF := condT hb ht_1
      obtain rfl := Option.some.inj hF
      refine stS hf rfl rfl rfl fun a hf => ?_
      refine stS hf rfl rfl rfl fun a hf => ?_
      refine stS hf rfl rfl rfl fun a hf => ?_
      refine stS hf rfl rfl rfl fun a hf => ?_
      refine stP hf rfl rfl rfl (pPt rfl rfl) fun a hf => ?_
      exact cNil ⟨hf.keep ⟨rfl, rfl, rfl, rfl, rfl, rfl, rfl, rfl, rfl, rfl, rfl, rfl, rfl, rfl, rfl, rfl, rfl, rfl, trivial⟩, hc⟩
  intro a w ⟨hf, hc⟩
  refine stP hf rfl rfl rfl (pM rfl) fun a hf => ?_
  obtain ⟨t_2, ht_2, hF⟩ := bnd_some hF
  refine stCut 7 (fun a w => Has 168 a [(1, .slice p_2 r_1.1.length c_2), (2, .int .i64 r_1.2), (3, .slice p_4 r_4.1.length c_4), (4, .int .i64 r_4.2), (5, .int .i64 r_6.1), (6, .int .i64 r_6.2), (9, .slice p_8 r_8.1.length c_8), (10, .int .i64 r_8.2), (46, .int .i64 r_1.2), (47, .bool (r_1.2 != 0)), (48, .bool (r_1.2 != 0)), (51, .bool ((r_1.2 != 0) || (r_4.2 != 0))), (52, .bool ((r_1.2 != 0) || (r_4.2 != 0))), (55, .bool (((r_1.2 != 0) || (r_4.2 != 0)) || (r_6.2 != 0))), (56, .bool (((r_1.2 != 0) || (r_4.2 != 0)) || (r_6.2 != 0))), (59, .bool ((((r_1.2 != 0) || (r_4.2 != 0)) || (r_6.2 != 0)) || (r_8.2 != 0))), (60, .bool ((((r_1.2 != 0) || (r_4.2 != 0)) || (r_6.2 != 0)) || (r_8.2 != 0))), (65, .bool t_1), (66, .bool t_1), (73, .bool t_2)] ∧ Ctx G (.row p_6 c_6 (r_7.1.Table.map enc_share_Point) 116 2 :: .row p_7 c_7 (r_7.2.map enc_share_Year) 94 5 :: .row p_8 c_8 (r_8.1.map enc_api_Span) 26 2 :: .box b_1 [.slice p_6 r_7.1.Table.length c_6, .int .i64 r_7.1.Credit] 88 :: .row p_5 c_5 (r_5.Rights.map enc_share_Right) 51 3 :: .row p_3 c_3 (r_2.Rights.map enc_share_Right) 51 3 :: .row p_4 c_4 (r_4.1.map enc_api_Span) 26 2 :: .row p_1 c_1 (r.Rights.map enc_share_Right) 51 3 :: .row p_2 c_2 (r_1.1.map encI_i64) 3 1 :: Lf) w) ?_ ?_
  · cases hb : t_1
    · rw [hb] at hf
      have hF := condF hb ht_2
      refine stP hf rfl rfl rfl (pM rfl) fun a hf => ?_
      refine stP hf rfl rfl rfl (pBuildS (cells := [.int .i64 85, .int .i64 120]) bt_26 rfl rfl) fun a hf => ?_
      refine stP hf rfl rfl rfl (pBuildS (cells := [.int .i64 0, .int .i64 54]) bt_26 rfl rfl) fun a hf => ?_
      refine stBS (rows := ([(⟨85, 120⟩ : api_Span), (⟨0, 54⟩ : api_Span)] : List api_Span).map enc_api_Span) (vs := [(0, .agg #[.int .i64 85, .int .i64 120]), (1, .agg #[.int .i64 0, .int .i64 54])]) hf hc rfl rfl sl_41 rfl ⟨rfl, rfl, rfl, rfl, rfl, rfl, trivial⟩ rfl rfl fun b_3 a w hf hc => ?_
      obtain ⟨r_10, hr_10, hF⟩ := bnd_some hF
      refine stE hf hc rfl rfl rfl (eC (v := .bool r_10) (vs := [.slice p_4 r_4.1.length c_4, .slice (some ⟨b_3, 0, none⟩) 2 2]) (caps := []) en_23 rfl rfl rfl rfl (fun w hc => by obtain ⟨G1, hle1, hrd1, hc, hth1⟩ := lend hc k7; obtain ⟨G2, hle2, hrd2, hc, hth2⟩ := lend hc k0; exact (kit_Same_api_Span_ok r_4.1 ([(⟨85, 120⟩ : api_Span), (⟨0, 54⟩ : api_Span)] : List api_Span) (hrd1.mono hle2) hrd2 hc hr_10).mono fun e w h => ⟨h.1, ((hth1 _ _ ((hth2 _ _ h.2).unpick k0)).unpick k7)⟩)) fun a w hf hc => ?_
      refine stP hf rfl rfl rfl (pNot rfl) fun a hf => ?_
      refine stP hf rfl rfl rfl (pPf rfl rfl) fun a hf => ?_
      replace hc := hc.drop k0
      obtain rfl := Option.some.inj hF
      exact cNil ⟨hf.keep ⟨rfl, rfl, rfl, rfl, rfl, rfl, rfl, rfl, rfl, rfl, rfl, rfl, rfl, rfl, rfl, rfl, rfl, rfl, rfl, rfl, trivial⟩, hc⟩
    · rw [hb] at hf
      have hF := condT hb ht_2
      obtain rfl := Option.some.inj hF
      refine stS hf rfl rfl rfl fun a hf => ?_
      refine stS hf rfl rfl rfl fun a hf => ?_
      refine stS hf rfl rfl rfl fun a hf => ?_
      refine stS hf rfl rfl rfl fun a hf => ?_
      refine stS hf rfl rfl rfl fun a hf => ?_
      refine stS hf rfl rfl rfl fun a hf => ?_
      refine stP hf rfl rfl rfl (pPt rfl rfl) fun a hf => ?_
      exact cNil ⟨hf.keep ⟨rfl, rfl, rfl, rfl, rfl, rfl, rfl, rfl, rfl, rfl, rfl, rfl, rfl, rfl, rfl, rfl, rfl, rfl, rfl, rfl, trivial⟩, hc⟩
  intro a w ⟨hf, hc⟩
  refine stP hf rfl rfl rfl (pM rfl) fun a hf => ?_
  refine stCut 3 (fun a w => Has 168 a [(1, .slice p_2 r_1.1.length c_2), (2, .int .i64 r_1.2), (3, .slice p_4 r_4.1.length c_4), (4, .int .i64 r_4.2), (5, .int .i64 r_6.1), (6, .int .i64 r_6.2), (9, .slice p_8 r_8.1.length c_8), (10, .int .i64 r_8.2), (46, .int .i64 r_1.2), (47, .bool (r_1.2 != 0)), (48, .bool (r_1.2 != 0)), (51, .bool ((r_1.2 != 0) || (r_4.2 != 0))), (52, .bool ((r_1.2 != 0) || (r_4.2 != 0))), (55, .bool (((r_1.2 != 0) || (r_4.2 != 0)) || (r_6.2 != 0))), (56, .bool (((r_1.2 != 0) || (r_4.2 != 0)) || (r_6.2 != 0))), (59, .bool ((((r_1.2 != 0) || (r_4.2 != 0)) || (r_6.2 != 0)) || (r_8.2 != 0))), (60, .bool ((((r_1.2 != 0) || (r_4.2 != 0)) || (r_6.2 != 0)) || (r_8.2 != 0))), (65, .bool t_1), (66, .bool t_1), (73, .bool t_2), (74, .bool t_2), (77, .bool (t_2 || (r_6.1 != 1)))] ∧ Ctx G (.row p_6 c_6 (r_7.1.Table.map enc_share_Point) 116 2 :: .row p_7 c_7 (r_7.2.map enc_share_Year) 94 5 :: .row p_8 c_8 (r_8.1.map enc_api_Span) 26 2 :: .box b_1 [.slice p_6 r_7.1.Table.length c_6, .int .i64 r_7.1.Credit] 88 :: .row p_5 c_5 (r_5.Rights.map enc_share_Right) 51 3 :: .row p_3 c_3 (r_2.Rights.map enc_share_Right) 51 3 :: .row p_4 c_4 (r_4.1.map enc_api_Span) 26 2 :: .row p_1 c_1 (r.Rights.map enc_share_Right) 51 3 :: .row p_2 c_2 (r_1.1.map encI_i64) 3 1 :: Lf) w) ?_ ?_
  · cases hb : t_2
    · rw [hb] at hf
      refine stP hf rfl rfl rfl (pM rfl) fun a hf => ?_
      refine stP hf rfl rfl rfl (pNe rfl rfl) fun a hf => ?_
      refine stP hf rfl rfl rfl (pPf rfl rfl) fun a hf => ?_
      exact cNil ⟨hf.keep ⟨rfl, rfl, rfl, rfl, rfl, rfl, rfl, rfl, rfl, rfl, rfl, rfl, rfl, rfl, rfl, rfl, rfl, rfl, rfl, rfl, rfl, rfl, trivial⟩, hc⟩
    · rw [hb] at hf
      refine stS hf rfl rfl rfl fun a hf => ?_
      refine stS hf rfl rfl rfl fun a hf => ?_
      refine stP hf rfl rfl rfl (pPt rfl rfl) fun a hf => ?_
      exact cNil ⟨hf.keep ⟨rfl, rfl, rfl, rfl, rfl, rfl, rfl, rfl, rfl, rfl, rfl, rfl, rfl, rfl, rfl, rfl, rfl, rfl, rfl, rfl, rfl, rfl, trivial⟩, hc⟩
  intro a w ⟨hf, hc⟩
  refine stP hf rfl rfl rfl (pM rfl) fun a hf => ?_
  obtain ⟨t_3, ht_3, hF⟩ := bnd_some hF
  refine stCut 8 (fun a w => Has 168 a [(1, .slice p_2 r_1.1.length c_2), (2, .int .i64 r_1.2), (3, .slice p_4 r_4.1.length c_4), (4, .int .i64 r_4.2), (5, .int .i64 r_6.1), (6, .int .i64 r_6.2), (9, .slice p_8 r_8.1.length c_8), (10, .int .i64 r_8.2), (46, .int .i64 r_1.2), (47, .bool (r_1.2 != 0)), (48, .bool (r_1.2 != 0)), (51, .bool ((r_1.2 != 0) || (r_4.2 != 0))), (52, .bool ((r_1.2 != 0) || (r_4.2 != 0))), (55, .bool (((r_1.2 != 0) || (r_4.2 != 0)) || (r_6.2 != 0))), (56, .bool (((r_1.2 != 0) || (r_4.2 != 0)) || (r_6.2 != 0))), (59, .bool ((((r_1.2 != 0) || (r_4.2 != 0)) || (r_6.2 != 0)) || (r_8.2 != 0))), (60, .bool ((((r_1.2 != 0) || (r_4.2 != 0)) || (r_6.2 != 0)) || (r_8.2 != 0))), (65, .bool t_1), (66, .bool t_1), (73, .bool t_2), (74, .bool t_2), (77, .bool (t_2 || (r_6.1 != 1))), (78, .bool (t_2 || (r_6.1 != 1))), (86, .bool t_3)] ∧ Ctx G (.row p_6 c_6 (r_7.1.Table.map enc_share_Point) 116 2 :: .row p_7 c_7 (r_7.2.map enc_share_Year) 94 5 :: .row p_8 c_8 (r_8.1.map enc_api_Span) 26 2 :: .box b_1 [.slice p_6 r_7.1.Table.length c_6, .int .i64 r_7.1.Credit] 88 :: .row p_5 c_5 (r_5.Rights.map enc_share_Right) 51 3 :: .row p_3 c_3 (r_2.Rights.map enc_share_Right) 51 3 :: .row p_4 c_4 (r_4.1.map enc_api_Span) 26 2 :: .row p_1 c_1 (r.Rights.map enc_share_Right) 51 3 :: .row p_2 c_2 (r_1.1.map encI_i64) 3 1 :: Lf) w) ?_ ?_
  · cases hb : (t_2 || (r_6.1 != 1))
    · rw [hb] at hf
      have hF := condF hb ht_3
      refine stP hf rfl rfl rfl (pM rfl) fun a hf => ?_
      refine stP hf rfl rfl rfl (pBuildS (cells := [.int .i64 (-2), .int .i64 8]) bt_26 rfl rfl) fun a hf => ?_
      refine stP hf rfl rfl rfl (pBuildS (cells := [.int .i64 (-15), .int .i64 (-12)]) bt_26 rfl rfl) fun a hf => ?_
      refine stP hf rfl rfl rfl (pBuildS (cells := [.int .i64 0, .int .i64 0]) bt_26 rfl rfl) fun a hf => ?_
      refine stBS (rows := ([(⟨(-2), 8⟩ : api_Span), (⟨(-15), (-12)⟩ : api_Span), (⟨0, 0⟩ : api_Span)] : List api_Span).map enc_api_Span) (vs := [(0, .agg #[.int .i64 (-2), .int .i64 8]), (1, .agg #[.int .i64 (-15), .int .i64 (-12)]), (2, .agg #[.int .i64 0, .int .i64 0])]) hf hc rfl rfl sl_41 rfl ⟨rfl, rfl, rfl, rfl, rfl, rfl, rfl, rfl, rfl, trivial⟩ rfl rfl fun b_4 a w hf hc => ?_
      obtain ⟨r_11, hr_11, hF⟩ := bnd_some hF
      refine stE hf hc rfl rfl rfl (eC (v := .bool r_11) (vs := [.slice p_8 r_8.1.length c_8, .slice (some ⟨b_4, 0, none⟩) 3 3]) (caps := []) en_23 rfl rfl rfl rfl (fun w hc => by obtain ⟨G1, hle1, hrd1, hc, hth1⟩ := lend hc k3; obtain ⟨G2, hle2, hrd2, hc, hth2⟩ := lend hc k0; exact (kit_Same_api_Span_ok r_8.1 ([(⟨(-2), 8⟩ : api_Span), (⟨(-15), (-12)⟩ : api_Span), (⟨0, 0⟩ : api_Span)] : List api_Span) (hrd1.mono hle2) hrd2 hc hr_11).mono fun e w h => ⟨h.1, ((hth1 _ _ ((hth2 _ _ h.2).unpick k0)).unpick k3)⟩)) fun a w hf hc => ?_
      refine stP hf rfl rfl rfl (pNot rfl) fun a hf => ?_
      refine stP hf rfl rfl rfl (pPf rfl rfl) fun a hf => ?_
      replace hc := hc.drop k0
      obtain rfl := Option.some.inj hF
      exact cNil ⟨hf.keep ⟨rfl, rfl, rfl, rfl, rfl, rfl, rfl, rfl, rfl, rfl, rfl, rfl, rfl, rfl, rfl, rfl, rfl, rfl, rfl, rfl, rfl, rfl, rfl, rfl, trivial⟩, hc⟩
    · rw [hb] at hf
      have hF := condT hb ht_3
      obtain rfl := Option.some.inj hF
      refine stS hf rfl rfl rfl fun a hf => ?_
      refine stS hf rfl rfl rfl fun a hf => ?_
      refine stS hf rfl rfl rfl fun a hf => ?_
      refine stS hf rfl rfl rfl fun a hf => ?_
      refine stS hf rfl rfl rfl fun a hf => ?_
      refine stS hf rfl rfl rfl fun a hf => ?_
      refine stS hf rfl rfl rfl fun a hf => ?_
      refine stP hf rfl rfl rfl (pPt rfl rfl) fun a hf => ?_
      exact cNil ⟨hf.keep ⟨rfl, rfl, rfl, rfl, rfl, rfl, rfl, rfl, rfl, rfl, rfl, rfl, rfl, rfl, rfl, rfl, rfl, rfl, rfl, rfl, rfl, rfl, rfl, rfl, trivial⟩, hc⟩
  intro a w ⟨hf, hc⟩
  refine cNil ?_
  refine h8 _ _ ?_
  refine cCond (b := t_3) hf rfl (fun hb => ?_) (fun hb => ?_)
  · replace hF := condT hb hF
    clear hb
    refine wp_seq_k fun K9 h9 => ?_
    refine cReg ?_
    refine stP hf rfl rfl rfl (pA rfl) fun a hf => ?_
    refine cNil ?_
    refine h9 _ _ ?_
    refine wp_ret ?_
    refine xThenR ?_
    obtain rfl := Option.some.inj hF
    replace hc := hc.drop k8
    replace hc := hc.drop k7
    replace hc := hc.drop k6
    replace hc := hc.drop k5
    replace hc := hc.drop k4
    replace hc := hc.drop k3
    replace hc := hc.drop k2
    replace hc := hc.drop k1
    replace hc := hc.drop k0
    exact fnOut1 (by simp) rfl Try.results13 hf hc (show look _ 0 = _ from rfl) ⟨rfl, hc⟩
  · replace hF := condF hb hF
    clear hb
    refine wp_skip ?_
    refine h7 _ _ ?_
    refine wp_seq_k fun K10 h10 => ?_
    refine cReg ?_
    refine stBS (rows := ([20, 30, 30, 40, 40, 40] : List Int).map encI_i64) (vs := [(0, .int .i64 20), (1, .int .i64 30), (2, .int .i64 30), (3, .int .i64 40), (4, .int .i64 40), (5, .int .i64 40)]) hf hc rfl rfl sl_36 rfl ⟨rfl, rfl, rfl, rfl, rfl, rfl, rfl, rfl, rfl, rfl, rfl, rfl, rfl, rfl, rfl, rfl, rfl, rfl, trivial⟩ rfl rfl fun b_5 a w hf hc => ?_
    refine stP hf rfl rfl rfl (pBuildS (cells := [.int .i64 15, .int .i64 4, .slice (some ⟨b_5, 0, none⟩) 6 6]) bt_59 rfl rfl) fun a hf => ?_
    obtain ⟨r_12, hr_12, hF⟩ := bnd_some hF
    obtain ⟨G1, hle1, hrd1, hc, hth1⟩ := lend hc k0
    refine stC (vs := [.int .i64 100, .agg #[.int .i64 15, .int .i64 4, .slice (some ⟨b_5, 0, none⟩) 6 6]]) (caps := []) hf rfl rfl rfl en_30 rfl rfl rfl rfl (share_Payback_ok 100 (⟨15, 4, ([20, 30, 30, 40, 40, 40] : List Int)⟩ : share_Pact) hrd1 hc hr_12) ?_
    rintro _ w ⟨p_9, c_9, rfl, hc⟩
    refine ⟨_, rfl, fun a hf => ?_⟩
    replace hc := hth1 _ _ hc
    refine stP hf rfl rfl rfl (pM rfl) fun a hf => ?_
    refine stP hf rfl rfl rfl (pX rfl rfl) fun a hf => ?_
    refine stP hf rfl rfl rfl (pX rfl rfl) fun a hf => ?_
    refine stP hf rfl rfl rfl (pA rfl) fun a hf => ?_
    refine stP hf rfl rfl rfl (pA rfl) fun a hf => ?_
    refine cNil ?_
    refine h10 _ _ ?_
    refine wp_seq_k fun K11 h11 => ?_
    refine cReg ?_
    refine stBS (rows := ([60, 30, 10] : List Int).map encI_i64) (vs := [(0, .int .i64 60), (1, .int .i64 30), (2, .int .i64 10)]) hf hc rfl rfl sl_36 rfl ⟨rfl, rfl, rfl, rfl, rfl, rfl, rfl, rfl, rfl, trivial⟩ rfl rfl fun b_6 a w hf hc => ?_
    obtain ⟨r_13, hr_13, hF⟩ := bnd_some hF
    obtain ⟨G1, hle1, hrd1, hc, hth1⟩ := lend hc k0
    refine stC (vs := [.slice (some ⟨b_6, 0, none⟩) 3 3, .int .i64 9, .int .i64 0]) (caps := []) hf rfl rfl rfl en_34 rfl rfl rfl rfl (share_Turns_ok ([60, 30, 10] : List Int) 9 0 hrd1 hc hr_13) ?_
    rintro _ w ⟨p_10, c_10, rfl, hc⟩
    refine ⟨_, rfl, fun a hf => ?_⟩
    replace hc := hth1 _ _ hc
    refine stP hf rfl rfl rfl (pM rfl) fun a hf => ?_
    refine stP hf rfl rfl rfl (pX rfl rfl) fun a hf => ?_
    refine stP hf rfl rfl rfl (pX rfl rfl) fun a hf => ?_
    refine stP hf rfl rfl rfl (pA rfl) fun a hf => ?_
    refine stP hf rfl rfl rfl (pA rfl) fun a hf => ?_
    refine cNil ?_
    refine h11 _ _ ?_
    refine wp_seq_k fun K12 h12 => ?_
    refine cReg ?_
    refine stBS (rows := ([60, 30, 10] : List Int).map encI_i64) (vs := [(0, .int .i64 60), (1, .int .i64 30), (2, .int .i64 10)]) hf hc rfl rfl sl_36 rfl ⟨rfl, rfl, rfl, rfl, rfl, rfl, rfl, rfl, rfl, trivial⟩ rfl rfl fun b_7 a w hf hc => ?_
    obtain ⟨r_14, hr_14, hF⟩ := bnd_some hF
    obtain ⟨G1, hle1, hrd1, hc, hth1⟩ := lend hc k0
    refine stC (vs := [.slice (some ⟨b_7, 0, none⟩) 3 3, .int .i64 9, .int .i64 1]) (caps := []) hf rfl rfl rfl en_34 rfl rfl rfl rfl (share_Turns_ok ([60, 30, 10] : List Int) 9 1 hrd1 hc hr_14) ?_
    rintro _ w ⟨p_11, c_11, rfl, hc⟩
    refine ⟨_, rfl, fun a hf => ?_⟩
    replace hc := hth1 _ _ hc
    refine stP hf rfl rfl rfl (pM rfl) fun a hf => ?_
    refine stP hf rfl rfl rfl (pX rfl rfl) fun a hf => ?_
    refine stP hf rfl rfl rfl (pX rfl rfl) fun a hf => ?_
    refine stP hf rfl rfl rfl (pA rfl) fun a hf => ?_
    refine stP hf rfl rfl rfl (pA rfl) fun a hf => ?_
    refine cNil ?_
    refine h12 _ _ ?_
    refine wp_seq_k fun K13 h13 => ?_
    refine cReg ?_
    refine stBS (rows := ([60, 30, 10] : List Int).map encI_i64) (vs := [(0, .int .i64 60), (1, .int .i64 30), (2, .int .i64 10)]) hf hc rfl rfl sl_36 rfl ⟨rfl, rfl, rfl, rfl, rfl, rfl, rfl, rfl, rfl, trivial⟩ rfl rfl fun b_8 a w hf hc => ?_
    refine stBS (rows := ([6, 3, 0] : List Int).map encI_i64) (vs := [(0, .int .i64 6), (1, .int .i64 3), (2, .int .i64 0)]) hf hc rfl rfl sl_36 rfl ⟨rfl, rfl, rfl, rfl, rfl, rfl, rfl, rfl, rfl, trivial⟩ rfl rfl fun b_9 a w hf hc => ?_
    obtain ⟨r_15, hr_15, hF⟩ := bnd_some hF
    refine stE hf hc rfl rfl rfl (eC (v := .tuple #[.agg #[.int .i64 r_15.1.N, .int .i64 r_15.1.D], .agg #[.int .i64 r_15.2.1.N, .int .i64 r_15.2.1.D], .int .i64 r_15.2.2]) (vs := [.slice (some ⟨b_8, 0, none⟩) 3 3, .slice (some ⟨b_9, 0, none⟩) 3 3, .int .i64 0]) (caps := []) en_39 rfl rfl rfl rfl (fun w hc => by obtain ⟨G1, hle1, hrd1, hc, hth1⟩ := lend hc k1; obtain ⟨G2, hle2, hrd2, hc, hth2⟩ := lend hc k0; exact (share_Divisors_ok ([60, 30, 10] : List Int) ([6, 3, 0] : List Int) 0 (hrd1.mono hle2) hrd2 hc hr_15).mono fun e w h => ⟨h.1, ((hth1 _ _ ((hth2 _ _ h.2).unpick k0)).unpick k1)⟩)) fun a w hf hc => ?_
    refine stP hf rfl rfl rfl (pM rfl) fun a hf => ?_
    refine stP hf rfl rfl rfl (pX rfl rfl) fun a hf => ?_
    refine stP hf rfl rfl rfl (pX rfl rfl) fun a hf => ?_
    refine stP hf rfl rfl rfl (pX rfl rfl) fun a hf => ?_
    refine stAl (cs := [.int .i64 0, .int .i64 0]) hf hc rfl rfl zr_71 rfl fun b_10 a w hf hc => ?_
    refine stAl (cs := [.int .i64 0, .int .i64 0]) hf hc rfl rfl zr_71 rfl fun b_11 a w hf hc => ?_
    refine stSt (vs := [.int .i64 r_15.1.N, .int .i64 r_15.1.D]) hf hc rfl rfl rfl rfl sz_71 rfl rfl u1 fun w hc => ?_
    refine stSt (vs := [.int .i64 r_15.2.1.N, .int .i64 r_15.2.1.D]) hf hc rfl rfl rfl rfl sz_71 rfl rfl u0 fun w hc => ?_
    refine stP hf rfl rfl rfl (pA rfl) fun a hf => ?_
    refine cNil ?_
    refine h13 _ _ ?_
    refine wp_seq_k fun K14 h14 => ?_
    refine cReg ?_
    refine stBS (rows := ([60, 30, 10] : List Int).map encI_i64) (vs := [(0, .int .i64 60), (1, .int .i64 30), (2, .int .i64 10)]) hf hc rfl rfl sl_36 rfl ⟨rfl, rfl, rfl, rfl, rfl, rfl, rfl, rfl, rfl, trivial⟩ rfl rfl fun b_12 a w hf hc => ?_
    refine stBS (rows := ([7, 2, 0] : List Int).map encI_i64) (vs := [(0, .int .i64 7), (1, .int .i64 2), (2, .int .i64 0)]) hf hc rfl rfl sl_36 rfl ⟨rfl, rfl, rfl, rfl, rfl, rfl, rfl, rfl, rfl, trivial⟩ rfl rfl fun b_13 a w hf hc => ?_
    obtain ⟨r_16, hr_16, hF⟩ := bnd_some hF
    refine stE hf hc rfl rfl rfl (eC (v := .tuple #[.int .i64 r_16.1, .int .i64 r_16.2.1, .int .i64 r_16.2.2]) (vs := [.slice (some ⟨b_12, 0, none⟩) 3 3, .slice (some ⟨b_13, 0, none⟩) 3 3, .int .i64 0]) (caps := []) en_37 rfl rfl rfl rfl (fun w hc => by obtain ⟨G1, hle1, hrd1, hc, hth1⟩ := lend hc k1; obtain ⟨G2, hle2, hrd2, hc, hth2⟩ := lend hc k0; exact (share_Unfair_ok ([60, 30, 10] : List Int) ([7, 2, 0] : List Int) 0 (hrd1.mono hle2) hrd2 hc hr_16).mono fun e w h => ⟨h.1, ((hth1 _ _ ((hth2 _ _ h.2).unpick k0)).unpick k1)⟩)) fun a w hf hc => ?_
    refine stP hf rfl rfl rfl (pM rfl) fun a hf => ?_
    refine stP hf rfl rfl rfl (pX rfl rfl) fun a hf => ?_
    refine stP hf rfl rfl rfl (pX rfl rfl) fun a hf => ?_
    refine stP hf rfl rfl rfl (pX rfl rfl) fun a hf => ?_
    refine stP hf rfl rfl rfl (pA rfl) fun a hf => ?_
    refine stP hf rfl rfl rfl (pA rfl) fun a hf => ?_
    refine stP hf rfl rfl rfl (pA rfl) fun a hf => ?_
    refine cNil ?_
    refine h14 _ _ ?_
    refine wp_seq_k fun K15 h15 => ?_
    refine cReg ?_
    refine stP hf rfl rfl rfl (pM rfl) fun a hf => ?_
    refine stP hf rfl rfl rfl (pEq rfl rfl) fun a hf => ?_
    refine stP hf rfl rfl rfl (pM rfl) fun a hf => ?_
    refine stCut 3 (fun a w => Has 168 a [(2, .int .i64 r_12.2), (4, .int .i64 r_13.2), (6, .int .i64 r_14.2), (10, .int .i64 r_15.2.2), (11, .slice p_9 r_12.1.length c_9), (12, .slice p_10 r_13.1.length c_10), (13, .slice p_11 r_14.1.length c_11), (14, .pointer (some ⟨b_10, 0, none⟩)), (15, .pointer (some ⟨b_11, 0, none⟩)), (16, .int .i64 r_16.1), (17, .int .i64 r_16.2.1), (18, .int .i64 r_16.2.2), (117, .int .i64 r_12.2), (118, .bool (r_12.2 == 0)), (119, .bool (r_12.2 == 0)), (122, .bool ((r_12.2 == 0) && (r_13.2 == 0)))] ∧ Ctx G (.row (some ⟨b_13, 0, none⟩) 3 (([7, 2, 0] : List Int).map encI_i64) 3 1 :: .row (some ⟨b_12, 0, none⟩) 3 (([60, 30, 10] : List Int).map encI_i64) 3 1 :: .box b_11 [.int .i64 r_15.2.1.N, .int .i64 r_15.2.1.D] 71 :: .box b_10 [.int .i64 r_15.1.N, .int .i64 r_15.1.D] 71 :: .row (some ⟨b_9, 0, none⟩) 3 (([6, 3, 0] : List Int).map encI_i64) 3 1 :: .row (some ⟨b_8, 0, none⟩) 3 (([60, 30, 10] : List Int).map encI_i64) 3 1 :: .row (some ⟨b_7, 0, none⟩) 3 (([60, 30, 10] : List Int).map encI_i64) 3 1 :: .row p_11 c_11 (r_14.1.map encI_i64) 3 1 :: .row (some ⟨b_6, 0, none⟩) 3 (([60, 30, 10] : List Int).map encI_i64) 3 1 :: .row p_10 c_10 (r_13.1.map encI_i64) 3 1 :: .row (some ⟨b_5, 0, none⟩) 6 (([20, 30, 30, 40, 40, 40] : List Int).map encI_i64) 3 1 :: .row p_9 c_9 (r_12.1.map encI_i64) 3 1 :: .row p_6 c_6 (r_7.1.Table.map enc_share_Point) 116 2 :: .row p_7 c_7 (r_7.2.map enc_share_Year) 94 5 :: .row p_8 c_8 (r_8.1.map enc_api_Span) 26 2 :: .box b_1 [.slice p_6 r_7.1.Table.length c_6, .int .i64 r_7.1.Credit] 88 :: .row p_5 c_5 (r_5.Rights.map enc_share_Right) 51 3 :: .row p_3 c_3 (r_2.Rights.map enc_share_Right) 51 3 :: .row p_4 c_4 (r_4.1.map enc_api_Span) 26 2 :: .row p_1 c_1 (r.Rights.map enc_share_Right) 51 3 :: .row p_2 c_2 (r_1.1.map encI_i64) 3 1 :: Lf) w) ?_ ?_
    · cases hb : (r_12.2 == 0)
      · rw [hb] at hf
        refine stS hf rfl rfl rfl fun a hf => ?_
        refine stS hf rfl rfl rfl fun a hf => ?_
        refine stP hf rfl rfl rfl (pPf rfl rfl) fun a hf => ?_
        exact cNil ⟨hf.keep ⟨rfl, rfl, rfl, rfl, rfl, rfl, rfl, rfl, rfl, rfl, rfl, rfl, rfl, rfl, rfl, rfl, trivial⟩, hc⟩
      · rw [hb] at hf
        refine stP hf rfl rfl rfl (pM rfl) fun a hf => ?_
        refine stP hf rfl rfl rfl (pEq rfl rfl) fun a hf => ?_
        refine stP hf rfl rfl rfl (pPt rfl rfl) fun a hf => ?_
        exact cNil ⟨hf.keep ⟨rfl, rfl, rfl, rfl, rfl, rfl, rfl, rfl, rfl, rfl, rfl, rfl, rfl, rfl, rfl, rfl, trivial⟩, hc⟩
    intro a w ⟨hf, hc⟩
    refine stP hf rfl rfl rfl (pM rfl) fun a hf => ?_
    refine stCut 3 (fun a w => Has 168 a [(2, .int .i64 r_12.2), (4, .int .i64 r_13.2), (6, .int .i64 r_14.2), (10, .int .i64 r_15.2.2), (11, .slice p_9 r_12.1.length c_9), (12, .slice p_10 r_13.1.length c_10), (13, .slice p_11 r_14.1.length c_11), (14, .pointer (some ⟨b_10, 0, none⟩)), (15, .pointer (some ⟨b_11, 0, none⟩)), (16, .int .i64 r_16.1), (17, .int .i64 r_16.2.1), (18, .int .i64 r_16.2.2), (117, .int .i64 r_12.2), (118, .bool (r_12.2 == 0)), (119, .bool (r_12.2 == 0)), (122, .bool ((r_12.2 == 0) && (r_13.2 == 0))), (123, .bool ((r_12.2 == 0) && (r_13.2 == 0))), (126, .bool (((r_12.2 == 0) && (r_13.2 == 0)) && (r_14.2 == 0)))] ∧ Ctx G (.row (some ⟨b_13, 0, none⟩) 3 (([7, 2, 0] : List Int).map encI_i64) 3 1 :: .row (some ⟨b_12, 0, none⟩) 3 (([60, 30, 10] : List Int).map encI_i64) 3 1 :: .box b_11 [.int .i64 r_15.2.1.N, .int .i64 r_15.2.1.D] 71 :: .box b_10 [.int .i64 r_15.1.N, .int .i64 r_15.1.D] 71 :: .row (some ⟨b_9, 0, none⟩) 3 (([6, 3, 0] : List Int).map encI_i64) 3 1 :: .row (some ⟨b_8, 0, none⟩) 3 (([60, 30, 10] : List Int).map encI_i64) 3 1 :: .row (some ⟨b_7, 0, none⟩) 3 (([60, 30, 10] : List Int).map encI_i64) 3 1 :: .row p_11 c_11 (r_14.1.map encI_i64) 3 1 :: .row (some ⟨b_6, 0, none⟩) 3 (([60, 30, 10] : List Int).map encI_i64) 3 1 :: .row p_10 c_10 (r_13.1.map encI_i64) 3 1 :: .row (some ⟨b_5, 0, none⟩) 6 (([20, 30, 30, 40, 40, 40] : List Int).map encI_i64) 3 1 :: .row p_9 c_9 (r_12.1.map encI_i64) 3 1 :: .row p_6 c_6 (r_7.1.Table.map enc_share_Point) 116 2 :: .row p_7 c_7 (r_7.2.map enc_share_Year) 94 5 :: .row p_8 c_8 (r_8.1.map enc_api_Span) 26 2 :: .box b_1 [.slice p_6 r_7.1.Table.length c_6, .int .i64 r_7.1.Credit] 88 :: .row p_5 c_5 (r_5.Rights.map enc_share_Right) 51 3 :: .row p_3 c_3 (r_2.Rights.map enc_share_Right) 51 3 :: .row p_4 c_4 (r_4.1.map enc_api_Span) 26 2 :: .row p_1 c_1 (r.Rights.map enc_share_Right) 51 3 :: .row p_2 c_2 (r_1.1.map encI_i64) 3 1 :: Lf) w) ?_ ?_
    · cases hb : ((r_12.2 == 0) && (r_13.2 == 0))
      · rw [hb] at hf
        refine stS hf rfl rfl rfl fun a hf => ?_
        refine stS hf rfl rfl rfl fun a hf => ?_
        refine stP hf rfl rfl rfl (pPf rfl rfl) fun a hf => ?_
        exact cNil ⟨hf.keep ⟨rfl, rfl, rfl, rfl, rfl, rfl, rfl, rfl, rfl, rfl, rfl, rfl, rfl, rfl, rfl, rfl, rfl, rfl, trivial⟩, hc⟩
      · rw [hb] at hf
        refine stP hf rfl rfl rfl (pM rfl) fun a hf => ?_
        refine stP hf rfl rfl rfl (pEq rfl rfl) fun a hf => ?_
        refine stP hf rfl rfl rfl (pPt rfl rfl) fun a hf => ?_
        exact cNil ⟨hf.keep ⟨rfl, rfl, rfl, rfl, rfl, rfl, rfl, rfl, rfl, rfl, rfl, rfl, rfl, rfl, rfl, rfl, rfl, rfl, trivial⟩, hc⟩
    intro a w ⟨hf, hc⟩
    refine stP hf rfl rfl rfl (pM rfl) fun a hf => ?_
    refine stCut 3 (fun a w => Has 168 a [(2, .int .i64 r_12.2), (4, .int .i64 r_13.2), (6, .int .i64 r_14.2), (10, .int .i64 r_15.2.2), (11, .slice p_9 r_12.1.length c_9), (12, .slice p_10 r_13.1.length c_10), (13, .slice p_11 r_14.1.length c_11), (14, .pointer (some ⟨b_10, 0, none⟩)), (15, .pointer (some ⟨b_11, 0, none⟩)), (16, .int .i64 r_16.1), (17, .int .i64 r_16.2.1), (18, .int .i64 r_16.2.2), (117, .int .i64 r_12.2), (118, .bool (r_12.2 == 0)), (119, .bool (r_12.2 == 0)), (122, .bool ((r_12.2 == 0) && (r_13.2 == 0))), (123, .bool ((r_12.2 == 0) && (r_13.2 == 0))), (126, .bool (((r_12.2 == 0) && (r_13.2 == 0)) && (r_14.2 == 0))), (127, .bool (((r_12.2 == 0) && (r_13.2 == 0)) && (r_14.2 == 0))), (130, .bool ((((r_12.2 == 0) && (r_13.2 == 0)) && (r_14.2 == 0)) && (r_15.2.2 == 0)))] ∧ Ctx G (.row (some ⟨b_13, 0, none⟩) 3 (([7, 2, 0] : List Int).map encI_i64) 3 1 :: .row (some ⟨b_12, 0, none⟩) 3 (([60, 30, 10] : List Int).map encI_i64) 3 1 :: .box b_11 [.int .i64 r_15.2.1.N, .int .i64 r_15.2.1.D] 71 :: .box b_10 [.int .i64 r_15.1.N, .int .i64 r_15.1.D] 71 :: .row (some ⟨b_9, 0, none⟩) 3 (([6, 3, 0] : List Int).map encI_i64) 3 1 :: .row (some ⟨b_8, 0, none⟩) 3 (([60, 30, 10] : List Int).map encI_i64) 3 1 :: .row (some ⟨b_7, 0, none⟩) 3 (([60, 30, 10] : List Int).map encI_i64) 3 1 :: .row p_11 c_11 (r_14.1.map encI_i64) 3 1 :: .row (some ⟨b_6, 0, none⟩) 3 (([60, 30, 10] : List Int).map encI_i64) 3 1 :: .row p_10 c_10 (r_13.1.map encI_i64) 3 1 :: .row (some ⟨b_5, 0, none⟩) 6 (([20, 30, 30, 40, 40, 40] : List Int).map encI_i64) 3 1 :: .row p_9 c_9 (r_12.1.map encI_i64) 3 1 :: .row p_6 c_6 (r_7.1.Table.map enc_share_Point) 116 2 :: .row p_7 c_7 (r_7.2.map enc_share_Year) 94 5 :: .row p_8 c_8 (r_8.1.map enc_api_Span) 26 2 :: .box b_1 [.slice p_6 r_7.1.Table.length c_6, .int .i64 r_7.1.Credit] 88 :: .row p_5 c_5 (r_5.Rights.map enc_share_Right) 51 3 :: .row p_3 c_3 (r_2.Rights.map enc_share_Right) 51 3 :: .row p_4 c_4 (r_4.1.map enc_api_Span) 26 2 :: .row p_1 c_1 (r.Rights.map enc_share_Right) 51 3 :: .row p_2 c_2 (r_1.1.map encI_i64) 3 1 :: Lf) w) ?_ ?_
    · cases hb : (((r_12.2 == 0) && (r_13.2 == 0)) && (r_14.2 == 0))
      · rw [hb] at hf
        refine stS hf rfl rfl rfl fun a hf => ?_
        refine stS hf rfl rfl rfl fun a hf => ?_
        refine stP hf rfl rfl rfl (pPf rfl rfl) fun a hf => ?_
        exact cNil ⟨hf.keep ⟨rfl, rfl, rfl, rfl, rfl, rfl, rfl, rfl, rfl, rfl, rfl, rfl, rfl, rfl, rfl, rfl, rfl, rfl, rfl, rfl, trivial⟩, hc⟩
      · rw [hb] at hf
        refine stP hf rfl rfl rfl (pM rfl) fun a hf => ?_
        refine stP hf rfl rfl rfl (pEq rfl rfl) fun a hf => ?_
        refine stP hf rfl rfl rfl (pPt rfl rfl) fun a hf => ?_
        exact cNil ⟨hf.keep ⟨rfl, rfl, rfl, rfl, rfl, rfl, rfl, rfl, rfl, rfl, rfl, rfl, rfl, rfl, rfl, rfl, rfl, rfl, rfl, rfl, trivial⟩, hc⟩
    intro a w ⟨hf, hc⟩
    refine stP hf rfl rfl rfl (pM rfl) fun a hf => ?_
    refine stCut 3 (fun a w => Has 168 a [(2, .int .i64 r_12.2), (4, .int .i64 r_13.2), (6, .int .i64 r_14.2), (10, .int .i64 r_15.2.2), (11, .slice p_9 r_12.1.length c_9), (12, .slice p_10 r_13.1.length c_10), (13, .slice p_11 r_14.1.length c_11), (14, .pointer (some ⟨b_10, 0, none⟩)), (15, .pointer (some ⟨b_11, 0, none⟩)), (16, .int .i64 r_16.1), (17, .int .i64 r_16.2.1), (18, .int .i64 r_16.2.2), (117, .int .i64 r_12.2), (118, .bool (r_12.2 == 0)), (119, .bool (r_12.2 == 0)), (122, .bool ((r_12.2 == 0) && (r_13.2 == 0))), (123, .bool ((r_12.2 == 0) && (r_13.2 == 0))), (126, .bool (((r_12.2 == 0) && (r_13.2 == 0)) && (r_14.2 == 0))), (127, .bool (((r_12.2 == 0) && (r_13.2 == 0)) && (r_14.2 == 0))), (130, .bool ((((r_12.2 == 0) && (r_13.2 == 0)) && (r_14.2 == 0)) && (r_15.2.2 == 0))), (131, .bool ((((r_12.2 == 0) && (r_13.2 == 0)) && (r_14.2 == 0)) && (r_15.2.2 == 0))), (134, .bool (((((r_12.2 == 0) && (r_13.2 == 0)) && (r_14.2 == 0)) && (r_15.2.2 == 0)) && (r_16.2.2 == 0)))] ∧ Ctx G (.row (some ⟨b_13, 0, none⟩) 3 (([7, 2, 0] : List Int).map encI_i64) 3 1 :: .row (some ⟨b_12, 0, none⟩) 3 (([60, 30, 10] : List Int).map encI_i64) 3 1 :: .box b_11 [.int .i64 r_15.2.1.N, .int .i64 r_15.2.1.D] 71 :: .box b_10 [.int .i64 r_15.1.N, .int .i64 r_15.1.D] 71 :: .row (some ⟨b_9, 0, none⟩) 3 (([6, 3, 0] : List Int).map encI_i64) 3 1 :: .row (some ⟨b_8, 0, none⟩) 3 (([60, 30, 10] : List Int).map encI_i64) 3 1 :: .row (some ⟨b_7, 0, none⟩) 3 (([60, 30, 10] : List Int).map encI_i64) 3 1 :: .row p_11 c_11 (r_14.1.map encI_i64) 3 1 :: .row (some ⟨b_6, 0, none⟩) 3 (([60, 30, 10] : List Int).map encI_i64) 3 1 :: .row p_10 c_10 (r_13.1.map encI_i64) 3 1 :: .row (some ⟨b_5, 0, none⟩) 6 (([20, 30, 30, 40, 40, 40] : List Int).map encI_i64) 3 1 :: .row p_9 c_9 (r_12.1.map encI_i64) 3 1 :: .row p_6 c_6 (r_7.1.Table.map enc_share_Point) 116 2 :: .row p_7 c_7 (r_7.2.map enc_share_Year) 94 5 :: .row p_8 c_8 (r_8.1.map enc_api_Span) 26 2 :: .box b_1 [.slice p_6 r_7.1.Table.length c_6, .int .i64 r_7.1.Credit] 88 :: .row p_5 c_5 (r_5.Rights.map enc_share_Right) 51 3 :: .row p_3 c_3 (r_2.Rights.map enc_share_Right) 51 3 :: .row p_4 c_4 (r_4.1.map enc_api_Span) 26 2 :: .row p_1 c_1 (r.Rights.map enc_share_Right) 51 3 :: .row p_2 c_2 (r_1.1.map encI_i64) 3 1 :: Lf) w) ?_ ?_
    · cases hb : ((((r_12.2 == 0) && (r_13.2 == 0)) && (r_14.2 == 0)) && (r_15.2.2 == 0))
      · rw [hb] at hf
        refine stS hf rfl rfl rfl fun a hf => ?_
        refine stS hf rfl rfl rfl fun a hf => ?_
        refine stP hf rfl rfl rfl (pPf rfl rfl) fun a hf => ?_
        exact cNil ⟨hf.keep ⟨rfl, rfl, rfl, rfl, rfl, rfl, rfl, rfl, rfl, rfl, rfl, rfl, rfl, rfl, rfl, rfl, rfl, rfl, rfl, rfl, rfl, rfl, trivial⟩, hc⟩
      · rw [hb] at hf
        refine stP hf rfl rfl rfl (pM rfl) fun a hf => ?_
        refine stP hf rfl rfl rfl (pEq rfl rfl) fun a hf => ?_
        refine stP hf rfl rfl rfl (pPt rfl rfl) fun a hf => ?_
        exact cNil ⟨hf.keep ⟨rfl, rfl, rfl, rfl, rfl, rfl, rfl, rfl, rfl, rfl, rfl, rfl, rfl, rfl, rfl, rfl, rfl, rfl, rfl, rfl, rfl, rfl, trivial⟩, hc⟩
    intro a w ⟨hf, hc⟩
    refine stP hf rfl rfl rfl (pM rfl) fun a hf => ?_
    obtain ⟨t_4, ht_4, hF⟩ := bnd_some hF
    refine stCut 4 (fun a w => Has 168 a [(2, .int .i64 r_12.2), (4, .int .i64 r_13.2), (6, .int .i64 r_14.2), (10, .int .i64 r_15.2.2), (11, .slice p_9 r_12.1.length c_9), (12, .slice p_10 r_13.1.length c_10), (13, .slice p_11 r_14.1.length c_11), (14, .pointer (some ⟨b_10, 0, none⟩)), (15, .pointer (some ⟨b_11, 0, none⟩)), (16, .int .i64 r_16.1), (17, .int .i64 r_16.2.1), (18, .int .i64 r_16.2.2), (117, .int .i64 r_12.2), (118, .bool (r_12.2 == 0)), (119, .bool (r_12.2 == 0)), (122, .bool ((r_12.2 == 0) && (r_13.2 == 0))), (123, .bool ((r_12.2 == 0) && (r_13.2 == 0))), (126, .bool (((r_12.2 == 0) && (r_13.2 == 0)) && (r_14.2 == 0))), (127, .bool (((r_12.2 == 0) && (r_13.2 == 0)) && (r_14.2 == 0))), (130, .bool ((((r_12.2 == 0) && (r_13.2 == 0)) && (r_14.2 == 0)) && (r_15.2.2 == 0))), (131, .bool ((((r_12.2 == 0) && (r_13.2 == 0)) && (r_14.2 == 0)) && (r_15.2.2 == 0))), (134, .bool (((((r_12.2 == 0) && (r_13.2 == 0)) && (r_14.2 == 0)) && (r_15.2.2 == 0)) && (r_16.2.2 == 0))), (135, .bool (((((r_12.2 == 0) && (r_13.2 == 0)) && (r_14.2 == 0)) && (r_15.2.2 == 0)) && (r_16.2.2 == 0))), (139, .bool t_4)] ∧ Ctx G (.row (some ⟨b_13, 0, none⟩) 3 (([7, 2, 0] : List Int).map encI_i64) 3 1 :: .row (some ⟨b_12, 0, none⟩) 3 (([60, 30, 10] : List Int).map encI_i64) 3 1 :: .box b_11 [.int .i64 r_15.2.1.N, .int .i64 r_15.2.1.D] 71 :: .box b_10 [.int .i64 r_15.1.N, .int .i64 r_15.1.D] 71 :: .row (some ⟨b_9, 0, none⟩) 3 (([6, 3, 0] : List Int).map encI_i64) 3 1 :: .row (some ⟨b_8, 0, none⟩) 3 (([60, 30, 10] : List Int).map encI_i64) 3 1 :: .row (some ⟨b_7, 0, none⟩) 3 (([60, 30, 10] : List Int).map encI_i64) 3 1 :: .row p_11 c_11 (r_14.1.map encI_i64) 3 1 :: .row (some ⟨b_6, 0, none⟩) 3 (([60, 30, 10] : List Int).map encI_i64) 3 1 :: .row p_10 c_10 (r_13.1.map encI_i64) 3 1 :: .row (some ⟨b_5, 0, none⟩) 6 (([20, 30, 30, 40, 40, 40] : List Int).map encI_i64) 3 1 :: .row p_9 c_9 (r_12.1.map encI_i64) 3 1 :: .row p_6 c_6 (r_7.1.Table.map enc_share_Point) 116 2 :: .row p_7 c_7 (r_7.2.map enc_share_Year) 94 5 :: .row p_8 c_8 (r_8.1.map enc_api_Span) 26 2 :: .box b_1 [.slice p_6 r_7.1.Table.length c_6, .int .i64 r_7.1.Credit] 88 :: .row p_5 c_5 (r_5.Rights.map enc_share_Right) 51 3 :: .row p_3 c_3 (r_2.Rights.map enc_share_Right) 51 3 :: .row p_4 c_4 (r_4.1.map enc_api_Span) 26 2 :: .row p_1 c_1 (r.Rights.map enc_share_Right) 51 3 :: .row p_2 c_2 (r_1.1.map encI_i64) 3 1 :: Lf) w) ?_ ?_
    · cases hb : (((((r_12.2 == 0) && (r_13.2 == 0)) && (r_14.2 == 0)) && (r_15.2.2 == 0)) && (r_16.2.2 == 0))
      · rw [hb] at hf
        have hF := condF hb ht_4
        obtain rfl := Option.some.inj hF
        refine stS hf rfl rfl rfl fun a hf => ?_
        refine stS hf rfl rfl rfl fun a hf => ?_
        refine stS hf rfl rfl rfl fun a hf => ?_
        refine stP hf rfl rfl rfl (pPf rfl rfl) fun a hf => ?_
        exact cNil ⟨hf.keep ⟨rfl, rfl, rfl, rfl, rfl, rfl, rfl, rfl, rfl, rfl, rfl, rfl, rfl, rfl, rfl, rfl, rfl, rfl, rfl, rfl, rfl, rfl, rfl, rfl, trivial⟩, hc⟩
      · rw [hb] at hf
        have hF := condT hb ht_4
        refine stP hf rfl rfl rfl (pM rfl) fun a hf => ?_
        refine stBS (rows := ([20, 20, 15, 15, 15, 15] : List Int).map encI_i64) (vs := [(0, .int .i64 20), (1, .int .i64 20), (2, .int .i64 15), (3, .int .i64 15), (4, .int .i64 15), (5, .int .i64 15)]) hf hc rfl rfl sl_36 rfl ⟨rfl, rfl, rfl, rfl, rfl, rfl, rfl, rfl, rfl, rfl, rfl, rfl, rfl, rfl, rfl, rfl, rfl, rfl, trivial⟩ rfl rfl fun b_14 a w hf hc => ?_
        obtain ⟨r_17, hr_17, hF⟩ := bnd_some hF
        refine stE hf hc rfl rfl rfl (eC (v := .bool r_17) (vs := [.slice p_9 r_12.1.length c_9, .slice (some ⟨b_14, 0, none⟩) 6 6]) (caps := []) en_20 rfl rfl rfl rfl (fun w hc => by obtain ⟨G1, hle1, hrd1, hc, hth1⟩ := lend hc k12; obtain ⟨G2, hle2, hrd2, hc, hth2⟩ := lend hc k0; exact (kit_Same_int_ok r_12.1 ([20, 20, 15, 15, 15, 15] : List Int) (hrd1.mono hle2) hrd2 hc hr_17).mono fun e w h => ⟨h.1, ((hth1 _ _ ((hth2 _ _ h.2).unpick k0)).unpick k12)⟩)) fun a w hf hc => ?_
        refine stP hf rfl rfl rfl (pPt rfl rfl) fun a hf => ?_
        replace hc := hc.drop k0
        obtain rfl := Option.some.inj hF
        exact cNil ⟨hf.keep ⟨rfl, rfl, rfl, rfl, rfl, rfl, rfl, rfl, rfl, rfl, rfl, rfl, rfl, rfl, rfl, rfl, rfl, rfl, rfl, rfl, rfl, rfl, rfl, rfl, trivial⟩, hc⟩
    intro a w ⟨hf, hc⟩
    refine stP hf rfl rfl rfl (pM rfl) fun a hf => ?_
    obtain ⟨t_5, ht_5, hF⟩ := bnd_some hF
    refine stCut 4 (fun a w => Has 168 a [(2, .int .i64 r_12.2), (4, .int .i64 r_13.2), (6, .int .i64 r_14.2), (10, .int .i64 r_15.2.2), (11, .slice p_9 r_12.1.length c_9), (12, .slice p_10 r_13.1.length c_10), (13, .slice p_11 r_14.1.length c_11), (14, .pointer (some ⟨b_10, 0, none⟩)), (15, .pointer (some ⟨b_11, 0, none⟩)), (16, .int .i64 r_16.1), (17, .int .i64 r_16.2.1), (18, .int .i64 r_16.2.2), (117, .int .i64 r_12.2), (118, .bool (r_12.2 == 0)), (119, .bool (r_12.2 == 0)), (122, .bool ((r_12.2 == 0) && (r_13.2 == 0))), (123, .bool ((r_12.2 == 0) && (r_13.2 == 0))), (126, .bool (((r_12.2 == 0) && (r_13.2 == 0)) && (r_14.2 == 0))), (127, .bool (((r_12.2 == 0) && (r_13.2 == 0)) && (r_14.2 == 0))), (130, .bool ((((r_12.2 == 0) && (r_13.2 == 0)) && (r_14.2 == 0)) && (r_15.2.2 == 0))), (131, .bool ((((r_12.2 == 0) && (r_13.2 == 0)) && (r_14.2 == 0)) && (r_15.2.2 == 0))), (134, .bool (((((r_12.2 == 0) && (r_13.2 == 0)) && (r_14.2 == 0)) && (r_15.2.2 == 0)) && (r_16.2.2 == 0))), (135, .bool (((((r_12.2 == 0) && (r_13.2 == 0)) && (r_14.2 == 0)) && (r_15.2.2 == 0)) && (r_16.2.2 == 0))), (139, .bool t_4), (140, .bool t_4), (144, .bool t_5)] ∧ Ctx G (.row (some ⟨b_13, 0, none⟩) 3 (([7, 2, 0] : List Int).map encI_i64) 3 1 :: .row (some ⟨b_12, 0, none⟩) 3 (([60, 30, 10] : List Int).map encI_i64) 3 1 :: .box b_11 [.int .i64 r_15.2.1.N, .int .i64 r_15.2.1.D] 71 :: .box b_10 [.int .i64 r_15.1.N, .int .i64 r_15.1.D] 71 :: .row (some ⟨b_9, 0, none⟩) 3 (([6, 3, 0] : List Int).map encI_i64) 3 1 :: .row (some ⟨b_8, 0, none⟩) 3 (([60, 30, 10] : List Int).map encI_i64) 3 1 :: .row (some ⟨b_7, 0, none⟩) 3 (([60, 30, 10] : List Int).map encI_i64) 3 1 :: .row p_11 c_11 (r_14.1.map encI_i64) 3 1 :: .row (some ⟨b_6, 0, none⟩) 3 (([60, 30, 10] : List Int).map encI_i64) 3 1 :: .row p_10 c_10 (r_13.1.map encI_i64) 3 1 :: .row (some ⟨b_5, 0, none⟩) 6 (([20, 30, 30, 40, 40, 40] : List Int).map encI_i64) 3 1 :: .row p_9 c_9 (r_12.1.map encI_i64) 3 1 :: .row p_6 c_6 (r_7.1.Table.map enc_share_Point) 116 2 :: .row p_7 c_7 (r_7.2.map enc_share_Year) 94 5 :: .row p_8 c_8 (r_8.1.map enc_api_Span) 26 2 :: .box b_1 [.slice p_6 r_7.1.Table.length c_6, .int .i64 r_7.1.Credit] 88 :: .row p_5 c_5 (r_5.Rights.map enc_share_Right) 51 3 :: .row p_3 c_3 (r_2.Rights.map enc_share_Right) 51 3 :: .row p_4 c_4 (r_4.1.map enc_api_Span) 26 2 :: .row p_1 c_1 (r.Rights.map enc_share_Right) 51 3 :: .row p_2 c_2 (r_1.1.map encI_i64) 3 1 :: Lf) w) ?_ ?_
    · cases hb : t_4
      · rw [hb] at hf
        have hF := condF hb ht_5
        obtain rfl := Option.some.inj hF
        refine stS hf rfl rfl rfl fun a hf => ?_
        refine stS hf rfl rfl rfl fun a hf => ?_
        refine stS hf rfl rfl rfl fun a hf => ?_
        refine stP hf rfl rfl rfl (pPf rfl rfl) fun a hf => ?_
        exact cNil ⟨hf.keep ⟨rfl, rfl, rfl, rfl, rfl, rfl, rfl, rfl, rfl, rfl, rfl, rfl, rfl, rfl, rfl, rfl, rfl, rfl, rfl, rfl, rfl, rfl, rfl, rfl, rfl, rfl, trivial⟩, hc⟩
      · rw [hb] at hf
        have hF := condT hb ht_5
        refine stP hf rfl rfl rfl (pM rfl) fun a hf => ?_
        refine stBS (rows := ([6, 3, 0] : List Int).map encI_i64) (vs := [(0, .int .i64 6), (1, .int .i64 3), (2, .int .i64 0)]) hf hc rfl rfl sl_36 rfl ⟨rfl, rfl, rfl, rfl, rfl, rfl, rfl, rfl, rfl, trivial⟩ rfl rfl fun b_15 a w hf hc => ?_
        obtain ⟨r_18, hr_18, hF⟩ := bnd_some hF
        refine stE hf hc rfl rfl rfl (eC (v := .bool r_18) (vs := [.slice p_10 r_13.1.length c_10, .slice (some ⟨b_15, 0, none⟩) 3 3]) (caps := []) en_20 rfl rfl rfl rfl (fun w hc => by obtain ⟨G1, hle1, hrd1, hc, hth1⟩ := lend hc k10; obtain ⟨G2, hle2, hrd2, hc, hth2⟩ := lend hc k0; exact (kit_Same_int_ok r_13.1 ([6, 3, 0] : List Int) (hrd1.mono hle2) hrd2 hc hr_18).mono fun e w h => ⟨h.1, ((hth1 _ _ ((hth2 _ _ h.2).unpick k0)).unpick k10)⟩)) fun a w hf hc => ?_
        refine stP hf rfl rfl rfl (pPt rfl rfl) fun a hf => ?_
        replace hc := hc.drop k0
        obtain rfl := Option.some.inj hF
        exact cNil ⟨hf.keep ⟨rfl, rfl, rfl, rfl, rfl, rfl, rfl, rfl, rfl, rfl, rfl, rfl, rfl, rfl, rfl, rfl, rfl, rfl, rfl, rfl, rfl, rfl, rfl, rfl, rfl, rfl, trivial⟩, hc⟩
    intro a w ⟨hf, hc⟩
    refine stP hf rfl rfl rfl (pM rfl) fun a hf => ?_
    obtain ⟨t_6, ht_6, hF⟩ := bnd_some hF
    refine stCut 4 (fun a w => Has 168 a [(2, .int .i64 r_12.2), (4, .int .i64 r_13.2), (6, .int .i64 r_14.2), (10, .int .i64 r_15.2.2), (11, .slice p_9 r_12.1.length c_9), (12, .slice p_10 r_13.1.length c_10), (13, .slice p_11 r_14.1.length c_11), (14, .pointer (some ⟨b_10, 0, none⟩)), (15, .pointer (some ⟨b_11, 0, none⟩)), (16, .int .i64 r_16.1), (17, .int .i64 r_16.2.1), (18, .int .i64 r_16.2.2), (117, .int .i64 r_12.2), (118, .bool (r_12.2 == 0)), (119, .bool (r_12.2 == 0)), (122, .bool ((r_12.2 == 0) && (r_13.2 == 0))), (123, .bool ((r_12.2 == 0) && (r_13.2 == 0))), (126, .bool (((r_12.2 == 0) && (r_13.2 == 0)) && (r_14.2 == 0))), (127, .bool (((r_12.2 == 0) && (r_13.2 == 0)) && (r_14.2 == 0))), (130, .bool ((((r_12.2 == 0) && (r_13.2 == 0)) && (r_14.2 == 0)) && (r_15.2.2 == 0))), (131, .bool ((((r_12.2 == 0) && (r_13.2 == 0)) && (r_14.2 == 0)) && (r_15.2.2 == 0))), (134, .bool (((((r_12.2 == 0) && (r_13.2 == 0)) && (r_14.2 == 0)) && (r_15.2.2 == 0)) && (r_16.2.2 == 0))), (135, .bool (((((r_12.2 == 0) && (r_13.2 == 0)) && (r_14.2 == 0)) && (r_15.2.2 == 0)) && (r_16.2.2 == 0))), (139, .bool t_4), (140, .bool t_4), (144, .bool t_5), (145, .bool t_5), (149, .bool t_6)] ∧ Ctx G (.row (some ⟨b_13, 0, none⟩) 3 (([7, 2, 0] : List Int).map encI_i64) 3 1 :: .row (some ⟨b_12, 0, none⟩) 3 (([60, 30, 10] : List Int).map encI_i64) 3 1 :: .box b_11 [.int .i64 r_15.2.1.N, .int .i64 r_15.2.1.D] 71 :: .box b_10 [.int .i64 r_15.1.N, .int .i64 r_15.1.D] 71 :: .row (some ⟨b_9, 0, none⟩) 3 (([6, 3, 0] : List Int).map encI_i64) 3 1 :: .row (some ⟨b_8, 0, none⟩) 3 (([60, 30, 10] : List Int).map encI_i64) 3 1 :: .row (some ⟨b_7, 0, none⟩) 3 (([60, 30, 10] : List Int).map encI_i64) 3 1 :: .row p_11 c_11 (r_14.1.map encI_i64) 3 1 :: .row (some ⟨b_6, 0, none⟩) 3 (([60, 30, 10] : List Int).map encI_i64) 3 1 :: .row p_10 c_10 (r_13.1.map encI_i64) 3 1 :: .row (some ⟨b_5, 0, none⟩) 6 (([20, 30, 30, 40, 40, 40] : List Int).map encI_i64) 3 1 :: .row p_9 c_9 (r_12.1.map encI_i64) 3 1 :: .row p_6 c_6 (r_7.1.Table.map enc_share_Point) 116 2 :: .row p_7 c_7 (r_7.2.map enc_share_Year) 94 5 :: .row p_8 c_8 (r_8.1.map enc_api_Span) 26 2 :: .box b_1 [.slice p_6 r_7.1.Table.length c_6, .int .i64 r_7.1.Credit] 88 :: .row p_5 c_5 (r_5.Rights.map enc_share_Right) 51 3 :: .row p_3 c_3 (r_2.Rights.map enc_share_Right) 51 3 :: .row p_4 c_4 (r_4.1.map enc_api_Span) 26 2 :: .row p_1 c_1 (r.Rights.map enc_share_Right) 51 3 :: .row p_2 c_2 (r_1.1.map encI_i64) 3 1 :: Lf) w) ?_ ?_
    · cases hb : t_5
      · rw [hb] at hf
        have hF := condF hb ht_6
        obtain rfl := Option.some.inj hF
        refine stS hf rfl rfl rfl fun a hf => ?_
        refine stS hf rfl rfl rfl fun a hf => ?_
        refine stS hf rfl rfl rfl fun a hf => ?_
        refine stP hf rfl rfl rfl (pPf rfl rfl) fun a hf => ?_
        exact cNil ⟨hf.keep ⟨rfl, rfl, rfl, rfl, rfl, rfl, rfl, rfl, rfl, rfl, rfl, rfl, rfl, rfl, rfl, rfl, rfl, rfl, rfl, rfl, rfl, rfl, rfl, rfl, rfl, rfl, rfl, rfl, trivial⟩, hc⟩
      · rw [hb] at hf
        have hF := condT hb ht_6
        refine stP hf rfl rfl rfl (pM rfl) fun a hf => ?_
        refine stBS (rows := ([5, 3, 1] : List Int).map encI_i64) (vs := [(0, .int .i64 5), (1, .int .i64 3), (2, .int .i64 1)]) hf hc rfl rfl sl_36 rfl ⟨rfl, rfl, rfl, rfl, rfl, rfl, rfl, rfl, rfl, trivial⟩ rfl rfl fun b_16 a w hf hc => ?_
        obtain ⟨r_19, hr_19, hF⟩ := bnd_some hF
        refine stE hf hc rfl rfl rfl (eC (v := .bool r_19) (vs := [.slice p_11 r_14.1.length c_11, .slice (some ⟨b_16, 0, none⟩) 3 3]) (caps := []) en_20 rfl rfl rfl rfl (fun w hc => by obtain ⟨G1, hle1, hrd1, hc, hth1⟩ := lend hc k8; obtain ⟨G2, hle2, hrd2, hc, hth2⟩ := lend hc k0; exact (kit_Same_int_ok r_14.1 ([5, 3, 1] : List Int) (hrd1.mono hle2) hrd2 hc hr_19).mono fun e w h => ⟨h.1, ((hth1 _ _ ((hth2 _ _ h.2).unpick k0)).unpick k8)⟩)) fun a w hf hc => ?_
        refine stP hf rfl rfl rfl (pPt rfl rfl) fun a hf => ?_
        replace hc := hc.drop k0
        obtain rfl := Option.some.inj hF
        exact cNil ⟨hf.keep ⟨rfl, rfl, rfl, rfl, rfl, rfl, rfl, rfl, rfl, rfl, rfl, rfl, rfl, rfl, rfl, rfl, rfl, rfl, rfl, rfl, rfl, rfl, rfl, rfl, rfl, rfl, rfl, rfl, trivial⟩, hc⟩
    intro a w ⟨hf, hc⟩
    refine stP hf rfl rfl rfl (pM rfl) fun a hf => ?_
    refine stCut 4 (fun a w => Has 168 a ((2, .int .i64 r_12.2) :: (4, .int .i64 r_13.2) :: (6, .int .i64 r_14.2) :: (10, .int .i64 r_15.2.2) :: (11, .slice p_9 r_12.1.length c_9) :: (12, .slice p_10 r_13.1.length c_10) :: (13, .slice p_11 r_14.1.length c_11) :: (14, .pointer (some ⟨b_10, 0, none⟩)) :: (15, .pointer (some ⟨b_11, 0, none⟩)) :: (16, .int .i64 r_16.1) :: (17, .int .i64 r_16.2.1) :: (18, .int .i64 r_16.2.2) :: (117, .int .i64 r_12.2) :: (118, .bool (r_12.2 == 0)) :: (119, .bool (r_12.2 == 0)) :: (122, .bool ((r_12.2 == 0) && (r_13.2 == 0))) :: (123, .bool ((r_12.2 == 0) && (r_13.2 == 0))) :: (126, .bool (((r_12.2 == 0) && (r_13.2 == 0)) && (r_14.2 == 0))) :: (127, .bool (((r_12.2 == 0) && (r_13.2 == 0)) && (r_14.2 == 0))) :: (130, .bool ((((r_12.2 == 0) && (r_13.2 == 0)) && (r_14.2 == 0)) && (r_15.2.2 == 0))) :: (131, .bool ((((r_12.2 == 0) && (r_13.2 == 0)) && (r_14.2 == 0)) && (r_15.2.2 == 0))) :: (134, .bool (((((r_12.2 == 0) && (r_13.2 == 0)) && (r_14.2 == 0)) && (r_15.2.2 == 0)) && (r_16.2.2 == 0))) :: (135, .bool (((((r_12.2 == 0) && (r_13.2 == 0)) && (r_14.2 == 0)) && (r_15.2.2 == 0)) && (r_16.2.2 == 0))) :: (139, .bool t_4) :: (140, .bool t_4) :: (144, .bool t_5) :: (145, .bool t_5) :: (149, .bool t_6) :: (150, .bool t_6) :: (154, .bool (t_6 && (r_15.1.N == 10 && r_15.1.D == 1))) :: []) ∧ Ctx G (.row (some ⟨b_13, 0, none⟩) 3 (([7, 2, 0] : List Int).map encI_i64) 3 1 :: .row (some ⟨b_12, 0, none⟩) 3 (([60, 30, 10] : List Int).map encI_i64) 3 1 :: .box b_11 [.int .i64 r_15.2.1.N, .int .i64 r_15.2.1.D] 71 :: .box b_10 [.int .i64 r_15.1.N, .int .i64 r_15.1.D] 71 :: .row (some ⟨b_9, 0, none⟩) 3 (([6, 3, 0] : List Int).map encI_i64) 3 1 :: .row (some ⟨b_8, 0, none⟩) 3 (([60, 30, 10] : List Int).map encI_i64) 3 1 :: .row (some ⟨b_7, 0, none⟩) 3 (([60, 30, 10] : List Int).map encI_i64) 3 1 :: .row p_11 c_11 (r_14.1.map encI_i64) 3 1 :: .row (some ⟨b_6, 0, none⟩) 3 (([60, 30, 10] : List Int).map encI_i64) 3 1 :: .row p_10 c_10 (r_13.1.map encI_i64) 3 1 :: .row (some ⟨b_5, 0, none⟩) 6 (([20, 30, 30, 40, 40, 40] : List Int).map encI_i64) 3 1 :: .row p_9 c_9 (r_12.1.map encI_i64) 3 1 :: .row p_6 c_6 (r_7.1.Table.map enc_share_Point) 116 2 :: .row p_7 c_7 (r_7.2.map enc_share_Year) 94 5 :: .row p_8 c_8 (r_8.1.map enc_api_Span) 26 2 :: .box b_1 [.slice p_6 r_7.1.Table.length c_6, .int .i64 r_7.1.Credit] 88 :: .row p_5 c_5 (r_5.Rights.map enc_share_Right) 51 3 :: .row p_3 c_3 (r_2.Rights.map enc_share_Right) 51 3 :: .row p_4 c_4 (r_4.1.map enc_api_Span) 26 2 :: .row p_1 c_1 (r.Rights.map enc_share_Right) 51 3 :: .row p_2 c_2 (r_1.1.map encI_i64) 3 1 :: Lf) w) ?_ ?_
    · cases hb : t_6
      · rw [hb] at hf
        refine stS hf rfl rfl rfl fun a hf => ?_
        refine stS hf rfl rfl rfl fun a hf => ?_
        refine stS hf rfl rfl rfl fun a hf => ?_
        refine stP hf rfl rfl rfl (pPf rfl rfl) fun a hf => ?_
        exact cNil ⟨hf.keep ⟨rfl, rfl, rfl, rfl, rfl, rfl, rfl, rfl, rfl, rfl, rfl, rfl, rfl, rfl, rfl, rfl, rfl, rfl, rfl, rfl, rfl, rfl, rfl, rfl, rfl, rfl, rfl, rfl, rfl, rfl, trivial⟩, hc⟩
      · rw [hb] at hf
        refine stE hf hc rfl rfl rfl (eLdN (vs := [.int .i64 r_15.1.N, .int .i64 r_15.1.D]) ag_71 rfl rfl (cells_box (n := 2) m3 rfl)) fun a w hf hc => ?_
        refine stP hf rfl rfl rfl (pBuildS (cells := [.int .i64 10, .int .i64 1]) bt_71 rfl rfl) fun a hf => ?_
        refine stP hf rfl rfl rfl (pEqA ge_71 rfl rfl (eqs_71 _ _ _ _)) fun a hf => ?_
        refine stP hf rfl rfl rfl (pPt rfl rfl) fun a hf => ?_
        exact cNil ⟨hf.keep ⟨rfl, rfl, rfl, rfl, rfl, rfl, rfl, rfl, rfl, rfl, rfl, rfl, rfl, rfl, rfl, rfl, rfl, rfl, rfl, rfl, rfl, rfl, rfl, rfl, rfl, rfl, rfl, rfl, rfl, rfl, trivial⟩, hc⟩
    intro a w ⟨hf, hc⟩
    refine stP hf rfl rfl rfl (pM rfl) fun a hf => ?_
    refine stCut 4 (fun a w => Has 168 a ((2, .int .i64 r_12.2) :: (4, .int .i64 r_13.2) :: (6, .int .i64 r_14.2) :: (10, .int .i64 r_15.2.2) :: (11, .slice p_9 r_12.1.length c_9) :: (12, .slice p_10 r_13.1.length c_10) :: (13, .slice p_11 r_14.1.length c_11) :: (14, .pointer (some ⟨b_10, 0, none⟩)) :: (15, .pointer (some ⟨b_11, 0, none⟩)) :: (16, .int .i64 r_16.1) :: (17, .int .i64 r_16.2.1) :: (18, .int .i64 r_16.2.2) :: (117, .int .i64 r_12.2) :: (118, .bool (r_12.2 == 0)) :: (119, .bool (r_12.2 == 0)) :: (122, .bool ((r_12.2 == 0) && (r_13.2 == 0))) :: (123, .bool ((r_12.2 == 0) && (r_13.2 == 0))) :: (126, .bool (((r_12.2 == 0) && (r_13.2 == 0)) && (r_14.2 == 0))) :: (127, .bool (((r_12.2 == 0) && (r_13.2 == 0)) && (r_14.2 == 0))) :: (130, .bool ((((r_12.2 == 0) && (r_13.2 == 0)) && (r_14.2 == 0)) && (r_15.2.2 == 0))) :: (131, .bool ((((r_12.2 == 0) && (r_13.2 == 0)) && (r_14.2 == 0)) && (r_15.2.2 == 0))) :: (134, .bool (((((r_12.2 == 0) && (r_13.2 == 0)) && (r_14.2 == 0)) && (r_15.2.2 == 0)) && (r_16.2.2 == 0))) :: (135, .bool (((((r_12.2 == 0) && (r_13.2 == 0)) && (r_14.2 == 0)) && (r_15.2.2 == 0)) && (r_16.2.2 == 0))) :: (139, .bool t_4) :: (140, .bool t_4) :: (144, .bool t_5) :: (145, .bool t_5) :: (149, .bool t_6) :: (150, .bool t_6) :: (154, .bool (t_6 && (r_15.1.N == 10 && r_15.1.D == 1))) :: (155, .bool (t_6 && (r_15.1.N == 10 && r_15.1.D == 1))) :: (159, .bool ((t_6 && (r_15.1.N == 10 && r_15.1.D == 1)) && (r_15.2.1.N == r_15.1.N && r_15.2.1.D == r_15.1.D))) :: []) ∧ Ctx G (.row (some ⟨b_13, 0, none⟩) 3 (([7, 2, 0] : List Int).map encI_i64) 3 1 :: .row (some ⟨b_12, 0, none⟩) 3 (([60, 30, 10] : List Int).map encI_i64) 3 1 :: .box b_11 [.int .i64 r_15.2.1.N, .int .i64 r_15.2.1.D] 71 :: .box b_10 [.int .i64 r_15.1.N, .int .i64 r_15.1.D] 71 :: .row (some ⟨b_9, 0, none⟩) 3 (([6, 3, 0] : List Int).map encI_i64) 3 1 :: .row (some ⟨b_8, 0, none⟩) 3 (([60, 30, 10] : List Int).map encI_i64) 3 1 :: .row (some ⟨b_7, 0, none⟩) 3 (([60, 30, 10] : List Int).map encI_i64) 3 1 :: .row p_11 c_11 (r_14.1.map encI_i64) 3 1 :: .row (some ⟨b_6, 0, none⟩) 3 (([60, 30, 10] : List Int).map encI_i64) 3 1 :: .row p_10 c_10 (r_13.1.map encI_i64) 3 1 :: .row (some ⟨b_5, 0, none⟩) 6 (([20, 30, 30, 40, 40, 40] : List Int).map encI_i64) 3 1 :: .row p_9 c_9 (r_12.1.map encI_i64) 3 1 :: .row p_6 c_6 (r_7.1.Table.map enc_share_Point) 116 2 :: .row p_7 c_7 (r_7.2.map enc_share_Year) 94 5 :: .row p_8 c_8 (r_8.1.map enc_api_Span) 26 2 :: .box b_1 [.slice p_6 r_7.1.Table.length c_6, .int .i64 r_7.1.Credit] 88 :: .row p_5 c_5 (r_5.Rights.map enc_share_Right) 51 3 :: .row p_3 c_3 (r_2.Rights.map enc_share_Right) 51 3 :: .row p_4 c_4 (r_4.1.map enc_api_Span) 26 2 :: .row p_1 c_1 (r.Rights.map enc_share_Right) 51 3 :: .row p_2 c_2 (r_1.1.map encI_i64) 3 1 :: Lf) w) ?_ ?_
    · cases hb : (t_6 && (r_15.1.N == 10 && r_15.1.D == 1))
      · rw [hb] at hf
        refine stS hf rfl rfl rfl fun a hf => ?_
        refine stS hf rfl rfl rfl fun a hf => ?_
        refine stS hf rfl rfl rfl fun a hf => ?_
        refine stP hf rfl rfl rfl (pPf rfl rfl) fun a hf => ?_
        exact cNil ⟨hf.keep ⟨rfl, rfl, rfl, rfl, rfl, rfl, rfl, rfl, rfl, rfl, rfl, rfl, rfl, rfl, rfl, rfl, rfl, rfl, rfl, rfl, rfl, rfl, rfl, rfl, rfl, rfl, rfl, rfl, rfl, rfl, rfl, rfl, trivial⟩, hc⟩
      · rw [hb] at hf
        refine stE hf hc rfl rfl rfl (eLdN (vs := [.int .i64 r_15.2.1.N, .int .i64 r_15.2.1.D]) ag_71 rfl rfl (cells_box (n := 2) m2 rfl)) fun a w hf hc => ?_
        refine stE hf hc rfl rfl rfl (eLdN (vs := [.int .i64 r_15.1.N, .int .i64 r_15.1.D]) ag_71 rfl rfl (cells_box (n := 2) m3 rfl)) fun a w hf hc => ?_
        refine stP hf rfl rfl rfl (pEqA ge_71 rfl rfl (eqs_71 _ _ _ _)) fun a hf => ?_
        refine stP hf rfl rfl rfl (pPt rfl rfl) fun a hf => ?_
        exact cNil ⟨hf.keep ⟨rfl, rfl, rfl, rfl, rfl, rfl, rfl, rfl, rfl, rfl, rfl, rfl, rfl, rfl, rfl, rfl, rfl, rfl, rfl, rfl, rfl, rfl, rfl, rfl, rfl, rfl, rfl, rfl, rfl, rfl, rfl, rfl, trivial⟩, hc⟩
    intro a w ⟨hf, hc⟩
    refine stP hf rfl rfl rfl (pM rfl) fun a hf => ?_
    refine stCut 3 (fun a w => Has 168 a ((2, .int .i64 r_12.2) :: (4, .int .i64 r_13.2) :: (6, .int .i64 r_14.2) :: (10, .int .i64 r_15.2.2) :: (11, .slice p_9 r_12.1.length c_9) :: (12, .slice p_10 r_13.1.length c_10) :: (13, .slice p_11 r_14.1.length c_11) :: (14, .pointer (some ⟨b_10, 0, none⟩)) :: (15, .pointer (some ⟨b_11, 0, none⟩)) :: (16, .int .i64 r_16.1) :: (17, .int .i64 r_16.2.1) :: (18, .int .i64 r_16.2.2) :: (117, .int .i64 r_12.2) :: (118, .bool (r_12.2 == 0)) :: (119, .bool (r_12.2 == 0)) :: (122, .bool ((r_12.2 == 0) && (r_13.2 == 0))) :: (123, .bool ((r_12.2 == 0) && (r_13.2 == 0))) :: (126, .bool (((r_12.2 == 0) && (r_13.2 == 0)) && (r_14.2 == 0))) :: (127, .bool (((r_12.2 == 0) && (r_13.2 == 0)) && (r_14.2 == 0))) :: (130, .bool ((((r_12.2 == 0) && (r_13.2 == 0)) && (r_14.2 == 0)) && (r_15.2.2 == 0))) :: (131, .bool ((((r_12.2 == 0) && (r_13.2 == 0)) && (r_14.2 == 0)) && (r_15.2.2 == 0))) :: (134, .bool (((((r_12.2 == 0) && (r_13.2 == 0)) && (r_14.2 == 0)) && (r_15.2.2 == 0)) && (r_16.2.2 == 0))) :: (135, .bool (((((r_12.2 == 0) && (r_13.2 == 0)) && (r_14.2 == 0)) && (r_15.2.2 == 0)) && (r_16.2.2 == 0))) :: (139, .bool t_4) :: (140, .bool t_4) :: (144, .bool t_5) :: (145, .bool t_5) :: (149, .bool t_6) :: (150, .bool t_6) :: (154, .bool (t_6 && (r_15.1.N == 10 && r_15.1.D == 1))) :: (155, .bool (t_6 && (r_15.1.N == 10 && r_15.1.D == 1))) :: (159, .bool ((t_6 && (r_15.1.N == 10 && r_15.1.D == 1)) && (r_15.2.1.N == r_15.1.N && r_15.2.1.D == r_15.1.D))) :: (160, .bool ((t_6 && (r_15.1.N == 10 && r_15.1.D == 1)) && (r_15.2.1.N == r_15.1.N && r_15.2.1.D == r_15.1.D))) :: (163, .bool (((t_6 && (r_15.1.N == 10 && r_15.1.D == 1)) && (r_15.2.1.N == r_15.1.N && r_15.2.1.D == r_15.1.D)) && (r_16.1 == 0))) :: []) ∧ Ctx G (.row (some ⟨b_13, 0, none⟩) 3 (([7, 2, 0] : List Int).map encI_i64) 3 1 :: .row (some ⟨b_12, 0, none⟩) 3 (([60, 30, 10] : List Int).map encI_i64) 3 1 :: .box b_11 [.int .i64 r_15.2.1.N, .int .i64 r_15.2.1.D] 71 :: .box b_10 [.int .i64 r_15.1.N, .int .i64 r_15.1.D] 71 :: .row (some ⟨b_9, 0, none⟩) 3 (([6, 3, 0] : List Int).map encI_i64) 3 1 :: .row (some ⟨b_8, 0, none⟩) 3 (([60, 30, 10] : List Int).map encI_i64) 3 1 :: .row (some ⟨b_7, 0, none⟩) 3 (([60, 30, 10] : List Int).map encI_i64) 3 1 :: .row p_11 c_11 (r_14.1.map encI_i64) 3 1 :: .row (some ⟨b_6, 0, none⟩) 3 (([60, 30, 10] : List Int).map encI_i64) 3 1 :: .row p_10 c_10 (r_13.1.map encI_i64) 3 1 :: .row (some ⟨b_5, 0, none⟩) 6 (([20, 30, 30, 40, 40, 40] : List Int).map encI_i64) 3 1 :: .row p_9 c_9 (r_12.1.map encI_i64) 3 1 :: .row p_6 c_6 (r_7.1.Table.map enc_share_Point) 116 2 :: .row p_7 c_7 (r_7.2.map enc_share_Year) 94 5 :: .row p_8 c_8 (r_8.1.map enc_api_Span) 26 2 :: .box b_1 [.slice p_6 r_7.1.Table.length c_6, .int .i64 r_7.1.Credit] 88 :: .row p_5 c_5 (r_5.Rights.map enc_share_Right) 51 3 :: .row p_3 c_3 (r_2.Rights.map enc_share_Right) 51 3 :: .row p_4 c_4 (r_4.1.map enc_api_Span) 26 2 :: .row p_1 c_1 (r.Rights.map enc_share_Right) 51 3 :: .row p_2 c_2 (r_1.1.map encI_i64) 3 1 :: Lf) w) ?_ ?_
    · cases hb : ((t_6 && (r_15.1.N == 10 && r_15.1.D == 1)) && (r_15.2.1.N == r_15.1.N && r_15.2.1.D == r_15.1.D))
      · rw [hb] at hf
        refine stS hf rfl rfl rfl fun a hf => ?_
        refine stS hf rfl rfl rfl fun a hf => ?_
        refine stP hf rfl rfl rfl (pPf rfl rfl) fun a hf => ?_
        exact cNil ⟨hf.keep ⟨rfl, rfl, rfl, rfl, rfl, rfl, rfl, rfl, rfl, rfl, rfl, rfl, rfl, rfl, rfl, rfl, rfl, rfl, rfl, rfl, rfl, rfl, rfl, rfl, rfl, rfl, rfl, rfl, rfl, rfl, rfl, rfl, rfl, rfl, trivial⟩, hc⟩
      · rw [hb] at hf
        refine stP hf rfl rfl rfl (pM rfl) fun a hf => ?_
        refine stP hf rfl rfl rfl (pEq rfl rfl) fun a hf => ?_
        refine stP hf rfl rfl rfl (pPt rfl rfl) fun a hf => ?_
        exact cNil ⟨hf.keep ⟨rfl, rfl, rfl, rfl, rfl, rfl, rfl, rfl, rfl, rfl, rfl, rfl, rfl, rfl, rfl, rfl, rfl, rfl, rfl, rfl, rfl, rfl, rfl, rfl, rfl, rfl, rfl, rfl, rfl, rfl, rfl, rfl, rfl, rfl, trivial⟩, hc⟩
    intro a w ⟨hf, hc⟩
    refine stP hf rfl rfl rfl (pM rfl) fun a hf => ?_
    refine stCut 3 (fun a w => Has 168 a ((2, .int .i64 r_12.2) :: (4, .int .i64 r_13.2) :: (6, .int .i64 r_14.2) :: (10, .int .i64 r_15.2.2) :: (11, .slice p_9 r_12.1.length c_9) :: (12, .slice p_10 r_13.1.length c_10) :: (13, .slice p_11 r_14.1.length c_11) :: (14, .pointer (some ⟨b_10, 0, none⟩)) :: (15, .pointer (some ⟨b_11, 0, none⟩)) :: (16, .int .i64 r_16.1) :: (17, .int .i64 r_16.2.1) :: (18, .int .i64 r_16.2.2) :: (117, .int .i64 r_12.2) :: (118, .bool (r_12.2 == 0)) :: (119, .bool (r_12.2 == 0)) :: (122, .bool ((r_12.2 == 0) && (r_13.2 == 0))) :: (123, .bool ((r_12.2 == 0) && (r_13.2 == 0))) :: (126, .bool (((r_12.2 == 0) && (r_13.2 == 0)) && (r_14.2 == 0))) :: (127, .bool (((r_12.2 == 0) && (r_13.2 == 0)) && (r_14.2 == 0))) :: (130, .bool ((((r_12.2 == 0) && (r_13.2 == 0)) && (r_14.2 == 0)) && (r_15.2.2 == 0))) :: (131, .bool ((((r_12.2 == 0) && (r_13.2 == 0)) && (r_14.2 == 0)) && (r_15.2.2 == 0))) :: (134, .bool (((((r_12.2 == 0) && (r_13.2 == 0)) && (r_14.2 == 0)) && (r_15.2.2 == 0)) && (r_16.2.2 == 0))) :: (135, .bool (((((r_12.2 == 0) && (r_13.2 == 0)) && (r_14.2 == 0)) && (r_15.2.2 == 0)) && (r_16.2.2 == 0))) :: (139, .bool t_4) :: (140, .bool t_4) :: (144, .bool t_5) :: (145, .bool t_5) :: (149, .bool t_6) :: (150, .bool t_6) :: (154, .bool (t_6 && (r_15.1.N == 10 && r_15.1.D == 1))) :: (155, .bool (t_6 && (r_15.1.N == 10 && r_15.1.D == 1))) :: (159, .bool ((t_6 && (r_15.1.N == 10 && r_15.1.D == 1)) && (r_15.2.1.N == r_15.1.N && r_15.2.1.D == r_15.1.D))) :: (160, .bool ((t_6 && (r_15.1.N == 10 && r_15.1.D == 1)) && (r_15.2.1.N == r_15.1.N && r_15.2.1.D == r_15.1.D))) :: (163, .bool (((t_6 && (r_15.1.N == 10 && r_15.1.D == 1)) && (r_15.2.1.N == r_15.1.N && r_15.2.1.D == r_15.1.D)) && (r_16.1 == 0))) :: (164, .bool (((t_6 && (r_15.1.N == 10 && r_15.1.D == 1)) && (r_15.2.1.N == r_15.1.N && r_15.2.1.D == r_15.1.D)) && (r_16.1 == 0))) :: (167, .bool ((((t_6 && (r_15.1.N == 10 && r_15.1.D == 1)) && (r_15.2.1.N == r_15.1.N && r_15.2.1.D == r_15.1.D)) && (r_16.1 == 0)) && (r_16.2.1 == 1))) :: []) ∧ Ctx G (.row (some ⟨b_13, 0, none⟩) 3 (([7, 2, 0] : List Int).map encI_i64) 3 1 :: .row (some ⟨b_12, 0, none⟩) 3 (([60, 30, 10] : List Int).map encI_i64) 3 1 :: .box b_11 [.int .i64 r_15.2.1.N, .int .i64 r_15.2.1.D] 71 :: .box b_10 [.int .i64 r_15.1.N, .int .i64 r_15.1.D] 71 :: .row (some ⟨b_9, 0, none⟩) 3 (([6, 3, 0] : List Int).map encI_i64) 3 1 :: .row (some ⟨b_8, 0, none⟩) 3 (([60, 30, 10] : List Int).map encI_i64) 3 1 :: .row (some ⟨b_7, 0, none⟩) 3 (([60, 30, 10] : List Int).map encI_i64) 3 1 :: .row p_11 c_11 (r_14.1.map encI_i64) 3 1 :: .row (some ⟨b_6, 0, none⟩) 3 (([60, 30, 10] : List Int).map encI_i64) 3 1 :: .row p_10 c_10 (r_13.1.map encI_i64) 3 1 :: .row (some ⟨b_5, 0, none⟩) 6 (([20, 30, 30, 40, 40, 40] : List Int).map encI_i64) 3 1 :: .row p_9 c_9 (r_12.1.map encI_i64) 3 1 :: .row p_6 c_6 (r_7.1.Table.map enc_share_Point) 116 2 :: .row p_7 c_7 (r_7.2.map enc_share_Year) 94 5 :: .row p_8 c_8 (r_8.1.map enc_api_Span) 26 2 :: .box b_1 [.slice p_6 r_7.1.Table.length c_6, .int .i64 r_7.1.Credit] 88 :: .row p_5 c_5 (r_5.Rights.map enc_share_Right) 51 3 :: .row p_3 c_3 (r_2.Rights.map enc_share_Right) 51 3 :: .row p_4 c_4 (r_4.1.map enc_api_Span) 26 2 :: .row p_1 c_1 (r.Rights.map enc_share_Right) 51 3 :: .row p_2 c_2 (r_1.1.map encI_i64) 3 1 :: Lf) w) ?_ ?_
    · cases hb : (((t_6 && (r_15.1.N == 10 && r_15.1.D == 1)) && (r_15.2.1.N == r_15.1.N && r_15.2.1.D == r_15.1.D)) && (r_16.1 == 0))
      · rw [hb] at hf
        refine stS hf rfl rfl rfl fun a hf => ?_
        refine stS hf rfl rfl rfl fun a hf => ?_
        refine stP hf rfl rfl rfl (pPf rfl rfl) fun a hf => ?_
        exact cNil ⟨hf.keep ⟨rfl, rfl, rfl, rfl, rfl, rfl, rfl, rfl, rfl, rfl, rfl, rfl, rfl, rfl, rfl, rfl, rfl, rfl, rfl, rfl, rfl, rfl, rfl, rfl, rfl, rfl, rfl, rfl, rfl, rfl, rfl, rfl, rfl, rfl, rfl, rfl, trivial⟩, hc⟩
      · rw [hb] at hf
        refine stP hf rfl rfl rfl (pM rfl) fun a hf => ?_
        refine stP hf rfl rfl rfl (pEq rfl rfl) fun a hf => ?_
        refine stP hf rfl rfl rfl (pPt rfl rfl) fun a hf => ?_
        exact cNil ⟨hf.keep ⟨rfl, rfl, rfl, rfl, rfl, rfl, rfl, rfl, rfl, rfl, rfl, rfl, rfl, rfl, rfl, rfl, rfl, rfl, rfl, rfl, rfl, rfl, rfl, rfl, rfl, rfl, rfl, rfl, rfl, rfl, rfl, rfl, rfl, rfl, rfl, rfl, trivial⟩, hc⟩
    intro a w ⟨hf, hc⟩
    refine stP hf rfl rfl rfl (pA rfl) fun a hf => ?_
    refine cNil ?_
    refine h15 _ _ ?_
    refine wp_ret ?_
    obtain rfl := Option.some.inj hF
    replace hc := hc.drop k20
    replace hc := hc.drop k19
    replace hc := hc.drop k18
    replace hc := hc.drop k17
    replace hc := hc.drop k16
    replace hc := hc.drop k15
    replace hc := hc.drop k14
    replace hc := hc.drop k13
    replace hc := hc.drop k12
    replace hc := hc.drop k11
    replace hc := hc.drop k10
    replace hc := hc.drop k9
    replace hc := hc.drop k8
    replace hc := hc.drop k7
    replace hc := hc.drop k6
    replace hc := hc.drop k5
    replace hc := hc.drop k4
    replace hc := hc.drop k3
    replace hc := hc.drop k2
    replace hc := hc.drop k1
    replace hc := hc.drop k0
    exact fnOut1 (by simp) rfl Try.results13 hf hc (show look _ 0 = _ from rfl) ⟨rfl, hc⟩

def law09_ShareLess_j28 (N : Nat) (where_ : Int) (r_1 : share_Border × api_Span × (List share_Year) × (List share_Truth) × Int × Int) (l : List share_Year) (s_2 : List api_Span) (x_4 : Int) (x_5 : Int) : Option (Bool) :=
  Option.bind (subO l ((W (where_)).tmod ((l.length : Nat) : Int)) ((l.length : Nat) : Int)) fun sub =>
  Option.bind (share_Debts N r_1.1 (⟨x_4, x_5⟩ : api_Span) sub) fun r_11 =>
  Option.bind (subO l 0 ((W (where_)).tmod ((l.length : Nat) : Int))) fun sub_1 =>
  Option.bind (share_Debts N r_1.1 r_1.2.1 sub_1) fun r_12 =>
  Option.bind (cond ((r_11.2 == 0) && (r_12.2 == 0)) (Option.bind (room ((r_12.1 ++ r_11.1)).length) fun un_1 =>
  Option.bind (kit_Same_api_Span N (r_12.1 ++ r_11.1) s_2) fun r_13 =>
  some r_13) (some false)) fun t_2 =>
  Option.bind (cond t_2 (Option.bind (law09_awake N) fun r_14 =>
  some r_14) (some false)) fun t_3 =>
  some t_3
def law09_ShareLess_b20 (N : Nat) (r_3 : (List api_Span) × Int) (r_7 : (List Int) × Int) (r_8 : (List Int) × Int) (s_1 : List api_Span) (t_1 : List api_Span) (x_3 : Int) : Option (Step ((List api_Span) × (List api_Span) × Int) (Bool)) :=
  cond (decide (x_3 < ((r_3.1.length : Nat) : Int)))
  (Option.bind (getI t_1 x_3) fun e_2 =>
  Option.bind (getI s_1 x_3) fun e_3 =>
  Option.bind (cond (decide (e_2.Lo < e_3.Lo)) (some true) (Option.bind (getI t_1 x_3) fun e_4 =>
  Option.bind (getI s_1 x_3) fun e_5 =>
  some (decide (e_5.Hi < e_4.Hi)))) fun t_4 =>
  Option.bind (cond t_4 (some true) (Option.bind (getI r_8.1 x_3) fun e_6 =>
  Option.bind (getI r_7.1 x_3) fun e_7 =>
  some (decide (e_7 < e_6)))) fun t_5 =>
  cond t_5
  (some (.ret false))
  (some (.cont (s_1, t_1, W (x_3 + 1)))))
  (some (.brk (s_1, t_1, x_3)))
def law09_ShareLess_b11 (N : Nat) (narrow : List Int) (r_1 : share_Border × api_Span × (List share_Year) × (List share_Truth) × Int × Int) (l : List share_Year) (truth : List share_Truth) (fine : List share_Year) (better : List share_Truth) (x : Int) (x_1 : Int) (x_2 : Int) : Option (Step ((List share_Year) × (List share_Truth) × (List share_Year) × (List share_Truth) × Int × Int × Int) (Bool)) :=
  cond (decide (x < ((r_1.2.2.1.length : Nat) : Int)))
  (Option.bind (getI l x) fun e_8 =>
  Option.bind (getI truth x) fun e_9 =>
  Option.bind (kit_Stream_Within N (⟨narrow, x_1, x_2⟩ : kit_Stream) e_8.Index.Lo e_9.Index) fun r_15 =>
  Option.bind (getI truth x) fun e_10 =>
  Option.bind (kit_Stream_Within N (⟨narrow, r_15.2.1, r_15.2.2⟩ : kit_Stream) e_10.Index e_8.Index.Hi) fun r_16 =>
  Option.bind (law09_span N r_15.1 r_16.1) fun r_17 =>
  Option.bind (getI fine x) fun e_11 =>
  Option.bind (getI truth x) fun e_12 =>
  Option.bind (kit_Stream_Within N (⟨narrow, r_16.2.1, r_16.2.2⟩ : kit_Stream) e_8.Delivered.Lo e_12.Delivered) fun r_18 =>
  Option.bind (getI truth x) fun e_13 =>
  Option.bind (kit_Stream_Within N (⟨narrow, r_18.2.1, r_18.2.2⟩ : kit_Stream) e_13.Delivered e_8.Delivered.Hi) fun r_19 =>
  Option.bind (law09_span N r_18.1 r_19.1) fun r_20 =>
  Option.bind (getI (fine.set x.toNat (⟨r_17, e_11.Delivered, e_11.Spill⟩ : share_Year)) x) fun e_14 =>
  Option.bind (getI truth x) fun e_15 =>
  Option.bind (kit_Stream_Within N (⟨narrow, r_19.2.1, r_19.2.2⟩ : kit_Stream) e_8.Index.Lo e_15.Index) fun r_21 =>
  Option.bind (getI truth x) fun e_16 =>
  Option.bind (kit_Stream_Within N (⟨narrow, r_21.2.1, r_21.2.2⟩ : kit_Stream) e_16.Delivered e_8.Delivered.Hi) fun r_22 =>
  Option.bind (getI better x) fun e_17 =>
  some (.cont (l, truth, ((fine.set x.toNat (⟨r_17, e_11.Delivered, e_11.Spill⟩ : share_Year)).set x.toNat (⟨e_14.Index, r_20, e_14.Spill⟩ : share_Year)), (better.set x.toNat (⟨r_21.1, r_22.1⟩ : share_Truth)), W (x + 1), r_22.2.1, r_22.2.2)))
  (some (.brk (l, truth, fine, better, x, x_1, x_2)))
def law09_ShareLess (N : Nat) (numbers : List Int) (narrow : List Int) (where_ : Int) (a_ : Int) (b_ : Int) : Option (Bool) :=
  Option.bind (kit_New N numbers) fun r =>
  Option.bind (law09_Bordered N (⟨numbers, r.1, r.2⟩ : kit_Stream) 12) fun r_1 =>
  Option.bind (kit_New N narrow) fun r_2 =>
  Option.bind (share_Debts N r_1.1 r_1.2.1 r_1.2.2.1) fun r_3 =>
  cond ((r_3.2 != 0) || (((r_3.1.length : Nat) : Int) != ((r_1.2.2.1.length : Nat) : Int)))
  (some false)
  (Option.bind (kit_Copy_share_Year N r_1.2.2.1) fun r_4 =>
  Option.bind (kit_Copy_share_Truth N r_1.2.2.2.1) fun r_5 =>
  Option.bind (loopO (fun s11 => law09_ShareLess_b11 N narrow r_1 s11.1 s11.2.1 s11.2.2.1 s11.2.2.2.1 s11.2.2.2.2.1 s11.2.2.2.2.2.1 s11.2.2.2.2.2.2) N (r_1.2.2.1, r_1.2.2.2.1, r_4, r_5, 0, r_2.1, r_2.2)) fun x11 =>
  exK x11 (fun s11 => Option.bind (share_Debts N r_1.1 r_1.2.1 s11.2.2.1) fun r_6 =>
  Option.bind (share_Owed N r_1.1 r_1.2.1.Hi s11.1 s11.2.1) fun r_7 =>
  Option.bind (share_Owed N r_1.1 r_1.2.1.Lo s11.1 s11.2.2.2.1) fun r_8 =>
  cond ((((((r_6.2 != 0) || (r_7.2 != 0)) || (r_8.2 != 0)) || (((r_6.1.length : Nat) : Int) != ((r_3.1.length : Nat) : Int))) || (((r_7.1.length : Nat) : Int) != ((r_3.1.length : Nat) : Int))) || (((r_8.1.length : Nat) : Int) != ((r_3.1.length : Nat) : Int)))
  (some false)
  (Option.bind (loopO (fun s20 => law09_ShareLess_b20 N r_3 r_7 r_8 s20.1 s20.2.1 s20.2.2) N (r_3.1, r_6.1, 0)) fun x20 =>
  exK x20 (fun s20 => Option.bind (share_Due N r_1.1 (W (a_))) fun r_9 =>
  Option.bind (share_Due N r_1.1 (W ((W (a_)) + (W (b_))))) fun r_10 =>
  cond (((r_9.2 != 0) || (r_10.2 != 0)) || (decide (r_10.1 < r_9.1)))
  (some false)
  (Option.bind (nz ((s11.1.length : Nat) : Int)) fun un =>
  cond (decide (0 < ((W (where_)).tmod ((s11.1.length : Nat) : Int))))
  (Option.bind (getI s20.1 (W (((W (where_)).tmod ((s11.1.length : Nat) : Int)) - 1))) fun e_1 =>
  law09_ShareLess_j28 N where_ r_1 s11.1 s20.1 e_1.Lo e_1.Hi)
  (law09_ShareLess_j28 N where_ r_1 s11.1 s20.1 r_1.2.1.Lo r_1.2.1.Hi))) some)) some)
theorem law09_ShareLess_ok {N : Nat} {G : Pers} {Lf : List Ent} {w : World} (numbers : List Int) (narrow : List Int) (where_ : Int) (a_ : Int) (b_ : Int) {numbers_p : Option Addr} {numbers_c : Nat} {narrow_p : Option Addr} {narrow_c : Nat} (h_numbers : Rd G 1 numbers_p numbers_c (numbers.map encI_u8)) (h_narrow : Rd G 1 narrow_p narrow_c (narrow.map encI_u8)) (hc : Ctx G (Lf) w) {res : Bool} (hF : law09_ShareLess N numbers narrow where_ a_ b_ = some res) : Calls Try.prog 10 #[.slice numbers_p numbers.length numbers_c, .slice narrow_p narrow.length narrow_c, .int .u8 where_, .int .u8 a_, .int .u8 b_] w (fun e w => e = .returned (.bool res) ∧ Ctx G (Lf) w) := by
  unfold law09_ShareLess at hF
  refine fnIn (args := [.slice numbers_p numbers.length numbers_c, .slice narrow_p narrow.length narrow_c, .int .u8 where_, .int .u8 a_, .int .u8 b_]) Try.func10 rfl Try.ntmps10 rfl fun a hf => ?_
  refine wp_seq_k fun K1 h1 => ?_
  refine cReg ?_
  refine stP hf rfl rfl rfl (pA rfl) fun a hf => ?_
  refine cNil ?_
  refine h1 _ _ ?_
  refine wp_seq_k fun K2 h2 => ?_
  refine cReg ?_
  refine stP hf rfl rfl rfl (pM rfl) fun a hf => ?_
  obtain ⟨r, hr, hF⟩ := bnd_some hF
  refine stC (vs := [.slice numbers_p numbers.length numbers_c]) (caps := []) hf rfl rfl rfl en_27 rfl rfl rfl rfl (kit_New_ok numbers h_numbers hc hr) ?_
  rintro _ w ⟨b_1, rfl, hc⟩
  refine ⟨_, rfl, fun a hf => ?_⟩
  obtain ⟨r_1, hr_1, hF⟩ := bnd_some hF
  refine stC (vs := [.pointer (some ⟨b_1, 0, none⟩), .int .i64 12]) (caps := []) hf rfl rfl rfl en_59 rfl rfl rfl rfl (law09_Bordered_ok (⟨numbers, r.1, r.2⟩ : kit_Stream) 12 h_numbers (hc.pick k0) hr_1) ?_
  rintro _ w ⟨p_1, c_1, p_2, c_2, p_3, c_3, rfl, hc⟩
  refine ⟨_, rfl, fun a hf => ?_⟩
  refine stP hf rfl rfl rfl (pM rfl) fun a hf => ?_
  refine stP hf rfl rfl rfl (pX rfl rfl) fun a hf => ?_
  refine stP hf rfl rfl rfl (pX rfl rfl) fun a hf => ?_
  refine stP hf rfl rfl rfl (pX rfl rfl) fun a hf => ?_
  refine stP hf rfl rfl rfl (pX rfl rfl) fun a hf => ?_
  refine stAl (cs := [.slice none 0 0, .int .i64 0]) hf hc rfl rfl zr_88 rfl fun b_2 a w hf hc => ?_
  refine stAl (cs := [.int .i64 0, .int .i64 0]) hf hc rfl rfl zr_26 rfl fun b_3 a w hf hc => ?_
  refine stSt (vs := [.slice p_1 r_1.1.Table.length c_1, .int .i64 r_1.1.Credit]) hf hc rfl rfl rfl rfl sz_88 rfl rfl u1 fun w hc => ?_
  refine stSt (vs := [.int .i64 r_1.2.1.Lo, .int .i64 r_1.2.1.Hi]) hf hc rfl rfl rfl rfl sz_26 rfl rfl u0 fun w hc => ?_
  refine stP hf rfl rfl rfl (pA rfl) fun a hf => ?_
  refine stP hf rfl rfl rfl (pA rfl) fun a hf => ?_
  refine cNil ?_
  refine h2 _ _ ?_
  refine wp_seq_k fun K3 h3 => ?_
  refine cReg ?_
  refine stP hf rfl rfl rfl (pM rfl) fun a hf => ?_
  obtain ⟨r_2, hr_2, hF⟩ := bnd_some hF
  refine stC (vs := [.slice narrow_p narrow.length narrow_c]) (caps := []) hf rfl rfl rfl en_27 rfl rfl rfl rfl (kit_New_ok narrow h_narrow hc hr_2) ?_
  rintro _ w ⟨b_4, rfl, hc⟩
  refine ⟨_, rfl, fun a hf => ?_⟩
  refine stP hf rfl rfl rfl (pA rfl) fun a hf => ?_
  refine cNil ?_
  refine h3 _ _ ?_
  refine wp_seq_k fun K4 h4 => ?_
  refine cReg ?_
  refine stE hf hc rfl rfl rfl (eLdN (vs := [.slice p_1 r_1.1.Table.length c_1, .int .i64 r_1.1.Credit]) ag_88 rfl rfl (cells_box (n := 2) m2 rfl)) fun a w hf hc => ?_
  refine stE hf hc rfl rfl rfl (eLdN (vs := [.int .i64 r_1.2.1.Lo, .int .i64 r_1.2.1.Hi]) ag_26 rfl rfl (cells_box (n := 2) m1 rfl)) fun a w hf hc => ?_
  refine stP hf rfl rfl rfl (pM rfl) fun a hf => ?_
  obtain ⟨r_3, hr_3, hF⟩ := bnd_some hF
  obtain ⟨G1, hle1, hrd1, hc, hth1⟩ := lend hc k3
  obtain ⟨G2, hle2, hrd2, hc, hth2⟩ := lend hc k3
  refine stC (vs := [.agg #[.slice p_1 r_1.1.Table.length c_1, .int .i64 r_1.1.Credit], .agg #[.int .i64 r_1.2.1.Lo, .int .i64 r_1.2.1.Hi], .slice p_2 r_1.2.2.1.length c_2]) (caps := []) hf rfl rfl rfl en_54 rfl rfl rfl rfl (share_Debts_ok r_1.1 r_1.2.1 r_1.2.2.1 (hrd1.mono hle2) hrd2 hc hr_3) ?_
  rintro _ w ⟨p_4, c_4, rfl, hc⟩
  refine ⟨_, rfl, fun a hf => ?_⟩
  replace hc := hth2 _ _ hc
  replace hc := hth1 _ _ hc
  refine stP hf rfl rfl rfl (pM rfl) fun a hf => ?_
  refine stP hf rfl rfl rfl (pX rfl rfl) fun a hf => ?_
  refine stP hf rfl rfl rfl (pX rfl rfl) fun a hf => ?_
  refine stP hf rfl rfl rfl (pA rfl) fun a hf => ?_
  refine stP hf rfl rfl rfl (pA rfl) fun a hf => ?_
  refine cNil ?_
  refine h4 _ _ ?_
  refine wp_seq_k fun K5 h5 => ?_
  refine wp_seq_k fun K6 h6 => ?_
  refine cReg ?_
  refine stP hf rfl rfl rfl (pM rfl) fun a hf => ?_
  refine stP hf rfl rfl rfl (pNe rfl rfl) fun a hf => ?_
  refine stP hf rfl rfl rfl (pM rfl) fun a hf => ?_
  refine stCut 6 (fun a w => Has 318 a [(2, .int .u8 where_), (3, .int .u8 a_), (4, .int .u8 b_), (11, .pointer (some ⟨b_2, 0, none⟩)), (12, .pointer (some ⟨b_3, 0, none⟩)), (13, .slice p_2 r_1.2.2.1.length c_2), (14, .slice p_3 r_1.2.2.2.1.length c_3), (15, .pointer (some ⟨b_4, 0, none⟩)), (16, .slice p_4 r_3.1.length c_4), (17, .int .i64 r_3.2), (51, .int .i64 r_3.2), (52, .bool (r_3.2 != 0)), (53, .bool (r_3.2 != 0)), (59, .bool ((r_3.2 != 0) || (((r_3.1.length : Nat) : Int) != ((r_1.2.2.1.length : Nat) : Int))))] ∧ Ctx G (.row p_1 c_1 (r_1.1.Table.map enc_share_Point) 116 2 :: .row p_2 c_2 (r_1.2.2.1.map enc_share_Year) 94 5 :: .row p_4 c_4 (r_3.1.map enc_api_Span) 26 2 :: .box b_4 [.slice narrow_p narrow.length narrow_c, .int .i64 r_2.1, .int .i64 r_2.2] 161 :: .box b_3 [.int .i64 r_1.2.1.Lo, .int .i64 r_1.2.1.Hi] 26 :: .box b_2 [.slice p_1 r_1.1.Table.length c_1, .int .i64 r_1.1.Credit] 88 :: .row p_3 c_3 (r_1.2.2.2.1.map enc_share_Truth) 97 2 :: .box b_1 [.slice numbers_p numbers.length numbers_c, .int .i64 r_1.2.2.2.2.1, .int .i64 r_1.2.2.2.2.2] 161 :: Lf) w) ?_ ?_
  · cases hb : (r_3.2 != 0)
    · rw [hb] at hf
      refine stP hf rfl rfl rfl (pM rfl) fun a hf => ?_
      refine stP hf rfl rfl rfl (pLenS Try.underlying41 rfl) fun a hf => ?_
      refine stP hf rfl rfl rfl (pM rfl) fun a hf => ?_
      refine stP hf rfl rfl rfl (pLenS Try.underlying89 rfl) fun a hf => ?_
      refine stP hf rfl rfl rfl (pNe rfl rfl) fun a hf => ?_
      refine stP hf rfl rfl rfl (pPf rfl rfl) fun a hf => ?_
      exact cNil ⟨hf.keep ⟨rfl, rfl, rfl, rfl, rfl, rfl, rfl, rfl, rfl, rfl, rfl, rfl, rfl, rfl, trivial⟩, hc⟩
    · rw [hb] at hf
      refine stS hf rfl rfl rfl fun a hf => ?_
      refine stS hf rfl rfl rfl fun a hf => ?_
      refine stS hf rfl rfl rfl fun a hf => ?_
      refine stS hf rfl rfl rfl fun a hf => ?_
      refine stS hf rfl rfl rfl fun a hf => ?_
      refine stP hf rfl rfl rfl (pPt rfl rfl) fun a hf => ?_
      exact cNil ⟨hf.keep ⟨rfl, rfl, rfl, rfl, rfl, rfl, rfl, rfl, rfl, rfl, rfl, rfl, rfl, rfl, trivial⟩, hc⟩
  intro a w ⟨hf, hc⟩
  refine cNil ?_
  refine h6 _ _ ?_
  refine cCond (b := ((r_3.2 != 0) || (((r_3.1.length : Nat) : Int) != ((r_1.2.2.1.length : Nat) : Int)))) hf rfl (fun hb => ?_) (fun hb => ?_)
  · replace hF := condT hb hF
    clear hb
    refine wp_seq_k fun K7 h7 => ?_
    refine cReg ?_
    refine stP hf rfl rfl rfl (pA rfl) fun a hf => ?_
    refine cNil ?_
    refine h7 _ _ ?_
    refine wp_ret ?_
    refine xThenR ?_
    obtain rfl := Option.some.inj hF
    replace hc := hc.drop k7
    replace hc := hc.drop k6
    replace hc := hc.drop k5
    replace hc := hc.drop k4
    replace hc := hc.drop k3
    replace hc := hc.drop k2
    replace hc := hc.drop k1
    replace hc := hc.drop k0
    exact fnOut1 (by simp) rfl Try.results10 hf hc (show look _ 10 = _ from rfl) ⟨rfl, hc⟩
  · replace hF := condF hb hF
    clear hb
    refine wp_skip ?_
    refine h5 _ _ ?_
    refine wp_seq_k fun K8 h8 => ?_
    refine cReg ?_
    refine stP hf rfl rfl rfl (pM rfl) fun a hf => ?_
    obtain ⟨r_4, hr_4, hF⟩ := bnd_some hF
    obtain ⟨G1, hle1, hrd1, hc, hth1⟩ := lend hc k1
    refine stC (vs := [.slice p_2 r_1.2.2.1.length c_2]) (caps := []) hf rfl rfl rfl en_44 rfl rfl rfl rfl (kit_Copy_share_Year_ok r_1.2.2.1 hrd1 hc hr_4) ?_
    rintro _ w ⟨p_5, c_5, rfl, hc⟩
    refine ⟨_, rfl, fun a hf => ?_⟩
    replace hc := hth1 _ _ hc
    refine stP hf rfl rfl rfl (pM rfl) fun a hf => ?_
    obtain ⟨r_5, hr_5, hF⟩ := bnd_some hF
    obtain ⟨G1, hle1, hrd1, hc, hth1⟩ := lend hc k7
    refine stC (vs := [.slice p_3 r_1.2.2.2.1.length c_3]) (caps := []) hf rfl rfl rfl en_45 rfl rfl rfl rfl (kit_Copy_share_Truth_ok r_1.2.2.2.1 hrd1 hc hr_5) ?_
    rintro _ w ⟨p_6, c_6, rfl, hc⟩
    refine ⟨_, rfl, fun a hf => ?_⟩
    replace hc := hth1 _ _ hc
    refine stP hf rfl rfl rfl (pA rfl) fun a hf => ?_
    refine stP hf rfl rfl rfl (pA rfl) fun a hf => ?_
    refine cNil ?_
    refine h8 _ _ ?_
    refine wp_seq_k fun K9 h9 => ?_
    refine wp_seq_k fun K10 h10 => ?_
    refine cReg ?_
    refine stP hf rfl rfl rfl (pM rfl) fun a hf => ?_
    refine stP hf rfl rfl rfl (pLenS Try.underlying89 rfl) fun a hf => ?_
    refine stP hf rfl rfl rfl (pM rfl) fun a hf => ?_
    refine cNil ?_
    refine h10 _ _ ?_
    refine wp_block ?_
    obtain ⟨x11, hx11, hF⟩ := bnd_some hF
    let S11 : ((List share_Year) × (List share_Truth) × (List share_Year) × (List share_Truth) × Int × Int × Int) → Act → World → Prop := (fun (zz : (List share_Year) × (List share_Truth) × (List share_Year) × (List share_Truth) × Int × Int × Int) a w => ∃ (p_7 : Option Addr) (c_7 : Nat) (p_8 : Option Addr) (c_8 : Nat) (p_9 : Option Addr) (c_9 : Nat) (p_10 : Option Addr) (c_10 : Nat), Has 318 a [(2, .int .u8 where_), (3, .int .u8 a_), (4, .int .u8 b_), (11, .pointer (some ⟨b_2, 0, none⟩)), (12, .pointer (some ⟨b_3, 0, none⟩)), (13, .slice p_7 zz.1.length c_7), (14, .slice p_8 zz.2.1.length c_8), (15, .pointer (some ⟨b_4, 0, none⟩)), (16, .slice p_4 r_3.1.length c_4), (18, .slice p_9 zz.2.2.1.length c_9), (19, .slice p_10 zz.2.2.2.1.length c_10), (64, .slice p_7 zz.1.length c_7), (65, .int .i64 ((r_1.2.2.1.length : Nat) : Int)), (66, .int .i64 zz.2.2.2.2.1)] ∧ Ctx G (.row p_8 c_8 (zz.2.1.map enc_share_Truth) 97 2 :: .row p_10 c_10 (zz.2.2.2.1.map enc_share_Truth) 97 2 :: .row p_7 c_7 (zz.1.map enc_share_Year) 94 5 :: .row p_9 c_9 (zz.2.2.1.map enc_share_Year) 94 5 :: .row p_1 c_1 (r_1.1.Table.map enc_share_Point) 116 2 :: .row p_4 c_4 (r_3.1.map enc_api_Span) 26 2 :: .box b_4 [.slice narrow_p narrow.length narrow_c, .int .i64 zz.2.2.2.2.2.1, .int .i64 zz.2.2.2.2.2.2] 161 :: .box b_3 [.int .i64 r_1.2.1.Lo, .int .i64 r_1.2.1.Hi] 26 :: .box b_2 [.slice p_1 r_1.1.Table.length c_1, .int .i64 r_1.1.Credit] 88 :: Lf) w)
    have hr11 : ∀ (zz : (List share_Year) × (List share_Truth) × (List share_Year) × (List share_Truth) × Int × Int × Int) a w, x11 = .go zz → S11 zz a w → K9 a w := by
      rintro ⟨l, truth, fine, better, x, x_1, x_2⟩ a w rfl ⟨p_7, c_7, p_8, c_8, p_9, c_9, p_10, c_10, hf, hc⟩
      replace hF : _ = some res := hF
      refine h9 _ _ ?_
      refine wp_seq_k fun K12 h12 => ?_
      refine cReg ?_
      refine stE hf hc rfl rfl rfl (eLdN (vs := [.slice p_1 r_1.1.Table.length c_1, .int .i64 r_1.1.Credit]) ag_88 rfl rfl (cells_box (n := 2) m8 rfl)) fun a w hf hc => ?_
      refine stE hf hc rfl rfl rfl (eLdN (vs := [.int .i64 r_1.2.1.Lo, .int .i64 r_1.2.1.Hi]) ag_26 rfl rfl (cells_box (n := 2) m7 rfl)) fun a w hf hc => ?_
      refine stP hf rfl rfl rfl (pM rfl) fun a hf => ?_
      obtain ⟨r_6, hr_6, hF⟩ := bnd_some hF
      obtain ⟨G1, hle1, hrd1, hc, hth1⟩ := lend hc k4
      obtain ⟨G2, hle2, hrd2, hc, hth2⟩ := lend hc k3
      refine stC (vs := [.agg #[.slice p_1 r_1.1.Table.length c_1, .int .i64 r_1.1.Credit], .agg #[.int .i64 r_1.2.1.Lo, .int .i64 r_1.2.1.Hi], .slice p_9 fine.length c_9]) (caps := []) hf rfl rfl rfl en_54 rfl rfl rfl rfl (share_Debts_ok r_1.1 r_1.2.1 fine (hrd1.mono hle2) hrd2 hc hr_6) ?_
      rintro _ w ⟨p_11, c_11, rfl, hc⟩
      refine ⟨_, rfl, fun a hf => ?_⟩
      replace hc := hth2 _ _ hc
      replace hc := hth1 _ _ hc
      refine stP hf rfl rfl rfl (pM rfl) fun a hf => ?_
      refine stP hf rfl rfl rfl (pX rfl rfl) fun a hf => ?_
      refine stP hf rfl rfl rfl (pX rfl rfl) fun a hf => ?_
      refine stP hf rfl rfl rfl (pA rfl) fun a hf => ?_
      refine stP hf rfl rfl rfl (pA rfl) fun a hf => ?_
      refine cNil ?_
      refine h12 _ _ ?_
      refine wp_seq_k fun K13 h13 => ?_
      refine cReg ?_
      refine stE hf hc rfl rfl rfl (eLdN (vs := [.slice p_1 r_1.1.Table.length c_1, .int .i64 r_1.1.Credit]) ag_88 rfl rfl (cells_box (n := 2) m9 rfl)) fun a w hf hc => ?_
      refine stP hf rfl rfl rfl (pFA fa_26_1 rfl) fun a hf => ?_
      refine stE hf hc rfl rfl rfl (eLd1 sc_3 rfl (cell_box m8 rfl)) fun a w hf hc => ?_
      refine stP hf rfl rfl rfl (pM rfl) fun a hf => ?_
      refine stP hf rfl rfl rfl (pM rfl) fun a hf => ?_
      obtain ⟨r_7, hr_7, hF⟩ := bnd_some hF
      obtain ⟨G1, hle1, hrd1, hc, hth1⟩ := lend hc k0
      obtain ⟨G2, hle2, hrd2, hc, hth2⟩ := lend hc k4
      obtain ⟨G3, hle3, hrd3, hc, hth3⟩ := lend hc k2
      refine stC (vs := [.agg #[.slice p_1 r_1.1.Table.length c_1, .int .i64 r_1.1.Credit], .int .i64 r_1.2.1.Hi, .slice p_7 l.length c_7, .slice p_8 truth.length c_8]) (caps := []) hf rfl rfl rfl en_52 rfl rfl rfl rfl (share_Owed_ok r_1.1 r_1.2.1.Hi l truth ((hrd1.mono hle2).mono hle3) (hrd2.mono hle3) hrd3 hc hr_7) ?_
      rintro _ w ⟨p_12, c_12, rfl, hc⟩
      refine ⟨_, rfl, fun a hf => ?_⟩
      replace hc := hth3 _ _ hc
      replace hc := hth2 _ _ hc
      replace hc := hth1 _ _ hc
      refine stP hf rfl rfl rfl (pM rfl) fun a hf => ?_
      refine stP hf rfl rfl rfl (pX rfl rfl) fun a hf => ?_
      refine stP hf rfl rfl rfl (pX rfl rfl) fun a hf => ?_
      refine stP hf rfl rfl rfl (pA rfl) fun a hf => ?_
      refine stP hf rfl rfl rfl (pA rfl) fun a hf => ?_
      refine cNil ?_
      refine h13 _ _ ?_
      refine wp_seq_k fun K14 h14 => ?_
      refine cReg ?_
      refine stE hf hc rfl rfl rfl (eLdN (vs := [.slice p_1 r_1.1.Table.length c_1, .int .i64 r_1.1.Credit]) ag_88 rfl rfl (cells_box (n := 2) m10 rfl)) fun a w hf hc => ?_
      refine stP hf rfl rfl rfl (pFA fa_26_0 rfl) fun a hf => ?_
      refine stE hf hc rfl rfl rfl (eLd1 sc_3 rfl (cell_box m9 rfl)) fun a w hf hc => ?_
      refine stP hf rfl rfl rfl (pM rfl) fun a hf => ?_
      refine stP hf rfl rfl rfl (pM rfl) fun a hf => ?_
      obtain ⟨r_8, hr_8, hF⟩ := bnd_some hF
      obtain ⟨G1, hle1, hrd1, hc, hth1⟩ := lend hc k0
      obtain ⟨G2, hle2, hrd2, hc, hth2⟩ := lend hc k0
      obtain ⟨G3, hle3, hrd3, hc, hth3⟩ := lend hc k4
      refine stC (vs := [.agg #[.slice p_1 r_1.1.Table.length c_1, .int .i64 r_1.1.Credit], .int .i64 r_1.2.1.Lo, .slice p_7 l.length c_7, .slice p_10 better.length c_10]) (caps := []) hf rfl rfl rfl en_52 rfl rfl rfl rfl (share_Owed_ok r_1.1 r_1.2.1.Lo l better ((hrd1.mono hle2).mono hle3) (hrd2.mono hle3) hrd3 hc hr_8) ?_
      rintro _ w ⟨p_13, c_13, rfl, hc⟩
      refine ⟨_, rfl, fun a hf => ?_⟩
      replace hc := hth3 _ _ hc
      replace hc := hth2 _ _ hc
      replace hc := hth1 _ _ hc
      refine stP hf rfl rfl rfl (pM rfl) fun a hf => ?_
      refine stP hf rfl rfl rfl (pX rfl rfl) fun a hf => ?_
      refine stP hf rfl rfl rfl (pX rfl rfl) fun a hf => ?_
      refine stP hf rfl rfl rfl (pA rfl) fun a hf => ?_
      refine stP hf rfl rfl rfl (pA rfl) fun a hf => ?_
      refine cNil ?_
      refine h14 _ _ ?_
      refine wp_seq_k fun K15 h15 => ?_
      refine wp_seq_k fun K16 h16 => ?_
      refine cReg ?_
      refine stP hf rfl rfl rfl (pM rfl) fun a hf => ?_
      refine stP hf rfl rfl rfl (pNe rfl rfl) fun a hf => ?_
      refine stP hf rfl rfl rfl (pM rfl) fun a hf => ?_
      refine stCut 3 (fun a w => Has 318 a [(2, .int .u8 where_), (3, .int .u8 a_), (4, .int .u8 b_), (11, .pointer (some ⟨b_2, 0, none⟩)), (12, .pointer (some ⟨b_3, 0, none⟩)), (13, .slice p_7 l.length c_7), (16, .slice p_4 r_3.1.length c_4), (22, .slice p_11 r_6.1.length c_11), (17, .int .i64 r_6.2), (23, .slice p_12 r_7.1.length c_12), (24, .int .i64 r_7.2), (25, .slice p_13 r_8.1.length c_13), (26, .int .i64 r_8.2), (171, .int .i64 r_6.2), (172, .bool (r_6.2 != 0)), (173, .bool (r_6.2 != 0)), (176, .bool ((r_6.2 != 0) || (r_7.2 != 0)))] ∧ Ctx G (.row p_1 c_1 (r_1.1.Table.map enc_share_Point) 116 2 :: .row p_7 c_7 (l.map enc_share_Year) 94 5 :: .row p_10 c_10 (better.map enc_share_Truth) 97 2 :: .row p_13 c_13 (r_8.1.map encI_i64) 3 1 :: .row p_8 c_8 (truth.map enc_share_Truth) 97 2 :: .row p_12 c_12 (r_7.1.map encI_i64) 3 1 :: .row p_9 c_9 (fine.map enc_share_Year) 94 5 :: .row p_11 c_11 (r_6.1.map enc_api_Span) 26 2 :: .row p_4 c_4 (r_3.1.map enc_api_Span) 26 2 :: .box b_4 [.slice narrow_p narrow.length narrow_c, .int .i64 x_1, .int .i64 x_2] 161 :: .box b_3 [.int .i64 r_1.2.1.Lo, .int .i64 r_1.2.1.Hi] 26 :: .box b_2 [.slice p_1 r_1.1.Table.length c_1, .int .i64 r_1.1.Credit] 88 :: Lf) w) ?_ ?_
      · cases hb : (r_6.2 != 0)
        · rw [hb] at hf
          refine stP hf rfl rfl rfl (pM rfl) fun a hf => ?_
          refine stP hf rfl rfl rfl (pNe rfl rfl) fun a hf => ?_
          refine stP hf rfl rfl rfl (pPf rfl rfl) fun a hf => ?_
          exact cNil ⟨hf.keep ⟨rfl, rfl, rfl, rfl, rfl, rfl, rfl, rfl, rfl, rfl, rfl, rfl, rfl, rfl, rfl, rfl, rfl, trivial⟩, hc⟩
        · rw [hb] at hf
          refine stS hf rfl rfl rfl fun a hf => ?_
          refine stS hf rfl rfl rfl fun a hf => ?_
          refine stP hf rfl rfl rfl (pPt rfl rfl) fun a hf => ?_
          exact cNil ⟨hf.keep ⟨rfl, rfl, rfl, rfl, rfl, rfl, rfl, rfl, rfl, rfl, rfl, rfl, rfl, rfl, rfl, rfl, rfl, trivial⟩, hc⟩
      intro a w ⟨hf, hc⟩
      refine stP hf rfl rfl rfl (pM rfl) fun a hf => ?_
      refine stCut 3 (fun a w => Has 318 a [(2, .int .u8 where_), (3, .int .u8 a_), (4, .int .u8 b_), (11, .pointer (some ⟨b_2, 0, none⟩)), (12, .pointer (some ⟨b_3, 0, none⟩)), (13, .slice p_7 l.length c_7), (16, .slice p_4 r_3.1.length c_4), (22, .slice p_11 r_6.1.length c_11), (17, .int .i64 r_6.2), (23, .slice p_12 r_7.1.length c_12), (24, .int .i64 r_7.2), (25, .slice p_13 r_8.1.length c_13), (26, .int .i64 r_8.2), (171, .int .i64 r_6.2), (172, .bool (r_6.2 != 0)), (173, .bool (r_6.2 != 0)), (176, .bool ((r_6.2 != 0) || (r_7.2 != 0))), (177, .bool ((r_6.2 != 0) || (r_7.2 != 0))), (180, .bool (((r_6.2 != 0) || (r_7.2 != 0)) || (r_8.2 != 0)))] ∧ Ctx G (.row p_1 c_1 (r_1.1.Table.map enc_share_Point) 116 2 :: .row p_7 c_7 (l.map enc_share_Year) 94 5 :: .row p_10 c_10 (better.map enc_share_Truth) 97 2 :: .row p_13 c_13 (r_8.1.map encI_i64) 3 1 :: .row p_8 c_8 (truth.map enc_share_Truth) 97 2 :: .row p_12 c_12 (r_7.1.map encI_i64) 3 1 :: .row p_9 c_9 (fine.map enc_share_Year) 94 5 :: .row p_11 c_11 (r_6.1.map enc_api_Span) 26 2 :: .row p_4 c_4 (r_3.1.map enc_api_Span) 26 2 :: .box b_4 [.slice narrow_p narrow.length narrow_c, .int .i64 x_1, .int .i64 x_2] 161 :: .box b_3 [.int .i64 r_1.2.1.Lo, .int .i64 r_1.2.1.Hi] 26 :: .box b_2 [.slice p_1 r_1.1.Table.length c_1, .int .i64 r_1.1.Credit] 88 :: Lf) w) ?_ ?_
      · cases hb : ((r_6.2 != 0) || (r_7.2 != 0))
        · rw [hb] at hf
          refine stP hf rfl rfl rfl (pM rfl) fun a hf => ?_
          refine stP hf rfl rfl rfl (pNe rfl rfl) fun a hf => ?_
          refine stP hf rfl rfl rfl (pPf rfl rfl) fun a hf => ?_
          exact cNil ⟨hf.keep ⟨rfl, rfl, rfl, rfl, rfl, rfl, rfl, rfl, rfl, rfl, rfl, rfl, rfl, rfl, rfl, rfl, rfl, rfl, rfl, trivial⟩, hc⟩
        · rw [hb] at hf
          refine stS hf rfl rfl rfl fun a hf => ?_
          refine stS hf rfl rfl rfl fun a hf => ?_
          refine stP hf rfl rfl rfl (pPt rfl rfl) fun a hf => ?_
          exact cNil ⟨hf.keep ⟨rfl, rfl, rfl, rfl, rfl, rfl, rfl, rfl, rfl, rfl, rfl, rfl, rfl, rfl, rfl, rfl, rfl, rfl, rfl, trivial⟩, hc⟩
      intro a w ⟨hf, hc⟩
      refine stP hf rfl rfl rfl (pM rfl) fun a hf => ?_
      refine stCut 6 (fun a w => Has 318 a [(2, .int .u8 where_), (3, .int .u8 a_), (4, .int .u8 b_), (11, .pointer (some ⟨b_2, 0, none⟩)), (12, .pointer (some ⟨b_3, 0, none⟩)), (13, .slice p_7 l.length c_7), (16, .slice p_4 r_3.1.length c_4), (22, .slice p_11 r_6.1.length c_11), (17, .int .i64 r_6.2), (23, .slice p_12 r_7.1.length c_12), (24, .int .i64 r_7.2), (25, .slice p_13 r_8.1.length c_13), (26, .int .i64 r_8.2), (171, .int .i64 r_6.2), (172, .bool (r_6.2 != 0)), (173, .bool (r_6.2 != 0)), (176, .bool ((r_6.2 != 0) || (r_7.2 != 0))), (177, .bool ((r_6.2 != 0) || (r_7.2 != 0))), (180, .bool (((r_6.2 != 0) || (r_7.2 != 0)) || (r_8.2 != 0))), (181, .bool (((r_6.2 != 0) || (r_7.2 != 0)) || (r_8.2 != 0))), (187, .bool ((((r_6.2 != 0) || (r_7.2 != 0)) || (r_8.2 != 0)) || (((r_6.1.length : Nat) : Int) != ((r_3.1.length : Nat) : Int))))] ∧ Ctx G (.row p_1 c_1 (r_1.1.Table.map enc_share_Point) 116 2 :: .row p_7 c_7 (l.map enc_share_Year) 94 5 :: .row p_10 c_10 (better.map enc_share_Truth) 97 2 :: .row p_13 c_13 (r_8.1.map encI_i64) 3 1 :: .row p_8 c_8 (truth.map enc_share_Truth) 97 2 :: .row p_12 c_12 (r_7.1.map encI_i64) 3 1 :: .row p_9 c_9 (fine.map enc_share_Year) 94 5 :: .row p_11 c_11 (r_6.1.map enc_api_Span) 26 2 :: .row p_4 c_4 (r_3.1.map enc_api_Span) 26 2 :: .box b_4 [.slice narrow_p narrow.length narrow_c, .int .i64 x_1, .int .i64 x_2] 161 :: .box b_3 [.int .i64 r_1.2.1.Lo, .int .i64 r_1.2.1.Hi] 26 :: .box b_2 [.slice p_1 r_1.1.Table.length c_1, .int .i64 r_1.1.Credit] 88 :: Lf) w) ?_ ?_
      · cases hb : (((r_6.2 != 0) || (r_7.2 != 0)) || (r_8.2 != 0))
        · rw [hb] at hf
          refine stP hf rfl rfl rfl (pM rfl) fun a hf => ?_
          refine stP hf rfl rfl rfl (pLenS Try.underlying41 rfl) fun a hf => ?_
          refine stP hf rfl rfl rfl (pM rfl) fun a hf => ?_
          refine stP hf rfl rfl rfl (pLenS Try.underlying41 rfl) fun a hf => ?_
          refine stP hf rfl rfl rfl (pNe rfl rfl) fun a hf => ?_
          refine stP hf rfl rfl rfl (pPf rfl rfl) fun a hf => ?_
          exact cNil ⟨hf.keep ⟨rfl, rfl, rfl, rfl, rfl, rfl, rfl, rfl, rfl, rfl, rfl, rfl, rfl, rfl, rfl, rfl, rfl, rfl, rfl, rfl, rfl, trivial⟩, hc⟩
        · rw [hb] at hf
          refine stS hf rfl rfl rfl fun a hf => ?_
          refine stS hf rfl rfl rfl fun a hf => ?_
          refine stS hf rfl rfl rfl fun a hf => ?_
          refine stS hf rfl rfl rfl fun a hf => ?_
          refine stS hf rfl rfl rfl fun a hf => ?_
          refine stP hf rfl rfl rfl (pPt rfl rfl) fun a hf => ?_
          exact cNil ⟨hf.keep ⟨rfl, rfl, rfl, rfl, rfl, rfl, rfl, rfl, rfl, rfl, rfl, rfl, rfl, rfl, rfl, rfl, rfl, rfl, rfl, rfl, rfl, trivial⟩, hc⟩
      intro a w ⟨hf, hc⟩
      refine stP hf rfl rfl rfl (pM rfl) fun a hf => ?_
      refine stCut 6 (fun a w => Has 318 a [(2, .int .u8 where_), (3, .int .u8 a_), (4, .int .u8 b_), (11, .pointer (some ⟨b_2, 0, none⟩)), (12, .pointer (some ⟨b_3, 0, none⟩)), (13, .slice p_7 l.length c_7), (16, .slice p_4 r_3.1.length c_4), (22, .slice p_11 r_6.1.length c_11), (17, .int .i64 r_6.2), (23, .slice p_12 r_7.1.length c_12), (24, .int .i64 r_7.2), (25, .slice p_13 r_8.1.length c_13), (26, .int .i64 r_8.2), (171, .int .i64 r_6.2), (172, .bool (r_6.2 != 0)), (173, .bool (r_6.2 != 0)), (176, .bool ((r_6.2 != 0) || (r_7.2 != 0))), (177, .bool ((r_6.2 != 0) || (r_7.2 != 0))), (180, .bool (((r_6.2 != 0) || (r_7.2 != 0)) || (r_8.2 != 0))), (181, .bool (((r_6.2 != 0) || (r_7.2 != 0)) || (r_8.2 != 0))), (187, .bool ((((r_6.2 != 0) || (r_7.2 != 0)) || (r_8.2 != 0)) || (((r_6.1.length : Nat) : Int) != ((r_3.1.length : Nat) : Int)))), (188, .bool ((((r_6.2 != 0) || (r_7.2 != 0)) || (r_8.2 != 0)) || (((r_6.1.length : Nat) : Int) != ((r_3.1.length : Nat) : Int)))), (194, .bool (((((r_6.2 != 0) || (r_7.2 != 0)) || (r_8.2 != 0)) || (((r_6.1.length : Nat) : Int) != ((r_3.1.length : Nat) : Int))) || (((r_7.1.length : Nat) : Int) != ((r_3.1.length : Nat) : Int))))] ∧ Ctx G (.row p_1 c_1 (r_1.1.Table.map enc_share_Point) 116 2 :: .row p_7 c_7 (l.map enc_share_Year) 94 5 :: .row p_10 c_10 (better.map enc_share_Truth) 97 2 :: .row p_13 c_13 (r_8.1.map encI_i64) 3 1 :: .row p_8 c_8 (truth.map enc_share_Truth) 97 2 :: .row p_12 c_12 (r_7.1.map encI_i64) 3 1 :: .row p_9 c_9 (fine.map enc_share_Year) 94 5 :: .row p_11 c_11 (r_6.1.map enc_api_Span) 26 2 :: .row p_4 c_4 (r_3.1.map enc_api_Span) 26 2 :: .box b_4 [.slice narrow_p narrow.length narrow_c, .int .i64 x_1, .int .i64 x_2] 161 :: .box b_3 [.int .i64 r_1.2.1.Lo, .int .i64 r_1.2.1.Hi] 26 :: .box b_2 [.slice p_1 r_1.1.Table.length c_1, .int .i64 r_1.1.Credit] 88 :: Lf) w) ?_ ?_
      · cases hb : ((((r_6.2 != 0) || (r_7.2 != 0)) || (r_8.2 != 0)) || (((r_6.1.length : Nat) : Int) != ((r_3.1.length : Nat) : Int)))
        · rw [hb] at hf
          refine stP hf rfl rfl rfl (pM rfl) fun a hf => ?_
          refine stP hf rfl rfl rfl (pLenS Try.underlying36 rfl) fun a hf => ?_
          refine stP hf rfl rfl rfl (pM rfl) fun a hf => ?_
          refine stP hf rfl rfl rfl (pLenS Try.underlying41 rfl) fun a hf => ?_
          refine stP hf rfl rfl rfl (pNe rfl rfl) fun a hf => ?_
          refine stP hf rfl rfl rfl (pPf rfl rfl) fun a hf => ?_
          exact cNil ⟨hf.keep ⟨rfl, rfl, rfl, rfl, rfl, rfl, rfl, rfl, rfl, rfl, rfl, rfl, rfl, rfl, rfl, rfl, rfl, rfl, rfl, rfl, rfl, rfl, rfl, trivial⟩, hc⟩
        · rw [hb] at hf
          refine stS hf rfl rfl rfl fun a hf => ?_
          refine stS hf rfl rfl rfl fun a hf => ?_
          refine stS hf rfl rfl rfl fun a hf => ?_
          refine stS hf rfl rfl rfl fun a hf => ?_
          refine stS hf rfl rfl rfl fun a hf => ?_
          refine stP hf rfl rfl rfl (pPt rfl rfl) fun a hf => ?_
          exact cNil ⟨hf.keep ⟨rfl, rfl, rfl, rfl, rfl, rfl, rfl, rfl, rfl, rfl, rfl, rfl, rfl, rfl, rfl, rfl, rfl, rfl, rfl, rfl, rfl, rfl, rfl, trivial⟩, hc⟩
      intro a w ⟨hf, hc⟩
      refine stP hf rfl rfl rfl (pM rfl) fun a hf => ?_
      refine stCut 6 (fun a w => Has 318 a [(2, .int .u8 where_), (3, .int .u8 a_), (4, .int .u8 b_), (11, .pointer (some ⟨b_2, 0, none⟩)), (12, .pointer (some ⟨b_3, 0, none⟩)), (13, .slice p_7 l.length c_7), (16, .slice p_4 r_3.1.length c_4), (22, .slice p_11 r_6.1.length c_11), (17, .int .i64 r_6.2), (23, .slice p_12 r_7.1.length c_12), (24, .int .i64 r_7.2), (25, .slice p_13 r_8.1.length c_13), (26, .int .i64 r_8.2), (171, .int .i64 r_6.2), (172, .bool (r_6.2 != 0)), (173, .bool (r_6.2 != 0)), (176, .bool ((r_6.2 != 0) || (r_7.2 != 0))), (177, .bool ((r_6.2 != 0) || (r_7.2 != 0))), (180, .bool (((r_6.2 != 0) || (r_7.2 != 0)) || (r_8.2 != 0))), (181, .bool (((r_6.2 != 0) || (r_7.2 != 0)) || (r_8.2 != 0))), (187, .bool ((((r_6.2 != 0) || (r_7.2 != 0)) || (r_8.2 != 0)) || (((r_6.1.length : Nat) : Int) != ((r_3.1.length : Nat) : Int)))), (188, .bool ((((r_6.2 != 0) || (r_7.2 != 0)) || (r_8.2 != 0)) || (((r_6.1.length : Nat) : Int) != ((r_3.1.length : Nat) : Int)))), (194, .bool (((((r_6.2 != 0) || (r_7.2 != 0)) || (r_8.2 != 0)) || (((r_6.1.length : Nat) : Int) != ((r_3.1.length : Nat) : Int))) || (((r_7.1.length : Nat) : Int) != ((r_3.1.length : Nat) : Int)))), (195, .bool (((((r_6.2 != 0) || (r_7.2 != 0)) || (r_8.2 != 0)) || (((r_6.1.length : Nat) : Int) != ((r_3.1.length : Nat) : Int))) || (((r_7.1.length : Nat) : Int) != ((r_3.1.length : Nat) : Int)))), (201, .bool ((((((r_6.2 != 0) || (r_7.2 != 0)) || (r_8.2 != 0)) || (((r_6.1.length : Nat) : Int) != ((r_3.1.length : Nat) : Int))) || (((r_7.1.length : Nat) : Int) != ((r_3.1.length : Nat) : Int))) || (((r_8.1.length : Nat) : Int) != ((r_3.1.length : Nat) : Int))))] ∧ Ctx G (.row p_1 c_1 (r_1.1.Table.map enc_share_Point) 116 2 :: .row p_7 c_7 (l.map enc_share_Year) 94 5 :: .row p_10 c_10 (better.map enc_share_Truth) 97 2 :: .row p_13 c_13 (r_8.1.map encI_i64) 3 1 :: .row p_8 c_8 (truth.map enc_share_Truth) 97 2 :: .row p_12 c_12 (r_7.1.map encI_i64) 3 1 :: .row p_9 c_9 (fine.map enc_share_Year) 94 5 :: .row p_11 c_11 (r_6.1.map enc_api_Span) 26 2 :: .row p_4 c_4 (r_3.1.map enc_api_Span) 26 2 :: .box b_4 [.slice narrow_p narrow.length narrow_c, .int .i64 x_1, .int .i64 x_2] 161 :: .box b_3 [.int .i64 r_1.2.1.Lo, .int .i64 r_1.2.1.Hi] 26 :: .box b_2 [.slice p_1 r_1.1.Table.length c_1, .int .i64 r_1.1.Credit] 88 :: Lf) w) ?_ ?_
      · cases hb : (((((r_6.2 != 0) || (r_7.2 != 0)) || (r_8.2 != 0)) || (((r_6.1.length : Nat) : Int) != ((r_3.1.length : Nat) : Int))) || (((r_7.1.length : Nat) : Int) != ((r_3.1.length : Nat) : Int)))
        · rw [hb] at hf
          refine stP hf rfl rfl rfl (pM rfl) fun a hf => ?_
          refine stP hf rfl rfl rfl (pLenS Try.underlying36 rfl) fun a hf => ?_
          refine stP hf rfl rfl rfl (pM rfl) fun a hf => ?_
          refine stP hf rfl rfl rfl (pLenS Try.underlying41 rfl) fun a hf => ?_
          refine stP hf rfl rfl rfl (pNe rfl rfl) fun a hf => ?_
          refine stP hf rfl rfl rfl (pPf rfl rfl) fun a hf => ?_
          exact cNil ⟨hf.keep ⟨rfl, rfl, rfl, rfl, rfl, rfl, rfl, rfl, rfl, rfl, rfl, rfl, rfl, rfl, rfl, rfl, rfl, rfl, rfl, rfl, rfl, rfl, rfl, rfl, rfl, trivial⟩, hc⟩
        · rw [hb] at hf
          refine stS hf rfl rfl rfl fun a hf => ?_
          refine stS hf rfl rfl rfl fun a hf => ?_
          refine stS hf rfl rfl rfl fun a hf => ?_
          refine stS hf rfl rfl rfl fun a hf => ?_
          refine stS hf rfl rfl rfl fun a hf => ?_
          refine stP hf rfl rfl rfl (pPt rfl rfl) fun a hf => ?_
          exact cNil ⟨hf.keep ⟨rfl, rfl, rfl, rfl, rfl, rfl, rfl, rfl, rfl, rfl, rfl, rfl, rfl, rfl, rfl, rfl, rfl, rfl, rfl, rfl, rfl, rfl, rfl, rfl, rfl, trivial⟩, hc⟩
      intro a w ⟨hf, hc⟩
      refine cNil ?_
      refine h16 _ _ ?_
      refine cCond (b := ((((((r_6.2 != 0) || (r_7.2 != 0)) || (r_8.2 != 0)) || (((r_6.1.length : Nat) : Int) != ((r_3.1.length : Nat) : Int))) || (((r_7.1.length : Nat) : Int) != ((r_3.1.length : Nat) : Int))) || (((r_8.1.length : Nat) : Int) != ((r_3.1.length : Nat) : Int)))) hf rfl (fun hb => ?_) (fun hb => ?_)
      · replace hF := condT hb hF
        clear hb
        refine wp_seq_k fun K17 h17 => ?_
        refine cReg ?_
        refine stP hf rfl rfl rfl (pA rfl) fun a hf => ?_
        refine cNil ?_
        refine h17 _ _ ?_
        refine wp_ret ?_
        refine xThenR ?_
        obtain rfl := Option.some.inj hF
        replace hc := hc.drop k11
        replace hc := hc.drop k10
        replace hc := hc.drop k9
        replace hc := hc.drop k8
        replace hc := hc.drop k7
        replace hc := hc.drop k6
        replace hc := hc.drop k5
        replace hc := hc.drop k4
        replace hc := hc.drop k3
        replace hc := hc.drop k2
        replace hc := hc.drop k1
        replace hc := hc.drop k0
        exact fnOut1 (by simp) rfl Try.results10 hf hc (show look _ 10 = _ from rfl) ⟨rfl, hc⟩
      · replace hF := condF hb hF
        clear hb
        refine wp_skip ?_
        refine h15 _ _ ?_
        refine wp_seq_k fun K18 h18 => ?_
        refine wp_seq_k fun K19 h19 => ?_
        refine cReg ?_
        refine stP hf rfl rfl rfl (pM rfl) fun a hf => ?_
        refine stP hf rfl rfl rfl (pLenS Try.underlying41 rfl) fun a hf => ?_
        refine stP hf rfl rfl rfl (pM rfl) fun a hf => ?_
        refine cNil ?_
        refine h19 _ _ ?_
        refine wp_block ?_
        obtain ⟨x20, hx20, hF⟩ := bnd_some hF
        let S20 : ((List api_Span) × (List api_Span) × Int) → Act → World → Prop := (fun (zz : (List api_Span) × (List api_Span) × Int) a w => ∃ (p_14 : Option Addr) (c_14 : Nat) (p_15 : Option Addr) (c_15 : Nat), Has 318 a [(2, .int .u8 where_), (3, .int .u8 a_), (4, .int .u8 b_), (11, .pointer (some ⟨b_2, 0, none⟩)), (12, .pointer (some ⟨b_3, 0, none⟩)), (13, .slice p_7 l.length c_7), (16, .slice p_14 zz.1.length c_14), (22, .slice p_15 zz.2.1.length c_15), (23, .slice p_12 r_7.1.length c_12), (25, .slice p_13 r_8.1.length c_13), (203, .int .i64 ((r_3.1.length : Nat) : Int)), (204, .int .i64 zz.2.2)] ∧ Ctx G (.row p_1 c_1 (r_1.1.Table.map enc_share_Point) 116 2 :: .row p_7 c_7 (l.map enc_share_Year) 94 5 :: .row p_13 c_13 (r_8.1.map encI_i64) 3 1 :: .row p_12 c_12 (r_7.1.map encI_i64) 3 1 :: .row p_15 c_15 (zz.2.1.map enc_api_Span) 26 2 :: .row p_14 c_14 (zz.1.map enc_api_Span) 26 2 :: .box b_3 [.int .i64 r_1.2.1.Lo, .int .i64 r_1.2.1.Hi] 26 :: .box b_2 [.slice p_1 r_1.1.Table.length c_1, .int .i64 r_1.1.Credit] 88 :: Lf) w)
        have hr20 : ∀ (zz : (List api_Span) × (List api_Span) × Int) a w, x20 = .go zz → S20 zz a w → K18 a w := by
          rintro ⟨s_1, t_1, x_3⟩ a w rfl ⟨p_14, c_14, p_15, c_15, hf, hc⟩
          replace hF : _ = some res := hF
          refine h18 _ _ ?_
          refine wp_seq_k fun K21 h21 => ?_
          refine cReg ?_
          refine stE hf hc rfl rfl rfl (eLdN (vs := [.slice p_1 r_1.1.Table.length c_1, .int .i64 r_1.1.Credit]) ag_88 rfl rfl (cells_box (n := 2) m7 rfl)) fun a w hf hc => ?_
          refine stP hf rfl rfl rfl (pM rfl) fun a hf => ?_
          refine stP hf rfl rfl rfl (pCv Try.underlying5 Try.underlying3 rfl) fun a hf => ?_
          obtain ⟨r_9, hr_9, hF⟩ := bnd_some hF
          refine stE hf hc rfl rfl rfl (eC (v := .tuple #[.int .i64 r_9.1, .int .i64 r_9.2]) (vs := [.agg #[.slice p_1 r_1.1.Table.length c_1, .int .i64 r_1.1.Credit], .int .i64 (W (a_))]) (caps := []) en_50 rfl rfl rfl rfl (fun w hc => by obtain ⟨G1, hle1, hrd1, hc, hth1⟩ := lend hc k0; exact (share_Due_ok r_1.1 (W (a_)) hrd1 hc hr_9).mono fun e w h => ⟨h.1, ((hth1 _ _ h.2).unpick k0)⟩)) fun a w hf hc => ?_
          refine stP hf rfl rfl rfl (pM rfl) fun a hf => ?_
          refine stP hf rfl rfl rfl (pX rfl rfl) fun a hf => ?_
          refine stP hf rfl rfl rfl (pX rfl rfl) fun a hf => ?_
          refine stP hf rfl rfl rfl (pA rfl) fun a hf => ?_
          refine stP hf rfl rfl rfl (pA rfl) fun a hf => ?_
          refine cNil ?_
          refine h21 _ _ ?_
          refine wp_seq_k fun K22 h22 => ?_
          refine cReg ?_
          refine stE hf hc rfl rfl rfl (eLdN (vs := [.slice p_1 r_1.1.Table.length c_1, .int .i64 r_1.1.Credit]) ag_88 rfl rfl (cells_box (n := 2) m7 rfl)) fun a w hf hc => ?_
          refine stP hf rfl rfl rfl (pM rfl) fun a hf => ?_
          refine stP hf rfl rfl rfl (pCv Try.underlying5 Try.underlying3 rfl) fun a hf => ?_
          refine stP hf rfl rfl rfl (pM rfl) fun a hf => ?_
          refine stP hf rfl rfl rfl (pCv Try.underlying5 Try.underlying3 rfl) fun a hf => ?_
          refine stP hf rfl rfl rfl (pAdd rfl rfl) fun a hf => ?_
          obtain ⟨r_10, hr_10, hF⟩ := bnd_some hF
          refine stE hf hc rfl rfl rfl (eC (v := .tuple #[.int .i64 r_10.1, .int .i64 r_10.2]) (vs := [.agg #[.slice p_1 r_1.1.Table.length c_1, .int .i64 r_1.1.Credit], .int .i64 (W ((W (a_)) + (W (b_))))]) (caps := []) en_50 rfl rfl rfl rfl (fun w hc => by obtain ⟨G1, hle1, hrd1, hc, hth1⟩ := lend hc k0; exact (share_Due_ok r_1.1 (W ((W (a_)) + (W (b_)))) hrd1 hc hr_10).mono fun e w h => ⟨h.1, ((hth1 _ _ h.2).unpick k0)⟩)) fun a w hf hc => ?_
          refine stP hf rfl rfl rfl (pM rfl) fun a hf => ?_
          refine stP hf rfl rfl rfl (pX rfl rfl) fun a hf => ?_
          refine stP hf rfl rfl rfl (pX rfl rfl) fun a hf => ?_
          refine stP hf rfl rfl rfl (pA rfl) fun a hf => ?_
          refine stP hf rfl rfl rfl (pA rfl) fun a hf => ?_
          refine cNil ?_
          refine h22 _ _ ?_
          refine wp_seq_k fun K23 h23 => ?_
          refine wp_seq_k fun K24 h24 => ?_
          refine cReg ?_
          refine stP hf rfl rfl rfl (pM rfl) fun a hf => ?_
          refine stP hf rfl rfl rfl (pNe rfl rfl) fun a hf => ?_
          refine stP hf rfl rfl rfl (pM rfl) fun a hf => ?_
          refine stCut 3 (fun a w => Has 318 a [(2, .int .u8 where_), (11, .pointer (some ⟨b_2, 0, none⟩)), (12, .pointer (some ⟨b_3, 0, none⟩)), (13, .slice p_7 l.length c_7), (16, .slice p_14 s_1.length c_14), (28, .int .i64 r_9.1), (17, .int .i64 r_9.2), (29, .int .i64 r_10.1), (24, .int .i64 r_10.2), (260, .int .i64 r_9.2), (261, .bool (r_9.2 != 0)), (262, .bool (r_9.2 != 0)), (265, .bool ((r_9.2 != 0) || (r_10.2 != 0)))] ∧ Ctx G (.row p_1 c_1 (r_1.1.Table.map enc_share_Point) 116 2 :: .row p_7 c_7 (l.map enc_share_Year) 94 5 :: .row p_13 c_13 (r_8.1.map encI_i64) 3 1 :: .row p_12 c_12 (r_7.1.map encI_i64) 3 1 :: .row p_15 c_15 (t_1.map enc_api_Span) 26 2 :: .row p_14 c_14 (s_1.map enc_api_Span) 26 2 :: .box b_3 [.int .i64 r_1.2.1.Lo, .int .i64 r_1.2.1.Hi] 26 :: .box b_2 [.slice p_1 r_1.1.Table.length c_1, .int .i64 r_1.1.Credit] 88 :: Lf) w) ?_ ?_
          · cases hb : (r_9.2 != 0)
            · rw [hb] at hf
              refine stP hf rfl rfl rfl (pM rfl) fun a hf => ?_
              refine stP hf rfl rfl rfl (pNe rfl rfl) fun a hf => ?_
              refine stP hf rfl rfl rfl (pPf rfl rfl) fun a hf => ?_
              exact cNil ⟨hf.keep ⟨rfl, rfl, rfl, rfl, rfl, rfl, rfl, rfl, rfl, rfl, rfl, rfl, rfl, trivial⟩, hc⟩
            · rw [hb] at hf
              refine stS hf rfl rfl rfl fun a hf => ?_
              refine stS hf rfl rfl rfl fun a hf => ?_
              refine stP hf rfl rfl rfl (pPt rfl rfl) fun a hf => ?_
              exact cNil ⟨hf.keep ⟨rfl, rfl, rfl, rfl, rfl, rfl, rfl, rfl, rfl, rfl, rfl, rfl, rfl, trivial⟩, hc⟩
          intro a w ⟨hf, hc⟩
          refine stP hf rfl rfl rfl (pM rfl) fun a hf => ?_
          refine stCut 4 (fun a w => Has 318 a [(2, .int .u8 where_), (11, .pointer (some ⟨b_2, 0, none⟩)), (12, .pointer (some ⟨b_3, 0, none⟩)), (13, .slice p_7 l.length c_7), (16, .slice p_14 s_1.length c_14), (28, .int .i64 r_9.1), (17, .int .i64 r_9.2), (29, .int .i64 r_10.1), (24, .int .i64 r_10.2), (260, .int .i64 r_9.2), (261, .bool (r_9.2 != 0)), (262, .bool (r_9.2 != 0)), (265, .bool ((r_9.2 != 0) || (r_10.2 != 0))), (266, .bool ((r_9.2 != 0) || (r_10.2 != 0))), (270, .bool (((r_9.2 != 0) || (r_10.2 != 0)) || (decide (r_10.1 < r_9.1))))] ∧ Ctx G (.row p_1 c_1 (r_1.1.Table.map enc_share_Point) 116 2 :: .row p_7 c_7 (l.map enc_share_Year) 94 5 :: .row p_13 c_13 (r_8.1.map encI_i64) 3 1 :: .row p_12 c_12 (r_7.1.map encI_i64) 3 1 :: .row p_15 c_15 (t_1.map enc_api_Span) 26 2 :: .row p_14 c_14 (s_1.map enc_api_Span) 26 2 :: .box b_3 [.int .i64 r_1.2.1.Lo, .int .i64 r_1.2.1.Hi] 26 :: .box b_2 [.slice p_1 r_1.1.Table.length c_1, .int .i64 r_1.1.Credit] 88 :: Lf) w) ?_ ?_
          · cases hb : ((r_9.2 != 0) || (r_10.2 != 0))
            · rw [hb] at hf
              refine stP hf rfl rfl rfl (pM rfl) fun a hf => ?_
              refine stP hf rfl rfl rfl (pM rfl) fun a hf => ?_
              refine stP hf rfl rfl rfl (pGt rfl rfl) fun a hf => ?_
              refine stP hf rfl rfl rfl (pPf rfl rfl) fun a hf => ?_
              exact cNil ⟨hf.keep ⟨rfl, rfl, rfl, rfl, rfl, rfl, rfl, rfl, rfl, rfl, rfl, rfl, rfl, rfl, rfl, trivial⟩, hc⟩
            · rw [hb] at hf
              refine stS hf rfl rfl rfl fun a hf => ?_
              refine stS hf rfl rfl rfl fun a hf => ?_
              refine stS hf rfl rfl rfl fun a hf => ?_
              refine stP hf rfl rfl rfl (pPt rfl rfl) fun a hf => ?_
              exact cNil ⟨hf.keep ⟨rfl, rfl, rfl, rfl, rfl, rfl, rfl, rfl, rfl, rfl, rfl, rfl, rfl, rfl, rfl, trivial⟩, hc⟩
          intro a w ⟨hf, hc⟩
          refine cNil ?_
          refine h24 _ _ ?_
          refine cCond (b := (((r_9.2 != 0) || (r_10.2 != 0)) || (decide (r_10.1 < r_9.1)))) hf rfl (fun hb => ?_) (fun hb => ?_)
          · replace hF := condT hb hF
            clear hb
            refine wp_seq_k fun K25 h25 => ?_
            refine cReg ?_
            refine stP hf rfl rfl rfl (pA rfl) fun a hf => ?_
            refine cNil ?_
            refine h25 _ _ ?_
            refine wp_ret ?_
            refine xThenR ?_
            obtain rfl := Option.some.inj hF
            replace hc := hc.drop k7
            replace hc := hc.drop k6
            replace hc := hc.drop k5
            replace hc := hc.drop k4
            replace hc := hc.drop k3
            replace hc := hc.drop k2
            replace hc := hc.drop k1
            replace hc := hc.drop k0
            exact fnOut1 (by simp) rfl Try.results10 hf hc (show look _ 10 = _ from rfl) ⟨rfl, hc⟩
          · replace hF := condF hb hF
            clear hb
            refine wp_skip ?_
            refine h23 _ _ ?_
            refine wp_seq_k fun K26 h26 => ?_
            refine cReg ?_
            refine stP hf rfl rfl rfl (pM rfl) fun a hf => ?_
            refine stP hf rfl rfl rfl (pCv Try.underlying5 Try.underlying3 rfl) fun a hf => ?_
            refine stP hf rfl rfl rfl (pM rfl) fun a hf => ?_
            refine stP hf rfl rfl rfl (pLenS Try.underlying89 rfl) fun a hf => ?_
            obtain ⟨un, hun, hF⟩ := bnd_some hF
            refine stP hf rfl rfl rfl (pRem rfl rfl (nz_spec hun)) fun a hf => ?_
            refine stP hf rfl rfl rfl (pA rfl) fun a hf => ?_
            refine cNil ?_
            refine h26 _ _ ?_
            refine wp_seq_k fun K27 h27 => ?_
            refine cReg ?_
            refine stE hf hc rfl rfl rfl (eLdN (vs := [.int .i64 r_1.2.1.Lo, .int .i64 r_1.2.1.Hi]) ag_26 rfl rfl (cells_box (n := 2) m6 rfl)) fun a w hf hc => ?_
            refine stAl (cs := [.int .i64 0, .int .i64 0]) hf hc rfl rfl zr_26 rfl fun b_5 a w hf hc => ?_
            refine stSt (vs := [.int .i64 r_1.2.1.Lo, .int .i64 r_1.2.1.Hi]) hf hc rfl rfl rfl rfl sz_26 rfl rfl u0 fun w hc => ?_
            refine cNil ?_
            refine h27 _ _ ?_
            refine wp_seq_k fun K28 h28 => ?_
            have hj28 : ∀ (s_2 : List api_Span) (x_4 : Int) (x_5 : Int) (p_16 : Option Addr) (c_16 : Nat) a w, Has 318 a [(11, .pointer (some ⟨b_2, 0, none⟩)), (12, .pointer (some ⟨b_3, 0, none⟩)), (13, .slice p_7 l.length c_7), (16, .slice p_16 s_2.length c_16), (30, .int .i64 ((W (where_)).tmod ((l.length : Nat) : Int))), (31, .pointer (some ⟨b_5, 0, none⟩))] → Ctx G (.box b_5 [.int .i64 x_4, .int .i64 x_5] 26 :: .row p_1 c_1 (r_1.1.Table.map enc_share_Point) 116 2 :: .row p_7 c_7 (l.map enc_share_Year) 94 5 :: .row p_16 c_16 (s_2.map enc_api_Span) 26 2 :: .box b_3 [.int .i64 r_1.2.1.Lo, .int .i64 r_1.2.1.Hi] 26 :: .box b_2 [.slice p_1 r_1.1.Table.length c_1, .int .i64 r_1.1.Credit] 88 :: Lf) w → law09_ShareLess_j28 N where_ r_1 l s_2 x_4 x_5 = some res → K28 a w := by
              intro s_2 x_4 x_5 p_16 c_16 a w hf hc hF
              unfold law09_ShareLess_j28 at hF
              refine h28 _ _ ?_
              refine wp_seq_k fun K29 h29 => ?_
              have qc := row_cap hc m2
              obtain ⟨sub, hsub, hF⟩ := bnd_some hF
              obtain ⟨r_11, hr_11, hF⟩ := bnd_some hF
              replace hc := hc.nilRow 0 0
              refine regionE (fun θ => [⟨none, none, 11, .pointer (some ⟨b_2, 0, none⟩)⟩, ⟨none, none, 12, .pointer (some ⟨b_3, 0, none⟩)⟩, ⟨none, none, 13, .slice p_7 l.length c_7⟩, ⟨none, none, 16, .slice p_16 s_2.length c_16⟩, ⟨none, none, 30, .int .i64 ((W (where_)).tmod ((l.length : Nat) : Int))⟩, ⟨none, none, 31, .pointer (some ⟨b_5, 0, none⟩)⟩, ⟨some 0, none, 285, .agg #[.slice p_1 r_1.1.Table.length c_1, .int .i64 r_1.1.Credit]⟩, ⟨some 1, none, 286, .agg #[.int .i64 x_4, .int .i64 x_5]⟩, ⟨some 2, none, 287, .slice p_7 l.length c_7⟩, ⟨some 3, none, 288, .int .i64 ((W (where_)).tmod ((l.length : Nat) : Int))⟩, ⟨some 4, none, 289, .slice (subP p_7 c_7 ((W (where_)).tmod ((l.length : Nat) : Int)).toNat 5) sub.length (c_7 - ((W (where_)).tmod ((l.length : Nat) : Int)).toNat)⟩, ⟨some 5, none, 290, .tuple #[.slice ((θ 40).p) r_11.1.length ((θ 40).c), .int .i64 r_11.2]⟩, ⟨some 6, none, 284, .tuple #[.slice ((θ 40).p) r_11.1.length ((θ 40).c), .int .i64 r_11.2]⟩, ⟨some 7, none, 291, .slice ((θ 40).p) r_11.1.length ((θ 40).c)⟩, ⟨some 8, none, 292, .int .i64 r_11.2⟩, ⟨some 9, none, 32, .slice ((θ 40).p) r_11.1.length ((θ 40).c)⟩, ⟨some 10, none, 17, .int .i64 r_11.2⟩]) (fun E θ => (bif E 5 then .row ((θ 40).p) ((θ 40).c) (r_11.1.map enc_api_Span) 26 2 else .row none 0 [] 0 0) :: .box b_5 [.int .i64 x_4, .int .i64 x_5] 26 :: .row p_1 c_1 (r_1.1.Table.map enc_share_Point) 116 2 :: .row p_7 c_7 (l.map enc_share_Year) 94 5 :: .row p_16 c_16 (s_2.map enc_api_Span) 26 2 :: .box b_3 [.int .i64 r_1.2.1.Lo, .int .i64 r_1.2.1.Hi] 26 :: .box b_2 [.slice p_1 r_1.1.Table.length c_1, .int .i64 r_1.1.Credit] 88 :: Lf) [(6, 5), (7, 6), (9, 5)] (fun a w => ∃ (p_18 : Option Addr) (c_18 : Nat), Has 318 a [(11, .pointer (some ⟨b_2, 0, none⟩)), (12, .pointer (some ⟨b_3, 0, none⟩)), (13, .slice p_7 l.length c_7), (16, .slice p_16 s_2.length c_16), (30, .int .i64 ((W (where_)).tmod ((l.length : Nat) : Int))), (32, .slice p_18 r_11.1.length c_18), (17, .int .i64 r_11.2)] ∧ Ctx G (.row p_18 c_18 (r_11.1.map enc_api_Span) 26 2 :: .box b_5 [.int .i64 x_4, .int .i64 x_5] 26 :: .row p_1 c_1 (r_1.1.Table.map enc_share_Point) 116 2 :: .row p_7 c_7 (l.map enc_share_Year) 94 5 :: .row p_16 c_16 (s_2.map enc_api_Span) 26 2 :: .box b_3 [.int .i64 r_1.2.1.Lo, .int .i64 r_1.2.1.Hi] 26 :: .box b_2 [.slice p_1 r_1.1.Table.length c_1, .int .i64 r_1.1.Credit] 88 :: Lf) w) follows_mx (by kernel_rfl) (by kernel_rfl) (HasE.of hf ⟨rfl, rfl, rfl, rfl, rfl, rfl, trivial, trivial, trivial, trivial, trivial, trivial, trivial, trivial, trivial, trivial, trivial, trivial⟩) hc ⟨?_, ?_, ?_, ?_, ?_, ?_, ?_, ?_, ?_, ?_, ?_, trivial⟩ ?_ ?_
              · intro E θ a w hD hi hp he hc
                have hf := he.h0
                replace hf := hf.more he 0 rfl onT
                refine stE hf hc rfl rfl rfl (eLdN (vs := [.slice p_1 r_1.1.Table.length c_1, .int .i64 r_1.1.Credit]) ag_88 rfl rfl (cells_box (n := 2) m6 rfl)) fun a w hf hc => ?_
                refine cNil ?_
                refine xThenN ?_
                intro ds u hau
                refine ⟨θ, he.put0 hi hau hf rfl 6 rfl rfl, ?_⟩
                exact hc
              · intro E θ a w hD hi hp he hc
                have hf := he.h0
                replace hf := hf.more he 5 rfl onT
                refine stE hf hc rfl rfl rfl (eLdN (vs := [.int .i64 x_4, .int .i64 x_5]) ag_26 rfl rfl (cells_box (n := 2) m1 rfl)) fun a w hf hc => ?_
                refine cNil ?_
                refine xThenN ?_
                intro ds u hau
                refine ⟨θ, he.put0 hi hau hf rfl 7 rfl rfl, ?_⟩
                exact hc
              · intro E θ a w hD hi hp he hc
                have hf := he.h0
                replace hf := hf.more he 2 rfl onT
                refine stP hf rfl rfl rfl (pM rfl) fun a hf => ?_
                refine cNil ?_
                refine xThenN ?_
                intro ds u hau
                refine ⟨θ, he.put0 hi hau hf rfl 8 rfl rfl, ?_⟩
                exact hc
              · intro E θ a w hD hi hp he hc
                have hf := he.h0
                replace hf := hf.more he 4 rfl onT
                refine stP hf rfl rfl rfl (pM rfl) fun a hf => ?_
                refine cNil ?_
                refine xThenN ?_
                intro ds u hau
                refine ⟨θ, he.put0 hi hau hf rfl 9 rfl rfl, ?_⟩
                exact hc
              · intro E θ a w hD hi hp he hc
                have e2 := hp.of (k := 2) rfl
                have e3 := hp.of (k := 3) rfl
                have hf := he.h0
                replace hf := hf.more he 8 rfl (onP e2)
                replace hf := hf.more he 9 rfl (onP e3)
                refine stP hf rfl rfl rfl (pSl Try.underlying89 sz_94 rfl rfl qc rfl rfl hsub) fun a hf => ?_
                refine cNil ?_
                refine xThenN ?_
                intro ds u hau
                refine ⟨θ, he.put0 hi hau hf rfl 10 rfl rfl, ?_⟩
                exact hc
              · intro E θ a w hD hi hp he hc
                have e0 := hp.of (k := 0) rfl
                have e1 := hp.of (k := 1) rfl
                have e4 := hp.of (k := 4) rfl
                have e6 := hD.f 0 rfl hi
                have e7 := hD.f 1 rfl e6
                have e9 := hD.f 2 rfl hi
                try dsimp only at hc
                rw [hi] at hc
                have hf := he.h0
                replace hf := hf.more he 6 rfl (onP e0)
                replace hf := hf.more he 7 rfl (onP e1)
                replace hf := hf.more he 10 rfl (onP e4)
                obtain ⟨G1, hle1, hrd1, hc, hth1⟩ := lend hc k2
                obtain ⟨G2, hle2, hrd2, hc, hth2⟩ := lend hc k2
                refine stC (vs := [.agg #[.slice p_1 r_1.1.Table.length c_1, .int .i64 r_1.1.Credit], .agg #[.int .i64 x_4, .int .i64 x_5], .slice (subP p_7 c_7 ((W (where_)).tmod ((l.length : Nat) : Int)).toNat 5) sub.length (c_7 - ((W (where_)).tmod ((l.length : Nat) : Int)).toNat)]) (caps := []) hf rfl rfl rfl en_54 rfl rfl rfl rfl (share_Debts_ok r_1.1 (⟨x_4, x_5⟩ : api_Span) sub (hrd1.mono hle2) (Rd.sub hrd2 hsub) hc hr_11) ?_
                rintro _ w ⟨p_17, c_17, rfl, hc⟩
                refine ⟨_, rfl, fun a hf => ?_⟩
                replace hc := hth2 _ _ hc
                replace hc := hth1 _ _ hc
                refine cNil ?_
                refine xThenN ?_
                intro ds u hau
                replace hc := hc.drop k3
                replace hc := hc.pick k1
                replace hc := hc.pick k1
                replace hc := hc.pick k3
                replace hc := hc.pick k3
                refine ⟨(setT θ 40 ⟨0, p_17, c_17⟩), he.put hi hau hf rfl [6, 7, 9] ⟨⟨e6, rfl⟩, ⟨e7, rfl⟩, ⟨e9, rfl⟩, trivial⟩ ⟨qq, qq, qq, qq, qq, qq, qq, qq, qq, qq, qq, qq, trivial, trivial, qq, trivial, qq, trivial⟩, ?_⟩
                try dsimp only
                rw [updE_self E 5]
                exact hc
              · intro E θ a w hD hi hp he hc
                have e5 := hp.of (k := 5) rfl
                have hf := he.h0
                replace hf := hf.more he 11 rfl (onP e5)
                refine stP hf rfl rfl rfl (pM rfl) fun a hf => ?_
                refine cNil ?_
                refine xThenN ?_
                intro ds u hau
                refine ⟨θ, he.put0 hi hau hf rfl 12 rfl rfl, ?_⟩
                exact hc
              · intro E θ a w hD hi hp he hc
                have e6 := hp.of (k := 6) rfl
                have hf := he.h0
                replace hf := hf.more he 12 rfl (onP e6)
                refine stP hf rfl rfl rfl (pX rfl rfl) fun a hf => ?_
                refine cNil ?_
                refine xThenN ?_
                intro ds u hau
                refine ⟨θ, he.put0 hi hau hf rfl 13 rfl rfl, ?_⟩
                exact hc
              · intro E θ a w hD hi hp he hc
                have e6 := hp.of (k := 6) rfl
                have hf := he.h0
                replace hf := hf.more he 12 rfl (onP e6)
                refine stP hf rfl rfl rfl (pX rfl rfl) fun a hf => ?_
                refine cNil ?_
                refine xThenN ?_
                intro ds u hau
                refine ⟨θ, he.put0 hi hau hf rfl 14 rfl rfl, ?_⟩
                exact hc
              · intro E θ a w hD hi hp he hc
                have e7 := hp.of (k := 7) rfl
                have hf := he.h0
                replace hf := hf.more he 13 rfl (onP e7)
                refine stP hf rfl rfl rfl (pA rfl) fun a hf => ?_
                refine cNil ?_
                refine xThenN ?_
                intro ds u hau
                refine ⟨θ, he.put0 hi hau hf rfl 15 rfl rfl, ?_⟩
                exact hc
              · intro E θ a w hD hi hp he hc
                have e8 := hp.of (k := 8) rfl
                have hf := he.h0
                replace hf := hf.more he 14 rfl (onP e8)
                refine stP hf rfl rfl rfl (pA rfl) fun a hf => ?_
                refine cNil ?_
                refine xThenN ?_
                intro ds u hau
                refine ⟨θ, he.put0 hi hau hf rfl 16 rfl rfl, ?_⟩
                exact hc
              · intro E θ a w hall he hc
                have hf := he.h0
                have e5 := hall 5 rfl
                have e9 := hall 9 rfl
                have e10 := hall 10 rfl
                replace hf := hf.more he 16 rfl (onP e10)
                replace hf := hf.more he 15 rfl (onP e9)
                replace hf := hf.more he 4 rfl (onT)
                replace hf := hf.more he 3 rfl (onT)
                replace hf := hf.more he 2 rfl (onT)
                replace hf := hf.more he 1 rfl (onT)
                replace hf := hf.more he 0 rfl (onT)
                try dsimp only at hc
                rw [e5] at hc
                exact ⟨(θ 40).p, (θ 40).c, hf.keep ⟨rfl, rfl, rfl, rfl, rfl, rfl, rfl, trivial⟩, hc⟩
              rintro a w ⟨p_18, c_18, hf, hc⟩
              refine h29 _ _ ?_
              refine wp_seq_k fun K30 h30 => ?_
              have qc_1 := row_cap hc m3
              obtain ⟨sub_1, hsub_1, hF⟩ := bnd_some hF
              obtain ⟨r_12, hr_12, hF⟩ := bnd_some hF
              replace hc := hc.nilRow 0 0
              refine regionE (fun θ => [⟨none, none, 11, .pointer (some ⟨b_2, 0, none⟩)⟩, ⟨none, none, 12, .pointer (some ⟨b_3, 0, none⟩)⟩, ⟨none, none, 13, .slice p_7 l.length c_7⟩, ⟨none, none, 16, .slice p_16 s_2.length c_16⟩, ⟨none, none, 17, .int .i64 r_11.2⟩, ⟨none, none, 30, .int .i64 ((W (where_)).tmod ((l.length : Nat) : Int))⟩, ⟨none, none, 32, .slice p_18 r_11.1.length c_18⟩, ⟨some 0, none, 294, .agg #[.slice p_1 r_1.1.Table.length c_1, .int .i64 r_1.1.Credit]⟩, ⟨some 1, none, 295, .agg #[.int .i64 r_1.2.1.Lo, .int .i64 r_1.2.1.Hi]⟩, ⟨some 2, none, 296, .slice p_7 l.length c_7⟩, ⟨some 3, none, 297, .int .i64 ((W (where_)).tmod ((l.length : Nat) : Int))⟩, ⟨some 4, none, 298, .slice (subP p_7 c_7 (0 : Int).toNat 5) sub_1.length (c_7 - (0 : Int).toNat)⟩, ⟨some 5, none, 299, .tuple #[.slice ((θ 40).p) r_12.1.length ((θ 40).c), .int .i64 r_12.2]⟩, ⟨some 6, none, 293, .tuple #[.slice ((θ 40).p) r_12.1.length ((θ 40).c), .int .i64 r_12.2]⟩, ⟨some 7, none, 300, .slice ((θ 40).p) r_12.1.length ((θ 40).c)⟩, ⟨some 8, none, 301, .int .i64 r_12.2⟩, ⟨some 9, none, 33, .slice ((θ 40).p) r_12.1.length ((θ 40).c)⟩, ⟨some 10, none, 24, .int .i64 r_12.2⟩]) (fun E θ => (bif E 5 then .row ((θ 40).p) ((θ 40).c) (r_12.1.map enc_api_Span) 26 2 else .row none 0 [] 0 0) :: .row p_18 c_18 (r_11.1.map enc_api_Span) 26 2 :: .box b_5 [.int .i64 x_4, .int .i64 x_5] 26 :: .row p_1 c_1 (r_1.1.Table.map enc_share_Point) 116 2 :: .row p_7 c_7 (l.map enc_share_Year) 94 5 :: .row p_16 c_16 (s_2.map enc_api_Span) 26 2 :: .box b_3 [.int .i64 r_1.2.1.Lo, .int .i64 r_1.2.1.Hi] 26 :: .box b_2 [.slice p_1 r_1.1.Table.length c_1, .int .i64 r_1.1.Credit] 88 :: Lf) [(6, 5), (7, 6), (9, 5)] (fun a w => ∃ (p_20 : Option Addr) (c_20 : Nat), Has 318 a [(16, .slice p_16 s_2.length c_16), (17, .int .i64 r_11.2), (32, .slice p_18 r_11.1.length c_18), (33, .slice p_20 r_12.1.length c_20), (24, .int .i64 r_12.2)] ∧ Ctx G (.row p_20 c_20 (r_12.1.map enc_api_Span) 26 2 :: .row p_18 c_18 (r_11.1.map enc_api_Span) 26 2 :: .box b_5 [.int .i64 x_4, .int .i64 x_5] 26 :: .row p_1 c_1 (r_1.1.Table.map enc_share_Point) 116 2 :: .row p_7 c_7 (l.map enc_share_Year) 94 5 :: .row p_16 c_16 (s_2.map enc_api_Span) 26 2 :: .box b_3 [.int .i64 r_1.2.1.Lo, .int .i64 r_1.2.1.Hi] 26 :: .box b_2 [.slice p_1 r_1.1.Table.length c_1, .int .i64 r_1.1.Credit] 88 :: Lf) w) follows_mx (by kernel_rfl) (by kernel_rfl) (HasE.of hf ⟨rfl, rfl, rfl, rfl, rfl, rfl, rfl, trivial, trivial, trivial, trivial, trivial, trivial, trivial, trivial, trivial, trivial, trivial, trivial⟩) hc ⟨?_, ?_, ?_, ?_, ?_, ?_, ?_, ?_, ?_, ?_, ?_, trivial⟩ ?_ ?_
              · intro E θ a w hD hi hp he hc
                have hf := he.h0
                replace hf := hf.more he 0 rfl onT
                refine stE hf hc rfl rfl rfl (eLdN (vs := [.slice p_1 r_1.1.Table.length c_1, .int .i64 r_1.1.Credit]) ag_88 rfl rfl (cells_box (n := 2) m7 rfl)) fun a w hf hc => ?_
                refine cNil ?_
                refine xThenN ?_
                intro ds u hau
                refine ⟨θ, he.put0 hi hau hf rfl 7 rfl rfl, ?_⟩
                exact hc
              · intro E θ a w hD hi hp he hc
                have hf := he.h0
                replace hf := hf.more he 1 rfl onT
                refine stE hf hc rfl rfl rfl (eLdN (vs := [.int .i64 r_1.2.1.Lo, .int .i64 r_1.2.1.Hi]) ag_26 rfl rfl (cells_box (n := 2) m6 rfl)) fun a w hf hc => ?_
                refine cNil ?_
                refine xThenN ?_
                intro ds u hau
                refine ⟨θ, he.put0 hi hau hf rfl 8 rfl rfl, ?_⟩
                exact hc
              · intro E θ a w hD hi hp he hc
                have hf := he.h0
                replace hf := hf.more he 2 rfl onT
                refine stP hf rfl rfl rfl (pM rfl) fun a hf => ?_
                refine cNil ?_
                refine xThenN ?_
                intro ds u hau
                refine ⟨θ, he.put0 hi hau hf rfl 9 rfl rfl, ?_⟩
                exact hc
              · intro E θ a w hD hi hp he hc
                have hf := he.h0
                replace hf := hf.more he 5 rfl onT
                refine stP hf rfl rfl rfl (pM rfl) fun a hf => ?_
                refine cNil ?_
                refine xThenN ?_
                intro ds u hau
                refine ⟨θ, he.put0 hi hau hf rfl 10 rfl rfl, ?_⟩
                exact hc
              · intro E θ a w hD hi hp he hc
                have e2 := hp.of (k := 2) rfl
                have e3 := hp.of (k := 3) rfl
                have hf := he.h0
                replace hf := hf.more he 9 rfl (onP e2)
                replace hf := hf.more he 10 rfl (onP e3)
                refine stP hf rfl rfl rfl (pSl Try.underlying89 sz_94 rfl rfl qc_1 rfl rfl hsub_1) fun a hf => ?_
                refine cNil ?_
                refine xThenN ?_
                intro ds u hau
                refine ⟨θ, he.put0 hi hau hf rfl 11 rfl rfl, ?_⟩
                exact hc
              · intro E θ a w hD hi hp he hc
                have e0 := hp.of (k := 0) rfl
                have e1 := hp.of (k := 1) rfl
                have e4 := hp.of (k := 4) rfl
                have e6 := hD.f 0 rfl hi
                have e7 := hD.f 1 rfl e6
                have e9 := hD.f 2 rfl hi
                try dsimp only at hc
                rw [hi] at hc
                have hf := he.h0
                replace hf := hf.more he 7 rfl (onP e0)
                replace hf := hf.more he 8 rfl (onP e1)
                replace hf := hf.more he 11 rfl (onP e4)
                obtain ⟨G1, hle1, hrd1, hc, hth1⟩ := lend hc k3
                obtain ⟨G2, hle2, hrd2, hc, hth2⟩ := lend hc k3
                refine stC (vs := [.agg #[.slice p_1 r_1.1.Table.length c_1, .int .i64 r_1.1.Credit], .agg #[.int .i64 r_1.2.1.Lo, .int .i64 r_1.2.1.Hi], .slice (subP p_7 c_7 (0 : Int).toNat 5) sub_1.length (c_7 - (0 : Int).toNat)]) (caps := []) hf rfl rfl rfl en_54 rfl rfl rfl rfl (share_Debts_ok r_1.1 r_1.2.1 sub_1 (hrd1.mono hle2) (Rd.sub hrd2 hsub_1) hc hr_12) ?_
                rintro _ w ⟨p_19, c_19, rfl, hc⟩
                refine ⟨_, rfl, fun a hf => ?_⟩
                replace hc := hth2 _ _ hc
                replace hc := hth1 _ _ hc
                refine cNil ?_
                refine xThenN ?_
                intro ds u hau
                replace hc := hc.drop k3
                replace hc := hc.pick k1
                replace hc := hc.pick k1
                replace hc := hc.pick k4
                replace hc := hc.pick k4
                replace hc := hc.pick k4
                refine ⟨(setT θ 40 ⟨0, p_19, c_19⟩), he.put hi hau hf rfl [6, 7, 9] ⟨⟨e6, rfl⟩, ⟨e7, rfl⟩, ⟨e9, rfl⟩, trivial⟩ ⟨qq, qq, qq, qq, qq, qq, qq, qq, qq, qq, qq, qq, qq, trivial, trivial, qq, trivial, qq, trivial⟩, ?_⟩
                try dsimp only
                rw [updE_self E 5]
                exact hc
              · intro E θ a w hD hi hp he hc
                have e5 := hp.of (k := 5) rfl
                have hf := he.h0
                replace hf := hf.more he 12 rfl (onP e5)
                refine stP hf rfl rfl rfl (pM rfl) fun a hf => ?_
                refine cNil ?_
                refine xThenN ?_
                intro ds u hau
                refine ⟨θ, he.put0 hi hau hf rfl 13 rfl rfl, ?_⟩
                exact hc
              · intro E θ a w hD hi hp he hc
                have e6 := hp.of (k := 6) rfl
                have hf := he.h0
                replace hf := hf.more he 13 rfl (onP e6)
                refine stP hf rfl rfl rfl (pX rfl rfl) fun a hf => ?_
                refine cNil ?_
                refine xThenN ?_
                intro ds u hau
                refine ⟨θ, he.put0 hi hau hf rfl 14 rfl rfl, ?_⟩
                exact hc
              · intro E θ a w hD hi hp he hc
                have e6 := hp.of (k := 6) rfl
                have hf := he.h0
                replace hf := hf.more he 13 rfl (onP e6)
                refine stP hf rfl rfl rfl (pX rfl rfl) fun a hf => ?_
                refine cNil ?_
                refine xThenN ?_
                intro ds u hau
                refine ⟨θ, he.put0 hi hau hf rfl 15 rfl rfl, ?_⟩
                exact hc
              · intro E θ a w hD hi hp he hc
                have e7 := hp.of (k := 7) rfl
                have hf := he.h0
                replace hf := hf.more he 14 rfl (onP e7)
                refine stP hf rfl rfl rfl (pA rfl) fun a hf => ?_
                refine cNil ?_
                refine xThenN ?_
                intro ds u hau
                refine ⟨θ, he.put0 hi hau hf rfl 16 rfl rfl, ?_⟩
                exact hc
              · intro E θ a w hD hi hp he hc
                have e8 := hp.of (k := 8) rfl
                have hf := he.h0
                replace hf := hf.more he 15 rfl (onP e8)
                refine stP hf rfl rfl rfl (pA rfl) fun a hf => ?_
                refine cNil ?_
                refine xThenN ?_
                intro ds u hau
                refine ⟨θ, he.put0 hi hau hf rfl 17 rfl rfl, ?_⟩
                exact hc
              · intro E θ a w hall he hc
                have hf := he.h0
                have e5 := hall 5 rfl
                have e9 := hall 9 rfl
                have e10 := hall 10 rfl
                replace hf := hf.more he 17 rfl (onP e10)
                replace hf := hf.more he 16 rfl (onP e9)
                replace hf := hf.more he 6 rfl (onT)
                replace hf := hf.more he 4 rfl (onT)
                replace hf := hf.more he 3 rfl (onT)
                try dsimp only at hc
                rw [e5] at hc
                exact ⟨(θ 40).p, (θ 40).c, hf.keep ⟨rfl, rfl, rfl, rfl, rfl, trivial⟩, hc⟩
              rintro a w ⟨p_20, c_20, hf, hc⟩
              refine h30 _ _ ?_
              refine wp_seq_k fun K31 h31 => ?_
              refine cReg ?_
              refine stP hf rfl rfl rfl (pM rfl) fun a hf => ?_
              refine stP hf rfl rfl rfl (pEq rfl rfl) fun a hf => ?_
              refine stP hf rfl rfl rfl (pM rfl) fun a hf => ?_
              refine stCut 3 (fun a w => Has 318 a [(16, .slice p_16 s_2.length c_16), (17, .int .i64 r_11.2), (32, .slice p_18 r_11.1.length c_18), (33, .slice p_20 r_12.1.length c_20), (24, .int .i64 r_12.2), (302, .int .i64 r_11.2), (303, .bool (r_11.2 == 0)), (304, .bool (r_11.2 == 0)), (307, .bool ((r_11.2 == 0) && (r_12.2 == 0)))] ∧ Ctx G (.row p_20 c_20 (r_12.1.map enc_api_Span) 26 2 :: .row p_18 c_18 (r_11.1.map enc_api_Span) 26 2 :: .box b_5 [.int .i64 x_4, .int .i64 x_5] 26 :: .row p_1 c_1 (r_1.1.Table.map enc_share_Point) 116 2 :: .row p_7 c_7 (l.map enc_share_Year) 94 5 :: .row p_16 c_16 (s_2.map enc_api_Span) 26 2 :: .box b_3 [.int .i64 r_1.2.1.Lo, .int .i64 r_1.2.1.Hi] 26 :: .box b_2 [.slice p_1 r_1.1.Table.length c_1, .int .i64 r_1.1.Credit] 88 :: Lf) w) ?_ ?_
              · cases hb : (r_11.2 == 0)
                · rw [hb] at hf
                  refine stS hf rfl rfl rfl fun a hf => ?_
                  refine stS hf rfl rfl rfl fun a hf => ?_
                  refine stP hf rfl rfl rfl (pPf rfl rfl) fun a hf => ?_
                  exact cNil ⟨hf.keep ⟨rfl, rfl, rfl, rfl, rfl, rfl, rfl, rfl, rfl, trivial⟩, hc⟩
                · rw [hb] at hf
                  refine stP hf rfl rfl rfl (pM rfl) fun a hf => ?_
                  refine stP hf rfl rfl rfl (pEq rfl rfl) fun a hf => ?_
                  refine stP hf rfl rfl rfl (pPt rfl rfl) fun a hf => ?_
                  exact cNil ⟨hf.keep ⟨rfl, rfl, rfl, rfl, rfl, rfl, rfl, rfl, rfl, trivial⟩, hc⟩
              intro a w ⟨hf, hc⟩
              refine stP hf rfl rfl rfl (pM rfl) fun a hf => ?_
              obtain ⟨t_2, ht_2, hF⟩ := bnd_some hF
              refine stCut 6 (fun a w => Has 318 a [(16, .slice p_16 s_2.length c_16), (17, .int .i64 r_11.2), (32, .slice p_18 r_11.1.length c_18), (33, .slice p_20 r_12.1.length c_20), (24, .int .i64 r_12.2), (302, .int .i64 r_11.2), (303, .bool (r_11.2 == 0)), (304, .bool (r_11.2 == 0)), (307, .bool ((r_11.2 == 0) && (r_12.2 == 0))), (308, .bool ((r_11.2 == 0) && (r_12.2 == 0))), (314, .bool t_2)] ∧ Ctx G (.row p_18 c_18 (r_11.1.map enc_api_Span) 26 2 :: .box b_5 [.int .i64 x_4, .int .i64 x_5] 26 :: .row p_1 c_1 (r_1.1.Table.map enc_share_Point) 116 2 :: .row p_7 c_7 (l.map enc_share_Year) 94 5 :: .row p_16 c_16 (s_2.map enc_api_Span) 26 2 :: .box b_3 [.int .i64 r_1.2.1.Lo, .int .i64 r_1.2.1.Hi] 26 :: .box b_2 [.slice p_1 r_1.1.Table.length c_1, .int .i64 r_1.1.Credit] 88 :: Lf) w) ?_ ?_
              · cases hb : ((r_11.2 == 0) && (r_12.2 == 0))
                · rw [hb] at hf
                  have hF := condF hb ht_2
                  obtain rfl := Option.some.inj hF
                  refine stS hf rfl rfl rfl fun a hf => ?_
                  refine stS hf rfl rfl rfl fun a hf => ?_
                  refine stS hf rfl rfl rfl fun a hf => ?_
                  refine stS hf rfl rfl rfl fun a hf => ?_
                  refine stS hf rfl rfl rfl fun a hf => ?_
                  refine stP hf rfl rfl rfl (pPf rfl rfl) fun a hf => ?_
                  replace hc := hc.drop k0
                  exact cNil ⟨hf.keep ⟨rfl, rfl, rfl, rfl, rfl, rfl, rfl, rfl, rfl, rfl, rfl, trivial⟩, hc⟩
                · rw [hb] at hf
                  have hF := condT hb ht_2
                  refine stP hf rfl rfl rfl (pM rfl) fun a hf => ?_
                  refine stP hf rfl rfl rfl (pM rfl) fun a hf => ?_
                  obtain ⟨un_1, hun_1, hF⟩ := bnd_some hF
                  refine stApm (xs := r_12.1) (ys := r_11.1) hf hc rfl rfl sl_41 rfl rfl rfl rfl rfl one_enc_api_Span (src_row hc m1) (fun _ _ => u0) (by simpa using room_spec hun_1) fun p_21 c_21 a w hf hc => ?_
                  refine stP hf rfl rfl rfl (pM rfl) fun a hf => ?_
                  obtain ⟨r_13, hr_13, hF⟩ := bnd_some hF
                  refine stE hf hc rfl rfl rfl (eC (v := .bool r_13) (vs := [.slice p_21 ((r_12.1 ++ r_11.1).length) c_21, .slice p_16 s_2.length c_16]) (caps := []) en_23 rfl rfl rfl rfl (fun w hc => by obtain ⟨G1, hle1, hrd1, hc, hth1⟩ := lend hc k0; obtain ⟨G2, hle2, hrd2, hc, hth2⟩ := lend hc k4; exact (kit_Same_api_Span_ok (r_12.1 ++ r_11.1) s_2 (hrd1.mono hle2) hrd2 hc hr_13).mono fun e w h => ⟨h.1, ((hth1 _ _ ((hth2 _ _ h.2).unpick k4)).unpick k0)⟩)) fun a w hf hc => ?_
                  refine stP hf rfl rfl rfl (pPt rfl rfl) fun a hf => ?_
                  replace hc := hc.drop k0
                  obtain rfl := Option.some.inj hF
                  exact cNil ⟨hf.keep ⟨rfl, rfl, rfl, rfl, rfl, rfl, rfl, rfl, rfl, rfl, rfl, trivial⟩, hc⟩
              intro a w ⟨hf, hc⟩
              refine stP hf rfl rfl rfl (pM rfl) fun a hf => ?_
              obtain ⟨t_3, ht_3, hF⟩ := bnd_some hF
              refine stCut 2 (fun a w => Has 318 a [(16, .slice p_16 s_2.length c_16), (17, .int .i64 r_11.2), (32, .slice p_18 r_11.1.length c_18), (33, .slice p_20 r_12.1.length c_20), (24, .int .i64 r_12.2), (302, .int .i64 r_11.2), (303, .bool (r_11.2 == 0)), (304, .bool (r_11.2 == 0)), (307, .bool ((r_11.2 == 0) && (r_12.2 == 0))), (308, .bool ((r_11.2 == 0) && (r_12.2 == 0))), (314, .bool t_2), (315, .bool t_2), (317, .bool t_3)] ∧ Ctx G (.row p_18 c_18 (r_11.1.map enc_api_Span) 26 2 :: .box b_5 [.int .i64 x_4, .int .i64 x_5] 26 :: .row p_1 c_1 (r_1.1.Table.map enc_share_Point) 116 2 :: .row p_7 c_7 (l.map enc_share_Year) 94 5 :: .row p_16 c_16 (s_2.map enc_api_Span) 26 2 :: .box b_3 [.int .i64 r_1.2.1.Lo, .int .i64 r_1.2.1.Hi] 26 :: .box b_2 [.slice p_1 r_1.1.Table.length c_1, .int .i64 r_1.1.Credit] 88 :: Lf) w) ?_ ?_
              · cases hb : t_2
                · rw [hb] at hf
                  have hF := condF hb ht_3
                  obtain rfl := Option.some.inj hF
                  refine stS hf rfl rfl rfl fun a hf => ?_
                  refine stP hf rfl rfl rfl (pPf rfl rfl) fun a hf => ?_
                  exact cNil ⟨hf.keep ⟨rfl, rfl, rfl, rfl, rfl, rfl, rfl, rfl, rfl, rfl, rfl, rfl, rfl, trivial⟩, hc⟩
                · rw [hb] at hf
                  have hF := condT hb ht_3
                  obtain ⟨r_14, hr_14, hF⟩ := bnd_some hF
                  refine stE hf hc rfl rfl rfl (eC (v := .bool r_14) (vs := []) (caps := []) en_13 rfl rfl rfl rfl (fun w hc => law09_awake_ok hc hr_14)) fun a w hf hc => ?_
                  refine stP hf rfl rfl rfl (pPt rfl rfl) fun a hf => ?_
                  obtain rfl := Option.some.inj hF
                  exact cNil ⟨hf.keep ⟨rfl, rfl, rfl, rfl, rfl, rfl, rfl, rfl, rfl, rfl, rfl, rfl, rfl, trivial⟩, hc⟩
              intro a w ⟨hf, hc⟩
              refine stP hf rfl rfl rfl (pA rfl) fun a hf => ?_
              refine cNil ?_
              refine h31 _ _ ?_
              refine wp_ret ?_
              obtain rfl := Option.some.inj hF
              replace hc := hc.drop k6
              replace hc := hc.drop k5
              replace hc := hc.drop k4
              replace hc := hc.drop k3
              replace hc := hc.drop k2
              replace hc := hc.drop k1
              replace hc := hc.drop k0
              exact fnOut1 (by simp) rfl Try.results10 hf hc (show look _ 10 = _ from rfl) ⟨rfl, hc⟩
            refine wp_seq_k fun K32 h32 => ?_
            refine cReg ?_
            refine stP hf rfl rfl rfl (pM rfl) fun a hf => ?_
            refine stP hf rfl rfl rfl (pGt rfl rfl) fun a hf => ?_
            refine cNil ?_
            refine h32 _ _ ?_
            refine cCond (b := (decide (0 < ((W (where_)).tmod ((l.length : Nat) : Int))))) hf rfl (fun hb => ?_) (fun hb => ?_)
            · replace hF := condT hb hF
              clear hb
              refine cReg ?_
              refine stP hf rfl rfl rfl (pM rfl) fun a hf => ?_
              refine stP hf rfl rfl rfl (pM rfl) fun a hf => ?_
              refine stP hf rfl rfl rfl (pSub rfl rfl) fun a hf => ?_
              obtain ⟨e_1, he_1, hF⟩ := bnd_some hF
              obtain ⟨g, rfl, qa, qr⟩ := row_atm hc m6 he_1
              refine stP hf rfl rfl rfl (pIA Try.underlying41 sz_26 rfl rfl qa) fun a hf => ?_
              refine stE hf hc rfl rfl rfl (eLdN (vs := [.int .i64 e_1.Lo, .int .i64 e_1.Hi]) ag_26 rfl rfl (cells_rw (sz := 2) (i := (W (((W (where_)).tmod ((l.length : Nat) : Int)) - 1)).toNat) m6 qr (n := 2) (o' := 0) rfl)) fun a w hf hc => ?_
              refine stSt (vs := [.int .i64 e_1.Lo, .int .i64 e_1.Hi]) hf hc rfl rfl rfl rfl sz_26 rfl rfl u0 fun w hc => ?_
              refine cNil ?_
              replace hc := hc.drop k5
              replace hc := hc.drop k4
              replace hc := hc.drop k3
              exact hj28 s_1 e_1.Lo e_1.Hi (some ⟨g, 0, none⟩) c_14 _ _  (hf.keep ⟨rfl, rfl, rfl, rfl, rfl, rfl, trivial⟩) hc hF
            · replace hF := condF hb hF
              clear hb
              refine wp_skip ?_
              replace hc := hc.drop k5
              replace hc := hc.drop k4
              replace hc := hc.drop k3
              exact hj28 s_1 r_1.2.1.Lo r_1.2.1.Hi p_14 c_14 _ _  (hf.keep ⟨rfl, rfl, rfl, rfl, rfl, rfl, trivial⟩) hc hF
        have ho20 : ∀ r, x20 = .out r → r = res := by
          rintro r rfl
          exact Option.some.inj hF
        replace hc := hc.drop k9
        replace hc := hc.drop k6
        replace hc := hc.drop k4
        replace hc := hc.drop k2
        refine cLoop N (loopW (S := S20) (x := x20) ?_ N (r_3.1, r_6.1, 0) _ _ ⟨p_4, c_4, p_11, c_11, hf.keep ⟨rfl, rfl, rfl, rfl, rfl, rfl, rfl, rfl, rfl, rfl, rfl, rfl, trivial⟩, hc⟩ hx20)
        clear hF hf hc
        rintro ⟨s_1, t_1, x_3⟩ st20 a w KB20 ⟨p_14, c_14, p_15, c_15, hf, hc⟩ hF hfin20 hK20
        unfold law09_ShareLess_b20 at hF
        refine wp_seq_k fun K33 h33 => ?_
        refine cReg ?_
        refine stP hf rfl rfl rfl (pLt rfl rfl) fun a hf => ?_
        refine cNil ?_
        refine h33 _ _ ?_
        refine wp_seq_k fun K34 h34 => ?_
        refine cCond (b := (decide (x_3 < ((r_3.1.length : Nat) : Int)))) hf rfl (fun hb => ?_) (fun hb => ?_)
        · replace hF := condT hb hF
          clear hb
          refine wp_skip ?_
          refine h34 _ _ ?_
          refine wp_seq_k fun K35 h35 => ?_
          refine wp_block ?_
          refine wp_seq_k fun K36 h36 => ?_
          refine cReg ?_
          refine stP hf rfl rfl rfl (pM rfl) fun a hf => ?_
          refine stP hf rfl rfl rfl (pA rfl) fun a hf => ?_
          refine cNil ?_
          refine h36 _ _ ?_
          refine wp_seq_k fun K37 h37 => ?_
          obtain ⟨e_2, he_2, hF⟩ := bnd_some hF
          obtain ⟨g_1, rfl, qa_1, qr_1⟩ := row_atm hc m4 he_2
          obtain ⟨e_3, he_3, hF⟩ := bnd_some hF
          obtain ⟨g_2, rfl, qa_2, qr_2⟩ := row_atm hc m5 he_3
          obtain ⟨t_4, ht_4, hF⟩ := bnd_some hF
          obtain ⟨t_5, ht_5, hF⟩ := bnd_some hF
          refine cQ hc follows_mx (by kernel_rfl) ?_
          refine qE hf rfl rfl rfl (Pu.ev (pM rfl)) fun a hf => ?_
          refine qE hf rfl rfl rfl (Pu.ev (pM rfl)) fun a hf => ?_
          refine qE hf rfl rfl rfl (Pu.ev (pIA Try.underlying41 sz_26 rfl rfl qa_1)) fun a hf => ?_
          refine qE hf rfl rfl rfl (Pu.ev (pFA fa_26_0 rfl)) fun a hf => ?_
          refine qE hf rfl rfl rfl (eLd1 sc_3 rfl (cell_row (sz := 2) (i := x_3.toNat) (j := 0) m4 qr_1 rfl)) fun a hf => ?_
          refine qE hf rfl rfl rfl (Pu.ev (pM rfl)) fun a hf => ?_
          refine qE hf rfl rfl rfl (Pu.ev (pM rfl)) fun a hf => ?_
          refine qE hf rfl rfl rfl (Pu.ev (pIA Try.underlying41 sz_26 rfl rfl qa_2)) fun a hf => ?_
          refine qE hf rfl rfl rfl (Pu.ev (pFA fa_26_0 rfl)) fun a hf => ?_
          refine qE hf rfl rfl rfl (eLd1 sc_3 rfl (cell_row (sz := 2) (i := x_3.toNat) (j := 0) m5 qr_2 rfl)) fun a hf => ?_
          refine qE hf rfl rfl rfl (Pu.ev (pLt rfl rfl)) fun a hf => ?_
          refine qE hf rfl rfl rfl (Pu.ev (pM rfl)) fun a hf => ?_
          refine qCut 12 (fun a => Has 318 a [(2, .int .u8 where_), (3, .int .u8 a_), (4, .int .u8 b_), (11, .pointer (some ⟨b_2, 0, none⟩)), (12, .pointer (some ⟨b_3, 0, none⟩)), (13, .slice p_7 l.length c_7), (16, .slice (some ⟨g_2, 0, none⟩) s_1.length c_14), (22, .slice (some ⟨g_1, 0, none⟩) t_1.length c_15), (23, .slice p_12 r_7.1.length c_12), (25, .slice p_13 r_8.1.length c_13), (203, .int .i64 ((r_3.1.length : Nat) : Int)), (204, .int .i64 x_3), (27, .int .i64 x_3), (207, .slice (some ⟨g_1, 0, none⟩) t_1.length c_15), (208, .int .i64 x_3), (209, .pointer (some ⟨g_1, x_3.toNat * 2, none⟩)), (210, .pointer (some ⟨g_1, x_3.toNat * 2 + 0, none⟩)), (211, .int .i64 e_2.Lo), (212, .slice (some ⟨g_2, 0, none⟩) s_1.length c_14), (213, .int .i64 x_3), (214, .pointer (some ⟨g_2, x_3.toNat * 2, none⟩)), (215, .pointer (some ⟨g_2, x_3.toNat * 2 + 0, none⟩)), (216, .int .i64 e_3.Lo), (217, .bool (decide (e_2.Lo < e_3.Lo))), (218, .bool (decide (e_2.Lo < e_3.Lo))), (230, .bool t_4)]) ?_ ?_
          · cases hb : (decide (e_2.Lo < e_3.Lo))
            · rw [hb] at hf
              have hF := condF hb ht_4
              obtain ⟨e_4, he_4, hF⟩ := bnd_some hF
              obtain ⟨qa_3, qr_3⟩ := row_atk hc m4 he_4
              obtain ⟨e_5, he_5, hF⟩ := bnd_some hF
              obtain ⟨qa_4, qr_4⟩ := row_atk hc m5 he_5
              refine qE hf rfl rfl rfl (Pu.ev (pM rfl)) fun a hf => ?_
              refine qE hf rfl rfl rfl (Pu.ev (pM rfl)) fun a hf => ?_
              refine qE hf rfl rfl rfl (Pu.ev (pIA Try.underlying41 sz_26 rfl rfl qa_3)) fun a hf => ?_
              refine qE hf rfl rfl rfl (Pu.ev (pFA fa_26_1 rfl)) fun a hf => ?_
              refine qE hf rfl rfl rfl (eLd1 sc_3 rfl (cell_row (sz := 2) (i := x_3.toNat) (j := 1) m4 qr_3 rfl)) fun a hf => ?_
              refine qE hf rfl rfl rfl (Pu.ev (pM rfl)) fun a hf => ?_
              refine qE hf rfl rfl rfl (Pu.ev (pM rfl)) fun a hf => ?_
              refine qE hf rfl rfl rfl (Pu.ev (pIA Try.underlying41 sz_26 rfl rfl qa_4)) fun a hf => ?_
              refine qE hf rfl rfl rfl (Pu.ev (pFA fa_26_1 rfl)) fun a hf => ?_
              refine qE hf rfl rfl rfl (eLd1 sc_3 rfl (cell_row (sz := 2) (i := x_3.toNat) (j := 1) m5 qr_4 rfl)) fun a hf => ?_
              refine qE hf rfl rfl rfl (Pu.ev (pGt rfl rfl)) fun a hf => ?_
              refine qE hf rfl rfl rfl (Pu.ev (pPf rfl rfl)) fun a hf => ?_
              obtain rfl := Option.some.inj hF
              exact qNil (hf.keep ⟨rfl, rfl, rfl, rfl, rfl, rfl, rfl, rfl, rfl, rfl, rfl, rfl, rfl, rfl, rfl, rfl, rfl, rfl, rfl, rfl, rfl, rfl, rfl, rfl, rfl, rfl, trivial⟩)
            · rw [hb] at hf
              have hF := condT hb ht_4
              obtain rfl := Option.some.inj hF
              refine qS hf rfl rfl rfl fun a hf => ?_
              refine qS hf rfl rfl rfl fun a hf => ?_
              refine qS hf rfl rfl rfl fun a hf => ?_
              refine qS hf rfl rfl rfl fun a hf => ?_
              refine qS hf rfl rfl rfl fun a hf => ?_
              refine qS hf rfl rfl rfl fun a hf => ?_
              refine qS hf rfl rfl rfl fun a hf => ?_
              refine qS hf rfl rfl rfl fun a hf => ?_
              refine qS hf rfl rfl rfl fun a hf => ?_
              refine qS hf rfl rfl rfl fun a hf => ?_
              refine qS hf rfl rfl rfl fun a hf => ?_
              refine qE hf rfl rfl rfl (Pu.ev (pPt rfl rfl)) fun a hf => ?_
              exact qNil (hf.keep ⟨rfl, rfl, rfl, rfl, rfl, rfl, rfl, rfl, rfl, rfl, rfl, rfl, rfl, rfl, rfl, rfl, rfl, rfl, rfl, rfl, rfl, rfl, rfl, rfl, rfl, rfl, trivial⟩)
          intro a hf
          refine qE hf rfl rfl rfl (Pu.ev (pM rfl)) fun a hf => ?_
          refine qCut 10 (fun a => Has 318 a [(2, .int .u8 where_), (3, .int .u8 a_), (4, .int .u8 b_), (11, .pointer (some ⟨b_2, 0, none⟩)), (12, .pointer (some ⟨b_3, 0, none⟩)), (13, .slice p_7 l.length c_7), (16, .slice (some ⟨g_2, 0, none⟩) s_1.length c_14), (22, .slice (some ⟨g_1, 0, none⟩) t_1.length c_15), (23, .slice p_12 r_7.1.length c_12), (25, .slice p_13 r_8.1.length c_13), (203, .int .i64 ((r_3.1.length : Nat) : Int)), (204, .int .i64 x_3), (27, .int .i64 x_3), (207, .slice (some ⟨g_1, 0, none⟩) t_1.length c_15), (208, .int .i64 x_3), (209, .pointer (some ⟨g_1, x_3.toNat * 2, none⟩)), (210, .pointer (some ⟨g_1, x_3.toNat * 2 + 0, none⟩)), (211, .int .i64 e_2.Lo), (212, .slice (some ⟨g_2, 0, none⟩) s_1.length c_14), (213, .int .i64 x_3), (214, .pointer (some ⟨g_2, x_3.toNat * 2, none⟩)), (215, .pointer (some ⟨g_2, x_3.toNat * 2 + 0, none⟩)), (216, .int .i64 e_3.Lo), (217, .bool (decide (e_2.Lo < e_3.Lo))), (218, .bool (decide (e_2.Lo < e_3.Lo))), (230, .bool t_4), (231, .bool t_4), (241, .bool t_5)]) ?_ ?_
          · cases hb : t_4
            · rw [hb] at hf
              have hF := condF hb ht_5
              obtain ⟨e_6, he_6, hF⟩ := bnd_some hF
              obtain ⟨g_3, rfl, qa_5, qr_5⟩ := row_atm hc m2 he_6
              obtain ⟨e_7, he_7, hF⟩ := bnd_some hF
              obtain ⟨g_4, rfl, qa_6, qr_6⟩ := row_atm hc m3 he_7
              refine qE hf rfl rfl rfl (Pu.ev (pM rfl)) fun a hf => ?_
              refine qE hf rfl rfl rfl (Pu.ev (pM rfl)) fun a hf => ?_
              refine qE hf rfl rfl rfl (Pu.ev (pIA Try.underlying36 sz_3 rfl rfl qa_5)) fun a hf => ?_
              refine qE hf rfl rfl rfl (eLd1 sc_3 rfl (cell_row (sz := 1) (i := x_3.toNat) (j := 0) m2 qr_5 rfl)) fun a hf => ?_
              refine qE hf rfl rfl rfl (Pu.ev (pM rfl)) fun a hf => ?_
              refine qE hf rfl rfl rfl (Pu.ev (pM rfl)) fun a hf => ?_
              refine qE hf rfl rfl rfl (Pu.ev (pIA Try.underlying36 sz_3 rfl rfl qa_6)) fun a hf => ?_
              refine qE hf rfl rfl rfl (eLd1 sc_3 rfl (cell_row (sz := 1) (i := x_3.toNat) (j := 0) m3 qr_6 rfl)) fun a hf => ?_
              refine qE hf rfl rfl rfl (Pu.ev (pGt rfl rfl)) fun a hf => ?_
              refine qE hf rfl rfl rfl (Pu.ev (pPf rfl rfl)) fun a hf => ?_
              obtain rfl := Option.some.inj hF
              exact qNil (hf.keep ⟨rfl, rfl, rfl, rfl, rfl, rfl, rfl, rfl, rfl, rfl, rfl, rfl, rfl, rfl, rfl, rfl, rfl, rfl, rfl, rfl, rfl, rfl, rfl, rfl, rfl, rfl, rfl, rfl, trivial⟩)
            · rw [hb] at hf
              have hF := condT hb ht_5
              obtain rfl := Option.some.inj hF
              refine qS hf rfl rfl rfl fun a hf => ?_
              refine qS hf rfl rfl rfl fun a hf => ?_
              refine qS hf rfl rfl rfl fun a hf => ?_
              refine qS hf rfl rfl rfl fun a hf => ?_
              refine qS hf rfl rfl rfl fun a hf => ?_
              refine qS hf rfl rfl rfl fun a hf => ?_
              refine qS hf rfl rfl rfl fun a hf => ?_
              refine qS hf rfl rfl rfl fun a hf => ?_
              refine qS hf rfl rfl rfl fun a hf => ?_
              refine qE hf rfl rfl rfl (Pu.ev (pPt rfl rfl)) fun a hf => ?_
              exact qNil (hf.keep ⟨rfl, rfl, rfl, rfl, rfl, rfl, rfl, rfl, rfl, rfl, rfl, rfl, rfl, rfl, rfl, rfl, rfl, rfl, rfl, rfl, rfl, rfl, rfl, rfl, rfl, rfl, rfl, rfl, trivial⟩)
          intro a hf
          intro w hc
          refine h37 _ _ ?_
          refine cCond (b := t_5) hf rfl (fun hb => ?_) (fun hb => ?_)
          · replace hF := condT hb hF
            clear hb
            refine wp_seq_k fun K38 h38 => ?_
            refine cReg ?_
            refine stP hf rfl rfl rfl (pA rfl) fun a hf => ?_
            refine cNil ?_
            refine h38 _ _ ?_
            refine wp_ret ?_
            refine xBlkR ?_
            refine xThenR ?_
            refine xThenR ?_
            have he := Option.some.inj hF
            rw [← he] at hfin20
            replace hF := ho20 _ hfin20
            refine xBlkR ?_
            refine xThenR ?_
            obtain rfl := hF
            replace hc := hc.drop k7
            replace hc := hc.drop k6
            replace hc := hc.drop k5
            replace hc := hc.drop k4
            replace hc := hc.drop k3
            replace hc := hc.drop k2
            replace hc := hc.drop k1
            replace hc := hc.drop k0
            exact fnOut1 (by simp) rfl Try.results10 hf hc (show look _ 10 = _ from rfl) ⟨rfl, hc⟩
          · replace hF := condF hb hF
            clear hb
            refine wp_skip ?_
            refine h35 _ _ ?_
            refine cReg ?_
            refine stP hf rfl rfl rfl (pAdd rfl rfl) fun a hf => ?_
            refine stP hf rfl rfl rfl (pM rfl) fun a hf => ?_
            refine cNil ?_
            exact hK20 (s_1, t_1, W (x_3 + 1)) _ _ (Option.some.inj hF).symm ⟨(some ⟨g_2, 0, none⟩), c_14, (some ⟨g_1, 0, none⟩), c_15, hf.keep ⟨rfl, rfl, rfl, rfl, rfl, rfl, rfl, rfl, rfl, rfl, rfl, rfl, trivial⟩, hc⟩
        · replace hF := condF hb hF
          clear hb
          refine wp_exit ?_
          refine xThen ?_
          refine xThen ?_
          have he := Option.some.inj hF
          rw [← he] at hfin20
          refine cHit ?_
          exact hr20 _ _ _ hfin20 ⟨p_14, c_14, p_15, c_15, hf.keep ⟨rfl, rfl, rfl, rfl, rfl, rfl, rfl, rfl, rfl, rfl, rfl, rfl, trivial⟩, hc⟩
    have ho11 : ∀ r, x11 = .out r → r = res := by
      rintro r rfl
      exact Option.some.inj hF
    replace hc := hc.drop k9
    refine cLoop N (loopW (S := S11) (x := x11) ?_ N (r_1.2.2.1, r_1.2.2.2.1, r_4, r_5, 0, r_2.1, r_2.2) _ _ ⟨p_2, c_2, p_3, c_3, p_5, c_5, p_6, c_6, hf.keep ⟨rfl, rfl, rfl, rfl, rfl, rfl, rfl, rfl, rfl, rfl, rfl, rfl, rfl, rfl, trivial⟩, hc⟩ hx11)
    clear hF hf hc
    rintro ⟨l, truth, fine, better, x, x_1, x_2⟩ st11 a w KB11 ⟨p_7, c_7, p_8, c_8, p_9, c_9, p_10, c_10, hf, hc⟩ hF hfin11 hK11
    unfold law09_ShareLess_b11 at hF
    refine wp_seq_k fun K39 h39 => ?_
    refine cReg ?_
    refine stP hf rfl rfl rfl (pLt rfl rfl) fun a hf => ?_
    refine cNil ?_
    refine h39 _ _ ?_
    refine wp_seq_k fun K40 h40 => ?_
    refine cCond (b := (decide (x < ((r_1.2.2.1.length : Nat) : Int)))) hf rfl (fun hb => ?_) (fun hb => ?_)
    · replace hF := condT hb hF
      clear hb
      refine wp_skip ?_
      refine h40 _ _ ?_
      refine wp_seq_k fun K41 h41 => ?_
      refine wp_block ?_
      refine wp_seq_k fun K42 h42 => ?_
      refine cReg ?_
      refine stP hf rfl rfl rfl (pM rfl) fun a hf => ?_
      obtain ⟨e_8, he_8, hF⟩ := bnd_some hF
      obtain ⟨g_5, rfl, qa_7, qr_7⟩ := row_atm hc m2 he_8
      refine stP hf rfl rfl rfl (pIA Try.underlying89 sz_94 rfl rfl qa_7) fun a hf => ?_
      refine stE hf hc rfl rfl rfl (eLdN (vs := [.int .i64 e_8.Index.Lo, .int .i64 e_8.Index.Hi, .int .i64 e_8.Delivered.Lo, .int .i64 e_8.Delivered.Hi, .bool e_8.Spill]) ag_94 rfl rfl (cells_rw (sz := 5) (i := x.toNat) m2 qr_7 (n := 5) (o' := 0) rfl)) fun a w hf hc => ?_
      refine stAl (cs := [.int .i64 0, .int .i64 0, .int .i64 0, .int .i64 0, .bool false]) hf hc rfl rfl zr_94 rfl fun b_6 a w hf hc => ?_
      refine stP hf rfl rfl rfl (pA rfl) fun a hf => ?_
      refine stSt (vs := [.int .i64 e_8.Index.Lo, .int .i64 e_8.Index.Hi, .int .i64 e_8.Delivered.Lo, .int .i64 e_8.Delivered.Hi, .bool e_8.Spill]) hf hc rfl rfl rfl rfl sz_94 rfl rfl u0 fun w hc => ?_
      refine cNil ?_
      refine h42 _ _ ?_
      refine wp_seq_k fun K43 h43 => ?_
      obtain ⟨e_9, he_9, hF⟩ := bnd_some hF
      obtain ⟨g_6, rfl, qa_8, qr_8⟩ := row_atm hc m1 he_9
      obtain ⟨r_15, hr_15, hF⟩ := bnd_some hF
      obtain ⟨e_10, he_10, hF⟩ := bnd_some hF
      obtain ⟨qa_9, qr_9⟩ := row_atk hc m1 he_10
      obtain ⟨r_16, hr_16, hF⟩ := bnd_some hF
      obtain ⟨r_17, hr_17, hF⟩ := bnd_some hF
      obtain ⟨e_11, he_11, hF⟩ := bnd_some hF
      obtain ⟨g_7, rfl, qa_10, qr_10⟩ := row_atm hc m4 he_11
      refine regionE (fun θ => (⟨none, none, 2, .int .u8 where_⟩ :: ⟨none, none, 3, .int .u8 a_⟩ :: ⟨none, none, 4, .int .u8 b_⟩ :: ⟨none, none, 11, .pointer (some ⟨b_2, 0, none⟩)⟩ :: ⟨none, none, 12, .pointer (some ⟨b_3, 0, none⟩)⟩ :: ⟨none, none, 13, .slice (some ⟨g_5, 0, none⟩) l.length c_7⟩ :: ⟨none, none, 14, .slice (some ⟨g_6, 0, none⟩) truth.length c_8⟩ :: ⟨none, none, 15, .pointer (some ⟨b_4, 0, none⟩)⟩ :: ⟨none, none, 16, .slice p_4 r_3.1.length c_4⟩ :: ⟨none, none, 18, .slice (some ⟨g_7, 0, none⟩) fine.length c_9⟩ :: ⟨none, none, 19, .slice p_10 better.length c_10⟩ :: ⟨none, none, 20, .int .i64 x⟩ :: ⟨none, none, 21, .pointer (some ⟨b_6, 0, none⟩)⟩ :: ⟨none, none, 64, .slice (some ⟨g_5, 0, none⟩) l.length c_7⟩ :: ⟨none, none, 65, .int .i64 ((r_1.2.2.1.length : Nat) : Int)⟩ :: ⟨none, none, 66, .int .i64 x⟩ :: ⟨some 0, none, 71, .slice (some ⟨g_7, 0, none⟩) fine.length c_9⟩ :: ⟨some 1, none, 72, .int .i64 x⟩ :: ⟨some 2, none, 73, .pointer (some ⟨b_4, 0, none⟩)⟩ :: ⟨some 3, none, 74, .pointer (some ⟨b_6, 0, none⟩)⟩ :: ⟨some 4, none, 75, .pointer (some ⟨b_6, 0, none⟩)⟩ :: ⟨some 5, none, 76, .int .i64 e_8.Index.Lo⟩ :: ⟨some 6, none, 77, .slice (some ⟨g_6, 0, none⟩) truth.length c_8⟩ :: ⟨some 7, none, 78, .int .i64 x⟩ :: ⟨some 8, none, 79, .pointer (some ⟨g_6, x.toNat * 2, none⟩)⟩ :: ⟨some 9, none, 80, .pointer (some ⟨g_6, x.toNat * 2 + 0, none⟩)⟩ :: ⟨some 10, none, 81, .int .i64 e_9.Index⟩ :: ⟨some 11, none, 82, .int .i64 r_15.1⟩ :: ⟨some 12, none, 83, .pointer (some ⟨b_4, 0, none⟩)⟩ :: ⟨some 13, none, 84, .slice (some ⟨g_6, 0, none⟩) truth.length c_8⟩ :: ⟨some 14, none, 85, .int .i64 x⟩ :: ⟨some 15, none, 86, .pointer (some ⟨g_6, x.toNat * 2, none⟩)⟩ :: ⟨some 16, none, 87, .pointer (some ⟨g_6, x.toNat * 2 + 0, none⟩)⟩ :: ⟨some 17, none, 88, .int .i64 e_10.Index⟩ :: ⟨some 18, none, 89, .pointer (some ⟨b_6, 0, none⟩)⟩ :: ⟨some 19, none, 90, .pointer (some ⟨b_6, 1, none⟩)⟩ :: ⟨some 20, none, 91, .int .i64 e_8.Index.Hi⟩ :: ⟨some 21, none, 92, .int .i64 r_16.1⟩ :: ⟨some 22, none, 93, .agg #[.int .i64 r_17.Lo, .int .i64 r_17.Hi]⟩ :: ⟨some 23, none, 94, .pointer (some ⟨g_7, x.toNat * 5, none⟩)⟩ :: ⟨some 24, none, 95, .pointer (some ⟨g_7, x.toNat * 5 + 0, none⟩)⟩ :: [])) (fun E θ => .box b_6 [.int .i64 e_8.Index.Lo, .int .i64 e_8.Index.Hi, .int .i64 e_8.Delivered.Lo, .int .i64 e_8.Delivered.Hi, .bool e_8.Spill] 94 :: .row (some ⟨g_6, 0, none⟩) c_8 (truth.map enc_share_Truth) 97 2 :: .row p_10 c_10 (better.map enc_share_Truth) 97 2 :: .row (some ⟨g_5, 0, none⟩) c_7 (l.map enc_share_Year) 94 5 :: (bif E 25 then .row (some ⟨g_7, 0, none⟩) c_9 ((fine.set x.toNat (⟨r_17, e_11.Delivered, e_11.Spill⟩ : share_Year)).map enc_share_Year) 94 5 else .row (some ⟨g_7, 0, none⟩) c_9 (fine.map enc_share_Year) 94 5) :: .row p_1 c_1 (r_1.1.Table.map enc_share_Point) 116 2 :: .row p_4 c_4 (r_3.1.map enc_api_Span) 26 2 :: (bif E 21 then .box b_4 [.slice narrow_p narrow.length narrow_c, .int .i64 r_16.2.1, .int .i64 r_16.2.2] 161 else bif E 11 then .box b_4 [.slice narrow_p narrow.length narrow_c, .int .i64 r_15.2.1, .int .i64 r_15.2.2] 161 else .box b_4 [.slice narrow_p narrow.length narrow_c, .int .i64 x_1, .int .i64 x_2] 161) :: .box b_3 [.int .i64 r_1.2.1.Lo, .int .i64 r_1.2.1.Hi] 26 :: .box b_2 [.slice p_1 r_1.1.Table.length c_1, .int .i64 r_1.1.Credit] 88 :: Lf) [(21, 11), (24, 23), (25, 24)] (fun a w => Has 318 a [(2, .int .u8 where_), (3, .int .u8 a_), (4, .int .u8 b_), (11, .pointer (some ⟨b_2, 0, none⟩)), (12, .pointer (some ⟨b_3, 0, none⟩)), (13, .slice (some ⟨g_5, 0, none⟩) l.length c_7), (14, .slice (some ⟨g_6, 0, none⟩) truth.length c_8), (15, .pointer (some ⟨b_4, 0, none⟩)), (16, .slice p_4 r_3.1.length c_4), (18, .slice (some ⟨g_7, 0, none⟩) fine.length c_9), (19, .slice p_10 better.length c_10), (20, .int .i64 x), (21, .pointer (some ⟨b_6, 0, none⟩)), (64, .slice (some ⟨g_5, 0, none⟩) l.length c_7), (65, .int .i64 ((r_1.2.2.1.length : Nat) : Int)), (66, .int .i64 x)] ∧ Ctx G (.box b_6 [.int .i64 e_8.Index.Lo, .int .i64 e_8.Index.Hi, .int .i64 e_8.Delivered.Lo, .int .i64 e_8.Delivered.Hi, .bool e_8.Spill] 94 :: .row (some ⟨g_6, 0, none⟩) c_8 (truth.map enc_share_Truth) 97 2 :: .row p_10 c_10 (better.map enc_share_Truth) 97 2 :: .row (some ⟨g_5, 0, none⟩) c_7 (l.map enc_share_Year) 94 5 :: .row (some ⟨g_7, 0, none⟩) c_9 ((fine.set x.toNat (⟨r_17, e_11.Delivered, e_11.Spill⟩ : share_Year)).map enc_share_Year) 94 5 :: .row p_1 c_1 (r_1.1.Table.map enc_share_Point) 116 2 :: .row p_4 c_4 (r_3.1.map enc_api_Span) 26 2 :: .box b_4 [.slice narrow_p narrow.length narrow_c, .int .i64 r_16.2.1, .int .i64 r_16.2.2] 161 :: .box b_3 [.int .i64 r_1.2.1.Lo, .int .i64 r_1.2.1.Hi] 26 :: .box b_2 [.slice p_1 r_1.1.Table.length c_1, .int .i64 r_1.1.Credit] 88 :: Lf) w) follows_mx (by kernel_rfl) (by kernel_rfl) (HasE.of hf ⟨rfl, rfl, rfl, rfl, rfl, rfl, rfl, rfl, rfl, rfl, rfl, rfl, rfl, rfl, rfl, rfl, trivial, trivial, trivial, trivial, trivial, trivial, trivial, trivial, trivial, trivial, trivial, trivial, trivial, trivial, trivial, trivial, trivial, trivial, trivial, trivial, trivial, trivial, trivial, trivial, trivial, trivial⟩) hc ⟨?_, ?_, ?_, ?_, ?_, ?_, ?_, ?_, ?_, ?_, ?_, ?_, ?_, ?_, ?_, ?_, ?_, ?_, ?_, ?_, ?_, ?_, ?_, ?_, ?_, ?_, trivial⟩ ?_ ?_
      · intro E θ a w hD hi hp he hc
        have hf := he.h0
        replace hf := hf.more he 9 rfl onT
        refine stP hf rfl rfl rfl (pM rfl) fun a hf => ?_
        refine cNil ?_
        refine xThenN ?_
        intro ds u hau
        refine ⟨θ, he.put0 hi hau hf rfl 16 rfl rfl, ?_⟩
        exact hc
      · intro E θ a w hD hi hp he hc
        have hf := he.h0
        replace hf := hf.more he 11 rfl onT
        refine stP hf rfl rfl rfl (pM rfl) fun a hf => ?_
        refine cNil ?_
        refine xThenN ?_
        intro ds u hau
        refine ⟨θ, he.put0 hi hau hf rfl 17 rfl rfl, ?_⟩
        exact hc
      · intro E θ a w hD hi hp he hc
        have hf := he.h0
        replace hf := hf.more he 7 rfl onT
        refine stP hf rfl rfl rfl (pM rfl) fun a hf => ?_
        refine cNil ?_
        refine xThenN ?_
        intro ds u hau
        refine ⟨θ, he.put0 hi hau hf rfl 18 rfl rfl, ?_⟩
        exact hc
      · intro E θ a w hD hi hp he hc
        have hf := he.h0
        replace hf := hf.more he 12 rfl onT
        refine stP hf rfl rfl rfl (pFA fa_94_0 rfl) fun a hf => ?_
        refine cNil ?_
        refine xThenN ?_
        intro ds u hau
        refine ⟨θ, he.put0 hi hau hf rfl 19 rfl rfl, ?_⟩
        exact hc
      · intro E θ a w hD hi hp he hc
        have e3 := hp.of (k := 3) rfl
        have hf := he.h0
        replace hf := hf.more he 19 rfl (onP e3)
        refine stP hf rfl rfl rfl (pFA fa_26_0 rfl) fun a hf => ?_
        refine cNil ?_
        refine xThenN ?_
        intro ds u hau
        refine ⟨θ, he.put0 hi hau hf rfl 20 rfl rfl, ?_⟩
        exact hc
      · intro E θ a w hD hi hp he hc
        have e4 := hp.of (k := 4) rfl
        have hf := he.h0
        replace hf := hf.more he 20 rfl (onP e4)
        refine stE hf hc rfl rfl rfl (eLd1 sc_3 rfl (cell_box m0 rfl)) fun a w hf hc => ?_
        refine cNil ?_
        refine xThenN ?_
        intro ds u hau
        refine ⟨θ, he.put0 hi hau hf rfl 21 rfl rfl, ?_⟩
        exact hc
      · intro E θ a w hD hi hp he hc
        have hf := he.h0
        replace hf := hf.more he 6 rfl onT
        refine stP hf rfl rfl rfl (pM rfl) fun a hf => ?_
        refine cNil ?_
        refine xThenN ?_
        intro ds u hau
        refine ⟨θ, he.put0 hi hau hf rfl 22 rfl rfl, ?_⟩
        exact hc
      · intro E θ a w hD hi hp he hc
        have hf := he.h0
        replace hf := hf.more he 11 rfl onT
        refine stP hf rfl rfl rfl (pM rfl) fun a hf => ?_
        refine cNil ?_
        refine xThenN ?_
        intro ds u hau
        refine ⟨θ, he.put0 hi hau hf rfl 23 rfl rfl, ?_⟩
        exact hc
      · intro E θ a w hD hi hp he hc
        have e6 := hp.of (k := 6) rfl
        have e7 := hp.of (k := 7) rfl
        have hf := he.h0
        replace hf := hf.more he 22 rfl (onP e6)
        replace hf := hf.more he 23 rfl (onP e7)
        refine stP hf rfl rfl rfl (pIA Try.underlying90 sz_97 rfl rfl qa_8) fun a hf => ?_
        refine cNil ?_
        refine xThenN ?_
        intro ds u hau
        refine ⟨θ, he.put0 hi hau hf rfl 24 rfl rfl, ?_⟩
        exact hc
      · intro E θ a w hD hi hp he hc
        have e8 := hp.of (k := 8) rfl
        have hf := he.h0
        replace hf := hf.more he 24 rfl (onP e8)
        refine stP hf rfl rfl rfl (pFA fa_97_0 rfl) fun a hf => ?_
        refine cNil ?_
        refine xThenN ?_
        intro ds u hau
        refine ⟨θ, he.put0 hi hau hf rfl 25 rfl rfl, ?_⟩
        exact hc
      · intro E θ a w hD hi hp he hc
        have e9 := hp.of (k := 9) rfl
        have hf := he.h0
        replace hf := hf.more he 25 rfl (onP e9)
        refine stE hf hc rfl rfl rfl (eLd1 sc_3 rfl (cell_row (sz := 2) (i := x.toNat) (j := 0) m1 qr_8 rfl)) fun a w hf hc => ?_
        refine cNil ?_
        refine xThenN ?_
        intro ds u hau
        refine ⟨θ, he.put0 hi hau hf rfl 26 rfl rfl, ?_⟩
        exact hc
      · intro E θ a w hD hi hp he hc
        have e2 := hp.of (k := 2) rfl
        have e5 := hp.of (k := 5) rfl
        have e10 := hp.of (k := 10) rfl
        have e21 := hD.f 0 rfl hi
        try dsimp only at hc
        rw [hi, e21] at hc
        have hf := he.h0
        replace hf := hf.more he 18 rfl (onP e2)
        replace hf := hf.more he 21 rfl (onP e5)
        replace hf := hf.more he 26 rfl (onP e10)
        refine stC (vs := [.pointer (some ⟨b_4, 0, none⟩), .int .i64 e_8.Index.Lo, .int .i64 e_9.Index]) (caps := []) hf rfl rfl rfl en_28 rfl rfl rfl rfl (kit_Stream_Within_ok (⟨narrow, x_1, x_2⟩ : kit_Stream) e_8.Index.Lo e_9.Index h_narrow (hc.pick k7) hr_15) ?_
        rintro _ w ⟨rfl, hc⟩
        refine ⟨_, rfl, fun a hf => ?_⟩
        refine cNil ?_
        refine xThenN ?_
        intro ds u hau
        replace hc := hc.pick k0
        replace hc := hc.pick k7
        replace hc := hc.pick k7
        replace hc := hc.pick k7
        replace hc := hc.pick k7
        replace hc := hc.pick k7
        replace hc := hc.pick k7
        replace hc := hc.pick k7
        refine ⟨θ, he.put0 hi hau hf rfl 27 rfl rfl, ?_⟩
        try dsimp only
        rw [updE_self E 11, updE_fls 11 e21 rfl]
        exact hc
      · intro E θ a w hD hi hp he hc
        have hf := he.h0
        replace hf := hf.more he 7 rfl onT
        refine stP hf rfl rfl rfl (pM rfl) fun a hf => ?_
        refine cNil ?_
        refine xThenN ?_
        intro ds u hau
        refine ⟨θ, he.put0 hi hau hf rfl 28 rfl rfl, ?_⟩
        exact hc
      · intro E θ a w hD hi hp he hc
        have hf := he.h0
        replace hf := hf.more he 6 rfl onT
        refine stP hf rfl rfl rfl (pM rfl) fun a hf => ?_
        refine cNil ?_
        refine xThenN ?_
        intro ds u hau
        refine ⟨θ, he.put0 hi hau hf rfl 29 rfl rfl, ?_⟩
        exact hc
      · intro E θ a w hD hi hp he hc
        have hf := he.h0
        replace hf := hf.more he 11 rfl onT
        refine stP hf rfl rfl rfl (pM rfl) fun a hf => ?_
        refine cNil ?_
        refine xThenN ?_
        intro ds u hau
        refine ⟨θ, he.put0 hi hau hf rfl 30 rfl rfl, ?_⟩
        exact hc
      · intro E θ a w hD hi hp he hc
        have e13 := hp.of (k := 13) rfl
        have e14 := hp.of (k := 14) rfl
        have hf := he.h0
        replace hf := hf.more he 29 rfl (onP e13)
        replace hf := hf.more he 30 rfl (onP e14)
        refine stP hf rfl rfl rfl (pIA Try.underlying90 sz_97 rfl rfl qa_9) fun a hf => ?_
        refine cNil ?_
        refine xThenN ?_
        intro ds u hau
        refine ⟨θ, he.put0 hi hau hf rfl 31 rfl rfl, ?_⟩
        exact hc
      · intro E θ a w hD hi hp he hc
        have e15 := hp.of (k := 15) rfl
        have hf := he.h0
        replace hf := hf.more he 31 rfl (onP e15)
        refine stP hf rfl rfl rfl (pFA fa_97_0 rfl) fun a hf => ?_
        refine cNil ?_
        refine xThenN ?_
        intro ds u hau
        refine ⟨θ, he.put0 hi hau hf rfl 32 rfl rfl, ?_⟩
        exact hc
      · intro E θ a w hD hi hp he hc
        have e16 := hp.of (k := 16) rfl
        have hf := he.h0
        replace hf := hf.more he 32 rfl (onP e16)
        refine stE hf hc rfl rfl rfl (eLd1 sc_3 rfl (cell_row (sz := 2) (i := x.toNat) (j := 0) m1 qr_9 rfl)) fun a w hf hc => ?_
        refine cNil ?_
        refine xThenN ?_
        intro ds u hau
        refine ⟨θ, he.put0 hi hau hf rfl 33 rfl rfl, ?_⟩
        exact hc
      · intro E θ a w hD hi hp he hc
        have hf := he.h0
        replace hf := hf.more he 12 rfl onT
        refine stP hf rfl rfl rfl (pFA fa_94_0 rfl) fun a hf => ?_
        refine cNil ?_
        refine xThenN ?_
        intro ds u hau
        refine ⟨θ, he.put0 hi hau hf rfl 34 rfl rfl, ?_⟩
        exact hc
      · intro E θ a w hD hi hp he hc
        have e18 := hp.of (k := 18) rfl
        have hf := he.h0
        replace hf := hf.more he 34 rfl (onP e18)
        refine stP hf rfl rfl rfl (pFA fa_26_1 rfl) fun a hf => ?_
        refine cNil ?_
        refine xThenN ?_
        intro ds u hau
        refine ⟨θ, he.put0 hi hau hf rfl 35 rfl rfl, ?_⟩
        exact hc
      · intro E θ a w hD hi hp he hc
        have e19 := hp.of (k := 19) rfl
        have hf := he.h0
        replace hf := hf.more he 35 rfl (onP e19)
        refine stE hf hc rfl rfl rfl (eLd1 sc_3 rfl (cell_box m0 rfl)) fun a w hf hc => ?_
        refine cNil ?_
        refine xThenN ?_
        intro ds u hau
        refine ⟨θ, he.put0 hi hau hf rfl 36 rfl rfl, ?_⟩
        exact hc
      · intro E θ a w hD hi hp he hc
        have e12 := hp.of (k := 12) rfl
        have e17 := hp.of (k := 17) rfl
        have e20 := hp.of (k := 20) rfl
        have e11 := hp.of (k := 11) rfl
        try dsimp only at hc
        rw [e11, hi] at hc
        have hf := he.h0
        replace hf := hf.more he 28 rfl (onP e12)
        replace hf := hf.more he 33 rfl (onP e17)
        replace hf := hf.more he 36 rfl (onP e20)
        refine stC (vs := [.pointer (some ⟨b_4, 0, none⟩), .int .i64 e_10.Index, .int .i64 e_8.Index.Hi]) (caps := []) hf rfl rfl rfl en_28 rfl rfl rfl rfl (kit_Stream_Within_ok (⟨narrow, r_15.2.1, r_15.2.2⟩ : kit_Stream) e_10.Index e_8.Index.Hi h_narrow (hc.pick k7) hr_16) ?_
        rintro _ w ⟨rfl, hc⟩
        refine ⟨_, rfl, fun a hf => ?_⟩
        refine cNil ?_
        refine xThenN ?_
        intro ds u hau
        replace hc := hc.pick k0
        replace hc := hc.pick k7
        replace hc := hc.pick k7
        replace hc := hc.pick k7
        replace hc := hc.pick k7
        replace hc := hc.pick k7
        replace hc := hc.pick k7
        replace hc := hc.pick k7
        refine ⟨θ, he.put0 hi hau hf rfl 37 rfl rfl, ?_⟩
        try dsimp only
        rw [updE_tru 21 e11, updE_self E 21]
        exact hc
      · intro E θ a w hD hi hp he hc
        have e11 := hp.of (k := 11) rfl
        have e21 := hp.of (k := 21) rfl
        have hf := he.h0
        replace hf := hf.more he 27 rfl (onP e11)
        replace hf := hf.more he 37 rfl (onP e21)
        refine stE hf hc rfl rfl rfl (eC (v := .agg #[.int .i64 r_17.Lo, .int .i64 r_17.Hi]) (vs := [.int .i64 r_15.1, .int .i64 r_16.1]) (caps := []) en_60 rfl rfl rfl rfl (fun w hc => law09_span_ok r_15.1 r_16.1 hc hr_17)) fun a w hf hc => ?_
        refine cNil ?_
        refine xThenN ?_
        intro ds u hau
        refine ⟨θ, he.put0 hi hau hf rfl 38 rfl rfl, ?_⟩
        exact hc
      · intro E θ a w hD hi hp he hc
        have e0 := hp.of (k := 0) rfl
        have e1 := hp.of (k := 1) rfl
        have e24 := hD.f 1 rfl hi
        have e25 := hD.f 2 rfl e24
        try dsimp only at hc
        rw [e25] at hc
        have hf := he.h0
        replace hf := hf.more he 16 rfl (onP e0)
        replace hf := hf.more he 17 rfl (onP e1)
        refine stP hf rfl rfl rfl (pIA Try.underlying89 sz_94 rfl rfl qa_10) fun a hf => ?_
        refine cNil ?_
        refine xThenN ?_
        intro ds u hau
        refine ⟨θ, he.put0 hi hau hf rfl 39 rfl rfl, ?_⟩
        try dsimp only
        rw [updE_fls 23 e25 rfl]
        exact hc
      · intro E θ a w hD hi hp he hc
        have e23 := hp.of (k := 23) rfl
        have hf := he.h0
        replace hf := hf.more he 39 rfl (onP e23)
        refine stP hf rfl rfl rfl (pFA fa_94_0 rfl) fun a hf => ?_
        refine cNil ?_
        refine xThenN ?_
        intro ds u hau
        refine ⟨θ, he.put0 hi hau hf rfl 40 rfl rfl, ?_⟩
        exact hc
      · intro E θ a w hD hi hp he hc
        have e22 := hp.of (k := 22) rfl
        have e24 := hp.of (k := 24) rfl
        try dsimp only at hc
        rw [hi] at hc
        have hf := he.h0
        replace hf := hf.more he 38 rfl (onP e22)
        replace hf := hf.more he 40 rfl (onP e24)
        refine stRw (vs := [.int .i64 r_17.Lo, .int .i64 r_17.Hi]) (o' := 0) (z := (⟨r_17, e_11.Delivered, e_11.Spill⟩ : share_Year)) (xs := fine) hf hc rfl rfl rfl rfl sz_26 rfl (fun x => (one_enc_share_Year x).1) (getI_lt he_11) (fun e' he' => by cases (he'.symm.trans (getI_spec he_11).2); rfl) rfl u4 fun w hc => ?_
        refine cNil ?_
        refine xThenN ?_
        intro ds u hau
        refine ⟨θ, he.stay0 hi hau hf rfl, ?_⟩
        try dsimp only
        rw [updE_self E 25]
        exact hc
      · intro E θ a w hall he hc
        have hf := he.h0
        have e11 := hall 11 rfl
        have e21 := hall 21 rfl
        have e25 := hall 25 rfl
        replace hf := hf.more he 15 rfl (onT)
        replace hf := hf.more he 14 rfl (onT)
        replace hf := hf.more he 13 rfl (onT)
        replace hf := hf.more he 12 rfl (onT)
        replace hf := hf.more he 11 rfl (onT)
        replace hf := hf.more he 10 rfl (onT)
        replace hf := hf.more he 9 rfl (onT)
        replace hf := hf.more he 8 rfl (onT)
        replace hf := hf.more he 7 rfl (onT)
        replace hf := hf.more he 6 rfl (onT)
        replace hf := hf.more he 5 rfl (onT)
        replace hf := hf.more he 4 rfl (onT)
        replace hf := hf.more he 3 rfl (onT)
        replace hf := hf.more he 2 rfl (onT)
        replace hf := hf.more he 1 rfl (onT)
        replace hf := hf.more he 0 rfl (onT)
        try dsimp only at hc
        rw [e11, e21, e25] at hc
        exact ⟨hf.keep ⟨rfl, rfl, rfl, rfl, rfl, rfl, rfl, rfl, rfl, rfl, rfl, rfl, rfl, rfl, rfl, rfl, trivial⟩, hc⟩
      rintro a w ⟨hf, hc⟩
      refine h43 _ _ ?_
      refine wp_seq_k fun K44 h44 => ?_
      obtain ⟨e_12, he_12, hF⟩ := bnd_some hF
      obtain ⟨qa_11, qr_11⟩ := row_atk hc m1 he_12
      obtain ⟨r_18, hr_18, hF⟩ := bnd_some hF
      obtain ⟨e_13, he_13, hF⟩ := bnd_some hF
      obtain ⟨qa_12, qr_12⟩ := row_atk hc m1 he_13
      obtain ⟨r_19, hr_19, hF⟩ := bnd_some hF
      obtain ⟨r_20, hr_20, hF⟩ := bnd_some hF
      obtain ⟨e_14, he_14, hF⟩ := bnd_some hF
      obtain ⟨qa_13, qr_13⟩ := row_atk hc m4 he_14
      refine regionE (fun θ => (⟨none, none, 2, .int .u8 where_⟩ :: ⟨none, none, 3, .int .u8 a_⟩ :: ⟨none, none, 4, .int .u8 b_⟩ :: ⟨none, none, 11, .pointer (some ⟨b_2, 0, none⟩)⟩ :: ⟨none, none, 12, .pointer (some ⟨b_3, 0, none⟩)⟩ :: ⟨none, none, 13, .slice (some ⟨g_5, 0, none⟩) l.length c_7⟩ :: ⟨none, none, 14, .slice (some ⟨g_6, 0, none⟩) truth.length c_8⟩ :: ⟨none, none, 15, .pointer (some ⟨b_4, 0, none⟩)⟩ :: ⟨none, none, 16, .slice p_4 r_3.1.length c_4⟩ :: ⟨none, none, 18, .slice (some ⟨g_7, 0, none⟩) fine.length c_9⟩ :: ⟨none, none, 19, .slice p_10 better.length c_10⟩ :: ⟨none, none, 20, .int .i64 x⟩ :: ⟨none, none, 21, .pointer (some ⟨b_6, 0, none⟩)⟩ :: ⟨none, none, 64, .slice (some ⟨g_5, 0, none⟩) l.length c_7⟩ :: ⟨none, none, 65, .int .i64 ((r_1.2.2.1.length : Nat) : Int)⟩ :: ⟨none, none, 66, .int .i64 x⟩ :: ⟨some 0, none, 96, .slice (some ⟨g_7, 0, none⟩) fine.length c_9⟩ :: ⟨some 1, none, 97, .int .i64 x⟩ :: ⟨some 2, none, 98, .pointer (some ⟨b_4, 0, none⟩)⟩ :: ⟨some 3, none, 99, .pointer (some ⟨b_6, 2, none⟩)⟩ :: ⟨some 4, none, 100, .pointer (some ⟨b_6, 2, none⟩)⟩ :: ⟨some 5, none, 101, .int .i64 e_8.Delivered.Lo⟩ :: ⟨some 6, none, 102, .slice (some ⟨g_6, 0, none⟩) truth.length c_8⟩ :: ⟨some 7, none, 103, .int .i64 x⟩ :: ⟨some 8, none, 104, .pointer (some ⟨g_6, x.toNat * 2, none⟩)⟩ :: ⟨some 9, none, 105, .pointer (some ⟨g_6, x.toNat * 2 + 1, none⟩)⟩ :: ⟨some 10, none, 106, .int .i64 e_12.Delivered⟩ :: ⟨some 11, none, 107, .int .i64 r_18.1⟩ :: ⟨some 12, none, 108, .pointer (some ⟨b_4, 0, none⟩)⟩ :: ⟨some 13, none, 109, .slice (some ⟨g_6, 0, none⟩) truth.length c_8⟩ :: ⟨some 14, none, 110, .int .i64 x⟩ :: ⟨some 15, none, 111, .pointer (some ⟨g_6, x.toNat * 2, none⟩)⟩ :: ⟨some 16, none, 112, .pointer (some ⟨g_6, x.toNat * 2 + 1, none⟩)⟩ :: ⟨some 17, none, 113, .int .i64 e_13.Delivered⟩ :: ⟨some 18, none, 114, .pointer (some ⟨b_6, 2, none⟩)⟩ :: ⟨some 19, none, 115, .pointer (some ⟨b_6, 3, none⟩)⟩ :: ⟨some 20, none, 116, .int .i64 e_8.Delivered.Hi⟩ :: ⟨some 21, none, 117, .int .i64 r_19.1⟩ :: ⟨some 22, none, 118, .agg #[.int .i64 r_20.Lo, .int .i64 r_20.Hi]⟩ :: ⟨some 23, none, 119, .pointer (some ⟨g_7, x.toNat * 5, none⟩)⟩ :: ⟨some 24, none, 120, .pointer (some ⟨g_7, x.toNat * 5 + 2, none⟩)⟩ :: [])) (fun E θ => .box b_6 [.int .i64 e_8.Index.Lo, .int .i64 e_8.Index.Hi, .int .i64 e_8.Delivered.Lo, .int .i64 e_8.Delivered.Hi, .bool e_8.Spill] 94 :: .row (some ⟨g_6, 0, none⟩) c_8 (truth.map enc_share_Truth) 97 2 :: .row p_10 c_10 (better.map enc_share_Truth) 97 2 :: .row (some ⟨g_5, 0, none⟩) c_7 (l.map enc_share_Year) 94 5 :: (bif E 25 then .row (some ⟨g_7, 0, none⟩) c_9 (((fine.set x.toNat (⟨r_17, e_11.Delivered, e_11.Spill⟩ : share_Year)).set x.toNat (⟨e_14.Index, r_20, e_14.Spill⟩ : share_Year)).map enc_share_Year) 94 5 else .row (some ⟨g_7, 0, none⟩) c_9 ((fine.set x.toNat (⟨r_17, e_11.Delivered, e_11.Spill⟩ : share_Year)).map enc_share_Year) 94 5) :: .row p_1 c_1 (r_1.1.Table.map enc_share_Point) 116 2 :: .row p_4 c_4 (r_3.1.map enc_api_Span) 26 2 :: (bif E 21 then .box b_4 [.slice narrow_p narrow.length narrow_c, .int .i64 r_19.2.1, .int .i64 r_19.2.2] 161 else bif E 11 then .box b_4 [.slice narrow_p narrow.length narrow_c, .int .i64 r_18.2.1, .int .i64 r_18.2.2] 161 else .box b_4 [.slice narrow_p narrow.length narrow_c, .int .i64 r_16.2.1, .int .i64 r_16.2.2] 161) :: .box b_3 [.int .i64 r_1.2.1.Lo, .int .i64 r_1.2.1.Hi] 26 :: .box b_2 [.slice p_1 r_1.1.Table.length c_1, .int .i64 r_1.1.Credit] 88 :: Lf) [(21, 11), (24, 23), (25, 24)] (fun a w => Has 318 a [(2, .int .u8 where_), (3, .int .u8 a_), (4, .int .u8 b_), (11, .pointer (some ⟨b_2, 0, none⟩)), (12, .pointer (some ⟨b_3, 0, none⟩)), (13, .slice (some ⟨g_5, 0, none⟩) l.length c_7), (14, .slice (some ⟨g_6, 0, none⟩) truth.length c_8), (15, .pointer (some ⟨b_4, 0, none⟩)), (16, .slice p_4 r_3.1.length c_4), (18, .slice (some ⟨g_7, 0, none⟩) fine.length c_9), (19, .slice p_10 better.length c_10), (20, .int .i64 x), (21, .pointer (some ⟨b_6, 0, none⟩)), (64, .slice (some ⟨g_5, 0, none⟩) l.length c_7), (65, .int .i64 ((r_1.2.2.1.length : Nat) : Int)), (66, .int .i64 x)] ∧ Ctx G (.box b_6 [.int .i64 e_8.Index.Lo, .int .i64 e_8.Index.Hi, .int .i64 e_8.Delivered.Lo, .int .i64 e_8.Delivered.Hi, .bool e_8.Spill] 94 :: .row (some ⟨g_6, 0, none⟩) c_8 (truth.map enc_share_Truth) 97 2 :: .row p_10 c_10 (better.map enc_share_Truth) 97 2 :: .row (some ⟨g_5, 0, none⟩) c_7 (l.map enc_share_Year) 94 5 :: .row (some ⟨g_7, 0, none⟩) c_9 (((fine.set x.toNat (⟨r_17, e_11.Delivered, e_11.Spill⟩ : share_Year)).set x.toNat (⟨e_14.Index, r_20, e_14.Spill⟩ : share_Year)).map enc_share_Year) 94 5 :: .row p_1 c_1 (r_1.1.Table.map enc_share_Point) 116 2 :: .row p_4 c_4 (r_3.1.map enc_api_Span) 26 2 :: .box b_4 [.slice narrow_p narrow.length narrow_c, .int .i64 r_19.2.1, .int .i64 r_19.2.2] 161 :: .box b_3 [.int .i64 r_1.2.1.Lo, .int .i64 r_1.2.1.Hi] 26 :: .box b_2 [.slice p_1 r_1.1.Table.length c_1, .int .i64 r_1.1.Credit] 88 :: Lf) w) follows_mx (by kernel_rfl) (by kernel_rfl) (HasE.of hf ⟨rfl, rfl, rfl, rfl, rfl, rfl, rfl, rfl, rfl, rfl, rfl, rfl, rfl, rfl, rfl, rfl, trivial, trivial, trivial, trivial, trivial, trivial, trivial, trivial, trivial, trivial, trivial, trivial, trivial, trivial, trivial, trivial, trivial, trivial, trivial, trivial, trivial, trivial, trivial, trivial, trivial, trivial⟩) hc ⟨?_, ?_, ?_, ?_, ?_, ?_, ?_, ?_, ?_, ?_, ?_, ?_, ?_, ?_, ?_, ?_, ?_, ?_, ?_, ?_, ?_, ?_, ?_, ?_, ?_, ?_, trivial⟩ ?_ ?_
      · intro E θ a w hD hi hp he hc
        have hf := he.h0
        replace hf := hf.more he 9 rfl onT
        refine stP hf rfl rfl rfl (pM rfl) fun a hf => ?_
        refine cNil ?_
        refine xThenN ?_
        intro ds u hau
        refine ⟨θ, he.put0 hi hau hf rfl 16 rfl rfl, ?_⟩
        exact hc
      · intro E θ a w hD hi hp he hc
        have hf := he.h0
        replace hf := hf.more he 11 rfl onT
        refine stP hf rfl rfl rfl (pM rfl) fun a hf => ?_
        refine cNil ?_
        refine xThenN ?_
        intro ds u hau
        refine ⟨θ, he.put0 hi hau hf rfl 17 rfl rfl, ?_⟩
        exact hc
      · intro E θ a w hD hi hp he hc
        have hf := he.h0
        replace hf := hf.more he 7 rfl onT
        refine stP hf rfl rfl rfl (pM rfl) fun a hf => ?_
        refine cNil ?_
        refine xThenN ?_
        intro ds u hau
        refine ⟨θ, he.put0 hi hau hf rfl 18 rfl rfl, ?_⟩
        exact hc
      · intro E θ a w hD hi hp he hc
        have hf := he.h0
        replace hf := hf.more he 12 rfl onT
        refine stP hf rfl rfl rfl (pFA fa_94_1 rfl) fun a hf => ?_
        refine cNil ?_
        refine xThenN ?_
        intro ds u hau
        refine ⟨θ, he.put0 hi hau hf rfl 19 rfl rfl, ?_⟩
        exact hc
      · intro E θ a w hD hi hp he hc
        have e3 := hp.of (k := 3) rfl
        have hf := he.h0
        replace hf := hf.more he 19 rfl (onP e3)
        refine stP hf rfl rfl rfl (pFA fa_26_0 rfl) fun a hf => ?_
        refine cNil ?_
        refine xThenN ?_
        intro ds u hau
        refine ⟨θ, he.put0 hi hau hf rfl 20 rfl rfl, ?_⟩
        exact hc
      · intro E θ a w hD hi hp he hc
        have e4 := hp.of (k := 4) rfl
        have hf := he.h0
        replace hf := hf.more he 20 rfl (onP e4)
        refine stE hf hc rfl rfl rfl (eLd1 sc_3 rfl (cell_box m0 rfl)) fun a w hf hc => ?_
        refine cNil ?_
        refine xThenN ?_
        intro ds u hau
        refine ⟨θ, he.put0 hi hau hf rfl 21 rfl rfl, ?_⟩
        exact hc
      · intro E θ a w hD hi hp he hc
        have hf := he.h0
        replace hf := hf.more he 6 rfl onT
        refine stP hf rfl rfl rfl (pM rfl) fun a hf => ?_
        refine cNil ?_
        refine xThenN ?_
        intro ds u hau
        refine ⟨θ, he.put0 hi hau hf rfl 22 rfl rfl, ?_⟩
        exact hc
      · intro E θ a w hD hi hp he hc
        have hf := he.h0
        replace hf := hf.more he 11 rfl onT
        refine stP hf rfl rfl rfl (pM rfl) fun a hf => ?_
        refine cNil ?_
        refine xThenN ?_
        intro ds u hau
        refine ⟨θ, he.put0 hi hau hf rfl 23 rfl rfl, ?_⟩
        exact hc
      · intro E θ a w hD hi hp he hc
        have e6 := hp.of (k := 6) rfl
        have e7 := hp.of (k := 7) rfl
        have hf := he.h0
        replace hf := hf.more he 22 rfl (onP e6)
        replace hf := hf.more he 23 rfl (onP e7)
        refine stP hf rfl rfl rfl (pIA Try.underlying90 sz_97 rfl rfl qa_11) fun a hf => ?_
        refine cNil ?_
        refine xThenN ?_
        intro ds u hau
        refine ⟨θ, he.put0 hi hau hf rfl 24 rfl rfl, ?_⟩
        exact hc
      · intro E θ a w hD hi hp he hc
        have e8 := hp.of (k := 8) rfl
        have hf := he.h0
        replace hf := hf.more he 24 rfl (onP e8)
        refine stP hf rfl rfl rfl (pFA fa_97_1 rfl) fun a hf => ?_
        refine cNil ?_
        refine xThenN ?_
        intro ds u hau
        refine ⟨θ, he.put0 hi hau hf rfl 25 rfl rfl, ?_⟩
        exact hc
      · intro E θ a w hD hi hp he hc
        have e9 := hp.of (k := 9) rfl
        have hf := he.h0
        replace hf := hf.more he 25 rfl (onP e9)
        refine stE hf hc rfl rfl rfl (eLd1 sc_3 rfl (cell_row (sz := 2) (i := x.toNat) (j := 1) m1 qr_11 rfl)) fun a w hf hc => ?_
        refine cNil ?_
        refine xThenN ?_
        intro ds u hau
        refine ⟨θ, he.put0 hi hau hf rfl 26 rfl rfl, ?_⟩
        exact hc
      · intro E θ a w hD hi hp he hc
        have e2 := hp.of (k := 2) rfl
        have e5 := hp.of (k := 5) rfl
        have e10 := hp.of (k := 10) rfl
        have e21 := hD.f 0 rfl hi
        try dsimp only at hc
        rw [hi, e21] at hc
        have hf := he.h0
        replace hf := hf.more he 18 rfl (onP e2)
        replace hf := hf.more he 21 rfl (onP e5)
        replace hf := hf.more he 26 rfl (onP e10)
        refine stC (vs := [.pointer (some ⟨b_4, 0, none⟩), .int .i64 e_8.Delivered.Lo, .int .i64 e_12.Delivered]) (caps := []) hf rfl rfl rfl en_28 rfl rfl rfl rfl (kit_Stream_Within_ok (⟨narrow, r_16.2.1, r_16.2.2⟩ : kit_Stream) e_8.Delivered.Lo e_12.Delivered h_narrow (hc.pick k7) hr_18) ?_
        rintro _ w ⟨rfl, hc⟩
        refine ⟨_, rfl, fun a hf => ?_⟩
        refine cNil ?_
        refine xThenN ?_
        intro ds u hau
        replace hc := hc.pick k0
        replace hc := hc.pick k7
        replace hc := hc.pick k7
        replace hc := hc.pick k7
        replace hc := hc.pick k7
        replace hc := hc.pick k7
        replace hc := hc.pick k7
        replace hc := hc.pick k7
        refine ⟨θ, he.put0 hi hau hf rfl 27 rfl rfl, ?_⟩
        try dsimp only
        rw [updE_self E 11, updE_fls 11 e21 rfl]
        exact hc
      · intro E θ a w hD hi hp he hc
        have hf := he.h0
        replace hf := hf.more he 7 rfl onT
        refine stP hf rfl rfl rfl (pM rfl) fun a hf => ?_
        refine cNil ?_
        refine xThenN ?_
        intro ds u hau
        refine ⟨θ, he.put0 hi hau hf rfl 28 rfl rfl, ?_⟩
        exact hc
      · intro E θ a w hD hi hp he hc
        have hf := he.h0
        replace hf := hf.more he 6 rfl onT
        refine stP hf rfl rfl rfl (pM rfl) fun a hf => ?_
        refine cNil ?_
        refine xThenN ?_
        intro ds u hau
        refine ⟨θ, he.put0 hi hau hf rfl 29 rfl rfl, ?_⟩
        exact hc
      · intro E θ a w hD hi hp he hc
        have hf := he.h0
        replace hf := hf.more he 11 rfl onT
        refine stP hf rfl rfl rfl (pM rfl) fun a hf => ?_
        refine cNil ?_
        refine xThenN ?_
        intro ds u hau
        refine ⟨θ, he.put0 hi hau hf rfl 30 rfl rfl, ?_⟩
        exact hc
      · intro E θ a w hD hi hp he hc
        have e13 := hp.of (k := 13) rfl
        have e14 := hp.of (k := 14) rfl
        have hf := he.h0
        replace hf := hf.more he 29 rfl (onP e13)
        replace hf := hf.more he 30 rfl (onP e14)
        refine stP hf rfl rfl rfl (pIA Try.underlying90 sz_97 rfl rfl qa_12) fun a hf => ?_
        refine cNil ?_
        refine xThenN ?_
        intro ds u hau
        refine ⟨θ, he.put0 hi hau hf rfl 31 rfl rfl, ?_⟩
        exact hc
      · intro E θ a w hD hi hp he hc
        have e15 := hp.of (k := 15) rfl
        have hf := he.h0
        replace hf := hf.more he 31 rfl (onP e15)
        refine stP hf rfl rfl rfl (pFA fa_97_1 rfl) fun a hf => ?_
        refine cNil ?_
        refine xThenN ?_
        intro ds u hau
        refine ⟨θ, he.put0 hi hau hf rfl 32 rfl rfl, ?_⟩
        exact hc
      · intro E θ a w hD hi hp he hc
        have e16 := hp.of (k := 16) rfl
        have hf := he.h0
        replace hf := hf.more he 32 rfl (onP e16)
        refine stE hf hc rfl rfl rfl (eLd1 sc_3 rfl (cell_row (sz := 2) (i := x.toNat) (j := 1) m1 qr_12 rfl)) fun a w hf hc => ?_
        refine cNil ?_
        refine xThenN ?_
        intro ds u hau
        refine ⟨θ, he.put0 hi hau hf rfl 33 rfl rfl, ?_⟩
        exact hc
      · intro E θ a w hD hi hp he hc
        have hf := he.h0
        replace hf := hf.more he 12 rfl onT
        refine stP hf rfl rfl rfl (pFA fa_94_1 rfl) fun a hf => ?_
        refine cNil ?_
        refine xThenN ?_
        intro ds u hau
        refine ⟨θ, he.put0 hi hau hf rfl 34 rfl rfl, ?_⟩
        exact hc
      · intro E θ a w hD hi hp he hc
        have e18 := hp.of (k := 18) rfl
        have hf := he.h0
        replace hf := hf.more he 34 rfl (onP e18)
        refine stP hf rfl rfl rfl (pFA fa_26_1 rfl) fun a hf => ?_
        refine cNil ?_
        refine xThenN ?_
        intro ds u hau
        refine ⟨θ, he.put0 hi hau hf rfl 35 rfl rfl, ?_⟩
        exact hc
      · intro E θ a w hD hi hp he hc
        have e19 := hp.of (k := 19) rfl
        have hf := he.h0
        replace hf := hf.more he 35 rfl (onP e19)
        refine stE hf hc rfl rfl rfl (eLd1 sc_3 rfl (cell_box m0 rfl)) fun a w hf hc => ?_
        refine cNil ?_
        refine xThenN ?_
        intro ds u hau
        refine ⟨θ, he.put0 hi hau hf rfl 36 rfl rfl, ?_⟩
        exact hc
      · intro E θ a w hD hi hp he hc
        have e12 := hp.of (k := 12) rfl
        have e17 := hp.of (k := 17) rfl
        have e20 := hp.of (k := 20) rfl
        have e11 := hp.of (k := 11) rfl
        try dsimp only at hc
        rw [e11, hi] at hc
        have hf := he.h0
        replace hf := hf.more he 28 rfl (onP e12)
        replace hf := hf.more he 33 rfl (onP e17)
        replace hf := hf.more he 36 rfl (onP e20)
        refine stC (vs := [.pointer (some ⟨b_4, 0, none⟩), .int .i64 e_13.Delivered, .int .i64 e_8.Delivered.Hi]) (caps := []) hf rfl rfl rfl en_28 rfl rfl rfl rfl (kit_Stream_Within_ok (⟨narrow, r_18.2.1, r_18.2.2⟩ : kit_Stream) e_13.Delivered e_8.Delivered.Hi h_narrow (hc.pick k7) hr_19) ?_
        rintro _ w ⟨rfl, hc⟩
        refine ⟨_, rfl, fun a hf => ?_⟩
        refine cNil ?_
        refine xThenN ?_
        intro ds u hau
        replace hc := hc.pick k0
        replace hc := hc.pick k7
        replace hc := hc.pick k7
        replace hc := hc.pick k7
        replace hc := hc.pick k7
        replace hc := hc.pick k7
        replace hc := hc.pick k7
        replace hc := hc.pick k7
        refine ⟨θ, he.put0 hi hau hf rfl 37 rfl rfl, ?_⟩
        try dsimp only
        rw [updE_tru 21 e11, updE_self E 21]
        exact hc
      · intro E θ a w hD hi hp he hc
        have e11 := hp.of (k := 11) rfl
        have e21 := hp.of (k := 21) rfl
        have hf := he.h0
        replace hf := hf.more he 27 rfl (onP e11)
        replace hf := hf.more he 37 rfl (onP e21)
        refine stE hf hc rfl rfl rfl (eC (v := .agg #[.int .i64 r_20.Lo, .int .i64 r_20.Hi]) (vs := [.int .i64 r_18.1, .int .i64 r_19.1]) (caps := []) en_60 rfl rfl rfl rfl (fun w hc => law09_span_ok r_18.1 r_19.1 hc hr_20)) fun a w hf hc => ?_
        refine cNil ?_
        refine xThenN ?_
        intro ds u hau
        refine ⟨θ, he.put0 hi hau hf rfl 38 rfl rfl, ?_⟩
        exact hc
      · intro E θ a w hD hi hp he hc
        have e0 := hp.of (k := 0) rfl
        have e1 := hp.of (k := 1) rfl
        have e24 := hD.f 1 rfl hi
        have e25 := hD.f 2 rfl e24
        try dsimp only at hc
        rw [e25] at hc
        have hf := he.h0
        replace hf := hf.more he 16 rfl (onP e0)
        replace hf := hf.more he 17 rfl (onP e1)
        refine stP hf rfl rfl rfl (pIA Try.underlying89 sz_94 rfl rfl (At.len qa_13 (by simp only [List.length_set]))) fun a hf => ?_
        refine cNil ?_
        refine xThenN ?_
        intro ds u hau
        refine ⟨θ, he.put0 hi hau hf rfl 39 rfl rfl, ?_⟩
        try dsimp only
        rw [updE_fls 23 e25 rfl]
        exact hc
      · intro E θ a w hD hi hp he hc
        have e23 := hp.of (k := 23) rfl
        have hf := he.h0
        replace hf := hf.more he 39 rfl (onP e23)
        refine stP hf rfl rfl rfl (pFA fa_94_1 rfl) fun a hf => ?_
        refine cNil ?_
        refine xThenN ?_
        intro ds u hau
        refine ⟨θ, he.put0 hi hau hf rfl 40 rfl rfl, ?_⟩
        exact hc
      · intro E θ a w hD hi hp he hc
        have e22 := hp.of (k := 22) rfl
        have e24 := hp.of (k := 24) rfl
        try dsimp only at hc
        rw [hi] at hc
        have hf := he.h0
        replace hf := hf.more he 38 rfl (onP e22)
        replace hf := hf.more he 40 rfl (onP e24)
        refine stRw (vs := [.int .i64 r_20.Lo, .int .i64 r_20.Hi]) (o' := 2) (z := (⟨e_14.Index, r_20, e_14.Spill⟩ : share_Year)) (xs := (fine.set x.toNat (⟨r_17, e_11.Delivered, e_11.Spill⟩ : share_Year))) hf hc rfl rfl rfl rfl sz_26 rfl (fun x => (one_enc_share_Year x).1) (getI_lt he_14) (fun e' he' => by cases (he'.symm.trans (getI_spec he_14).2); rfl) rfl u4 fun w hc => ?_
        refine cNil ?_
        refine xThenN ?_
        intro ds u hau
        refine ⟨θ, he.stay0 hi hau hf rfl, ?_⟩
        try dsimp only
        rw [updE_self E 25]
        exact hc
      · intro E θ a w hall he hc
        have hf := he.h0
        have e11 := hall 11 rfl
        have e21 := hall 21 rfl
        have e25 := hall 25 rfl
        replace hf := hf.more he 15 rfl (onT)
        replace hf := hf.more he 14 rfl (onT)
        replace hf := hf.more he 13 rfl (onT)
        replace hf := hf.more he 12 rfl (onT)
        replace hf := hf.more he 11 rfl (onT)
        replace hf := hf.more he 10 rfl (onT)
        replace hf := hf.more he 9 rfl (onT)
        replace hf := hf.more he 8 rfl (onT)
        replace hf := hf.more he 7 rfl (onT)
        replace hf := hf.more he 6 rfl (onT)
        replace hf := hf.more he 5 rfl (onT)
        replace hf := hf.more he 4 rfl (onT)
        replace hf := hf.more he 3 rfl (onT)
        replace hf := hf.more he 2 rfl (onT)
        replace hf := hf.more he 1 rfl (onT)
        replace hf := hf.more he 0 rfl (onT)
        try dsimp only at hc
        rw [e11, e21, e25] at hc
        exact ⟨hf.keep ⟨rfl, rfl, rfl, rfl, rfl, rfl, rfl, rfl, rfl, rfl, rfl, rfl, rfl, rfl, rfl, rfl, trivial⟩, hc⟩
      rintro a w ⟨hf, hc⟩
      refine h44 _ _ ?_
      obtain ⟨e_15, he_15, hF⟩ := bnd_some hF
      obtain ⟨qa_14, qr_14⟩ := row_atk hc m1 he_15
      obtain ⟨r_21, hr_21, hF⟩ := bnd_some hF
      obtain ⟨e_16, he_16, hF⟩ := bnd_some hF
      obtain ⟨qa_15, qr_15⟩ := row_atk hc m1 he_16
      obtain ⟨r_22, hr_22, hF⟩ := bnd_some hF
      obtain ⟨e_17, he_17, hF⟩ := bnd_some hF
      obtain ⟨g_8, rfl, qa_16, qr_16⟩ := row_atm hc m2 he_17
      refine regionE (fun θ => (⟨none, none, 2, .int .u8 where_⟩ :: ⟨none, none, 3, .int .u8 a_⟩ :: ⟨none, none, 4, .int .u8 b_⟩ :: ⟨none, none, 11, .pointer (some ⟨b_2, 0, none⟩)⟩ :: ⟨none, none, 12, .pointer (some ⟨b_3, 0, none⟩)⟩ :: ⟨none, none, 13, .slice (some ⟨g_5, 0, none⟩) l.length c_7⟩ :: ⟨none, none, 14, .slice (some ⟨g_6, 0, none⟩) truth.length c_8⟩ :: ⟨none, none, 15, .pointer (some ⟨b_4, 0, none⟩)⟩ :: ⟨none, none, 16, .slice p_4 r_3.1.length c_4⟩ :: ⟨none, none, 18, .slice (some ⟨g_7, 0, none⟩) fine.length c_9⟩ :: ⟨none, none, 19, .slice (some ⟨g_8, 0, none⟩) better.length c_10⟩ :: ⟨none, none, 20, .int .i64 x⟩ :: ⟨none, none, 21, .pointer (some ⟨b_6, 0, none⟩)⟩ :: ⟨none, none, 64, .slice (some ⟨g_5, 0, none⟩) l.length c_7⟩ :: ⟨none, none, 65, .int .i64 ((r_1.2.2.1.length : Nat) : Int)⟩ :: ⟨none, none, 66, .int .i64 x⟩ :: ⟨some 0, none, 121, .slice (some ⟨g_8, 0, none⟩) better.length c_10⟩ :: ⟨some 1, none, 122, .int .i64 x⟩ :: ⟨some 2, none, 123, .pointer (some ⟨b_4, 0, none⟩)⟩ :: ⟨some 3, none, 124, .pointer (some ⟨b_6, 0, none⟩)⟩ :: ⟨some 4, none, 125, .pointer (some ⟨b_6, 0, none⟩)⟩ :: ⟨some 5, none, 126, .int .i64 e_8.Index.Lo⟩ :: ⟨some 6, none, 127, .slice (some ⟨g_6, 0, none⟩) truth.length c_8⟩ :: ⟨some 7, none, 128, .int .i64 x⟩ :: ⟨some 8, none, 129, .pointer (some ⟨g_6, x.toNat * 2, none⟩)⟩ :: ⟨some 9, none, 130, .pointer (some ⟨g_6, x.toNat * 2 + 0, none⟩)⟩ :: ⟨some 10, none, 131, .int .i64 e_15.Index⟩ :: ⟨some 11, none, 132, .int .i64 r_21.1⟩ :: ⟨some 12, none, 133, .pointer (some ⟨b_4, 0, none⟩)⟩ :: ⟨some 13, none, 134, .slice (some ⟨g_6, 0, none⟩) truth.length c_8⟩ :: ⟨some 14, none, 135, .int .i64 x⟩ :: ⟨some 15, none, 136, .pointer (some ⟨g_6, x.toNat * 2, none⟩)⟩ :: ⟨some 16, none, 137, .pointer (some ⟨g_6, x.toNat * 2 + 1, none⟩)⟩ :: ⟨some 17, none, 138, .int .i64 e_16.Delivered⟩ :: ⟨some 18, none, 139, .pointer (some ⟨b_6, 2, none⟩)⟩ :: ⟨some 19, none, 140, .pointer (some ⟨b_6, 3, none⟩)⟩ :: ⟨some 20, none, 141, .int .i64 e_8.Delivered.Hi⟩ :: ⟨some 21, none, 142, .int .i64 r_22.1⟩ :: ⟨some 22, none, 143, .agg #[.int .i64 r_21.1, .int .i64 r_22.1]⟩ :: ⟨some 23, none, 144, .pointer (some ⟨g_8, x.toNat * 2, none⟩)⟩ :: [])) (fun E θ => .box b_6 [.int .i64 e_8.Index.Lo, .int .i64 e_8.Index.Hi, .int .i64 e_8.Delivered.Lo, .int .i64 e_8.Delivered.Hi, .bool e_8.Spill] 94 :: .row (some ⟨g_6, 0, none⟩) c_8 (truth.map enc_share_Truth) 97 2 :: (bif E 24 then .row (some ⟨g_8, 0, none⟩) c_10 ((better.set x.toNat (⟨r_21.1, r_22.1⟩ : share_Truth)).map enc_share_Truth) 97 2 else .row (some ⟨g_8, 0, none⟩) c_10 (better.map enc_share_Truth) 97 2) :: .row (some ⟨g_5, 0, none⟩) c_7 (l.map enc_share_Year) 94 5 :: .row (some ⟨g_7, 0, none⟩) c_9 (((fine.set x.toNat (⟨r_17, e_11.Delivered, e_11.Spill⟩ : share_Year)).set x.toNat (⟨e_14.Index, r_20, e_14.Spill⟩ : share_Year)).map enc_share_Year) 94 5 :: .row p_1 c_1 (r_1.1.Table.map enc_share_Point) 116 2 :: .row p_4 c_4 (r_3.1.map enc_api_Span) 26 2 :: (bif E 21 then .box b_4 [.slice narrow_p narrow.length narrow_c, .int .i64 r_22.2.1, .int .i64 r_22.2.2] 161 else bif E 11 then .box b_4 [.slice narrow_p narrow.length narrow_c, .int .i64 r_21.2.1, .int .i64 r_21.2.2] 161 else .box b_4 [.slice narrow_p narrow.length narrow_c, .int .i64 r_19.2.1, .int .i64 r_19.2.2] 161) :: .box b_3 [.int .i64 r_1.2.1.Lo, .int .i64 r_1.2.1.Hi] 26 :: .box b_2 [.slice p_1 r_1.1.Table.length c_1, .int .i64 r_1.1.Credit] 88 :: Lf) [(21, 11), (24, 23)] (fun a w => Has 318 a [(2, .int .u8 where_), (3, .int .u8 a_), (4, .int .u8 b_), (11, .pointer (some ⟨b_2, 0, none⟩)), (12, .pointer (some ⟨b_3, 0, none⟩)), (13, .slice (some ⟨g_5, 0, none⟩) l.length c_7), (14, .slice (some ⟨g_6, 0, none⟩) truth.length c_8), (15, .pointer (some ⟨b_4, 0, none⟩)), (16, .slice p_4 r_3.1.length c_4), (18, .slice (some ⟨g_7, 0, none⟩) fine.length c_9), (19, .slice (some ⟨g_8, 0, none⟩) better.length c_10), (64, .slice (some ⟨g_5, 0, none⟩) l.length c_7), (65, .int .i64 ((r_1.2.2.1.length : Nat) : Int)), (66, .int .i64 x)] ∧ Ctx G (.box b_6 [.int .i64 e_8.Index.Lo, .int .i64 e_8.Index.Hi, .int .i64 e_8.Delivered.Lo, .int .i64 e_8.Delivered.Hi, .bool e_8.Spill] 94 :: .row (some ⟨g_6, 0, none⟩) c_8 (truth.map enc_share_Truth) 97 2 :: .row (some ⟨g_8, 0, none⟩) c_10 ((better.set x.toNat (⟨r_21.1, r_22.1⟩ : share_Truth)).map enc_share_Truth) 97 2 :: .row (some ⟨g_5, 0, none⟩) c_7 (l.map enc_share_Year) 94 5 :: .row (some ⟨g_7, 0, none⟩) c_9 (((fine.set x.toNat (⟨r_17, e_11.Delivered, e_11.Spill⟩ : share_Year)).set x.toNat (⟨e_14.Index, r_20, e_14.Spill⟩ : share_Year)).map enc_share_Year) 94 5 :: .row p_1 c_1 (r_1.1.Table.map enc_share_Point) 116 2 :: .row p_4 c_4 (r_3.1.map enc_api_Span) 26 2 :: .box b_4 [.slice narrow_p narrow.length narrow_c, .int .i64 r_22.2.1, .int .i64 r_22.2.2] 161 :: .box b_3 [.int .i64 r_1.2.1.Lo, .int .i64 r_1.2.1.Hi] 26 :: .box b_2 [.slice p_1 r_1.1.Table.length c_1, .int .i64 r_1.1.Credit] 88 :: Lf) w) follows_mx (by kernel_rfl) (by kernel_rfl) (HasE.of hf ⟨rfl, rfl, rfl, rfl, rfl, rfl, rfl, rfl, rfl, rfl, rfl, rfl, rfl, rfl, rfl, rfl, trivial, trivial, trivial, trivial, trivial, trivial, trivial, trivial, trivial, trivial, trivial, trivial, trivial, trivial, trivial, trivial, trivial, trivial, trivial, trivial, trivial, trivial, trivial, trivial, trivial⟩) hc ⟨?_, ?_, ?_, ?_, ?_, ?_, ?_, ?_, ?_, ?_, ?_, ?_, ?_, ?_, ?_, ?_, ?_, ?_, ?_, ?_, ?_, ?_, ?_, ?_, ?_, trivial⟩ ?_ ?_
      · intro E θ a w hD hi hp he hc
        have hf := he.h0
        replace hf := hf.more he 10 rfl onT
        refine stP hf rfl rfl rfl (pM rfl) fun a hf => ?_
        refine cNil ?_
        refine xThenN ?_
        intro ds u hau
        refine ⟨θ, he.put0 hi hau hf rfl 16 rfl rfl, ?_⟩
        exact hc
      · intro E θ a w hD hi hp he hc
        have hf := he.h0
        replace hf := hf.more he 11 rfl onT
        refine stP hf rfl rfl rfl (pM rfl) fun a hf => ?_
        refine cNil ?_
        refine xThenN ?_
        intro ds u hau
        refine ⟨θ, he.put0 hi hau hf rfl 17 rfl rfl, ?_⟩
        exact hc
      · intro E θ a w hD hi hp he hc
        have hf := he.h0
        replace hf := hf.more he 7 rfl onT
        refine stP hf rfl rfl rfl (pM rfl) fun a hf => ?_
        refine cNil ?_
        refine xThenN ?_
        intro ds u hau
        refine ⟨θ, he.put0 hi hau hf rfl 18 rfl rfl, ?_⟩
        exact hc
      · intro E θ a w hD hi hp he hc
        have hf := he.h0
        replace hf := hf.more he 12 rfl onT
        refine stP hf rfl rfl rfl (pFA fa_94_0 rfl) fun a hf => ?_
        refine cNil ?_
        refine xThenN ?_
        intro ds u hau
        refine ⟨θ, he.put0 hi hau hf rfl 19 rfl rfl, ?_⟩
        exact hc
      · intro E θ a w hD hi hp he hc
        have e3 := hp.of (k := 3) rfl
        have hf := he.h0
        replace hf := hf.more he 19 rfl (onP e3)
        refine stP hf rfl rfl rfl (pFA fa_26_0 rfl) fun a hf => ?_
        refine cNil ?_
        refine xThenN ?_
        intro ds u hau
        refine ⟨θ, he.put0 hi hau hf rfl 20 rfl rfl, ?_⟩
        exact hc
      · intro E θ a w hD hi hp he hc
        have e4 := hp.of (k := 4) rfl
        have hf := he.h0
        replace hf := hf.more he 20 rfl (onP e4)
        refine stE hf hc rfl rfl rfl (eLd1 sc_3 rfl (cell_box m0 rfl)) fun a w hf hc => ?_
        refine cNil ?_
        refine xThenN ?_
        intro ds u hau
        refine ⟨θ, he.put0 hi hau hf rfl 21 rfl rfl, ?_⟩
        exact hc
      · intro E θ a w hD hi hp he hc
        have hf := he.h0
        replace hf := hf.more he 6 rfl onT
        refine stP hf rfl rfl rfl (pM rfl) fun a hf => ?_
        refine cNil ?_
        refine xThenN ?_
        intro ds u hau
        refine ⟨θ, he.put0 hi hau hf rfl 22 rfl rfl, ?_⟩
        exact hc
      · intro E θ a w hD hi hp he hc
        have hf := he.h0
        replace hf := hf.more he 11 rfl onT
        refine stP hf rfl rfl rfl (pM rfl) fun a hf => ?_
        refine cNil ?_
        refine xThenN ?_
        intro ds u hau
        refine ⟨θ, he.put0 hi hau hf rfl 23 rfl rfl, ?_⟩
        exact hc
      · intro E θ a w hD hi hp he hc
        have e6 := hp.of (k := 6) rfl
        have e7 := hp.of (k := 7) rfl
        have hf := he.h0
        replace hf := hf.more he 22 rfl (onP e6)
        replace hf := hf.more he 23 rfl (onP e7)
        refine stP hf rfl rfl rfl (pIA Try.underlying90 sz_97 rfl rfl qa_14) fun a hf => ?_
        refine cNil ?_
        refine xThenN ?_
        intro ds u hau
        refine ⟨θ, he.put0 hi hau hf rfl 24 rfl rfl, ?_⟩
        exact hc
      · intro E θ a w hD hi hp he hc
        have e8 := hp.of (k := 8) rfl
        have hf := he.h0
        replace hf := hf.more he 24 rfl (onP e8)
        refine stP hf rfl rfl rfl (pFA fa_97_0 rfl) fun a hf => ?_
        refine cNil ?_
        refine xThenN ?_
        intro ds u hau
        refine ⟨θ, he.put0 hi hau hf rfl 25 rfl rfl, ?_⟩
        exact hc
      · intro E θ a w hD hi hp he hc
        have e9 := hp.of (k := 9) rfl
        have hf := he.h0
        replace hf := hf.more he 25 rfl (onP e9)
        refine stE hf hc rfl rfl rfl (eLd1 sc_3 rfl (cell_row (sz := 2) (i := x.toNat) (j := 0) m1 qr_14 rfl)) fun a w hf hc => ?_
        refine cNil ?_
        refine xThenN ?_
        intro ds u hau
        refine ⟨θ, he.put0 hi hau hf rfl 26 rfl rfl, ?_⟩
        exact hc
      · intro E θ a w hD hi hp he hc
        have e2 := hp.of (k := 2) rfl
        have e5 := hp.of (k := 5) rfl
        have e10 := hp.of (k := 10) rfl
        have e21 := hD.f 0 rfl hi
        try dsimp only at hc
        rw [hi, e21] at hc
        have hf := he.h0
        replace hf := hf.more he 18 rfl (onP e2)
        replace hf := hf.more he 21 rfl (onP e5)
        replace hf := hf.more he 26 rfl (onP e10)
        refine stC (vs := [.pointer (some ⟨b_4, 0, none⟩), .int .i64 e_8.Index.Lo, .int .i64 e_15.Index]) (caps := []) hf rfl rfl rfl en_28 rfl rfl rfl rfl (kit_Stream_Within_ok (⟨narrow, r_19.2.1, r_19.2.2⟩ : kit_Stream) e_8.Index.Lo e_15.Index h_narrow (hc.pick k7) hr_21) ?_
        rintro _ w ⟨rfl, hc⟩
        refine ⟨_, rfl, fun a hf => ?_⟩
        refine cNil ?_
        refine xThenN ?_
        intro ds u hau
        replace hc := hc.pick k0
        replace hc := hc.pick k7
        replace hc := hc.pick k7
        replace hc := hc.pick k7
        replace hc := hc.pick k7
        replace hc := hc.pick k7
        replace hc := hc.pick k7
        replace hc := hc.pick k7
        refine ⟨θ, he.put0 hi hau hf rfl 27 rfl rfl, ?_⟩
        try dsimp only
        rw [updE_self E 11, updE_fls 11 e21 rfl]
        exact hc
      · intro E θ a w hD hi hp he hc
        have hf := he.h0
        replace hf := hf.more he 7 rfl onT
        refine stP hf rfl rfl rfl (pM rfl) fun a hf => ?_
        refine cNil ?_
        refine xThenN ?_
        intro ds u hau
        refine ⟨θ, he.put0 hi hau hf rfl 28 rfl rfl, ?_⟩
        exact hc
      · intro E θ a w hD hi hp he hc
        have hf := he.h0
        replace hf := hf.more he 6 rfl onT
        refine stP hf rfl rfl rfl (pM rfl) fun a hf => ?_
        refine cNil ?_
        refine xThenN ?_
        intro ds u hau
        refine ⟨θ, he.put0 hi hau hf rfl 29 rfl rfl, ?_⟩
        exact hc
      · intro E θ a w hD hi hp he hc
        have hf := he.h0
        replace hf := hf.more he 11 rfl onT
        refine stP hf rfl rfl rfl (pM rfl) fun a hf => ?_
        refine cNil ?_
        refine xThenN ?_
        intro ds u hau
        refine ⟨θ, he.put0 hi hau hf rfl 30 rfl rfl, ?_⟩
        exact hc
      · intro E θ a w hD hi hp he hc
        have e13 := hp.of (k := 13) rfl
        have e14 := hp.of (k := 14) rfl
        have hf := he.h0
        replace hf := hf.more he 29 rfl (onP e13)
        replace hf := hf.more he 30 rfl (onP e14)
        refine stP hf rfl rfl rfl (pIA Try.underlying90 sz_97 rfl rfl qa_15) fun a hf => ?_
        refine cNil ?_
        refine xThenN ?_
        intro ds u hau
        refine ⟨θ, he.put0 hi hau hf rfl 31 rfl rfl, ?_⟩
        exact hc
      · intro E θ a w hD hi hp he hc
        have e15 := hp.of (k := 15) rfl
        have hf := he.h0
        replace hf := hf.more he 31 rfl (onP e15)
        refine stP hf rfl rfl rfl (pFA fa_97_1 rfl) fun a hf => ?_
        refine cNil ?_
        refine xThenN ?_
        intro ds u hau
        refine ⟨θ, he.put0 hi hau hf rfl 32 rfl rfl, ?_⟩
        exact hc
      · intro E θ a w hD hi hp he hc
        have e16 := hp.of (k := 16) rfl
        have hf := he.h0
        replace hf := hf.more he 32 rfl (onP e16)
        refine stE hf hc rfl rfl rfl (eLd1 sc_3 rfl (cell_row (sz := 2) (i := x.toNat) (j := 1) m1 qr_15 rfl)) fun a w hf hc => ?_
        refine cNil ?_
        refine xThenN ?_
        intro ds u hau
        refine ⟨θ, he.put0 hi hau hf rfl 33 rfl rfl, ?_⟩
        exact hc
      · intro E θ a w hD hi hp he hc
        have hf := he.h0
        replace hf := hf.more he 12 rfl onT
        refine stP hf rfl rfl rfl (pFA fa_94_1 rfl) fun a hf => ?_
        refine cNil ?_
        refine xThenN ?_
        intro ds u hau
        refine ⟨θ, he.put0 hi hau hf rfl 34 rfl rfl, ?_⟩
        exact hc
      · intro E θ a w hD hi hp he hc
        have e18 := hp.of (k := 18) rfl
        have hf := he.h0
        replace hf := hf.more he 34 rfl (onP e18)
        refine stP hf rfl rfl rfl (pFA fa_26_1 rfl) fun a hf => ?_
        refine cNil ?_
        refine xThenN ?_
        intro ds u hau
        refine ⟨θ, he.put0 hi hau hf rfl 35 rfl rfl, ?_⟩
        exact hc
      · intro E θ a w hD hi hp he hc
        have e19 := hp.of (k := 19) rfl
        have hf := he.h0
        replace hf := hf.more he 35 rfl (onP e19)
        refine stE hf hc rfl rfl rfl (eLd1 sc_3 rfl (cell_box m0 rfl)) fun a w hf hc => ?_
        refine cNil ?_
        refine xThenN ?_
        intro ds u hau
        refine ⟨θ, he.put0 hi hau hf rfl 36 rfl rfl, ?_⟩
        exact hc
      · intro E θ a w hD hi hp he hc
        have e12 := hp.of (k := 12) rfl
        have e17 := hp.of (k := 17) rfl
        have e20 := hp.of (k := 20) rfl
        have e11 := hp.of (k := 11) rfl
        try dsimp only at hc
        rw [e11, hi] at hc
        have hf := he.h0
        replace hf := hf.more he 28 rfl (onP e12)
        replace hf := hf.more he 33 rfl (onP e17)
        replace hf := hf.more he 36 rfl (onP e20)
        refine stC (vs := [.pointer (some ⟨b_4, 0, none⟩), .int .i64 e_16.Delivered, .int .i64 e_8.Delivered.Hi]) (caps := []) hf rfl rfl rfl en_28 rfl rfl rfl rfl (kit_Stream_Within_ok (⟨narrow, r_21.2.1, r_21.2.2⟩ : kit_Stream) e_16.Delivered e_8.Delivered.Hi h_narrow (hc.pick k7) hr_22) ?_
        rintro _ w ⟨rfl, hc⟩
        refine ⟨_, rfl, fun a hf => ?_⟩
        refine cNil ?_
        refine xThenN ?_
        intro ds u hau
        replace hc := hc.pick k0
        replace hc := hc.pick k7
        replace hc := hc.pick k7
        replace hc := hc.pick k7
        replace hc := hc.pick k7
        replace hc := hc.pick k7
        replace hc := hc.pick k7
        replace hc := hc.pick k7
        refine ⟨θ, he.put0 hi hau hf rfl 37 rfl rfl, ?_⟩
        try dsimp only
        rw [updE_tru 21 e11, updE_self E 21]
        exact hc
      · intro E θ a w hD hi hp he hc
        have e11 := hp.of (k := 11) rfl
        have e21 := hp.of (k := 21) rfl
        have hf := he.h0
        replace hf := hf.more he 27 rfl (onP e11)
        replace hf := hf.more he 37 rfl (onP e21)
        refine stP hf rfl rfl rfl (pBuildS (cells := [.int .i64 r_21.1, .int .i64 r_22.1]) bt_97 rfl rfl) fun a hf => ?_
        refine cNil ?_
        refine xThenN ?_
        intro ds u hau
        refine ⟨θ, he.put0 hi hau hf rfl 38 rfl rfl, ?_⟩
        exact hc
      · intro E θ a w hD hi hp he hc
        have e0 := hp.of (k := 0) rfl
        have e1 := hp.of (k := 1) rfl
        have e24 := hD.f 1 rfl hi
        try dsimp only at hc
        rw [e24] at hc
        have hf := he.h0
        replace hf := hf.more he 16 rfl (onP e0)
        replace hf := hf.more he 17 rfl (onP e1)
        refine stP hf rfl rfl rfl (pIA Try.underlying90 sz_97 rfl rfl qa_16) fun a hf => ?_
        refine cNil ?_
        refine xThenN ?_
        intro ds u hau
        refine ⟨θ, he.put0 hi hau hf rfl 39 rfl rfl, ?_⟩
        try dsimp only
        rw [updE_fls 23 e24 rfl]
        exact hc
      · intro E θ a w hD hi hp he hc
        have e22 := hp.of (k := 22) rfl
        have e23 := hp.of (k := 23) rfl
        try dsimp only at hc
        rw [hi] at hc
        have hf := he.h0
        replace hf := hf.more he 38 rfl (onP e22)
        replace hf := hf.more he 39 rfl (onP e23)
        refine stRw (vs := [.int .i64 r_21.1, .int .i64 r_22.1]) (o' := 0) (z := (⟨r_21.1, r_22.1⟩ : share_Truth)) (xs := better) hf hc rfl rfl rfl rfl sz_97 rfl (fun x => (one_enc_share_Truth x).1) (getI_lt he_17) (fun _ _ => rfl) rfl u2 fun w hc => ?_
        refine cNil ?_
        refine xThenN ?_
        intro ds u hau
        refine ⟨θ, he.stay0 hi hau hf rfl, ?_⟩
        try dsimp only
        rw [updE_self E 24]
        exact hc
      · intro E θ a w hall he hc
        have hf := he.h0
        have e11 := hall 11 rfl
        have e21 := hall 21 rfl
        have e24 := hall 24 rfl
        replace hf := hf.more he 15 rfl (onT)
        replace hf := hf.more he 14 rfl (onT)
        replace hf := hf.more he 13 rfl (onT)
        replace hf := hf.more he 10 rfl (onT)
        replace hf := hf.more he 9 rfl (onT)
        replace hf := hf.more he 8 rfl (onT)
        replace hf := hf.more he 7 rfl (onT)
        replace hf := hf.more he 6 rfl (onT)
        replace hf := hf.more he 5 rfl (onT)
        replace hf := hf.more he 4 rfl (onT)
        replace hf := hf.more he 3 rfl (onT)
        replace hf := hf.more he 2 rfl (onT)
        replace hf := hf.more he 1 rfl (onT)
        replace hf := hf.more he 0 rfl (onT)
        try dsimp only at hc
        rw [e11, e21, e24] at hc
        exact ⟨hf.keep ⟨rfl, rfl, rfl, rfl, rfl, rfl, rfl, rfl, rfl, rfl, rfl, rfl, rfl, rfl, trivial⟩, hc⟩
      rintro a w ⟨hf, hc⟩
      refine h41 _ _ ?_
      refine cReg ?_
      refine stP hf rfl rfl rfl (pAdd rfl rfl) fun a hf => ?_
      refine stP hf rfl rfl rfl (pM rfl) fun a hf => ?_
      refine cNil ?_
      rw [(by simp : fine.length = ((fine.set x.toNat (⟨r_17, e_11.Delivered, e_11.Spill⟩ : share_Year)).set x.toNat (⟨e_14.Index, r_20, e_14.Spill⟩ : share_Year)).length)] at hf
      rw [(by simp : better.length = (better.set x.toNat (⟨r_21.1, r_22.1⟩ : share_Truth)).length)] at hf
      replace hc := hc.drop k0
      exact hK11 (l, truth, ((fine.set x.toNat (⟨r_17, e_11.Delivered, e_11.Spill⟩ : share_Year)).set x.toNat (⟨e_14.Index, r_20, e_14.Spill⟩ : share_Year)), (better.set x.toNat (⟨r_21.1, r_22.1⟩ : share_Truth)), W (x + 1), r_22.2.1, r_22.2.2) _ _ (Option.some.inj hF).symm ⟨(some ⟨g_5, 0, none⟩), c_7, (some ⟨g_6, 0, none⟩), c_8, (some ⟨g_7, 0, none⟩), c_9, (some ⟨g_8, 0, none⟩), c_10, hf.keep ⟨rfl, rfl, rfl, rfl, rfl, rfl, rfl, rfl, rfl, rfl, rfl, rfl, rfl, rfl, trivial⟩, hc⟩
    · replace hF := condF hb hF
      clear hb
      refine wp_exit ?_
      refine xThen ?_
      refine xThen ?_
      have he := Option.some.inj hF
      rw [← he] at hfin11
      refine cHit ?_
      exact hr11 _ _ _ hfin11 ⟨p_7, c_7, p_8, c_8, p_9, c_9, p_10, c_10, hf.keep ⟨rfl, rfl, rfl, rfl, rfl, rfl, rfl, rfl, rfl, rfl, rfl, rfl, rfl, rfl, trivial⟩, hc⟩

end Go.Nilo
