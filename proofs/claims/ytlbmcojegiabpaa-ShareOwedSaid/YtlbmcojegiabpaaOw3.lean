/-
  What functions of the Go text compute, as plain functions, and that they do, part 3 of 3. Conditions: what each theorem names.
-/
import Derived.Test.YtlbmcojegiabpaaOw2
import Derived.Test.YtlbmcojegiabpaaProg
set_option linter.unusedVariables false
set_option maxRecDepth 100000
set_option maxHeartbeats 4000000
namespace Go.Nilo
open Go.Proofs


def share_Divisors_j18 (N : Nat) (x : Int) (next__1 : List share_quotient) (x_3 : Int) (x_4 : Int) : Option (Step ((List share_quotient) × Int × Int × Int) (api_Ratio × api_Ratio × Int)) :=
  some (.cont (next__1, W (x + 1), x_3, x_4))
def share_Divisors_b10 (N : Nat) (claims : List Int) (shares : List Int) (rule : Int) (next_ : List share_quotient) (x : Int) (x_1 : Int) (x_2 : Int) : Option (Step ((List share_quotient) × Int × Int × Int) (api_Ratio × api_Ratio × Int)) :=
  cond (decide (x < ((shares.length : Nat) : Int)))
  (Option.bind (getI shares x) fun e_2 =>
  Option.bind (getI claims x) fun e_3 =>
  Option.bind (share_Rule_day N rule e_3 (W (e_2 + 1))) fun r_4 =>
  Option.bind (room ((next_ ++ [r_4])).length) fun un =>
  Option.bind (getI claims x) fun e_4 =>
  Option.bind (share_Rule_day N rule e_4 e_2) fun r_5 =>
  cond ((decide (0 < r_5.by_)) && (share_quotient_more (⟨x_1, x_2⟩ : share_quotient) r_5))
  (share_Divisors_j18 N x (next_ ++ [r_4]) r_5.claim r_5.by_)
  (share_Divisors_j18 N x (next_ ++ [r_4]) x_1 x_2))
  (some (.brk (next_, x, x_1, x_2)))
def share_Divisors (N : Nat) (claims : List Int) (shares : List Int) (rule : Int) : Option (api_Ratio × api_Ratio × Int) :=
  Option.bind (share_shared N claims shares rule) fun r =>
  cond (r != 0)
  (some ((⟨0, 0⟩ : api_Ratio), (⟨0, 0⟩ : api_Ratio), r))
  (Option.bind (loopO (fun s10 => share_Divisors_b10 N claims shares rule s10.1 s10.2.1 s10.2.2.1 s10.2.2.2) N (([] : List share_quotient), 0, 2000000, 1)) fun x10 =>
  exK x10 (fun s10 => Option.bind (getI s10.1 0) fun e_1 =>
  Option.bind (subO s10.1 1 ((s10.1.length : Nat) : Int)) fun sub =>
  Option.bind (share_greatest N e_1 sub) fun r_1 =>
  cond (share_quotient_more r_1 (⟨s10.2.2.1, s10.2.2.2⟩ : share_quotient))
  (some ((⟨0, 0⟩ : api_Ratio), (⟨0, 0⟩ : api_Ratio), 7))
  (Option.bind (share_quotient_ratio N r_1) fun r_2 =>
  Option.bind (share_quotient_ratio N (⟨s10.2.2.1, s10.2.2.2⟩ : share_quotient)) fun r_3 =>
  some (r_2, r_3, 0))) some)
theorem share_Divisors_ok {N : Nat} {G : Pers} {Lf : List Ent} {w : World} (claims : List Int) (shares : List Int) (rule : Int) {claims_p : Option Addr} {claims_c : Nat} {shares_p : Option Addr} {shares_c : Nat} (h_claims : Rd G 1 claims_p claims_c (claims.map encI_i64)) (h_shares : Rd G 1 shares_p shares_c (shares.map encI_i64)) (hc : Ctx G (Lf) w) {res : api_Ratio × api_Ratio × Int} (hF : share_Divisors N claims shares rule = some res) : Calls Try.prog 39 #[.slice claims_p claims.length claims_c, .slice shares_p shares.length shares_c, .int .i64 rule] w (fun e w => e = .returned (.tuple #[.agg #[.int .i64 res.1.N, .int .i64 res.1.D], .agg #[.int .i64 res.2.1.N, .int .i64 res.2.1.D], .int .i64 res.2.2]) ∧ Ctx G (Lf) w) := by
  unfold share_Divisors at hF
  refine fnIn (args := [.slice claims_p claims.length claims_c, .slice shares_p shares.length shares_c, .int .i64 rule]) Try.func39 rfl Try.ntmps39 rfl fun a hf => ?_
  refine wp_seq_k fun K1 h1 => ?_
  refine cReg ?_
  refine stAl (cs := [.int .i64 0, .int .i64 0]) hf hc rfl rfl zr_71 rfl fun b_1 a w hf hc => ?_
  refine stAl (cs := [.int .i64 0, .int .i64 0]) hf hc rfl rfl zr_71 rfl fun b_2 a w hf hc => ?_
  refine stP hf rfl rfl rfl (pA rfl) fun a hf => ?_
  refine cNil ?_
  refine h1 _ _ ?_
  refine wp_seq_k fun K2 h2 => ?_
  refine wp_seq_k fun K3 h3 => ?_
  refine cReg ?_
  refine stP hf rfl rfl rfl (pM rfl) fun a hf => ?_
  refine stP hf rfl rfl rfl (pM rfl) fun a hf => ?_
  refine stP hf rfl rfl rfl (pM rfl) fun a hf => ?_
  obtain ⟨r, hr, hF⟩ := bnd_some hF
  refine stE hf hc rfl rfl rfl (eC (v := .int .i64 r) (vs := [.slice claims_p claims.length claims_c, .slice shares_p shares.length shares_c, .int .i64 rule]) (caps := []) en_88 rfl rfl rfl rfl (fun w hc => share_shared_ok claims shares rule h_claims h_shares hc hr)) fun a w hf hc => ?_
  refine stP hf rfl rfl rfl (pA rfl) fun a hf => ?_
  refine cNil ?_
  refine h3 _ _ ?_
  refine wp_seq_k fun K4 h4 => ?_
  refine cReg ?_
  refine stP hf rfl rfl rfl (pM rfl) fun a hf => ?_
  refine stP hf rfl rfl rfl (pNe rfl rfl) fun a hf => ?_
  refine cNil ?_
  refine h4 _ _ ?_
  refine cCond (b := (r != 0)) hf rfl (fun hb => ?_) (fun hb => ?_)
  · replace hF := condT hb hF
    clear hb
    refine wp_seq_k fun K5 h5 => ?_
    refine cReg ?_
    refine stP hf rfl rfl rfl (pBuildS (cells := [.int .i64 0, .int .i64 0]) bt_71 rfl rfl) fun a hf => ?_
    refine stP hf rfl rfl rfl (pBuildS (cells := [.int .i64 0, .int .i64 0]) bt_71 rfl rfl) fun a hf => ?_
    refine stP hf rfl rfl rfl (pM rfl) fun a hf => ?_
    refine stSt (vs := [.int .i64 0, .int .i64 0]) hf hc rfl rfl rfl rfl sz_71 rfl rfl u1 fun w hc => ?_
    refine stSt (vs := [.int .i64 0, .int .i64 0]) hf hc rfl rfl rfl rfl sz_71 rfl rfl u0 fun w hc => ?_
    refine stP hf rfl rfl rfl (pA rfl) fun a hf => ?_
    refine cNil ?_
    refine h5 _ _ ?_
    refine wp_ret ?_
    refine xThenR ?_
    obtain rfl := Option.some.inj hF
    replace hc := hc.pick k0
    replace hc := hc.pick k1
    exact fnOut3 (by simp) rfl Try.results39 hf hc (rv_cellN (vs := [.int .i64 0, .int .i64 0]) ag_71 rfl rfl (cells_box (n := 2) m0 rfl)) (rv_cellN (vs := [.int .i64 0, .int .i64 0]) ag_71 rfl rfl (cells_box (n := 2) m1 rfl)) (show look _ 8 = _ from rfl) ⟨rfl, ((hc.drop k1).drop k0)⟩
  · replace hF := condF hb hF
    clear hb
    refine wp_skip ?_
    refine h2 _ _ ?_
    refine wp_seq_k fun K6 h6 => ?_
    refine cReg ?_
    refine stP hf rfl rfl rfl (pA rfl) fun a hf => ?_
    refine cNil ?_
    refine h6 _ _ ?_
    refine wp_seq_k fun K7 h7 => ?_
    refine cReg ?_
    refine stP hf rfl rfl rfl (pBuildS (cells := [.int .i64 2000000, .int .i64 1]) bt_165 rfl rfl) fun a hf => ?_
    refine stAl (cs := [.int .i64 0, .int .i64 0]) hf hc rfl rfl zr_165 rfl fun b_3 a w hf hc => ?_
    refine stSt (vs := [.int .i64 2000000, .int .i64 1]) hf hc rfl rfl rfl rfl sz_165 rfl rfl u0 fun w hc => ?_
    refine cNil ?_
    refine h7 _ _ ?_
    refine wp_seq_k fun K8 h8 => ?_
    refine wp_seq_k fun K9 h9 => ?_
    refine cReg ?_
    refine stP hf rfl rfl rfl (pM rfl) fun a hf => ?_
    refine stP hf rfl rfl rfl (pLenS Try.underlying36 rfl) fun a hf => ?_
    refine stP hf rfl rfl rfl (pM rfl) fun a hf => ?_
    refine cNil ?_
    refine h9 _ _ ?_
    refine wp_block ?_
    obtain ⟨x10, hx10, hF⟩ := bnd_some hF
    let S10 : ((List share_quotient) × Int × Int × Int) → Act → World → Prop := (fun (zz : (List share_quotient) × Int × Int × Int) a w => ∃ (p_1 : Option Addr) (c_1 : Nat), Has 76 a [(0, .slice claims_p claims.length claims_c), (2, .int .i64 rule), (6, .pointer (some ⟨b_1, 0, none⟩)), (7, .pointer (some ⟨b_2, 0, none⟩)), (10, .slice p_1 zz.1.length c_1), (11, .pointer (some ⟨b_3, 0, none⟩)), (26, .slice shares_p shares.length shares_c), (27, .int .i64 ((shares.length : Nat) : Int)), (28, .int .i64 zz.2.1)] ∧ Ctx G (.row p_1 c_1 (zz.1.map enc_share_quotient) 165 2 :: .box b_3 [.int .i64 zz.2.2.1, .int .i64 zz.2.2.2] 165 :: .box b_2 [.int .i64 0, .int .i64 0] 71 :: .box b_1 [.int .i64 0, .int .i64 0] 71 :: Lf) w)
    have hr10 : ∀ (zz : (List share_quotient) × Int × Int × Int) a w, x10 = .go zz → S10 zz a w → K8 a w := by
      rintro ⟨next_, x, x_1, x_2⟩ a w rfl ⟨p_1, c_1, hf, hc⟩
      replace hF : _ = some res := hF
      refine h8 _ _ ?_
      refine wp_seq_k fun K11 h11 => ?_
      obtain ⟨e_1, he_1, hF⟩ := bnd_some hF
      obtain ⟨g, rfl, qa, qr⟩ := row_atm hc m0 he_1
      have qc := row_cap hc m0
      obtain ⟨sub, hsub, hF⟩ := bnd_some hF
      obtain ⟨r_1, hr_1, hF⟩ := bnd_some hF
      replace hc := hc.nilRow 0 0
      refine regionE (fun θ => [⟨none, none, 6, .pointer (some ⟨b_1, 0, none⟩)⟩, ⟨none, none, 7, .pointer (some ⟨b_2, 0, none⟩)⟩, ⟨none, none, 10, .slice (some ⟨g, 0, none⟩) next_.length c_1⟩, ⟨none, none, 11, .pointer (some ⟨b_3, 0, none⟩)⟩, ⟨some 0, none, 61, .slice (some ⟨g, 0, none⟩) next_.length c_1⟩, ⟨some 1, none, 62, .pointer (some ⟨g, (0 : Int).toNat * 2, none⟩)⟩, ⟨some 2, none, 63, .agg #[.int .i64 e_1.claim, .int .i64 e_1.by_]⟩, ⟨some 3, none, 64, .slice (some ⟨g, 0, none⟩) next_.length c_1⟩, ⟨some 4, none, 65, .slice (subP (some ⟨g, 0, none⟩) c_1 (1 : Int).toNat 2) sub.length (c_1 - (1 : Int).toNat)⟩, ⟨some 5, none, 66, .agg #[.int .i64 r_1.claim, .int .i64 r_1.by_]⟩, ⟨some 6, none, 15, .pointer (some ⟨(θ 48).b, 0, none⟩)⟩]) (fun E θ => (bif E 7 then .box (θ 48).b [.int .i64 r_1.claim, .int .i64 r_1.by_] 165 else bif E 6 then .box (θ 48).b [.int .i64 0, .int .i64 0] 165 else .row none 0 [] 0 0) :: .row (some ⟨g, 0, none⟩) c_1 (next_.map enc_share_quotient) 165 2 :: .box b_3 [.int .i64 x_1, .int .i64 x_2] 165 :: .box b_2 [.int .i64 0, .int .i64 0] 71 :: .box b_1 [.int .i64 0, .int .i64 0] 71 :: Lf) [(7, 6)] (fun a w => ∃ (b_5 : Nat), Has 76 a [(6, .pointer (some ⟨b_1, 0, none⟩)), (7, .pointer (some ⟨b_2, 0, none⟩)), (11, .pointer (some ⟨b_3, 0, none⟩)), (15, .pointer (some ⟨b_5, 0, none⟩))] ∧ Ctx G (.box b_5 [.int .i64 r_1.claim, .int .i64 r_1.by_] 165 :: .row (some ⟨g, 0, none⟩) c_1 (next_.map enc_share_quotient) 165 2 :: .box b_3 [.int .i64 x_1, .int .i64 x_2] 165 :: .box b_2 [.int .i64 0, .int .i64 0] 71 :: .box b_1 [.int .i64 0, .int .i64 0] 71 :: Lf) w) follows_mx (by kernel_rfl) (by kernel_rfl) (HasE.of hf ⟨rfl, rfl, rfl, rfl, trivial, trivial, trivial, trivial, trivial, trivial, trivial, trivial⟩) hc ⟨?_, ?_, ?_, ?_, ?_, ?_, ?_, ?_, trivial⟩ ?_ ?_
      · intro E θ a w hD hi hp he hc
        have hf := he.h0
        replace hf := hf.more he 2 rfl onT
        refine stP hf rfl rfl rfl (pM rfl) fun a hf => ?_
        refine cNil ?_
        refine xThenN ?_
        intro ds u hau
        refine ⟨θ, he.put0 hi hau hf rfl 4 rfl rfl, ?_⟩
        exact hc
      · intro E θ a w hD hi hp he hc
        have e0 := hp.of (k := 0) rfl
        have hf := he.h0
        replace hf := hf.more he 4 rfl (onP e0)
        refine stP hf rfl rfl rfl (pIA Try.underlying171 sz_165 rfl rfl qa) fun a hf => ?_
        refine cNil ?_
        refine xThenN ?_
        intro ds u hau
        refine ⟨θ, he.put0 hi hau hf rfl 5 rfl rfl, ?_⟩
        exact hc
      · intro E θ a w hD hi hp he hc
        have e1 := hp.of (k := 1) rfl
        have hf := he.h0
        replace hf := hf.more he 5 rfl (onP e1)
        refine stE hf hc rfl rfl rfl (eLdN (vs := [.int .i64 e_1.claim, .int .i64 e_1.by_]) ag_165 rfl rfl (cells_rw (sz := 2) (i := (0 : Int).toNat) m1 qr (n := 2) (o' := 0) rfl)) fun a w hf hc => ?_
        refine cNil ?_
        refine xThenN ?_
        intro ds u hau
        refine ⟨θ, he.put0 hi hau hf rfl 6 rfl rfl, ?_⟩
        exact hc
      · intro E θ a w hD hi hp he hc
        have hf := he.h0
        replace hf := hf.more he 2 rfl onT
        refine stP hf rfl rfl rfl (pM rfl) fun a hf => ?_
        refine cNil ?_
        refine xThenN ?_
        intro ds u hau
        refine ⟨θ, he.put0 hi hau hf rfl 7 rfl rfl, ?_⟩
        exact hc
      · intro E θ a w hD hi hp he hc
        have e3 := hp.of (k := 3) rfl
        have hf := he.h0
        replace hf := hf.more he 7 rfl (onP e3)
        refine stP hf rfl rfl rfl (pSl Try.underlying171 sz_165 rfl rfl qc rfl rfl hsub) fun a hf => ?_
        refine cNil ?_
        refine xThenN ?_
        intro ds u hau
        refine ⟨θ, he.put0 hi hau hf rfl 8 rfl rfl, ?_⟩
        exact hc
      · intro E θ a w hD hi hp he hc
        have e2 := hp.of (k := 2) rfl
        have e4 := hp.of (k := 4) rfl
        have hf := he.h0
        replace hf := hf.more he 6 rfl (onP e2)
        replace hf := hf.more he 8 rfl (onP e4)
        refine stE hf hc rfl rfl rfl (eC (v := .agg #[.int .i64 r_1.claim, .int .i64 r_1.by_]) (vs := [.agg #[.int .i64 e_1.claim, .int .i64 e_1.by_], .slice (subP (some ⟨g, 0, none⟩) c_1 (1 : Int).toNat 2) sub.length (c_1 - (1 : Int).toNat)]) (caps := []) en_90 rfl rfl rfl rfl (fun w hc => by obtain ⟨G1, hle1, hrd1, hc, hth1⟩ := lend hc k1; exact (share_greatest_ok e_1 sub (Rd.sub hrd1 hsub) hc hr_1).mono fun e w h => ⟨h.1, ((hth1 _ _ h.2).unpick k1)⟩)) fun a w hf hc => ?_
        refine cNil ?_
        refine xThenN ?_
        intro ds u hau
        refine ⟨θ, he.put0 hi hau hf rfl 9 rfl rfl, ?_⟩
        exact hc
      · intro E θ a w hD hi hp he hc
        have e7 := hD.f 0 rfl hi
        try dsimp only at hc
        rw [hi, e7] at hc
        have hf := he.h0
        refine stAl (cs := [.int .i64 0, .int .i64 0]) hf hc rfl rfl zr_165 rfl fun b_4 a w hf hc => ?_
        refine cNil ?_
        refine xThenN ?_
        intro ds u hau
        replace hc := hc.drop k1
        refine ⟨(setT θ 48 ⟨b_4, none, 0⟩), he.put hi hau hf rfl [] trivial ⟨qq, qq, qq, qq, qq, qq, qq, qq, qq, qq, qq, trivial⟩, ?_⟩
        try dsimp only
        rw [updE_self E 6, updE_fls 6 e7 rfl]
        exact hc
      · intro E θ a w hD hi hp he hc
        have e5 := hp.of (k := 5) rfl
        have e6 := hp.of (k := 6) rfl
        try dsimp only at hc
        rw [e6, hi] at hc
        have hf := he.h0
        replace hf := hf.more he 9 rfl (onP e5)
        replace hf := hf.more he 10 rfl (onP e6)
        refine stSt (vs := [.int .i64 r_1.claim, .int .i64 r_1.by_]) hf hc rfl rfl rfl rfl sz_165 rfl rfl u0 fun w hc => ?_
        refine cNil ?_
        refine xThenN ?_
        intro ds u hau
        refine ⟨θ, he.stay0 hi hau hf rfl, ?_⟩
        try dsimp only
        rw [updE_tru 7 e6, updE_self E 7]
        exact hc
      · intro E θ a w hall he hc
        have hf := he.h0
        have e6 := hall 6 rfl
        have e7 := hall 7 rfl
        replace hf := hf.more he 10 rfl (onP e6)
        replace hf := hf.more he 3 rfl (onT)
        replace hf := hf.more he 1 rfl (onT)
        replace hf := hf.more he 0 rfl (onT)
        try dsimp only at hc
        rw [e6, e7] at hc
        exact ⟨(θ 48).b, hf.keep ⟨rfl, rfl, rfl, rfl, trivial⟩, hc⟩
      rintro a w ⟨b_5, hf, hc⟩
      refine h11 _ _ ?_
      refine wp_seq_k fun K12 h12 => ?_
      refine wp_seq_k fun K13 h13 => ?_
      refine cReg ?_
      refine stE hf hc rfl rfl rfl (eLdN (vs := [.int .i64 r_1.claim, .int .i64 r_1.by_]) ag_165 rfl rfl (cells_box (n := 2) m0 rfl)) fun a w hf hc => ?_
      refine stE hf hc rfl rfl rfl (eLdN (vs := [.int .i64 x_1, .int .i64 x_2]) ag_165 rfl rfl (cells_box (n := 2) m2 rfl)) fun a w hf hc => ?_
      refine stE hf hc rfl rfl rfl (eC (v := .bool (share_quotient_more r_1 (⟨x_1, x_2⟩ : share_quotient))) (vs := [.agg #[.int .i64 r_1.claim, .int .i64 r_1.by_], .agg #[.int .i64 x_1, .int .i64 x_2]]) (caps := []) en_84 rfl rfl rfl rfl (fun w hc => share_quotient_more_ok r_1 (⟨x_1, x_2⟩ : share_quotient) hc rfl)) fun a w hf hc => ?_
      refine cNil ?_
      refine h13 _ _ ?_
      refine cCond (b := (share_quotient_more r_1 (⟨x_1, x_2⟩ : share_quotient))) hf rfl (fun hb => ?_) (fun hb => ?_)
      · replace hF := condT hb hF
        clear hb
        refine wp_seq_k fun K14 h14 => ?_
        refine cReg ?_
        refine stP hf rfl rfl rfl (pBuildS (cells := [.int .i64 0, .int .i64 0]) bt_71 rfl rfl) fun a hf => ?_
        refine stP hf rfl rfl rfl (pBuildS (cells := [.int .i64 0, .int .i64 0]) bt_71 rfl rfl) fun a hf => ?_
        refine stSt (vs := [.int .i64 0, .int .i64 0]) hf hc rfl rfl rfl rfl sz_71 rfl rfl u4 fun w hc => ?_
        refine stSt (vs := [.int .i64 0, .int .i64 0]) hf hc rfl rfl rfl rfl sz_71 rfl rfl u3 fun w hc => ?_
        refine stP hf rfl rfl rfl (pA rfl) fun a hf => ?_
        refine cNil ?_
        refine h14 _ _ ?_
        refine wp_ret ?_
        refine xThenR ?_
        obtain rfl := Option.some.inj hF
        replace hc := hc.drop k2
        replace hc := hc.drop k1
        replace hc := hc.drop k0
        replace hc := hc.pick k0
        replace hc := hc.pick k1
        exact fnOut3 (by simp) rfl Try.results39 hf hc (rv_cellN (vs := [.int .i64 0, .int .i64 0]) ag_71 rfl rfl (cells_box (n := 2) m0 rfl)) (rv_cellN (vs := [.int .i64 0, .int .i64 0]) ag_71 rfl rfl (cells_box (n := 2) m1 rfl)) (show look _ 8 = _ from rfl) ⟨rfl, ((hc.drop k1).drop k0)⟩
      · replace hF := condF hb hF
        clear hb
        refine wp_skip ?_
        refine h12 _ _ ?_
        refine wp_seq_k fun K15 h15 => ?_
        obtain ⟨r_2, hr_2, hF⟩ := bnd_some hF
        obtain ⟨r_3, hr_3, hF⟩ := bnd_some hF
        refine regionE (fun θ => [⟨none, none, 6, .pointer (some ⟨b_1, 0, none⟩)⟩, ⟨none, none, 7, .pointer (some ⟨b_2, 0, none⟩)⟩, ⟨none, none, 11, .pointer (some ⟨b_3, 0, none⟩)⟩, ⟨none, none, 15, .pointer (some ⟨b_5, 0, none⟩)⟩, ⟨some 0, none, 72, .agg #[.int .i64 r_1.claim, .int .i64 r_1.by_]⟩, ⟨some 1, none, 73, .agg #[.int .i64 r_2.N, .int .i64 r_2.D]⟩, ⟨some 2, none, 74, .agg #[.int .i64 x_1, .int .i64 x_2]⟩, ⟨some 3, none, 75, .agg #[.int .i64 r_3.N, .int .i64 r_3.D]⟩, ⟨some 6, none, 8, .int .i64 0⟩]) (fun E θ => .box b_5 [.int .i64 r_1.claim, .int .i64 r_1.by_] 165 :: .row (some ⟨g, 0, none⟩) c_1 (next_.map enc_share_quotient) 165 2 :: .box b_3 [.int .i64 x_1, .int .i64 x_2] 165 :: (bif E 5 then .box b_2 [.int .i64 r_3.N, .int .i64 r_3.D] 71 else .box b_2 [.int .i64 0, .int .i64 0] 71) :: (bif E 4 then .box b_1 [.int .i64 r_2.N, .int .i64 r_2.D] 71 else .box b_1 [.int .i64 0, .int .i64 0] 71) :: Lf) [] (fun a w => Has 76 a [(6, .pointer (some ⟨b_1, 0, none⟩)), (7, .pointer (some ⟨b_2, 0, none⟩)), (8, .int .i64 0)] ∧ Ctx G (.box b_5 [.int .i64 r_1.claim, .int .i64 r_1.by_] 165 :: .row (some ⟨g, 0, none⟩) c_1 (next_.map enc_share_quotient) 165 2 :: .box b_3 [.int .i64 x_1, .int .i64 x_2] 165 :: .box b_2 [.int .i64 r_3.N, .int .i64 r_3.D] 71 :: .box b_1 [.int .i64 r_2.N, .int .i64 r_2.D] 71 :: Lf) w) follows_mx (by kernel_rfl) (by kernel_rfl) (HasE.of hf ⟨rfl, rfl, rfl, rfl, trivial, trivial, trivial, trivial, trivial, trivial⟩) hc ⟨?_, ?_, ?_, ?_, ?_, ?_, ?_, trivial⟩ ?_ ?_
        · intro E θ a w hD hi hp he hc
          have hf := he.h0
          replace hf := hf.more he 3 rfl onT
          refine stE hf hc rfl rfl rfl (eLdN (vs := [.int .i64 r_1.claim, .int .i64 r_1.by_]) ag_165 rfl rfl (cells_box (n := 2) m0 rfl)) fun a w hf hc => ?_
          refine cNil ?_
          refine xThenN ?_
          intro ds u hau
          refine ⟨θ, he.put0 hi hau hf rfl 4 rfl rfl, ?_⟩
          exact hc
        · intro E θ a w hD hi hp he hc
          have e0 := hp.of (k := 0) rfl
          have hf := he.h0
          replace hf := hf.more he 4 rfl (onP e0)
          refine stE hf hc rfl rfl rfl (eC (v := .agg #[.int .i64 r_2.N, .int .i64 r_2.D]) (vs := [.agg #[.int .i64 r_1.claim, .int .i64 r_1.by_]]) (caps := []) en_91 rfl rfl rfl rfl (fun w hc => share_quotient_ratio_ok r_1 hc hr_2)) fun a w hf hc => ?_
          refine cNil ?_
          refine xThenN ?_
          intro ds u hau
          refine ⟨θ, he.put0 hi hau hf rfl 5 rfl rfl, ?_⟩
          exact hc
        · intro E θ a w hD hi hp he hc
          have hf := he.h0
          replace hf := hf.more he 2 rfl onT
          refine stE hf hc rfl rfl rfl (eLdN (vs := [.int .i64 x_1, .int .i64 x_2]) ag_165 rfl rfl (cells_box (n := 2) m2 rfl)) fun a w hf hc => ?_
          refine cNil ?_
          refine xThenN ?_
          intro ds u hau
          refine ⟨θ, he.put0 hi hau hf rfl 6 rfl rfl, ?_⟩
          exact hc
        · intro E θ a w hD hi hp he hc
          have e2 := hp.of (k := 2) rfl
          have hf := he.h0
          replace hf := hf.more he 6 rfl (onP e2)
          refine stE hf hc rfl rfl rfl (eC (v := .agg #[.int .i64 r_3.N, .int .i64 r_3.D]) (vs := [.agg #[.int .i64 x_1, .int .i64 x_2]]) (caps := []) en_91 rfl rfl rfl rfl (fun w hc => share_quotient_ratio_ok (⟨x_1, x_2⟩ : share_quotient) hc hr_3)) fun a w hf hc => ?_
          refine cNil ?_
          refine xThenN ?_
          intro ds u hau
          refine ⟨θ, he.put0 hi hau hf rfl 7 rfl rfl, ?_⟩
          exact hc
        · intro E θ a w hD hi hp he hc
          have e1 := hp.of (k := 1) rfl
          try dsimp only at hc
          rw [hi] at hc
          have hf := he.h0
          replace hf := hf.more he 0 rfl onT
          replace hf := hf.more he 5 rfl (onP e1)
          refine stSt (vs := [.int .i64 r_2.N, .int .i64 r_2.D]) hf hc rfl rfl rfl rfl sz_71 rfl rfl u4 fun w hc => ?_
          refine cNil ?_
          refine xThenN ?_
          intro ds u hau
          refine ⟨θ, he.stay0 hi hau hf rfl, ?_⟩
          try dsimp only
          rw [updE_self E 4]
          exact hc
        · intro E θ a w hD hi hp he hc
          have e3 := hp.of (k := 3) rfl
          try dsimp only at hc
          rw [hi] at hc
          have hf := he.h0
          replace hf := hf.more he 1 rfl onT
          replace hf := hf.more he 7 rfl (onP e3)
          refine stSt (vs := [.int .i64 r_3.N, .int .i64 r_3.D]) hf hc rfl rfl rfl rfl sz_71 rfl rfl u3 fun w hc => ?_
          refine cNil ?_
          refine xThenN ?_
          intro ds u hau
          refine ⟨θ, he.stay0 hi hau hf rfl, ?_⟩
          try dsimp only
          rw [updE_self E 5]
          exact hc
        · intro E θ a w hD hi hp he hc
          have hf := he.h0
          refine stP hf rfl rfl rfl (pA rfl) fun a hf => ?_
          refine cNil ?_
          refine xThenN ?_
          intro ds u hau
          refine ⟨θ, he.put0 hi hau hf rfl 8 rfl rfl, ?_⟩
          exact hc
        · intro E θ a w hall he hc
          have hf := he.h0
          have e4 := hall 4 rfl
          have e5 := hall 5 rfl
          have e6 := hall 6 rfl
          replace hf := hf.more he 8 rfl (onP e6)
          replace hf := hf.more he 1 rfl (onT)
          replace hf := hf.more he 0 rfl (onT)
          try dsimp only at hc
          rw [e4, e5] at hc
          exact ⟨hf.keep ⟨rfl, rfl, rfl, trivial⟩, hc⟩
        rintro a w ⟨hf, hc⟩
        refine h15 _ _ ?_
        refine wp_ret ?_
        obtain rfl := Option.some.inj hF
        replace hc := hc.drop k2
        replace hc := hc.drop k1
        replace hc := hc.drop k0
        replace hc := hc.pick k0
        replace hc := hc.pick k1
        exact fnOut3 (by simp) rfl Try.results39 hf hc (rv_cellN (vs := [.int .i64 r_2.N, .int .i64 r_2.D]) ag_71 rfl rfl (cells_box (n := 2) m0 rfl)) (rv_cellN (vs := [.int .i64 r_3.N, .int .i64 r_3.D]) ag_71 rfl rfl (cells_box (n := 2) m1 rfl)) (show look _ 8 = _ from rfl) ⟨rfl, ((hc.drop k1).drop k0)⟩
    have ho10 : ∀ r, x10 = .out r → r = res := by
      rintro r rfl
      exact Option.some.inj hF
    replace hc := hc.nilRow 165 2
    refine cLoop N (loopW (S := S10) (x := x10) ?_ N (([] : List share_quotient), 0, 2000000, 1) _ _ ⟨none, 0, hf.keep ⟨rfl, rfl, rfl, rfl, rfl, rfl, rfl, rfl, rfl, trivial⟩, hc⟩ hx10)
    clear hF hf hc
    rintro ⟨next_, x, x_1, x_2⟩ st10 a w KB10 ⟨p_1, c_1, hf, hc⟩ hF hfin10 hK10
    unfold share_Divisors_b10 at hF
    refine wp_seq_k fun K16 h16 => ?_
    refine cReg ?_
    refine stP hf rfl rfl rfl (pLt rfl rfl) fun a hf => ?_
    refine cNil ?_
    refine h16 _ _ ?_
    refine wp_seq_k fun K17 h17 => ?_
    refine cCond (b := (decide (x < ((shares.length : Nat) : Int)))) hf rfl (fun hb => ?_) (fun hb => ?_)
    · replace hF := condT hb hF
      clear hb
      refine wp_skip ?_
      refine h17 _ _ ?_
      refine wp_seq_k fun K18 h18 => ?_
      have hj18 : ∀ (next__1 : List share_quotient) (x_3 : Int) (x_4 : Int) (p_2 : Option Addr) (c_2 : Nat) a w, Has 76 a [(0, .slice claims_p claims.length claims_c), (2, .int .i64 rule), (6, .pointer (some ⟨b_1, 0, none⟩)), (7, .pointer (some ⟨b_2, 0, none⟩)), (10, .slice p_2 next__1.length c_2), (11, .pointer (some ⟨b_3, 0, none⟩)), (26, .slice shares_p shares.length shares_c), (27, .int .i64 ((shares.length : Nat) : Int)), (28, .int .i64 x)] → Ctx G (.row p_2 c_2 (next__1.map enc_share_quotient) 165 2 :: .box b_3 [.int .i64 x_3, .int .i64 x_4] 165 :: .box b_2 [.int .i64 0, .int .i64 0] 71 :: .box b_1 [.int .i64 0, .int .i64 0] 71 :: Lf) w → share_Divisors_j18 N x next__1 x_3 x_4 = some st10 → K18 a w := by
        intro next__1 x_3 x_4 p_2 c_2 a w hf hc hF
        unfold share_Divisors_j18 at hF
        refine h18 _ _ ?_
        refine cReg ?_
        refine stP hf rfl rfl rfl (pAdd rfl rfl) fun a hf => ?_
        refine stP hf rfl rfl rfl (pM rfl) fun a hf => ?_
        refine cNil ?_
        exact hK10 (next__1, W (x + 1), x_3, x_4) _ _ (Option.some.inj hF).symm ⟨p_2, c_2, hf.keep ⟨rfl, rfl, rfl, rfl, rfl, rfl, rfl, rfl, rfl, trivial⟩, hc⟩
      refine wp_block ?_
      refine wp_seq_k fun K19 h19 => ?_
      refine cReg ?_
      refine stP hf rfl rfl rfl (pM rfl) fun a hf => ?_
      obtain ⟨e_2, he_2, hF⟩ := bnd_some hF
      obtain ⟨b_6, o, qa_1, qp⟩ := h_shares.atm he_2
      refine stP hf rfl rfl rfl (pIA Try.underlying36 sz_3 rfl rfl qa_1) fun a hf => ?_
      refine stE hf hc rfl rfl rfl (eLd1 sc_3 rfl (cell_pc (j := 0) qp rfl)) fun a w hf hc => ?_
      refine stP hf rfl rfl rfl (pA rfl) fun a hf => ?_
      refine stP hf rfl rfl rfl (pA rfl) fun a hf => ?_
      refine cNil ?_
      refine h19 _ _ ?_
      refine wp_seq_k fun K20 h20 => ?_
      refine cReg ?_
      refine stP hf rfl rfl rfl (pM rfl) fun a hf => ?_
      refine stP hf rfl rfl rfl (pM rfl) fun a hf => ?_
      refine stP hf rfl rfl rfl (pM rfl) fun a hf => ?_
      refine stP hf rfl rfl rfl (pM rfl) fun a hf => ?_
      obtain ⟨e_3, he_3, hF⟩ := bnd_some hF
      obtain ⟨b_7, o_1, qa_2, qp_1⟩ := h_claims.atm he_3
      refine stP hf rfl rfl rfl (pIA Try.underlying36 sz_3 rfl rfl qa_2) fun a hf => ?_
      refine stE hf hc rfl rfl rfl (eLd1 sc_3 rfl (cell_pc (j := 0) qp_1 rfl)) fun a w hf hc => ?_
      refine stP hf rfl rfl rfl (pM rfl) fun a hf => ?_
      refine stP hf rfl rfl rfl (pAdd rfl rfl) fun a hf => ?_
      obtain ⟨r_4, hr_4, hF⟩ := bnd_some hF
      refine stE hf hc rfl rfl rfl (eC (v := .agg #[.int .i64 r_4.claim, .int .i64 r_4.by_]) (vs := [.int .i64 rule, .int .i64 e_3, .int .i64 (W (e_2 + 1))]) (caps := []) en_83 rfl rfl rfl rfl (fun w hc => share_Rule_day_ok rule e_3 (W (e_2 + 1)) hc hr_4)) fun a w hf hc => ?_
      refine stBS (rows := ([r_4] : List share_quotient).map enc_share_quotient) (vs := [(0, .agg #[.int .i64 r_4.claim, .int .i64 r_4.by_])]) hf hc rfl rfl sl_171 rfl ⟨rfl, rfl, rfl, trivial⟩ rfl rfl fun b_8 a w hf hc => ?_
      obtain ⟨un, hun, hF⟩ := bnd_some hF
      refine stApm (xs := next_) (ys := ([r_4] : List share_quotient)) hf hc rfl rfl sl_171 rfl rfl rfl rfl rfl one_enc_share_quotient (src_row hc m0) (fun _ _ => u1) (by simpa using room_spec hun) fun p_3 c_3 a w hf hc => ?_
      refine stP hf rfl rfl rfl (pA rfl) fun a hf => ?_
      refine cNil ?_
      refine h20 _ _ ?_
      refine wp_seq_k fun K21 h21 => ?_
      refine cReg ?_
      refine stP hf rfl rfl rfl (pM rfl) fun a hf => ?_
      refine stP hf rfl rfl rfl (pM rfl) fun a hf => ?_
      refine stP hf rfl rfl rfl (pM rfl) fun a hf => ?_
      obtain ⟨e_4, he_4, hF⟩ := bnd_some hF
      obtain ⟨b_9, o_2, qa_3, qp_2⟩ := h_claims.atm he_4
      refine stP hf rfl rfl rfl (pIA Try.underlying36 sz_3 rfl rfl qa_3) fun a hf => ?_
      refine stE hf hc rfl rfl rfl (eLd1 sc_3 rfl (cell_pc (j := 0) qp_2 rfl)) fun a w hf hc => ?_
      refine stP hf rfl rfl rfl (pM rfl) fun a hf => ?_
      obtain ⟨r_5, hr_5, hF⟩ := bnd_some hF
      refine stE hf hc rfl rfl rfl (eC (v := .agg #[.int .i64 r_5.claim, .int .i64 r_5.by_]) (vs := [.int .i64 rule, .int .i64 e_4, .int .i64 e_2]) (caps := []) en_83 rfl rfl rfl rfl (fun w hc => share_Rule_day_ok rule e_4 e_2 hc hr_5)) fun a w hf hc => ?_
      refine stAl (cs := [.int .i64 0, .int .i64 0]) hf hc rfl rfl zr_165 rfl fun b_10 a w hf hc => ?_
      refine stSt (vs := [.int .i64 r_5.claim, .int .i64 r_5.by_]) hf hc rfl rfl rfl rfl sz_165 rfl rfl u0 fun w hc => ?_
      refine cNil ?_
      refine h21 _ _ ?_
      refine wp_seq_k fun K22 h22 => ?_
      refine cReg ?_
      refine stP hf rfl rfl rfl (pFA fa_165_1 rfl) fun a hf => ?_
      refine stE hf hc rfl rfl rfl (eLd1 sc_3 rfl (cell_box m0 rfl)) fun a w hf hc => ?_
      refine stP hf rfl rfl rfl (pGt rfl rfl) fun a hf => ?_
      refine stP hf rfl rfl rfl (pM rfl) fun a hf => ?_
      refine stCut 4 (fun a w => Has 76 a [(0, .slice claims_p claims.length claims_c), (2, .int .i64 rule), (6, .pointer (some ⟨b_1, 0, none⟩)), (7, .pointer (some ⟨b_2, 0, none⟩)), (10, .slice p_3 ((next_ ++ [r_4]).length) c_3), (11, .pointer (some ⟨b_3, 0, none⟩)), (26, .slice shares_p shares.length shares_c), (27, .int .i64 ((shares.length : Nat) : Int)), (28, .int .i64 x), (14, .pointer (some ⟨b_10, 0, none⟩)), (51, .pointer (some ⟨b_10, 1, none⟩)), (52, .int .i64 r_5.by_), (53, .bool (decide (0 < r_5.by_))), (54, .bool (decide (0 < r_5.by_))), (58, .bool ((decide (0 < r_5.by_)) && (share_quotient_more (⟨x_1, x_2⟩ : share_quotient) r_5)))] ∧ Ctx G (.box b_10 [.int .i64 r_5.claim, .int .i64 r_5.by_] 165 :: .row (some ⟨b_8, 0, none⟩) 1 (([r_4] : List share_quotient).map enc_share_quotient) 165 2 :: .row p_3 c_3 ((next_ ++ [r_4]).map enc_share_quotient) 165 2 :: .box b_3 [.int .i64 x_1, .int .i64 x_2] 165 :: .box b_2 [.int .i64 0, .int .i64 0] 71 :: .box b_1 [.int .i64 0, .int .i64 0] 71 :: Lf) w) ?_ ?_
      · cases hb : (decide (0 < r_5.by_))
        · rw [hb] at hf
          refine stS hf rfl rfl rfl fun a hf => ?_
          refine stS hf rfl rfl rfl fun a hf => ?_
          refine stS hf rfl rfl rfl fun a hf => ?_
          refine stP hf rfl rfl rfl (pPf rfl rfl) fun a hf => ?_
          exact cNil ⟨hf.keep ⟨rfl, rfl, rfl, rfl, rfl, rfl, rfl, rfl, rfl, rfl, rfl, rfl, rfl, rfl, rfl, trivial⟩, hc⟩
        · rw [hb] at hf
          refine stE hf hc rfl rfl rfl (eLdN (vs := [.int .i64 x_1, .int .i64 x_2]) ag_165 rfl rfl (cells_box (n := 2) m3 rfl)) fun a w hf hc => ?_
          refine stE hf hc rfl rfl rfl (eLdN (vs := [.int .i64 r_5.claim, .int .i64 r_5.by_]) ag_165 rfl rfl (cells_box (n := 2) m0 rfl)) fun a w hf hc => ?_
          refine stE hf hc rfl rfl rfl (eC (v := .bool (share_quotient_more (⟨x_1, x_2⟩ : share_quotient) r_5)) (vs := [.agg #[.int .i64 x_1, .int .i64 x_2], .agg #[.int .i64 r_5.claim, .int .i64 r_5.by_]]) (caps := []) en_84 rfl rfl rfl rfl (fun w hc => share_quotient_more_ok (⟨x_1, x_2⟩ : share_quotient) r_5 hc rfl)) fun a w hf hc => ?_
          refine stP hf rfl rfl rfl (pPt rfl rfl) fun a hf => ?_
          exact cNil ⟨hf.keep ⟨rfl, rfl, rfl, rfl, rfl, rfl, rfl, rfl, rfl, rfl, rfl, rfl, rfl, rfl, rfl, trivial⟩, hc⟩
      intro a w ⟨hf, hc⟩
      refine cNil ?_
      refine h22 _ _ ?_
      refine cCond (b := ((decide (0 < r_5.by_)) && (share_quotient_more (⟨x_1, x_2⟩ : share_quotient) r_5))) hf rfl (fun hb => ?_) (fun hb => ?_)
      · replace hF := condT hb hF
        clear hb
        refine cReg ?_
        refine stE hf hc rfl rfl rfl (eLdN (vs := [.int .i64 r_5.claim, .int .i64 r_5.by_]) ag_165 rfl rfl (cells_box (n := 2) m0 rfl)) fun a w hf hc => ?_
        refine stSt (vs := [.int .i64 r_5.claim, .int .i64 r_5.by_]) hf hc rfl rfl rfl rfl sz_165 rfl rfl u3 fun w hc => ?_
        refine cNil ?_
        replace hc := hc.drop k1
        replace hc := hc.drop k0
        exact hj18 (next_ ++ [r_4]) r_5.claim r_5.by_ p_3 c_3 _ _  (hf.keep ⟨rfl, rfl, rfl, rfl, rfl, rfl, rfl, rfl, rfl, trivial⟩) hc hF
      · replace hF := condF hb hF
        clear hb
        refine wp_skip ?_
        replace hc := hc.drop k1
        replace hc := hc.drop k0
        exact hj18 (next_ ++ [r_4]) x_1 x_2 p_3 c_3 _ _  (hf.keep ⟨rfl, rfl, rfl, rfl, rfl, rfl, rfl, rfl, rfl, trivial⟩) hc hF
    · replace hF := condF hb hF
      clear hb
      refine wp_exit ?_
      refine xThen ?_
      refine xThen ?_
      have he := Option.some.inj hF
      rw [← he] at hfin10
      refine cHit ?_
      exact hr10 _ _ _ hfin10 ⟨p_1, c_1, hf.keep ⟨rfl, rfl, rfl, rfl, rfl, rfl, rfl, rfl, rfl, trivial⟩, hc⟩

def share_Unfair_b18 (N : Nat) (claims : List Int) (shares : List Int) (rule : Int) (x : Int) (e_2 : Int) (x_1 : Int) : Option (Step (Int) (Step (Int × Int × Int × Int) (Int × Int × Int))) :=
  cond (decide (x_1 < ((shares.length : Nat) : Int)))
  (Option.bind (getI shares x_1) fun e_3 =>
  Option.bind (cond ((decide (0 < e_2)) && (x_1 != x)) (Option.bind (getI claims x_1) fun e_4 =>
  Option.bind (share_Rule_day N rule e_4 (W (e_3 + 1))) fun r_1 =>
  Option.bind (getI claims x) fun e_5 =>
  Option.bind (share_Rule_day N rule e_5 e_2) fun r_2 =>
  some (share_quotient_more r_1 r_2)) (some false)) fun t_1 =>
  cond t_1
  (some (.ret (.brk (x, x_1, 0, x))))
  (some (.cont (W (x_1 + 1)))))
  (some (.brk x_1))
def share_Unfair_b10 (N : Nat) (claims : List Int) (shares : List Int) (rule : Int) (a_1 : Int) (b_1 : Int) (e_1 : Int) (x : Int) : Option (Step (Int × Int × Int × Int) (Int × Int × Int)) :=
  cond (decide (x < ((shares.length : Nat) : Int)))
  (Option.bind (getI shares x) fun e_2 =>
  Option.bind (loopO (fun s18 => share_Unfair_b18 N claims shares rule x e_2 s18) N 0) fun x18 =>
  exK x18 (fun s18 => some (.cont (a_1, b_1, e_1, W (x + 1)))) some)
  (some (.brk (a_1, b_1, e_1, x)))
def share_Unfair (N : Nat) (claims : List Int) (shares : List Int) (rule : Int) : Option (Int × Int × Int) :=
  Option.bind (share_shared N claims shares rule) fun r =>
  cond (r != 0)
  (some (0, 0, r))
  (Option.bind (loopO (fun s10 => share_Unfair_b10 N claims shares rule s10.1 s10.2.1 s10.2.2.1 s10.2.2.2) N (0, 0, 5, 0)) fun x10 =>
  exK x10 (fun s10 => some (s10.1, s10.2.1, s10.2.2.1)) some)
theorem share_Unfair_ok {N : Nat} {G : Pers} {Lf : List Ent} {w : World} (claims : List Int) (shares : List Int) (rule : Int) {claims_p : Option Addr} {claims_c : Nat} {shares_p : Option Addr} {shares_c : Nat} (h_claims : Rd G 1 claims_p claims_c (claims.map encI_i64)) (h_shares : Rd G 1 shares_p shares_c (shares.map encI_i64)) (hc : Ctx G (Lf) w) {res : Int × Int × Int} (hF : share_Unfair N claims shares rule = some res) : Calls Try.prog 37 #[.slice claims_p claims.length claims_c, .slice shares_p shares.length shares_c, .int .i64 rule] w (fun e w => e = .returned (.tuple #[.int .i64 res.1, .int .i64 res.2.1, .int .i64 res.2.2]) ∧ Ctx G (Lf) w) := by
  unfold share_Unfair at hF
  refine fnIn (args := [.slice claims_p claims.length claims_c, .slice shares_p shares.length shares_c, .int .i64 rule]) Try.func37 rfl Try.ntmps37 rfl fun a hf => ?_
  refine wp_seq_k fun K1 h1 => ?_
  refine cReg ?_
  refine stP hf rfl rfl rfl (pA rfl) fun a hf => ?_
  refine stP hf rfl rfl rfl (pA rfl) fun a hf => ?_
  refine stP hf rfl rfl rfl (pA rfl) fun a hf => ?_
  refine cNil ?_
  refine h1 _ _ ?_
  refine wp_scope_straight ?_
  refine wp_seq_k fun K2 h2 => ?_
  refine wp_seq_k fun K3 h3 => ?_
  refine cReg ?_
  refine stP hf rfl rfl rfl (pM rfl) fun a hf => ?_
  refine stP hf rfl rfl rfl (pM rfl) fun a hf => ?_
  refine stP hf rfl rfl rfl (pM rfl) fun a hf => ?_
  obtain ⟨r, hr, hF⟩ := bnd_some hF
  refine stE hf hc rfl rfl rfl (eC (v := .int .i64 r) (vs := [.slice claims_p claims.length claims_c, .slice shares_p shares.length shares_c, .int .i64 rule]) (caps := []) en_88 rfl rfl rfl rfl (fun w hc => share_shared_ok claims shares rule h_claims h_shares hc hr)) fun a w hf hc => ?_
  refine stP hf rfl rfl rfl (pA rfl) fun a hf => ?_
  refine cNil ?_
  refine h3 _ _ ?_
  refine wp_seq_k fun K4 h4 => ?_
  refine cReg ?_
  refine stP hf rfl rfl rfl (pM rfl) fun a hf => ?_
  refine stP hf rfl rfl rfl (pNe rfl rfl) fun a hf => ?_
  refine cNil ?_
  refine h4 _ _ ?_
  refine cCond (b := (r != 0)) hf rfl (fun hb => ?_) (fun hb => ?_)
  · replace hF := condT hb hF
    clear hb
    refine wp_seq_k fun K5 h5 => ?_
    refine cReg ?_
    refine stP hf rfl rfl rfl (pM rfl) fun a hf => ?_
    refine stP hf rfl rfl rfl (pA rfl) fun a hf => ?_
    refine stP hf rfl rfl rfl (pA rfl) fun a hf => ?_
    refine stP hf rfl rfl rfl (pA rfl) fun a hf => ?_
    refine cNil ?_
    refine h5 _ _ ?_
    refine wp_ret ?_
    refine xThenR ?_
    refine xScopeR ?_
    obtain rfl := Option.some.inj hF
    exact fnOut3 (by simp) rfl Try.results37 hf hc (show look _ 6 = _ from rfl) (show look _ 7 = _ from rfl) (show look _ 8 = _ from rfl) ⟨rfl, hc⟩
  · replace hF := condF hb hF
    clear hb
    refine wp_skip ?_
    refine h2 _ _ ?_
    refine wp_seq_k fun K6 h6 => ?_
    refine cReg ?_
    refine stP hf rfl rfl rfl (pA rfl) fun a hf => ?_
    refine stP hf rfl rfl rfl (pA rfl) fun a hf => ?_
    refine stP hf rfl rfl rfl (pA rfl) fun a hf => ?_
    refine cNil ?_
    refine h6 _ _ ?_
    refine wp_seq_k fun K7 h7 => ?_
    refine wp_label ?_
    refine h7 _ _ ?_
    refine wp_seq_k fun K8 h8 => ?_
    refine wp_seq_k fun K9 h9 => ?_
    refine cReg ?_
    refine stP hf rfl rfl rfl (pM rfl) fun a hf => ?_
    refine stP hf rfl rfl rfl (pLenS Try.underlying36 rfl) fun a hf => ?_
    refine stP hf rfl rfl rfl (pM rfl) fun a hf => ?_
    refine cNil ?_
    refine h9 _ _ ?_
    refine wp_block ?_
    obtain ⟨x10, hx10, hF⟩ := bnd_some hF
    let S10 : (Int × Int × Int × Int) → Act → World → Prop := (fun (zz : Int × Int × Int × Int) a w => Has 70 a [(0, .slice claims_p claims.length claims_c), (1, .slice shares_p shares.length shares_c), (2, .int .i64 rule), (10, .int .i64 zz.1), (11, .int .i64 zz.2.1), (12, .int .i64 zz.2.2.1), (24, .slice shares_p shares.length shares_c), (25, .int .i64 ((shares.length : Nat) : Int)), (26, .int .i64 zz.2.2.2)] ∧ Ctx G (Lf) w)
    have hr10 : ∀ (zz : Int × Int × Int × Int) a w, x10 = .go zz → S10 zz a w → K8 a w := by
      rintro ⟨a_1, b_1, e_1, x⟩ a w rfl ⟨hf, hc⟩
      replace hF : _ = some res := hF
      refine h8 _ _ ?_
      refine wp_seq_k fun K11 h11 => ?_
      refine cReg ?_
      refine stP hf rfl rfl rfl (pM rfl) fun a hf => ?_
      refine stP hf rfl rfl rfl (pM rfl) fun a hf => ?_
      refine stP hf rfl rfl rfl (pM rfl) fun a hf => ?_
      refine stP hf rfl rfl rfl (pA rfl) fun a hf => ?_
      refine stP hf rfl rfl rfl (pA rfl) fun a hf => ?_
      refine stP hf rfl rfl rfl (pA rfl) fun a hf => ?_
      refine cNil ?_
      refine h11 _ _ ?_
      refine wp_ret ?_
      refine xScopeR ?_
      obtain rfl := Option.some.inj hF
      exact fnOut3 (by simp) rfl Try.results37 hf hc (show look _ 6 = _ from rfl) (show look _ 7 = _ from rfl) (show look _ 8 = _ from rfl) ⟨rfl, hc⟩
    have ho10 : ∀ r, x10 = .out r → r = res := by
      rintro r rfl
      exact Option.some.inj hF
    refine cLoop N (loopW (S := S10) (x := x10) ?_ N (0, 0, 5, 0) _ _ ⟨hf.keep ⟨rfl, rfl, rfl, rfl, rfl, rfl, rfl, rfl, rfl, trivial⟩, hc⟩ hx10)
    clear hF hf hc
    rintro ⟨a_1, b_1, e_1, x⟩ st10 a w KB10 ⟨hf, hc⟩ hF hfin10 hK10
    unfold share_Unfair_b10 at hF
    refine wp_seq_k fun K12 h12 => ?_
    refine cReg ?_
    refine stP hf rfl rfl rfl (pLt rfl rfl) fun a hf => ?_
    refine cNil ?_
    refine h12 _ _ ?_
    refine wp_seq_k fun K13 h13 => ?_
    refine cCond (b := (decide (x < ((shares.length : Nat) : Int)))) hf rfl (fun hb => ?_) (fun hb => ?_)
    · replace hF := condT hb hF
      clear hb
      refine wp_skip ?_
      refine h13 _ _ ?_
      refine wp_seq_k fun K14 h14 => ?_
      refine wp_block ?_
      refine wp_seq_k fun K15 h15 => ?_
      refine cReg ?_
      refine stP hf rfl rfl rfl (pM rfl) fun a hf => ?_
      obtain ⟨e_2, he_2, hF⟩ := bnd_some hF
      obtain ⟨b_2, o, qa, qp⟩ := h_shares.atm he_2
      refine stP hf rfl rfl rfl (pIA Try.underlying36 sz_3 rfl rfl qa) fun a hf => ?_
      refine stE hf hc rfl rfl rfl (eLd1 sc_3 rfl (cell_pc (j := 0) qp rfl)) fun a w hf hc => ?_
      refine stP hf rfl rfl rfl (pA rfl) fun a hf => ?_
      refine stP hf rfl rfl rfl (pA rfl) fun a hf => ?_
      refine cNil ?_
      refine h15 _ _ ?_
      refine wp_seq_k fun K16 h16 => ?_
      refine cReg ?_
      refine stP hf rfl rfl rfl (pM rfl) fun a hf => ?_
      refine stP hf rfl rfl rfl (pLenS Try.underlying36 rfl) fun a hf => ?_
      refine stP hf rfl rfl rfl (pM rfl) fun a hf => ?_
      refine cNil ?_
      refine h16 _ _ ?_
      refine wp_thenK fun K17 h17 => ?_
      refine wp_block ?_
      obtain ⟨x18, hx18, hF⟩ := bnd_some hF
      let S18 : Int → Act → World → Prop := (fun (zz : Int) a w => Has 70 a [(0, .slice claims_p claims.length claims_c), (1, .slice shares_p shares.length shares_c), (2, .int .i64 rule), (10, .int .i64 a_1), (11, .int .i64 b_1), (12, .int .i64 e_1), (13, .int .i64 x), (14, .int .i64 e_2), (24, .slice shares_p shares.length shares_c), (25, .int .i64 ((shares.length : Nat) : Int)), (26, .int .i64 x), (31, .slice shares_p shares.length shares_c), (32, .int .i64 ((shares.length : Nat) : Int)), (33, .int .i64 zz)] ∧ Ctx G (Lf) w)
      have hr18 : ∀ (zz : Int) a w, x18 = .go zz → S18 zz a w → K17 a w := by
        rintro x_1 a w rfl ⟨hf, hc⟩
        replace hF : _ = some st10 := hF
        refine h17 _ _ ?_
        refine h14 _ _ ?_
        refine cReg ?_
        refine stP hf rfl rfl rfl (pAdd rfl rfl) fun a hf => ?_
        refine stP hf rfl rfl rfl (pM rfl) fun a hf => ?_
        refine cNil ?_
        exact hK10 (a_1, b_1, e_1, W (x + 1)) _ _ (Option.some.inj hF).symm ⟨hf.keep ⟨rfl, rfl, rfl, rfl, rfl, rfl, rfl, rfl, rfl, trivial⟩, hc⟩
      have ho18 : ∀ r, x18 = .out r → r = st10 := by
        rintro r rfl
        exact Option.some.inj hF
      refine cLoop N (loopW (S := S18) (x := x18) ?_ N 0 _ _ ⟨hf.keep ⟨rfl, rfl, rfl, rfl, rfl, rfl, rfl, rfl, rfl, rfl, rfl, rfl, rfl, rfl, trivial⟩, hc⟩ hx18)
      clear hF hf hc
      rintro x_1 st18 a w KB18 ⟨hf, hc⟩ hF hfin18 hK18
      unfold share_Unfair_b18 at hF
      refine wp_seq_k fun K19 h19 => ?_
      refine cReg ?_
      refine stP hf rfl rfl rfl (pLt rfl rfl) fun a hf => ?_
      refine cNil ?_
      refine h19 _ _ ?_
      refine wp_seq_k fun K20 h20 => ?_
      refine cCond (b := (decide (x_1 < ((shares.length : Nat) : Int)))) hf rfl (fun hb => ?_) (fun hb => ?_)
      · replace hF := condT hb hF
        clear hb
        refine wp_skip ?_
        refine h20 _ _ ?_
        refine wp_seq_k fun K21 h21 => ?_
        refine wp_block ?_
        refine wp_seq_k fun K22 h22 => ?_
        refine cReg ?_
        refine stP hf rfl rfl rfl (pM rfl) fun a hf => ?_
        obtain ⟨e_3, he_3, hF⟩ := bnd_some hF
        obtain ⟨b_3, o_1, qa_1, qp_1⟩ := h_shares.atm he_3
        refine stP hf rfl rfl rfl (pIA Try.underlying36 sz_3 rfl rfl qa_1) fun a hf => ?_
        refine stE hf hc rfl rfl rfl (eLd1 sc_3 rfl (cell_pc (j := 0) qp_1 rfl)) fun a w hf hc => ?_
        refine stP hf rfl rfl rfl (pA rfl) fun a hf => ?_
        refine stP hf rfl rfl rfl (pA rfl) fun a hf => ?_
        refine cNil ?_
        refine h22 _ _ ?_
        refine wp_seq_k fun K23 h23 => ?_
        obtain ⟨t_1, ht_1, hF⟩ := bnd_some hF
        refine cQ hc follows_mx (by kernel_rfl) ?_
        refine qE hf rfl rfl rfl (Pu.ev (pM rfl)) fun a hf => ?_
        refine qE hf rfl rfl rfl (Pu.ev (pGt rfl rfl)) fun a hf => ?_
        refine qE hf rfl rfl rfl (Pu.ev (pM rfl)) fun a hf => ?_
        refine qCut 4 (fun a => Has 70 a [(0, .slice claims_p claims.length claims_c), (1, .slice shares_p shares.length shares_c), (2, .int .i64 rule), (10, .int .i64 a_1), (11, .int .i64 b_1), (12, .int .i64 e_1), (13, .int .i64 x), (14, .int .i64 e_2), (24, .slice shares_p shares.length shares_c), (25, .int .i64 ((shares.length : Nat) : Int)), (26, .int .i64 x), (31, .slice shares_p shares.length shares_c), (32, .int .i64 ((shares.length : Nat) : Int)), (33, .int .i64 x_1), (15, .int .i64 x_1), (16, .int .i64 e_3), (38, .int .i64 e_2), (39, .bool (decide (0 < e_2))), (40, .bool (decide (0 < e_2))), (44, .bool ((decide (0 < e_2)) && (x_1 != x)))]) ?_ ?_
        · cases hb : (decide (0 < e_2))
          · rw [hb] at hf
            refine qS hf rfl rfl rfl fun a hf => ?_
            refine qS hf rfl rfl rfl fun a hf => ?_
            refine qS hf rfl rfl rfl fun a hf => ?_
            refine qE hf rfl rfl rfl (Pu.ev (pPf rfl rfl)) fun a hf => ?_
            exact qNil (hf.keep ⟨rfl, rfl, rfl, rfl, rfl, rfl, rfl, rfl, rfl, rfl, rfl, rfl, rfl, rfl, rfl, rfl, rfl, rfl, rfl, rfl, trivial⟩)
          · rw [hb] at hf
            refine qE hf rfl rfl rfl (Pu.ev (pM rfl)) fun a hf => ?_
            refine qE hf rfl rfl rfl (Pu.ev (pM rfl)) fun a hf => ?_
            refine qE hf rfl rfl rfl (Pu.ev (pNe rfl rfl)) fun a hf => ?_
            refine qE hf rfl rfl rfl (Pu.ev (pPt rfl rfl)) fun a hf => ?_
            exact qNil (hf.keep ⟨rfl, rfl, rfl, rfl, rfl, rfl, rfl, rfl, rfl, rfl, rfl, rfl, rfl, rfl, rfl, rfl, rfl, rfl, rfl, rfl, trivial⟩)
        intro a hf
        refine qE hf rfl rfl rfl (Pu.ev (pM rfl)) fun a hf => ?_
        refine qCut 17 (fun a => Has 70 a [(0, .slice claims_p claims.length claims_c), (1, .slice shares_p shares.length shares_c), (2, .int .i64 rule), (10, .int .i64 a_1), (11, .int .i64 b_1), (12, .int .i64 e_1), (13, .int .i64 x), (14, .int .i64 e_2), (24, .slice shares_p shares.length shares_c), (25, .int .i64 ((shares.length : Nat) : Int)), (26, .int .i64 x), (31, .slice shares_p shares.length shares_c), (32, .int .i64 ((shares.length : Nat) : Int)), (33, .int .i64 x_1), (15, .int .i64 x_1), (16, .int .i64 e_3), (38, .int .i64 e_2), (39, .bool (decide (0 < e_2))), (40, .bool (decide (0 < e_2))), (44, .bool ((decide (0 < e_2)) && (x_1 != x))), (45, .bool ((decide (0 < e_2)) && (x_1 != x))), (62, .bool t_1)]) ?_ ?_
        · cases hb : ((decide (0 < e_2)) && (x_1 != x))
          · rw [hb] at hf
            have hF := condF hb ht_1
            obtain rfl := Option.some.inj hF
            refine qS hf rfl rfl rfl fun a hf => ?_
            refine qS hf rfl rfl rfl fun a hf => ?_
            refine qS hf rfl rfl rfl fun a hf => ?_
            refine qS hf rfl rfl rfl fun a hf => ?_
            refine qS hf rfl rfl rfl fun a hf => ?_
            refine qS hf rfl rfl rfl fun a hf => ?_
            refine qS hf rfl rfl rfl fun a hf => ?_
            refine qS hf rfl rfl rfl fun a hf => ?_
            refine qS hf rfl rfl rfl fun a hf => ?_
            refine qS hf rfl rfl rfl fun a hf => ?_
            refine qS hf rfl rfl rfl fun a hf => ?_
            refine qS hf rfl rfl rfl fun a hf => ?_
            refine qS hf rfl rfl rfl fun a hf => ?_
            refine qS hf rfl rfl rfl fun a hf => ?_
            refine qS hf rfl rfl rfl fun a hf => ?_
            refine qS hf rfl rfl rfl fun a hf => ?_
            refine qE hf rfl rfl rfl (Pu.ev (pPf rfl rfl)) fun a hf => ?_
            exact qNil (hf.keep ⟨rfl, rfl, rfl, rfl, rfl, rfl, rfl, rfl, rfl, rfl, rfl, rfl, rfl, rfl, rfl, rfl, rfl, rfl, rfl, rfl, rfl, rfl, trivial⟩)
          · rw [hb] at hf
            have hF := condT hb ht_1
            obtain ⟨e_4, he_4, hF⟩ := bnd_some hF
            obtain ⟨b_4, o_2, qa_2, qp_2⟩ := h_claims.atm he_4
            obtain ⟨r_1, hr_1, hF⟩ := bnd_some hF
            obtain ⟨e_5, he_5, hF⟩ := bnd_some hF
            obtain ⟨b_5, o_3, qa_3, qp_3⟩ := h_claims.atm he_5
            obtain ⟨r_2, hr_2, hF⟩ := bnd_some hF
            refine qE hf rfl rfl rfl (Pu.ev (pM rfl)) fun a hf => ?_
            refine qE hf rfl rfl rfl (Pu.ev (pM rfl)) fun a hf => ?_
            refine qE hf rfl rfl rfl (Pu.ev (pM rfl)) fun a hf => ?_
            refine qE hf rfl rfl rfl (Pu.ev (pIA Try.underlying36 sz_3 rfl rfl qa_2)) fun a hf => ?_
            refine qE hf rfl rfl rfl (eLd1 sc_3 rfl (cell_pc (j := 0) qp_2 rfl)) fun a hf => ?_
            refine qE hf rfl rfl rfl (Pu.ev (pM rfl)) fun a hf => ?_
            refine qE hf rfl rfl rfl (Pu.ev (pAdd rfl rfl)) fun a hf => ?_
            refine qE hf rfl rfl rfl (eC (v := .agg #[.int .i64 r_1.claim, .int .i64 r_1.by_]) (vs := [.int .i64 rule, .int .i64 e_4, .int .i64 (W (e_3 + 1))]) (caps := []) en_83 rfl rfl rfl rfl (fun w hc => share_Rule_day_ok rule e_4 (W (e_3 + 1)) hc hr_1)) fun a hf => ?_
            refine qE hf rfl rfl rfl (Pu.ev (pM rfl)) fun a hf => ?_
            refine qE hf rfl rfl rfl (Pu.ev (pM rfl)) fun a hf => ?_
            refine qE hf rfl rfl rfl (Pu.ev (pM rfl)) fun a hf => ?_
            refine qE hf rfl rfl rfl (Pu.ev (pIA Try.underlying36 sz_3 rfl rfl qa_3)) fun a hf => ?_
            refine qE hf rfl rfl rfl (eLd1 sc_3 rfl (cell_pc (j := 0) qp_3 rfl)) fun a hf => ?_
            refine qE hf rfl rfl rfl (Pu.ev (pM rfl)) fun a hf => ?_
            refine qE hf rfl rfl rfl (eC (v := .agg #[.int .i64 r_2.claim, .int .i64 r_2.by_]) (vs := [.int .i64 rule, .int .i64 e_5, .int .i64 e_2]) (caps := []) en_83 rfl rfl rfl rfl (fun w hc => share_Rule_day_ok rule e_5 e_2 hc hr_2)) fun a hf => ?_
            refine qE hf rfl rfl rfl (eC (v := .bool (share_quotient_more r_1 r_2)) (vs := [.agg #[.int .i64 r_1.claim, .int .i64 r_1.by_], .agg #[.int .i64 r_2.claim, .int .i64 r_2.by_]]) (caps := []) en_84 rfl rfl rfl rfl (fun w hc => share_quotient_more_ok r_1 r_2 hc rfl)) fun a hf => ?_
            refine qE hf rfl rfl rfl (Pu.ev (pPt rfl rfl)) fun a hf => ?_
            obtain rfl := Option.some.inj hF
            exact qNil (hf.keep ⟨rfl, rfl, rfl, rfl, rfl, rfl, rfl, rfl, rfl, rfl, rfl, rfl, rfl, rfl, rfl, rfl, rfl, rfl, rfl, rfl, rfl, rfl, trivial⟩)
        intro a hf
        intro w hc
        refine h23 _ _ ?_
        refine cCond (b := t_1) hf rfl (fun hb => ?_) (fun hb => ?_)
        · replace hF := condT hb hF
          clear hb
          refine wp_seq_k fun K24 h24 => ?_
          refine cReg ?_
          refine stP hf rfl rfl rfl (pM rfl) fun a hf => ?_
          refine stP hf rfl rfl rfl (pM rfl) fun a hf => ?_
          refine stP hf rfl rfl rfl (pA rfl) fun a hf => ?_
          refine stP hf rfl rfl rfl (pA rfl) fun a hf => ?_
          refine stP hf rfl rfl rfl (pA rfl) fun a hf => ?_
          refine cNil ?_
          refine h24 _ _ ?_
          refine wp_exit ?_
          refine cMiss rfl ?_
          refine xThen ?_
          refine xThen ?_
          have he := Option.some.inj hF
          rw [← he] at hfin18
          replace hF := ho18 _ hfin18
          refine cMiss rfl ?_
          refine xThen ?_
          refine cMiss rfl ?_
          refine xThen ?_
          refine xThen ?_
          have he := hF
          rw [← he] at hfin10
          refine cHit ?_
          exact hr10 _ _ _ hfin10 ⟨hf.keep ⟨rfl, rfl, rfl, rfl, rfl, rfl, rfl, rfl, rfl, trivial⟩, hc⟩
        · replace hF := condF hb hF
          clear hb
          refine wp_skip ?_
          refine h21 _ _ ?_
          refine cReg ?_
          refine stP hf rfl rfl rfl (pAdd rfl rfl) fun a hf => ?_
          refine stP hf rfl rfl rfl (pM rfl) fun a hf => ?_
          refine cNil ?_
          exact hK18 (W (x_1 + 1)) _ _ (Option.some.inj hF).symm ⟨hf.keep ⟨rfl, rfl, rfl, rfl, rfl, rfl, rfl, rfl, rfl, rfl, rfl, rfl, rfl, rfl, trivial⟩, hc⟩
      · replace hF := condF hb hF
        clear hb
        refine wp_exit ?_
        refine xThen ?_
        refine xThen ?_
        have he := Option.some.inj hF
        rw [← he] at hfin18
        refine cHit ?_
        exact hr18 _ _ _ hfin18 ⟨hf.keep ⟨rfl, rfl, rfl, rfl, rfl, rfl, rfl, rfl, rfl, rfl, rfl, rfl, rfl, rfl, trivial⟩, hc⟩
    · replace hF := condF hb hF
      clear hb
      refine wp_exit ?_
      refine xThen ?_
      refine xThen ?_
      have he := Option.some.inj hF
      rw [← he] at hfin10
      refine cHit ?_
      exact hr10 _ _ _ hfin10 ⟨hf.keep ⟨rfl, rfl, rfl, rfl, rfl, rfl, rfl, rfl, rfl, trivial⟩, hc⟩

def law09_awake (N : Nat)  : Option (Bool) :=
  Option.bind (law09_Two N) fun r =>
  Option.bind (share_Real N r 120) fun r_1 =>
  Option.bind (law09_Two N) fun r_2 =>
  Option.bind (law09_span N 90 185) fun r_3 =>
  Option.bind (share_Shares N r_2 r_3) fun r_4 =>
  Option.bind (law09_Two N) fun r_5 =>
  Option.bind (share_Short N r_5 120) fun r_6 =>
  Option.bind (law09_Line N) fun r_7 =>
  Option.bind (share_Debts N r_7.1 (⟨0, 0⟩ : api_Span) r_7.2) fun r_8 =>
  Option.bind (cond ((((r_1.2 != 0) || (r_4.2 != 0)) || (r_6.2 != 0)) || (r_8.2 != 0)) (some true) (Option.bind (kit_Same_int N r_1.1 ([95, 18] : List Int)) fun r_9 =>
  some (!r_9))) fun t_1 =>
  Option.bind (cond t_1 (some true) (Option.bind (kit_Same_api_Span N r_4.1 ([(⟨85, 120⟩ : api_Span), (⟨0, 54⟩ : api_Span)] : List api_Span)) fun r_10 =>
  some (!r_10))) fun t_2 =>
  Option.bind (cond (t_2 || (r_6.1 != 1)) (some true) (Option.bind (kit_Same_api_Span N r_8.1 ([(⟨(-2), 8⟩ : api_Span), (⟨(-15), (-12)⟩ : api_Span), (⟨0, 0⟩ : api_Span)] : List api_Span)) fun r_11 =>
  some (!r_11))) fun t_3 =>
  cond t_3
  (some false)
  (Option.bind (share_Payback N 100 (⟨15, 4, ([20, 30, 30, 40, 40, 40] : List Int)⟩ : share_Pact)) fun r_12 =>
  Option.bind (share_Turns N ([60, 30, 10] : List Int) 9 0) fun r_13 =>
  Option.bind (share_Turns N ([60, 30, 10] : List Int) 9 1) fun r_14 =>
  Option.bind (share_Divisors N ([60, 30, 10] : List Int) ([6, 3, 0] : List Int) 0) fun r_15 =>
  Option.bind (share_Unfair N ([60, 30, 10] : List Int) ([7, 2, 0] : List Int) 0) fun r_16 =>
  Option.bind (cond (((((r_12.2 == 0) && (r_13.2 == 0)) && (r_14.2 == 0)) && (r_15.2.2 == 0)) && (r_16.2.2 == 0)) (Option.bind (kit_Same_int N r_12.1 ([20, 20, 15, 15, 15, 15] : List Int)) fun r_17 =>
  some r_17) (some false)) fun t_4 =>
  Option.bind (cond t_4 (Option.bind (kit_Same_int N r_13.1 ([6, 3, 0] : List Int)) fun r_18 =>
  some r_18) (some false)) fun t_5 =>
  Option.bind (cond t_5 (Option.bind (kit_Same_int N r_14.1 ([5, 3, 1] : List Int)) fun r_19 =>
  some r_19) (some false)) fun t_6 =>
  some ((((t_6 && (r_15.1.N == 10 && r_15.1.D == 1)) && (r_15.2.1.N == r_15.1.N && r_15.2.1.D == r_15.1.D)) && (r_16.1 == 0)) && (r_16.2.1 == 1)))
theorem law09_awake_ok {N : Nat} {G : Pers} {Lf : List Ent} {w : World}    (hc : Ctx G (Lf) w) {res : Bool} (hF : law09_awake N = some res) : Calls Try.prog 13 #[] w (fun e w => e = .returned (.bool res) ∧ Ctx G (Lf) w) := by
  unfold law09_awake at hF
  refine fnIn (args := []) Try.func13 rfl Try.ntmps13 rfl fun a hf => ?_
  refine wp_seq_k fun K1 h1 => ?_
  refine cReg ?_
  refine stP hf rfl rfl rfl (pA rfl) fun a hf => ?_
  refine cNil ?_
  refine h1 _ _ ?_
  refine wp_seq_k fun K2 h2 => ?_
  refine cReg ?_
  obtain ⟨r, hr, hF⟩ := bnd_some hF
  refine stC (vs := []) (caps := []) hf rfl rfl rfl en_67 rfl rfl rfl rfl (law09_Two_ok hc hr) ?_
  rintro _ w ⟨p_1, c_1, rfl, hc⟩
  refine ⟨_, rfl, fun a hf => ?_⟩
  obtain ⟨r_1, hr_1, hF⟩ := bnd_some hF
  obtain ⟨G1, hle1, hrd1, hc, hth1⟩ := lend hc k0
  refine stC (vs := [.agg #[.int .i64 r.States, .slice p_1 r.Rights.length c_1], .int .i64 120]) (caps := []) hf rfl rfl rfl en_18 rfl rfl rfl rfl (share_Real_ok r 120 hrd1 hc hr_1) ?_
  rintro _ w ⟨p_2, c_2, rfl, hc⟩
  refine ⟨_, rfl, fun a hf => ?_⟩
  replace hc := hth1 _ _ hc
  refine stP hf rfl rfl rfl (pM rfl) fun a hf => ?_
  refine stP hf rfl rfl rfl (pX rfl rfl) fun a hf => ?_
  refine stP hf rfl rfl rfl (pX rfl rfl) fun a hf => ?_
  refine stP hf rfl rfl rfl (pA rfl) fun a hf => ?_
  refine stP hf rfl rfl rfl (pA rfl) fun a hf => ?_
  refine cNil ?_
  refine h2 _ _ ?_
  refine wp_seq_k fun K3 h3 => ?_
  refine cReg ?_
  obtain ⟨r_2, hr_2, hF⟩ := bnd_some hF
  refine stC (vs := []) (caps := []) hf rfl rfl rfl en_67 rfl rfl rfl rfl (law09_Two_ok hc hr_2) ?_
  rintro _ w ⟨p_3, c_3, rfl, hc⟩
  refine ⟨_, rfl, fun a hf => ?_⟩
  obtain ⟨r_3, hr_3, hF⟩ := bnd_some hF
  refine stE hf hc rfl rfl rfl (eC (v := .agg #[.int .i64 r_3.Lo, .int .i64 r_3.Hi]) (vs := [.int .i64 90, .int .i64 185]) (caps := []) en_60 rfl rfl rfl rfl (fun w hc => law09_span_ok 90 185 hc hr_3)) fun a w hf hc => ?_
  obtain ⟨r_4, hr_4, hF⟩ := bnd_some hF
  obtain ⟨G1, hle1, hrd1, hc, hth1⟩ := lend hc k0
  refine stC (vs := [.agg #[.int .i64 r_2.States, .slice p_3 r_2.Rights.length c_3], .agg #[.int .i64 r_3.Lo, .int .i64 r_3.Hi]]) (caps := []) hf rfl rfl rfl en_21 rfl rfl rfl rfl (share_Shares_ok r_2 r_3 hrd1 hc hr_4) ?_
  rintro _ w ⟨p_4, c_4, rfl, hc⟩
  refine ⟨_, rfl, fun a hf => ?_⟩
  replace hc := hth1 _ _ hc
  refine stP hf rfl rfl rfl (pM rfl) fun a hf => ?_
  refine stP hf rfl rfl rfl (pX rfl rfl) fun a hf => ?_
  refine stP hf rfl rfl rfl (pX rfl rfl) fun a hf => ?_
  refine stP hf rfl rfl rfl (pA rfl) fun a hf => ?_
  refine stP hf rfl rfl rfl (pA rfl) fun a hf => ?_
  refine cNil ?_
  refine h3 _ _ ?_
  refine wp_seq_k fun K4 h4 => ?_
  refine cReg ?_
  obtain ⟨r_5, hr_5, hF⟩ := bnd_some hF
  refine stC (vs := []) (caps := []) hf rfl rfl rfl en_67 rfl rfl rfl rfl (law09_Two_ok hc hr_5) ?_
  rintro _ w ⟨p_5, c_5, rfl, hc⟩
  refine ⟨_, rfl, fun a hf => ?_⟩
  obtain ⟨r_6, hr_6, hF⟩ := bnd_some hF
  refine stE hf hc rfl rfl rfl (eC (v := .tuple #[.int .i64 r_6.1, .int .i64 r_6.2]) (vs := [.agg #[.int .i64 r_5.States, .slice p_5 r_5.Rights.length c_5], .int .i64 120]) (caps := []) en_24 rfl rfl rfl rfl (fun w hc => by obtain ⟨G1, hle1, hrd1, hc, hth1⟩ := lend hc k0; exact (share_Short_ok r_5 120 hrd1 hc hr_6).mono fun e w h => ⟨h.1, ((hth1 _ _ h.2).unpick k0)⟩)) fun a w hf hc => ?_
  refine stP hf rfl rfl rfl (pM rfl) fun a hf => ?_
  refine stP hf rfl rfl rfl (pX rfl rfl) fun a hf => ?_
  refine stP hf rfl rfl rfl (pX rfl rfl) fun a hf => ?_
  refine stP hf rfl rfl rfl (pA rfl) fun a hf => ?_
  refine stP hf rfl rfl rfl (pA rfl) fun a hf => ?_
  refine cNil ?_
  refine h4 _ _ ?_
  refine wp_seq_k fun K5 h5 => ?_
  refine cReg ?_
  obtain ⟨r_7, hr_7, hF⟩ := bnd_some hF
  refine stC (vs := []) (caps := []) hf rfl rfl rfl en_68 rfl rfl rfl rfl (law09_Line_ok hc hr_7) ?_
  rintro _ w ⟨p_6, c_6, p_7, c_7, rfl, hc⟩
  refine ⟨_, rfl, fun a hf => ?_⟩
  refine stP hf rfl rfl rfl (pM rfl) fun a hf => ?_
  refine stP hf rfl rfl rfl (pX rfl rfl) fun a hf => ?_
  refine stP hf rfl rfl rfl (pX rfl rfl) fun a hf => ?_
  refine stAl (cs := [.slice none 0 0, .int .i64 0]) hf hc rfl rfl zr_88 rfl fun b_1 a w hf hc => ?_
  refine stSt (vs := [.slice p_6 r_7.1.Table.length c_6, .int .i64 r_7.1.Credit]) hf hc rfl rfl rfl rfl sz_88 rfl rfl u0 fun w hc => ?_
  refine stP hf rfl rfl rfl (pA rfl) fun a hf => ?_
  refine cNil ?_
  refine h5 _ _ ?_
  refine wp_seq_k fun K6 h6 => ?_
  refine cReg ?_
  refine stE hf hc rfl rfl rfl (eLdN (vs := [.slice p_6 r_7.1.Table.length c_6, .int .i64 r_7.1.Credit]) ag_88 rfl rfl (cells_box (n := 2) m0 rfl)) fun a w hf hc => ?_
  refine stP hf rfl rfl rfl (pBuildS (cells := [.int .i64 0, .int .i64 0]) bt_26 rfl rfl) fun a hf => ?_
  refine stP hf rfl rfl rfl (pM rfl) fun a hf => ?_
  obtain ⟨r_8, hr_8, hF⟩ := bnd_some hF
  obtain ⟨G1, hle1, hrd1, hc, hth1⟩ := lend hc k1
  obtain ⟨G2, hle2, hrd2, hc, hth2⟩ := lend hc k1
  refine stC (vs := [.agg #[.slice p_6 r_7.1.Table.length c_6, .int .i64 r_7.1.Credit], .agg #[.int .i64 0, .int .i64 0], .slice p_7 r_7.2.length c_7]) (caps := []) hf rfl rfl rfl en_54 rfl rfl rfl rfl (share_Debts_ok r_7.1 (⟨0, 0⟩ : api_Span) r_7.2 (hrd1.mono hle2) hrd2 hc hr_8) ?_
  rintro _ w ⟨p_8, c_8, rfl, hc⟩
  refine ⟨_, rfl, fun a hf => ?_⟩
  replace hc := hth2 _ _ hc
  replace hc := hth1 _ _ hc
  refine stP hf rfl rfl rfl (pM rfl) fun a hf => ?_
  refine stP hf rfl rfl rfl (pX rfl rfl) fun a hf => ?_
  refine stP hf rfl rfl rfl (pX rfl rfl) fun a hf => ?_
  refine stP hf rfl rfl rfl (pA rfl) fun a hf => ?_
  refine stP hf rfl rfl rfl (pA rfl) fun a hf => ?_
  refine cNil ?_
  refine h6 _ _ ?_
  refine wp_seq_k fun K7 h7 => ?_
  refine wp_seq_k fun K8 h8 => ?_
  refine cReg ?_
  refine stP hf rfl rfl rfl (pM rfl) fun a hf => ?_
  refine stP hf rfl rfl rfl (pNe rfl rfl) fun a hf => ?_
  refine stP hf rfl rfl rfl (pM rfl) fun a hf => ?_
  refine stCut 3 (fun a w => Has 168 a [(1, .slice p_2 r_1.1.length c_2), (2, .int .i64 r_1.2), (3, .slice p_4 r_4.1.length c_4), (4, .int .i64 r_4.2), (5, .int .i64 r_6.1), (6, .int .i64 r_6.2), (9, .slice p_8 r_8.1.length c_8), (10, .int .i64 r_8.2), (46, .int .i64 r_1.2), (47, .bool (r_1.2 != 0)), (48, .bool (r_1.2 != 0)), (51, .bool ((r_1.2 != 0) || (r_4.2 != 0)))] ∧ Ctx G (.row p_6 c_6 (r_7.1.Table.map enc_share_Point) 116 2 :: .row p_7 c_7 (r_7.2.map enc_share_Year) 94 5 :: .row p_8 c_8 (r_8.1.map enc_api_Span) 26 2 :: .box b_1 [.slice p_6 r_7.1.Table.length c_6, .int .i64 r_7.1.Credit] 88 :: .row p_5 c_5 (r_5.Rights.map enc_share_Right) 51 3 :: .row p_3 c_3 (r_2.Rights.map enc_share_Right) 51 3 :: .row p_4 c_4 (r_4.1.map enc_api_Span) 26 2 :: .row p_1 c_1 (r.Rights.map enc_share_Right) 51 3 :: .row p_2 c_2 (r_1.1.map encI_i64) 3 1 :: Lf) w) ?_ ?_
  · cases hb : (r_1.2 != 0)
    · rw [hb] at hf
      refine stP hf rfl rfl rfl (pM rfl) fun a hf => ?_
      refine stP hf rfl rfl rfl (pNe rfl rfl) fun a hf => ?_
      refine stP hf rfl rfl rfl (pPf rfl rfl) fun a hf => ?_
      exact cNil ⟨hf.keep ⟨rfl, rfl, rfl, rfl, rfl, rfl, rfl, rfl, rfl, rfl, rfl, rfl, trivial⟩, hc⟩
    · rw [hb] at hf
      refine stS hf rfl rfl rfl fun a hf => ?_
      refine stS hf rfl rfl rfl fun a hf => ?_
      refine stP hf rfl rfl rfl (pPt rfl rfl) fun a hf => ?_
      exact cNil ⟨hf.keep ⟨rfl, rfl, rfl, rfl, rfl, rfl, rfl, rfl, rfl, rfl, rfl, rfl, trivial⟩, hc⟩
  intro a w ⟨hf, hc⟩
  refine stP hf rfl rfl rfl (pM rfl) fun a hf => ?_
  refine stCut 3 (fun a w => Has 168 a [(1, .slice p_2 r_1.1.length c_2), (2, .int .i64 r_1.2), (3, .slice p_4 r_4.1.length c_4), (4, .int .i64 r_4.2), (5, .int .i64 r_6.1), (6, .int .i64 r_6.2), (9, .slice p_8 r_8.1.length c_8), (10, .int .i64 r_8.2), (46, .int .i64 r_1.2), (47, .bool (r_1.2 != 0)), (48, .bool (r_1.2 != 0)), (51, .bool ((r_1.2 != 0) || (r_4.2 != 0))), (52, .bool ((r_1.2 != 0) || (r_4.2 != 0))), (55, .bool (((r_1.2 != 0) || (r_4.2 != 0)) || (r_6.2 != 0)))] ∧ Ctx G (.row p_6 c_6 (r_7.1.Table.map enc_share_Point) 116 2 :: .row p_7 c_7 (r_7.2.map enc_share_Year) 94 5 :: .row p_8 c_8 (r_8.1.map enc_api_Span) 26 2 :: .box b_1 [.slice p_6 r_7.1.Table.length c_6, .int .i64 r_7.1.Credit] 88 :: .row p_5 c_5 (r_5.Rights.map enc_share_Right) 51 3 :: .row p_3 c_3 (r_2.Rights.map enc_share_Right) 51 3 :: .row p_4 c_4 (r_4.1.map enc_api_Span) 26 2 :: .row p_1 c_1 (r.Rights.map enc_share_Right) 51 3 :: .row p_2 c_2 (r_1.1.map encI_i64) 3 1 :: Lf) w) ?_ ?_
  · cases hb : ((r_1.2 != 0) || (r_4.2 != 0))
    · rw [hb] at hf
      refine stP hf rfl rfl rfl (pM rfl) fun a hf => ?_
      refine stP hf rfl rfl rfl (pNe rfl rfl) fun a hf => ?_
      refine stP hf rfl rfl rfl (pPf rfl rfl) fun a hf => ?_
      exact cNil ⟨hf.keep ⟨rfl, rfl, rfl, rfl, rfl, rfl, rfl, rfl, rfl, rfl, rfl, rfl, rfl, rfl, trivial⟩, hc⟩
    · rw [hb] at hf
      refine stS hf rfl rfl rfl fun a hf => ?_
      refine stS hf rfl rfl rfl fun a hf => ?_
      refine stP hf rfl rfl rfl (pPt rfl rfl) fun a hf => ?_
      exact cNil ⟨hf.keep ⟨rfl, rfl, rfl, rfl, rfl, rfl, rfl, rfl, rfl, rfl, rfl, rfl, rfl, rfl, trivial⟩, hc⟩
  intro a w ⟨hf, hc⟩
  refine stP hf rfl rfl rfl (pM rfl) fun a hf => ?_
  refine stCut 3 (fun a w => Has 168 a [(1, .slice p_2 r_1.1.length c_2), (2, .int .i64 r_1.2), (3, .slice p_4 r_4.1.length c_4), (4, .int .i64 r_4.2), (5, .int .i64 r_6.1), (6, .int .i64 r_6.2), (9, .slice p_8 r_8.1.length c_8), (10, .int .i64 r_8.2), (46, .int .i64 r_1.2), (47, .bool (r_1.2 != 0)), (48, .bool (r_1.2 != 0)), (51, .bool ((r_1.2 != 0) || (r_4.2 != 0))), (52, .bool ((r_1.2 != 0) || (r_4.2 != 0))), (55, .bool (((r_1.2 != 0) || (r_4.2 != 0)) || (r_6.2 != 0))), (56, .bool (((r_1.2 != 0) || (r_4.2 != 0)) || (r_6.2 != 0))), (59, .bool ((((r_1.2 != 0) || (r_4.2 != 0)) || (r_6.2 != 0)) || (r_8.2 != 0)))] ∧ Ctx G (.row p_6 c_6 (r_7.1.Table.map enc_share_Point) 116 2 :: .row p_7 c_7 (r_7.2.map enc_share_Year) 94 5 :: .row p_8 c_8 (r_8.1.map enc_api_Span) 26 2 :: .box b_1 [.slice p_6 r_7.1.Table.length c_6, .int .i64 r_7.1.Credit] 88 :: .row p_5 c_5 (r_5.Rights.map enc_share_Right) 51 3 :: .row p_3 c_3 (r_2.Rights.map enc_share_Right) 51 3 :: .row p_4 c_4 (r_4.1.map enc_api_Span) 26 2 :: .row p_1 c_1 (r.Rights.map enc_share_Right) 51 3 :: .row p_2 c_2 (r_1.1.map encI_i64) 3 1 :: Lf) w) ?_ ?_
  · cases hb : (((r_1.2 != 0) || (r_4.2 != 0)) || (r_6.2 != 0))
    · rw [hb] at hf
      refine stP hf rfl rfl rfl (pM rfl) fun a hf => ?_
      refine stP hf rfl rfl rfl (pNe rfl rfl) fun a hf => ?_
      refine stP hf rfl rfl rfl (pPf rfl rfl) fun a hf => ?_
      exact cNil ⟨hf.keep ⟨rfl, rfl, rfl, rfl, rfl, rfl, rfl, rfl, rfl, rfl, rfl, rfl, rfl, rfl, rfl, rfl, trivial⟩, hc⟩
    · rw [hb] at hf
      refine stS hf rfl rfl rfl fun a hf => ?_
      refine stS hf rfl rfl rfl fun a hf => ?_
      refine stP hf rfl rfl rfl (pPt rfl rfl) fun a hf => ?_
      exact cNil ⟨hf.keep ⟨rfl, rfl, rfl, rfl, rfl, rfl, rfl, rfl, rfl, rfl, rfl, rfl, rfl, rfl, rfl, rfl, trivial⟩, hc⟩
  intro a w ⟨hf, hc⟩
  refine stP hf rfl rfl rfl (pM rfl) fun a hf => ?_
  obtain ⟨t_1, ht_1, hF⟩ := bnd_some hF
  refine stCut 5 (fun a w => Has 168 a [(1, .slice p_2 r_1.1.length c_2), (2, .int .i64 r_1.2), (3, .slice p_4 r_4.1.length c_4), (4, .int .i64 r_4.2), (5, .int .i64 r_6.1), (6, .int .i64 r_6.2), (9, .slice p_8 r_8.1.length c_8), (10, .int .i64 r_8.2), (46, .int .i64 r_1.2), (47, .bool (r_1.2 != 0)), (48, .bool (r_1.2 != 0)), (51, .bool ((r_1.2 != 0) || (r_4.2 != 0))), (52, .bool ((r_1.2 != 0) || (r_4.2 != 0))), (55, .bool (((r_1.2 != 0) || (r_4.2 != 0)) || (r_6.2 != 0))), (56, .bool (((r_1.2 != 0) || (r_4.2 != 0)) || (r_6.2 != 0))), (59, .bool ((((r_1.2 != 0) || (r_4.2 != 0)) || (r_6.2 != 0)) || (r_8.2 != 0))), (60, .bool ((((r_1.2 != 0) || (r_4.2 != 0)) || (r_6.2 != 0)) || (r_8.2 != 0))), (65, .bool t_1)] ∧ Ctx G (.row p_6 c_6 (r_7.1.Table.map enc_share_Point) 116 2 :: .row p_7 c_7 (r_7.2.map enc_share_Year) 94 5 :: .row p_8 c_8 (r_8.1.map enc_api_Span) 26 2 :: .box b_1 [.slice p_6 r_7.1.Table.length c_6, .int .i64 r_7.1.Credit] 88 :: .row p_5 c_5 (r_5.Rights.map enc_share_Right) 51 3 :: .row p_3 c_3 (r_2.Rights.map enc_share_Right) 51 3 :: .row p_4 c_4 (r_4.1.map enc_api_Span) 26 2 :: .row p_1 c_1 (r.Rights.map enc_share_Right) 51 3 :: .row p_2 c_2 (r_1.1.map encI_i64) 3 1 :: Lf) w) ?_ ?_
  · cases hb : ((((r_1.2 != 0) || (r_4.2 != 0)) || (r_6.2 != 0)) || (r_8.2 != 0))
    · rw [hb] at hf
      have hF := condF hb ht_1
      refine stP hf rfl rfl rfl (pM rfl) fun a hf => ?_
      refine stBS (rows := ([95, 18] : List Int).map encI_i64) (vs := [(0, .int .i64 95), (1, .int .i64 18)]) hf hc rfl rfl sl_36 rfl ⟨rfl, rfl, rfl, rfl, rfl, rfl, trivial⟩ rfl rfl fun b_2 a w hf hc => ?_
      obtain ⟨r_9, hr_9, hF⟩ := bnd_some hF
      refine stE hf hc rfl rfl rfl (eC (v := .bool r_9) (vs := [.slice p_2 r_1.1.length c_2, .slice (some ⟨b_2, 0, none⟩) 2 2]) (caps := []) en_20 rfl rfl rfl rfl (fun w hc => by obtain ⟨G1, hle1, hrd1, hc, hth1⟩ := lend hc k9; obtain ⟨G2, hle2, hrd2, hc, hth2⟩ := lend hc k0; exact (kit_Same_int_ok r_1.1 ([95, 18] : List Int) (hrd1.mono hle2) hrd2 hc hr_9).mono fun e w h => ⟨h.1, ((hth1 _ _ ((hth2 _ _ h.2).unpick k0)).unpick k9)⟩)) fun a w hf hc => ?_
      refine stP hf rfl rfl rfl (pNot rfl) fun a hf => ?_
      refine stP hf rfl rfl rfl (pPf rfl rfl) fun a hf => ?_
      replace hc := hc.drop k0
      obtain rfl := Option.some.inj hF
      exact cNil ⟨hf.keep ⟨rfl, rfl, rfl, rfl, rfl, rfl, rfl, rfl, rfl, rfl, rfl, rfl, rfl, rfl, rfl, rfl, rfl, rfl, trivial⟩, hc⟩
    · rw [hb] at hf
      have hF := condT hb ht_1
      obtain rfl := Option.some.inj hF
      refine stS hf rfl rfl rfl fun a hf => ?_
      refine stS hf rfl rfl rfl fun a hf => ?_
      refine stS hf rfl rfl rfl fun a hf => ?_
      refine stS hf rfl rfl rfl fun a hf => ?_
      refine stP hf rfl rfl rfl (pPt rfl rfl) fun a hf => ?_
      exact cNil ⟨hf.keep ⟨rfl, rfl, rfl, rfl, rfl, rfl, rfl, rfl, rfl, rfl, rfl, rfl, rfl, rfl, rfl, rfl, rfl, rfl, trivial⟩, hc⟩
  intro a w ⟨hf, hc⟩
  refine stP hf rfl rfl rfl (pM rfl) fun a hf => ?_
  obtain ⟨t_2, ht_2, hF⟩ := bnd_some hF
  refine stCut 7 (fun a w => Has 168 a [(1, .slice p_2 r_1.1.length c_2), (2, .int .i64 r_1.2), (3, .slice p_4 r_4.1.length c_4), (4, .int .i64 r_4.2), (5, .int .i64 r_6.1), (6, .int .i64 r_6.2), (9, .slice p_8 r_8.1.length c_8), (10, .int .i64 r_8.2), (46, .int .i64 r_1.2), (47, .bool (r_1.2 != 0)), (48, .bool (r_1.2 != 0)), (51, .bool ((r_1.2 != 0) || (r_4.2 != 0))), (52, .bool ((r_1.2 != 0) || (r_4.2 != 0))), (55, .bool (((r_1.2 != 0) || (r_4.2 != 0)) || (r_6.2 != 0))), (56, .bool (((r_1.2 != 0) || (r_4.2 != 0)) || (r_6.2 != 0))), (59, .bool ((((r_1.2 != 0) || (r_4.2 != 0)) || (r_6.2 != 0)) || (r_8.2 != 0))), (60, .bool ((((r_1.2 != 0) || (r_4.2 != 0)) || (r_6.2 != 0)) || (r_8.2 != 0))), (65, .bool t_1), (66, .bool t_1), (73, .bool t_2)] ∧ Ctx G (.row p_6 c_6 (r_7.1.Table.map enc_share_Point) 116 2 :: .row p_7 c_7 (r_7.2.map enc_share_Year) 94 5 :: .row p_8 c_8 (r_8.1.map enc_api_Span) 26 2 :: .box b_1 [.slice p_6 r_7.1.Table.length c_6, .int .i64 r_7.1.Credit] 88 :: .row p_5 c_5 (r_5.Rights.map enc_share_Right) 51 3 :: .row p_3 c_3 (r_2.Rights.map enc_share_Right) 51 3 :: .row p_4 c_4 (r_4.1.map enc_api_Span) 26 2 :: .row p_1 c_1 (r.Rights.map enc_share_Right) 51 3 :: .row p_2 c_2 (r_1.1.map encI_i64) 3 1 :: Lf) w) ?_ ?_
  · cases hb : t_1
    · rw [hb] at hf
      have hF := condF hb ht_2
      refine stP hf rfl rfl rfl (pM rfl) fun a hf => ?_
      refine stP hf rfl rfl rfl (pBuildS (cells := [.int .i64 85, .int .i64 120]) bt_26 rfl rfl) fun a hf => ?_
      refine stP hf rfl rfl rfl (pBuildS (cells := [.int .i64 0, .int .i64 54]) bt_26 rfl rfl) fun a hf => ?_
      refine stBS (rows := ([(⟨85, 120⟩ : api_Span), (⟨0, 54⟩ : api_Span)] : List api_Span).map enc_api_Span) (vs := [(0, .agg #[.int .i64 85, .int .i64 120]), (1, .agg #[.int .i64 0, .int .i64 54])]) hf hc rfl rfl sl_41 rfl ⟨rfl, rfl, rfl, rfl, rfl, rfl, trivial⟩ rfl rfl fun b_3 a w hf hc => ?_
      obtain ⟨r_10, hr_10, hF⟩ := bnd_some hF
      refine stE hf hc rfl rfl rfl (eC (v := .bool r_10) (vs := [.slice p_4 r_4.1.length c_4, .slice (some ⟨b_3, 0, none⟩) 2 2]) (caps := []) en_23 rfl rfl rfl rfl (fun w hc => by obtain ⟨G1, hle1, hrd1, hc, hth1⟩ := lend hc k7; obtain ⟨G2, hle2, hrd2, hc, hth2⟩ := lend hc k0; exact (kit_Same_api_Span_ok r_4.1 ([(⟨85, 120⟩ : api_Span), (⟨0, 54⟩ : api_Span)] : List api_Span) (hrd1.mono hle2) hrd2 hc hr_10).mono fun e w h => ⟨h.1, ((hth1 _ _ ((hth2 _ _ h.2).unpick k0)).unpick k7)⟩)) fun a w hf hc => ?_
      refine stP hf rfl rfl rfl (pNot rfl) fun a hf => ?_
      refine stP hf rfl rfl rfl (pPf rfl rfl) fun a hf => ?_
      replace hc := hc.drop k0
      obtain rfl := Option.some.inj hF
      exact cNil ⟨hf.keep ⟨rfl, rfl, rfl, rfl, rfl, rfl, rfl, rfl, rfl, rfl, rfl, rfl, rfl, rfl, rfl, rfl, rfl, rfl, rfl, rfl, trivial⟩, hc⟩
    · rw [hb] at hf
      have hF := condT hb ht_2
      obtain rfl := Option.some.inj hF
      refine stS hf rfl rfl rfl fun a hf => ?_
      refine stS hf rfl rfl rfl fun a hf => ?_
      refine stS hf rfl rfl rfl fun a hf => ?_
      refine stS hf rfl rfl rfl fun a hf => ?_
      refine stS hf rfl rfl rfl fun a hf => ?_
      refine stS hf rfl rfl rfl fun a hf => ?_
      refine stP hf rfl rfl rfl (pPt rfl rfl) fun a hf => ?_
      exact cNil ⟨hf.keep ⟨rfl, rfl, rfl, rfl, rfl, rfl, rfl, rfl, rfl, rfl, rfl, rfl, rfl, rfl, rfl, rfl, rfl, rfl, rfl, rfl, trivial⟩, hc⟩
  intro a w ⟨hf, hc⟩
  refine stP hf rfl rfl rfl (pM rfl) fun a hf => ?_
  refine stCut 3 (fun a w => Has 168 a [(1, .slice p_2 r_1.1.length c_2), (2, .int .i64 r_1.2), (3, .slice p_4 r_4.1.length c_4), (4, .int .i64 r_4.2), (5, .int .i64 r_6.1), (6, .int .i64 r_6.2), (9, .slice p_8 r_8.1.length c_8), (10, .int .i64 r_8.2), (46, .int .i64 r_1.2), (47, .bool (r_1.2 != 0)), (48, .bool (r_1.2 != 0)), (51, .bool ((r_1.2 != 0) || (r_4.2 != 0))), (52, .bool ((r_1.2 != 0) || (r_4.2 != 0))), (55, .bool (((r_1.2 != 0) || (r_4.2 != 0)) || (r_6.2 != 0))), (56, .bool (((r_1.2 != 0) || (r_4.2 != 0)) || (r_6.2 != 0))), (59, .bool ((((r_1.2 != 0) || (r_4.2 != 0)) || (r_6.2 != 0)) || (r_8.2 != 0))), (60, .bool ((((r_1.2 != 0) || (r_4.2 != 0)) || (r_6.2 != 0)) || (r_8.2 != 0))), (65, .bool t_1), (66, .bool t_1), (73, .bool t_2), (74, .bool t_2), (77, .bool (t_2 || (r_6.1 != 1)))] ∧ Ctx G (.row p_6 c_6 (r_7.1.Table.map enc_share_Point) 116 2 :: .row p_7 c_7 (r_7.2.map enc_share_Year) 94 5 :: .row p_8 c_8 (r_8.1.map enc_api_Span) 26 2 :: .box b_1 [.slice p_6 r_7.1.Table.length c_6, .int .i64 r_7.1.Credit] 88 :: .row p_5 c_5 (r_5.Rights.map enc_share_Right) 51 3 :: .row p_3 c_3 (r_2.Rights.map enc_share_Right) 51 3 :: .row p_4 c_4 (r_4.1.map enc_api_Span) 26 2 :: .row p_1 c_1 (r.Rights.map enc_share_Right) 51 3 :: .row p_2 c_2 (r_1.1.map encI_i64) 3 1 :: Lf) w) ?_ ?_
  · cases hb : t_2
    · rw [hb] at hf
      refine stP hf rfl rfl rfl (pM rfl) fun a hf => ?_
      refine stP hf rfl rfl rfl (pNe rfl rfl) fun a hf => ?_
      refine stP hf rfl rfl rfl (pPf rfl rfl) fun a hf => ?_
      exact cNil ⟨hf.keep ⟨rfl, rfl, rfl, rfl, rfl, rfl, rfl, rfl, rfl, rfl, rfl, rfl, rfl, rfl, rfl, rfl, rfl, rfl, rfl, rfl, rfl, rfl, trivial⟩, hc⟩
    · rw [hb] at hf
      refine stS hf rfl rfl rfl fun a hf => ?_
      refine stS hf rfl rfl rfl fun a hf => ?_
      refine stP hf rfl rfl rfl (pPt rfl rfl) fun a hf => ?_
      exact cNil ⟨hf.keep ⟨rfl, rfl, rfl, rfl, rfl, rfl, rfl, rfl, rfl, rfl, rfl, rfl, rfl, rfl, rfl, rfl, rfl, rfl, rfl, rfl, rfl, rfl, trivial⟩, hc⟩
  intro a w ⟨hf, hc⟩
  refine stP hf rfl rfl rfl (pM rfl) fun a hf => ?_
  obtain ⟨t_3, ht_3, hF⟩ := bnd_some hF
  refine stCut 8 (fun a w => Has 168 a [(1, .slice p_2 r_1.1.length c_2), (2, .int .i64 r_1.2), (3, .slice p_4 r_4.1.length c_4), (4, .int .i64 r_4.2), (5, .int .i64 r_6.1), (6, .int .i64 r_6.2), (9, .slice p_8 r_8.1.length c_8), (10, .int .i64 r_8.2), (46, .int .i64 r_1.2), (47, .bool (r_1.2 != 0)), (48, .bool (r_1.2 != 0)), (51, .bool ((r_1.2 != 0) || (r_4.2 != 0))), (52, .bool ((r_1.2 != 0) || (r_4.2 != 0))), (55, .bool (((r_1.2 != 0) || (r_4.2 != 0)) || (r_6.2 != 0))), (56, .bool (((r_1.2 != 0) || (r_4.2 != 0)) || (r_6.2 != 0))), (59, .bool ((((r_1.2 != 0) || (r_4.2 != 0)) || (r_6.2 != 0)) || (r_8.2 != 0))), (60, .bool ((((r_1.2 != 0) || (r_4.2 != 0)) || (r_6.2 != 0)) || (r_8.2 != 0))), (65, .bool t_1), (66, .bool t_1), (73, .bool t_2), (74, .bool t_2), (77, .bool (t_2 || (r_6.1 != 1))), (78, .bool (t_2 || (r_6.1 != 1))), (86, .bool t_3)] ∧ Ctx G (.row p_6 c_6 (r_7.1.Table.map enc_share_Point) 116 2 :: .row p_7 c_7 (r_7.2.map enc_share_Year) 94 5 :: .row p_8 c_8 (r_8.1.map enc_api_Span) 26 2 :: .box b_1 [.slice p_6 r_7.1.Table.length c_6, .int .i64 r_7.1.Credit] 88 :: .row p_5 c_5 (r_5.Rights.map enc_share_Right) 51 3 :: .row p_3 c_3 (r_2.Rights.map enc_share_Right) 51 3 :: .row p_4 c_4 (r_4.1.map enc_api_Span) 26 2 :: .row p_1 c_1 (r.Rights.map enc_share_Right) 51 3 :: .row p_2 c_2 (r_1.1.map encI_i64) 3 1 :: Lf) w) ?_ ?_
  · cases hb : (t_2 || (r_6.1 != 1))
    · rw [hb] at hf
      have hF := condF hb ht_3
      refine stP hf rfl rfl rfl (pM rfl) fun a hf => ?_
      refine stP hf rfl rfl rfl (pBuildS (cells := [.int .i64 (-2), .int .i64 8]) bt_26 rfl rfl) fun a hf => ?_
      refine stP hf rfl rfl rfl (pBuildS (cells := [.int .i64 (-15), .int .i64 (-12)]) bt_26 rfl rfl) fun a hf => ?_
      refine stP hf rfl rfl rfl (pBuildS (cells := [.int .i64 0, .int .i64 0]) bt_26 rfl rfl) fun a hf => ?_
      refine stBS (rows := ([(⟨(-2), 8⟩ : api_Span), (⟨(-15), (-12)⟩ : api_Span), (⟨0, 0⟩ : api_Span)] : List api_Span).map enc_api_Span) (vs := [(0, .agg #[.int .i64 (-2), .int .i64 8]), (1, .agg #[.int .i64 (-15), .int .i64 (-12)]), (2, .agg #[.int .i64 0, .int .i64 0])]) hf hc rfl rfl sl_41 rfl ⟨rfl, rfl, rfl, rfl, rfl, rfl, rfl, rfl, rfl, trivial⟩ rfl rfl fun b_4 a w hf hc => ?_
      obtain ⟨r_11, hr_11, hF⟩ := bnd_some hF
      refine stE hf hc rfl rfl rfl (eC (v := .bool r_11) (vs := [.slice p_8 r_8.1.length c_8, .slice (some ⟨b_4, 0, none⟩) 3 3]) (caps := []) en_23 rfl rfl rfl rfl (fun w hc => by obtain ⟨G1, hle1, hrd1, hc, hth1⟩ := lend hc k3; obtain ⟨G2, hle2, hrd2, hc, hth2⟩ := lend hc k0; exact (kit_Same_api_Span_ok r_8.1 ([(⟨(-2), 8⟩ : api_Span), (⟨(-15), (-12)⟩ : api_Span), (⟨0, 0⟩ : api_Span)] : List api_Span) (hrd1.mono hle2) hrd2 hc hr_11).mono fun e w h => ⟨h.1, ((hth1 _ _ ((hth2 _ _ h.2).unpick k0)).unpick k3)⟩)) fun a w hf hc => ?_
      refine stP hf rfl rfl rfl (pNot rfl) fun a hf => ?_
      refine stP hf rfl rfl rfl (pPf rfl rfl) fun a hf => ?_
      replace hc := hc.drop k0
      obtain rfl := Option.some.inj hF
      exact cNil ⟨hf.keep ⟨rfl, rfl, rfl, rfl, rfl, rfl, rfl, rfl, rfl, rfl, rfl, rfl, rfl, rfl, rfl, rfl, rfl, rfl, rfl, rfl, rfl, rfl, rfl, rfl, trivial⟩, hc⟩
    · rw [hb] at hf
      have hF := condT hb ht_3
      obtain rfl := Option.some.inj hF
      refine stS hf rfl rfl rfl fun a hf => ?_
      refine stS hf rfl rfl rfl fun a hf => ?_
      refine stS hf rfl rfl rfl fun a hf => ?_
      refine stS hf rfl rfl rfl fun a hf => ?_
      refine stS hf rfl rfl rfl fun a hf => ?_
      refine stS hf rfl rfl rfl fun a hf => ?_
      refine stS hf rfl rfl rfl fun a hf => ?_
      refine stP hf rfl rfl rfl (pPt rfl rfl) fun a hf => ?_
      exact cNil ⟨hf.keep ⟨rfl, rfl, rfl, rfl, rfl, rfl, rfl, rfl, rfl, rfl, rfl, rfl, rfl, rfl, rfl, rfl, rfl, rfl, rfl, rfl, rfl, rfl, rfl, rfl, trivial⟩, hc⟩
  intro a w ⟨hf, hc⟩
  refine cNil ?_
  refine h8 _ _ ?_
  refine cCond (b := t_3) hf rfl (fun hb => ?_) (fun hb => ?_)
  · replace hF := condT hb hF
    clear hb
    refine wp_seq_k fun K9 h9 => ?_
    refine cReg ?_
    refine stP hf rfl rfl rfl (pA rfl) fun a hf => ?_
    refine cNil ?_
    refine h9 _ _ ?_
    refine wp_ret ?_
    refine xThenR ?_
    obtain rfl := Option.some.inj hF
    replace hc := hc.drop k8
    replace hc := hc.drop k7
    replace hc := hc.drop k6
    replace hc := hc.drop k5
    replace hc := hc.drop k4
    replace hc := hc.drop k3
    replace hc := hc.drop k2
    replace hc := hc.drop k1
    replace hc := hc.drop k0
    exact fnOut1 (by simp) rfl Try.results13 hf hc (show look _ 0 = _ from rfl) ⟨rfl, hc⟩
  · replace hF := condF hb hF
    clear hb
    refine wp_skip ?_
    refine h7 _ _ ?_
    refine wp_seq_k fun K10 h10 => ?_
    refine cReg ?_
    refine stBS (rows := ([20, 30, 30, 40, 40, 40] : List Int).map encI_i64) (vs := [(0, .int .i64 20), (1, .int .i64 30), (2, .int .i64 30), (3, .int .i64 40), (4, .int .i64 40), (5, .int .i64 40)]) hf hc rfl rfl sl_36 rfl ⟨rfl, rfl, rfl, rfl, rfl, rfl, rfl, rfl, rfl, rfl, rfl, rfl, rfl, rfl, rfl, rfl, rfl, rfl, trivial⟩ rfl rfl fun b_5 a w hf hc => ?_
    refine stP hf rfl rfl rfl (pBuildS (cells := [.int .i64 15, .int .i64 4, .slice (some ⟨b_5, 0, none⟩) 6 6]) bt_59 rfl rfl) fun a hf => ?_
    obtain ⟨r_12, hr_12, hF⟩ := bnd_some hF
    obtain ⟨G1, hle1, hrd1, hc, hth1⟩ := lend hc k0
    refine stC (vs := [.int .i64 100, .agg #[.int .i64 15, .int .i64 4, .slice (some ⟨b_5, 0, none⟩) 6 6]]) (caps := []) hf rfl rfl rfl en_30 rfl rfl rfl rfl (share_Payback_ok 100 (⟨15, 4, ([20, 30, 30, 40, 40, 40] : List Int)⟩ : share_Pact) hrd1 hc hr_12) ?_
    rintro _ w ⟨p_9, c_9, rfl, hc⟩
    refine ⟨_, rfl, fun a hf => ?_⟩
    replace hc := hth1 _ _ hc
    refine stP hf rfl rfl rfl (pM rfl) fun a hf => ?_
    refine stP hf rfl rfl rfl (pX rfl rfl) fun a hf => ?_
    refine stP hf rfl rfl rfl (pX rfl rfl) fun a hf => ?_
    refine stP hf rfl rfl rfl (pA rfl) fun a hf => ?_
    refine stP hf rfl rfl rfl (pA rfl) fun a hf => ?_
    refine cNil ?_
    refine h10 _ _ ?_
    refine wp_seq_k fun K11 h11 => ?_
    refine cReg ?_
    refine stBS (rows := ([60, 30, 10] : List Int).map encI_i64) (vs := [(0, .int .i64 60), (1, .int .i64 30), (2, .int .i64 10)]) hf hc rfl rfl sl_36 rfl ⟨rfl, rfl, rfl, rfl, rfl, rfl, rfl, rfl, rfl, trivial⟩ rfl rfl fun b_6 a w hf hc => ?_
    obtain ⟨r_13, hr_13, hF⟩ := bnd_some hF
    obtain ⟨G1, hle1, hrd1, hc, hth1⟩ := lend hc k0
    refine stC (vs := [.slice (some ⟨b_6, 0, none⟩) 3 3, .int .i64 9, .int .i64 0]) (caps := []) hf rfl rfl rfl en_34 rfl rfl rfl rfl (share_Turns_ok ([60, 30, 10] : List Int) 9 0 hrd1 hc hr_13) ?_
    rintro _ w ⟨p_10, c_10, rfl, hc⟩
    refine ⟨_, rfl, fun a hf => ?_⟩
    replace hc := hth1 _ _ hc
    refine stP hf rfl rfl rfl (pM rfl) fun a hf => ?_
    refine stP hf rfl rfl rfl (pX rfl rfl) fun a hf => ?_
    refine stP hf rfl rfl rfl (pX rfl rfl) fun a hf => ?_
    refine stP hf rfl rfl rfl (pA rfl) fun a hf => ?_
    refine stP hf rfl rfl rfl (pA rfl) fun a hf => ?_
    refine cNil ?_
    refine h11 _ _ ?_
    refine wp_seq_k fun K12 h12 => ?_
    refine cReg ?_
    refine stBS (rows := ([60, 30, 10] : List Int).map encI_i64) (vs := [(0, .int .i64 60), (1, .int .i64 30), (2, .int .i64 10)]) hf hc rfl rfl sl_36 rfl ⟨rfl, rfl, rfl, rfl, rfl, rfl, rfl, rfl, rfl, trivial⟩ rfl rfl fun b_7 a w hf hc => ?_
    obtain ⟨r_14, hr_14, hF⟩ := bnd_some hF
    obtain ⟨G1, hle1, hrd1, hc, hth1⟩ := lend hc k0
    refine stC (vs := [.slice (some ⟨b_7, 0, none⟩) 3 3, .int .i64 9, .int .i64 1]) (caps := []) hf rfl rfl rfl en_34 rfl rfl rfl rfl (share_Turns_ok ([60, 30, 10] : List Int) 9 1 hrd1 hc hr_14) ?_
    rintro _ w ⟨p_11, c_11, rfl, hc⟩
    refine ⟨_, rfl, fun a hf => ?_⟩
    replace hc := hth1 _ _ hc
    refine stP hf rfl rfl rfl (pM rfl) fun a hf => ?_
    refine stP hf rfl rfl rfl (pX rfl rfl) fun a hf => ?_
    refine stP hf rfl rfl rfl (pX rfl rfl) fun a hf => ?_
    refine stP hf rfl rfl rfl (pA rfl) fun a hf => ?_
    refine stP hf rfl rfl rfl (pA rfl) fun a hf => ?_
    refine cNil ?_
    refine h12 _ _ ?_
    refine wp_seq_k fun K13 h13 => ?_
    refine cReg ?_
    refine stBS (rows := ([60, 30, 10] : List Int).map encI_i64) (vs := [(0, .int .i64 60), (1, .int .i64 30), (2, .int .i64 10)]) hf hc rfl rfl sl_36 rfl ⟨rfl, rfl, rfl, rfl, rfl, rfl, rfl, rfl, rfl, trivial⟩ rfl rfl fun b_8 a w hf hc => ?_
    refine stBS (rows := ([6, 3, 0] : List Int).map encI_i64) (vs := [(0, .int .i64 6), (1, .int .i64 3), (2, .int .i64 0)]) hf hc rfl rfl sl_36 rfl ⟨rfl, rfl, rfl, rfl, rfl, rfl, rfl, rfl, rfl, trivial⟩ rfl rfl fun b_9 a w hf hc => ?_
    obtain ⟨r_15, hr_15, hF⟩ := bnd_some hF
    refine stE hf hc rfl rfl rfl (eC (v := .tuple #[.agg #[.int .i64 r_15.1.N, .int .i64 r_15.1.D], .agg #[.int .i64 r_15.2.1.N, .int .i64 r_15.2.1.D], .int .i64 r_15.2.2]) (vs := [.slice (some ⟨b_8, 0, none⟩) 3 3, .slice (some ⟨b_9, 0, none⟩) 3 3, .int .i64 0]) (caps := []) en_39 rfl rfl rfl rfl (fun w hc => by obtain ⟨G1, hle1, hrd1, hc, hth1⟩ := lend hc k1; obtain ⟨G2, hle2, hrd2, hc, hth2⟩ := lend hc k0; exact (share_Divisors_ok ([60, 30, 10] : List Int) ([6, 3, 0] : List Int) 0 (hrd1.mono hle2) hrd2 hc hr_15).mono fun e w h => ⟨h.1, ((hth1 _ _ ((hth2 _ _ h.2).unpick k0)).unpick k1)⟩)) fun a w hf hc => ?_
    refine stP hf rfl rfl rfl (pM rfl) fun a hf => ?_
    refine stP hf rfl rfl rfl (pX rfl rfl) fun a hf => ?_
    refine stP hf rfl rfl rfl (pX rfl rfl) fun a hf => ?_
    refine stP hf rfl rfl rfl (pX rfl rfl) fun a hf => ?_
    refine stAl (cs := [.int .i64 0, .int .i64 0]) hf hc rfl rfl zr_71 rfl fun b_10 a w hf hc => ?_
    refine stAl (cs := [.int .i64 0, .int .i64 0]) hf hc rfl rfl zr_71 rfl fun b_11 a w hf hc => ?_
    refine stSt (vs := [.int .i64 r_15.1.N, .int .i64 r_15.1.D]) hf hc rfl rfl rfl rfl sz_71 rfl rfl u1 fun w hc => ?_
    refine stSt (vs := [.int .i64 r_15.2.1.N, .int .i64 r_15.2.1.D]) hf hc rfl rfl rfl rfl sz_71 rfl rfl u0 fun w hc => ?_
    refine stP hf rfl rfl rfl (pA rfl) fun a hf => ?_
    refine cNil ?_
    refine h13 _ _ ?_
    refine wp_seq_k fun K14 h14 => ?_
    refine cReg ?_
    refine stBS (rows := ([60, 30, 10] : List Int).map encI_i64) (vs := [(0, .int .i64 60), (1, .int .i64 30), (2, .int .i64 10)]) hf hc rfl rfl sl_36 rfl ⟨rfl, rfl, rfl, rfl, rfl, rfl, rfl, rfl, rfl, trivial⟩ rfl rfl fun b_12 a w hf hc => ?_
    refine stBS (rows := ([7, 2, 0] : List Int).map encI_i64) (vs := [(0, .int .i64 7), (1, .int .i64 2), (2, .int .i64 0)]) hf hc rfl rfl sl_36 rfl ⟨rfl, rfl, rfl, rfl, rfl, rfl, rfl, rfl, rfl, trivial⟩ rfl rfl fun b_13 a w hf hc => ?_
    obtain ⟨r_16, hr_16, hF⟩ := bnd_some hF
    refine stE hf hc rfl rfl rfl (eC (v := .tuple #[.int .i64 r_16.1, .int .i64 r_16.2.1, .int .i64 r_16.2.2]) (vs := [.slice (some ⟨b_12, 0, none⟩) 3 3, .slice (some ⟨b_13, 0, none⟩) 3 3, .int .i64 0]) (caps := []) en_37 rfl rfl rfl rfl (fun w hc => by obtain ⟨G1, hle1, hrd1, hc, hth1⟩ := lend hc k1; obtain ⟨G2, hle2, hrd2, hc, hth2⟩ := lend hc k0; exact (share_Unfair_ok ([60, 30, 10] : List Int) ([7, 2, 0] : List Int) 0 (hrd1.mono hle2) hrd2 hc hr_16).mono fun e w h => ⟨h.1, ((hth1 _ _ ((hth2 _ _ h.2).unpick k0)).unpick k1)⟩)) fun a w hf hc => ?_
    refine stP hf rfl rfl rfl (pM rfl) fun a hf => ?_
    refine stP hf rfl rfl rfl (pX rfl rfl) fun a hf => ?_
    refine stP hf rfl rfl rfl (pX rfl rfl) fun a hf => ?_
    refine stP hf rfl rfl rfl (pX rfl rfl) fun a hf => ?_
    refine stP hf rfl rfl rfl (pA rfl) fun a hf => ?_
    refine stP hf rfl rfl rfl (pA rfl) fun a hf => ?_
    refine stP hf rfl rfl rfl (pA rfl) fun a hf => ?_
    refine cNil ?_
    refine h14 _ _ ?_
    refine wp_seq_k fun K15 h15 => ?_
    refine cReg ?_
    refine stP hf rfl rfl rfl (pM rfl) fun a hf => ?_
    refine stP hf rfl rfl rfl (pEq rfl rfl) fun a hf => ?_
    refine stP hf rfl rfl rfl (pM rfl) fun a hf => ?_
    refine stCut 3 (fun a w => Has 168 a [(2, .int .i64 r_12.2), (4, .int .i64 r_13.2), (6, .int .i64 r_14.2), (10, .int .i64 r_15.2.2), (11, .slice p_9 r_12.1.length c_9), (12, .slice p_10 r_13.1.length c_10), (13, .slice p_11 r_14.1.length c_11), (14, .pointer (some ⟨b_10, 0, none⟩)), (15, .pointer (some ⟨b_11, 0, none⟩)), (16, .int .i64 r_16.1), (17, .int .i64 r_16.2.1), (18, .int .i64 r_16.2.2), (117, .int .i64 r_12.2), (118, .bool (r_12.2 == 0)), (119, .bool (r_12.2 == 0)), (122, .bool ((r_12.2 == 0) && (r_13.2 == 0)))] ∧ Ctx G (.row (some ⟨b_13, 0, none⟩) 3 (([7, 2, 0] : List Int).map encI_i64) 3 1 :: .row (some ⟨b_12, 0, none⟩) 3 (([60, 30, 10] : List Int).map encI_i64) 3 1 :: .box b_11 [.int .i64 r_15.2.1.N, .int .i64 r_15.2.1.D] 71 :: .box b_10 [.int .i64 r_15.1.N, .int .i64 r_15.1.D] 71 :: .row (some ⟨b_9, 0, none⟩) 3 (([6, 3, 0] : List Int).map encI_i64) 3 1 :: .row (some ⟨b_8, 0, none⟩) 3 (([60, 30, 10] : List Int).map encI_i64) 3 1 :: .row (some ⟨b_7, 0, none⟩) 3 (([60, 30, 10] : List Int).map encI_i64) 3 1 :: .row p_11 c_11 (r_14.1.map encI_i64) 3 1 :: .row (some ⟨b_6, 0, none⟩) 3 (([60, 30, 10] : List Int).map encI_i64) 3 1 :: .row p_10 c_10 (r_13.1.map encI_i64) 3 1 :: .row (some ⟨b_5, 0, none⟩) 6 (([20, 30, 30, 40, 40, 40] : List Int).map encI_i64) 3 1 :: .row p_9 c_9 (r_12.1.map encI_i64) 3 1 :: .row p_6 c_6 (r_7.1.Table.map enc_share_Point) 116 2 :: .row p_7 c_7 (r_7.2.map enc_share_Year) 94 5 :: .row p_8 c_8 (r_8.1.map enc_api_Span) 26 2 :: .box b_1 [.slice p_6 r_7.1.Table.length c_6, .int .i64 r_7.1.Credit] 88 :: .row p_5 c_5 (r_5.Rights.map enc_share_Right) 51 3 :: .row p_3 c_3 (r_2.Rights.map enc_share_Right) 51 3 :: .row p_4 c_4 (r_4.1.map enc_api_Span) 26 2 :: .row p_1 c_1 (r.Rights.map enc_share_Right) 51 3 :: .row p_2 c_2 (r_1.1.map encI_i64) 3 1 :: Lf) w) ?_ ?_
    · cases hb : (r_12.2 == 0)
      · rw [hb] at hf
        refine stS hf rfl rfl rfl fun a hf => ?_
        refine stS hf rfl rfl rfl fun a hf => ?_
        refine stP hf rfl rfl rfl (pPf rfl rfl) fun a hf => ?_
        exact cNil ⟨hf.keep ⟨rfl, rfl, rfl, rfl, rfl, rfl, rfl, rfl, rfl, rfl, rfl, rfl, rfl, rfl, rfl, rfl, trivial⟩, hc⟩
      · rw [hb] at hf
        refine stP hf rfl rfl rfl (pM rfl) fun a hf => ?_
        refine stP hf rfl rfl rfl (pEq rfl rfl) fun a hf => ?_
        refine stP hf rfl rfl rfl (pPt rfl rfl) fun a hf => ?_
        exact cNil ⟨hf.keep ⟨rfl, rfl, rfl, rfl, rfl, rfl, rfl, rfl, rfl, rfl, rfl, rfl, rfl, rfl, rfl, rfl, trivial⟩, hc⟩
    intro a w ⟨hf, hc⟩
    refine stP hf rfl rfl rfl (pM rfl) fun a hf => ?_
    refine stCut 3 (fun a w => Has 168 a [(2, .int .i64 r_12.2), (4, .int .i64 r_13.2), (6, .int .i64 r_14.2), (10, .int .i64 r_15.2.2), (11, .slice p_9 r_12.1.length c_9), (12, .slice p_10 r_13.1.length c_10), (13, .slice p_11 r_14.1.length c_11), (14, .pointer (some ⟨b_10, 0, none⟩)), (15, .pointer (some ⟨b_11, 0, none⟩)), (16, .int .i64 r_16.1), (17, .int .i64 r_16.2.1), (18, .int .i64 r_16.2.2), (117, .int .i64 r_12.2), (118, .bool (r_12.2 == 0)), (119, .bool (r_12.2 == 0)), (122, .bool ((r_12.2 == 0) && (r_13.2 == 0))), (123, .bool ((r_12.2 == 0) && (r_13.2 == 0))), (126, .bool (((r_12.2 == 0) && (r_13.2 == 0)) && (r_14.2 == 0)))] ∧ Ctx G (.row (some ⟨b_13, 0, none⟩) 3 (([7, 2, 0] : List Int).map encI_i64) 3 1 :: .row (some ⟨b_12, 0, none⟩) 3 (([60, 30, 10] : List Int).map encI_i64) 3 1 :: .box b_11 [.int .i64 r_15.2.1.N, .int .i64 r_15.2.1.D] 71 :: .box b_10 [.int .i64 r_15.1.N, .int .i64 r_15.1.D] 71 :: .row (some ⟨b_9, 0, none⟩) 3 (([6, 3, 0] : List Int).map encI_i64) 3 1 :: .row (some ⟨b_8, 0, none⟩) 3 (([60, 30, 10] : List Int).map encI_i64) 3 1 :: .row (some ⟨b_7, 0, none⟩) 3 (([60, 30, 10] : List Int).map encI_i64) 3 1 :: .row p_11 c_11 (r_14.1.map encI_i64) 3 1 :: .row (some ⟨b_6, 0, none⟩) 3 (([60, 30, 10] : List Int).map encI_i64) 3 1 :: .row p_10 c_10 (r_13.1.map encI_i64) 3 1 :: .row (some ⟨b_5, 0, none⟩) 6 (([20, 30, 30, 40, 40, 40] : List Int).map encI_i64) 3 1 :: .row p_9 c_9 (r_12.1.map encI_i64) 3 1 :: .row p_6 c_6 (r_7.1.Table.map enc_share_Point) 116 2 :: .row p_7 c_7 (r_7.2.map enc_share_Year) 94 5 :: .row p_8 c_8 (r_8.1.map enc_api_Span) 26 2 :: .box b_1 [.slice p_6 r_7.1.Table.length c_6, .int .i64 r_7.1.Credit] 88 :: .row p_5 c_5 (r_5.Rights.map enc_share_Right) 51 3 :: .row p_3 c_3 (r_2.Rights.map enc_share_Right) 51 3 :: .row p_4 c_4 (r_4.1.map enc_api_Span) 26 2 :: .row p_1 c_1 (r.Rights.map enc_share_Right) 51 3 :: .row p_2 c_2 (r_1.1.map encI_i64) 3 1 :: Lf) w) ?_ ?_
    · cases hb : ((r_12.2 == 0) && (r_13.2 == 0))
      · rw [hb] at hf
        refine stS hf rfl rfl rfl fun a hf => ?_
        refine stS hf rfl rfl rfl fun a hf => ?_
        refine stP hf rfl rfl rfl (pPf rfl rfl) fun a hf => ?_
        exact cNil ⟨hf.keep ⟨rfl, rfl, rfl, rfl, rfl, rfl, rfl, rfl, rfl, rfl, rfl, rfl, rfl, rfl, rfl, rfl, rfl, rfl, trivial⟩, hc⟩
      · rw [hb] at hf
        refine stP hf rfl rfl rfl (pM rfl) fun a hf => ?_
        refine stP hf rfl rfl rfl (pEq rfl rfl) fun a hf => ?_
        refine stP hf rfl rfl rfl (pPt rfl rfl) fun a hf => ?_
        exact cNil ⟨hf.keep ⟨rfl, rfl, rfl, rfl, rfl, rfl, rfl, rfl, rfl, rfl, rfl, rfl, rfl, rfl, rfl, rfl, rfl, rfl, trivial⟩, hc⟩
    intro a w ⟨hf, hc⟩
    refine stP hf rfl rfl rfl (pM rfl) fun a hf => ?_
    refine stCut 3 (fun a w => Has 168 a [(2, .int .i64 r_12.2), (4, .int .i64 r_13.2), (6, .int .i64 r_14.2), (10, .int .i64 r_15.2.2), (11, .slice p_9 r_12.1.length c_9), (12, .slice p_10 r_13.1.length c_10), (13, .slice p_11 r_14.1.length c_11), (14, .pointer (some ⟨b_10, 0, none⟩)), (15, .pointer (some ⟨b_11, 0, none⟩)), (16, .int .i64 r_16.1), (17, .int .i64 r_16.2.1), (18, .int .i64 r_16.2.2), (117, .int .i64 r_12.2), (118, .bool (r_12.2 == 0)), (119, .bool (r_12.2 == 0)), (122, .bool ((r_12.2 == 0) && (r_13.2 == 0))), (123, .bool ((r_12.2 == 0) && (r_13.2 == 0))), (126, .bool (((r_12.2 == 0) && (r_13.2 == 0)) && (r_14.2 == 0))), (127, .bool (((r_12.2 == 0) && (r_13.2 == 0)) && (r_14.2 == 0))), (130, .bool ((((r_12.2 == 0) && (r_13.2 == 0)) && (r_14.2 == 0)) && (r_15.2.2 == 0)))] ∧ Ctx G (.row (some ⟨b_13, 0, none⟩) 3 (([7, 2, 0] : List Int).map encI_i64) 3 1 :: .row (some ⟨b_12, 0, none⟩) 3 (([60, 30, 10] : List Int).map encI_i64) 3 1 :: .box b_11 [.int .i64 r_15.2.1.N, .int .i64 r_15.2.1.D] 71 :: .box b_10 [.int .i64 r_15.1.N, .int .i64 r_15.1.D] 71 :: .row (some ⟨b_9, 0, none⟩) 3 (([6, 3, 0] : List Int).map encI_i64) 3 1 :: .row (some ⟨b_8, 0, none⟩) 3 (([60, 30, 10] : List Int).map encI_i64) 3 1 :: .row (some ⟨b_7, 0, none⟩) 3 (([60, 30, 10] : List Int).map encI_i64) 3 1 :: .row p_11 c_11 (r_14.1.map encI_i64) 3 1 :: .row (some ⟨b_6, 0, none⟩) 3 (([60, 30, 10] : List Int).map encI_i64) 3 1 :: .row p_10 c_10 (r_13.1.map encI_i64) 3 1 :: .row (some ⟨b_5, 0, none⟩) 6 (([20, 30, 30, 40, 40, 40] : List Int).map encI_i64) 3 1 :: .row p_9 c_9 (r_12.1.map encI_i64) 3 1 :: .row p_6 c_6 (r_7.1.Table.map enc_share_Point) 116 2 :: .row p_7 c_7 (r_7.2.map enc_share_Year) 94 5 :: .row p_8 c_8 (r_8.1.map enc_api_Span) 26 2 :: .box b_1 [.slice p_6 r_7.1.Table.length c_6, .int .i64 r_7.1.Credit] 88 :: .row p_5 c_5 (r_5.Rights.map enc_share_Right) 51 3 :: .row p_3 c_3 (r_2.Rights.map enc_share_Right) 51 3 :: .row p_4 c_4 (r_4.1.map enc_api_Span) 26 2 :: .row p_1 c_1 (r.Rights.map enc_share_Right) 51 3 :: .row p_2 c_2 (r_1.1.map encI_i64) 3 1 :: Lf) w) ?_ ?_
    · cases hb : (((r_12.2 == 0) && (r_13.2 == 0)) && (r_14.2 == 0))
      · rw [hb] at hf
        refine stS hf rfl rfl rfl fun a hf => ?_
        refine stS hf rfl rfl rfl fun a hf => ?_
        refine stP hf rfl rfl rfl (pPf rfl rfl) fun a hf => ?_
        exact cNil ⟨hf.keep ⟨rfl, rfl, rfl, rfl, rfl, rfl, rfl, rfl, rfl, rfl, rfl, rfl, rfl, rfl, rfl, rfl, rfl, rfl, rfl, rfl, trivial⟩, hc⟩
      · rw [hb] at hf
        refine stP hf rfl rfl rfl (pM rfl) fun a hf => ?_
        refine stP hf rfl rfl rfl (pEq rfl rfl) fun a hf => ?_
        refine stP hf rfl rfl rfl (pPt rfl rfl) fun a hf => ?_
        exact cNil ⟨hf.keep ⟨rfl, rfl, rfl, rfl, rfl, rfl, rfl, rfl, rfl, rfl, rfl, rfl, rfl, rfl, rfl, rfl, rfl, rfl, rfl, rfl, trivial⟩, hc⟩
    intro a w ⟨hf, hc⟩
    refine stP hf rfl rfl rfl (pM rfl) fun a hf => ?_
    refine stCut 3 (fun a w => Has 168 a [(2, .int .i64 r_12.2), (4, .int .i64 r_13.2), (6, .int .i64 r_14.2), (10, .int .i64 r_15.2.2), (11, .slice p_9 r_12.1.length c_9), (12, .slice p_10 r_13.1.length c_10), (13, .slice p_11 r_14.1.length c_11), (14, .pointer (some ⟨b_10, 0, none⟩)), (15, .pointer (some ⟨b_11, 0, none⟩)), (16, .int .i64 r_16.1), (17, .int .i64 r_16.2.1), (18, .int .i64 r_16.2.2), (117, .int .i64 r_12.2), (118, .bool (r_12.2 == 0)), (119, .bool (r_12.2 == 0)), (122, .bool ((r_12.2 == 0) && (r_13.2 == 0))), (123, .bool ((r_12.2 == 0) && (r_13.2 == 0))), (126, .bool (((r_12.2 == 0) && (r_13.2 == 0)) && (r_14.2 == 0))), (127, .bool (((r_12.2 == 0) && (r_13.2 == 0)) && (r_14.2 == 0))), (130, .bool ((((r_12.2 == 0) && (r_13.2 == 0)) && (r_14.2 == 0)) && (r_15.2.2 == 0))), (131, .bool ((((r_12.2 == 0) && (r_13.2 == 0)) && (r_14.2 == 0)) && (r_15.2.2 == 0))), (134, .bool (((((r_12.2 == 0) && (r_13.2 == 0)) && (r_14.2 == 0)) && (r_15.2.2 == 0)) && (r_16.2.2 == 0)))] ∧ Ctx G (.row (some ⟨b_13, 0, none⟩) 3 (([7, 2, 0] : List Int).map encI_i64) 3 1 :: .row (some ⟨b_12, 0, none⟩) 3 (([60, 30, 10] : List Int).map encI_i64) 3 1 :: .box b_11 [.int .i64 r_15.2.1.N, .int .i64 r_15.2.1.D] 71 :: .box b_10 [.int .i64 r_15.1.N, .int .i64 r_15.1.D] 71 :: .row (some ⟨b_9, 0, none⟩) 3 (([6, 3, 0] : List Int).map encI_i64) 3 1 :: .row (some ⟨b_8, 0, none⟩) 3 (([60, 30, 10] : List Int).map encI_i64) 3 1 :: .row (some ⟨b_7, 0, none⟩) 3 (([60, 30, 10] : List Int).map encI_i64) 3 1 :: .row p_11 c_11 (r_14.1.map encI_i64) 3 1 :: .row (some ⟨b_6, 0, none⟩) 3 (([60, 30, 10] : List Int).map encI_i64) 3 1 :: .row p_10 c_10 (r_13.1.map encI_i64) 3 1 :: .row (some ⟨b_5, 0, none⟩) 6 (([20, 30, 30, 40, 40, 40] : List Int).map encI_i64) 3 1 :: .row p_9 c_9 (r_12.1.map encI_i64) 3 1 :: .row p_6 c_6 (r_7.1.Table.map enc_share_Point) 116 2 :: .row p_7 c_7 (r_7.2.map enc_share_Year) 94 5 :: .row p_8 c_8 (r_8.1.map enc_api_Span) 26 2 :: .box b_1 [.slice p_6 r_7.1.Table.length c_6, .int .i64 r_7.1.Credit] 88 :: .row p_5 c_5 (r_5.Rights.map enc_share_Right) 51 3 :: .row p_3 c_3 (r_2.Rights.map enc_share_Right) 51 3 :: .row p_4 c_4 (r_4.1.map enc_api_Span) 26 2 :: .row p_1 c_1 (r.Rights.map enc_share_Right) 51 3 :: .row p_2 c_2 (r_1.1.map encI_i64) 3 1 :: Lf) w) ?_ ?_
    · cases hb : ((((r_12.2 == 0) && (r_13.2 == 0)) && (r_14.2 == 0)) && (r_15.2.2 == 0))
      · rw [hb] at hf
        refine stS hf rfl rfl rfl fun a hf => ?_
        refine stS hf rfl rfl rfl fun a hf => ?_
        refine stP hf rfl rfl rfl (pPf rfl rfl) fun a hf => ?_
        exact cNil ⟨hf.keep ⟨rfl, rfl, rfl, rfl, rfl, rfl, rfl, rfl, rfl, rfl, rfl, rfl, rfl, rfl, rfl, rfl, rfl, rfl, rfl, rfl, rfl, rfl, trivial⟩, hc⟩
      · rw [hb] at hf
        refine stP hf rfl rfl rfl (pM rfl) fun a hf => ?_
        refine stP hf rfl rfl rfl (pEq rfl rfl) fun a hf => ?_
        refine stP hf rfl rfl rfl (pPt rfl rfl) fun a hf => ?_
        exact cNil ⟨hf.keep ⟨rfl, rfl, rfl, rfl, rfl, rfl, rfl, rfl, rfl, rfl, rfl, rfl, rfl, rfl, rfl, rfl, rfl, rfl, rfl, rfl, rfl, rfl, trivial⟩, hc⟩
    intro a w ⟨hf, hc⟩
    refine stP hf rfl rfl rfl (pM rfl) fun a hf => ?_
    obtain ⟨t_4, ht_4, hF⟩ := bnd_some hF
    refine stCut 4 (fun a w => Has 168 a [(2, .int .i64 r_12.2), (4, .int .i64 r_13.2), (6, .int .i64 r_14.2), (10, .int .i64 r_15.2.2), (11, .slice p_9 r_12.1.length c_9), (12, .slice p_10 r_13.1.length c_10), (13, .slice p_11 r_14.1.length c_11), (14, .pointer (some ⟨b_10, 0, none⟩)), (15, .pointer (some ⟨b_11, 0, none⟩)), (16, .int .i64 r_16.1), (17, .int .i64 r_16.2.1), (18, .int .i64 r_16.2.2), (117, .int .i64 r_12.2), (118, .bool (r_12.2 == 0)), (119, .bool (r_12.2 == 0)), (122, .bool ((r_12.2 == 0) && (r_13.2 == 0))), (123, .bool ((r_12.2 == 0) && (r_13.2 == 0))), (126, .bool (((r_12.2 == 0) && (r_13.2 == 0)) && (r_14.2 == 0))), (127, .bool (((r_12.2 == 0) && (r_13.2 == 0)) && (r_14.2 == 0))), (130, .bool ((((r_12.2 == 0) && (r_13.2 == 0)) && (r_14.2 == 0)) && (r_15.2.2 == 0))), (131, .bool ((((r_12.2 == 0) && (r_13.2 == 0)) && (r_14.2 == 0)) && (r_15.2.2 == 0))), (134, .bool (((((r_12.2 == 0) && (r_13.2 == 0)) && (r_14.2 == 0)) && (r_15.2.2 == 0)) && (r_16.2.2 == 0))), (135, .bool (((((r_12.2 == 0) && (r_13.2 == 0)) && (r_14.2 == 0)) && (r_15.2.2 == 0)) && (r_16.2.2 == 0))), (139, .bool t_4)] ∧ Ctx G (.row (some ⟨b_13, 0, none⟩) 3 (([7, 2, 0] : List Int).map encI_i64) 3 1 :: .row (some ⟨b_12, 0, none⟩) 3 (([60, 30, 10] : List Int).map encI_i64) 3 1 :: .box b_11 [.int .i64 r_15.2.1.N, .int .i64 r_15.2.1.D] 71 :: .box b_10 [.int .i64 r_15.1.N, .int .i64 r_15.1.D] 71 :: .row (some ⟨b_9, 0, none⟩) 3 (([6, 3, 0] : List Int).map encI_i64) 3 1 :: .row (some ⟨b_8, 0, none⟩) 3 (([60, 30, 10] : List Int).map encI_i64) 3 1 :: .row (some ⟨b_7, 0, none⟩) 3 (([60, 30, 10] : List Int).map encI_i64) 3 1 :: .row p_11 c_11 (r_14.1.map encI_i64) 3 1 :: .row (some ⟨b_6, 0, none⟩) 3 (([60, 30, 10] : List Int).map encI_i64) 3 1 :: .row p_10 c_10 (r_13.1.map encI_i64) 3 1 :: .row (some ⟨b_5, 0, none⟩) 6 (([20, 30, 30, 40, 40, 40] : List Int).map encI_i64) 3 1 :: .row p_9 c_9 (r_12.1.map encI_i64) 3 1 :: .row p_6 c_6 (r_7.1.Table.map enc_share_Point) 116 2 :: .row p_7 c_7 (r_7.2.map enc_share_Year) 94 5 :: .row p_8 c_8 (r_8.1.map enc_api_Span) 26 2 :: .box b_1 [.slice p_6 r_7.1.Table.length c_6, .int .i64 r_7.1.Credit] 88 :: .row p_5 c_5 (r_5.Rights.map enc_share_Right) 51 3 :: .row p_3 c_3 (r_2.Rights.map enc_share_Right) 51 3 :: .row p_4 c_4 (r_4.1.map enc_api_Span) 26 2 :: .row p_1 c_1 (r.Rights.map enc_share_Right) 51 3 :: .row p_2 c_2 (r_1.1.map encI_i64) 3 1 :: Lf) w) ?_ ?_
    · cases hb : (((((r_12.2 == 0) && (r_13.2 == 0)) && (r_14.2 == 0)) && (r_15.2.2 == 0)) && (r_16.2.2 == 0))
      · rw [hb] at hf
        have hF := condF hb ht_4
        obtain rfl := Option.some.inj hF
        refine stS hf rfl rfl rfl fun a hf => ?_
        refine stS hf rfl rfl rfl fun a hf => ?_
        refine stS hf rfl rfl rfl fun a hf => ?_
        refine stP hf rfl rfl rfl (pPf rfl rfl) fun a hf => ?_
        exact cNil ⟨hf.keep ⟨rfl, rfl, rfl, rfl, rfl, rfl, rfl, rfl, rfl, rfl, rfl, rfl, rfl, rfl, rfl, rfl, rfl, rfl, rfl, rfl, rfl, rfl, rfl, rfl, trivial⟩, hc⟩
      · rw [hb] at hf
        have hF := condT hb ht_4
        refine stP hf rfl rfl rfl (pM rfl) fun a hf => ?_
        refine stBS (rows := ([20, 20, 15, 15, 15, 15] : List Int).map encI_i64) (vs := [(0, .int .i64 20), (1, .int .i64 20), (2, .int .i64 15), (3, .int .i64 15), (4, .int .i64 15), (5, .int .i64 15)]) hf hc rfl rfl sl_36 rfl ⟨rfl, rfl, rfl, rfl, rfl, rfl, rfl, rfl, rfl, rfl, rfl, rfl, rfl, rfl, rfl, rfl, rfl, rfl, trivial⟩ rfl rfl fun b_14 a w hf hc => ?_
        obtain ⟨r_17, hr_17, hF⟩ := bnd_some hF
        refine stE hf hc rfl rfl rfl (eC (v := .bool r_17) (vs := [.slice p_9 r_12.1.length c_9, .slice (some ⟨b_14, 0, none⟩) 6 6]) (caps := []) en_20 rfl rfl rfl rfl (fun w hc => by obtain ⟨G1, hle1, hrd1, hc, hth1⟩ := lend hc k12; obtain ⟨G2, hle2, hrd2, hc, hth2⟩ := lend hc k0; exact (kit_Same_int_ok r_12.1 ([20, 20, 15, 15, 15, 15] : List Int) (hrd1.mono hle2) hrd2 hc hr_17).mono fun e w h => ⟨h.1, ((hth1 _ _ ((hth2 _ _ h.2).unpick k0)).unpick k12)⟩)) fun a w hf hc => ?_
        refine stP hf rfl rfl rfl (pPt rfl rfl) fun a hf => ?_
        replace hc := hc.drop k0
        obtain rfl := Option.some.inj hF
        exact cNil ⟨hf.keep ⟨rfl, rfl, rfl, rfl, rfl, rfl, rfl, rfl, rfl, rfl, rfl, rfl, rfl, rfl, rfl, rfl, rfl, rfl, rfl, rfl, rfl, rfl, rfl, rfl, trivial⟩, hc⟩
    intro a w ⟨hf, hc⟩
    refine stP hf rfl rfl rfl (pM rfl) fun a hf => ?_
    obtain ⟨t_5, ht_5, hF⟩ := bnd_some hF
    refine stCut 4 (fun a w => Has 168 a [(2, .int .i64 r_12.2), (4, .int .i64 r_13.2), (6, .int .i64 r_14.2), (10, .int .i64 r_15.2.2), (11, .slice p_9 r_12.1.length c_9), (12, .slice p_10 r_13.1.length c_10), (13, .slice p_11 r_14.1.length c_11), (14, .pointer (some ⟨b_10, 0, none⟩)), (15, .pointer (some ⟨b_11, 0, none⟩)), (16, .int .i64 r_16.1), (17, .int .i64 r_16.2.1), (18, .int .i64 r_16.2.2), (117, .int .i64 r_12.2), (118, .bool (r_12.2 == 0)), (119, .bool (r_12.2 == 0)), (122, .bool ((r_12.2 == 0) && (r_13.2 == 0))), (123, .bool ((r_12.2 == 0) && (r_13.2 == 0))), (126, .bool (((r_12.2 == 0) && (r_13.2 == 0)) && (r_14.2 == 0))), (127, .bool (((r_12.2 == 0) && (r_13.2 == 0)) && (r_14.2 == 0))), (130, .bool ((((r_12.2 == 0) && (r_13.2 == 0)) && (r_14.2 == 0)) && (r_15.2.2 == 0))), (131, .bool ((((r_12.2 == 0) && (r_13.2 == 0)) && (r_14.2 == 0)) && (r_15.2.2 == 0))), (134, .bool (((((r_12.2 == 0) && (r_13.2 == 0)) && (r_14.2 == 0)) && (r_15.2.2 == 0)) && (r_16.2.2 == 0))), (135, .bool (((((r_12.2 == 0) && (r_13.2 == 0)) && (r_14.2 == 0)) && (r_15.2.2 == 0)) && (r_16.2.2 == 0))), (139, .bool t_4), (140, .bool t_4), (144, .bool t_5)] ∧ Ctx G (.row (some ⟨b_13, 0, none⟩) 3 (([7, 2, 0] : List Int).map encI_i64) 3 1 :: .row (some ⟨b_12, 0, none⟩) 3 (([60, 30, 10] : List Int).map encI_i64) 3 1 :: .box b_11 [.int .i64 r_15.2.1.N, .int .i64 r_15.2.1.D] 71 :: .box b_10 [.int .i64 r_15.1.N, .int .i64 r_15.1.D] 71 :: .row (some ⟨b_9, 0, none⟩) 3 (([6, 3, 0] : List Int).map encI_i64) 3 1 :: .row (some ⟨b_8, 0, none⟩) 3 (([60, 30, 10] : List Int).map encI_i64) 3 1 :: .row (some ⟨b_7, 0, none⟩) 3 (([60, 30, 10] : List Int).map encI_i64) 3 1 :: .row p_11 c_11 (r_14.1.map encI_i64) 3 1 :: .row (some ⟨b_6, 0, none⟩) 3 (([60, 30, 10] : List Int).map encI_i64) 3 1 :: .row p_10 c_10 (r_13.1.map encI_i64) 3 1 :: .row (some ⟨b_5, 0, none⟩) 6 (([20, 30, 30, 40, 40, 40] : List Int).map encI_i64) 3 1 :: .row p_9 c_9 (r_12.1.map encI_i64) 3 1 :: .row p_6 c_6 (r_7.1.Table.map enc_share_Point) 116 2 :: .row p_7 c_7 (r_7.2.map enc_share_Year) 94 5 :: .row p_8 c_8 (r_8.1.map enc_api_Span) 26 2 :: .box b_1 [.slice p_6 r_7.1.Table.length c_6, .int .i64 r_7.1.Credit] 88 :: .row p_5 c_5 (r_5.Rights.map enc_share_Right) 51 3 :: .row p_3 c_3 (r_2.Rights.map enc_share_Right) 51 3 :: .row p_4 c_4 (r_4.1.map enc_api_Span) 26 2 :: .row p_1 c_1 (r.Rights.map enc_share_Right) 51 3 :: .row p_2 c_2 (r_1.1.map encI_i64) 3 1 :: Lf) w) ?_ ?_
    · cases hb : t_4
      · rw [hb] at hf
        have hF := condF hb ht_5
        obtain rfl := Option.some.inj hF
        refine stS hf rfl rfl rfl fun a hf => ?_
        refine stS hf rfl rfl rfl fun a hf => ?_
        refine stS hf rfl rfl rfl fun a hf => ?_
        refine stP hf rfl rfl rfl (pPf rfl rfl) fun a hf => ?_
        exact cNil ⟨hf.keep ⟨rfl, rfl, rfl, rfl, rfl, rfl, rfl, rfl, rfl, rfl, rfl, rfl, rfl, rfl, rfl, rfl, rfl, rfl, rfl, rfl, rfl, rfl, rfl, rfl, rfl, rfl, trivial⟩, hc⟩
      · rw [hb] at hf
        have hF := condT hb ht_5
        refine stP hf rfl rfl rfl (pM rfl) fun a hf => ?_
        refine stBS (rows := ([6, 3, 0] : List Int).map encI_i64) (vs := [(0, .int .i64 6), (1, .int .i64 3), (2, .int .i64 0)]) hf hc rfl rfl sl_36 rfl ⟨rfl, rfl, rfl, rfl, rfl, rfl, rfl, rfl, rfl, trivial⟩ rfl rfl fun b_15 a w hf hc => ?_
        obtain ⟨r_18, hr_18, hF⟩ := bnd_some hF
        refine stE hf hc rfl rfl rfl (eC (v := .bool r_18) (vs := [.slice p_10 r_13.1.length c_10, .slice (some ⟨b_15, 0, none⟩) 3 3]) (caps := []) en_20 rfl rfl rfl rfl (fun w hc => by obtain ⟨G1, hle1, hrd1, hc, hth1⟩ := lend hc k10; obtain ⟨G2, hle2, hrd2, hc, hth2⟩ := lend hc k0; exact (kit_Same_int_ok r_13.1 ([6, 3, 0] : List Int) (hrd1.mono hle2) hrd2 hc hr_18).mono fun e w h => ⟨h.1, ((hth1 _ _ ((hth2 _ _ h.2).unpick k0)).unpick k10)⟩)) fun a w hf hc => ?_
        refine stP hf rfl rfl rfl (pPt rfl rfl) fun a hf => ?_
        replace hc := hc.drop k0
        obtain rfl := Option.some.inj hF
        exact cNil ⟨hf.keep ⟨rfl, rfl, rfl, rfl, rfl, rfl, rfl, rfl, rfl, rfl, rfl, rfl, rfl, rfl, rfl, rfl, rfl, rfl, rfl, rfl, rfl, rfl, rfl, rfl, rfl, rfl, trivial⟩, hc⟩
    intro a w ⟨hf, hc⟩
    refine stP hf rfl rfl rfl (pM rfl) fun a hf => ?_
    obtain ⟨t_6, ht_6, hF⟩ := bnd_some hF
    refine stCut 4 (fun a w => Has 168 a [(2, .int .i64 r_12.2), (4, .int .i64 r_13.2), (6, .int .i64 r_14.2), (10, .int .i64 r_15.2.2), (11, .slice p_9 r_12.1.length c_9), (12, .slice p_10 r_13.1.length c_10), (13, .slice p_11 r_14.1.length c_11), (14, .pointer (some ⟨b_10, 0, none⟩)), (15, .pointer (some ⟨b_11, 0, none⟩)), (16, .int .i64 r_16.1), (17, .int .i64 r_16.2.1), (18, .int .i64 r_16.2.2), (117, .int .i64 r_12.2), (118, .bool (r_12.2 == 0)), (119, .bool (r_12.2 == 0)), (122, .bool ((r_12.2 == 0) && (r_13.2 == 0))), (123, .bool ((r_12.2 == 0) && (r_13.2 == 0))), (126, .bool (((r_12.2 == 0) && (r_13.2 == 0)) && (r_14.2 == 0))), (127, .bool (((r_12.2 == 0) && (r_13.2 == 0)) && (r_14.2 == 0))), (130, .bool ((((r_12.2 == 0) && (r_13.2 == 0)) && (r_14.2 == 0)) && (r_15.2.2 == 0))), (131, .bool ((((r_12.2 == 0) && (r_13.2 == 0)) && (r_14.2 == 0)) && (r_15.2.2 == 0))), (134, .bool (((((r_12.2 == 0) && (r_13.2 == 0)) && (r_14.2 == 0)) && (r_15.2.2 == 0)) && (r_16.2.2 == 0))), (135, .bool (((((r_12.2 == 0) && (r_13.2 == 0)) && (r_14.2 == 0)) && (r_15.2.2 == 0)) && (r_16.2.2 == 0))), (139, .bool t_4), (140, .bool t_4), (144, .bool t_5), (145, .bool t_5), (149, .bool t_6)] ∧ Ctx G (.row (some ⟨b_13, 0, none⟩) 3 (([7, 2, 0] : List Int).map encI_i64) 3 1 :: .row (some ⟨b_12, 0, none⟩) 3 (([60, 30, 10] : List Int).map encI_i64) 3 1 :: .box b_11 [.int .i64 r_15.2.1.N, .int .i64 r_15.2.1.D] 71 :: .box b_10 [.int .i64 r_15.1.N, .int .i64 r_15.1.D] 71 :: .row (some ⟨b_9, 0, none⟩) 3 (([6, 3, 0] : List Int).map encI_i64) 3 1 :: .row (some ⟨b_8, 0, none⟩) 3 (([60, 30, 10] : List Int).map encI_i64) 3 1 :: .row (some ⟨b_7, 0, none⟩) 3 (([60, 30, 10] : List Int).map encI_i64) 3 1 :: .row p_11 c_11 (r_14.1.map encI_i64) 3 1 :: .row (some ⟨b_6, 0, none⟩) 3 (([60, 30, 10] : List Int).map encI_i64) 3 1 :: .row p_10 c_10 (r_13.1.map encI_i64) 3 1 :: .row (some ⟨b_5, 0, none⟩) 6 (([20, 30, 30, 40, 40, 40] : List Int).map encI_i64) 3 1 :: .row p_9 c_9 (r_12.1.map encI_i64) 3 1 :: .row p_6 c_6 (r_7.1.Table.map enc_share_Point) 116 2 :: .row p_7 c_7 (r_7.2.map enc_share_Year) 94 5 :: .row p_8 c_8 (r_8.1.map enc_api_Span) 26 2 :: .box b_1 [.slice p_6 r_7.1.Table.length c_6, .int .i64 r_7.1.Credit] 88 :: .row p_5 c_5 (r_5.Rights.map enc_share_Right) 51 3 :: .row p_3 c_3 (r_2.Rights.map enc_share_Right) 51 3 :: .row p_4 c_4 (r_4.1.map enc_api_Span) 26 2 :: .row p_1 c_1 (r.Rights.map enc_share_Right) 51 3 :: .row p_2 c_2 (r_1.1.map encI_i64) 3 1 :: Lf) w) ?_ ?_
    · cases hb : t_5
      · rw [hb] at hf
        have hF := condF hb ht_6
        obtain rfl := Option.some.inj hF
        refine stS hf rfl rfl rfl fun a hf => ?_
        refine stS hf rfl rfl rfl fun a hf => ?_
        refine stS hf rfl rfl rfl fun a hf => ?_
        refine stP hf rfl rfl rfl (pPf rfl rfl) fun a hf => ?_
        exact cNil ⟨hf.keep ⟨rfl, rfl, rfl, rfl, rfl, rfl, rfl, rfl, rfl, rfl, rfl, rfl, rfl, rfl, rfl, rfl, rfl, rfl, rfl, rfl, rfl, rfl, rfl, rfl, rfl, rfl, rfl, rfl, trivial⟩, hc⟩
      · rw [hb] at hf
        have hF := condT hb ht_6
        refine stP hf rfl rfl rfl (pM rfl) fun a hf => ?_
        refine stBS (rows := ([5, 3, 1] : List Int).map encI_i64) (vs := [(0, .int .i64 5), (1, .int .i64 3), (2, .int .i64 1)]) hf hc rfl rfl sl_36 rfl ⟨rfl, rfl, rfl, rfl, rfl, rfl, rfl, rfl, rfl, trivial⟩ rfl rfl fun b_16 a w hf hc => ?_
        obtain ⟨r_19, hr_19, hF⟩ := bnd_some hF
        refine stE hf hc rfl rfl rfl (eC (v := .bool r_19) (vs := [.slice p_11 r_14.1.length c_11, .slice (some ⟨b_16, 0, none⟩) 3 3]) (caps := []) en_20 rfl rfl rfl rfl (fun w hc => by obtain ⟨G1, hle1, hrd1, hc, hth1⟩ := lend hc k8; obtain ⟨G2, hle2, hrd2, hc, hth2⟩ := lend hc k0; exact (kit_Same_int_ok r_14.1 ([5, 3, 1] : List Int) (hrd1.mono hle2) hrd2 hc hr_19).mono fun e w h => ⟨h.1, ((hth1 _ _ ((hth2 _ _ h.2).unpick k0)).unpick k8)⟩)) fun a w hf hc => ?_
        refine stP hf rfl rfl rfl (pPt rfl rfl) fun a hf => ?_
        replace hc := hc.drop k0
        obtain rfl := Option.some.inj hF
        exact cNil ⟨hf.keep ⟨rfl, rfl, rfl, rfl, rfl, rfl, rfl, rfl, rfl, rfl, rfl, rfl, rfl, rfl, rfl, rfl, rfl, rfl, rfl, rfl, rfl, rfl, rfl, rfl, rfl, rfl, rfl, rfl, trivial⟩, hc⟩
    intro a w ⟨hf, hc⟩
    refine stP hf rfl rfl rfl (pM rfl) fun a hf => ?_
    refine stCut 4 (fun a w => Has 168 a ((2, .int .i64 r_12.2) :: (4, .int .i64 r_13.2) :: (6, .int .i64 r_14.2) :: (10, .int .i64 r_15.2.2) :: (11, .slice p_9 r_12.1.length c_9) :: (12, .slice p_10 r_13.1.length c_10) :: (13, .slice p_11 r_14.1.length c_11) :: (14, .pointer (some ⟨b_10, 0, none⟩)) :: (15, .pointer (some ⟨b_11, 0, none⟩)) :: (16, .int .i64 r_16.1) :: (17, .int .i64 r_16.2.1) :: (18, .int .i64 r_16.2.2) :: (117, .int .i64 r_12.2) :: (118, .bool (r_12.2 == 0)) :: (119, .bool (r_12.2 == 0)) :: (122, .bool ((r_12.2 == 0) && (r_13.2 == 0))) :: (123, .bool ((r_12.2 == 0) && (r_13.2 == 0))) :: (126, .bool (((r_12.2 == 0) && (r_13.2 == 0)) && (r_14.2 == 0))) :: (127, .bool (((r_12.2 == 0) && (r_13.2 == 0)) && (r_14.2 == 0))) :: (130, .bool ((((r_12.2 == 0) && (r_13.2 == 0)) && (r_14.2 == 0)) && (r_15.2.2 == 0))) :: (131, .bool ((((r_12.2 == 0) && (r_13.2 == 0)) && (r_14.2 == 0)) && (r_15.2.2 == 0))) :: (134, .bool (((((r_12.2 == 0) && (r_13.2 == 0)) && (r_14.2 == 0)) && (r_15.2.2 == 0)) && (r_16.2.2 == 0))) :: (135, .bool (((((r_12.2 == 0) && (r_13.2 == 0)) && (r_14.2 == 0)) && (r_15.2.2 == 0)) && (r_16.2.2 == 0))) :: (139, .bool t_4) :: (140, .bool t_4) :: (144, .bool t_5) :: (145, .bool t_5) :: (149, .bool t_6) :: (150, .bool t_6) :: (154, .bool (t_6 && (r_15.1.N == 10 && r_15.1.D == 1))) :: []) ∧ Ctx G (.row (some ⟨b_13, 0, none⟩) 3 (([7, 2, 0] : List Int).map encI_i64) 3 1 :: .row (some ⟨b_12, 0, none⟩) 3 (([60, 30, 10] : List Int).map encI_i64) 3 1 :: .box b_11 [.int .i64 r_15.2.1.N, .int .i64 r_15.2.1.D] 71 :: .box b_10 [.int .i64 r_15.1.N, .int .i64 r_15.1.D] 71 :: .row (some ⟨b_9, 0, none⟩) 3 (([6, 3, 0] : List Int).map encI_i64) 3 1 :: .row (some ⟨b_8, 0, none⟩) 3 (([60, 30, 10] : List Int).map encI_i64) 3 1 :: .row (some ⟨b_7, 0, none⟩) 3 (([60, 30, 10] : List Int).map encI_i64) 3 1 :: .row p_11 c_11 (r_14.1.map encI_i64) 3 1 :: .row (some ⟨b_6, 0, none⟩) 3 (([60, 30, 10] : List Int).map encI_i64) 3 1 :: .row p_10 c_10 (r_13.1.map encI_i64) 3 1 :: .row (some ⟨b_5, 0, none⟩) 6 (([20, 30, 30, 40, 40, 40] : List Int).map encI_i64) 3 1 :: .row p_9 c_9 (r_12.1.map encI_i64) 3 1 :: .row p_6 c_6 (r_7.1.Table.map enc_share_Point) 116 2 :: .row p_7 c_7 (r_7.2.map enc_share_Year) 94 5 :: .row p_8 c_8 (r_8.1.map enc_api_Span) 26 2 :: .box b_1 [.slice p_6 r_7.1.Table.length c_6, .int .i64 r_7.1.Credit] 88 :: .row p_5 c_5 (r_5.Rights.map enc_share_Right) 51 3 :: .row p_3 c_3 (r_2.Rights.map enc_share_Right) 51 3 :: .row p_4 c_4 (r_4.1.map enc_api_Span) 26 2 :: .row p_1 c_1 (r.Rights.map enc_share_Right) 51 3 :: .row p_2 c_2 (r_1.1.map encI_i64) 3 1 :: Lf) w) ?_ ?_
    · cases hb : t_6
      · rw [hb] at hf
        refine stS hf rfl rfl rfl fun a hf => ?_
        refine stS hf rfl rfl rfl fun a hf => ?_
        refine stS hf rfl rfl rfl fun a hf => ?_
        refine stP hf rfl rfl rfl (pPf rfl rfl) fun a hf => ?_
        exact cNil ⟨hf.keep ⟨rfl, rfl, rfl, rfl, rfl, rfl, rfl, rfl, rfl, rfl, rfl, rfl, rfl, rfl, rfl, rfl, rfl, rfl, rfl, rfl, rfl, rfl, rfl, rfl, rfl, rfl, rfl, rfl, rfl, rfl, trivial⟩, hc⟩
      · rw [hb] at hf
        refine stE hf hc rfl rfl rfl (eLdN (vs := [.int .i64 r_15.1.N, .int .i64 r_15.1.D]) ag_71 rfl rfl (cells_box (n := 2) m3 rfl)) fun a w hf hc => ?_
        refine stP hf rfl rfl rfl (pBuildS (cells := [.int .i64 10, .int .i64 1]) bt_71 rfl rfl) fun a hf => ?_
        refine stP hf rfl rfl rfl (pEqA ge_71 rfl rfl (eqs_71 _ _ _ _)) fun a hf => ?_
        refine stP hf rfl rfl rfl (pPt rfl rfl) fun a hf => ?_
        exact cNil ⟨hf.keep ⟨rfl, rfl, rfl, rfl, rfl, rfl, rfl, rfl, rfl, rfl, rfl, rfl, rfl, rfl, rfl, rfl, rfl, rfl, rfl, rfl, rfl, rfl, rfl, rfl, rfl, rfl, rfl, rfl, rfl, rfl, trivial⟩, hc⟩
    intro a w ⟨hf, hc⟩
    refine stP hf rfl rfl rfl (pM rfl) fun a hf => ?_
    refine stCut 4 (fun a w => Has 168 a ((2, .int .i64 r_12.2) :: (4, .int .i64 r_13.2) :: (6, .int .i64 r_14.2) :: (10, .int .i64 r_15.2.2) :: (11, .slice p_9 r_12.1.length c_9) :: (12, .slice p_10 r_13.1.length c_10) :: (13, .slice p_11 r_14.1.length c_11) :: (14, .pointer (some ⟨b_10, 0, none⟩)) :: (15, .pointer (some ⟨b_11, 0, none⟩)) :: (16, .int .i64 r_16.1) :: (17, .int .i64 r_16.2.1) :: (18, .int .i64 r_16.2.2) :: (117, .int .i64 r_12.2) :: (118, .bool (r_12.2 == 0)) :: (119, .bool (r_12.2 == 0)) :: (122, .bool ((r_12.2 == 0) && (r_13.2 == 0))) :: (123, .bool ((r_12.2 == 0) && (r_13.2 == 0))) :: (126, .bool (((r_12.2 == 0) && (r_13.2 == 0)) && (r_14.2 == 0))) :: (127, .bool (((r_12.2 == 0) && (r_13.2 == 0)) && (r_14.2 == 0))) :: (130, .bool ((((r_12.2 == 0) && (r_13.2 == 0)) && (r_14.2 == 0)) && (r_15.2.2 == 0))) :: (131, .bool ((((r_12.2 == 0) && (r_13.2 == 0)) && (r_14.2 == 0)) && (r_15.2.2 == 0))) :: (134, .bool (((((r_12.2 == 0) && (r_13.2 == 0)) && (r_14.2 == 0)) && (r_15.2.2 == 0)) && (r_16.2.2 == 0))) :: (135, .bool (((((r_12.2 == 0) && (r_13.2 == 0)) && (r_14.2 == 0)) && (r_15.2.2 == 0)) && (r_16.2.2 == 0))) :: (139, .bool t_4) :: (140, .bool t_4) :: (144, .bool t_5) :: (145, .bool t_5) :: (149, .bool t_6) :: (150, .bool t_6) :: (154, .bool (t_6 && (r_15.1.N == 10 && r_15.1.D == 1))) :: (155, .bool (t_6 && (r_15.1.N == 10 && r_15.1.D == 1))) :: (159, .bool ((t_6 && (r_15.1.N == 10 && r_15.1.D == 1)) && (r_15.2.1.N == r_15.1.N && r_15.2.1.D == r_15.1.D))) :: []) ∧ Ctx G (.row (some ⟨b_13, 0, none⟩) 3 (([7, 2, 0] : List Int).map encI_i64) 3 1 :: .row (some ⟨b_12, 0, none⟩) 3 (([60, 30, 10] : List Int).map encI_i64) 3 1 :: .box b_11 [.int .i64 r_15.2.1.N, .int .i64 r_15.2.1.D] 71 :: .box b_10 [.int .i64 r_15.1.N, .int .i64 r_15.1.D] 71 :: .row (some ⟨b_9, 0, none⟩) 3 (([6, 3, 0] : List Int).map encI_i64) 3 1 :: .row (some ⟨b_8, 0, none⟩) 3 (([60, 30, 10] : List Int).map encI_i64) 3 1 :: .row (some ⟨b_7, 0, none⟩) 3 (([60, 30, 10] : List Int).map encI_i64) 3 1 :: .row p_11 c_11 (r_14.1.map encI_i64) 3 1 :: .row (some ⟨b_6, 0, none⟩) 3 (([60, 30, 10] : List Int).map encI_i64) 3 1 :: .row p_10 c_10 (r_13.1.map encI_i64) 3 1 :: .row (some ⟨b_5, 0, none⟩) 6 (([20, 30, 30, 40, 40, 40] : List Int).map encI_i64) 3 1 :: .row p_9 c_9 (r_12.1.map encI_i64) 3 1 :: .row p_6 c_6 (r_7.1.Table.map enc_share_Point) 116 2 :: .row p_7 c_7 (r_7.2.map enc_share_Year) 94 5 :: .row p_8 c_8 (r_8.1.map enc_api_Span) 26 2 :: .box b_1 [.slice p_6 r_7.1.Table.length c_6, .int .i64 r_7.1.Credit] 88 :: .row p_5 c_5 (r_5.Rights.map enc_share_Right) 51 3 :: .row p_3 c_3 (r_2.Rights.map enc_share_Right) 51 3 :: .row p_4 c_4 (r_4.1.map enc_api_Span) 26 2 :: .row p_1 c_1 (r.Rights.map enc_share_Right) 51 3 :: .row p_2 c_2 (r_1.1.map encI_i64) 3 1 :: Lf) w) ?_ ?_
    · cases hb : (t_6 && (r_15.1.N == 10 && r_15.1.D == 1))
      · rw [hb] at hf
        refine stS hf rfl rfl rfl fun a hf => ?_
        refine stS hf rfl rfl rfl fun a hf => ?_
        refine stS hf rfl rfl rfl fun a hf => ?_
        refine stP hf rfl rfl rfl (pPf rfl rfl) fun a hf => ?_
        exact cNil ⟨hf.keep ⟨rfl, rfl, rfl, rfl, rfl, rfl, rfl, rfl, rfl, rfl, rfl, rfl, rfl, rfl, rfl, rfl, rfl, rfl, rfl, rfl, rfl, rfl, rfl, rfl, rfl, rfl, rfl, rfl, rfl, rfl, rfl, rfl, trivial⟩, hc⟩
      · rw [hb] at hf
        refine stE hf hc rfl rfl rfl (eLdN (vs := [.int .i64 r_15.2.1.N, .int .i64 r_15.2.1.D]) ag_71 rfl rfl (cells_box (n := 2) m2 rfl)) fun a w hf hc => ?_
        refine stE hf hc rfl rfl rfl (eLdN (vs := [.int .i64 r_15.1.N, .int .i64 r_15.1.D]) ag_71 rfl rfl (cells_box (n := 2) m3 rfl)) fun a w hf hc => ?_
        refine stP hf rfl rfl rfl (pEqA ge_71 rfl rfl (eqs_71 _ _ _ _)) fun a hf => ?_
        refine stP hf rfl rfl rfl (pPt rfl rfl) fun a hf => ?_
        exact cNil ⟨hf.keep ⟨rfl, rfl, rfl, rfl, rfl, rfl, rfl, rfl, rfl, rfl, rfl, rfl, rfl, rfl, rfl, rfl, rfl, rfl, rfl, rfl, rfl, rfl, rfl, rfl, rfl, rfl, rfl, rfl, rfl, rfl, rfl, rfl, trivial⟩, hc⟩
    intro a w ⟨hf, hc⟩
    refine stP hf rfl rfl rfl (pM rfl) fun a hf => ?_
    refine stCut 3 (fun a w => Has 168 a ((2, .int .i64 r_12.2) :: (4, .int .i64 r_13.2) :: (6, .int .i64 r_14.2) :: (10, .int .i64 r_15.2.2) :: (11, .slice p_9 r_12.1.length c_9) :: (12, .slice p_10 r_13.1.length c_10) :: (13, .slice p_11 r_14.1.length c_11) :: (14, .pointer (some ⟨b_10, 0, none⟩)) :: (15, .pointer (some ⟨b_11, 0, none⟩)) :: (16, .int .i64 r_16.1) :: (17, .int .i64 r_16.2.1) :: (18, .int .i64 r_16.2.2) :: (117, .int .i64 r_12.2) :: (118, .bool (r_12.2 == 0)) :: (119, .bool (r_12.2 == 0)) :: (122, .bool ((r_12.2 == 0) && (r_13.2 == 0))) :: (123, .bool ((r_12.2 == 0) && (r_13.2 == 0))) :: (126, .bool (((r_12.2 == 0) && (r_13.2 == 0)) && (r_14.2 == 0))) :: (127, .bool (((r_12.2 == 0) && (r_13.2 == 0)) && (r_14.2 == 0))) :: (130, .bool ((((r_12.2 == 0) && (r_13.2 == 0)) && (r_14.2 == 0)) && (r_15.2.2 == 0))) :: (131, .bool ((((r_12.2 == 0) && (r_13.2 == 0)) && (r_14.2 == 0)) && (r_15.2.2 == 0))) :: (134, .bool (((((r_12.2 == 0) && (r_13.2 == 0)) && (r_14.2 == 0)) && (r_15.2.2 == 0)) && (r_16.2.2 == 0))) :: (135, .bool (((((r_12.2 == 0) && (r_13.2 == 0)) && (r_14.2 == 0)) && (r_15.2.2 == 0)) && (r_16.2.2 == 0))) :: (139, .bool t_4) :: (140, .bool t_4) :: (144, .bool t_5) :: (145, .bool t_5) :: (149, .bool t_6) :: (150, .bool t_6) :: (154, .bool (t_6 && (r_15.1.N == 10 && r_15.1.D == 1))) :: (155, .bool (t_6 && (r_15.1.N == 10 && r_15.1.D == 1))) :: (159, .bool ((t_6 && (r_15.1.N == 10 && r_15.1.D == 1)) && (r_15.2.1.N == r_15.1.N && r_15.2.1.D == r_15.1.D))) :: (160, .bool ((t_6 && (r_15.1.N == 10 && r_15.1.D == 1)) && (r_15.2.1.N == r_15.1.N && r_15.2.1.D == r_15.1.D))) :: (163, .bool (((t_6 && (r_15.1.N == 10 && r_15.1.D == 1)) && (r_15.2.1.N == r_15.1.N && r_15.2.1.D == r_15.1.D)) && (r_16.1 == 0))) :: []) ∧ Ctx G (.row (some ⟨b_13, 0, none⟩) 3 (([7, 2, 0] : List Int).map encI_i64) 3 1 :: .row (some ⟨b_12, 0, none⟩) 3 (([60, 30, 10] : List Int).map encI_i64) 3 1 :: .box b_11 [.int .i64 r_15.2.1.N, .int .i64 r_15.2.1.D] 71 :: .box b_10 [.int .i64 r_15.1.N, .int .i64 r_15.1.D] 71 :: .row (some ⟨b_9, 0, none⟩) 3 (([6, 3, 0] : List Int).map encI_i64) 3 1 :: .row (some ⟨b_8, 0, none⟩) 3 (([60, 30, 10] : List Int).map encI_i64) 3 1 :: .row (some ⟨b_7, 0, none⟩) 3 (([60, 30, 10] : List Int).map encI_i64) 3 1 :: .row p_11 c_11 (r_14.1.map encI_i64) 3 1 :: .row (some ⟨b_6, 0, none⟩) 3 (([60, 30, 10] : List Int).map encI_i64) 3 1 :: .row p_10 c_10 (r_13.1.map encI_i64) 3 1 :: .row (some ⟨b_5, 0, none⟩) 6 (([20, 30, 30, 40, 40, 40] : List Int).map encI_i64) 3 1 :: .row p_9 c_9 (r_12.1.map encI_i64) 3 1 :: .row p_6 c_6 (r_7.1.Table.map enc_share_Point) 116 2 :: .row p_7 c_7 (r_7.2.map enc_share_Year) 94 5 :: .row p_8 c_8 (r_8.1.map enc_api_Span) 26 2 :: .box b_1 [.slice p_6 r_7.1.Table.length c_6, .int .i64 r_7.1.Credit] 88 :: .row p_5 c_5 (r_5.Rights.map enc_share_Right) 51 3 :: .row p_3 c_3 (r_2.Rights.map enc_share_Right) 51 3 :: .row p_4 c_4 (r_4.1.map enc_api_Span) 26 2 :: .row p_1 c_1 (r.Rights.map enc_share_Right) 51 3 :: .row p_2 c_2 (r_1.1.map encI_i64) 3 1 :: Lf) w) ?_ ?_
    · cases hb : ((t_6 && (r_15.1.N == 10 && r_15.1.D == 1)) && (r_15.2.1.N == r_15.1.N && r_15.2.1.D == r_15.1.D))
      · rw [hb] at hf
        refine stS hf rfl rfl rfl fun a hf => ?_
        refine stS hf rfl rfl rfl fun a hf => ?_
        refine stP hf rfl rfl rfl (pPf rfl rfl) fun a hf => ?_
        exact cNil ⟨hf.keep ⟨rfl, rfl, rfl, rfl, rfl, rfl, rfl, rfl, rfl, rfl, rfl, rfl, rfl, rfl, rfl, rfl, rfl, rfl, rfl, rfl, rfl, rfl, rfl, rfl, rfl, rfl, rfl, rfl, rfl, rfl, rfl, rfl, rfl, rfl, trivial⟩, hc⟩
      · rw [hb] at hf
        refine stP hf rfl rfl rfl (pM rfl) fun a hf => ?_
        refine stP hf rfl rfl rfl (pEq rfl rfl) fun a hf => ?_
        refine stP hf rfl rfl rfl (pPt rfl rfl) fun a hf => ?_
        exact cNil ⟨hf.keep ⟨rfl, rfl, rfl, rfl, rfl, rfl, rfl, rfl, rfl, rfl, rfl, rfl, rfl, rfl, rfl, rfl, rfl, rfl, rfl, rfl, rfl, rfl, rfl, rfl, rfl, rfl, rfl, rfl, rfl, rfl, rfl, rfl, rfl, rfl, trivial⟩, hc⟩
    intro a w ⟨hf, hc⟩
    refine stP hf rfl rfl rfl (pM rfl) fun a hf => ?_
    refine stCut 3 (fun a w => Has 168 a ((2, .int .i64 r_12.2) :: (4, .int .i64 r_13.2) :: (6, .int .i64 r_14.2) :: (10, .int .i64 r_15.2.2) :: (11, .slice p_9 r_12.1.length c_9) :: (12, .slice p_10 r_13.1.length c_10) :: (13, .slice p_11 r_14.1.length c_11) :: (14, .pointer (some ⟨b_10, 0, none⟩)) :: (15, .pointer (some ⟨b_11, 0, none⟩)) :: (16, .int .i64 r_16.1) :: (17, .int .i64 r_16.2.1) :: (18, .int .i64 r_16.2.2) :: (117, .int .i64 r_12.2) :: (118, .bool (r_12.2 == 0)) :: (119, .bool (r_12.2 == 0)) :: (122, .bool ((r_12.2 == 0) && (r_13.2 == 0))) :: (123, .bool ((r_12.2 == 0) && (r_13.2 == 0))) :: (126, .bool (((r_12.2 == 0) && (r_13.2 == 0)) && (r_14.2 == 0))) :: (127, .bool (((r_12.2 == 0) && (r_13.2 == 0)) && (r_14.2 == 0))) :: (130, .bool ((((r_12.2 == 0) && (r_13.2 == 0)) && (r_14.2 == 0)) && (r_15.2.2 == 0))) :: (131, .bool ((((r_12.2 == 0) && (r_13.2 == 0)) && (r_14.2 == 0)) && (r_15.2.2 == 0))) :: (134, .bool (((((r_12.2 == 0) && (r_13.2 == 0)) && (r_14.2 == 0)) && (r_15.2.2 == 0)) && (r_16.2.2 == 0))) :: (135, .bool (((((r_12.2 == 0) && (r_13.2 == 0)) && (r_14.2 == 0)) && (r_15.2.2 == 0)) && (r_16.2.2 == 0))) :: (139, .bool t_4) :: (140, .bool t_4) :: (144, .bool t_5) :: (145, .bool t_5) :: (149, .bool t_6) :: (150, .bool t_6) :: (154, .bool (t_6 && (r_15.1.N == 10 && r_15.1.D == 1))) :: (155, .bool (t_6 && (r_15.1.N == 10 && r_15.1.D == 1))) :: (159, .bool ((t_6 && (r_15.1.N == 10 && r_15.1.D == 1)) && (r_15.2.1.N == r_15.1.N && r_15.2.1.D == r_15.1.D))) :: (160, .bool ((t_6 && (r_15.1.N == 10 && r_15.1.D == 1)) && (r_15.2.1.N == r_15.1.N && r_15.2.1.D == r_15.1.D))) :: (163, .bool (((t_6 && (r_15.1.N == 10 && r_15.1.D == 1)) && (r_15.2.1.N == r_15.1.N && r_15.2.1.D == r_15.1.D)) && (r_16.1 == 0))) :: (164, .bool (((t_6 && (r_15.1.N == 10 && r_15.1.D == 1)) && (r_15.2.1.N == r_15.1.N && r_15.2.1.D == r_15.1.D)) && (r_16.1 == 0))) :: (167, .bool ((((t_6 && (r_15.1.N == 10 && r_15.1.D == 1)) && (r_15.2.1.N == r_15.1.N && r_15.2.1.D == r_15.1.D)) && (r_16.1 == 0)) && (r_16.2.1 == 1))) :: []) ∧ Ctx G (.row (some ⟨b_13, 0, none⟩) 3 (([7, 2, 0] : List Int).map encI_i64) 3 1 :: .row (some ⟨b_12, 0, none⟩) 3 (([60, 30, 10] : List Int).map encI_i64) 3 1 :: .box b_11 [.int .i64 r_15.2.1.N, .int .i64 r_15.2.1.D] 71 :: .box b_10 [.int .i64 r_15.1.N, .int .i64 r_15.1.D] 71 :: .row (some ⟨b_9, 0, none⟩) 3 (([6, 3, 0] : List Int).map encI_i64) 3 1 :: .row (some ⟨b_8, 0, none⟩) 3 (([60, 30, 10] : List Int).map encI_i64) 3 1 :: .row (some ⟨b_7, 0, none⟩) 3 (([60, 30, 10] : List Int).map encI_i64) 3 1 :: .row p_11 c_11 (r_14.1.map encI_i64) 3 1 :: .row (some ⟨b_6, 0, none⟩) 3 (([60, 30, 10] : List Int).map encI_i64) 3 1 :: .row p_10 c_10 (r_13.1.map encI_i64) 3 1 :: .row (some ⟨b_5, 0, none⟩) 6 (([20, 30, 30, 40, 40, 40] : List Int).map encI_i64) 3 1 :: .row p_9 c_9 (r_12.1.map encI_i64) 3 1 :: .row p_6 c_6 (r_7.1.Table.map enc_share_Point) 116 2 :: .row p_7 c_7 (r_7.2.map enc_share_Year) 94 5 :: .row p_8 c_8 (r_8.1.map enc_api_Span) 26 2 :: .box b_1 [.slice p_6 r_7.1.Table.length c_6, .int .i64 r_7.1.Credit] 88 :: .row p_5 c_5 (r_5.Rights.map enc_share_Right) 51 3 :: .row p_3 c_3 (r_2.Rights.map enc_share_Right) 51 3 :: .row p_4 c_4 (r_4.1.map enc_api_Span) 26 2 :: .row p_1 c_1 (r.Rights.map enc_share_Right) 51 3 :: .row p_2 c_2 (r_1.1.map encI_i64) 3 1 :: Lf) w) ?_ ?_
    · cases hb : (((t_6 && (r_15.1.N == 10 && r_15.1.D == 1)) && (r_15.2.1.N == r_15.1.N && r_15.2.1.D == r_15.1.D)) && (r_16.1 == 0))
      · rw [hb] at hf
        refine stS hf rfl rfl rfl fun a hf => ?_
        refine stS hf rfl rfl rfl fun a hf => ?_
        refine stP hf rfl rfl rfl (pPf rfl rfl) fun a hf => ?_
        exact cNil ⟨hf.keep ⟨rfl, rfl, rfl, rfl, rfl, rfl, rfl, rfl, rfl, rfl, rfl, rfl, rfl, rfl, rfl, rfl, rfl, rfl, rfl, rfl, rfl, rfl, rfl, rfl, rfl, rfl, rfl, rfl, rfl, rfl, rfl, rfl, rfl, rfl, rfl, rfl, trivial⟩, hc⟩
      · rw [hb] at hf
        refine stP hf rfl rfl rfl (pM rfl) fun a hf => ?_
        refine stP hf rfl rfl rfl (pEq rfl rfl) fun a hf => ?_
        refine stP hf rfl rfl rfl (pPt rfl rfl) fun a hf => ?_
        exact cNil ⟨hf.keep ⟨rfl, rfl, rfl, rfl, rfl, rfl, rfl, rfl, rfl, rfl, rfl, rfl, rfl, rfl, rfl, rfl, rfl, rfl, rfl, rfl, rfl, rfl, rfl, rfl, rfl, rfl, rfl, rfl, rfl, rfl, rfl, rfl, rfl, rfl, rfl, rfl, trivial⟩, hc⟩
    intro a w ⟨hf, hc⟩
    refine stP hf rfl rfl rfl (pA rfl) fun a hf => ?_
    refine cNil ?_
    refine h15 _ _ ?_
    refine wp_ret ?_
    obtain rfl := Option.some.inj hF
    replace hc := hc.drop k20
    replace hc := hc.drop k19
    replace hc := hc.drop k18
    replace hc := hc.drop k17
    replace hc := hc.drop k16
    replace hc := hc.drop k15
    replace hc := hc.drop k14
    replace hc := hc.drop k13
    replace hc := hc.drop k12
    replace hc := hc.drop k11
    replace hc := hc.drop k10
    replace hc := hc.drop k9
    replace hc := hc.drop k8
    replace hc := hc.drop k7
    replace hc := hc.drop k6
    replace hc := hc.drop k5
    replace hc := hc.drop k4
    replace hc := hc.drop k3
    replace hc := hc.drop k2
    replace hc := hc.drop k1
    replace hc := hc.drop k0
    exact fnOut1 (by simp) rfl Try.results13 hf hc (show look _ 0 = _ from rfl) ⟨rfl, hc⟩

def law09_ShareOwed_j34 (N : Nat) (truth : List share_Truth) (real : List Int) (s_1 : List api_Span) (x_1 : List share_Year) (x_2 : Int) (debt_1 : Int) : Option (Step ((List share_Truth) × (List Int) × (List api_Span) × Int × (List share_Year) × Int) (Bool)) :=
  Option.bind (getI real x_2) fun e_13 =>
  cond (debt_1 != e_13)
  (some (.ret false))
  (some (.cont (truth, real, s_1, debt_1, x_1, W (x_2 + 1))))
def law09_ShareOwed_b21 (N : Nat) (r_1 : share_Border × api_Span × (List share_Year) × (List share_Truth) × Int × Int) (l : List share_Year) (r_4 : (List Int) × Int) (r_5 : (List Int) × Int) (truth : List share_Truth) (real : List Int) (s_1 : List api_Span) (debt : Int) (x_1 : List share_Year) (x_2 : Int) : Option (Step ((List share_Truth) × (List Int) × (List api_Span) × Int × (List share_Year) × Int) (Bool)) :=
  cond (decide (x_2 < ((l.length : Nat) : Int)))
  (Option.bind (getI x_1 x_2) fun e_1 =>
  Option.bind (getI real x_2) fun e_2 =>
  Option.bind (getI s_1 x_2) fun e_3 =>
  Option.bind (cond (decide (e_2 < e_3.Lo)) (some true) (Option.bind (getI real x_2) fun e_4 =>
  Option.bind (getI s_1 x_2) fun e_5 =>
  some (decide (e_5.Hi < e_4)))) fun t_1 =>
  Option.bind (cond t_1 (some true) (Option.bind (getI r_4.1 x_2) fun e_6 =>
  Option.bind (getI s_1 x_2) fun e_7 =>
  some (e_6 != e_7.Lo))) fun t_2 =>
  Option.bind (cond t_2 (some true) (Option.bind (getI r_5.1 x_2) fun e_8 =>
  Option.bind (getI s_1 x_2) fun e_9 =>
  some (e_8 != e_9.Hi))) fun t_3 =>
  Option.bind (cond t_3 (some true) (Option.bind (getI real x_2) fun e_10 =>
  some (decide (e_10 < (W (0 - r_1.1.Credit)))))) fun t_4 =>
  Option.bind (cond t_4 (some true) (Option.bind (cond e_1.Spill (Option.bind (getI s_1 x_2) fun e_11 =>
  some (!(e_11.Lo == 0 && e_11.Hi == 0))) (some false)) fun t_5 =>
  some t_5)) fun t_6 =>
  cond t_6
  (some (.ret false))
  (Option.bind (getI truth x_2) fun e_12 =>
  Option.bind (share_Due N r_1.1 e_12.Index) fun r_7 =>
  cond (r_7.2 != 0)
  (some (.ret false))
  (Option.bind (getI truth x_2) fun e_14 =>
  cond e_1.Spill
  (law09_ShareOwed_j34 N truth real s_1 x_1 x_2 0)
  (law09_ShareOwed_j34 N truth real s_1 x_1 x_2 (max (W (0 - r_1.1.Credit)) (W ((W (debt + r_7.1)) - e_14.Delivered)))))))
  (some (.brk (truth, real, s_1, debt, x_1, x_2)))
def law09_ShareOwed_b12 (N : Nat) (r_1 : share_Border × api_Span × (List share_Year) × (List share_Truth) × Int × Int) (l : List share_Year) (low : List share_Truth) (high : List share_Truth) (x : Int) : Option (Step ((List share_Year) × (List share_Truth) × (List share_Truth) × Int) (Bool)) :=
  cond (decide (x < ((r_1.2.2.1.length : Nat) : Int)))
  (Option.bind (getI l x) fun e_15 =>
  Option.bind (room ((low ++ [(⟨e_15.Index.Lo, e_15.Delivered.Hi⟩ : share_Truth)])).length) fun un_1 =>
  Option.bind (room ((high ++ [(⟨e_15.Index.Hi, e_15.Delivered.Lo⟩ : share_Truth)])).length) fun un_2 =>
  some (.cont (l, (low ++ [(⟨e_15.Index.Lo, e_15.Delivered.Hi⟩ : share_Truth)]), (high ++ [(⟨e_15.Index.Hi, e_15.Delivered.Lo⟩ : share_Truth)]), W (x + 1))))
  (some (.brk (l, low, high, x)))
def law09_ShareOwed (N : Nat) (numbers : List Int) (at_ : Int) : Option (Bool) :=
  Option.bind (kit_New N numbers) fun r =>
  Option.bind (law09_Bordered N (⟨numbers, r.1, r.2⟩ : kit_Stream) 12) fun r_1 =>
  Option.bind (nz (W ((W (r_1.2.1.Hi - r_1.2.1.Lo)) + 1))) fun un =>
  Option.bind (share_Owed N r_1.1 (W (r_1.2.1.Lo + ((W (at_)).tmod (W ((W (r_1.2.1.Hi - r_1.2.1.Lo)) + 1))))) r_1.2.2.1 r_1.2.2.2.1) fun r_2 =>
  Option.bind (share_Debts N r_1.1 r_1.2.1 r_1.2.2.1) fun r_3 =>
  cond ((((r_2.2 != 0) || (r_3.2 != 0)) || (((r_2.1.length : Nat) : Int) != ((r_1.2.2.1.length : Nat) : Int))) || (((r_3.1.length : Nat) : Int) != ((r_1.2.2.1.length : Nat) : Int)))
  (some false)
  (Option.bind (loopO (fun s12 => law09_ShareOwed_b12 N r_1 s12.1 s12.2.1 s12.2.2.1 s12.2.2.2) N (r_1.2.2.1, ([] : List share_Truth), ([] : List share_Truth), 0)) fun x12 =>
  exK x12 (fun s12 => Option.bind (share_Owed N r_1.1 r_1.2.1.Lo s12.1 s12.2.1) fun r_4 =>
  Option.bind (share_Owed N r_1.1 r_1.2.1.Hi s12.1 s12.2.2.1) fun r_5 =>
  cond ((((r_4.2 != 0) || (r_5.2 != 0)) || (((r_4.1.length : Nat) : Int) != ((s12.1.length : Nat) : Int))) || (((r_5.1.length : Nat) : Int) != ((s12.1.length : Nat) : Int)))
  (some false)
  (Option.bind (loopO (fun s21 => law09_ShareOwed_b21 N r_1 s12.1 r_4 r_5 s21.1 s21.2.1 s21.2.2.1 s21.2.2.2.1 s21.2.2.2.2.1 s21.2.2.2.2.2) N (r_1.2.2.2.1, r_2.1, r_3.1, W (r_1.2.1.Lo + ((W (at_)).tmod (W ((W (r_1.2.1.Hi - r_1.2.1.Lo)) + 1)))), s12.1, 0)) fun x21 =>
  exK x21 (fun s21 => Option.bind (law09_awake N) fun r_6 =>
  some r_6) some)) some)
theorem law09_ShareOwed_ok {N : Nat} {G : Pers} {Lf : List Ent} {w : World} (numbers : List Int) (at_ : Int) {numbers_p : Option Addr} {numbers_c : Nat} (h_numbers : Rd G 1 numbers_p numbers_c (numbers.map encI_u8)) (hc : Ctx G (Lf) w) {res : Bool} (hF : law09_ShareOwed N numbers at_ = some res) : Calls Try.prog 9 #[.slice numbers_p numbers.length numbers_c, .int .u8 at_] w (fun e w => e = .returned (.bool res) ∧ Ctx G (Lf) w) := by
  unfold law09_ShareOwed at hF
  refine fnIn (args := [.slice numbers_p numbers.length numbers_c, .int .u8 at_]) Try.func9 rfl Try.ntmps9 rfl fun a hf => ?_
  refine wp_seq_k fun K1 h1 => ?_
  refine cReg ?_
  refine stP hf rfl rfl rfl (pA rfl) fun a hf => ?_
  refine cNil ?_
  refine h1 _ _ ?_
  refine wp_seq_k fun K2 h2 => ?_
  refine cReg ?_
  refine stP hf rfl rfl rfl (pM rfl) fun a hf => ?_
  obtain ⟨r, hr, hF⟩ := bnd_some hF
  refine stC (vs := [.slice numbers_p numbers.length numbers_c]) (caps := []) hf rfl rfl rfl en_27 rfl rfl rfl rfl (kit_New_ok numbers h_numbers hc hr) ?_
  rintro _ w ⟨b_1, rfl, hc⟩
  refine ⟨_, rfl, fun a hf => ?_⟩
  obtain ⟨r_1, hr_1, hF⟩ := bnd_some hF
  refine stC (vs := [.pointer (some ⟨b_1, 0, none⟩), .int .i64 12]) (caps := []) hf rfl rfl rfl en_59 rfl rfl rfl rfl (law09_Bordered_ok (⟨numbers, r.1, r.2⟩ : kit_Stream) 12 h_numbers (hc.pick k0) hr_1) ?_
  rintro _ w ⟨p_1, c_1, p_2, c_2, p_3, c_3, rfl, hc⟩
  refine ⟨_, rfl, fun a hf => ?_⟩
  refine stP hf rfl rfl rfl (pM rfl) fun a hf => ?_
  refine stP hf rfl rfl rfl (pX rfl rfl) fun a hf => ?_
  refine stP hf rfl rfl rfl (pX rfl rfl) fun a hf => ?_
  refine stP hf rfl rfl rfl (pX rfl rfl) fun a hf => ?_
  refine stP hf rfl rfl rfl (pX rfl rfl) fun a hf => ?_
  refine stAl (cs := [.slice none 0 0, .int .i64 0]) hf hc rfl rfl zr_88 rfl fun b_2 a w hf hc => ?_
  refine stAl (cs := [.int .i64 0, .int .i64 0]) hf hc rfl rfl zr_26 rfl fun b_3 a w hf hc => ?_
  refine stSt (vs := [.slice p_1 r_1.1.Table.length c_1, .int .i64 r_1.1.Credit]) hf hc rfl rfl rfl rfl sz_88 rfl rfl u1 fun w hc => ?_
  refine stSt (vs := [.int .i64 r_1.2.1.Lo, .int .i64 r_1.2.1.Hi]) hf hc rfl rfl rfl rfl sz_26 rfl rfl u0 fun w hc => ?_
  refine stP hf rfl rfl rfl (pA rfl) fun a hf => ?_
  refine stP hf rfl rfl rfl (pA rfl) fun a hf => ?_
  refine cNil ?_
  refine h2 _ _ ?_
  refine wp_seq_k fun K3 h3 => ?_
  obtain ⟨un, hun, hF⟩ := bnd_some hF
  refine cQ hc follows_mx (by kernel_rfl) ?_
  refine qE hf rfl rfl rfl (Pu.ev (pFA fa_26_0 rfl)) fun a hf => ?_
  refine qE hf rfl rfl rfl (eLd1 sc_3 rfl (cell_box m0 rfl)) fun a hf => ?_
  refine qE hf rfl rfl rfl (Pu.ev (pM rfl)) fun a hf => ?_
  refine qE hf rfl rfl rfl (Pu.ev (pCv Try.underlying5 Try.underlying3 rfl)) fun a hf => ?_
  refine qE hf rfl rfl rfl (Pu.ev (pFA fa_26_1 rfl)) fun a hf => ?_
  refine qE hf rfl rfl rfl (eLd1 sc_3 rfl (cell_box m0 rfl)) fun a hf => ?_
  refine qE hf rfl rfl rfl (Pu.ev (pFA fa_26_0 rfl)) fun a hf => ?_
  refine qE hf rfl rfl rfl (eLd1 sc_3 rfl (cell_box m0 rfl)) fun a hf => ?_
  refine qE hf rfl rfl rfl (Pu.ev (pSub rfl rfl)) fun a hf => ?_
  refine qE hf rfl rfl rfl (Pu.ev (pAdd rfl rfl)) fun a hf => ?_
  refine qE hf rfl rfl rfl (Pu.ev (pRem rfl rfl (nz_spec hun))) fun a hf => ?_
  refine qE hf rfl rfl rfl (Pu.ev (pAdd rfl rfl)) fun a hf => ?_
  refine qE hf rfl rfl rfl (Pu.ev (pA rfl)) fun a hf => ?_
  intro w hc
  refine h3 _ _ ?_
  refine wp_seq_k fun K4 h4 => ?_
  refine cReg ?_
  refine stE hf hc rfl rfl rfl (eLdN (vs := [.slice p_1 r_1.1.Table.length c_1, .int .i64 r_1.1.Credit]) ag_88 rfl rfl (cells_box (n := 2) m1 rfl)) fun a w hf hc => ?_
  refine stP hf rfl rfl rfl (pM rfl) fun a hf => ?_
  refine stP hf rfl rfl rfl (pM rfl) fun a hf => ?_
  refine stP hf rfl rfl rfl (pM rfl) fun a hf => ?_
  obtain ⟨r_2, hr_2, hF⟩ := bnd_some hF
  obtain ⟨G1, hle1, hrd1, hc, hth1⟩ := lend hc k2
  obtain ⟨G2, hle2, hrd2, hc, hth2⟩ := lend hc k2
  obtain ⟨G3, hle3, hrd3, hc, hth3⟩ := lend hc k2
  refine stC (vs := [.agg #[.slice p_1 r_1.1.Table.length c_1, .int .i64 r_1.1.Credit], .int .i64 (W (r_1.2.1.Lo + ((W (at_)).tmod (W ((W (r_1.2.1.Hi - r_1.2.1.Lo)) + 1))))), .slice p_2 r_1.2.2.1.length c_2, .slice p_3 r_1.2.2.2.1.length c_3]) (caps := []) hf rfl rfl rfl en_52 rfl rfl rfl rfl (share_Owed_ok r_1.1 (W (r_1.2.1.Lo + ((W (at_)).tmod (W ((W (r_1.2.1.Hi - r_1.2.1.Lo)) + 1))))) r_1.2.2.1 r_1.2.2.2.1 ((hrd1.mono hle2).mono hle3) (hrd2.mono hle3) hrd3 hc hr_2) ?_
  rintro _ w ⟨p_4, c_4, rfl, hc⟩
  refine ⟨_, rfl, fun a hf => ?_⟩
  replace hc := hth3 _ _ hc
  replace hc := hth2 _ _ hc
  replace hc := hth1 _ _ hc
  refine stP hf rfl rfl rfl (pM rfl) fun a hf => ?_
  refine stP hf rfl rfl rfl (pX rfl rfl) fun a hf => ?_
  refine stP hf rfl rfl rfl (pX rfl rfl) fun a hf => ?_
  refine stP hf rfl rfl rfl (pA rfl) fun a hf => ?_
  refine stP hf rfl rfl rfl (pA rfl) fun a hf => ?_
  refine cNil ?_
  refine h4 _ _ ?_
  refine wp_seq_k fun K5 h5 => ?_
  refine cReg ?_
  refine stE hf hc rfl rfl rfl (eLdN (vs := [.slice p_1 r_1.1.Table.length c_1, .int .i64 r_1.1.Credit]) ag_88 rfl rfl (cells_box (n := 2) m5 rfl)) fun a w hf hc => ?_
  refine stE hf hc rfl rfl rfl (eLdN (vs := [.int .i64 r_1.2.1.Lo, .int .i64 r_1.2.1.Hi]) ag_26 rfl rfl (cells_box (n := 2) m4 rfl)) fun a w hf hc => ?_
  refine stP hf rfl rfl rfl (pM rfl) fun a hf => ?_
  obtain ⟨r_3, hr_3, hF⟩ := bnd_some hF
  obtain ⟨G1, hle1, hrd1, hc, hth1⟩ := lend hc k0
  obtain ⟨G2, hle2, hrd2, hc, hth2⟩ := lend hc k0
  refine stC (vs := [.agg #[.slice p_1 r_1.1.Table.length c_1, .int .i64 r_1.1.Credit], .agg #[.int .i64 r_1.2.1.Lo, .int .i64 r_1.2.1.Hi], .slice p_2 r_1.2.2.1.length c_2]) (caps := []) hf rfl rfl rfl en_54 rfl rfl rfl rfl (share_Debts_ok r_1.1 r_1.2.1 r_1.2.2.1 (hrd1.mono hle2) hrd2 hc hr_3) ?_
  rintro _ w ⟨p_5, c_5, rfl, hc⟩
  refine ⟨_, rfl, fun a hf => ?_⟩
  replace hc := hth2 _ _ hc
  replace hc := hth1 _ _ hc
  refine stP hf rfl rfl rfl (pM rfl) fun a hf => ?_
  refine stP hf rfl rfl rfl (pX rfl rfl) fun a hf => ?_
  refine stP hf rfl rfl rfl (pX rfl rfl) fun a hf => ?_
  refine stP hf rfl rfl rfl (pA rfl) fun a hf => ?_
  refine stP hf rfl rfl rfl (pA rfl) fun a hf => ?_
  refine cNil ?_
  refine h5 _ _ ?_
  refine wp_seq_k fun K6 h6 => ?_
  refine wp_seq_k fun K7 h7 => ?_
  refine cReg ?_
  refine stP hf rfl rfl rfl (pM rfl) fun a hf => ?_
  refine stP hf rfl rfl rfl (pNe rfl rfl) fun a hf => ?_
  refine stP hf rfl rfl rfl (pM rfl) fun a hf => ?_
  refine stCut 3 (fun a w => Has 256 a [(5, .pointer (some ⟨b_2, 0, none⟩)), (6, .pointer (some ⟨b_3, 0, none⟩)), (7, .slice p_2 r_1.2.2.1.length c_2), (8, .slice p_3 r_1.2.2.2.1.length c_3), (9, .int .i64 (W (r_1.2.1.Lo + ((W (at_)).tmod (W ((W (r_1.2.1.Hi - r_1.2.1.Lo)) + 1)))))), (10, .slice p_4 r_2.1.length c_4), (11, .int .i64 r_2.2), (12, .slice p_5 r_3.1.length c_5), (13, .int .i64 r_3.2), (60, .int .i64 r_2.2), (61, .bool (r_2.2 != 0)), (62, .bool (r_2.2 != 0)), (65, .bool ((r_2.2 != 0) || (r_3.2 != 0)))] ∧ Ctx G (.row p_1 c_1 (r_1.1.Table.map enc_share_Point) 116 2 :: .row p_2 c_2 (r_1.2.2.1.map enc_share_Year) 94 5 :: .row p_5 c_5 (r_3.1.map enc_api_Span) 26 2 :: .row p_3 c_3 (r_1.2.2.2.1.map enc_share_Truth) 97 2 :: .row p_4 c_4 (r_2.1.map encI_i64) 3 1 :: .box b_3 [.int .i64 r_1.2.1.Lo, .int .i64 r_1.2.1.Hi] 26 :: .box b_2 [.slice p_1 r_1.1.Table.length c_1, .int .i64 r_1.1.Credit] 88 :: .box b_1 [.slice numbers_p numbers.length numbers_c, .int .i64 r_1.2.2.2.2.1, .int .i64 r_1.2.2.2.2.2] 161 :: Lf) w) ?_ ?_
  · cases hb : (r_2.2 != 0)
    · rw [hb] at hf
      refine stP hf rfl rfl rfl (pM rfl) fun a hf => ?_
      refine stP hf rfl rfl rfl (pNe rfl rfl) fun a hf => ?_
      refine stP hf rfl rfl rfl (pPf rfl rfl) fun a hf => ?_
      exact cNil ⟨hf.keep ⟨rfl, rfl, rfl, rfl, rfl, rfl, rfl, rfl, rfl, rfl, rfl, rfl, rfl, trivial⟩, hc⟩
    · rw [hb] at hf
      refine stS hf rfl rfl rfl fun a hf => ?_
      refine stS hf rfl rfl rfl fun a hf => ?_
      refine stP hf rfl rfl rfl (pPt rfl rfl) fun a hf => ?_
      exact cNil ⟨hf.keep ⟨rfl, rfl, rfl, rfl, rfl, rfl, rfl, rfl, rfl, rfl, rfl, rfl, rfl, trivial⟩, hc⟩
  intro a w ⟨hf, hc⟩
  refine stP hf rfl rfl rfl (pM rfl) fun a hf => ?_
  refine stCut 6 (fun a w => Has 256 a [(5, .pointer (some ⟨b_2, 0, none⟩)), (6, .pointer (some ⟨b_3, 0, none⟩)), (7, .slice p_2 r_1.2.2.1.length c_2), (8, .slice p_3 r_1.2.2.2.1.length c_3), (9, .int .i64 (W (r_1.2.1.Lo + ((W (at_)).tmod (W ((W (r_1.2.1.Hi - r_1.2.1.Lo)) + 1)))))), (10, .slice p_4 r_2.1.length c_4), (11, .int .i64 r_2.2), (12, .slice p_5 r_3.1.length c_5), (13, .int .i64 r_3.2), (60, .int .i64 r_2.2), (61, .bool (r_2.2 != 0)), (62, .bool (r_2.2 != 0)), (65, .bool ((r_2.2 != 0) || (r_3.2 != 0))), (66, .bool ((r_2.2 != 0) || (r_3.2 != 0))), (72, .bool (((r_2.2 != 0) || (r_3.2 != 0)) || (((r_2.1.length : Nat) : Int) != ((r_1.2.2.1.length : Nat) : Int))))] ∧ Ctx G (.row p_1 c_1 (r_1.1.Table.map enc_share_Point) 116 2 :: .row p_2 c_2 (r_1.2.2.1.map enc_share_Year) 94 5 :: .row p_5 c_5 (r_3.1.map enc_api_Span) 26 2 :: .row p_3 c_3 (r_1.2.2.2.1.map enc_share_Truth) 97 2 :: .row p_4 c_4 (r_2.1.map encI_i64) 3 1 :: .box b_3 [.int .i64 r_1.2.1.Lo, .int .i64 r_1.2.1.Hi] 26 :: .box b_2 [.slice p_1 r_1.1.Table.length c_1, .int .i64 r_1.1.Credit] 88 :: .box b_1 [.slice numbers_p numbers.length numbers_c, .int .i64 r_1.2.2.2.2.1, .int .i64 r_1.2.2.2.2.2] 161 :: Lf) w) ?_ ?_
  · cases hb : ((r_2.2 != 0) || (r_3.2 != 0))
    · rw [hb] at hf
      refine stP hf rfl rfl rfl (pM rfl) fun a hf => ?_
      refine stP hf rfl rfl rfl (pLenS Try.underlying36 rfl) fun a hf => ?_
      refine stP hf rfl rfl rfl (pM rfl) fun a hf => ?_
      refine stP hf rfl rfl rfl (pLenS Try.underlying89 rfl) fun a hf => ?_
      refine stP hf rfl rfl rfl (pNe rfl rfl) fun a hf => ?_
      refine stP hf rfl rfl rfl (pPf rfl rfl) fun a hf => ?_
      exact cNil ⟨hf.keep ⟨rfl, rfl, rfl, rfl, rfl, rfl, rfl, rfl, rfl, rfl, rfl, rfl, rfl, rfl, rfl, trivial⟩, hc⟩
    · rw [hb] at hf
      refine stS hf rfl rfl rfl fun a hf => ?_
      refine stS hf rfl rfl rfl fun a hf => ?_
      refine stS hf rfl rfl rfl fun a hf => ?_
      refine stS hf rfl rfl rfl fun a hf => ?_
      refine stS hf rfl rfl rfl fun a hf => ?_
      refine stP hf rfl rfl rfl (pPt rfl rfl) fun a hf => ?_
      exact cNil ⟨hf.keep ⟨rfl, rfl, rfl, rfl, rfl, rfl, rfl, rfl, rfl, rfl, rfl, rfl, rfl, rfl, rfl, trivial⟩, hc⟩
  intro a w ⟨hf, hc⟩
  refine stP hf rfl rfl rfl (pM rfl) fun a hf => ?_
  refine stCut 6 (fun a w => Has 256 a [(5, .pointer (some ⟨b_2, 0, none⟩)), (6, .pointer (some ⟨b_3, 0, none⟩)), (7, .slice p_2 r_1.2.2.1.length c_2), (8, .slice p_3 r_1.2.2.2.1.length c_3), (9, .int .i64 (W (r_1.2.1.Lo + ((W (at_)).tmod (W ((W (r_1.2.1.Hi - r_1.2.1.Lo)) + 1)))))), (10, .slice p_4 r_2.1.length c_4), (11, .int .i64 r_2.2), (12, .slice p_5 r_3.1.length c_5), (13, .int .i64 r_3.2), (60, .int .i64 r_2.2), (61, .bool (r_2.2 != 0)), (62, .bool (r_2.2 != 0)), (65, .bool ((r_2.2 != 0) || (r_3.2 != 0))), (66, .bool ((r_2.2 != 0) || (r_3.2 != 0))), (72, .bool (((r_2.2 != 0) || (r_3.2 != 0)) || (((r_2.1.length : Nat) : Int) != ((r_1.2.2.1.length : Nat) : Int)))), (73, .bool (((r_2.2 != 0) || (r_3.2 != 0)) || (((r_2.1.length : Nat) : Int) != ((r_1.2.2.1.length : Nat) : Int)))), (79, .bool ((((r_2.2 != 0) || (r_3.2 != 0)) || (((r_2.1.length : Nat) : Int) != ((r_1.2.2.1.length : Nat) : Int))) || (((r_3.1.length : Nat) : Int) != ((r_1.2.2.1.length : Nat) : Int))))] ∧ Ctx G (.row p_1 c_1 (r_1.1.Table.map enc_share_Point) 116 2 :: .row p_2 c_2 (r_1.2.2.1.map enc_share_Year) 94 5 :: .row p_5 c_5 (r_3.1.map enc_api_Span) 26 2 :: .row p_3 c_3 (r_1.2.2.2.1.map enc_share_Truth) 97 2 :: .row p_4 c_4 (r_2.1.map encI_i64) 3 1 :: .box b_3 [.int .i64 r_1.2.1.Lo, .int .i64 r_1.2.1.Hi] 26 :: .box b_2 [.slice p_1 r_1.1.Table.length c_1, .int .i64 r_1.1.Credit] 88 :: .box b_1 [.slice numbers_p numbers.length numbers_c, .int .i64 r_1.2.2.2.2.1, .int .i64 r_1.2.2.2.2.2] 161 :: Lf) w) ?_ ?_
  · cases hb : (((r_2.2 != 0) || (r_3.2 != 0)) || (((r_2.1.length : Nat) : Int) != ((r_1.2.2.1.length : Nat) : Int)))
    · rw [hb] at hf
      refine stP hf rfl rfl rfl (pM rfl) fun a hf => ?_
      refine stP hf rfl rfl rfl (pLenS Try.underlying41 rfl) fun a hf => ?_
      refine stP hf rfl rfl rfl (pM rfl) fun a hf => ?_
      refine stP hf rfl rfl rfl (pLenS Try.underlying89 rfl) fun a hf => ?_
      refine stP hf rfl rfl rfl (pNe rfl rfl) fun a hf => ?_
      refine stP hf rfl rfl rfl (pPf rfl rfl) fun a hf => ?_
      exact cNil ⟨hf.keep ⟨rfl, rfl, rfl, rfl, rfl, rfl, rfl, rfl, rfl, rfl, rfl, rfl, rfl, rfl, rfl, rfl, rfl, trivial⟩, hc⟩
    · rw [hb] at hf
      refine stS hf rfl rfl rfl fun a hf => ?_
      refine stS hf rfl rfl rfl fun a hf => ?_
      refine stS hf rfl rfl rfl fun a hf => ?_
      refine stS hf rfl rfl rfl fun a hf => ?_
      refine stS hf rfl rfl rfl fun a hf => ?_
      refine stP hf rfl rfl rfl (pPt rfl rfl) fun a hf => ?_
      exact cNil ⟨hf.keep ⟨rfl, rfl, rfl, rfl, rfl, rfl, rfl, rfl, rfl, rfl, rfl, rfl, rfl, rfl, rfl, rfl, rfl, trivial⟩, hc⟩
  intro a w ⟨hf, hc⟩
  refine cNil ?_
  refine h7 _ _ ?_
  refine cCond (b := ((((r_2.2 != 0) || (r_3.2 != 0)) || (((r_2.1.length : Nat) : Int) != ((r_1.2.2.1.length : Nat) : Int))) || (((r_3.1.length : Nat) : Int) != ((r_1.2.2.1.length : Nat) : Int)))) hf rfl (fun hb => ?_) (fun hb => ?_)
  · replace hF := condT hb hF
    clear hb
    refine wp_seq_k fun K8 h8 => ?_
    refine cReg ?_
    refine stP hf rfl rfl rfl (pA rfl) fun a hf => ?_
    refine cNil ?_
    refine h8 _ _ ?_
    refine wp_ret ?_
    refine xThenR ?_
    obtain rfl := Option.some.inj hF
    replace hc := hc.drop k7
    replace hc := hc.drop k6
    replace hc := hc.drop k5
    replace hc := hc.drop k4
    replace hc := hc.drop k3
    replace hc := hc.drop k2
    replace hc := hc.drop k1
    replace hc := hc.drop k0
    exact fnOut1 (by simp) rfl Try.results9 hf hc (show look _ 4 = _ from rfl) ⟨rfl, hc⟩
  · replace hF := condF hb hF
    clear hb
    refine wp_skip ?_
    refine h6 _ _ ?_
    refine wp_seq_k fun K9 h9 => ?_
    refine cReg ?_
    refine stP hf rfl rfl rfl (pA rfl) fun a hf => ?_
    refine stP hf rfl rfl rfl (pA rfl) fun a hf => ?_
    refine cNil ?_
    refine h9 _ _ ?_
    refine wp_seq_k fun K10 h10 => ?_
    refine wp_seq_k fun K11 h11 => ?_
    refine cReg ?_
    refine stP hf rfl rfl rfl (pM rfl) fun a hf => ?_
    refine stP hf rfl rfl rfl (pLenS Try.underlying89 rfl) fun a hf => ?_
    refine stP hf rfl rfl rfl (pM rfl) fun a hf => ?_
    refine cNil ?_
    refine h11 _ _ ?_
    refine wp_block ?_
    obtain ⟨x12, hx12, hF⟩ := bnd_some hF
    let S12 : ((List share_Year) × (List share_Truth) × (List share_Truth) × Int) → Act → World → Prop := (fun (zz : (List share_Year) × (List share_Truth) × (List share_Truth) × Int) a w => ∃ (p_6 : Option Addr) (c_6 : Nat) (p_7 : Option Addr) (c_7 : Nat) (p_8 : Option Addr) (c_8 : Nat), Has 256 a [(5, .pointer (some ⟨b_2, 0, none⟩)), (6, .pointer (some ⟨b_3, 0, none⟩)), (7, .slice p_6 zz.1.length c_6), (8, .slice p_3 r_1.2.2.2.1.length c_3), (9, .int .i64 (W (r_1.2.1.Lo + ((W (at_)).tmod (W ((W (r_1.2.1.Hi - r_1.2.1.Lo)) + 1)))))), (10, .slice p_4 r_2.1.length c_4), (12, .slice p_5 r_3.1.length c_5), (14, .slice p_7 zz.2.1.length c_7), (15, .slice p_8 zz.2.2.1.length c_8), (80, .slice p_6 zz.1.length c_6), (81, .int .i64 ((r_1.2.2.1.length : Nat) : Int)), (82, .int .i64 zz.2.2.2)] ∧ Ctx G (.row p_8 c_8 (zz.2.2.1.map enc_share_Truth) 97 2 :: .row p_7 c_7 (zz.2.1.map enc_share_Truth) 97 2 :: .row p_1 c_1 (r_1.1.Table.map enc_share_Point) 116 2 :: .row p_6 c_6 (zz.1.map enc_share_Year) 94 5 :: .row p_5 c_5 (r_3.1.map enc_api_Span) 26 2 :: .row p_3 c_3 (r_1.2.2.2.1.map enc_share_Truth) 97 2 :: .row p_4 c_4 (r_2.1.map encI_i64) 3 1 :: .box b_3 [.int .i64 r_1.2.1.Lo, .int .i64 r_1.2.1.Hi] 26 :: .box b_2 [.slice p_1 r_1.1.Table.length c_1, .int .i64 r_1.1.Credit] 88 :: Lf) w)
    have hr12 : ∀ (zz : (List share_Year) × (List share_Truth) × (List share_Truth) × Int) a w, x12 = .go zz → S12 zz a w → K10 a w := by
      rintro ⟨l, low, high, x⟩ a w rfl ⟨p_6, c_6, p_7, c_7, p_8, c_8, hf, hc⟩
      replace hF : _ = some res := hF
      refine h10 _ _ ?_
      refine wp_seq_k fun K13 h13 => ?_
      refine cReg ?_
      refine stE hf hc rfl rfl rfl (eLdN (vs := [.slice p_1 r_1.1.Table.length c_1, .int .i64 r_1.1.Credit]) ag_88 rfl rfl (cells_box (n := 2) m8 rfl)) fun a w hf hc => ?_
      refine stP hf rfl rfl rfl (pFA fa_26_0 rfl) fun a hf => ?_
      refine stE hf hc rfl rfl rfl (eLd1 sc_3 rfl (cell_box m7 rfl)) fun a w hf hc => ?_
      refine stP hf rfl rfl rfl (pM rfl) fun a hf => ?_
      refine stP hf rfl rfl rfl (pM rfl) fun a hf => ?_
      obtain ⟨r_4, hr_4, hF⟩ := bnd_some hF
      obtain ⟨G1, hle1, hrd1, hc, hth1⟩ := lend hc k2
      obtain ⟨G2, hle2, hrd2, hc, hth2⟩ := lend hc k2
      obtain ⟨G3, hle3, hrd3, hc, hth3⟩ := lend hc k1
      refine stC (vs := [.agg #[.slice p_1 r_1.1.Table.length c_1, .int .i64 r_1.1.Credit], .int .i64 r_1.2.1.Lo, .slice p_6 l.length c_6, .slice p_7 low.length c_7]) (caps := []) hf rfl rfl rfl en_52 rfl rfl rfl rfl (share_Owed_ok r_1.1 r_1.2.1.Lo l low ((hrd1.mono hle2).mono hle3) (hrd2.mono hle3) hrd3 hc hr_4) ?_
      rintro _ w ⟨p_9, c_9, rfl, hc⟩
      refine ⟨_, rfl, fun a hf => ?_⟩
      replace hc := hth3 _ _ hc
      replace hc := hth2 _ _ hc
      replace hc := hth1 _ _ hc
      refine stP hf rfl rfl rfl (pM rfl) fun a hf => ?_
      refine stP hf rfl rfl rfl (pX rfl rfl) fun a hf => ?_
      refine stP hf rfl rfl rfl (pX rfl rfl) fun a hf => ?_
      refine stP hf rfl rfl rfl (pA rfl) fun a hf => ?_
      refine stP hf rfl rfl rfl (pA rfl) fun a hf => ?_
      refine cNil ?_
      refine h13 _ _ ?_
      refine wp_seq_k fun K14 h14 => ?_
      refine cReg ?_
      refine stE hf hc rfl rfl rfl (eLdN (vs := [.slice p_1 r_1.1.Table.length c_1, .int .i64 r_1.1.Credit]) ag_88 rfl rfl (cells_box (n := 2) m9 rfl)) fun a w hf hc => ?_
      refine stP hf rfl rfl rfl (pFA fa_26_1 rfl) fun a hf => ?_
      refine stE hf hc rfl rfl rfl (eLd1 sc_3 rfl (cell_box m8 rfl)) fun a w hf hc => ?_
      refine stP hf rfl rfl rfl (pM rfl) fun a hf => ?_
      refine stP hf rfl rfl rfl (pM rfl) fun a hf => ?_
      obtain ⟨r_5, hr_5, hF⟩ := bnd_some hF
      obtain ⟨G1, hle1, hrd1, hc, hth1⟩ := lend hc k0
      obtain ⟨G2, hle2, hrd2, hc, hth2⟩ := lend hc k0
      obtain ⟨G3, hle3, hrd3, hc, hth3⟩ := lend hc k2
      refine stC (vs := [.agg #[.slice p_1 r_1.1.Table.length c_1, .int .i64 r_1.1.Credit], .int .i64 r_1.2.1.Hi, .slice p_6 l.length c_6, .slice p_8 high.length c_8]) (caps := []) hf rfl rfl rfl en_52 rfl rfl rfl rfl (share_Owed_ok r_1.1 r_1.2.1.Hi l high ((hrd1.mono hle2).mono hle3) (hrd2.mono hle3) hrd3 hc hr_5) ?_
      rintro _ w ⟨p_10, c_10, rfl, hc⟩
      refine ⟨_, rfl, fun a hf => ?_⟩
      replace hc := hth3 _ _ hc
      replace hc := hth2 _ _ hc
      replace hc := hth1 _ _ hc
      refine stP hf rfl rfl rfl (pM rfl) fun a hf => ?_
      refine stP hf rfl rfl rfl (pX rfl rfl) fun a hf => ?_
      refine stP hf rfl rfl rfl (pX rfl rfl) fun a hf => ?_
      refine stP hf rfl rfl rfl (pA rfl) fun a hf => ?_
      refine stP hf rfl rfl rfl (pA rfl) fun a hf => ?_
      refine cNil ?_
      refine h14 _ _ ?_
      refine wp_seq_k fun K15 h15 => ?_
      refine wp_seq_k fun K16 h16 => ?_
      refine cReg ?_
      refine stP hf rfl rfl rfl (pM rfl) fun a hf => ?_
      refine stP hf rfl rfl rfl (pNe rfl rfl) fun a hf => ?_
      refine stP hf rfl rfl rfl (pM rfl) fun a hf => ?_
      refine stCut 3 (fun a w => Has 256 a [(5, .pointer (some ⟨b_2, 0, none⟩)), (7, .slice p_6 l.length c_6), (8, .slice p_3 r_1.2.2.2.1.length c_3), (9, .int .i64 (W (r_1.2.1.Lo + ((W (at_)).tmod (W ((W (r_1.2.1.Hi - r_1.2.1.Lo)) + 1)))))), (10, .slice p_4 r_2.1.length c_4), (12, .slice p_5 r_3.1.length c_5), (18, .slice p_9 r_4.1.length c_9), (11, .int .i64 r_4.2), (19, .slice p_10 r_5.1.length c_10), (13, .int .i64 r_5.2), (125, .int .i64 r_4.2), (126, .bool (r_4.2 != 0)), (127, .bool (r_4.2 != 0)), (130, .bool ((r_4.2 != 0) || (r_5.2 != 0)))] ∧ Ctx G (.row p_1 c_1 (r_1.1.Table.map enc_share_Point) 116 2 :: .row p_6 c_6 (l.map enc_share_Year) 94 5 :: .row p_8 c_8 (high.map enc_share_Truth) 97 2 :: .row p_10 c_10 (r_5.1.map encI_i64) 3 1 :: .row p_7 c_7 (low.map enc_share_Truth) 97 2 :: .row p_9 c_9 (r_4.1.map encI_i64) 3 1 :: .row p_5 c_5 (r_3.1.map enc_api_Span) 26 2 :: .row p_3 c_3 (r_1.2.2.2.1.map enc_share_Truth) 97 2 :: .row p_4 c_4 (r_2.1.map encI_i64) 3 1 :: .box b_3 [.int .i64 r_1.2.1.Lo, .int .i64 r_1.2.1.Hi] 26 :: .box b_2 [.slice p_1 r_1.1.Table.length c_1, .int .i64 r_1.1.Credit] 88 :: Lf) w) ?_ ?_
      · cases hb : (r_4.2 != 0)
        · rw [hb] at hf
          refine stP hf rfl rfl rfl (pM rfl) fun a hf => ?_
          refine stP hf rfl rfl rfl (pNe rfl rfl) fun a hf => ?_
          refine stP hf rfl rfl rfl (pPf rfl rfl) fun a hf => ?_
          exact cNil ⟨hf.keep ⟨rfl, rfl, rfl, rfl, rfl, rfl, rfl, rfl, rfl, rfl, rfl, rfl, rfl, rfl, trivial⟩, hc⟩
        · rw [hb] at hf
          refine stS hf rfl rfl rfl fun a hf => ?_
          refine stS hf rfl rfl rfl fun a hf => ?_
          refine stP hf rfl rfl rfl (pPt rfl rfl) fun a hf => ?_
          exact cNil ⟨hf.keep ⟨rfl, rfl, rfl, rfl, rfl, rfl, rfl, rfl, rfl, rfl, rfl, rfl, rfl, rfl, trivial⟩, hc⟩
      intro a w ⟨hf, hc⟩
      refine stP hf rfl rfl rfl (pM rfl) fun a hf => ?_
      refine stCut 6 (fun a w => Has 256 a [(5, .pointer (some ⟨b_2, 0, none⟩)), (7, .slice p_6 l.length c_6), (8, .slice p_3 r_1.2.2.2.1.length c_3), (9, .int .i64 (W (r_1.2.1.Lo + ((W (at_)).tmod (W ((W (r_1.2.1.Hi - r_1.2.1.Lo)) + 1)))))), (10, .slice p_4 r_2.1.length c_4), (12, .slice p_5 r_3.1.length c_5), (18, .slice p_9 r_4.1.length c_9), (11, .int .i64 r_4.2), (19, .slice p_10 r_5.1.length c_10), (13, .int .i64 r_5.2), (125, .int .i64 r_4.2), (126, .bool (r_4.2 != 0)), (127, .bool (r_4.2 != 0)), (130, .bool ((r_4.2 != 0) || (r_5.2 != 0))), (131, .bool ((r_4.2 != 0) || (r_5.2 != 0))), (137, .bool (((r_4.2 != 0) || (r_5.2 != 0)) || (((r_4.1.length : Nat) : Int) != ((l.length : Nat) : Int))))] ∧ Ctx G (.row p_1 c_1 (r_1.1.Table.map enc_share_Point) 116 2 :: .row p_6 c_6 (l.map enc_share_Year) 94 5 :: .row p_8 c_8 (high.map enc_share_Truth) 97 2 :: .row p_10 c_10 (r_5.1.map encI_i64) 3 1 :: .row p_7 c_7 (low.map enc_share_Truth) 97 2 :: .row p_9 c_9 (r_4.1.map encI_i64) 3 1 :: .row p_5 c_5 (r_3.1.map enc_api_Span) 26 2 :: .row p_3 c_3 (r_1.2.2.2.1.map enc_share_Truth) 97 2 :: .row p_4 c_4 (r_2.1.map encI_i64) 3 1 :: .box b_3 [.int .i64 r_1.2.1.Lo, .int .i64 r_1.2.1.Hi] 26 :: .box b_2 [.slice p_1 r_1.1.Table.length c_1, .int .i64 r_1.1.Credit] 88 :: Lf) w) ?_ ?_
      · cases hb : ((r_4.2 != 0) || (r_5.2 != 0))
        · rw [hb] at hf
          refine stP hf rfl rfl rfl (pM rfl) fun a hf => ?_
          refine stP hf rfl rfl rfl (pLenS Try.underlying36 rfl) fun a hf => ?_
          refine stP hf rfl rfl rfl (pM rfl) fun a hf => ?_
          refine stP hf rfl rfl rfl (pLenS Try.underlying89 rfl) fun a hf => ?_
          refine stP hf rfl rfl rfl (pNe rfl rfl) fun a hf => ?_
          refine stP hf rfl rfl rfl (pPf rfl rfl) fun a hf => ?_
          exact cNil ⟨hf.keep ⟨rfl, rfl, rfl, rfl, rfl, rfl, rfl, rfl, rfl, rfl, rfl, rfl, rfl, rfl, rfl, rfl, trivial⟩, hc⟩
        · rw [hb] at hf
          refine stS hf rfl rfl rfl fun a hf => ?_
          refine stS hf rfl rfl rfl fun a hf => ?_
          refine stS hf rfl rfl rfl fun a hf => ?_
          refine stS hf rfl rfl rfl fun a hf => ?_
          refine stS hf rfl rfl rfl fun a hf => ?_
          refine stP hf rfl rfl rfl (pPt rfl rfl) fun a hf => ?_
          exact cNil ⟨hf.keep ⟨rfl, rfl, rfl, rfl, rfl, rfl, rfl, rfl, rfl, rfl, rfl, rfl, rfl, rfl, rfl, rfl, trivial⟩, hc⟩
      intro a w ⟨hf, hc⟩
      refine stP hf rfl rfl rfl (pM rfl) fun a hf => ?_
      refine stCut 6 (fun a w => Has 256 a [(5, .pointer (some ⟨b_2, 0, none⟩)), (7, .slice p_6 l.length c_6), (8, .slice p_3 r_1.2.2.2.1.length c_3), (9, .int .i64 (W (r_1.2.1.Lo + ((W (at_)).tmod (W ((W (r_1.2.1.Hi - r_1.2.1.Lo)) + 1)))))), (10, .slice p_4 r_2.1.length c_4), (12, .slice p_5 r_3.1.length c_5), (18, .slice p_9 r_4.1.length c_9), (11, .int .i64 r_4.2), (19, .slice p_10 r_5.1.length c_10), (13, .int .i64 r_5.2), (125, .int .i64 r_4.2), (126, .bool (r_4.2 != 0)), (127, .bool (r_4.2 != 0)), (130, .bool ((r_4.2 != 0) || (r_5.2 != 0))), (131, .bool ((r_4.2 != 0) || (r_5.2 != 0))), (137, .bool (((r_4.2 != 0) || (r_5.2 != 0)) || (((r_4.1.length : Nat) : Int) != ((l.length : Nat) : Int)))), (138, .bool (((r_4.2 != 0) || (r_5.2 != 0)) || (((r_4.1.length : Nat) : Int) != ((l.length : Nat) : Int)))), (144, .bool ((((r_4.2 != 0) || (r_5.2 != 0)) || (((r_4.1.length : Nat) : Int) != ((l.length : Nat) : Int))) || (((r_5.1.length : Nat) : Int) != ((l.length : Nat) : Int))))] ∧ Ctx G (.row p_1 c_1 (r_1.1.Table.map enc_share_Point) 116 2 :: .row p_6 c_6 (l.map enc_share_Year) 94 5 :: .row p_8 c_8 (high.map enc_share_Truth) 97 2 :: .row p_10 c_10 (r_5.1.map encI_i64) 3 1 :: .row p_7 c_7 (low.map enc_share_Truth) 97 2 :: .row p_9 c_9 (r_4.1.map encI_i64) 3 1 :: .row p_5 c_5 (r_3.1.map enc_api_Span) 26 2 :: .row p_3 c_3 (r_1.2.2.2.1.map enc_share_Truth) 97 2 :: .row p_4 c_4 (r_2.1.map encI_i64) 3 1 :: .box b_3 [.int .i64 r_1.2.1.Lo, .int .i64 r_1.2.1.Hi] 26 :: .box b_2 [.slice p_1 r_1.1.Table.length c_1, .int .i64 r_1.1.Credit] 88 :: Lf) w) ?_ ?_
      · cases hb : (((r_4.2 != 0) || (r_5.2 != 0)) || (((r_4.1.length : Nat) : Int) != ((l.length : Nat) : Int)))
        · rw [hb] at hf
          refine stP hf rfl rfl rfl (pM rfl) fun a hf => ?_
          refine stP hf rfl rfl rfl (pLenS Try.underlying36 rfl) fun a hf => ?_
          refine stP hf rfl rfl rfl (pM rfl) fun a hf => ?_
          refine stP hf rfl rfl rfl (pLenS Try.underlying89 rfl) fun a hf => ?_
          refine stP hf rfl rfl rfl (pNe rfl rfl) fun a hf => ?_
          refine stP hf rfl rfl rfl (pPf rfl rfl) fun a hf => ?_
          exact cNil ⟨hf.keep ⟨rfl, rfl, rfl, rfl, rfl, rfl, rfl, rfl, rfl, rfl, rfl, rfl, rfl, rfl, rfl, rfl, rfl, rfl, trivial⟩, hc⟩
        · rw [hb] at hf
          refine stS hf rfl rfl rfl fun a hf => ?_
          refine stS hf rfl rfl rfl fun a hf => ?_
          refine stS hf rfl rfl rfl fun a hf => ?_
          refine stS hf rfl rfl rfl fun a hf => ?_
          refine stS hf rfl rfl rfl fun a hf => ?_
          refine stP hf rfl rfl rfl (pPt rfl rfl) fun a hf => ?_
          exact cNil ⟨hf.keep ⟨rfl, rfl, rfl, rfl, rfl, rfl, rfl, rfl, rfl, rfl, rfl, rfl, rfl, rfl, rfl, rfl, rfl, rfl, trivial⟩, hc⟩
      intro a w ⟨hf, hc⟩
      refine cNil ?_
      refine h16 _ _ ?_
      refine cCond (b := ((((r_4.2 != 0) || (r_5.2 != 0)) || (((r_4.1.length : Nat) : Int) != ((l.length : Nat) : Int))) || (((r_5.1.length : Nat) : Int) != ((l.length : Nat) : Int)))) hf rfl (fun hb => ?_) (fun hb => ?_)
      · replace hF := condT hb hF
        clear hb
        refine wp_seq_k fun K17 h17 => ?_
        refine cReg ?_
        refine stP hf rfl rfl rfl (pA rfl) fun a hf => ?_
        refine cNil ?_
        refine h17 _ _ ?_
        refine wp_ret ?_
        refine xThenR ?_
        obtain rfl := Option.some.inj hF
        replace hc := hc.drop k10
        replace hc := hc.drop k9
        replace hc := hc.drop k8
        replace hc := hc.drop k7
        replace hc := hc.drop k6
        replace hc := hc.drop k5
        replace hc := hc.drop k4
        replace hc := hc.drop k3
        replace hc := hc.drop k2
        replace hc := hc.drop k1
        replace hc := hc.drop k0
        exact fnOut1 (by simp) rfl Try.results9 hf hc (show look _ 4 = _ from rfl) ⟨rfl, hc⟩
      · replace hF := condF hb hF
        clear hb
        refine wp_skip ?_
        refine h15 _ _ ?_
        refine wp_seq_k fun K18 h18 => ?_
        refine cReg ?_
        refine stP hf rfl rfl rfl (pM rfl) fun a hf => ?_
        refine stP hf rfl rfl rfl (pA rfl) fun a hf => ?_
        refine cNil ?_
        refine h18 _ _ ?_
        refine wp_seq_k fun K19 h19 => ?_
        refine wp_seq_k fun K20 h20 => ?_
        refine cReg ?_
        refine stP hf rfl rfl rfl (pM rfl) fun a hf => ?_
        refine stP hf rfl rfl rfl (pLenS Try.underlying89 rfl) fun a hf => ?_
        refine stP hf rfl rfl rfl (pM rfl) fun a hf => ?_
        refine cNil ?_
        refine h20 _ _ ?_
        refine wp_block ?_
        obtain ⟨x21, hx21, hF⟩ := bnd_some hF
        let S21 : ((List share_Truth) × (List Int) × (List api_Span) × Int × (List share_Year) × Int) → Act → World → Prop := (fun (zz : (List share_Truth) × (List Int) × (List api_Span) × Int × (List share_Year) × Int) a w => ∃ (p_11 : Option Addr) (c_11 : Nat) (p_12 : Option Addr) (c_12 : Nat) (p_13 : Option Addr) (c_13 : Nat) (p_14 : Option Addr) (c_14 : Nat), Has 256 a [(5, .pointer (some ⟨b_2, 0, none⟩)), (8, .slice p_11 zz.1.length c_11), (10, .slice p_12 zz.2.1.length c_12), (12, .slice p_13 zz.2.2.1.length c_13), (18, .slice p_9 r_4.1.length c_9), (19, .slice p_10 r_5.1.length c_10), (20, .int .i64 zz.2.2.2.1), (146, .slice p_14 zz.2.2.2.2.1.length c_14), (147, .int .i64 ((l.length : Nat) : Int)), (148, .int .i64 zz.2.2.2.2.2)] ∧ Ctx G (.row p_1 c_1 (r_1.1.Table.map enc_share_Point) 116 2 :: .row p_14 c_14 (zz.2.2.2.2.1.map enc_share_Year) 94 5 :: .row p_10 c_10 (r_5.1.map encI_i64) 3 1 :: .row p_9 c_9 (r_4.1.map encI_i64) 3 1 :: .row p_13 c_13 (zz.2.2.1.map enc_api_Span) 26 2 :: .row p_11 c_11 (zz.1.map enc_share_Truth) 97 2 :: .row p_12 c_12 (zz.2.1.map encI_i64) 3 1 :: .box b_2 [.slice p_1 r_1.1.Table.length c_1, .int .i64 r_1.1.Credit] 88 :: Lf) w)
        have hr21 : ∀ (zz : (List share_Truth) × (List Int) × (List api_Span) × Int × (List share_Year) × Int) a w, x21 = .go zz → S21 zz a w → K19 a w := by
          rintro ⟨truth, real, s_1, debt, x_1, x_2⟩ a w rfl ⟨p_11, c_11, p_12, c_12, p_13, c_13, p_14, c_14, hf, hc⟩
          replace hF : _ = some res := hF
          refine h19 _ _ ?_
          refine wp_seq_k fun K22 h22 => ?_
          refine cReg ?_
          obtain ⟨r_6, hr_6, hF⟩ := bnd_some hF
          refine stE hf hc rfl rfl rfl (eC (v := .bool r_6) (vs := []) (caps := []) en_13 rfl rfl rfl rfl (fun w hc => law09_awake_ok hc hr_6)) fun a w hf hc => ?_
          refine stP hf rfl rfl rfl (pA rfl) fun a hf => ?_
          refine cNil ?_
          refine h22 _ _ ?_
          refine wp_ret ?_
          obtain rfl := Option.some.inj hF
          replace hc := hc.drop k7
          replace hc := hc.drop k6
          replace hc := hc.drop k5
          replace hc := hc.drop k4
          replace hc := hc.drop k3
          replace hc := hc.drop k2
          replace hc := hc.drop k1
          replace hc := hc.drop k0
          exact fnOut1 (by simp) rfl Try.results9 hf hc (show look _ 4 = _ from rfl) ⟨rfl, hc⟩
        have ho21 : ∀ r, x21 = .out r → r = res := by
          rintro r rfl
          exact Option.some.inj hF
        replace hc := hc.drop k9
        replace hc := hc.drop k4
        replace hc := hc.drop k2
        refine cLoop N (loopW (S := S21) (x := x21) ?_ N (r_1.2.2.2.1, r_2.1, r_3.1, W (r_1.2.1.Lo + ((W (at_)).tmod (W ((W (r_1.2.1.Hi - r_1.2.1.Lo)) + 1)))), l, 0) _ _ ⟨p_3, c_3, p_4, c_4, p_5, c_5, p_6, c_6, hf.keep ⟨rfl, rfl, rfl, rfl, rfl, rfl, rfl, rfl, rfl, rfl, trivial⟩, hc⟩ hx21)
        clear hF hf hc
        rintro ⟨truth, real, s_1, debt, x_1, x_2⟩ st21 a w KB21 ⟨p_11, c_11, p_12, c_12, p_13, c_13, p_14, c_14, hf, hc⟩ hF hfin21 hK21
        unfold law09_ShareOwed_b21 at hF
        refine wp_seq_k fun K23 h23 => ?_
        refine cReg ?_
        refine stP hf rfl rfl rfl (pLt rfl rfl) fun a hf => ?_
        refine cNil ?_
        refine h23 _ _ ?_
        refine wp_seq_k fun K24 h24 => ?_
        refine cCond (b := (decide (x_2 < ((l.length : Nat) : Int)))) hf rfl (fun hb => ?_) (fun hb => ?_)
        · replace hF := condT hb hF
          clear hb
          refine wp_skip ?_
          refine h24 _ _ ?_
          refine wp_seq_k fun K25 h25 => ?_
          refine wp_block ?_
          refine wp_seq_k fun K26 h26 => ?_
          refine cReg ?_
          refine stP hf rfl rfl rfl (pM rfl) fun a hf => ?_
          obtain ⟨e_1, he_1, hF⟩ := bnd_some hF
          obtain ⟨g, rfl, qa, qr⟩ := row_atm hc m1 he_1
          refine stP hf rfl rfl rfl (pIA Try.underlying89 sz_94 rfl rfl qa) fun a hf => ?_
          refine stE hf hc rfl rfl rfl (eLdN (vs := [.int .i64 e_1.Index.Lo, .int .i64 e_1.Index.Hi, .int .i64 e_1.Delivered.Lo, .int .i64 e_1.Delivered.Hi, .bool e_1.Spill]) ag_94 rfl rfl (cells_rw (sz := 5) (i := x_2.toNat) m1 qr (n := 5) (o' := 0) rfl)) fun a w hf hc => ?_
          refine stAl (cs := [.int .i64 0, .int .i64 0, .int .i64 0, .int .i64 0, .bool false]) hf hc rfl rfl zr_94 rfl fun b_4 a w hf hc => ?_
          refine stP hf rfl rfl rfl (pA rfl) fun a hf => ?_
          refine stSt (vs := [.int .i64 e_1.Index.Lo, .int .i64 e_1.Index.Hi, .int .i64 e_1.Delivered.Lo, .int .i64 e_1.Delivered.Hi, .bool e_1.Spill]) hf hc rfl rfl rfl rfl sz_94 rfl rfl u0 fun w hc => ?_
          refine cNil ?_
          refine h26 _ _ ?_
          refine wp_seq_k fun K27 h27 => ?_
          refine wp_seq_k fun K28 h28 => ?_
          obtain ⟨e_2, he_2, hF⟩ := bnd_some hF
          obtain ⟨g_1, rfl, qa_1, qr_1⟩ := row_atm hc m7 he_2
          obtain ⟨e_3, he_3, hF⟩ := bnd_some hF
          obtain ⟨g_2, rfl, qa_2, qr_2⟩ := row_atm hc m5 he_3
          obtain ⟨t_1, ht_1, hF⟩ := bnd_some hF
          obtain ⟨t_2, ht_2, hF⟩ := bnd_some hF
          obtain ⟨t_3, ht_3, hF⟩ := bnd_some hF
          obtain ⟨t_4, ht_4, hF⟩ := bnd_some hF
          obtain ⟨t_6, ht_6, hF⟩ := bnd_some hF
          refine cQ hc follows_mx (by kernel_rfl) ?_
          refine qE hf rfl rfl rfl (Pu.ev (pM rfl)) fun a hf => ?_
          refine qE hf rfl rfl rfl (Pu.ev (pM rfl)) fun a hf => ?_
          refine qE hf rfl rfl rfl (Pu.ev (pIA Try.underlying36 sz_3 rfl rfl qa_1)) fun a hf => ?_
          refine qE hf rfl rfl rfl (eLd1 sc_3 rfl (cell_row (sz := 1) (i := x_2.toNat) (j := 0) m7 qr_1 rfl)) fun a hf => ?_
          refine qE hf rfl rfl rfl (Pu.ev (pM rfl)) fun a hf => ?_
          refine qE hf rfl rfl rfl (Pu.ev (pM rfl)) fun a hf => ?_
          refine qE hf rfl rfl rfl (Pu.ev (pIA Try.underlying41 sz_26 rfl rfl qa_2)) fun a hf => ?_
          refine qE hf rfl rfl rfl (Pu.ev (pFA fa_26_0 rfl)) fun a hf => ?_
          refine qE hf rfl rfl rfl (eLd1 sc_3 rfl (cell_row (sz := 2) (i := x_2.toNat) (j := 0) m5 qr_2 rfl)) fun a hf => ?_
          refine qE hf rfl rfl rfl (Pu.ev (pLt rfl rfl)) fun a hf => ?_
          refine qE hf rfl rfl rfl (Pu.ev (pM rfl)) fun a hf => ?_
          refine qCut 11 (fun a => Has 256 a [(5, .pointer (some ⟨b_2, 0, none⟩)), (8, .slice p_11 truth.length c_11), (10, .slice (some ⟨g_1, 0, none⟩) real.length c_12), (12, .slice (some ⟨g_2, 0, none⟩) s_1.length c_13), (18, .slice p_9 r_4.1.length c_9), (19, .slice p_10 r_5.1.length c_10), (20, .int .i64 debt), (146, .slice (some ⟨g, 0, none⟩) x_1.length c_14), (147, .int .i64 ((l.length : Nat) : Int)), (148, .int .i64 x_2), (22, .pointer (some ⟨b_4, 0, none⟩)), (21, .int .i64 x_2), (153, .slice (some ⟨g_1, 0, none⟩) real.length c_12), (154, .int .i64 x_2), (155, .pointer (some ⟨g_1, x_2.toNat * 1, none⟩)), (156, .int .i64 e_2), (157, .slice (some ⟨g_2, 0, none⟩) s_1.length c_13), (158, .int .i64 x_2), (159, .pointer (some ⟨g_2, x_2.toNat * 2, none⟩)), (160, .pointer (some ⟨g_2, x_2.toNat * 2 + 0, none⟩)), (161, .int .i64 e_3.Lo), (162, .bool (decide (e_2 < e_3.Lo))), (163, .bool (decide (e_2 < e_3.Lo))), (174, .bool t_1)]) ?_ ?_
          · cases hb : (decide (e_2 < e_3.Lo))
            · rw [hb] at hf
              have hF := condF hb ht_1
              obtain ⟨e_4, he_4, hF⟩ := bnd_some hF
              obtain ⟨qa_3, qr_3⟩ := row_atk hc m7 he_4
              obtain ⟨e_5, he_5, hF⟩ := bnd_some hF
              obtain ⟨qa_4, qr_4⟩ := row_atk hc m5 he_5
              refine qE hf rfl rfl rfl (Pu.ev (pM rfl)) fun a hf => ?_
              refine qE hf rfl rfl rfl (Pu.ev (pM rfl)) fun a hf => ?_
              refine qE hf rfl rfl rfl (Pu.ev (pIA Try.underlying36 sz_3 rfl rfl qa_3)) fun a hf => ?_
              refine qE hf rfl rfl rfl (eLd1 sc_3 rfl (cell_row (sz := 1) (i := x_2.toNat) (j := 0) m7 qr_3 rfl)) fun a hf => ?_
              refine qE hf rfl rfl rfl (Pu.ev (pM rfl)) fun a hf => ?_
              refine qE hf rfl rfl rfl (Pu.ev (pM rfl)) fun a hf => ?_
              refine qE hf rfl rfl rfl (Pu.ev (pIA Try.underlying41 sz_26 rfl rfl qa_4)) fun a hf => ?_
              refine qE hf rfl rfl rfl (Pu.ev (pFA fa_26_1 rfl)) fun a hf => ?_
              refine qE hf rfl rfl rfl (eLd1 sc_3 rfl (cell_row (sz := 2) (i := x_2.toNat) (j := 1) m5 qr_4 rfl)) fun a hf => ?_
              refine qE hf rfl rfl rfl (Pu.ev (pGt rfl rfl)) fun a hf => ?_
              refine qE hf rfl rfl rfl (Pu.ev (pPf rfl rfl)) fun a hf => ?_
              obtain rfl := Option.some.inj hF
              exact qNil (hf.keep ⟨rfl, rfl, rfl, rfl, rfl, rfl, rfl, rfl, rfl, rfl, rfl, rfl, rfl, rfl, rfl, rfl, rfl, rfl, rfl, rfl, rfl, rfl, rfl, rfl, trivial⟩)
            · rw [hb] at hf
              have hF := condT hb ht_1
              obtain rfl := Option.some.inj hF
              refine qS hf rfl rfl rfl fun a hf => ?_
              refine qS hf rfl rfl rfl fun a hf => ?_
              refine qS hf rfl rfl rfl fun a hf => ?_
              refine qS hf rfl rfl rfl fun a hf => ?_
              refine qS hf rfl rfl rfl fun a hf => ?_
              refine qS hf rfl rfl rfl fun a hf => ?_
              refine qS hf rfl rfl rfl fun a hf => ?_
              refine qS hf rfl rfl rfl fun a hf => ?_
              refine qS hf rfl rfl rfl fun a hf => ?_
              refine qS hf rfl rfl rfl fun a hf => ?_
              refine qE hf rfl rfl rfl (Pu.ev (pPt rfl rfl)) fun a hf => ?_
              exact qNil (hf.keep ⟨rfl, rfl, rfl, rfl, rfl, rfl, rfl, rfl, rfl, rfl, rfl, rfl, rfl, rfl, rfl, rfl, rfl, rfl, rfl, rfl, rfl, rfl, rfl, rfl, trivial⟩)
          intro a hf
          refine qE hf rfl rfl rfl (Pu.ev (pM rfl)) fun a hf => ?_
          refine qCut 11 (fun a => Has 256 a [(5, .pointer (some ⟨b_2, 0, none⟩)), (8, .slice p_11 truth.length c_11), (10, .slice (some ⟨g_1, 0, none⟩) real.length c_12), (12, .slice (some ⟨g_2, 0, none⟩) s_1.length c_13), (18, .slice p_9 r_4.1.length c_9), (19, .slice p_10 r_5.1.length c_10), (20, .int .i64 debt), (146, .slice (some ⟨g, 0, none⟩) x_1.length c_14), (147, .int .i64 ((l.length : Nat) : Int)), (148, .int .i64 x_2), (22, .pointer (some ⟨b_4, 0, none⟩)), (21, .int .i64 x_2), (153, .slice (some ⟨g_1, 0, none⟩) real.length c_12), (154, .int .i64 x_2), (155, .pointer (some ⟨g_1, x_2.toNat * 1, none⟩)), (156, .int .i64 e_2), (157, .slice (some ⟨g_2, 0, none⟩) s_1.length c_13), (158, .int .i64 x_2), (159, .pointer (some ⟨g_2, x_2.toNat * 2, none⟩)), (160, .pointer (some ⟨g_2, x_2.toNat * 2 + 0, none⟩)), (161, .int .i64 e_3.Lo), (162, .bool (decide (e_2 < e_3.Lo))), (163, .bool (decide (e_2 < e_3.Lo))), (174, .bool t_1), (175, .bool t_1), (186, .bool t_2)]) ?_ ?_
          · cases hb : t_1
            · rw [hb] at hf
              have hF := condF hb ht_2
              obtain ⟨e_6, he_6, hF⟩ := bnd_some hF
              obtain ⟨g_3, rfl, qa_5, qr_5⟩ := row_atm hc m4 he_6
              obtain ⟨e_7, he_7, hF⟩ := bnd_some hF
              obtain ⟨qa_6, qr_6⟩ := row_atk hc m5 he_7
              refine qE hf rfl rfl rfl (Pu.ev (pM rfl)) fun a hf => ?_
              refine qE hf rfl rfl rfl (Pu.ev (pM rfl)) fun a hf => ?_
              refine qE hf rfl rfl rfl (Pu.ev (pIA Try.underlying36 sz_3 rfl rfl qa_5)) fun a hf => ?_
              refine qE hf rfl rfl rfl (eLd1 sc_3 rfl (cell_row (sz := 1) (i := x_2.toNat) (j := 0) m4 qr_5 rfl)) fun a hf => ?_
              refine qE hf rfl rfl rfl (Pu.ev (pM rfl)) fun a hf => ?_
              refine qE hf rfl rfl rfl (Pu.ev (pM rfl)) fun a hf => ?_
              refine qE hf rfl rfl rfl (Pu.ev (pIA Try.underlying41 sz_26 rfl rfl qa_6)) fun a hf => ?_
              refine qE hf rfl rfl rfl (Pu.ev (pFA fa_26_0 rfl)) fun a hf => ?_
              refine qE hf rfl rfl rfl (eLd1 sc_3 rfl (cell_row (sz := 2) (i := x_2.toNat) (j := 0) m5 qr_6 rfl)) fun a hf => ?_
              refine qE hf rfl rfl rfl (Pu.ev (pNe rfl rfl)) fun a hf => ?_
              refine qE hf rfl rfl rfl (Pu.ev (pPf rfl rfl)) fun a hf => ?_
              obtain rfl := Option.some.inj hF
              exact qNil (hf.keep ⟨rfl, rfl, rfl, rfl, rfl, rfl, rfl, rfl, rfl, rfl, rfl, rfl, rfl, rfl, rfl, rfl, rfl, rfl, rfl, rfl, rfl, rfl, rfl, rfl, rfl, rfl, trivial⟩)
            · rw [hb] at hf
              have hF := condT hb ht_2
              obtain rfl := Option.some.inj hF
              refine qS hf rfl rfl rfl fun a hf => ?_
              refine qS hf rfl rfl rfl fun a hf => ?_
              refine qS hf rfl rfl rfl fun a hf => ?_
              refine qS hf rfl rfl rfl fun a hf => ?_
              refine qS hf rfl rfl rfl fun a hf => ?_
              refine qS hf rfl rfl rfl fun a hf => ?_
              refine qS hf rfl rfl rfl fun a hf => ?_
              refine qS hf rfl rfl rfl fun a hf => ?_
              refine qS hf rfl rfl rfl fun a hf => ?_
              refine qS hf rfl rfl rfl fun a hf => ?_
              refine qE hf rfl rfl rfl (Pu.ev (pPt rfl rfl)) fun a hf => ?_
              exact qNil (hf.keep ⟨rfl, rfl, rfl, rfl, rfl, rfl, rfl, rfl, rfl, rfl, rfl, rfl, rfl, rfl, rfl, rfl, rfl, rfl, rfl, rfl, rfl, rfl, rfl, rfl, rfl, rfl, trivial⟩)
          intro a hf
          refine qE hf rfl rfl rfl (Pu.ev (pM rfl)) fun a hf => ?_
          refine qCut 11 (fun a => Has 256 a [(5, .pointer (some ⟨b_2, 0, none⟩)), (8, .slice p_11 truth.length c_11), (10, .slice (some ⟨g_1, 0, none⟩) real.length c_12), (12, .slice (some ⟨g_2, 0, none⟩) s_1.length c_13), (18, .slice p_9 r_4.1.length c_9), (19, .slice p_10 r_5.1.length c_10), (20, .int .i64 debt), (146, .slice (some ⟨g, 0, none⟩) x_1.length c_14), (147, .int .i64 ((l.length : Nat) : Int)), (148, .int .i64 x_2), (22, .pointer (some ⟨b_4, 0, none⟩)), (21, .int .i64 x_2), (153, .slice (some ⟨g_1, 0, none⟩) real.length c_12), (154, .int .i64 x_2), (155, .pointer (some ⟨g_1, x_2.toNat * 1, none⟩)), (156, .int .i64 e_2), (157, .slice (some ⟨g_2, 0, none⟩) s_1.length c_13), (158, .int .i64 x_2), (159, .pointer (some ⟨g_2, x_2.toNat * 2, none⟩)), (160, .pointer (some ⟨g_2, x_2.toNat * 2 + 0, none⟩)), (161, .int .i64 e_3.Lo), (162, .bool (decide (e_2 < e_3.Lo))), (163, .bool (decide (e_2 < e_3.Lo))), (174, .bool t_1), (175, .bool t_1), (186, .bool t_2), (187, .bool t_2), (198, .bool t_3)]) ?_ ?_
          · cases hb : t_2
            · rw [hb] at hf
              have hF := condF hb ht_3
              obtain ⟨e_8, he_8, hF⟩ := bnd_some hF
              obtain ⟨g_4, rfl, qa_7, qr_7⟩ := row_atm hc m3 he_8
              obtain ⟨e_9, he_9, hF⟩ := bnd_some hF
              obtain ⟨qa_8, qr_8⟩ := row_atk hc m5 he_9
              refine qE hf rfl rfl rfl (Pu.ev (pM rfl)) fun a hf => ?_
              refine qE hf rfl rfl rfl (Pu.ev (pM rfl)) fun a hf => ?_
              refine qE hf rfl rfl rfl (Pu.ev (pIA Try.underlying36 sz_3 rfl rfl qa_7)) fun a hf => ?_
              refine qE hf rfl rfl rfl (eLd1 sc_3 rfl (cell_row (sz := 1) (i := x_2.toNat) (j := 0) m3 qr_7 rfl)) fun a hf => ?_
              refine qE hf rfl rfl rfl (Pu.ev (pM rfl)) fun a hf => ?_
              refine qE hf rfl rfl rfl (Pu.ev (pM rfl)) fun a hf => ?_
              refine qE hf rfl rfl rfl (Pu.ev (pIA Try.underlying41 sz_26 rfl rfl qa_8)) fun a hf => ?_
              refine qE hf rfl rfl rfl (Pu.ev (pFA fa_26_1 rfl)) fun a hf => ?_
              refine qE hf rfl rfl rfl (eLd1 sc_3 rfl (cell_row (sz := 2) (i := x_2.toNat) (j := 1) m5 qr_8 rfl)) fun a hf => ?_
              refine qE hf rfl rfl rfl (Pu.ev (pNe rfl rfl)) fun a hf => ?_
              refine qE hf rfl rfl rfl (Pu.ev (pPf rfl rfl)) fun a hf => ?_
              obtain rfl := Option.some.inj hF
              exact qNil (hf.keep ⟨rfl, rfl, rfl, rfl, rfl, rfl, rfl, rfl, rfl, rfl, rfl, rfl, rfl, rfl, rfl, rfl, rfl, rfl, rfl, rfl, rfl, rfl, rfl, rfl, rfl, rfl, rfl, rfl, trivial⟩)
            · rw [hb] at hf
              have hF := condT hb ht_3
              obtain rfl := Option.some.inj hF
              refine qS hf rfl rfl rfl fun a hf => ?_
              refine qS hf rfl rfl rfl fun a hf => ?_
              refine qS hf rfl rfl rfl fun a hf => ?_
              refine qS hf rfl rfl rfl fun a hf => ?_
              refine qS hf rfl rfl rfl fun a hf => ?_
              refine qS hf rfl rfl rfl fun a hf => ?_
              refine qS hf rfl rfl rfl fun a hf => ?_
              refine qS hf rfl rfl rfl fun a hf => ?_
              refine qS hf rfl rfl rfl fun a hf => ?_
              refine qS hf rfl rfl rfl fun a hf => ?_
              refine qE hf rfl rfl rfl (Pu.ev (pPt rfl rfl)) fun a hf => ?_
              exact qNil (hf.keep ⟨rfl, rfl, rfl, rfl, rfl, rfl, rfl, rfl, rfl, rfl, rfl, rfl, rfl, rfl, rfl, rfl, rfl, rfl, rfl, rfl, rfl, rfl, rfl, rfl, rfl, rfl, rfl, rfl, trivial⟩)
          intro a hf
          refine qE hf rfl rfl rfl (Pu.ev (pM rfl)) fun a hf => ?_
          refine qCut 9 (fun a => Has 256 a ((5, .pointer (some ⟨b_2, 0, none⟩)) :: (8, .slice p_11 truth.length c_11) :: (10, .slice (some ⟨g_1, 0, none⟩) real.length c_12) :: (12, .slice (some ⟨g_2, 0, none⟩) s_1.length c_13) :: (18, .slice p_9 r_4.1.length c_9) :: (19, .slice p_10 r_5.1.length c_10) :: (20, .int .i64 debt) :: (146, .slice (some ⟨g, 0, none⟩) x_1.length c_14) :: (147, .int .i64 ((l.length : Nat) : Int)) :: (148, .int .i64 x_2) :: (22, .pointer (some ⟨b_4, 0, none⟩)) :: (21, .int .i64 x_2) :: (153, .slice (some ⟨g_1, 0, none⟩) real.length c_12) :: (154, .int .i64 x_2) :: (155, .pointer (some ⟨g_1, x_2.toNat * 1, none⟩)) :: (156, .int .i64 e_2) :: (157, .slice (some ⟨g_2, 0, none⟩) s_1.length c_13) :: (158, .int .i64 x_2) :: (159, .pointer (some ⟨g_2, x_2.toNat * 2, none⟩)) :: (160, .pointer (some ⟨g_2, x_2.toNat * 2 + 0, none⟩)) :: (161, .int .i64 e_3.Lo) :: (162, .bool (decide (e_2 < e_3.Lo))) :: (163, .bool (decide (e_2 < e_3.Lo))) :: (174, .bool t_1) :: (175, .bool t_1) :: (186, .bool t_2) :: (187, .bool t_2) :: (198, .bool t_3) :: (199, .bool t_3) :: (208, .bool t_4) :: [])) ?_ ?_
          · cases hb : t_3
            · rw [hb] at hf
              have hF := condF hb ht_4
              obtain ⟨e_10, he_10, hF⟩ := bnd_some hF
              obtain ⟨qa_9, qr_9⟩ := row_atk hc m7 he_10
              refine qE hf rfl rfl rfl (Pu.ev (pM rfl)) fun a hf => ?_
              refine qE hf rfl rfl rfl (Pu.ev (pM rfl)) fun a hf => ?_
              refine qE hf rfl rfl rfl (Pu.ev (pIA Try.underlying36 sz_3 rfl rfl qa_9)) fun a hf => ?_
              refine qE hf rfl rfl rfl (eLd1 sc_3 rfl (cell_row (sz := 1) (i := x_2.toNat) (j := 0) m7 qr_9 rfl)) fun a hf => ?_
              refine qE hf rfl rfl rfl (Pu.ev (pFA fa_88_1 rfl)) fun a hf => ?_
              refine qE hf rfl rfl rfl (eLd1 sc_3 rfl (cell_box m8 rfl)) fun a hf => ?_
              refine qE hf rfl rfl rfl (Pu.ev (pNeg rfl)) fun a hf => ?_
              refine qE hf rfl rfl rfl (Pu.ev (pLt rfl rfl)) fun a hf => ?_
              refine qE hf rfl rfl rfl (Pu.ev (pPf rfl rfl)) fun a hf => ?_
              obtain rfl := Option.some.inj hF
              exact qNil (hf.keep ⟨rfl, rfl, rfl, rfl, rfl, rfl, rfl, rfl, rfl, rfl, rfl, rfl, rfl, rfl, rfl, rfl, rfl, rfl, rfl, rfl, rfl, rfl, rfl, rfl, rfl, rfl, rfl, rfl, rfl, rfl, trivial⟩)
            · rw [hb] at hf
              have hF := condT hb ht_4
              obtain rfl := Option.some.inj hF
              refine qS hf rfl rfl rfl fun a hf => ?_
              refine qS hf rfl rfl rfl fun a hf => ?_
              refine qS hf rfl rfl rfl fun a hf => ?_
              refine qS hf rfl rfl rfl fun a hf => ?_
              refine qS hf rfl rfl rfl fun a hf => ?_
              refine qS hf rfl rfl rfl fun a hf => ?_
              refine qS hf rfl rfl rfl fun a hf => ?_
              refine qS hf rfl rfl rfl fun a hf => ?_
              refine qE hf rfl rfl rfl (Pu.ev (pPt rfl rfl)) fun a hf => ?_
              exact qNil (hf.keep ⟨rfl, rfl, rfl, rfl, rfl, rfl, rfl, rfl, rfl, rfl, rfl, rfl, rfl, rfl, rfl, rfl, rfl, rfl, rfl, rfl, rfl, rfl, rfl, rfl, rfl, rfl, rfl, rfl, rfl, rfl, trivial⟩)
          intro a hf
          refine qE hf rfl rfl rfl (Pu.ev (pM rfl)) fun a hf => ?_
          refine qCut 11 (fun a => Has 256 a ((5, .pointer (some ⟨b_2, 0, none⟩)) :: (8, .slice p_11 truth.length c_11) :: (10, .slice (some ⟨g_1, 0, none⟩) real.length c_12) :: (12, .slice (some ⟨g_2, 0, none⟩) s_1.length c_13) :: (18, .slice p_9 r_4.1.length c_9) :: (19, .slice p_10 r_5.1.length c_10) :: (20, .int .i64 debt) :: (146, .slice (some ⟨g, 0, none⟩) x_1.length c_14) :: (147, .int .i64 ((l.length : Nat) : Int)) :: (148, .int .i64 x_2) :: (22, .pointer (some ⟨b_4, 0, none⟩)) :: (21, .int .i64 x_2) :: (153, .slice (some ⟨g_1, 0, none⟩) real.length c_12) :: (154, .int .i64 x_2) :: (155, .pointer (some ⟨g_1, x_2.toNat * 1, none⟩)) :: (156, .int .i64 e_2) :: (157, .slice (some ⟨g_2, 0, none⟩) s_1.length c_13) :: (158, .int .i64 x_2) :: (159, .pointer (some ⟨g_2, x_2.toNat * 2, none⟩)) :: (160, .pointer (some ⟨g_2, x_2.toNat * 2 + 0, none⟩)) :: (161, .int .i64 e_3.Lo) :: (162, .bool (decide (e_2 < e_3.Lo))) :: (163, .bool (decide (e_2 < e_3.Lo))) :: (174, .bool t_1) :: (175, .bool t_1) :: (186, .bool t_2) :: (187, .bool t_2) :: (198, .bool t_3) :: (199, .bool t_3) :: (208, .bool t_4) :: (209, .bool t_4) :: (220, .bool t_6) :: [])) ?_ ?_
          · cases hb : t_4
            · rw [hb] at hf
              have hF := condF hb ht_6
              obtain ⟨t_5, ht_5, hF⟩ := bnd_some hF
              refine qE hf rfl rfl rfl (Pu.ev (pFA fa_94_2 rfl)) fun a hf => ?_
              refine qE hf rfl rfl rfl (eLd1 sc_4 rfl (cell_box m0 rfl)) fun a hf => ?_
              refine qE hf rfl rfl rfl (Pu.ev (pM rfl)) fun a hf => ?_
              refine qCut 7 (fun a => Has 256 a ((5, .pointer (some ⟨b_2, 0, none⟩)) :: (8, .slice p_11 truth.length c_11) :: (10, .slice (some ⟨g_1, 0, none⟩) real.length c_12) :: (12, .slice (some ⟨g_2, 0, none⟩) s_1.length c_13) :: (18, .slice p_9 r_4.1.length c_9) :: (19, .slice p_10 r_5.1.length c_10) :: (20, .int .i64 debt) :: (146, .slice (some ⟨g, 0, none⟩) x_1.length c_14) :: (147, .int .i64 ((l.length : Nat) : Int)) :: (148, .int .i64 x_2) :: (22, .pointer (some ⟨b_4, 0, none⟩)) :: (21, .int .i64 x_2) :: (153, .slice (some ⟨g_1, 0, none⟩) real.length c_12) :: (154, .int .i64 x_2) :: (155, .pointer (some ⟨g_1, x_2.toNat * 1, none⟩)) :: (156, .int .i64 e_2) :: (157, .slice (some ⟨g_2, 0, none⟩) s_1.length c_13) :: (158, .int .i64 x_2) :: (159, .pointer (some ⟨g_2, x_2.toNat * 2, none⟩)) :: (160, .pointer (some ⟨g_2, x_2.toNat * 2 + 0, none⟩)) :: (161, .int .i64 e_3.Lo) :: (162, .bool (decide (e_2 < e_3.Lo))) :: (163, .bool (decide (e_2 < e_3.Lo))) :: (174, .bool t_1) :: (175, .bool t_1) :: (186, .bool t_2) :: (187, .bool t_2) :: (198, .bool t_3) :: (199, .bool t_3) :: (208, .bool false) :: (209, .bool false) :: (210, .pointer (some ⟨b_4, 4, none⟩)) :: (211, .bool e_1.Spill) :: (212, .bool e_1.Spill) :: (219, .bool t_5) :: [])) ?_ ?_
              · cases hb : e_1.Spill
                · rw [hb] at hf
                  have hF := condF hb ht_5
                  obtain rfl := Option.some.inj hF
                  refine qS hf rfl rfl rfl fun a hf => ?_
                  refine qS hf rfl rfl rfl fun a hf => ?_
                  refine qS hf rfl rfl rfl fun a hf => ?_
                  refine qS hf rfl rfl rfl fun a hf => ?_
                  refine qS hf rfl rfl rfl fun a hf => ?_
                  refine qS hf rfl rfl rfl fun a hf => ?_
                  refine qE hf rfl rfl rfl (Pu.ev (pPf rfl rfl)) fun a hf => ?_
                  exact qNil (hf.keep ⟨rfl, rfl, rfl, rfl, rfl, rfl, rfl, rfl, rfl, rfl, rfl, rfl, rfl, rfl, rfl, rfl, rfl, rfl, rfl, rfl, rfl, rfl, rfl, rfl, rfl, rfl, rfl, rfl, rfl, rfl, rfl, rfl, rfl, rfl, rfl, trivial⟩)
                · rw [hb] at hf
                  have hF := condT hb ht_5
                  obtain ⟨e_11, he_11, hF⟩ := bnd_some hF
                  obtain ⟨qa_10, qr_10⟩ := row_atk hc m5 he_11
                  refine qE hf rfl rfl rfl (Pu.ev (pM rfl)) fun a hf => ?_
                  refine qE hf rfl rfl rfl (Pu.ev (pM rfl)) fun a hf => ?_
                  refine qE hf rfl rfl rfl (Pu.ev (pIA Try.underlying41 sz_26 rfl rfl qa_10)) fun a hf => ?_
                  refine qE hf rfl rfl rfl (eLdN (vs := [.int .i64 e_11.Lo, .int .i64 e_11.Hi]) ag_26 rfl rfl (cells_rw (sz := 2) (i := x_2.toNat) m5 qr_10 (n := 2) (o' := 0) rfl)) fun a hf => ?_
                  refine qE hf rfl rfl rfl (Pu.ev (pBuildS (cells := [.int .i64 0, .int .i64 0]) bt_26 rfl rfl)) fun a hf => ?_
                  refine qE hf rfl rfl rfl (Pu.ev (pNeA ge_26 rfl rfl (eqs_26 _ _ _ _))) fun a hf => ?_
                  refine qE hf rfl rfl rfl (Pu.ev (pPt rfl rfl)) fun a hf => ?_
                  obtain rfl := Option.some.inj hF
                  exact qNil (hf.keep ⟨rfl, rfl, rfl, rfl, rfl, rfl, rfl, rfl, rfl, rfl, rfl, rfl, rfl, rfl, rfl, rfl, rfl, rfl, rfl, rfl, rfl, rfl, rfl, rfl, rfl, rfl, rfl, rfl, rfl, rfl, rfl, rfl, rfl, rfl, rfl, trivial⟩)
              intro a hf
              refine qE hf rfl rfl rfl (Pu.ev (pPf rfl rfl)) fun a hf => ?_
              obtain rfl := Option.some.inj hF
              exact qNil (hf.keep ⟨rfl, rfl, rfl, rfl, rfl, rfl, rfl, rfl, rfl, rfl, rfl, rfl, rfl, rfl, rfl, rfl, rfl, rfl, rfl, rfl, rfl, rfl, rfl, rfl, rfl, rfl, rfl, rfl, rfl, rfl, rfl, rfl, trivial⟩)
            · rw [hb] at hf
              have hF := condT hb ht_6
              obtain rfl := Option.some.inj hF
              refine qS hf rfl rfl rfl fun a hf => ?_
              refine qS hf rfl rfl rfl fun a hf => ?_
              refine qS hf rfl rfl rfl fun a hf => ?_
              refine qS hf rfl rfl rfl fun a hf => ?_
              refine qS hf rfl rfl rfl fun a hf => ?_
              refine qS hf rfl rfl rfl fun a hf => ?_
              refine qS hf rfl rfl rfl fun a hf => ?_
              refine qS hf rfl rfl rfl fun a hf => ?_
              refine qS hf rfl rfl rfl fun a hf => ?_
              refine qS hf rfl rfl rfl fun a hf => ?_
              refine qE hf rfl rfl rfl (Pu.ev (pPt rfl rfl)) fun a hf => ?_
              exact qNil (hf.keep ⟨rfl, rfl, rfl, rfl, rfl, rfl, rfl, rfl, rfl, rfl, rfl, rfl, rfl, rfl, rfl, rfl, rfl, rfl, rfl, rfl, rfl, rfl, rfl, rfl, rfl, rfl, rfl, rfl, rfl, rfl, rfl, rfl, trivial⟩)
          intro a hf
          intro w hc
          refine h28 _ _ ?_
          refine cCond (b := t_6) hf rfl (fun hb => ?_) (fun hb => ?_)
          · replace hF := condT hb hF
            clear hb
            refine wp_seq_k fun K29 h29 => ?_
            refine cReg ?_
            refine stP hf rfl rfl rfl (pA rfl) fun a hf => ?_
            refine cNil ?_
            refine h29 _ _ ?_
            refine wp_ret ?_
            refine xThenR ?_
            refine xBlkR ?_
            refine xThenR ?_
            refine xThenR ?_
            have he := Option.some.inj hF
            rw [← he] at hfin21
            replace hF := ho21 _ hfin21
            refine xBlkR ?_
            refine xThenR ?_
            obtain rfl := hF
            replace hc := hc.drop k8
            replace hc := hc.drop k7
            replace hc := hc.drop k6
            replace hc := hc.drop k5
            replace hc := hc.drop k4
            replace hc := hc.drop k3
            replace hc := hc.drop k2
            replace hc := hc.drop k1
            replace hc := hc.drop k0
            exact fnOut1 (by simp) rfl Try.results9 hf hc (show look _ 4 = _ from rfl) ⟨rfl, hc⟩
          · replace hF := condF hb hF
            clear hb
            refine wp_skip ?_
            refine h27 _ _ ?_
            refine wp_seq_k fun K30 h30 => ?_
            obtain ⟨e_12, he_12, hF⟩ := bnd_some hF
            obtain ⟨g_5, rfl, qa_11, qr_11⟩ := row_atm hc m6 he_12
            obtain ⟨r_7, hr_7, hF⟩ := bnd_some hF
            refine cQ hc follows_mx (by kernel_rfl) ?_
            refine qE hf rfl rfl rfl (eLdN (vs := [.slice p_1 r_1.1.Table.length c_1, .int .i64 r_1.1.Credit]) ag_88 rfl rfl (cells_box (n := 2) m8 rfl)) fun a hf => ?_
            refine qE hf rfl rfl rfl (Pu.ev (pM rfl)) fun a hf => ?_
            refine qE hf rfl rfl rfl (Pu.ev (pM rfl)) fun a hf => ?_
            refine qE hf rfl rfl rfl (Pu.ev (pIA Try.underlying90 sz_97 rfl rfl qa_11)) fun a hf => ?_
            refine qE hf rfl rfl rfl (Pu.ev (pFA fa_97_0 rfl)) fun a hf => ?_
            refine qE hf rfl rfl rfl (eLd1 sc_3 rfl (cell_row (sz := 2) (i := x_2.toNat) (j := 0) m6 qr_11 rfl)) fun a hf => ?_
            refine qE hf rfl rfl rfl (eC (v := .tuple #[.int .i64 r_7.1, .int .i64 r_7.2]) (vs := [.agg #[.slice p_1 r_1.1.Table.length c_1, .int .i64 r_1.1.Credit], .int .i64 e_12.Index]) (caps := []) en_50 rfl rfl rfl rfl (fun w hc => by obtain ⟨G1, hle1, hrd1, hc, hth1⟩ := lend hc k1; exact (share_Due_ok r_1.1 e_12.Index hrd1 hc hr_7).mono fun e w h => ⟨h.1, ((hth1 _ _ h.2).unpick k1)⟩)) fun a hf => ?_
            refine qE hf rfl rfl rfl (Pu.ev (pM rfl)) fun a hf => ?_
            refine qE hf rfl rfl rfl (Pu.ev (pX rfl rfl)) fun a hf => ?_
            refine qE hf rfl rfl rfl (Pu.ev (pX rfl rfl)) fun a hf => ?_
            refine qE hf rfl rfl rfl (Pu.ev (pA rfl)) fun a hf => ?_
            refine qE hf rfl rfl rfl (Pu.ev (pA rfl)) fun a hf => ?_
            intro w hc
            refine h30 _ _ ?_
            refine wp_seq_k fun K31 h31 => ?_
            refine wp_seq_k fun K32 h32 => ?_
            refine cReg ?_
            refine stP hf rfl rfl rfl (pM rfl) fun a hf => ?_
            refine stP hf rfl rfl rfl (pNe rfl rfl) fun a hf => ?_
            refine cNil ?_
            refine h32 _ _ ?_
            refine cCond (b := (r_7.2 != 0)) hf rfl (fun hb => ?_) (fun hb => ?_)
            · replace hF := condT hb hF
              clear hb
              refine wp_seq_k fun K33 h33 => ?_
              refine cReg ?_
              refine stP hf rfl rfl rfl (pA rfl) fun a hf => ?_
              refine cNil ?_
              refine h33 _ _ ?_
              refine wp_ret ?_
              refine xThenR ?_
              refine xBlkR ?_
              refine xThenR ?_
              refine xThenR ?_
              have he := Option.some.inj hF
              rw [← he] at hfin21
              replace hF := ho21 _ hfin21
              refine xBlkR ?_
              refine xThenR ?_
              obtain rfl := hF
              replace hc := hc.drop k8
              replace hc := hc.drop k7
              replace hc := hc.drop k6
              replace hc := hc.drop k5
              replace hc := hc.drop k4
              replace hc := hc.drop k3
              replace hc := hc.drop k2
              replace hc := hc.drop k1
              replace hc := hc.drop k0
              exact fnOut1 (by simp) rfl Try.results9 hf hc (show look _ 4 = _ from rfl) ⟨rfl, hc⟩
            · replace hF := condF hb hF
              clear hb
              refine wp_skip ?_
              refine h31 _ _ ?_
              refine wp_seq_k fun K34 h34 => ?_
              have hj34 : ∀ (debt_1 : Int) a w, Has 256 a [(5, .pointer (some ⟨b_2, 0, none⟩)), (8, .slice (some ⟨g_5, 0, none⟩) truth.length c_11), (10, .slice (some ⟨g_1, 0, none⟩) real.length c_12), (12, .slice (some ⟨g_2, 0, none⟩) s_1.length c_13), (18, .slice p_9 r_4.1.length c_9), (19, .slice p_10 r_5.1.length c_10), (20, .int .i64 debt_1), (21, .int .i64 x_2), (146, .slice (some ⟨g, 0, none⟩) x_1.length c_14), (147, .int .i64 ((l.length : Nat) : Int)), (148, .int .i64 x_2)] → Ctx G (.row p_1 c_1 (r_1.1.Table.map enc_share_Point) 116 2 :: .row (some ⟨g, 0, none⟩) c_14 (x_1.map enc_share_Year) 94 5 :: .row p_10 c_10 (r_5.1.map encI_i64) 3 1 :: .row p_9 c_9 (r_4.1.map encI_i64) 3 1 :: .row (some ⟨g_2, 0, none⟩) c_13 (s_1.map enc_api_Span) 26 2 :: .row (some ⟨g_5, 0, none⟩) c_11 (truth.map enc_share_Truth) 97 2 :: .row (some ⟨g_1, 0, none⟩) c_12 (real.map encI_i64) 3 1 :: .box b_2 [.slice p_1 r_1.1.Table.length c_1, .int .i64 r_1.1.Credit] 88 :: Lf) w → law09_ShareOwed_j34 N truth real s_1 x_1 x_2 debt_1 = some st21 → K34 a w := by
                intro debt_1 a w hf hc hF
                unfold law09_ShareOwed_j34 at hF
                refine h34 _ _ ?_
                refine wp_seq_k fun K35 h35 => ?_
                refine cReg ?_
                refine stP hf rfl rfl rfl (pM rfl) fun a hf => ?_
                refine stP hf rfl rfl rfl (pM rfl) fun a hf => ?_
                refine stP hf rfl rfl rfl (pM rfl) fun a hf => ?_
                obtain ⟨e_13, he_13, hF⟩ := bnd_some hF
                obtain ⟨qa_12, qr_12⟩ := row_atk hc m6 he_13
                refine stP hf rfl rfl rfl (pIA Try.underlying36 sz_3 rfl rfl qa_12) fun a hf => ?_
                refine stE hf hc rfl rfl rfl (eLd1 sc_3 rfl (cell_row (sz := 1) (i := x_2.toNat) (j := 0) m6 qr_12 rfl)) fun a w hf hc => ?_
                refine stP hf rfl rfl rfl (pNe rfl rfl) fun a hf => ?_
                refine cNil ?_
                refine h35 _ _ ?_
                refine cCond (b := (debt_1 != e_13)) hf rfl (fun hb => ?_) (fun hb => ?_)
                · replace hF := condT hb hF
                  clear hb
                  refine wp_seq_k fun K36 h36 => ?_
                  refine cReg ?_
                  refine stP hf rfl rfl rfl (pA rfl) fun a hf => ?_
                  refine cNil ?_
                  refine h36 _ _ ?_
                  refine wp_ret ?_
                  refine xBlkR ?_
                  refine xThenR ?_
                  refine xThenR ?_
                  have he := Option.some.inj hF
                  rw [← he] at hfin21
                  replace hF := ho21 _ hfin21
                  refine xBlkR ?_
                  refine xThenR ?_
                  obtain rfl := hF
                  replace hc := hc.drop k7
                  replace hc := hc.drop k6
                  replace hc := hc.drop k5
                  replace hc := hc.drop k4
                  replace hc := hc.drop k3
                  replace hc := hc.drop k2
                  replace hc := hc.drop k1
                  replace hc := hc.drop k0
                  exact fnOut1 (by simp) rfl Try.results9 hf hc (show look _ 4 = _ from rfl) ⟨rfl, hc⟩
                · replace hF := condF hb hF
                  clear hb
                  refine wp_skip ?_
                  refine h25 _ _ ?_
                  refine cReg ?_
                  refine stP hf rfl rfl rfl (pAdd rfl rfl) fun a hf => ?_
                  refine stP hf rfl rfl rfl (pM rfl) fun a hf => ?_
                  refine cNil ?_
                  exact hK21 (truth, real, s_1, debt_1, x_1, W (x_2 + 1)) _ _ (Option.some.inj hF).symm ⟨(some ⟨g_5, 0, none⟩), c_11, (some ⟨g_1, 0, none⟩), c_12, (some ⟨g_2, 0, none⟩), c_13, (some ⟨g, 0, none⟩), c_14, hf.keep ⟨rfl, rfl, rfl, rfl, rfl, rfl, rfl, rfl, rfl, rfl, trivial⟩, hc⟩
              refine wp_seq_k fun K37 h37 => ?_
              obtain ⟨e_14, he_14, hF⟩ := bnd_some hF
              obtain ⟨qa_13, qr_13⟩ := row_atk hc m6 he_14
              refine cQ hc follows_mx (by kernel_rfl) ?_
              refine qE hf rfl rfl rfl (Pu.ev (pFA fa_88_1 rfl)) fun a hf => ?_
              refine qE hf rfl rfl rfl (eLd1 sc_3 rfl (cell_box m8 rfl)) fun a hf => ?_
              refine qE hf rfl rfl rfl (Pu.ev (pNeg rfl)) fun a hf => ?_
              refine qE hf rfl rfl rfl (Pu.ev (pM rfl)) fun a hf => ?_
              refine qE hf rfl rfl rfl (Pu.ev (pM rfl)) fun a hf => ?_
              refine qE hf rfl rfl rfl (Pu.ev (pAdd rfl rfl)) fun a hf => ?_
              refine qE hf rfl rfl rfl (Pu.ev (pM rfl)) fun a hf => ?_
              refine qE hf rfl rfl rfl (Pu.ev (pM rfl)) fun a hf => ?_
              refine qE hf rfl rfl rfl (Pu.ev (pIA Try.underlying90 sz_97 rfl rfl qa_13)) fun a hf => ?_
              refine qE hf rfl rfl rfl (Pu.ev (pFA fa_97_1 rfl)) fun a hf => ?_
              refine qE hf rfl rfl rfl (eLd1 sc_3 rfl (cell_row (sz := 2) (i := x_2.toNat) (j := 1) m6 qr_13 rfl)) fun a hf => ?_
              refine qE hf rfl rfl rfl (Pu.ev (pSub rfl rfl)) fun a hf => ?_
              refine qE hf rfl rfl rfl (Pu.ev (pMax2 rfl rfl)) fun a hf => ?_
              refine qE hf rfl rfl rfl (Pu.ev (pA rfl)) fun a hf => ?_
              intro w hc
              refine h37 _ _ ?_
              refine wp_seq_k fun K38 h38 => ?_
              refine cReg ?_
              refine stP hf rfl rfl rfl (pFA fa_94_2 rfl) fun a hf => ?_
              refine stE hf hc rfl rfl rfl (eLd1 sc_4 rfl (cell_box m0 rfl)) fun a w hf hc => ?_
              refine cNil ?_
              refine h38 _ _ ?_
              refine cCond (b := e_1.Spill) hf rfl (fun hb => ?_) (fun hb => ?_)
              · replace hF := condT hb hF
                clear hb
                refine cReg ?_
                refine stP hf rfl rfl rfl (pA rfl) fun a hf => ?_
                refine cNil ?_
                replace hc := hc.drop k0
                exact hj34 0 _ _  (hf.keep ⟨rfl, rfl, rfl, rfl, rfl, rfl, rfl, rfl, rfl, rfl, rfl, trivial⟩) hc hF
              · replace hF := condF hb hF
                clear hb
                refine wp_skip ?_
                replace hc := hc.drop k0
                exact hj34 (max (W (0 - r_1.1.Credit)) (W ((W (debt + r_7.1)) - e_14.Delivered))) _ _  (hf.keep ⟨rfl, rfl, rfl, rfl, rfl, rfl, rfl, rfl, rfl, rfl, rfl, trivial⟩) hc hF
        · replace hF := condF hb hF
          clear hb
          refine wp_exit ?_
          refine xThen ?_
          refine xThen ?_
          have he := Option.some.inj hF
          rw [← he] at hfin21
          refine cHit ?_
          exact hr21 _ _ _ hfin21 ⟨p_11, c_11, p_12, c_12, p_13, c_13, p_14, c_14, hf.keep ⟨rfl, rfl, rfl, rfl, rfl, rfl, rfl, rfl, rfl, rfl, trivial⟩, hc⟩
    have ho12 : ∀ r, x12 = .out r → r = res := by
      rintro r rfl
      exact Option.some.inj hF
    replace hc := hc.nilRow 97 2
    replace hc := hc.nilRow 97 2
    replace hc := hc.drop k9
    refine cLoop N (loopW (S := S12) (x := x12) ?_ N (r_1.2.2.1, ([] : List share_Truth), ([] : List share_Truth), 0) _ _ ⟨p_2, c_2, none, 0, none, 0, hf.keep ⟨rfl, rfl, rfl, rfl, rfl, rfl, rfl, rfl, rfl, rfl, rfl, rfl, trivial⟩, hc⟩ hx12)
    clear hF hf hc
    rintro ⟨l, low, high, x⟩ st12 a w KB12 ⟨p_6, c_6, p_7, c_7, p_8, c_8, hf, hc⟩ hF hfin12 hK12
    unfold law09_ShareOwed_b12 at hF
    refine wp_seq_k fun K39 h39 => ?_
    refine cReg ?_
    refine stP hf rfl rfl rfl (pLt rfl rfl) fun a hf => ?_
    refine cNil ?_
    refine h39 _ _ ?_
    refine wp_seq_k fun K40 h40 => ?_
    refine cCond (b := (decide (x < ((r_1.2.2.1.length : Nat) : Int)))) hf rfl (fun hb => ?_) (fun hb => ?_)
    · replace hF := condT hb hF
      clear hb
      refine wp_skip ?_
      refine h40 _ _ ?_
      refine wp_seq_k fun K41 h41 => ?_
      refine wp_block ?_
      refine wp_seq_k fun K42 h42 => ?_
      refine cReg ?_
      obtain ⟨e_15, he_15, hF⟩ := bnd_some hF
      obtain ⟨g_6, rfl, qa_14, qr_14⟩ := row_atm hc m3 he_15
      refine stP hf rfl rfl rfl (pIA Try.underlying89 sz_94 rfl rfl qa_14) fun a hf => ?_
      refine stE hf hc rfl rfl rfl (eLdN (vs := [.int .i64 e_15.Index.Lo, .int .i64 e_15.Index.Hi, .int .i64 e_15.Delivered.Lo, .int .i64 e_15.Delivered.Hi, .bool e_15.Spill]) ag_94 rfl rfl (cells_rw (sz := 5) (i := x.toNat) m3 qr_14 (n := 5) (o' := 0) rfl)) fun a w hf hc => ?_
      refine stAl (cs := [.int .i64 0, .int .i64 0, .int .i64 0, .int .i64 0, .bool false]) hf hc rfl rfl zr_94 rfl fun b_5 a w hf hc => ?_
      refine stSt (vs := [.int .i64 e_15.Index.Lo, .int .i64 e_15.Index.Hi, .int .i64 e_15.Delivered.Lo, .int .i64 e_15.Delivered.Hi, .bool e_15.Spill]) hf hc rfl rfl rfl rfl sz_94 rfl rfl u0 fun w hc => ?_
      refine cNil ?_
      refine h42 _ _ ?_
      obtain ⟨un_1, hun_1, hF⟩ := bnd_some hF
      obtain ⟨un_2, hun_2, hF⟩ := bnd_some hF
      replace hc := hc.nilRow 0 0
      replace hc := hc.nilRow 0 0
      refine regionE (fun θ => (⟨none, none, 5, .pointer (some ⟨b_2, 0, none⟩)⟩ :: ⟨none, none, 6, .pointer (some ⟨b_3, 0, none⟩)⟩ :: ⟨none, none, 7, .slice (some ⟨g_6, 0, none⟩) l.length c_6⟩ :: ⟨none, none, 8, .slice p_3 r_1.2.2.2.1.length c_3⟩ :: ⟨none, none, 9, .int .i64 (W (r_1.2.1.Lo + ((W (at_)).tmod (W ((W (r_1.2.1.Hi - r_1.2.1.Lo)) + 1)))))⟩ :: ⟨none, none, 10, .slice p_4 r_2.1.length c_4⟩ :: ⟨none, none, 12, .slice p_5 r_3.1.length c_5⟩ :: ⟨none, some 20, 14, .slice p_7 low.length c_7⟩ :: ⟨none, some 21, 15, .slice p_8 high.length c_8⟩ :: ⟨none, none, 17, .pointer (some ⟨b_5, 0, none⟩)⟩ :: ⟨none, none, 80, .slice (some ⟨g_6, 0, none⟩) l.length c_6⟩ :: ⟨none, none, 81, .int .i64 ((r_1.2.2.1.length : Nat) : Int)⟩ :: ⟨none, none, 82, .int .i64 x⟩ :: ⟨some 0, none, 86, .slice p_7 low.length c_7⟩ :: ⟨some 1, none, 87, .pointer (some ⟨b_5, 0, none⟩)⟩ :: ⟨some 2, none, 88, .pointer (some ⟨b_5, 0, none⟩)⟩ :: ⟨some 3, none, 89, .int .i64 e_15.Index.Lo⟩ :: ⟨some 4, none, 90, .pointer (some ⟨b_5, 2, none⟩)⟩ :: ⟨some 5, none, 91, .pointer (some ⟨b_5, 3, none⟩)⟩ :: ⟨some 6, none, 92, .int .i64 e_15.Delivered.Hi⟩ :: ⟨some 7, none, 93, .agg #[.int .i64 e_15.Index.Lo, .int .i64 e_15.Delivered.Hi]⟩ :: ⟨some 8, none, 94, .slice (some ⟨(θ 64).b, 0, none⟩) 1 1⟩ :: ⟨some 9, none, 95, .slice ((θ 72).p) ((low ++ [(⟨e_15.Index.Lo, e_15.Delivered.Hi⟩ : share_Truth)]).length) ((θ 72).c)⟩ :: ⟨some 10, none, 96, .slice p_8 high.length c_8⟩ :: ⟨some 11, none, 97, .pointer (some ⟨b_5, 0, none⟩)⟩ :: ⟨some 12, none, 98, .pointer (some ⟨b_5, 1, none⟩)⟩ :: ⟨some 13, none, 99, .int .i64 e_15.Index.Hi⟩ :: ⟨some 14, none, 100, .pointer (some ⟨b_5, 2, none⟩)⟩ :: ⟨some 15, none, 101, .pointer (some ⟨b_5, 2, none⟩)⟩ :: ⟨some 16, none, 102, .int .i64 e_15.Delivered.Lo⟩ :: ⟨some 17, none, 103, .agg #[.int .i64 e_15.Index.Hi, .int .i64 e_15.Delivered.Lo]⟩ :: ⟨some 18, none, 104, .slice (some ⟨(θ 144).b, 0, none⟩) 1 1⟩ :: ⟨some 19, none, 105, .slice ((θ 152).p) ((high ++ [(⟨e_15.Index.Hi, e_15.Delivered.Lo⟩ : share_Truth)]).length) ((θ 152).c)⟩ :: ⟨some 20, none, 14, .slice ((θ 72).p) ((low ++ [(⟨e_15.Index.Lo, e_15.Delivered.Hi⟩ : share_Truth)]).length) ((θ 72).c)⟩ :: ⟨some 21, none, 15, .slice ((θ 152).p) ((high ++ [(⟨e_15.Index.Hi, e_15.Delivered.Lo⟩ : share_Truth)]).length) ((θ 152).c)⟩ :: [])) (fun E θ => (bif E 18 then .row (some ⟨(θ 144).b, 0, none⟩) 1 (([(⟨e_15.Index.Hi, e_15.Delivered.Lo⟩ : share_Truth)] : List share_Truth).map enc_share_Truth) 97 2 else .row none 0 [] 0 0) :: (bif E 8 then .row (some ⟨(θ 64).b, 0, none⟩) 1 (([(⟨e_15.Index.Lo, e_15.Delivered.Hi⟩ : share_Truth)] : List share_Truth).map enc_share_Truth) 97 2 else .row none 0 [] 0 0) :: .box b_5 [.int .i64 e_15.Index.Lo, .int .i64 e_15.Index.Hi, .int .i64 e_15.Delivered.Lo, .int .i64 e_15.Delivered.Hi, .bool e_15.Spill] 94 :: (bif E 19 then .row ((θ 152).p) ((θ 152).c) ((high ++ [(⟨e_15.Index.Hi, e_15.Delivered.Lo⟩ : share_Truth)]).map enc_share_Truth) 97 2 else .row p_8 c_8 (high.map enc_share_Truth) 97 2) :: (bif E 9 then .row ((θ 72).p) ((θ 72).c) ((low ++ [(⟨e_15.Index.Lo, e_15.Delivered.Hi⟩ : share_Truth)]).map enc_share_Truth) 97 2 else .row p_7 c_7 (low.map enc_share_Truth) 97 2) :: .row p_1 c_1 (r_1.1.Table.map enc_share_Point) 116 2 :: .row (some ⟨g_6, 0, none⟩) c_6 (l.map enc_share_Year) 94 5 :: .row p_5 c_5 (r_3.1.map enc_api_Span) 26 2 :: .row p_3 c_3 (r_1.2.2.2.1.map enc_share_Truth) 97 2 :: .row p_4 c_4 (r_2.1.map encI_i64) 3 1 :: .box b_3 [.int .i64 r_1.2.1.Lo, .int .i64 r_1.2.1.Hi] 26 :: .box b_2 [.slice p_1 r_1.1.Table.length c_1, .int .i64 r_1.1.Credit] 88 :: Lf) [(20, 0), (20, 9), (21, 10), (21, 19)] (fun a w => ∃ (p_17 : Option Addr) (c_17 : Nat) (p_18 : Option Addr) (c_18 : Nat) (b_8 : Nat) (b_9 : Nat), Has 256 a [(5, .pointer (some ⟨b_2, 0, none⟩)), (6, .pointer (some ⟨b_3, 0, none⟩)), (7, .slice (some ⟨g_6, 0, none⟩) l.length c_6), (8, .slice p_3 r_1.2.2.2.1.length c_3), (9, .int .i64 (W (r_1.2.1.Lo + ((W (at_)).tmod (W ((W (r_1.2.1.Hi - r_1.2.1.Lo)) + 1)))))), (10, .slice p_4 r_2.1.length c_4), (12, .slice p_5 r_3.1.length c_5), (80, .slice (some ⟨g_6, 0, none⟩) l.length c_6), (81, .int .i64 ((r_1.2.2.1.length : Nat) : Int)), (82, .int .i64 x), (14, .slice p_17 ((low ++ [(⟨e_15.Index.Lo, e_15.Delivered.Hi⟩ : share_Truth)]).length) c_17), (15, .slice p_18 ((high ++ [(⟨e_15.Index.Hi, e_15.Delivered.Lo⟩ : share_Truth)]).length) c_18)] ∧ Ctx G (.row (some ⟨b_8, 0, none⟩) 1 (([(⟨e_15.Index.Hi, e_15.Delivered.Lo⟩ : share_Truth)] : List share_Truth).map enc_share_Truth) 97 2 :: .row (some ⟨b_9, 0, none⟩) 1 (([(⟨e_15.Index.Lo, e_15.Delivered.Hi⟩ : share_Truth)] : List share_Truth).map enc_share_Truth) 97 2 :: .box b_5 [.int .i64 e_15.Index.Lo, .int .i64 e_15.Index.Hi, .int .i64 e_15.Delivered.Lo, .int .i64 e_15.Delivered.Hi, .bool e_15.Spill] 94 :: .row p_18 c_18 ((high ++ [(⟨e_15.Index.Hi, e_15.Delivered.Lo⟩ : share_Truth)]).map enc_share_Truth) 97 2 :: .row p_17 c_17 ((low ++ [(⟨e_15.Index.Lo, e_15.Delivered.Hi⟩ : share_Truth)]).map enc_share_Truth) 97 2 :: .row p_1 c_1 (r_1.1.Table.map enc_share_Point) 116 2 :: .row (some ⟨g_6, 0, none⟩) c_6 (l.map enc_share_Year) 94 5 :: .row p_5 c_5 (r_3.1.map enc_api_Span) 26 2 :: .row p_3 c_3 (r_1.2.2.2.1.map enc_share_Truth) 97 2 :: .row p_4 c_4 (r_2.1.map encI_i64) 3 1 :: .box b_3 [.int .i64 r_1.2.1.Lo, .int .i64 r_1.2.1.Hi] 26 :: .box b_2 [.slice p_1 r_1.1.Table.length c_1, .int .i64 r_1.1.Credit] 88 :: Lf) w) follows_mx (by kernel_rfl) (by kernel_rfl) (HasE.of hf ⟨rfl, rfl, rfl, rfl, rfl, rfl, rfl, rfl, rfl, rfl, rfl, rfl, rfl, trivial, trivial, trivial, trivial, trivial, trivial, trivial, trivial, trivial, trivial, trivial, trivial, trivial, trivial, trivial, trivial, trivial, trivial, trivial, trivial, trivial, trivial, trivial⟩) hc ⟨?_, ?_, ?_, ?_, ?_, ?_, ?_, ?_, ?_, ?_, ?_, ?_, ?_, ?_, ?_, ?_, ?_, ?_, ?_, ?_, ?_, ?_, trivial⟩ ?_ ?_
      · intro E θ a w hD hi hp he hc
        have e20 := hD.f 0 rfl hi
        have hf := he.h0
        replace hf := hf.more he 7 rfl (onN e20)
        refine stP hf rfl rfl rfl (pM rfl) fun a hf => ?_
        refine cNil ?_
        refine xThenN ?_
        intro ds u hau
        refine ⟨θ, he.put0 hi hau hf rfl 13 rfl rfl, ?_⟩
        exact hc
      · intro E θ a w hD hi hp he hc
        have hf := he.h0
        replace hf := hf.more he 9 rfl onT
        refine stP hf rfl rfl rfl (pFA fa_94_0 rfl) fun a hf => ?_
        refine cNil ?_
        refine xThenN ?_
        intro ds u hau
        refine ⟨θ, he.put0 hi hau hf rfl 14 rfl rfl, ?_⟩
        exact hc
      · intro E θ a w hD hi hp he hc
        have e1 := hp.of (k := 1) rfl
        have hf := he.h0
        replace hf := hf.more he 14 rfl (onP e1)
        refine stP hf rfl rfl rfl (pFA fa_26_0 rfl) fun a hf => ?_
        refine cNil ?_
        refine xThenN ?_
        intro ds u hau
        refine ⟨θ, he.put0 hi hau hf rfl 15 rfl rfl, ?_⟩
        exact hc
      · intro E θ a w hD hi hp he hc
        have e2 := hp.of (k := 2) rfl
        have hf := he.h0
        replace hf := hf.more he 15 rfl (onP e2)
        refine stE hf hc rfl rfl rfl (eLd1 sc_3 rfl (cell_box m2 rfl)) fun a w hf hc => ?_
        refine cNil ?_
        refine xThenN ?_
        intro ds u hau
        refine ⟨θ, he.put0 hi hau hf rfl 16 rfl rfl, ?_⟩
        exact hc
      · intro E θ a w hD hi hp he hc
        have hf := he.h0
        replace hf := hf.more he 9 rfl onT
        refine stP hf rfl rfl rfl (pFA fa_94_1 rfl) fun a hf => ?_
        refine cNil ?_
        refine xThenN ?_
        intro ds u hau
        refine ⟨θ, he.put0 hi hau hf rfl 17 rfl rfl, ?_⟩
        exact hc
      · intro E θ a w hD hi hp he hc
        have e4 := hp.of (k := 4) rfl
        have hf := he.h0
        replace hf := hf.more he 17 rfl (onP e4)
        refine stP hf rfl rfl rfl (pFA fa_26_1 rfl) fun a hf => ?_
        refine cNil ?_
        refine xThenN ?_
        intro ds u hau
        refine ⟨θ, he.put0 hi hau hf rfl 18 rfl rfl, ?_⟩
        exact hc
      · intro E θ a w hD hi hp he hc
        have e5 := hp.of (k := 5) rfl
        have hf := he.h0
        replace hf := hf.more he 18 rfl (onP e5)
        refine stE hf hc rfl rfl rfl (eLd1 sc_3 rfl (cell_box m2 rfl)) fun a w hf hc => ?_
        refine cNil ?_
        refine xThenN ?_
        intro ds u hau
        refine ⟨θ, he.put0 hi hau hf rfl 19 rfl rfl, ?_⟩
        exact hc
      · intro E θ a w hD hi hp he hc
        have e3 := hp.of (k := 3) rfl
        have e6 := hp.of (k := 6) rfl
        have hf := he.h0
        replace hf := hf.more he 16 rfl (onP e3)
        replace hf := hf.more he 19 rfl (onP e6)
        refine stP hf rfl rfl rfl (pBuildS (cells := [.int .i64 e_15.Index.Lo, .int .i64 e_15.Delivered.Hi]) bt_97 rfl rfl) fun a hf => ?_
        refine cNil ?_
        refine xThenN ?_
        intro ds u hau
        refine ⟨θ, he.put0 hi hau hf rfl 20 rfl rfl, ?_⟩
        exact hc
      · intro E θ a w hD hi hp he hc
        have e7 := hp.of (k := 7) rfl
        try dsimp only at hc
        rw [hi] at hc
        have hf := he.h0
        replace hf := hf.more he 20 rfl (onP e7)
        refine stBS (rows := ([(⟨e_15.Index.Lo, e_15.Delivered.Hi⟩ : share_Truth)] : List share_Truth).map enc_share_Truth) (vs := [(0, .agg #[.int .i64 e_15.Index.Lo, .int .i64 e_15.Delivered.Hi])]) hf hc rfl rfl sl_90 rfl ⟨rfl, rfl, rfl, trivial⟩ rfl rfl fun b_6 a w hf hc => ?_
        refine cNil ?_
        refine xThenN ?_
        intro ds u hau
        replace hc := hc.drop k2
        replace hc := hc.pick k0
        replace hc := hc.pick k1
        refine ⟨(setT θ 64 ⟨b_6, none, 0⟩), he.put hi hau hf rfl [] trivial ⟨qq, qq, qq, qq, qq, qq, qq, qq, qq, qq, qq, qq, qq, qq, qq, qq, qq, qq, qq, qq, qq, qq, qq, qq, qq, qq, qq, qq, qq, qq, qq, qq, qq, qq, qq, trivial⟩, ?_⟩
        try dsimp only
        rw [updE_self E 8]
        exact hc
      · intro E θ a w hD hi hp he hc
        have e0 := hp.of (k := 0) rfl
        have e8 := hp.of (k := 8) rfl
        have e20 := hD.f 1 rfl hi
        try dsimp only at hc
        rw [e8, hi] at hc
        have hf := he.h0
        replace hf := hf.more he 13 rfl (onP e0)
        replace hf := hf.more he 21 rfl (onP e8)
        refine stApm (xs := low) (ys := ([(⟨e_15.Index.Lo, e_15.Delivered.Hi⟩ : share_Truth)] : List share_Truth)) hf hc rfl rfl sl_90 rfl rfl rfl rfl rfl one_enc_share_Truth (src_row hc m1) (fun _ _ => u4) (by simpa using room_spec hun_1) fun p_15 c_15 a w hf hc => ?_
        refine cNil ?_
        refine xThenN ?_
        intro ds u hau
        refine ⟨(setT θ 72 ⟨0, p_15, c_15⟩), he.put hi hau hf rfl [20] ⟨⟨e20, rfl⟩, trivial⟩ ⟨qq, qq, qq, qq, qq, qq, qq, qq, qq, qq, qq, qq, qq, qq, qq, qq, qq, qq, qq, qq, qq, qq, qq, qq, qq, qq, qq, qq, qq, qq, qq, qq, qq, trivial, qq, trivial⟩, ?_⟩
        try dsimp only
        rw [updE_tru 9 e8, updE_self E 9]
        exact hc
      · intro E θ a w hD hi hp he hc
        have e21 := hD.f 2 rfl hi
        have hf := he.h0
        replace hf := hf.more he 8 rfl (onN e21)
        refine stP hf rfl rfl rfl (pM rfl) fun a hf => ?_
        refine cNil ?_
        refine xThenN ?_
        intro ds u hau
        refine ⟨θ, he.put0 hi hau hf rfl 23 rfl rfl, ?_⟩
        exact hc
      · intro E θ a w hD hi hp he hc
        have hf := he.h0
        replace hf := hf.more he 9 rfl onT
        refine stP hf rfl rfl rfl (pFA fa_94_0 rfl) fun a hf => ?_
        refine cNil ?_
        refine xThenN ?_
        intro ds u hau
        refine ⟨θ, he.put0 hi hau hf rfl 24 rfl rfl, ?_⟩
        exact hc
      · intro E θ a w hD hi hp he hc
        have e11 := hp.of (k := 11) rfl
        have hf := he.h0
        replace hf := hf.more he 24 rfl (onP e11)
        refine stP hf rfl rfl rfl (pFA fa_26_1 rfl) fun a hf => ?_
        refine cNil ?_
        refine xThenN ?_
        intro ds u hau
        refine ⟨θ, he.put0 hi hau hf rfl 25 rfl rfl, ?_⟩
        exact hc
      · intro E θ a w hD hi hp he hc
        have e12 := hp.of (k := 12) rfl
        have hf := he.h0
        replace hf := hf.more he 25 rfl (onP e12)
        refine stE hf hc rfl rfl rfl (eLd1 sc_3 rfl (cell_box m2 rfl)) fun a w hf hc => ?_
        refine cNil ?_
        refine xThenN ?_
        intro ds u hau
        refine ⟨θ, he.put0 hi hau hf rfl 26 rfl rfl, ?_⟩
        exact hc
      · intro E θ a w hD hi hp he hc
        have hf := he.h0
        replace hf := hf.more he 9 rfl onT
        refine stP hf rfl rfl rfl (pFA fa_94_1 rfl) fun a hf => ?_
        refine cNil ?_
        refine xThenN ?_
        intro ds u hau
        refine ⟨θ, he.put0 hi hau hf rfl 27 rfl rfl, ?_⟩
        exact hc
      · intro E θ a w hD hi hp he hc
        have e14 := hp.of (k := 14) rfl
        have hf := he.h0
        replace hf := hf.more he 27 rfl (onP e14)
        refine stP hf rfl rfl rfl (pFA fa_26_0 rfl) fun a hf => ?_
        refine cNil ?_
        refine xThenN ?_
        intro ds u hau
        refine ⟨θ, he.put0 hi hau hf rfl 28 rfl rfl, ?_⟩
        exact hc
      · intro E θ a w hD hi hp he hc
        have e15 := hp.of (k := 15) rfl
        have hf := he.h0
        replace hf := hf.more he 28 rfl (onP e15)
        refine stE hf hc rfl rfl rfl (eLd1 sc_3 rfl (cell_box m2 rfl)) fun a w hf hc => ?_
        refine cNil ?_
        refine xThenN ?_
        intro ds u hau
        refine ⟨θ, he.put0 hi hau hf rfl 29 rfl rfl, ?_⟩
        exact hc
      · intro E θ a w hD hi hp he hc
        have e13 := hp.of (k := 13) rfl
        have e16 := hp.of (k := 16) rfl
        have hf := he.h0
        replace hf := hf.more he 26 rfl (onP e13)
        replace hf := hf.more he 29 rfl (onP e16)
        refine stP hf rfl rfl rfl (pBuildS (cells := [.int .i64 e_15.Index.Hi, .int .i64 e_15.Delivered.Lo]) bt_97 rfl rfl) fun a hf => ?_
        refine cNil ?_
        refine xThenN ?_
        intro ds u hau
        refine ⟨θ, he.put0 hi hau hf rfl 30 rfl rfl, ?_⟩
        exact hc
      · intro E θ a w hD hi hp he hc
        have e17 := hp.of (k := 17) rfl
        try dsimp only at hc
        rw [hi] at hc
        have hf := he.h0
        replace hf := hf.more he 30 rfl (onP e17)
        refine stBS (rows := ([(⟨e_15.Index.Hi, e_15.Delivered.Lo⟩ : share_Truth)] : List share_Truth).map enc_share_Truth) (vs := [(0, .agg #[.int .i64 e_15.Index.Hi, .int .i64 e_15.Delivered.Lo])]) hf hc rfl rfl sl_90 rfl ⟨rfl, rfl, rfl, trivial⟩ rfl rfl fun b_7 a w hf hc => ?_
        refine cNil ?_
        refine xThenN ?_
        intro ds u hau
        replace hc := hc.drop k1
        refine ⟨(setT θ 144 ⟨b_7, none, 0⟩), he.put hi hau hf rfl [] trivial ⟨qq, qq, qq, qq, qq, qq, qq, qq, qq, qq, qq, qq, qq, qq, qq, qq, qq, qq, qq, qq, qq, qq, qq, qq, qq, qq, qq, qq, qq, qq, qq, qq, qq, qq, qq, trivial⟩, ?_⟩
        try dsimp only
        rw [updE_self E 18]
        exact hc
      · intro E θ a w hD hi hp he hc
        have e10 := hp.of (k := 10) rfl
        have e18 := hp.of (k := 18) rfl
        have e21 := hD.f 3 rfl hi
        try dsimp only at hc
        rw [e18, hi] at hc
        have hf := he.h0
        replace hf := hf.more he 23 rfl (onP e10)
        replace hf := hf.more he 31 rfl (onP e18)
        refine stApm (xs := high) (ys := ([(⟨e_15.Index.Hi, e_15.Delivered.Lo⟩ : share_Truth)] : List share_Truth)) hf hc rfl rfl sl_90 rfl rfl rfl rfl rfl one_enc_share_Truth (src_row hc m0) (fun _ _ => u3) (by simpa using room_spec hun_2) fun p_16 c_16 a w hf hc => ?_
        refine cNil ?_
        refine xThenN ?_
        intro ds u hau
        refine ⟨(setT θ 152 ⟨0, p_16, c_16⟩), he.put hi hau hf rfl [21] ⟨⟨e21, rfl⟩, trivial⟩ ⟨qq, qq, qq, qq, qq, qq, qq, qq, qq, qq, qq, qq, qq, qq, qq, qq, qq, qq, qq, qq, qq, qq, qq, qq, qq, qq, qq, qq, qq, qq, qq, qq, qq, qq, trivial, trivial⟩, ?_⟩
        try dsimp only
        rw [updE_tru 19 e18, updE_self E 19]
        exact hc
      · intro E θ a w hD hi hp he hc
        have e9 := hp.of (k := 9) rfl
        have hf := he.h0
        replace hf := hf.more he 22 rfl (onP e9)
        refine stP hf rfl rfl rfl (pA rfl) fun a hf => ?_
        refine cNil ?_
        refine xThenN ?_
        intro ds u hau
        refine ⟨θ, he.put0 hi hau hf rfl 33 rfl rfl, ?_⟩
        exact hc
      · intro E θ a w hD hi hp he hc
        have e19 := hp.of (k := 19) rfl
        have hf := he.h0
        replace hf := hf.more he 32 rfl (onP e19)
        refine stP hf rfl rfl rfl (pA rfl) fun a hf => ?_
        refine cNil ?_
        refine xThenN ?_
        intro ds u hau
        refine ⟨θ, he.put0 hi hau hf rfl 34 rfl rfl, ?_⟩
        exact hc
      · intro E θ a w hall he hc
        have hf := he.h0
        have e8 := hall 8 rfl
        have e9 := hall 9 rfl
        have e18 := hall 18 rfl
        have e19 := hall 19 rfl
        have e20 := hall 20 rfl
        have e21 := hall 21 rfl
        replace hf := hf.more he 34 rfl (onP e21)
        replace hf := hf.more he 33 rfl (onP e20)
        replace hf := hf.more he 12 rfl (onT)
        replace hf := hf.more he 11 rfl (onT)
        replace hf := hf.more he 10 rfl (onT)
        replace hf := hf.more he 6 rfl (onT)
        replace hf := hf.more he 5 rfl (onT)
        replace hf := hf.more he 4 rfl (onT)
        replace hf := hf.more he 3 rfl (onT)
        replace hf := hf.more he 2 rfl (onT)
        replace hf := hf.more he 1 rfl (onT)
        replace hf := hf.more he 0 rfl (onT)
        try dsimp only at hc
        rw [e8, e9, e18, e19] at hc
        exact ⟨(θ 72).p, (θ 72).c, (θ 152).p, (θ 152).c, (θ 144).b, (θ 64).b, hf.keep ⟨rfl, rfl, rfl, rfl, rfl, rfl, rfl, rfl, rfl, rfl, rfl, rfl, trivial⟩, hc⟩
      rintro a w ⟨p_17, c_17, p_18, c_18, b_8, b_9, hf, hc⟩
      refine h41 _ _ ?_
      refine cReg ?_
      refine stP hf rfl rfl rfl (pAdd rfl rfl) fun a hf => ?_
      refine stP hf rfl rfl rfl (pM rfl) fun a hf => ?_
      refine cNil ?_
      replace hc := hc.drop k2
      replace hc := hc.drop k1
      replace hc := hc.drop k0
      exact hK12 (l, (low ++ [(⟨e_15.Index.Lo, e_15.Delivered.Hi⟩ : share_Truth)]), (high ++ [(⟨e_15.Index.Hi, e_15.Delivered.Lo⟩ : share_Truth)]), W (x + 1)) _ _ (Option.some.inj hF).symm ⟨(some ⟨g_6, 0, none⟩), c_6, p_17, c_17, p_18, c_18, hf.keep ⟨rfl, rfl, rfl, rfl, rfl, rfl, rfl, rfl, rfl, rfl, rfl, rfl, trivial⟩, hc⟩
    · replace hF := condF hb hF
      clear hb
      refine wp_exit ?_
      refine xThen ?_
      refine xThen ?_
      have he := Option.some.inj hF
      rw [← he] at hfin12
      refine cHit ?_
      exact hr12 _ _ _ hfin12 ⟨p_6, c_6, p_7, c_7, p_8, c_8, hf.keep ⟨rfl, rfl, rfl, rfl, rfl, rfl, rfl, rfl, rfl, rfl, rfl, rfl, trivial⟩, hc⟩

end Go.Nilo
