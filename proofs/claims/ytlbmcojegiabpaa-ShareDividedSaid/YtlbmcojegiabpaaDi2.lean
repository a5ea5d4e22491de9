/-
  What functions of the Go text compute, as plain functions, and that they do, part 2 of 3. Conditions: what each theorem names.
-/
import Derived.Test.YtlbmcojegiabpaaDi1
import Derived.Test.YtlbmcojegiabpaaProg
set_option linter.unusedVariables false
set_option maxRecDepth 100000
set_option maxHeartbeats 4000000
namespace Go.Nilo
open Go.Proofs


def share_serve_r5 (N : Nat) (x : Nat → Int) (xv : share_Right) (xv_1 : Int) : Option (Rs ((Nat → Int))) :=
  Option.bind (inR xv.State 12) fun un =>
  Option.bind (inR xv.State 12) fun un_1 =>
  some (.go (setF x xv.State.toNat (W ((x xv.State.toNat) + (W ((W (xv_1 * (W (1000 - xv.Loss)))).tdiv 1000))))))
def share_serve (N : Nat) (c_ : share_Compact) (flow : Int) : Option ((List Int)) :=
  Option.bind (share_office_taken N (⟨c_, (fun _ => 0)⟩ : share_office) flow) fun r =>
  Option.bind (share_office_taken_1 N (⟨c_, (fun _ => 0)⟩ : share_office) r (rY (fun (zz : (Nat → Int)) (x : (share_Right × Int)) => share_serve_r5 N zz x.1 x.2)) (.go (fun _ => 0))) fun x5 =>
  rsK x5.1 (fun zz => Option.bind (subO (aL 12 zz) 0 c_.States) fun sub =>
  Option.bind (slices_Clone_Lint_int N sub) fun r_1 =>
  some r_1) (fun zz => none)
theorem share_serve_ok {N : Nat} {G : Pers} {Lf : List Ent} {w : World} (c_ : share_Compact) (flow : Int) {c__Rights_p : Option Addr} {c__Rights_c : Nat} (h_c__Rights : Rd G 3 c__Rights_p c__Rights_c (c_.Rights.map enc_share_Right)) (hc : Ctx G (Lf) w) {res : (List Int)} (hF : share_serve N c_ flow = some res) : Calls Try.prog 75 #[.agg #[.int .i64 c_.States, .slice c__Rights_p c_.Rights.length c__Rights_c], .int .i64 flow] w (fun e w => ∃ (p'1 : Option Addr) (c'1 : Nat), e = .returned (.slice p'1 res.length c'1) ∧ Ctx G (.row p'1 c'1 (res.map encI_i64) 3 1 :: Lf) w) := by
  unfold share_serve at hF
  refine fnInM (args := [.agg #[.int .i64 c_.States, .slice c__Rights_p c_.Rights.length c__Rights_c], .int .i64 flow]) Try.func75 rfl Try.ntmps75 rfl fun a hf => ?_
  refine wp_seq_k fun K1 h1 => ?_
  refine cReg ?_
  refine stBx (cs := [.int .i64 c_.States, .slice c__Rights_p c_.Rights.length c__Rights_c]) hf hc rfl rfl rfl rfl fun b_1 a w hf hc => ?_
  refine stP hf rfl rfl rfl (pA rfl) fun a hf => ?_
  refine cNil ?_
  refine h1 _ _ ?_
  refine wp_seq_k fun K2 h2 => ?_
  refine cReg ?_
  refine stE hf hc rfl rfl rfl (eLdN (vs := [.int .i64 c_.States, .slice c__Rights_p c_.Rights.length c__Rights_c]) ag_24 rfl rfl (cells_box (n := 2) m0 rfl)) fun a w hf hc => ?_
  refine stP hf rfl rfl rfl (pBuildS (cells := (catc [.int .i64 c_.States, .slice c__Rights_p c_.Rights.length c__Rights_c] 12 encI_i64 (fun _ => 0) [])) bt_156 rfl rfl) fun a hf => ?_
  refine stBx (cs := (catc [.int .i64 c_.States, .slice c__Rights_p c_.Rights.length c__Rights_c] 12 encI_i64 (fun _ => 0) [])) hf hc rfl rfl rfl rfl fun b_2 a w hf hc => ?_
  refine stAl (cs := [.pointer none]) hf hc rfl rfl zr_153 rfl fun b_3 a w hf hc => ?_
  refine stSt (vs := [.pointer (some ⟨b_2, 0, none⟩)]) hf hc rfl rfl rfl rfl sz_153 rfl rfl u0 fun w hc => ?_
  refine cNil ?_
  refine h2 _ _ ?_
  refine wp_seq_k fun K3 h3 => ?_
  refine wp_seq_k fun K4 h4 => ?_
  refine cReg ?_
  refine stE hf hc rfl rfl rfl (eLd1 sc_153 rfl (cell_box m0 rfl)) fun a w hf hc => ?_
  refine stP hf rfl rfl rfl (pM rfl) fun a hf => ?_
  obtain ⟨r, hr, hF⟩ := bnd_some hF
  refine stC (vs := [.pointer (some ⟨b_2, 0, none⟩), .int .i64 flow]) (caps := []) hf rfl rfl rfl en_79 rfl rfl rfl rfl (share_office_taken_ok (⟨c_, (fun _ => 0)⟩ : share_office) flow h_c__Rights (hc.pick k1) hr) ?_
  rintro _ w ⟨b_4, b_5, rfl, hc⟩
  refine ⟨_, rfl, fun a hf => ?_⟩
  refine cNil ?_
  refine h4 _ _ ?_
  obtain ⟨x5, hx5, hF⟩ := bnd_some hF
  replace hc := hc.drop k4
  refine cRangeA (C := [.box b_4 [.pointer (some ⟨b_2, 0, none⟩)] 153, .box b_5 [.int .i64 r] 3]) (C2 := [.box b_4 [.pointer (some ⟨b_2, 0, none⟩)] 153, .box b_5 [.int .i64 x5.2] 3]) (L0 := [.box b_2 (catc [.int .i64 c_.States, .slice c__Rights_p c_.Rights.length c__Rights_c] 12 encI_i64 ((fun _ => 0)) []) 156, .box b_3 [.pointer (some ⟨b_2, 0, none⟩)] 153]) (Lf := Lf) (encs := fun x : (share_Right × Int) => [.agg #[.int .i64 x.1.State, .int .i64 x.1.Amount, .int .i64 x.1.Loss], .int .i64 x.2]) (fun (zz : (Nat → Int)) L => L = [.box b_2 (catc [.int .i64 c_.States, .slice c__Rights_p c_.Rights.length c__Rights_c] 12 encI_i64 zz []) 156, .box b_3 [.pointer (some ⟨b_2, 0, none⟩)] 153]) (fun (zz : (Nat → Int)) (x : (share_Right × Int)) => share_serve_r5 N zz x.1 x.2) (fun _ => 0) x5.1 hf hc rfl en_118 (fun _ => rfl) rfl rfl ?_ ?_ ?_ ?_
  · intro l m J A Lx w hy hJ hc
    exact share_office_taken_1_ok (⟨c_, (fun _ => 0)⟩ : share_office) r h_c__Rights J _ hy _ hJ hc hx5
  · clear hF hf hc
    rintro l m x ⟨xv, xv_1⟩ o _ Lr Lb a w hK0 rfl hF hf hc hK
    replace hf : Has 43 a [(5, .pointer (some ⟨b_3, 0, none⟩)), (14, .agg #[.int .i64 xv.State, .int .i64 xv.Amount, .int .i64 xv.Loss]), (15, .int .i64 xv_1)] := hf.keep ⟨rfl, rfl, rfl, trivial⟩
    replace hc : Ctx G (.box b_2 (catc [.int .i64 c_.States, .slice c__Rights_p c_.Rights.length c__Rights_c] 12 encI_i64 x []) 156 :: .box b_3 [.pointer (some ⟨b_2, 0, none⟩)] 153 :: Lr) w := hc
    replace hF : share_serve_r5 N x xv xv_1 = some o := hF
    unfold share_serve_r5 at hF
    refine rSeq fun K6 h6 => ?_
    refine rReg (fun _ _ h => h) rfl ?_
    refine stAl (cs := [.int .i64 0, .int .i64 0, .int .i64 0]) hf hc rfl rfl zr_51 rfl fun b_6 a w hf hc => ?_
    refine stSt (vs := [.int .i64 xv.State, .int .i64 xv.Amount, .int .i64 xv.Loss]) hf hc rfl rfl rfl rfl sz_51 rfl rfl u0 fun w hc => ?_
    refine cNil ?_
    refine h6 _ _ ?_
    refine rReg (fun _ _ h => h) rfl ?_
    refine stP hf rfl rfl rfl (pA rfl) fun a hf => ?_
    refine cNil ?_
    refine hK _ _ [.box b_6 [.int .i64 xv.State, .int .i64 xv.Amount, .int .i64 xv.Loss] 51, .box b_2 (catc [.int .i64 c_.States, .slice c__Rights_p c_.Rights.length c__Rights_c] 12 encI_i64 x []) 156, .box b_3 [.pointer (some ⟨b_2, 0, none⟩)] 153] hc fun w hc => ?_
    replace hc : Ctx G (.box b_6 [.int .i64 xv.State, .int .i64 xv.Amount, .int .i64 xv.Loss] 51 :: .box b_2 (catc [.int .i64 c_.States, .slice c__Rights_p c_.Rights.length c__Rights_c] 12 encI_i64 x []) 156 :: .box b_3 [.pointer (some ⟨b_2, 0, none⟩)] 153 :: Lb) w := hc
    refine rThenK fun K7 h7 => ?_
    refine rBlock ?_
    obtain ⟨un, hun, hF⟩ := bnd_some hF
    obtain ⟨un_1, hun_1, hF⟩ := bnd_some hF
    refine rRegE (fun _ _ h => h) rfl (fun θ => [⟨none, none, 5, .pointer (some ⟨b_3, 0, none⟩)⟩, ⟨none, none, 6, .pointer (some ⟨b_6, 0, none⟩)⟩, ⟨none, none, 7, .int .i64 xv_1⟩, ⟨some 0, none, 16, .pointer (some ⟨b_2, 0, none⟩)⟩, ⟨some 1, none, 17, .pointer (some ⟨b_6, 0, none⟩)⟩, ⟨some 2, none, 18, .int .i64 xv.State⟩, ⟨some 3, none, 19, .pointer (some ⟨b_2, 0, none⟩)⟩, ⟨some 4, none, 20, .pointer (some ⟨b_2, 2, none⟩)⟩, ⟨some 5, none, 21, .pointer (some ⟨b_2, 2 + xv.State.toNat * 1, none⟩)⟩, ⟨some 6, none, 22, .int .i64 (x xv.State.toNat)⟩, ⟨some 7, none, 23, .int .i64 xv_1⟩, ⟨some 8, none, 24, .pointer (some ⟨b_6, 2, none⟩)⟩, ⟨some 9, none, 25, .int .i64 xv.Loss⟩, ⟨some 10, none, 26, .int .i64 (W (1000 - xv.Loss))⟩, ⟨some 11, none, 27, .int .i64 (W (xv_1 * (W (1000 - xv.Loss))))⟩, ⟨some 12, none, 28, .int .i64 (W ((W (xv_1 * (W (1000 - xv.Loss)))).tdiv 1000))⟩, ⟨some 13, none, 29, .int .i64 (W ((x xv.State.toNat) + (W ((W (xv_1 * (W (1000 - xv.Loss)))).tdiv 1000))))⟩, ⟨some 14, none, 30, .pointer (some ⟨b_2, 0, none⟩)⟩, ⟨some 15, none, 31, .pointer (some ⟨b_2, 2, none⟩)⟩, ⟨some 16, none, 32, .pointer (some ⟨b_2, 2 + xv.State.toNat * 1, none⟩)⟩]) (fun E θ => .box b_6 [.int .i64 xv.State, .int .i64 xv.Amount, .int .i64 xv.Loss] 51 :: (bif E 17 then .box b_2 (catc [.int .i64 c_.States, .slice c__Rights_p c_.Rights.length c__Rights_c] 12 encI_i64 (setF x xv.State.toNat (W ((x xv.State.toNat) + (W ((W (xv_1 * (W (1000 - xv.Loss)))).tdiv 1000))))) []) 156 else .box b_2 (catc [.int .i64 c_.States, .slice c__Rights_p c_.Rights.length c__Rights_c] 12 encI_i64 x []) 156) :: .box b_3 [.pointer (some ⟨b_2, 0, none⟩)] 153 :: Lb) [(17, 6)] (fun a w => Has 43 a [] ∧ Ctx G (.box b_6 [.int .i64 xv.State, .int .i64 xv.Amount, .int .i64 xv.Loss] 51 :: .box b_2 (catc [.int .i64 c_.States, .slice c__Rights_p c_.Rights.length c__Rights_c] 12 encI_i64 (setF x xv.State.toNat (W ((x xv.State.toNat) + (W ((W (xv_1 * (W (1000 - xv.Loss)))).tdiv 1000))))) []) 156 :: .box b_3 [.pointer (some ⟨b_2, 0, none⟩)] 153 :: Lb) w) follows_mx (by kernel_rfl) (by kernel_rfl) (HasE.of hf ⟨rfl, rfl, rfl, trivial, trivial, trivial, trivial, trivial, trivial, trivial, trivial, trivial, trivial, trivial, trivial, trivial, trivial, trivial, trivial, trivial, trivial⟩) hc ⟨?_, ?_, ?_, ?_, ?_, ?_, ?_, ?_, ?_, ?_, ?_, ?_, ?_, ?_, ?_, ?_, ?_, ?_, trivial⟩ ?_ ?_
    · intro E θ a w hD hi hp he hc
      have hf := he.h0
      replace hf := hf.more he 0 rfl onT
      refine stE hf hc rfl rfl rfl (eLd1 sc_153 rfl (cell_box m2 rfl)) fun a w hf hc => ?_
      refine cNil ?_
      refine xThenN ?_
      intro ds u hau
      refine ⟨θ, he.put0 hi hau hf rfl 3 rfl rfl, ?_⟩
      exact hc
    · intro E θ a w hD hi hp he hc
      have hf := he.h0
      replace hf := hf.more he 1 rfl onT
      refine stP hf rfl rfl rfl (pFA fa_51_0 rfl) fun a hf => ?_
      refine cNil ?_
      refine xThenN ?_
      intro ds u hau
      refine ⟨θ, he.put0 hi hau hf rfl 4 rfl rfl, ?_⟩
      exact hc
    · intro E θ a w hD hi hp he hc
      have e1 := hp.of (k := 1) rfl
      have hf := he.h0
      replace hf := hf.more he 4 rfl (onP e1)
      refine stE hf hc rfl rfl rfl (eLd1 sc_3 rfl (cell_box m0 rfl)) fun a w hf hc => ?_
      refine cNil ?_
      refine xThenN ?_
      intro ds u hau
      refine ⟨θ, he.put0 hi hau hf rfl 5 rfl rfl, ?_⟩
      exact hc
    · intro E θ a w hD hi hp he hc
      have e0 := hp.of (k := 0) rfl
      have hf := he.h0
      replace hf := hf.more he 3 rfl (onP e0)
      refine stP hf rfl rfl rfl (pNC rfl) fun a hf => ?_
      refine cNil ?_
      refine xThenN ?_
      intro ds u hau
      refine ⟨θ, he.put0 hi hau hf rfl 6 rfl rfl, ?_⟩
      exact hc
    · intro E θ a w hD hi hp he hc
      have e3 := hp.of (k := 3) rfl
      have hf := he.h0
      replace hf := hf.more he 6 rfl (onP e3)
      refine stP hf rfl rfl rfl (pFA fa_156_1 rfl) fun a hf => ?_
      refine cNil ?_
      refine xThenN ?_
      intro ds u hau
      refine ⟨θ, he.put0 hi hau hf rfl 7 rfl rfl, ?_⟩
      exact hc
    · intro E θ a w hD hi hp he hc
      have e2 := hp.of (k := 2) rfl
      have e4 := hp.of (k := 4) rfl
      have hf := he.h0
      replace hf := hf.more he 5 rfl (onP e2)
      replace hf := hf.more he 7 rfl (onP e4)
      refine stP hf rfl rfl rfl (pIAA Try.underlying154 sz_3 rfl rfl (inR_spec hun).1 (inR_spec hun).2) fun a hf => ?_
      refine cNil ?_
      refine xThenN ?_
      intro ds u hau
      refine ⟨θ, he.put0 hi hau hf rfl 8 rfl rfl, ?_⟩
      exact hc
    · intro E θ a w hD hi hp he hc
      have e5 := hp.of (k := 5) rfl
      have e17 := hD.f 0 rfl hi
      try dsimp only at hc
      rw [e17] at hc
      have hf := he.h0
      replace hf := hf.more he 8 rfl (onP e5)
      refine stE hf hc rfl rfl rfl (eLd1 sc_3 rfl (cell_arr (j := 0) m1 (fun x => (one_encI_i64 x).1) rfl hun rfl)) fun a w hf hc => ?_
      refine cNil ?_
      refine xThenN ?_
      intro ds u hau
      refine ⟨θ, he.put0 hi hau hf rfl 9 rfl rfl, ?_⟩
      try dsimp only
      rw [updE_fls 6 e17 rfl]
      exact hc
    · intro E θ a w hD hi hp he hc
      have hf := he.h0
      replace hf := hf.more he 2 rfl onT
      refine stP hf rfl rfl rfl (pM rfl) fun a hf => ?_
      refine cNil ?_
      refine xThenN ?_
      intro ds u hau
      refine ⟨θ, he.put0 hi hau hf rfl 10 rfl rfl, ?_⟩
      exact hc
    · intro E θ a w hD hi hp he hc
      have hf := he.h0
      replace hf := hf.more he 1 rfl onT
      refine stP hf rfl rfl rfl (pFA fa_51_2 rfl) fun a hf => ?_
      refine cNil ?_
      refine xThenN ?_
      intro ds u hau
      refine ⟨θ, he.put0 hi hau hf rfl 11 rfl rfl, ?_⟩
      exact hc
    · intro E θ a w hD hi hp he hc
      have e8 := hp.of (k := 8) rfl
      have hf := he.h0
      replace hf := hf.more he 11 rfl (onP e8)
      refine stE hf hc rfl rfl rfl (eLd1 sc_3 rfl (cell_box m0 rfl)) fun a w hf hc => ?_
      refine cNil ?_
      refine xThenN ?_
      intro ds u hau
      refine ⟨θ, he.put0 hi hau hf rfl 12 rfl rfl, ?_⟩
      exact hc
    · intro E θ a w hD hi hp he hc
      have e9 := hp.of (k := 9) rfl
      have hf := he.h0
      replace hf := hf.more he 12 rfl (onP e9)
      refine stP hf rfl rfl rfl (pSub rfl rfl) fun a hf => ?_
      refine cNil ?_
      refine xThenN ?_
      intro ds u hau
      refine ⟨θ, he.put0 hi hau hf rfl 13 rfl rfl, ?_⟩
      exact hc
    · intro E θ a w hD hi hp he hc
      have e7 := hp.of (k := 7) rfl
      have e10 := hp.of (k := 10) rfl
      have hf := he.h0
      replace hf := hf.more he 10 rfl (onP e7)
      replace hf := hf.more he 13 rfl (onP e10)
      refine stP hf rfl rfl rfl (pMul rfl rfl) fun a hf => ?_
      refine cNil ?_
      refine xThenN ?_
      intro ds u hau
      refine ⟨θ, he.put0 hi hau hf rfl 14 rfl rfl, ?_⟩
      exact hc
    · intro E θ a w hD hi hp he hc
      have e11 := hp.of (k := 11) rfl
      have hf := he.h0
      replace hf := hf.more he 14 rfl (onP e11)
      refine stP hf rfl rfl rfl (pQuo rfl rfl (by decide)) fun a hf => ?_
      refine cNil ?_
      refine xThenN ?_
      intro ds u hau
      refine ⟨θ, he.put0 hi hau hf rfl 15 rfl rfl, ?_⟩
      exact hc
    · intro E θ a w hD hi hp he hc
      have e6 := hp.of (k := 6) rfl
      have e12 := hp.of (k := 12) rfl
      have hf := he.h0
      replace hf := hf.more he 9 rfl (onP e6)
      replace hf := hf.more he 15 rfl (onP e12)
      refine stP hf rfl rfl rfl (pAdd rfl rfl) fun a hf => ?_
      refine cNil ?_
      refine xThenN ?_
      intro ds u hau
      refine ⟨θ, he.put0 hi hau hf rfl 16 rfl rfl, ?_⟩
      exact hc
    · intro E θ a w hD hi hp he hc
      have e0 := hp.of (k := 0) rfl
      have hf := he.h0
      replace hf := hf.more he 3 rfl (onP e0)
      refine stP hf rfl rfl rfl (pNC rfl) fun a hf => ?_
      refine cNil ?_
      refine xThenN ?_
      intro ds u hau
      refine ⟨θ, he.put0 hi hau hf rfl 17 rfl rfl, ?_⟩
      exact hc
    · intro E θ a w hD hi hp he hc
      have e14 := hp.of (k := 14) rfl
      have hf := he.h0
      replace hf := hf.more he 17 rfl (onP e14)
      refine stP hf rfl rfl rfl (pFA fa_156_1 rfl) fun a hf => ?_
      refine cNil ?_
      refine xThenN ?_
      intro ds u hau
      refine ⟨θ, he.put0 hi hau hf rfl 18 rfl rfl, ?_⟩
      exact hc
    · intro E θ a w hD hi hp he hc
      have e2 := hp.of (k := 2) rfl
      have e15 := hp.of (k := 15) rfl
      have hf := he.h0
      replace hf := hf.more he 5 rfl (onP e2)
      replace hf := hf.more he 18 rfl (onP e15)
      refine stP hf rfl rfl rfl (pIAA Try.underlying154 sz_3 rfl rfl (inR_spec hun_1).1 (inR_spec hun_1).2) fun a hf => ?_
      refine cNil ?_
      refine xThenN ?_
      intro ds u hau
      refine ⟨θ, he.put0 hi hau hf rfl 19 rfl rfl, ?_⟩
      exact hc
    · intro E θ a w hD hi hp he hc
      have e13 := hp.of (k := 13) rfl
      have e16 := hp.of (k := 16) rfl
      try dsimp only at hc
      rw [hi] at hc
      have hf := he.h0
      replace hf := hf.more he 16 rfl (onP e13)
      replace hf := hf.more he 19 rfl (onP e16)
      refine stAr (vs := [.int .i64 (W ((x xv.State.toNat) + (W ((W (xv_1 * (W (1000 - xv.Loss)))).tdiv 1000))))]) (o' := 0) (z := W ((x xv.State.toNat) + (W ((W (xv_1 * (W (1000 - xv.Loss)))).tdiv 1000)))) hf hc rfl rfl rfl rfl sz_3 rfl (fun x => (one_encI_i64 x).1) rfl hun_1 rfl rfl u1 fun w hc => ?_
      refine cNil ?_
      refine xThenN ?_
      intro ds u hau
      refine ⟨θ, he.stay0 hi hau hf rfl, ?_⟩
      try dsimp only
      rw [updE_self E 17]
      exact hc
    · intro E θ a w hall he hc
      have hf := he.h0
      have e17 := hall 17 rfl
      try dsimp only at hc
      rw [e17] at hc
      exact ⟨hf.keep trivial, hc⟩
    rintro a w ⟨hf, hc⟩
    refine h7 _ _ ?_
    replace hc := hc.drop k0
    exact ⟨(setF x xv.State.toNat (W ((x xv.State.toNat) + (W ((W (xv_1 * (W (1000 - xv.Loss)))).tdiv 1000))))), _, (Option.some.inj hF).symm, rfl, hc⟩
  · rintro D_1 x _ a w hsF rfl hf hc
    replace hc : Ctx G (.raw D_1 (.deferred (some [])) :: .box b_4 [.pointer (some ⟨b_2, 0, none⟩)] 153 :: .box b_5 [.int .i64 x5.2] 3 :: .box b_2 (catc [.int .i64 c_.States, .slice c__Rights_p c_.Rights.length c__Rights_c] 12 encI_i64 x []) 156 :: .box b_3 [.pointer (some ⟨b_2, 0, none⟩)] 153 :: Lf) w := hc
    replace hF : (Option.bind (subO (aL 12 x) 0 c_.States) fun sub => Option.bind (slices_Clone_Lint_int N sub) fun r_1 => some r_1) = some res := by rcases hsF with h_ | h_ <;> (rw [h_] at hF; exact hF)
    refine h3 _ _ ?_
    refine wp_seq_k fun K8 h8 => ?_
    obtain ⟨sub, hsub, hF⟩ := bnd_some hF
    obtain ⟨r_1, hr_1, hF⟩ := bnd_some hF
    replace hc := hc.nilRow 0 0
    refine regionE (fun θ => [⟨none, none, 5, .pointer (some ⟨b_3, 0, none⟩)⟩, ⟨some 0, none, 33, .pointer (some ⟨b_2, 0, none⟩)⟩, ⟨some 1, none, 34, .pointer (some ⟨b_2, 0, none⟩)⟩, ⟨some 2, none, 35, .pointer (some ⟨b_2, 2, none⟩)⟩, ⟨some 3, none, 36, .pointer (some ⟨b_2, 0, none⟩)⟩, ⟨some 4, none, 37, .pointer (some ⟨b_2, 0, none⟩)⟩, ⟨some 5, none, 38, .pointer (some ⟨b_2, 0, none⟩)⟩, ⟨some 6, none, 39, .pointer (some ⟨b_2, 0, none⟩)⟩, ⟨some 7, none, 40, .int .i64 c_.States⟩, ⟨some 8, none, 41, .slice (subP (some ⟨b_2, 2, none⟩) 12 (0 : Int).toNat 1) sub.length (12 - (0 : Int).toNat)⟩, ⟨some 9, none, 42, .slice ((θ 72).p) r_1.length ((θ 72).c)⟩, ⟨some 10, none, 4, .slice ((θ 72).p) r_1.length ((θ 72).c)⟩]) (fun E θ => (bif E 9 then .row ((θ 72).p) ((θ 72).c) (r_1.map encI_i64) 3 1 else .row none 0 [] 0 0) :: .raw D_1 (.deferred (some [])) :: .box b_4 [.pointer (some ⟨b_2, 0, none⟩)] 153 :: .box b_5 [.int .i64 x5.2] 3 :: .box b_2 (catc [.int .i64 c_.States, .slice c__Rights_p c_.Rights.length c__Rights_c] 12 encI_i64 x []) 156 :: .box b_3 [.pointer (some ⟨b_2, 0, none⟩)] 153 :: Lf) [(10, 9)] (fun a w => ∃ (p_2 : Option Addr) (c_2 : Nat), Has ⟨43, [markOf D_1]⟩ a [(4, .slice p_2 r_1.length c_2)] ∧ Ctx G (.row p_2 c_2 (r_1.map encI_i64) 3 1 :: .raw D_1 (.deferred (some [])) :: .box b_4 [.pointer (some ⟨b_2, 0, none⟩)] 153 :: .box b_5 [.int .i64 x5.2] 3 :: .box b_2 (catc [.int .i64 c_.States, .slice c__Rights_p c_.Rights.length c__Rights_c] 12 encI_i64 x []) 156 :: .box b_3 [.pointer (some ⟨b_2, 0, none⟩)] 153 :: Lf) w) follows_mx (by kernel_rfl) (by kernel_rfl) (HasE.of hf ⟨rfl, trivial, trivial, trivial, trivial, trivial, trivial, trivial, trivial, trivial, trivial, trivial, trivial⟩) hc ⟨?_, ?_, ?_, ?_, ?_, ?_, ?_, ?_, ?_, ?_, ?_, trivial⟩ ?_ ?_
    · intro E θ a w hD hi hp he hc
      have hf := he.h0
      replace hf := hf.more he 0 rfl onT
      refine stE hf hc rfl rfl rfl (eLd1 sc_153 rfl (cell_box m5 rfl)) fun a w hf hc => ?_
      refine cNil ?_
      refine xThenN ?_
      intro ds u hau
      refine ⟨θ, he.put0 hi hau hf rfl 1 rfl rfl, ?_⟩
      exact hc
    · intro E θ a w hD hi hp he hc
      have e0 := hp.of (k := 0) rfl
      have hf := he.h0
      replace hf := hf.more he 1 rfl (onP e0)
      refine stP hf rfl rfl rfl (pNC rfl) fun a hf => ?_
      refine cNil ?_
      refine xThenN ?_
      intro ds u hau
      refine ⟨θ, he.put0 hi hau hf rfl 2 rfl rfl, ?_⟩
      exact hc
    · intro E θ a w hD hi hp he hc
      have e1 := hp.of (k := 1) rfl
      have hf := he.h0
      replace hf := hf.more he 2 rfl (onP e1)
      refine stP hf rfl rfl rfl (pFA fa_156_1 rfl) fun a hf => ?_
      refine cNil ?_
      refine xThenN ?_
      intro ds u hau
      refine ⟨θ, he.put0 hi hau hf rfl 3 rfl rfl, ?_⟩
      exact hc
    · intro E θ a w hD hi hp he hc
      have hf := he.h0
      replace hf := hf.more he 0 rfl onT
      refine stE hf hc rfl rfl rfl (eLd1 sc_153 rfl (cell_box m5 rfl)) fun a w hf hc => ?_
      refine cNil ?_
      refine xThenN ?_
      intro ds u hau
      refine ⟨θ, he.put0 hi hau hf rfl 4 rfl rfl, ?_⟩
      exact hc
    · intro E θ a w hD hi hp he hc
      have e3 := hp.of (k := 3) rfl
      have hf := he.h0
      replace hf := hf.more he 4 rfl (onP e3)
      refine stP hf rfl rfl rfl (pNC rfl) fun a hf => ?_
      refine cNil ?_
      refine xThenN ?_
      intro ds u hau
      refine ⟨θ, he.put0 hi hau hf rfl 5 rfl rfl, ?_⟩
      exact hc
    · intro E θ a w hD hi hp he hc
      have e4 := hp.of (k := 4) rfl
      have hf := he.h0
      replace hf := hf.more he 5 rfl (onP e4)
      refine stP hf rfl rfl rfl (pFA fa_156_0 rfl) fun a hf => ?_
      refine cNil ?_
      refine xThenN ?_
      intro ds u hau
      refine ⟨θ, he.put0 hi hau hf rfl 6 rfl rfl, ?_⟩
      exact hc
    · intro E θ a w hD hi hp he hc
      have e5 := hp.of (k := 5) rfl
      have hf := he.h0
      replace hf := hf.more he 6 rfl (onP e5)
      refine stP hf rfl rfl rfl (pFA fa_24_0 rfl) fun a hf => ?_
      refine cNil ?_
      refine xThenN ?_
      intro ds u hau
      refine ⟨θ, he.put0 hi hau hf rfl 7 rfl rfl, ?_⟩
      exact hc
    · intro E θ a w hD hi hp he hc
      have e6 := hp.of (k := 6) rfl
      have hf := he.h0
      replace hf := hf.more he 7 rfl (onP e6)
      refine stE hf hc rfl rfl rfl (eLd1 sc_3 rfl (cell_box m4 rfl)) fun a w hf hc => ?_
      refine cNil ?_
      refine xThenN ?_
      intro ds u hau
      refine ⟨θ, he.put0 hi hau hf rfl 8 rfl rfl, ?_⟩
      exact hc
    · intro E θ a w hD hi hp he hc
      have e2 := hp.of (k := 2) rfl
      have e7 := hp.of (k := 7) rfl
      have hf := he.h0
      replace hf := hf.more he 3 rfl (onP e2)
      replace hf := hf.more he 8 rfl (onP e7)
      refine stP hf rfl rfl rfl (pSlA (xs := (aL 12 x)) Try.underlying154 sz_3 rfl aL_len rfl rfl hsub) fun a hf => ?_
      refine cNil ?_
      refine xThenN ?_
      intro ds u hau
      refine ⟨θ, he.put0 hi hau hf rfl 9 rfl rfl, ?_⟩
      exact hc
    · intro E θ a w hD hi hp he hc
      have e8 := hp.of (k := 8) rfl
      have e10 := hD.f 0 rfl hi
      try dsimp only at hc
      rw [hi] at hc
      have hf := he.h0
      replace hf := hf.more he 9 rfl (onP e8)
      obtain ⟨G1, hle1, hrd1, hc, hth1⟩ := lendB hc k4
      refine stC (vs := [.slice (subP (some ⟨b_2, 2, none⟩) 12 (0 : Int).toNat 1) sub.length (12 - (0 : Int).toNat)]) (caps := []) hf rfl rfl rfl en_117 rfl rfl rfl rfl (slices_Clone_Lint_int_ok sub (Rd.sub (rdA (fun x => (one_encI_i64 x).1) hrd1 rfl rfl) hsub) hc hr_1) ?_
      rintro _ w ⟨p_1, c_1, rfl, hc⟩
      refine ⟨_, rfl, fun a hf => ?_⟩
      replace hc := hth1 _ _ hc
      refine cNil ?_
      refine xThenN ?_
      intro ds u hau
      replace hc := hc.drop k2
      replace hc := hc.pick k0
      replace hc := hc.pick k4
      replace hc := hc.pick k4
      replace hc := hc.pick k4
      replace hc := hc.pick k4
      refine ⟨(setT θ 72 ⟨0, p_1, c_1⟩), he.put hi hau hf rfl [10] ⟨⟨e10, rfl⟩, trivial⟩ ⟨qq, qq, qq, qq, qq, qq, qq, qq, qq, qq, qq, trivial, trivial⟩, ?_⟩
      try dsimp only
      rw [updE_self E 9]
      exact hc
    · intro E θ a w hD hi hp he hc
      have e9 := hp.of (k := 9) rfl
      have hf := he.h0
      replace hf := hf.more he 10 rfl (onP e9)
      refine stP hf rfl rfl rfl (pA rfl) fun a hf => ?_
      refine cNil ?_
      refine xThenN ?_
      intro ds u hau
      refine ⟨θ, he.put0 hi hau hf rfl 11 rfl rfl, ?_⟩
      exact hc
    · intro E θ a w hall he hc
      have hf := he.h0
      have e9 := hall 9 rfl
      have e10 := hall 10 rfl
      replace hf := hf.more he 11 rfl (onP e10)
      try dsimp only at hc
      rw [e9] at hc
      exact ⟨(θ 72).p, (θ 72).c, hf.keep ⟨rfl, trivial⟩, hc⟩
    rintro a w ⟨p_2, c_2, hf, hc⟩
    refine h8 _ _ ?_
    refine wp_ret ?_
    obtain rfl := Option.some.inj hF
    replace hc := hc.drop k5
    replace hc := hc.drop k4
    replace hc := hc.drop k3
    replace hc := hc.drop k2
    refine outM hf ?_
    refine outMc hc m1 u1 fun w hc => ?_
    exact outM1 Try.results75 hf hc (show look _ 4 = _ from rfl) ⟨p_2, c_2, rfl, (hc.drop k1)⟩
  · rintro D_1 x _ a w hsF rfl hf hc
    replace hc : Ctx G (.raw D_1 (.deferred (some [])) :: .box b_4 [.pointer (some ⟨b_2, 0, none⟩)] 153 :: .box b_5 [.int .i64 x5.2] 3 :: .box b_2 (catc [.int .i64 c_.States, .slice c__Rights_p c_.Rights.length c__Rights_c] 12 encI_i64 x []) 156 :: .box b_3 [.pointer (some ⟨b_2, 0, none⟩)] 153 :: Lf) w := hc
    replace hF : (none) = some res := by rw [hsF] at hF; exact hF
    cases hF

def share_Real (N : Nat) (c_ : share_Compact) (flow : Int) : Option ((List Int) × Int) :=
  Option.bind (share_Check N c_) fun r =>
  cond (r != 0)
  (some (([] : List Int), r))
  (cond (!(share_water flow))
  (some (([] : List Int), 4))
  (Option.bind (share_serve N c_ flow) fun r_1 =>
  some (r_1, 0)))
theorem share_Real_ok {N : Nat} {G : Pers} {Lf : List Ent} {w : World} (c_ : share_Compact) (flow : Int) {c__Rights_p : Option Addr} {c__Rights_c : Nat} (h_c__Rights : Rd G 3 c__Rights_p c__Rights_c (c_.Rights.map enc_share_Right)) (hc : Ctx G (Lf) w) {res : (List Int) × Int} (hF : share_Real N c_ flow = some res) : Calls Try.prog 18 #[.agg #[.int .i64 c_.States, .slice c__Rights_p c_.Rights.length c__Rights_c], .int .i64 flow] w (fun e w => ∃ (p'1 : Option Addr) (c'1 : Nat), e = .returned (.tuple #[.slice p'1 res.1.length c'1, .int .i64 res.2]) ∧ Ctx G (.row p'1 c'1 (res.1.map encI_i64) 3 1 :: Lf) w) := by
  unfold share_Real at hF
  refine fnIn (args := [.agg #[.int .i64 c_.States, .slice c__Rights_p c_.Rights.length c__Rights_c], .int .i64 flow]) Try.func18 rfl Try.ntmps18 rfl fun a hf => ?_
  refine wp_seq_k fun K1 h1 => ?_
  refine cReg ?_
  refine stBx (cs := [.int .i64 c_.States, .slice c__Rights_p c_.Rights.length c__Rights_c]) hf hc rfl rfl rfl rfl fun b_1 a w hf hc => ?_
  refine stP hf rfl rfl rfl (pA rfl) fun a hf => ?_
  refine stP hf rfl rfl rfl (pA rfl) fun a hf => ?_
  refine cNil ?_
  refine h1 _ _ ?_
  refine wp_seq_k fun K2 h2 => ?_
  refine cReg ?_
  refine stE hf hc rfl rfl rfl (eLdN (vs := [.int .i64 c_.States, .slice c__Rights_p c_.Rights.length c__Rights_c]) ag_24 rfl rfl (cells_box (n := 2) m0 rfl)) fun a w hf hc => ?_
  obtain ⟨r, hr, hF⟩ := bnd_some hF
  refine stE hf hc rfl rfl rfl (eC (v := .int .i64 r) (vs := [.agg #[.int .i64 c_.States, .slice c__Rights_p c_.Rights.length c__Rights_c]]) (caps := []) en_15 rfl rfl rfl rfl (fun w hc => share_Check_ok c_ h_c__Rights hc hr)) fun a w hf hc => ?_
  refine stP hf rfl rfl rfl (pA rfl) fun a hf => ?_
  refine cNil ?_
  refine h2 _ _ ?_
  refine wp_seq_k fun K3 h3 => ?_
  refine wp_block ?_
  refine wp_seq_k fun K4 h4 => ?_
  refine cReg ?_
  refine stP hf rfl rfl rfl (pM rfl) fun a hf => ?_
  refine stP hf rfl rfl rfl (pNe rfl rfl) fun a hf => ?_
  refine stP hf rfl rfl rfl (pA rfl) fun a hf => ?_
  refine cNil ?_
  refine h4 _ _ ?_
  refine cCond (b := (r != 0)) hf rfl (fun hb => ?_) (fun hb => ?_)
  · replace hF := condT hb hF
    clear hb
    refine wp_seq_k fun K5 h5 => ?_
    refine cReg ?_
    refine stP hf rfl rfl rfl (pM rfl) fun a hf => ?_
    refine stP hf rfl rfl rfl (pA rfl) fun a hf => ?_
    refine stP hf rfl rfl rfl (pA rfl) fun a hf => ?_
    refine cNil ?_
    refine h5 _ _ ?_
    refine wp_ret ?_
    refine xBlkR ?_
    refine xThenR ?_
    obtain rfl := Option.some.inj hF
    replace hc := hc.nilRow 3 1
    replace hc := hc.drop k1
    exact fnOut2 (by simp) rfl Try.results18 hf hc (show look _ 4 = _ from rfl) (show look _ 5 = _ from rfl) ⟨none, 0, rfl, hc⟩
  · replace hF := condF hb hF
    clear hb
    refine wp_seq_k fun K6 h6 => ?_
    refine cReg ?_
    refine stP hf rfl rfl rfl (pM rfl) fun a hf => ?_
    refine stE hf hc rfl rfl rfl (eC (v := .bool (share_water flow)) (vs := [.int .i64 flow]) (caps := []) en_73 rfl rfl rfl rfl (fun w hc => share_water_ok flow hc rfl)) fun a w hf hc => ?_
    refine stP hf rfl rfl rfl (pNot rfl) fun a hf => ?_
    refine stP hf rfl rfl rfl (pA rfl) fun a hf => ?_
    refine cNil ?_
    refine h6 _ _ ?_
    refine cCond (b := (!(share_water flow))) hf rfl (fun hb => ?_) (fun hb => ?_)
    · replace hF := condT hb hF
      clear hb
      refine wp_seq_k fun K7 h7 => ?_
      refine cReg ?_
      refine stP hf rfl rfl rfl (pA rfl) fun a hf => ?_
      refine stP hf rfl rfl rfl (pA rfl) fun a hf => ?_
      refine cNil ?_
      refine h7 _ _ ?_
      refine wp_ret ?_
      refine xBlkR ?_
      refine xThenR ?_
      obtain rfl := Option.some.inj hF
      replace hc := hc.nilRow 3 1
      replace hc := hc.drop k1
      exact fnOut2 (by simp) rfl Try.results18 hf hc (show look _ 4 = _ from rfl) (show look _ 5 = _ from rfl) ⟨none, 0, rfl, hc⟩
    · replace hF := condF hb hF
      clear hb
      refine wp_skip ?_
      refine h3 _ _ ?_
      refine wp_seq_k fun K8 h8 => ?_
      refine cReg ?_
      refine stE hf hc rfl rfl rfl (eLdN (vs := [.int .i64 c_.States, .slice c__Rights_p c_.Rights.length c__Rights_c]) ag_24 rfl rfl (cells_box (n := 2) m0 rfl)) fun a w hf hc => ?_
      refine stP hf rfl rfl rfl (pM rfl) fun a hf => ?_
      obtain ⟨r_1, hr_1, hF⟩ := bnd_some hF
      refine stC (vs := [.agg #[.int .i64 c_.States, .slice c__Rights_p c_.Rights.length c__Rights_c], .int .i64 flow]) (caps := []) hf rfl rfl rfl en_75 rfl rfl rfl rfl (share_serve_ok c_ flow h_c__Rights hc hr_1) ?_
      rintro _ w ⟨p_1, c_1, rfl, hc⟩
      refine ⟨_, rfl, fun a hf => ?_⟩
      refine stP hf rfl rfl rfl (pA rfl) fun a hf => ?_
      refine stP hf rfl rfl rfl (pA rfl) fun a hf => ?_
      refine cNil ?_
      refine h8 _ _ ?_
      refine wp_ret ?_
      obtain rfl := Option.some.inj hF
      replace hc := hc.drop k1
      exact fnOut2 (by simp) rfl Try.results18 hf hc (show look _ 4 = _ from rfl) (show look _ 5 = _ from rfl) ⟨p_1, c_1, rfl, hc⟩

def law09_span (N : Nat) (lo : Int) (hi_ : Int) : Option (api_Span) :=
  some (⟨lo, hi_⟩ : api_Span)
theorem law09_span_ok {N : Nat} {G : Pers} {Lf : List Ent} {w : World} (lo : Int) (hi_ : Int)   (hc : Ctx G (Lf) w) {res : api_Span} (hF : law09_span N lo hi_ = some res) : Calls Try.prog 60 #[.int .i64 lo, .int .i64 hi_] w (fun e w => e = .returned (.agg #[.int .i64 res.Lo, .int .i64 res.Hi]) ∧ Ctx G (Lf) w) := by
  unfold law09_span at hF
  refine fnIn (args := [.int .i64 lo, .int .i64 hi_]) Try.func60 rfl Try.ntmps60 rfl fun a hf => ?_
  refine wp_seq_k fun K1 h1 => ?_
  refine cReg ?_
  refine stAl (cs := [.int .i64 0, .int .i64 0]) hf hc rfl rfl zr_26 rfl fun b_1 a w hf hc => ?_
  refine cNil ?_
  refine h1 _ _ ?_
  refine wp_seq_k fun K2 h2 => ?_
  refine cReg ?_
  refine stP hf rfl rfl rfl (pM rfl) fun a hf => ?_
  refine stP hf rfl rfl rfl (pM rfl) fun a hf => ?_
  refine stP hf rfl rfl rfl (pBuildS (cells := [.int .i64 lo, .int .i64 hi_]) bt_26 rfl rfl) fun a hf => ?_
  refine stSt (vs := [.int .i64 lo, .int .i64 hi_]) hf hc rfl rfl rfl rfl sz_26 rfl rfl u0 fun w hc => ?_
  refine cNil ?_
  refine h2 _ _ ?_
  refine wp_ret ?_
  obtain rfl := Option.some.inj hF
  exact fnOut1 (by simp) rfl Try.results60 hf hc (rv_cellN (vs := [.int .i64 lo, .int .i64 hi_]) ag_26 rfl rfl (cells_box (n := 2) m0 rfl)) ⟨rfl, (hc.drop k0)⟩

def share_waters (s_ : api_Span) : Bool :=
  ((share_in s_.Lo 0 s_.Hi) && (share_water s_.Hi))
theorem share_waters_ok {G : Pers} {Lf : List Ent} {w : World} (s_ : api_Span)   (hc : Ctx G (Lf) w) {res : Bool} (hF : share_waters s_ = res) : Calls Try.prog 77 #[.agg #[.int .i64 s_.Lo, .int .i64 s_.Hi]] w (fun e w => e = .returned (.bool res) ∧ Ctx G (Lf) w) := by
  unfold share_waters at hF
  refine fnIn (args := [.agg #[.int .i64 s_.Lo, .int .i64 s_.Hi]]) Try.func77 rfl Try.ntmps77 rfl fun a hf => ?_
  refine wp_seq_k fun K1 h1 => ?_
  refine cReg ?_
  refine stBx (cs := [.int .i64 s_.Lo, .int .i64 s_.Hi]) hf hc rfl rfl rfl rfl fun b_1 a w hf hc => ?_
  refine stP hf rfl rfl rfl (pA rfl) fun a hf => ?_
  refine cNil ?_
  refine h1 _ _ ?_
  refine wp_seq_k fun K2 h2 => ?_
  refine cReg ?_
  refine stP hf rfl rfl rfl (pFA fa_26_0 rfl) fun a hf => ?_
  refine stE hf hc rfl rfl rfl (eLd1 sc_3 rfl (cell_box m0 rfl)) fun a w hf hc => ?_
  refine stP hf rfl rfl rfl (pFA fa_26_1 rfl) fun a hf => ?_
  refine stE hf hc rfl rfl rfl (eLd1 sc_3 rfl (cell_box m0 rfl)) fun a w hf hc => ?_
  refine stE hf hc rfl rfl rfl (eC (v := .bool (share_in s_.Lo 0 s_.Hi)) (vs := [.int .i64 s_.Lo, .int .i64 0, .int .i64 s_.Hi]) (caps := []) en_70 rfl rfl rfl rfl (fun w hc => share_in_ok s_.Lo 0 s_.Hi hc rfl)) fun a w hf hc => ?_
  refine stP hf rfl rfl rfl (pM rfl) fun a hf => ?_
  refine stCut 4 (fun a w => Has 13 a [(1, .pointer (some ⟨b_1, 0, none⟩)), (2, .bool false), (3, .pointer (some ⟨b_1, 0, none⟩)), (4, .int .i64 s_.Lo), (5, .pointer (some ⟨b_1, 1, none⟩)), (6, .int .i64 s_.Hi), (7, .bool (share_in s_.Lo 0 s_.Hi)), (8, .bool (share_in s_.Lo 0 s_.Hi)), (12, .bool ((share_in s_.Lo 0 s_.Hi) && (share_water s_.Hi)))] ∧ Ctx G (.box b_1 [.int .i64 s_.Lo, .int .i64 s_.Hi] 26 :: Lf) w) ?_ ?_
  · cases hb : (share_in s_.Lo 0 s_.Hi)
    · rw [hb] at hf
      refine stS hf rfl rfl rfl fun a hf => ?_
      refine stS hf rfl rfl rfl fun a hf => ?_
      refine stS hf rfl rfl rfl fun a hf => ?_
      refine stP hf rfl rfl rfl (pPf rfl rfl) fun a hf => ?_
      exact cNil ⟨hf.keep ⟨rfl, rfl, rfl, rfl, rfl, rfl, rfl, rfl, rfl, trivial⟩, hc⟩
    · rw [hb] at hf
      refine stP hf rfl rfl rfl (pFA fa_26_1 rfl) fun a hf => ?_
      refine stE hf hc rfl rfl rfl (eLd1 sc_3 rfl (cell_box m0 rfl)) fun a w hf hc => ?_
      refine stE hf hc rfl rfl rfl (eC (v := .bool (share_water s_.Hi)) (vs := [.int .i64 s_.Hi]) (caps := []) en_73 rfl rfl rfl rfl (fun w hc => share_water_ok s_.Hi hc rfl)) fun a w hf hc => ?_
      refine stP hf rfl rfl rfl (pPt rfl rfl) fun a hf => ?_
      exact cNil ⟨hf.keep ⟨rfl, rfl, rfl, rfl, rfl, rfl, rfl, rfl, rfl, trivial⟩, hc⟩
  intro a w ⟨hf, hc⟩
  refine stP hf rfl rfl rfl (pA rfl) fun a hf => ?_
  refine cNil ?_
  refine h2 _ _ ?_
  refine wp_ret ?_
  obtain rfl := hF
  replace hc := hc.drop k0
  exact fnOut1 (by simp) rfl Try.results77 hf hc (show look _ 2 = _ from rfl) ⟨rfl, hc⟩

def share_Shares_b12 (N : Nat) (r_1 : (List Int)) (low : List Int) (high : List Int) (out : List api_Span) (x : Int) : Option (Step ((List Int) × (List Int) × (List api_Span) × Int) ((List api_Span) × Int)) :=
  cond (decide (x < ((r_1.length : Nat) : Int)))
  (Option.bind (getI low x) fun e_1 =>
  Option.bind (getI high x) fun e_2 =>
  Option.bind (room ((out ++ [(⟨e_1, e_2⟩ : api_Span)])).length) fun un =>
  some (.cont (low, high, (out ++ [(⟨e_1, e_2⟩ : api_Span)]), W (x + 1))))
  (some (.brk (low, high, out, x)))
def share_Shares (N : Nat) (c_ : share_Compact) (flow : api_Span) : Option ((List api_Span) × Int) :=
  Option.bind (share_Check N c_) fun r =>
  cond (r != 0)
  (some (([] : List api_Span), r))
  (cond (!(share_waters flow))
  (some (([] : List api_Span), 4))
  (Option.bind (share_serve N c_ flow.Lo) fun r_1 =>
  Option.bind (share_serve N c_ flow.Hi) fun r_2 =>
  Option.bind (loopO (fun s12 => share_Shares_b12 N r_1 s12.1 s12.2.1 s12.2.2.1 s12.2.2.2) N (r_1, r_2, ([] : List api_Span), 0)) fun x12 =>
  exK x12 (fun s12 => some (s12.2.2.1, 0)) some))
theorem share_Shares_ok {N : Nat} {G : Pers} {Lf : List Ent} {w : World} (c_ : share_Compact) (flow : api_Span) {c__Rights_p : Option Addr} {c__Rights_c : Nat} (h_c__Rights : Rd G 3 c__Rights_p c__Rights_c (c_.Rights.map enc_share_Right)) (hc : Ctx G (Lf) w) {res : (List api_Span) × Int} (hF : share_Shares N c_ flow = some res) : Calls Try.prog 21 #[.agg #[.int .i64 c_.States, .slice c__Rights_p c_.Rights.length c__Rights_c], .agg #[.int .i64 flow.Lo, .int .i64 flow.Hi]] w (fun e w => ∃ (p'1 : Option Addr) (c'1 : Nat), e = .returned (.tuple #[.slice p'1 res.1.length c'1, .int .i64 res.2]) ∧ Ctx G (.row p'1 c'1 (res.1.map enc_api_Span) 26 2 :: Lf) w) := by
  unfold share_Shares at hF
  refine fnIn (args := [.agg #[.int .i64 c_.States, .slice c__Rights_p c_.Rights.length c__Rights_c], .agg #[.int .i64 flow.Lo, .int .i64 flow.Hi]]) Try.func21 rfl Try.ntmps21 rfl fun a hf => ?_
  refine wp_seq_k fun K1 h1 => ?_
  refine cReg ?_
  refine stBx (cs := [.int .i64 c_.States, .slice c__Rights_p c_.Rights.length c__Rights_c]) hf hc rfl rfl rfl rfl fun b_1 a w hf hc => ?_
  refine stBx (cs := [.int .i64 flow.Lo, .int .i64 flow.Hi]) hf hc rfl rfl rfl rfl fun b_2 a w hf hc => ?_
  refine stP hf rfl rfl rfl (pA rfl) fun a hf => ?_
  refine stP hf rfl rfl rfl (pA rfl) fun a hf => ?_
  refine cNil ?_
  refine h1 _ _ ?_
  refine wp_seq_k fun K2 h2 => ?_
  refine cReg ?_
  refine stE hf hc rfl rfl rfl (eLdN (vs := [.int .i64 c_.States, .slice c__Rights_p c_.Rights.length c__Rights_c]) ag_24 rfl rfl (cells_box (n := 2) m1 rfl)) fun a w hf hc => ?_
  obtain ⟨r, hr, hF⟩ := bnd_some hF
  refine stE hf hc rfl rfl rfl (eC (v := .int .i64 r) (vs := [.agg #[.int .i64 c_.States, .slice c__Rights_p c_.Rights.length c__Rights_c]]) (caps := []) en_15 rfl rfl rfl rfl (fun w hc => share_Check_ok c_ h_c__Rights hc hr)) fun a w hf hc => ?_
  refine stP hf rfl rfl rfl (pA rfl) fun a hf => ?_
  refine cNil ?_
  refine h2 _ _ ?_
  refine wp_seq_k fun K3 h3 => ?_
  refine wp_block ?_
  refine wp_seq_k fun K4 h4 => ?_
  refine cReg ?_
  refine stP hf rfl rfl rfl (pM rfl) fun a hf => ?_
  refine stP hf rfl rfl rfl (pNe rfl rfl) fun a hf => ?_
  refine stP hf rfl rfl rfl (pA rfl) fun a hf => ?_
  refine cNil ?_
  refine h4 _ _ ?_
  refine cCond (b := (r != 0)) hf rfl (fun hb => ?_) (fun hb => ?_)
  · replace hF := condT hb hF
    clear hb
    refine wp_seq_k fun K5 h5 => ?_
    refine cReg ?_
    refine stP hf rfl rfl rfl (pM rfl) fun a hf => ?_
    refine stP hf rfl rfl rfl (pA rfl) fun a hf => ?_
    refine stP hf rfl rfl rfl (pA rfl) fun a hf => ?_
    refine cNil ?_
    refine h5 _ _ ?_
    refine wp_ret ?_
    refine xBlkR ?_
    refine xThenR ?_
    obtain rfl := Option.some.inj hF
    replace hc := hc.nilRow 26 2
    replace hc := hc.drop k2
    replace hc := hc.drop k1
    exact fnOut2 (by simp) rfl Try.results21 hf hc (show look _ 4 = _ from rfl) (show look _ 5 = _ from rfl) ⟨none, 0, rfl, hc⟩
  · replace hF := condF hb hF
    clear hb
    refine wp_seq_k fun K6 h6 => ?_
    refine cReg ?_
    refine stE hf hc rfl rfl rfl (eLdN (vs := [.int .i64 flow.Lo, .int .i64 flow.Hi]) ag_26 rfl rfl (cells_box (n := 2) m0 rfl)) fun a w hf hc => ?_
    refine stE hf hc rfl rfl rfl (eC (v := .bool (share_waters flow)) (vs := [.agg #[.int .i64 flow.Lo, .int .i64 flow.Hi]]) (caps := []) en_77 rfl rfl rfl rfl (fun w hc => share_waters_ok flow hc rfl)) fun a w hf hc => ?_
    refine stP hf rfl rfl rfl (pNot rfl) fun a hf => ?_
    refine stP hf rfl rfl rfl (pA rfl) fun a hf => ?_
    refine cNil ?_
    refine h6 _ _ ?_
    refine cCond (b := (!(share_waters flow))) hf rfl (fun hb => ?_) (fun hb => ?_)
    · replace hF := condT hb hF
      clear hb
      refine wp_seq_k fun K7 h7 => ?_
      refine cReg ?_
      refine stP hf rfl rfl rfl (pA rfl) fun a hf => ?_
      refine stP hf rfl rfl rfl (pA rfl) fun a hf => ?_
      refine cNil ?_
      refine h7 _ _ ?_
      refine wp_ret ?_
      refine xBlkR ?_
      refine xThenR ?_
      obtain rfl := Option.some.inj hF
      replace hc := hc.nilRow 26 2
      replace hc := hc.drop k2
      replace hc := hc.drop k1
      exact fnOut2 (by simp) rfl Try.results21 hf hc (show look _ 4 = _ from rfl) (show look _ 5 = _ from rfl) ⟨none, 0, rfl, hc⟩
    · replace hF := condF hb hF
      clear hb
      refine wp_skip ?_
      refine h3 _ _ ?_
      refine wp_seq_k fun K8 h8 => ?_
      obtain ⟨r_1, hr_1, hF⟩ := bnd_some hF
      obtain ⟨r_2, hr_2, hF⟩ := bnd_some hF
      replace hc := hc.nilRow 0 0
      replace hc := hc.nilRow 0 0
      refine regionE (fun θ => [⟨none, none, 2, .pointer (some ⟨b_1, 0, none⟩)⟩, ⟨none, none, 3, .pointer (some ⟨b_2, 0, none⟩)⟩, ⟨some 0, none, 21, .agg #[.int .i64 c_.States, .slice c__Rights_p c_.Rights.length c__Rights_c]⟩, ⟨some 1, none, 22, .pointer (some ⟨b_2, 0, none⟩)⟩, ⟨some 2, none, 23, .int .i64 flow.Lo⟩, ⟨some 3, none, 24, .slice ((θ 24).p) r_1.length ((θ 24).c)⟩, ⟨some 4, none, 25, .agg #[.int .i64 c_.States, .slice c__Rights_p c_.Rights.length c__Rights_c]⟩, ⟨some 5, none, 26, .pointer (some ⟨b_2, 1, none⟩)⟩, ⟨some 6, none, 27, .int .i64 flow.Hi⟩, ⟨some 7, none, 28, .slice ((θ 56).p) r_2.length ((θ 56).c)⟩, ⟨some 8, none, 7, .slice ((θ 24).p) r_1.length ((θ 24).c)⟩, ⟨some 9, none, 8, .slice ((θ 56).p) r_2.length ((θ 56).c)⟩]) (fun E θ => (bif E 7 then .row ((θ 56).p) ((θ 56).c) (r_2.map encI_i64) 3 1 else .row none 0 [] 0 0) :: (bif E 3 then .row ((θ 24).p) ((θ 24).c) (r_1.map encI_i64) 3 1 else .row none 0 [] 0 0) :: .box b_2 [.int .i64 flow.Lo, .int .i64 flow.Hi] 26 :: .box b_1 [.int .i64 c_.States, .slice c__Rights_p c_.Rights.length c__Rights_c] 24 :: Lf) [(8, 3), (9, 7)] (fun a w => ∃ (p_3 : Option Addr) (c_3 : Nat) (p_4 : Option Addr) (c_4 : Nat), Has 48 a [(7, .slice p_3 r_1.length c_3), (8, .slice p_4 r_2.length c_4)] ∧ Ctx G (.row p_4 c_4 (r_2.map encI_i64) 3 1 :: .row p_3 c_3 (r_1.map encI_i64) 3 1 :: .box b_2 [.int .i64 flow.Lo, .int .i64 flow.Hi] 26 :: .box b_1 [.int .i64 c_.States, .slice c__Rights_p c_.Rights.length c__Rights_c] 24 :: Lf) w) follows_mx (by kernel_rfl) (by kernel_rfl) (HasE.of hf ⟨rfl, rfl, trivial, trivial, trivial, trivial, trivial, trivial, trivial, trivial, trivial, trivial, trivial⟩) hc ⟨?_, ?_, ?_, ?_, ?_, ?_, ?_, ?_, ?_, ?_, trivial⟩ ?_ ?_
      · intro E θ a w hD hi hp he hc
        have hf := he.h0
        replace hf := hf.more he 0 rfl onT
        refine stE hf hc rfl rfl rfl (eLdN (vs := [.int .i64 c_.States, .slice c__Rights_p c_.Rights.length c__Rights_c]) ag_24 rfl rfl (cells_box (n := 2) m3 rfl)) fun a w hf hc => ?_
        refine cNil ?_
        refine xThenN ?_
        intro ds u hau
        refine ⟨θ, he.put0 hi hau hf rfl 2 rfl rfl, ?_⟩
        exact hc
      · intro E θ a w hD hi hp he hc
        have hf := he.h0
        replace hf := hf.more he 1 rfl onT
        refine stP hf rfl rfl rfl (pFA fa_26_0 rfl) fun a hf => ?_
        refine cNil ?_
        refine xThenN ?_
        intro ds u hau
        refine ⟨θ, he.put0 hi hau hf rfl 3 rfl rfl, ?_⟩
        exact hc
      · intro E θ a w hD hi hp he hc
        have e1 := hp.of (k := 1) rfl
        have hf := he.h0
        replace hf := hf.more he 3 rfl (onP e1)
        refine stE hf hc rfl rfl rfl (eLd1 sc_3 rfl (cell_box m2 rfl)) fun a w hf hc => ?_
        refine cNil ?_
        refine xThenN ?_
        intro ds u hau
        refine ⟨θ, he.put0 hi hau hf rfl 4 rfl rfl, ?_⟩
        exact hc
      · intro E θ a w hD hi hp he hc
        have e0 := hp.of (k := 0) rfl
        have e2 := hp.of (k := 2) rfl
        have e8 := hD.f 0 rfl hi
        try dsimp only at hc
        rw [hi] at hc
        have hf := he.h0
        replace hf := hf.more he 2 rfl (onP e0)
        replace hf := hf.more he 4 rfl (onP e2)
        refine stC (vs := [.agg #[.int .i64 c_.States, .slice c__Rights_p c_.Rights.length c__Rights_c], .int .i64 flow.Lo]) (caps := []) hf rfl rfl rfl en_75 rfl rfl rfl rfl (share_serve_ok c_ flow.Lo h_c__Rights hc hr_1) ?_
        rintro _ w ⟨p_1, c_1, rfl, hc⟩
        refine ⟨_, rfl, fun a hf => ?_⟩
        refine cNil ?_
        refine xThenN ?_
        intro ds u hau
        replace hc := hc.drop k2
        replace hc := hc.pick k0
        replace hc := hc.pick k1
        refine ⟨(setT θ 24 ⟨0, p_1, c_1⟩), he.put hi hau hf rfl [8] ⟨⟨e8, rfl⟩, trivial⟩ ⟨qq, qq, qq, qq, qq, qq, qq, qq, qq, qq, trivial, qq, trivial⟩, ?_⟩
        try dsimp only
        rw [updE_self E 3]
        exact hc
      · intro E θ a w hD hi hp he hc
        have hf := he.h0
        replace hf := hf.more he 0 rfl onT
        refine stE hf hc rfl rfl rfl (eLdN (vs := [.int .i64 c_.States, .slice c__Rights_p c_.Rights.length c__Rights_c]) ag_24 rfl rfl (cells_box (n := 2) m3 rfl)) fun a w hf hc => ?_
        refine cNil ?_
        refine xThenN ?_
        intro ds u hau
        refine ⟨θ, he.put0 hi hau hf rfl 6 rfl rfl, ?_⟩
        exact hc
      · intro E θ a w hD hi hp he hc
        have hf := he.h0
        replace hf := hf.more he 1 rfl onT
        refine stP hf rfl rfl rfl (pFA fa_26_1 rfl) fun a hf => ?_
        refine cNil ?_
        refine xThenN ?_
        intro ds u hau
        refine ⟨θ, he.put0 hi hau hf rfl 7 rfl rfl, ?_⟩
        exact hc
      · intro E θ a w hD hi hp he hc
        have e5 := hp.of (k := 5) rfl
        have hf := he.h0
        replace hf := hf.more he 7 rfl (onP e5)
        refine stE hf hc rfl rfl rfl (eLd1 sc_3 rfl (cell_box m2 rfl)) fun a w hf hc => ?_
        refine cNil ?_
        refine xThenN ?_
        intro ds u hau
        refine ⟨θ, he.put0 hi hau hf rfl 8 rfl rfl, ?_⟩
        exact hc
      · intro E θ a w hD hi hp he hc
        have e4 := hp.of (k := 4) rfl
        have e6 := hp.of (k := 6) rfl
        have e9 := hD.f 1 rfl hi
        try dsimp only at hc
        rw [hi] at hc
        have hf := he.h0
        replace hf := hf.more he 6 rfl (onP e4)
        replace hf := hf.more he 8 rfl (onP e6)
        refine stC (vs := [.agg #[.int .i64 c_.States, .slice c__Rights_p c_.Rights.length c__Rights_c], .int .i64 flow.Hi]) (caps := []) hf rfl rfl rfl en_75 rfl rfl rfl rfl (share_serve_ok c_ flow.Hi h_c__Rights hc hr_2) ?_
        rintro _ w ⟨p_2, c_2, rfl, hc⟩
        refine ⟨_, rfl, fun a hf => ?_⟩
        refine cNil ?_
        refine xThenN ?_
        intro ds u hau
        replace hc := hc.drop k1
        refine ⟨(setT θ 56 ⟨0, p_2, c_2⟩), he.put hi hau hf rfl [9] ⟨⟨e9, rfl⟩, trivial⟩ ⟨qq, qq, qq, qq, qq, qq, qq, qq, qq, qq, qq, trivial, trivial⟩, ?_⟩
        try dsimp only
        rw [updE_self E 7]
        exact hc
      · intro E θ a w hD hi hp he hc
        have e3 := hp.of (k := 3) rfl
        have hf := he.h0
        replace hf := hf.more he 5 rfl (onP e3)
        refine stP hf rfl rfl rfl (pA rfl) fun a hf => ?_
        refine cNil ?_
        refine xThenN ?_
        intro ds u hau
        refine ⟨θ, he.put0 hi hau hf rfl 10 rfl rfl, ?_⟩
        exact hc
      · intro E θ a w hD hi hp he hc
        have e7 := hp.of (k := 7) rfl
        have hf := he.h0
        replace hf := hf.more he 9 rfl (onP e7)
        refine stP hf rfl rfl rfl (pA rfl) fun a hf => ?_
        refine cNil ?_
        refine xThenN ?_
        intro ds u hau
        refine ⟨θ, he.put0 hi hau hf rfl 11 rfl rfl, ?_⟩
        exact hc
      · intro E θ a w hall he hc
        have hf := he.h0
        have e3 := hall 3 rfl
        have e7 := hall 7 rfl
        have e8 := hall 8 rfl
        have e9 := hall 9 rfl
        replace hf := hf.more he 11 rfl (onP e9)
        replace hf := hf.more he 10 rfl (onP e8)
        try dsimp only at hc
        rw [e3, e7] at hc
        exact ⟨(θ 24).p, (θ 24).c, (θ 56).p, (θ 56).c, hf.keep ⟨rfl, rfl, trivial⟩, hc⟩
      rintro a w ⟨p_3, c_3, p_4, c_4, hf, hc⟩
      refine h8 _ _ ?_
      refine wp_seq_k fun K9 h9 => ?_
      refine cReg ?_
      refine stP hf rfl rfl rfl (pA rfl) fun a hf => ?_
      refine cNil ?_
      refine h9 _ _ ?_
      refine wp_seq_k fun K10 h10 => ?_
      refine wp_seq_k fun K11 h11 => ?_
      refine cReg ?_
      refine stP hf rfl rfl rfl (pM rfl) fun a hf => ?_
      refine stP hf rfl rfl rfl (pLenS Try.underlying36 rfl) fun a hf => ?_
      refine stP hf rfl rfl rfl (pM rfl) fun a hf => ?_
      refine cNil ?_
      refine h11 _ _ ?_
      refine wp_block ?_
      obtain ⟨x12, hx12, hF⟩ := bnd_some hF
      let S12 : ((List Int) × (List Int) × (List api_Span) × Int) → Act → World → Prop := (fun (zz : (List Int) × (List Int) × (List api_Span) × Int) a w => ∃ (p_5 : Option Addr) (c_5 : Nat) (p_6 : Option Addr) (c_6 : Nat) (p_7 : Option Addr) (c_7 : Nat), Has 48 a [(7, .slice p_5 zz.1.length c_5), (8, .slice p_6 zz.2.1.length c_6), (9, .slice p_7 zz.2.2.1.length c_7), (30, .int .i64 ((r_1.length : Nat) : Int)), (31, .int .i64 zz.2.2.2)] ∧ Ctx G (.row p_7 c_7 (zz.2.2.1.map enc_api_Span) 26 2 :: .row p_6 c_6 (zz.2.1.map encI_i64) 3 1 :: .row p_5 c_5 (zz.1.map encI_i64) 3 1 :: Lf) w)
      have hr12 : ∀ (zz : (List Int) × (List Int) × (List api_Span) × Int) a w, x12 = .go zz → S12 zz a w → K10 a w := by
        rintro ⟨low, high, out, x⟩ a w rfl ⟨p_5, c_5, p_6, c_6, p_7, c_7, hf, hc⟩
        replace hF : _ = some res := hF
        refine h10 _ _ ?_
        refine wp_seq_k fun K13 h13 => ?_
        refine cReg ?_
        refine stP hf rfl rfl rfl (pM rfl) fun a hf => ?_
        refine stP hf rfl rfl rfl (pA rfl) fun a hf => ?_
        refine stP hf rfl rfl rfl (pA rfl) fun a hf => ?_
        refine cNil ?_
        refine h13 _ _ ?_
        refine wp_ret ?_
        obtain rfl := Option.some.inj hF
        replace hc := hc.drop k2
        replace hc := hc.drop k1
        exact fnOut2 (by simp) rfl Try.results21 hf hc (show look _ 4 = _ from rfl) (show look _ 5 = _ from rfl) ⟨p_7, c_7, rfl, hc⟩
      have ho12 : ∀ r, x12 = .out r → r = res := by
        rintro r rfl
        exact Option.some.inj hF
      replace hc := hc.nilRow 26 2
      replace hc := hc.drop k4
      replace hc := hc.drop k3
      refine cLoop N (loopW (S := S12) (x := x12) ?_ N (r_1, r_2, ([] : List api_Span), 0) _ _ ⟨p_3, c_3, p_4, c_4, none, 0, hf.keep ⟨rfl, rfl, rfl, rfl, rfl, trivial⟩, hc⟩ hx12)
      clear hF hf hc
      rintro ⟨low, high, out, x⟩ st12 a w KB12 ⟨p_5, c_5, p_6, c_6, p_7, c_7, hf, hc⟩ hF hfin12 hK12
      unfold share_Shares_b12 at hF
      refine wp_seq_k fun K14 h14 => ?_
      refine cReg ?_
      refine stP hf rfl rfl rfl (pLt rfl rfl) fun a hf => ?_
      refine cNil ?_
      refine h14 _ _ ?_
      refine wp_seq_k fun K15 h15 => ?_
      refine cCond (b := (decide (x < ((r_1.length : Nat) : Int)))) hf rfl (fun hb => ?_) (fun hb => ?_)
      · replace hF := condT hb hF
        clear hb
        refine wp_skip ?_
        refine h15 _ _ ?_
        refine wp_seq_k fun K16 h16 => ?_
        refine wp_block ?_
        refine wp_seq_k fun K17 h17 => ?_
        refine cReg ?_
        refine stP hf rfl rfl rfl (pM rfl) fun a hf => ?_
        refine stP hf rfl rfl rfl (pA rfl) fun a hf => ?_
        refine cNil ?_
        refine h17 _ _ ?_
        obtain ⟨e_1, he_1, hF⟩ := bnd_some hF
        obtain ⟨g, rfl, qa, qr⟩ := row_atm hc m2 he_1
        obtain ⟨e_2, he_2, hF⟩ := bnd_some hF
        obtain ⟨g_1, rfl, qa_1, qr_1⟩ := row_atm hc m1 he_2
        obtain ⟨un, hun, hF⟩ := bnd_some hF
        replace hc := hc.nilRow 0 0
        refine regionE (fun θ => [⟨none, none, 7, .slice (some ⟨g, 0, none⟩) low.length c_5⟩, ⟨none, none, 8, .slice (some ⟨g_1, 0, none⟩) high.length c_6⟩, ⟨none, some 12, 9, .slice p_7 out.length c_7⟩, ⟨none, none, 10, .int .i64 x⟩, ⟨none, none, 30, .int .i64 ((r_1.length : Nat) : Int)⟩, ⟨none, none, 31, .int .i64 x⟩, ⟨some 0, none, 34, .slice p_7 out.length c_7⟩, ⟨some 1, none, 35, .slice (some ⟨g, 0, none⟩) low.length c_5⟩, ⟨some 2, none, 36, .int .i64 x⟩, ⟨some 3, none, 37, .pointer (some ⟨g, x.toNat * 1, none⟩)⟩, ⟨some 4, none, 38, .int .i64 e_1⟩, ⟨some 5, none, 39, .slice (some ⟨g_1, 0, none⟩) high.length c_6⟩, ⟨some 6, none, 40, .int .i64 x⟩, ⟨some 7, none, 41, .pointer (some ⟨g_1, x.toNat * 1, none⟩)⟩, ⟨some 8, none, 42, .int .i64 e_2⟩, ⟨some 9, none, 43, .agg #[.int .i64 e_1, .int .i64 e_2]⟩, ⟨some 10, none, 44, .slice (some ⟨(θ 80).b, 0, none⟩) 1 1⟩, ⟨some 11, none, 45, .slice ((θ 88).p) ((out ++ [(⟨e_1, e_2⟩ : api_Span)]).length) ((θ 88).c)⟩, ⟨some 12, none, 9, .slice ((θ 88).p) ((out ++ [(⟨e_1, e_2⟩ : api_Span)]).length) ((θ 88).c)⟩]) (fun E θ => (bif E 10 then .row (some ⟨(θ 80).b, 0, none⟩) 1 (([(⟨e_1, e_2⟩ : api_Span)] : List api_Span).map enc_api_Span) 26 2 else .row none 0 [] 0 0) :: (bif E 11 then .row ((θ 88).p) ((θ 88).c) ((out ++ [(⟨e_1, e_2⟩ : api_Span)]).map enc_api_Span) 26 2 else .row p_7 c_7 (out.map enc_api_Span) 26 2) :: .row (some ⟨g_1, 0, none⟩) c_6 (high.map encI_i64) 3 1 :: .row (some ⟨g, 0, none⟩) c_5 (low.map encI_i64) 3 1 :: Lf) [(12, 0), (12, 11)] (fun a w => ∃ (p_9 : Option Addr) (c_9 : Nat) (b_4 : Nat), Has 48 a [(7, .slice (some ⟨g, 0, none⟩) low.length c_5), (8, .slice (some ⟨g_1, 0, none⟩) high.length c_6), (30, .int .i64 ((r_1.length : Nat) : Int)), (31, .int .i64 x), (9, .slice p_9 ((out ++ [(⟨e_1, e_2⟩ : api_Span)]).length) c_9)] ∧ Ctx G (.row (some ⟨b_4, 0, none⟩) 1 (([(⟨e_1, e_2⟩ : api_Span)] : List api_Span).map enc_api_Span) 26 2 :: .row p_9 c_9 ((out ++ [(⟨e_1, e_2⟩ : api_Span)]).map enc_api_Span) 26 2 :: .row (some ⟨g_1, 0, none⟩) c_6 (high.map encI_i64) 3 1 :: .row (some ⟨g, 0, none⟩) c_5 (low.map encI_i64) 3 1 :: Lf) w) follows_mx (by kernel_rfl) (by kernel_rfl) (HasE.of hf ⟨rfl, rfl, rfl, rfl, rfl, rfl, trivial, trivial, trivial, trivial, trivial, trivial, trivial, trivial, trivial, trivial, trivial, trivial, trivial, trivial⟩) hc ⟨?_, ?_, ?_, ?_, ?_, ?_, ?_, ?_, ?_, ?_, ?_, ?_, ?_, trivial⟩ ?_ ?_
        · intro E θ a w hD hi hp he hc
          have e12 := hD.f 0 rfl hi
          have hf := he.h0
          replace hf := hf.more he 2 rfl (onN e12)
          refine stP hf rfl rfl rfl (pM rfl) fun a hf => ?_
          refine cNil ?_
          refine xThenN ?_
          intro ds u hau
          refine ⟨θ, he.put0 hi hau hf rfl 6 rfl rfl, ?_⟩
          exact hc
        · intro E θ a w hD hi hp he hc
          have hf := he.h0
          replace hf := hf.more he 0 rfl onT
          refine stP hf rfl rfl rfl (pM rfl) fun a hf => ?_
          refine cNil ?_
          refine xThenN ?_
          intro ds u hau
          refine ⟨θ, he.put0 hi hau hf rfl 7 rfl rfl, ?_⟩
          exact hc
        · intro E θ a w hD hi hp he hc
          have hf := he.h0
          replace hf := hf.more he 3 rfl onT
          refine stP hf rfl rfl rfl (pM rfl) fun a hf => ?_
          refine cNil ?_
          refine xThenN ?_
          intro ds u hau
          refine ⟨θ, he.put0 hi hau hf rfl 8 rfl rfl, ?_⟩
          exact hc
        · intro E θ a w hD hi hp he hc
          have e1 := hp.of (k := 1) rfl
          have e2 := hp.of (k := 2) rfl
          have hf := he.h0
          replace hf := hf.more he 7 rfl (onP e1)
          replace hf := hf.more he 8 rfl (onP e2)
          refine stP hf rfl rfl rfl (pIA Try.underlying36 sz_3 rfl rfl qa) fun a hf => ?_
          refine cNil ?_
          refine xThenN ?_
          intro ds u hau
          refine ⟨θ, he.put0 hi hau hf rfl 9 rfl rfl, ?_⟩
          exact hc
        · intro E θ a w hD hi hp he hc
          have e3 := hp.of (k := 3) rfl
          have hf := he.h0
          replace hf := hf.more he 9 rfl (onP e3)
          refine stE hf hc rfl rfl rfl (eLd1 sc_3 rfl (cell_row (sz := 1) (i := x.toNat) (j := 0) m3 qr rfl)) fun a w hf hc => ?_
          refine cNil ?_
          refine xThenN ?_
          intro ds u hau
          refine ⟨θ, he.put0 hi hau hf rfl 10 rfl rfl, ?_⟩
          exact hc
        · intro E θ a w hD hi hp he hc
          have hf := he.h0
          replace hf := hf.more he 1 rfl onT
          refine stP hf rfl rfl rfl (pM rfl) fun a hf => ?_
          refine cNil ?_
          refine xThenN ?_
          intro ds u hau
          refine ⟨θ, he.put0 hi hau hf rfl 11 rfl rfl, ?_⟩
          exact hc
        · intro E θ a w hD hi hp he hc
          have hf := he.h0
          replace hf := hf.more he 3 rfl onT
          refine stP hf rfl rfl rfl (pM rfl) fun a hf => ?_
          refine cNil ?_
          refine xThenN ?_
          intro ds u hau
          refine ⟨θ, he.put0 hi hau hf rfl 12 rfl rfl, ?_⟩
          exact hc
        · intro E θ a w hD hi hp he hc
          have e5 := hp.of (k := 5) rfl
          have e6 := hp.of (k := 6) rfl
          have hf := he.h0
          replace hf := hf.more he 11 rfl (onP e5)
          replace hf := hf.more he 12 rfl (onP e6)
          refine stP hf rfl rfl rfl (pIA Try.underlying36 sz_3 rfl rfl qa_1) fun a hf => ?_
          refine cNil ?_
          refine xThenN ?_
          intro ds u hau
          refine ⟨θ, he.put0 hi hau hf rfl 13 rfl rfl, ?_⟩
          exact hc
        · intro E θ a w hD hi hp he hc
          have e7 := hp.of (k := 7) rfl
          have hf := he.h0
          replace hf := hf.more he 13 rfl (onP e7)
          refine stE hf hc rfl rfl rfl (eLd1 sc_3 rfl (cell_row (sz := 1) (i := x.toNat) (j := 0) m2 qr_1 rfl)) fun a w hf hc => ?_
          refine cNil ?_
          refine xThenN ?_
          intro ds u hau
          refine ⟨θ, he.put0 hi hau hf rfl 14 rfl rfl, ?_⟩
          exact hc
        · intro E θ a w hD hi hp he hc
          have e4 := hp.of (k := 4) rfl
          have e8 := hp.of (k := 8) rfl
          have hf := he.h0
          replace hf := hf.more he 10 rfl (onP e4)
          replace hf := hf.more he 14 rfl (onP e8)
          refine stP hf rfl rfl rfl (pBuildS (cells := [.int .i64 e_1, .int .i64 e_2]) bt_26 rfl rfl) fun a hf => ?_
          refine cNil ?_
          refine xThenN ?_
          intro ds u hau
          refine ⟨θ, he.put0 hi hau hf rfl 15 rfl rfl, ?_⟩
          exact hc
        · intro E θ a w hD hi hp he hc
          have e9 := hp.of (k := 9) rfl
          try dsimp only at hc
          rw [hi] at hc
          have hf := he.h0
          replace hf := hf.more he 15 rfl (onP e9)
          refine stBS (rows := ([(⟨e_1, e_2⟩ : api_Span)] : List api_Span).map enc_api_Span) (vs := [(0, .agg #[.int .i64 e_1, .int .i64 e_2])]) hf hc rfl rfl sl_41 rfl ⟨rfl, rfl, rfl, trivial⟩ rfl rfl fun b_3 a w hf hc => ?_
          refine cNil ?_
          refine xThenN ?_
          intro ds u hau
          replace hc := hc.drop k1
          refine ⟨(setT θ 80 ⟨b_3, none, 0⟩), he.put hi hau hf rfl [] trivial ⟨qq, qq, qq, qq, qq, qq, qq, qq, qq, qq, qq, qq, qq, qq, qq, qq, qq, qq, qq, trivial⟩, ?_⟩
          try dsimp only
          rw [updE_self E 10]
          exact hc
        · intro E θ a w hD hi hp he hc
          have e0 := hp.of (k := 0) rfl
          have e10 := hp.of (k := 10) rfl
          have e12 := hD.f 1 rfl hi
          try dsimp only at hc
          rw [e10, hi] at hc
          have hf := he.h0
          replace hf := hf.more he 6 rfl (onP e0)
          replace hf := hf.more he 16 rfl (onP e10)
          refine stApm (xs := out) (ys := ([(⟨e_1, e_2⟩ : api_Span)] : List api_Span)) hf hc rfl rfl sl_41 rfl rfl rfl rfl rfl one_enc_api_Span (src_row hc m0) (fun _ _ => u1) (by simpa using room_spec hun) fun p_8 c_8 a w hf hc => ?_
          refine cNil ?_
          refine xThenN ?_
          intro ds u hau
          refine ⟨(setT θ 88 ⟨0, p_8, c_8⟩), he.put hi hau hf rfl [12] ⟨⟨e12, rfl⟩, trivial⟩ ⟨qq, qq, qq, qq, qq, qq, qq, qq, qq, qq, qq, qq, qq, qq, qq, qq, qq, qq, trivial, trivial⟩, ?_⟩
          try dsimp only
          rw [updE_tru 11 e10, updE_self E 11]
          exact hc
        · intro E θ a w hD hi hp he hc
          have e11 := hp.of (k := 11) rfl
          have hf := he.h0
          replace hf := hf.more he 17 rfl (onP e11)
          refine stP hf rfl rfl rfl (pA rfl) fun a hf => ?_
          refine cNil ?_
          refine xThenN ?_
          intro ds u hau
          refine ⟨θ, he.put0 hi hau hf rfl 18 rfl rfl, ?_⟩
          exact hc
        · intro E θ a w hall he hc
          have hf := he.h0
          have e10 := hall 10 rfl
          have e11 := hall 11 rfl
          have e12 := hall 12 rfl
          replace hf := hf.more he 18 rfl (onP e12)
          replace hf := hf.more he 5 rfl (onT)
          replace hf := hf.more he 4 rfl (onT)
          replace hf := hf.more he 1 rfl (onT)
          replace hf := hf.more he 0 rfl (onT)
          try dsimp only at hc
          rw [e10, e11] at hc
          exact ⟨(θ 88).p, (θ 88).c, (θ 80).b, hf.keep ⟨rfl, rfl, rfl, rfl, rfl, trivial⟩, hc⟩
        rintro a w ⟨p_9, c_9, b_4, hf, hc⟩
        refine h16 _ _ ?_
        refine cReg ?_
        refine stP hf rfl rfl rfl (pAdd rfl rfl) fun a hf => ?_
        refine stP hf rfl rfl rfl (pM rfl) fun a hf => ?_
        refine cNil ?_
        replace hc := hc.drop k0
        exact hK12 (low, high, (out ++ [(⟨e_1, e_2⟩ : api_Span)]), W (x + 1)) _ _ (Option.some.inj hF).symm ⟨(some ⟨g, 0, none⟩), c_5, (some ⟨g_1, 0, none⟩), c_6, p_9, c_9, hf.keep ⟨rfl, rfl, rfl, rfl, rfl, trivial⟩, hc⟩
      · replace hF := condF hb hF
        clear hb
        refine wp_exit ?_
        refine xThen ?_
        refine xThen ?_
        have he := Option.some.inj hF
        rw [← he] at hfin12
        refine cHit ?_
        exact hr12 _ _ _ hfin12 ⟨p_5, c_5, p_6, c_6, p_7, c_7, hf.keep ⟨rfl, rfl, rfl, rfl, rfl, trivial⟩, hc⟩

def share_office_taken_1_s2_b3 (N : Nat) {σ : Type} (x : share_office) (y : σ → (share_Right × Int) → Option (σ × Bool)) (x_0 : Int) (b__0 : Int) (sg : σ) : Option (Step (Int × Int × σ) (σ × Int)) :=
  cond (decide (x_0 < ((x.Compact.Rights.length : Nat) : Int)))
  (Option.bind (getI x.Compact.Rights x_0) fun e_1 =>
  Option.bind (y sg (e_1, min e_1.Amount b__0)) fun ry =>
  cond (!ry.2)
  (some (.ret (ry.1, W (b__0 - (min e_1.Amount b__0)))))
  (some (.cont (W (x_0 + 1), W (b__0 - (min e_1.Amount b__0)), ry.1))))
  (some (.brk (x_0, b__0, sg)))
def share_office_taken_1_s2 (N : Nat) {σ : Type} (x : share_office) (x_1 : Int) (y : σ → (share_Right × Int) → Option (σ × Bool)) (sg0 : σ) : Option (σ × Int) :=
  Option.bind (loopO (fun s3 => share_office_taken_1_s2_b3 N x y s3.1 s3.2.1 s3.2.2) N (0, x_1, sg0)) fun x3 =>
  exK x3 (fun s3 => some (s3.2.2, s3.2.1)) some
theorem share_office_taken_1_s2_ok {N : Nat} {G : Pers} {Lf : List Ent} {w : World} {σ : Type} (x : share_office) (x_1 : Int) {b_ : Nat} {b__1 : Nat} {x_Compact_Rights_p : Option Addr} {x_Compact_Rights_c : Nat} {b__2 : Nat} (h_x_Compact_Rights : Rd G 3 x_Compact_Rights_p x_Compact_Rights_c (x.Compact.Rights.map enc_share_Right)) (J : σ → List Ent → Prop) (y : σ → (share_Right × Int) → Option (σ × Bool)) {l : Nat} (hy : YieldsTo Try.prog G l (fun x : (share_Right × Int) => [.agg #[.int .i64 x.1.State, .int .i64 x.1.Amount, .int .i64 x.1.Loss], .int .i64 x.2]) J y) (sg0 : σ) {Ls0 : List Ent} (hJ0 : J sg0 Ls0) (hc : Ctx G (.box b_ [.pointer (some ⟨b__1, 0, none⟩)] 153 :: .box b__1 (catc [.int .i64 x.Compact.States, .slice x_Compact_Rights_p x.Compact.Rights.length x_Compact_Rights_c] 12 encI_i64 x.got []) 156 :: .box b__2 [.int .i64 x_1] 3 :: (Ls0 ++ Lf)) w) {res : σ × Int} (hF : share_office_taken_1_s2 N x x_1 y sg0 = some res) : Calls Try.prog 118 #[.func (.yield l) #[] #[], .pointer (some ⟨b_, 0, none⟩), .pointer (some ⟨b__2, 0, none⟩)] w (fun e w => (∃ v, e = .returned v) ∧ ∃ L, J res.1 L ∧ Ctx G (.box b_ [.pointer (some ⟨b__1, 0, none⟩)] 153 :: .box b__1 (catc [.int .i64 x.Compact.States, .slice x_Compact_Rights_p x.Compact.Rights.length x_Compact_Rights_c] 12 encI_i64 x.got []) 156 :: .box b__2 [.int .i64 res.2] 3 :: (L ++ Lf)) w) := by
  unfold share_office_taken_1_s2 at hF
  refine fnIn (args := [.func (.yield l) #[] #[], .pointer (some ⟨b_, 0, none⟩), .pointer (some ⟨b__2, 0, none⟩)]) Try.func118 rfl Try.ntmps118 rfl fun a hf => ?_
  refine wp_seq_k fun K1 h1 => ?_
  refine cReg ?_
  refine stE hf hc rfl rfl rfl (eLd1 sc_153 rfl (cell_box m0 rfl)) fun a w hf hc => ?_
  refine stP hf rfl rfl rfl (pNC rfl) fun a hf => ?_
  refine stP hf rfl rfl rfl (pFA fa_156_0 rfl) fun a hf => ?_
  refine stP hf rfl rfl rfl (pFA fa_24_1 rfl) fun a hf => ?_
  refine stE hf hc rfl rfl rfl (eLd1 sc_22 rfl (cell_box m1 rfl)) fun a w hf hc => ?_
  refine stP hf rfl rfl rfl (pLenS Try.underlying22 rfl) fun a hf => ?_
  refine stP hf rfl rfl rfl (pM rfl) fun a hf => ?_
  refine cNil ?_
  refine h1 _ _ ?_
  refine wp_thenK fun K2 h2 => ?_
  refine wp_block ?_
  obtain ⟨x3, hx3, hF⟩ := bnd_some hF
  let S3 : (Int × Int × σ) → Act → World → Prop := (fun (zz : Int × Int × σ) a w => ∃ (Ls : List Ent), J zz.2.2 Ls ∧ Has 30 a [(0, .func (.yield l) #[] #[]), (2, .pointer (some ⟨b__2, 0, none⟩)), (11, .slice x_Compact_Rights_p x.Compact.Rights.length x_Compact_Rights_c), (12, .int .i64 ((x.Compact.Rights.length : Nat) : Int)), (13, .int .i64 zz.1)] ∧ Ctx G (.box b_ [.pointer (some ⟨b__1, 0, none⟩)] 153 :: .box b__1 (catc [.int .i64 x.Compact.States, .slice x_Compact_Rights_p x.Compact.Rights.length x_Compact_Rights_c] 12 encI_i64 x.got []) 156 :: .box b__2 [.int .i64 zz.2.1] 3 :: (Ls ++ Lf)) w)
  have hr3 : ∀ (zz : Int × Int × σ) a w, x3 = .go zz → S3 zz a w → K2 a w := by
    rintro ⟨x_0, b__0, sg⟩ a w rfl ⟨Ls, hJ, hf, hc⟩
    replace hF : _ = some res := hF
    refine h2 _ _ ?_
    obtain rfl := Option.some.inj hF
    exact fnOut0 (by simp) rfl Try.results118 hf ⟨⟨_, rfl⟩, Ls, hJ, hc⟩
  have ho3 : ∀ r, x3 = .out r → r = res := by
    rintro r rfl
    exact Option.some.inj hF
  refine cLoop N (loopW (S := S3) (x := x3) ?_ N (0, x_1, sg0) _ _ ⟨Ls0, hJ0, hf.keep ⟨rfl, rfl, rfl, rfl, rfl, trivial⟩, hc⟩ hx3)
  clear hF hf hc
  rintro ⟨x_0, b__0, sg⟩ st3 a w KB3 ⟨Ls, hJ, hf, hc⟩ hF hfin3 hK3
  unfold share_office_taken_1_s2_b3 at hF
  refine wp_seq_k fun K4 h4 => ?_
  refine cReg ?_
  refine stP hf rfl rfl rfl (pLt rfl rfl) fun a hf => ?_
  refine cNil ?_
  refine h4 _ _ ?_
  refine wp_seq_k fun K5 h5 => ?_
  refine cCond (b := (decide (x_0 < ((x.Compact.Rights.length : Nat) : Int)))) hf rfl (fun hb => ?_) (fun hb => ?_)
  · replace hF := condT hb hF
    clear hb
    refine wp_skip ?_
    refine h5 _ _ ?_
    refine wp_seq_k fun K6 h6 => ?_
    refine wp_block ?_
    refine wp_seq_k fun K7 h7 => ?_
    refine cReg ?_
    obtain ⟨e_1, he_1, hF⟩ := bnd_some hF
    obtain ⟨b_1, o, qa, qp⟩ := h_x_Compact_Rights.atm he_1
    refine stP hf rfl rfl rfl (pIA Try.underlying22 sz_51 rfl rfl qa) fun a hf => ?_
    refine stE hf hc rfl rfl rfl (eLdN (vs := [.int .i64 e_1.State, .int .i64 e_1.Amount, .int .i64 e_1.Loss]) ag_51 rfl rfl (cells_pc qp (n := 3) (o' := 0) rfl)) fun a w hf hc => ?_
    refine stAl (cs := [.int .i64 0, .int .i64 0, .int .i64 0]) hf hc rfl rfl zr_51 rfl fun b_2 a w hf hc => ?_
    refine stSt (vs := [.int .i64 e_1.State, .int .i64 e_1.Amount, .int .i64 e_1.Loss]) hf hc rfl rfl rfl rfl sz_51 rfl rfl u0 fun w hc => ?_
    refine cNil ?_
    refine h7 _ _ ?_
    refine wp_seq_k fun K8 h8 => ?_
    refine cReg ?_
    refine stP hf rfl rfl rfl (pFA fa_51_1 rfl) fun a hf => ?_
    refine stE hf hc rfl rfl rfl (eLd1 sc_3 rfl (cell_box m0 rfl)) fun a w hf hc => ?_
    refine stE hf hc rfl rfl rfl (eLd1 sc_3 rfl (cell_box m3 rfl)) fun a w hf hc => ?_
    refine stP hf rfl rfl rfl (pMin2 rfl rfl) fun a hf => ?_
    refine stP hf rfl rfl rfl (pA rfl) fun a hf => ?_
    refine cNil ?_
    refine h8 _ _ ?_
    refine wp_seq_k fun K9 h9 => ?_
    refine cReg ?_
    refine stE hf hc rfl rfl rfl (eLd1 sc_3 rfl (cell_box m3 rfl)) fun a w hf hc => ?_
    refine stP hf rfl rfl rfl (pM rfl) fun a hf => ?_
    refine stP hf rfl rfl rfl (pSub rfl rfl) fun a hf => ?_
    refine stSt (vs := [.int .i64 (W (b__0 - (min e_1.Amount b__0)))]) hf hc rfl rfl rfl rfl sz_3 rfl rfl u3 fun w hc => ?_
    refine cNil ?_
    refine h9 _ _ ?_
    refine wp_seq_k fun K10 h10 => ?_
    obtain ⟨ry, hry, hF⟩ := bnd_some hF
    refine yReg 3 (fun a w => Has 30 a [(0, .func (.yield l) #[] #[]), (2, .pointer (some ⟨b__2, 0, none⟩)), (11, .slice x_Compact_Rights_p x.Compact.Rights.length x_Compact_Rights_c), (12, .int .i64 ((x.Compact.Rights.length : Nat) : Int)), (13, .int .i64 x_0), (5, .pointer (some ⟨b_2, 0, none⟩)), (6, .int .i64 (min e_1.Amount b__0)), (24, .func (.yield l) #[] #[]), (25, .agg #[.int .i64 e_1.State, .int .i64 e_1.Amount, .int .i64 e_1.Loss]), (26, .int .i64 (min e_1.Amount b__0))] ∧ Ctx G (.box b_2 [.int .i64 e_1.State, .int .i64 e_1.Amount, .int .i64 e_1.Loss] 51 :: .box b_ [.pointer (some ⟨b__1, 0, none⟩)] 153 :: .box b__1 (catc [.int .i64 x.Compact.States, .slice x_Compact_Rights_p x.Compact.Rights.length x_Compact_Rights_c] 12 encI_i64 x.got []) 156 :: .box b__2 [.int .i64 (W (b__0 - (min e_1.Amount b__0)))] 3 :: (Ls ++ Lf)) w) (fun _ _ h => by obtain ⟨⟨_, h⟩, _⟩ := h; cases h) ?_ ?_
    · refine stP hf rfl rfl rfl (pM rfl) fun a hf => ?_
      refine stE hf hc rfl rfl rfl (eLdN (vs := [.int .i64 e_1.State, .int .i64 e_1.Amount, .int .i64 e_1.Loss]) ag_51 rfl rfl (cells_box (n := 3) m0 rfl)) fun a w hf hc => ?_
      refine stP hf rfl rfl rfl (pM rfl) fun a hf => ?_
      exact cNil ⟨hf.keep ⟨rfl, rfl, rfl, rfl, rfl, rfl, rfl, rfl, rfl, rfl, trivial⟩, hc⟩
    rintro a w ⟨hf, hc⟩
    refine stY (own := [.box b_2 [.int .i64 e_1.State, .int .i64 e_1.Amount, .int .i64 e_1.Loss] 51, .box b_ [.pointer (some ⟨b__1, 0, none⟩)] 153, .box b__1 (catc [.int .i64 x.Compact.States, .slice x_Compact_Rights_p x.Compact.Rights.length x_Compact_Rights_c] 12 encI_i64 x.got []) 156, .box b__2 [.int .i64 (W (b__0 - (min e_1.Amount b__0)))] 3]) (v := (e_1, min e_1.Amount b__0)) hy hJ hry hf hc rfl rfl rfl rfl rfl fun a w Ls_1 hJ_1 hf hc => ?_
    replace hc : Ctx G (.box b_2 [.int .i64 e_1.State, .int .i64 e_1.Amount, .int .i64 e_1.Loss] 51 :: .box b_ [.pointer (some ⟨b__1, 0, none⟩)] 153 :: .box b__1 (catc [.int .i64 x.Compact.States, .slice x_Compact_Rights_p x.Compact.Rights.length x_Compact_Rights_c] 12 encI_i64 x.got []) 156 :: .box b__2 [.int .i64 (W (b__0 - (min e_1.Amount b__0)))] 3 :: (Ls_1 ++ Lf)) w := hc
    refine yRest (fun _ _ h => by obtain ⟨⟨_, h⟩, _⟩ := h; cases h) ?_
    refine stP hf rfl rfl rfl (pNot rfl) fun a hf => ?_
    refine cNil ?_
    refine h10 _ _ ?_
    refine cCond (b := (!ry.2)) hf rfl (fun hb => ?_) (fun hb => ?_)
    · replace hF := condT hb hF
      clear hb
      refine wp_ret ?_
      refine xBlkR ?_
      refine xThenR ?_
      refine xThenR ?_
      have he := Option.some.inj hF
      rw [← he] at hfin3
      replace hF := ho3 _ hfin3
      refine xBlkR ?_
      refine xThenR ?_
      obtain rfl := hF
      replace hc := hc.drop k0
      exact fnOut0 (by simp) rfl Try.results118 hf ⟨⟨_, rfl⟩, Ls_1, hJ_1, hc⟩
    · replace hF := condF hb hF
      clear hb
      refine wp_skip ?_
      refine h6 _ _ ?_
      refine cReg ?_
      refine stP hf rfl rfl rfl (pAdd rfl rfl) fun a hf => ?_
      refine stP hf rfl rfl rfl (pM rfl) fun a hf => ?_
      refine cNil ?_
      replace hc := hc.drop k0
      exact hK3 (W (x_0 + 1), W (b__0 - (min e_1.Amount b__0)), ry.1) _ _ (Option.some.inj hF).symm ⟨Ls_1, hJ_1, hf.keep ⟨rfl, rfl, rfl, rfl, rfl, trivial⟩, hc⟩
  · replace hF := condF hb hF
    clear hb
    refine wp_exit ?_
    refine xThen ?_
    refine xThen ?_
    have he := Option.some.inj hF
    rw [← he] at hfin3
    refine cHit ?_
    exact hr3 _ _ _ hfin3 ⟨Ls, hJ, hf.keep ⟨rfl, rfl, rfl, rfl, rfl, trivial⟩, hc⟩

def share_Short_r12 (N : Nat) (x : Int) (x_1 : Int) (xv : share_Right) (xv_1 : Int) : Option (Rs (Int × Int)) :=
  cond (decide (xv_1 < xv.Amount))
  (some (.ret (x_1, x_1)))
  (some (.go (x, W (x_1 + 1))))
def share_Short (N : Nat) (c_ : share_Compact) (flow : Int) : Option (Int × Int) :=
  Option.bind (share_Check N c_) fun r =>
  cond (r != 0)
  (some (0, r))
  (cond (!(share_water flow))
  (some (0, 4))
  (Option.bind (share_office_taken N (⟨c_, (fun _ => 0)⟩ : share_office) flow) fun r_1 =>
  Option.bind (share_office_taken_1_s2 N (⟨c_, (fun _ => 0)⟩ : share_office) r_1 (rY (fun (zz : Int × Int) (x : (share_Right × Int)) => share_Short_r12 N zz.1 zz.2 x.1 x.2)) (.go (0, 0))) fun x12 =>
  rsK x12.1 (fun zz => some ((-1), 0)) (fun zz => some (zz.1, 0))))
theorem share_Short_ok {N : Nat} {G : Pers} {Lf : List Ent} {w : World} (c_ : share_Compact) (flow : Int) {c__Rights_p : Option Addr} {c__Rights_c : Nat} (h_c__Rights : Rd G 3 c__Rights_p c__Rights_c (c_.Rights.map enc_share_Right)) (hc : Ctx G (Lf) w) {res : Int × Int} (hF : share_Short N c_ flow = some res) : Calls Try.prog 24 #[.agg #[.int .i64 c_.States, .slice c__Rights_p c_.Rights.length c__Rights_c], .int .i64 flow] w (fun e w => e = .returned (.tuple #[.int .i64 res.1, .int .i64 res.2]) ∧ Ctx G (Lf) w) := by
  unfold share_Short at hF
  refine fnInM (args := [.agg #[.int .i64 c_.States, .slice c__Rights_p c_.Rights.length c__Rights_c], .int .i64 flow]) Try.func24 rfl Try.ntmps24 rfl fun a hf => ?_
  refine wp_seq_k fun K1 h1 => ?_
  refine cReg ?_
  refine stBx (cs := [.int .i64 c_.States, .slice c__Rights_p c_.Rights.length c__Rights_c]) hf hc rfl rfl rfl rfl fun b_1 a w hf hc => ?_
  refine stAl (cs := [.int .i64 0]) hf hc rfl rfl zr_3 rfl fun b_2 a w hf hc => ?_
  refine stAl (cs := [.int .i64 0]) hf hc rfl rfl zr_29 rfl fun b_3 a w hf hc => ?_
  refine cNil ?_
  refine h1 _ _ ?_
  refine wp_seq_k fun K2 h2 => ?_
  refine cReg ?_
  refine stE hf hc rfl rfl rfl (eLdN (vs := [.int .i64 c_.States, .slice c__Rights_p c_.Rights.length c__Rights_c]) ag_24 rfl rfl (cells_box (n := 2) m2 rfl)) fun a w hf hc => ?_
  obtain ⟨r, hr, hF⟩ := bnd_some hF
  refine stE hf hc rfl rfl rfl (eC (v := .int .i64 r) (vs := [.agg #[.int .i64 c_.States, .slice c__Rights_p c_.Rights.length c__Rights_c]]) (caps := []) en_15 rfl rfl rfl rfl (fun w hc => share_Check_ok c_ h_c__Rights hc hr)) fun a w hf hc => ?_
  refine stP hf rfl rfl rfl (pA rfl) fun a hf => ?_
  refine cNil ?_
  refine h2 _ _ ?_
  refine wp_seq_k fun K3 h3 => ?_
  refine wp_block ?_
  refine wp_seq_k fun K4 h4 => ?_
  refine cReg ?_
  refine stP hf rfl rfl rfl (pM rfl) fun a hf => ?_
  refine stP hf rfl rfl rfl (pNe rfl rfl) fun a hf => ?_
  refine stP hf rfl rfl rfl (pA rfl) fun a hf => ?_
  refine cNil ?_
  refine h4 _ _ ?_
  refine cCond (b := (r != 0)) hf rfl (fun hb => ?_) (fun hb => ?_)
  · replace hF := condT hb hF
    clear hb
    refine wp_seq_k fun K5 h5 => ?_
    refine cReg ?_
    refine stP hf rfl rfl rfl (pM rfl) fun a hf => ?_
    refine stSt (vs := [.int .i64 0]) hf hc rfl rfl rfl rfl sz_3 rfl rfl u1 fun w hc => ?_
    refine stSt (vs := [.int .i64 r]) hf hc rfl rfl rfl rfl sz_29 rfl rfl u0 fun w hc => ?_
    refine cNil ?_
    refine h5 _ _ ?_
    refine wp_ret ?_
    refine xBlkR ?_
    refine xThenR ?_
    obtain rfl := Option.some.inj hF
    replace hc := hc.drop k2
    replace hc := hc.pick k0
    replace hc := hc.pick k1
    refine outM hf ?_
    exact outM2 Try.results24 hf hc (rv_cell1 sc_3 rfl (cell_box m0 rfl)) (rv_cell1 sc_29 rfl (cell_box m1 rfl)) ⟨rfl, ((hc.drop k1).drop k0)⟩
  · replace hF := condF hb hF
    clear hb
    refine wp_seq_k fun K6 h6 => ?_
    refine cReg ?_
    refine stP hf rfl rfl rfl (pM rfl) fun a hf => ?_
    refine stE hf hc rfl rfl rfl (eC (v := .bool (share_water flow)) (vs := [.int .i64 flow]) (caps := []) en_73 rfl rfl rfl rfl (fun w hc => share_water_ok flow hc rfl)) fun a w hf hc => ?_
    refine stP hf rfl rfl rfl (pNot rfl) fun a hf => ?_
    refine stP hf rfl rfl rfl (pA rfl) fun a hf => ?_
    refine cNil ?_
    refine h6 _ _ ?_
    refine cCond (b := (!(share_water flow))) hf rfl (fun hb => ?_) (fun hb => ?_)
    · replace hF := condT hb hF
      clear hb
      refine wp_seq_k fun K7 h7 => ?_
      refine cReg ?_
      refine stSt (vs := [.int .i64 0]) hf hc rfl rfl rfl rfl sz_3 rfl rfl u1 fun w hc => ?_
      refine stSt (vs := [.int .i64 4]) hf hc rfl rfl rfl rfl sz_29 rfl rfl u0 fun w hc => ?_
      refine cNil ?_
      refine h7 _ _ ?_
      refine wp_ret ?_
      refine xBlkR ?_
      refine xThenR ?_
      obtain rfl := Option.some.inj hF
      replace hc := hc.drop k2
      replace hc := hc.pick k0
      replace hc := hc.pick k1
      refine outM hf ?_
      exact outM2 Try.results24 hf hc (rv_cell1 sc_3 rfl (cell_box m0 rfl)) (rv_cell1 sc_29 rfl (cell_box m1 rfl)) ⟨rfl, ((hc.drop k1).drop k0)⟩
    · replace hF := condF hb hF
      clear hb
      refine wp_skip ?_
      refine h3 _ _ ?_
      refine wp_seq_k fun K8 h8 => ?_
      refine cReg ?_
      refine stE hf hc rfl rfl rfl (eLdN (vs := [.int .i64 c_.States, .slice c__Rights_p c_.Rights.length c__Rights_c]) ag_24 rfl rfl (cells_box (n := 2) m2 rfl)) fun a w hf hc => ?_
      refine stP hf rfl rfl rfl (pBuildS (cells := (catc [.int .i64 c_.States, .slice c__Rights_p c_.Rights.length c__Rights_c] 12 encI_i64 (fun _ => 0) [])) bt_156 rfl rfl) fun a hf => ?_
      refine stBx (cs := (catc [.int .i64 c_.States, .slice c__Rights_p c_.Rights.length c__Rights_c] 12 encI_i64 (fun _ => 0) [])) hf hc rfl rfl rfl rfl fun b_4 a w hf hc => ?_
      refine stP hf rfl rfl rfl (pA rfl) fun a hf => ?_
      refine cNil ?_
      refine h8 _ _ ?_
      refine wp_seq_k fun K9 h9 => ?_
      refine cReg ?_
      refine stAl (cs := [.int .i64 0]) hf hc rfl rfl zr_3 rfl fun b_5 a w hf hc => ?_
      refine stSt (vs := [.int .i64 0]) hf hc rfl rfl rfl rfl sz_3 rfl rfl u0 fun w hc => ?_
      refine cNil ?_
      refine h9 _ _ ?_
      refine wp_seq_k fun K10 h10 => ?_
      refine wp_seq_k fun K11 h11 => ?_
      refine cReg ?_
      refine stP hf rfl rfl rfl (pM rfl) fun a hf => ?_
      refine stP hf rfl rfl rfl (pM rfl) fun a hf => ?_
      obtain ⟨r_1, hr_1, hF⟩ := bnd_some hF
      refine stC (vs := [.pointer (some ⟨b_4, 0, none⟩), .int .i64 flow]) (caps := []) hf rfl rfl rfl en_79 rfl rfl rfl rfl (share_office_taken_ok (⟨c_, (fun _ => 0)⟩ : share_office) flow h_c__Rights (hc.pick k1) hr_1) ?_
      rintro _ w ⟨b_6, b_7, rfl, hc⟩
      refine ⟨_, rfl, fun a hf => ?_⟩
      refine cNil ?_
      refine h11 _ _ ?_
      obtain ⟨x12, hx12, hF⟩ := bnd_some hF
      replace hc := hc.drop k6
      replace hc := hc.pick k1
      replace hc := hc.pick k2
      replace hc := hc.pick k2
      refine cRange (C := [.box b_6 [.pointer (some ⟨b_4, 0, none⟩)] 153, .box b_4 (catc [.int .i64 c_.States, .slice c__Rights_p c_.Rights.length c__Rights_c] 12 encI_i64 (fun _ => 0) []) 156, .box b_7 [.int .i64 r_1] 3]) (C2 := [.box b_6 [.pointer (some ⟨b_4, 0, none⟩)] 153, .box b_4 (catc [.int .i64 c_.States, .slice c__Rights_p c_.Rights.length c__Rights_c] 12 encI_i64 (fun _ => 0) []) 156, .box b_7 [.int .i64 x12.2] 3]) (L0 := [.box b_5 [.int .i64 0] 3, .box b_3 [.int .i64 0] 29, .box b_2 [.int .i64 0] 3]) (Lf := Lf) (encs := fun x : (share_Right × Int) => [.agg #[.int .i64 x.1.State, .int .i64 x.1.Amount, .int .i64 x.1.Loss], .int .i64 x.2]) (fun (zz : Int × Int) L => L = [.box b_5 [.int .i64 zz.2] 3, .box b_3 [.int .i64 0] 29, .box b_2 [.int .i64 zz.1] 3]) (fun (zz : Int × Int) (x : (share_Right × Int)) => share_Short_r12 N zz.1 zz.2 x.1 x.2) (0, 0) x12.1 hf hc rfl en_118 (fun _ => rfl) rfl rfl ?_ ?_ ?_ ?_
      · intro l m J L Lx w hy hJ hc
        exact share_office_taken_1_s2_ok (⟨c_, (fun _ => 0)⟩ : share_office) r_1 h_c__Rights J _ hy _ hJ hc hx12
      · clear hF hf hc
        rintro l m ⟨x, x_1⟩ ⟨xv, xv_1⟩ o _ Lr Lb a w hK0 rfl hF hf hc hK
        replace hf : Has 36 a [(4, .pointer (some ⟨b_2, 0, none⟩)), (5, .pointer (some ⟨b_3, 0, none⟩)), (8, .pointer (some ⟨b_5, 0, none⟩)), (27, .agg #[.int .i64 xv.State, .int .i64 xv.Amount, .int .i64 xv.Loss]), (28, .int .i64 xv_1)] := hf.keep ⟨rfl, rfl, rfl, rfl, rfl, trivial⟩
        replace hc : Ctx G (.box b_5 [.int .i64 x_1] 3 :: .box b_3 [.int .i64 0] 29 :: .box b_2 [.int .i64 x] 3 :: Lr) w := hc
        replace hF : share_Short_r12 N x x_1 xv xv_1 = some o := hF
        unfold share_Short_r12 at hF
        refine rSeq fun K13 h13 => ?_
        refine rReg (fun _ _ h => h) rfl ?_
        refine stAl (cs := [.int .i64 0, .int .i64 0, .int .i64 0]) hf hc rfl rfl zr_51 rfl fun b_8 a w hf hc => ?_
        refine stSt (vs := [.int .i64 xv.State, .int .i64 xv.Amount, .int .i64 xv.Loss]) hf hc rfl rfl rfl rfl sz_51 rfl rfl u0 fun w hc => ?_
        refine cNil ?_
        refine h13 _ _ ?_
        refine rReg (fun _ _ h => h) rfl ?_
        refine stP hf rfl rfl rfl (pA rfl) fun a hf => ?_
        refine cNil ?_
        refine hK _ _ [.box b_8 [.int .i64 xv.State, .int .i64 xv.Amount, .int .i64 xv.Loss] 51, .box b_5 [.int .i64 x_1] 3, .box b_3 [.int .i64 0] 29, .box b_2 [.int .i64 x] 3] hc fun w hc => ?_
        replace hc : Ctx G (.box b_8 [.int .i64 xv.State, .int .i64 xv.Amount, .int .i64 xv.Loss] 51 :: .box b_5 [.int .i64 x_1] 3 :: .box b_3 [.int .i64 0] 29 :: .box b_2 [.int .i64 x] 3 :: Lb) w := hc
        refine rThenK fun K14 h14 => ?_
        refine rBlock ?_
        refine rSeq fun K15 h15 => ?_
        refine rSeq fun K16 h16 => ?_
        refine rReg (fun _ _ h => h) rfl ?_
        refine stP hf rfl rfl rfl (pM rfl) fun a hf => ?_
        refine stP hf rfl rfl rfl (pFA fa_51_1 rfl) fun a hf => ?_
        refine stE hf hc rfl rfl rfl (eLd1 sc_3 rfl (cell_box m0 rfl)) fun a w hf hc => ?_
        refine stP hf rfl rfl rfl (pLt rfl rfl) fun a hf => ?_
        refine cNil ?_
        refine h16 _ _ ?_
        refine rCond (b := (decide (xv_1 < xv.Amount))) hf rfl (fun hb => ?_) (fun hb => ?_)
        · replace hF := condT hb hF
          clear hb
          refine rSeq fun K17 h17 => ?_
          refine rReg (fun _ _ h => h) rfl ?_
          refine stE hf hc rfl rfl rfl (eLd1 sc_3 rfl (cell_box m1 rfl)) fun a w hf hc => ?_
          refine stSt (vs := [.int .i64 x_1]) hf hc rfl rfl rfl rfl sz_3 rfl rfl u3 fun w hc => ?_
          refine stSt (vs := [.int .i64 0]) hf hc rfl rfl rfl rfl sz_29 rfl rfl u2 fun w hc => ?_
          refine cNil ?_
          refine h17 _ _ ?_
          refine rRet ?_
          refine xThenR ?_
          refine xBlkR ?_
          refine xThenR ?_
          replace hc := hc.drop k0
          exact ⟨(x_1, x_1), _, (Option.some.inj hF).symm, rfl, hc⟩
        · replace hF := condF hb hF
          clear hb
          refine rSkip ?_
          refine h15 _ _ ?_
          refine rReg (fun _ _ h => h) rfl ?_
          refine stE hf hc rfl rfl rfl (eLd1 sc_3 rfl (cell_box m1 rfl)) fun a w hf hc => ?_
          refine stP hf rfl rfl rfl (pAdd rfl rfl) fun a hf => ?_
          refine stSt (vs := [.int .i64 (W (x_1 + 1))]) hf hc rfl rfl rfl rfl sz_3 rfl rfl u1 fun w hc => ?_
          refine cNil ?_
          refine h14 _ _ ?_
          replace hc := hc.drop k0
          exact ⟨(x, W (x_1 + 1)), _, (Option.some.inj hF).symm, rfl, hc⟩
      · rintro D_1 ⟨x, x_1⟩ _ a w hsF rfl hf hc
        replace hc : Ctx G (.raw D_1 (.deferred (some [])) :: .box b_6 [.pointer (some ⟨b_4, 0, none⟩)] 153 :: .box b_4 (catc [.int .i64 c_.States, .slice c__Rights_p c_.Rights.length c__Rights_c] 12 encI_i64 (fun _ => 0) []) 156 :: .box b_7 [.int .i64 x12.2] 3 :: .box b_5 [.int .i64 x_1] 3 :: .box b_3 [.int .i64 0] 29 :: .box b_2 [.int .i64 x] 3 :: Lf) w := hc
        replace hF : (some ((-1), 0)) = some res := by rcases hsF with h_ | h_ <;> (rw [h_] at hF; exact hF)
        refine h10 _ _ ?_
        refine wp_seq_k fun K18 h18 => ?_
        refine cReg ?_
        refine stSt (vs := [.int .i64 (-1)]) hf hc rfl rfl rfl rfl sz_3 rfl rfl u6 fun w hc => ?_
        refine stSt (vs := [.int .i64 0]) hf hc rfl rfl rfl rfl sz_29 rfl rfl u5 fun w hc => ?_
        refine cNil ?_
        refine h18 _ _ ?_
        refine wp_ret ?_
        obtain rfl := Option.some.inj hF
        replace hc := hc.drop k4
        replace hc := hc.drop k3
        replace hc := hc.drop k2
        replace hc := hc.drop k1
        replace hc := hc.pick k0
        replace hc := hc.pick k1
        replace hc := hc.pick k2
        refine outM hf ?_
        refine outMc hc m2 u2 fun w hc => ?_
        exact outM2 Try.results24 hf hc (rv_cell1 sc_3 rfl (cell_box m0 rfl)) (rv_cell1 sc_29 rfl (cell_box m1 rfl)) ⟨rfl, (((hc.drop k2).drop k1).drop k0)⟩
      · rintro D_1 ⟨x, x_1⟩ _ a w hsF rfl hf hc
        replace hc : Ctx G (.raw D_1 (.deferred (some [])) :: .box b_6 [.pointer (some ⟨b_4, 0, none⟩)] 153 :: .box b_4 (catc [.int .i64 c_.States, .slice c__Rights_p c_.Rights.length c__Rights_c] 12 encI_i64 (fun _ => 0) []) 156 :: .box b_7 [.int .i64 x12.2] 3 :: .box b_5 [.int .i64 x_1] 3 :: .box b_3 [.int .i64 0] 29 :: .box b_2 [.int .i64 x] 3 :: Lf) w := hc
        replace hF : (some (x, 0)) = some res := by rw [hsF] at hF; exact hF
        refine xThenR ?_
        obtain rfl := Option.some.inj hF
        replace hc := hc.drop k4
        replace hc := hc.drop k3
        replace hc := hc.drop k2
        replace hc := hc.drop k1
        replace hc := hc.pick k0
        replace hc := hc.pick k1
        replace hc := hc.pick k2
        refine outM hf ?_
        refine outMc hc m2 u2 fun w hc => ?_
        exact outM2 Try.results24 hf hc (rv_cell1 sc_3 rfl (cell_box m0 rfl)) (rv_cell1 sc_29 rfl (cell_box m1 rfl)) ⟨rfl, (((hc.drop k2).drop k1).drop k0)⟩

def law09_Line (N : Nat)  : Option (share_Border × (List share_Year)) :=
  Option.bind (law09_span N 140 160) fun r =>
  Option.bind (law09_span N 20 24) fun r_1 =>
  Option.bind (law09_span N 90 90) fun r_2 =>
  Option.bind (law09_span N 30 40) fun r_3 =>
  Option.bind (law09_span N 0 500) fun r_4 =>
  Option.bind (law09_span N 0 1) fun r_5 =>
  some ((⟨([(⟨100, 10⟩ : share_Point), (⟨200, 40⟩ : share_Point)] : List share_Point), 15⟩ : share_Border), ([(⟨r, r_1, false⟩ : share_Year), (⟨r_2, r_3, false⟩ : share_Year), (⟨r_4, r_5, true⟩ : share_Year)] : List share_Year))
theorem law09_Line_ok {N : Nat} {G : Pers} {Lf : List Ent} {w : World}    (hc : Ctx G (Lf) w) {res : share_Border × (List share_Year)} (hF : law09_Line N = some res) : Calls Try.prog 68 #[] w (fun e w => ∃ (p'1 : Option Addr) (c'1 : Nat) (p'2 : Option Addr) (c'2 : Nat), e = .returned (.tuple #[.agg #[.slice p'1 res.1.Table.length c'1, .int .i64 res.1.Credit], .slice p'2 res.2.length c'2]) ∧ Ctx G (.row p'1 c'1 (res.1.Table.map enc_share_Point) 116 2 :: .row p'2 c'2 (res.2.map enc_share_Year) 94 5 :: Lf) w) := by
  unfold law09_Line at hF
  refine fnIn (args := []) Try.func68 rfl Try.ntmps68 rfl fun a hf => ?_
  refine wp_seq_k fun K1 h1 => ?_
  refine cReg ?_
  refine stAl (cs := [.slice none 0 0, .int .i64 0]) hf hc rfl rfl zr_88 rfl fun b_1 a w hf hc => ?_
  refine stP hf rfl rfl rfl (pA rfl) fun a hf => ?_
  refine cNil ?_
  refine h1 _ _ ?_
  refine wp_seq_k fun K2 h2 => ?_
  refine cReg ?_
  refine stP hf rfl rfl rfl (pBuildS (cells := [.int .i64 100, .int .i64 10]) bt_116 rfl rfl) fun a hf => ?_
  refine stP hf rfl rfl rfl (pBuildS (cells := [.int .i64 200, .int .i64 40]) bt_116 rfl rfl) fun a hf => ?_
  refine stBS (rows := ([(⟨100, 10⟩ : share_Point), (⟨200, 40⟩ : share_Point)] : List share_Point).map enc_share_Point) (vs := [(0, .agg #[.int .i64 100, .int .i64 10]), (1, .agg #[.int .i64 200, .int .i64 40])]) hf hc rfl rfl sl_86 rfl ⟨rfl, rfl, rfl, rfl, rfl, rfl, trivial⟩ rfl rfl fun b_2 a w hf hc => ?_
  refine stP hf rfl rfl rfl (pBuildS (cells := [.slice (some ⟨b_2, 0, none⟩) 2 2, .int .i64 15]) bt_88 rfl rfl) fun a hf => ?_
  obtain ⟨r, hr, hF⟩ := bnd_some hF
  refine stE hf hc rfl rfl rfl (eC (v := .agg #[.int .i64 r.Lo, .int .i64 r.Hi]) (vs := [.int .i64 140, .int .i64 160]) (caps := []) en_60 rfl rfl rfl rfl (fun w hc => law09_span_ok 140 160 hc hr)) fun a w hf hc => ?_
  obtain ⟨r_1, hr_1, hF⟩ := bnd_some hF
  refine stE hf hc rfl rfl rfl (eC (v := .agg #[.int .i64 r_1.Lo, .int .i64 r_1.Hi]) (vs := [.int .i64 20, .int .i64 24]) (caps := []) en_60 rfl rfl rfl rfl (fun w hc => law09_span_ok 20 24 hc hr_1)) fun a w hf hc => ?_
  refine stP hf rfl rfl rfl (pBuildS (cells := [.int .i64 r.Lo, .int .i64 r.Hi, .int .i64 r_1.Lo, .int .i64 r_1.Hi, .bool false]) bt_94 rfl rfl) fun a hf => ?_
  obtain ⟨r_2, hr_2, hF⟩ := bnd_some hF
  refine stE hf hc rfl rfl rfl (eC (v := .agg #[.int .i64 r_2.Lo, .int .i64 r_2.Hi]) (vs := [.int .i64 90, .int .i64 90]) (caps := []) en_60 rfl rfl rfl rfl (fun w hc => law09_span_ok 90 90 hc hr_2)) fun a w hf hc => ?_
  obtain ⟨r_3, hr_3, hF⟩ := bnd_some hF
  refine stE hf hc rfl rfl rfl (eC (v := .agg #[.int .i64 r_3.Lo, .int .i64 r_3.Hi]) (vs := [.int .i64 30, .int .i64 40]) (caps := []) en_60 rfl rfl rfl rfl (fun w hc => law09_span_ok 30 40 hc hr_3)) fun a w hf hc => ?_
  refine stP hf rfl rfl rfl (pBuildS (cells := [.int .i64 r_2.Lo, .int .i64 r_2.Hi, .int .i64 r_3.Lo, .int .i64 r_3.Hi, .bool false]) bt_94 rfl rfl) fun a hf => ?_
  obtain ⟨r_4, hr_4, hF⟩ := bnd_some hF
  refine stE hf hc rfl rfl rfl (eC (v := .agg #[.int .i64 r_4.Lo, .int .i64 r_4.Hi]) (vs := [.int .i64 0, .int .i64 500]) (caps := []) en_60 rfl rfl rfl rfl (fun w hc => law09_span_ok 0 500 hc hr_4)) fun a w hf hc => ?_
  obtain ⟨r_5, hr_5, hF⟩ := bnd_some hF
  refine stE hf hc rfl rfl rfl (eC (v := .agg #[.int .i64 r_5.Lo, .int .i64 r_5.Hi]) (vs := [.int .i64 0, .int .i64 1]) (caps := []) en_60 rfl rfl rfl rfl (fun w hc => law09_span_ok 0 1 hc hr_5)) fun a w hf hc => ?_
  refine stP hf rfl rfl rfl (pBuildS (cells := [.int .i64 r_4.Lo, .int .i64 r_4.Hi, .int .i64 r_5.Lo, .int .i64 r_5.Hi, .bool true]) bt_94 rfl rfl) fun a hf => ?_
  refine stBS (rows := ([(⟨r, r_1, false⟩ : share_Year), (⟨r_2, r_3, false⟩ : share_Year), (⟨r_4, r_5, true⟩ : share_Year)] : List share_Year).map enc_share_Year) (vs := [(0, .agg #[.int .i64 r.Lo, .int .i64 r.Hi, .int .i64 r_1.Lo, .int .i64 r_1.Hi, .bool false]), (1, .agg #[.int .i64 r_2.Lo, .int .i64 r_2.Hi, .int .i64 r_3.Lo, .int .i64 r_3.Hi, .bool false]), (2, .agg #[.int .i64 r_4.Lo, .int .i64 r_4.Hi, .int .i64 r_5.Lo, .int .i64 r_5.Hi, .bool true])]) hf hc rfl rfl sl_89 rfl ⟨rfl, rfl, rfl, rfl, rfl, rfl, rfl, rfl, rfl, trivial⟩ rfl rfl fun b_3 a w hf hc => ?_
  refine stSt (vs := [.slice (some ⟨b_2, 0, none⟩) 2 2, .int .i64 15]) hf hc rfl rfl rfl rfl sz_88 rfl rfl u2 fun w hc => ?_
  refine stP hf rfl rfl rfl (pA rfl) fun a hf => ?_
  refine cNil ?_
  refine h2 _ _ ?_
  refine wp_ret ?_
  obtain rfl := Option.some.inj hF
  replace hc := hc.pick k0
  replace hc := hc.pick k1
  exact fnOut2 (by simp) rfl Try.results68 hf hc (rv_cellN (vs := [.slice (some ⟨b_2, 0, none⟩) 2 2, .int .i64 15]) ag_88 rfl rfl (cells_box (n := 2) m2 rfl)) (show look _ 1 = _ from rfl) ⟨(some ⟨b_2, 0, none⟩), 2, (some ⟨b_3, 0, none⟩), 3, rfl, (hc.drop k2)⟩

def share_CheckBorder_1 (p_ : share_Point) : Bool :=
  ((share_water p_.Index) && (share_water p_.Due))
theorem share_CheckBorder_1_ok {G : Pers} {Lf : List Ent} {w : World} (p_ : share_Point)   (hc : Ctx G (Lf) w) {res : Bool} (hF : share_CheckBorder_1 p_ = res) : Calls Try.prog 96 #[.agg #[.int .i64 p_.Index, .int .i64 p_.Due]] w (fun e w => e = .returned (.bool res) ∧ Ctx G (Lf) w) := by
  unfold share_CheckBorder_1 at hF
  refine fnIn (args := [.agg #[.int .i64 p_.Index, .int .i64 p_.Due]]) Try.func96 rfl Try.ntmps96 rfl fun a hf => ?_
  refine wp_seq_k fun K1 h1 => ?_
  refine cReg ?_
  refine stBx (cs := [.int .i64 p_.Index, .int .i64 p_.Due]) hf hc rfl rfl rfl rfl fun b_1 a w hf hc => ?_
  refine stP hf rfl rfl rfl (pA rfl) fun a hf => ?_
  refine cNil ?_
  refine h1 _ _ ?_
  refine wp_seq_k fun K2 h2 => ?_
  refine cReg ?_
  refine stP hf rfl rfl rfl (pFA fa_116_0 rfl) fun a hf => ?_
  refine stE hf hc rfl rfl rfl (eLd1 sc_3 rfl (cell_box m0 rfl)) fun a w hf hc => ?_
  refine stE hf hc rfl rfl rfl (eC (v := .bool (share_water p_.Index)) (vs := [.int .i64 p_.Index]) (caps := []) en_73 rfl rfl rfl rfl (fun w hc => share_water_ok p_.Index hc rfl)) fun a w hf hc => ?_
  refine stP hf rfl rfl rfl (pM rfl) fun a hf => ?_
  refine stCut 4 (fun a w => Has 11 a [(1, .pointer (some ⟨b_1, 0, none⟩)), (2, .bool false), (3, .pointer (some ⟨b_1, 0, none⟩)), (4, .int .i64 p_.Index), (5, .bool (share_water p_.Index)), (6, .bool (share_water p_.Index)), (10, .bool ((share_water p_.Index) && (share_water p_.Due)))] ∧ Ctx G (.box b_1 [.int .i64 p_.Index, .int .i64 p_.Due] 116 :: Lf) w) ?_ ?_
  · cases hb : (share_water p_.Index)
    · rw [hb] at hf
      refine stS hf rfl rfl rfl fun a hf => ?_
      refine stS hf rfl rfl rfl fun a hf => ?_
      refine stS hf rfl rfl rfl fun a hf => ?_
      refine stP hf rfl rfl rfl (pPf rfl rfl) fun a hf => ?_
      exact cNil ⟨hf.keep ⟨rfl, rfl, rfl, rfl, rfl, rfl, rfl, trivial⟩, hc⟩
    · rw [hb] at hf
      refine stP hf rfl rfl rfl (pFA fa_116_1 rfl) fun a hf => ?_
      refine stE hf hc rfl rfl rfl (eLd1 sc_3 rfl (cell_box m0 rfl)) fun a w hf hc => ?_
      refine stE hf hc rfl rfl rfl (eC (v := .bool (share_water p_.Due)) (vs := [.int .i64 p_.Due]) (caps := []) en_73 rfl rfl rfl rfl (fun w hc => share_water_ok p_.Due hc rfl)) fun a w hf hc => ?_
      refine stP hf rfl rfl rfl (pPt rfl rfl) fun a hf => ?_
      exact cNil ⟨hf.keep ⟨rfl, rfl, rfl, rfl, rfl, rfl, rfl, trivial⟩, hc⟩
  intro a w ⟨hf, hc⟩
  refine stP hf rfl rfl rfl (pA rfl) fun a hf => ?_
  refine cNil ?_
  refine h2 _ _ ?_
  refine wp_ret ?_
  obtain rfl := hF
  replace hc := hc.drop k0
  exact fnOut1 (by simp) rfl Try.results96 hf hc (show look _ 2 = _ from rfl) ⟨rfl, hc⟩

def share_every_share_Point_1 (x : share_Point) : Bool :=
  (!(share_CheckBorder_1 (⟨x.Index, x.Due⟩ : share_Point)))
theorem share_every_share_Point_1_ok {G : Pers} {Lf : List Ent} {w : World} (x : share_Point) {b_ : Nat}  (hc : Ctx G (.box b_ [.func (.func 96) #[] #[]] 182 :: Lf) w) {res : Bool} (hF : share_every_share_Point_1 x = res) : Calls Try.prog 124 #[.agg #[.int .i64 x.Index, .int .i64 x.Due], .pointer (some ⟨b_, 0, none⟩)] w (fun e w => e = .returned (.bool res) ∧ Ctx G (.box b_ [.func (.func 96) #[] #[]] 182 :: Lf) w) := by
  unfold share_every_share_Point_1 at hF
  refine fnIn (args := [.agg #[.int .i64 x.Index, .int .i64 x.Due], .pointer (some ⟨b_, 0, none⟩)]) Try.func124 rfl Try.ntmps124 rfl fun a hf => ?_
  refine wp_seq_k fun K1 h1 => ?_
  refine cReg ?_
  refine stBx (cs := [.int .i64 x.Index, .int .i64 x.Due]) hf hc rfl rfl rfl rfl fun b_1 a w hf hc => ?_
  refine stP hf rfl rfl rfl (pA rfl) fun a hf => ?_
  refine cNil ?_
  refine h1 _ _ ?_
  refine wp_seq_k fun K2 h2 => ?_
  refine cReg ?_
  refine stE hf hc rfl rfl rfl (eLd1 sc_182 rfl (cell_box m1 rfl)) fun a w hf hc => ?_
  refine stE hf hc rfl rfl rfl (eLdN (vs := [.int .i64 x.Index, .int .i64 x.Due]) ag_116 rfl rfl (cells_box (n := 2) m0 rfl)) fun a w hf hc => ?_
  refine stE hf hc rfl rfl rfl (eC (v := .bool (share_CheckBorder_1 (⟨x.Index, x.Due⟩ : share_Point))) (vs := [.agg #[.int .i64 x.Index, .int .i64 x.Due]]) (caps := []) en_96 rfl rfl rfl rfl (fun w hc => share_CheckBorder_1_ok (⟨x.Index, x.Due⟩ : share_Point) hc rfl)) fun a w hf hc => ?_
  refine stP hf rfl rfl rfl (pNot rfl) fun a hf => ?_
  refine stP hf rfl rfl rfl (pA rfl) fun a hf => ?_
  refine cNil ?_
  refine h2 _ _ ?_
  refine wp_ret ?_
  obtain rfl := hF
  replace hc := hc.drop k0
  exact fnOut1 (by simp) rfl Try.results124 hf hc (show look _ 3 = _ from rfl) ⟨rfl, hc⟩

def slices_IndexFunc_Lshare_Point_share_Point_b4 (N : Nat) (s_ : List share_Point) (x : Int) : Option (Step (Int) (Int)) :=
  cond (decide (x < ((s_.length : Nat) : Int)))
  (Option.bind (getI s_ x) fun e_1 =>
  cond (share_every_share_Point_1 e_1)
  (some (.ret x))
  (some (.cont (W (x + 1)))))
  (some (.brk x))
def slices_IndexFunc_Lshare_Point_share_Point (N : Nat) (s_ : List share_Point) : Option (Int) :=
  Option.bind (loopO (fun s4 => slices_IndexFunc_Lshare_Point_share_Point_b4 N s_ s4) N 0) fun x4 =>
  exK x4 (fun s4 => some (-1)) some
theorem slices_IndexFunc_Lshare_Point_share_Point_ok {N : Nat} {G : Pers} {Lf : List Ent} {w : World} (s_ : List share_Point) {s__p : Option Addr} {s__c : Nat} {b_ : Nat} (h_s_ : Rd G 2 s__p s__c (s_.map enc_share_Point)) (hc : Ctx G (.box b_ [.func (.func 96) #[] #[]] 182 :: Lf) w) {res : Int} (hF : slices_IndexFunc_Lshare_Point_share_Point N s_ = some res) : Calls Try.prog 125 #[.slice s__p s_.length s__c, .func (.func 124) #[] #[.pointer (some ⟨b_, 0, none⟩)]] w (fun e w => e = .returned (.int .i64 res) ∧ Ctx G (.box b_ [.func (.func 96) #[] #[]] 182 :: Lf) w) := by
  unfold slices_IndexFunc_Lshare_Point_share_Point at hF
  refine fnIn (args := [.slice s__p s_.length s__c, .func (.func 124) #[] #[.pointer (some ⟨b_, 0, none⟩)]]) Try.func125 rfl Try.ntmps125 rfl fun a hf => ?_
  refine wp_seq_k fun K1 h1 => ?_
  refine cReg ?_
  refine stP hf rfl rfl rfl (pA rfl) fun a hf => ?_
  refine cNil ?_
  refine h1 _ _ ?_
  refine wp_seq_k fun K2 h2 => ?_
  refine wp_seq_k fun K3 h3 => ?_
  refine cReg ?_
  refine stP hf rfl rfl rfl (pM rfl) fun a hf => ?_
  refine stP hf rfl rfl rfl (pLenS Try.underlying86 rfl) fun a hf => ?_
  refine stP hf rfl rfl rfl (pM rfl) fun a hf => ?_
  refine cNil ?_
  refine h3 _ _ ?_
  refine wp_block ?_
  obtain ⟨x4, hx4, hF⟩ := bnd_some hF
  let S4 : Int → Act → World → Prop := (fun (zz : Int) a w => Has 19 a [(0, .slice s__p s_.length s__c), (1, .func (.func 124) #[] #[.pointer (some ⟨b_, 0, none⟩)]), (7, .int .i64 ((s_.length : Nat) : Int)), (8, .int .i64 zz)] ∧ Ctx G (.box b_ [.func (.func 96) #[] #[]] 182 :: Lf) w)
  have hr4 : ∀ (zz : Int) a w, x4 = .go zz → S4 zz a w → K2 a w := by
    rintro x a w rfl ⟨hf, hc⟩
    replace hF : _ = some res := hF
    refine h2 _ _ ?_
    refine wp_seq_k fun K5 h5 => ?_
    refine cReg ?_
    refine stP hf rfl rfl rfl (pA rfl) fun a hf => ?_
    refine cNil ?_
    refine h5 _ _ ?_
    refine wp_ret ?_
    obtain rfl := Option.some.inj hF
    exact fnOut1 (by simp) rfl Try.results125 hf hc (show look _ 4 = _ from rfl) ⟨rfl, hc⟩
  have ho4 : ∀ r, x4 = .out r → r = res := by
    rintro r rfl
    exact Option.some.inj hF
  refine cLoop N (loopW (S := S4) (x := x4) ?_ N 0 _ _ ⟨hf.keep ⟨rfl, rfl, rfl, rfl, trivial⟩, hc⟩ hx4)
  clear hF hf hc
  rintro x st4 a w KB4 ⟨hf, hc⟩ hF hfin4 hK4
  unfold slices_IndexFunc_Lshare_Point_share_Point_b4 at hF
  refine wp_seq_k fun K6 h6 => ?_
  refine cReg ?_
  refine stP hf rfl rfl rfl (pLt rfl rfl) fun a hf => ?_
  refine cNil ?_
  refine h6 _ _ ?_
  refine wp_seq_k fun K7 h7 => ?_
  refine cCond (b := (decide (x < ((s_.length : Nat) : Int)))) hf rfl (fun hb => ?_) (fun hb => ?_)
  · replace hF := condT hb hF
    clear hb
    refine wp_skip ?_
    refine h7 _ _ ?_
    refine wp_seq_k fun K8 h8 => ?_
    refine wp_block ?_
    refine wp_seq_k fun K9 h9 => ?_
    refine cReg ?_
    refine stP hf rfl rfl rfl (pM rfl) fun a hf => ?_
    refine stP hf rfl rfl rfl (pA rfl) fun a hf => ?_
    refine cNil ?_
    refine h9 _ _ ?_
    refine wp_seq_k fun K10 h10 => ?_
    refine cReg ?_
    refine stP hf rfl rfl rfl (pM rfl) fun a hf => ?_
    refine stP hf rfl rfl rfl (pM rfl) fun a hf => ?_
    refine stP hf rfl rfl rfl (pM rfl) fun a hf => ?_
    obtain ⟨e_1, he_1, hF⟩ := bnd_some hF
    obtain ⟨b_1, o, qa, qp⟩ := h_s_.atm he_1
    refine stP hf rfl rfl rfl (pIA Try.underlying86 sz_116 rfl rfl qa) fun a hf => ?_
    refine stE hf hc rfl rfl rfl (eLdN (vs := [.int .i64 e_1.Index, .int .i64 e_1.Due]) ag_116 rfl rfl (cells_pc qp (n := 2) (o' := 0) rfl)) fun a w hf hc => ?_
    refine stE hf hc rfl rfl rfl (eC (v := .bool (share_every_share_Point_1 e_1)) (vs := [.agg #[.int .i64 e_1.Index, .int .i64 e_1.Due]]) (caps := [.pointer (some ⟨b_, 0, none⟩)]) en_124 rfl rfl rfl rfl (fun w hc => (share_every_share_Point_1_ok e_1 (hc.pick k0) rfl).mono fun e w h => ⟨h.1, (h.2.unpick k0)⟩)) fun a w hf hc => ?_
    refine cNil ?_
    refine h10 _ _ ?_
    refine cCond (b := (share_every_share_Point_1 e_1)) hf rfl (fun hb => ?_) (fun hb => ?_)
    · replace hF := condT hb hF
      clear hb
      refine wp_seq_k fun K11 h11 => ?_
      refine cReg ?_
      refine stP hf rfl rfl rfl (pM rfl) fun a hf => ?_
      refine stP hf rfl rfl rfl (pA rfl) fun a hf => ?_
      refine cNil ?_
      refine h11 _ _ ?_
      refine wp_ret ?_
      refine xBlkR ?_
      refine xThenR ?_
      refine xThenR ?_
      have he := Option.some.inj hF
      rw [← he] at hfin4
      replace hF := ho4 _ hfin4
      refine xBlkR ?_
      refine xThenR ?_
      obtain rfl := hF
      exact fnOut1 (by simp) rfl Try.results125 hf hc (show look _ 4 = _ from rfl) ⟨rfl, hc⟩
    · replace hF := condF hb hF
      clear hb
      refine wp_skip ?_
      refine h8 _ _ ?_
      refine cReg ?_
      refine stP hf rfl rfl rfl (pAdd rfl rfl) fun a hf => ?_
      refine stP hf rfl rfl rfl (pM rfl) fun a hf => ?_
      refine cNil ?_
      exact hK4 (W (x + 1)) _ _ (Option.some.inj hF).symm ⟨hf.keep ⟨rfl, rfl, rfl, rfl, trivial⟩, hc⟩
  · replace hF := condF hb hF
    clear hb
    refine wp_exit ?_
    refine xThen ?_
    refine xThen ?_
    have he := Option.some.inj hF
    rw [← he] at hfin4
    refine cHit ?_
    exact hr4 _ _ _ hfin4 ⟨hf.keep ⟨rfl, rfl, rfl, rfl, trivial⟩, hc⟩

def slices_ContainsFunc_Lshare_Point_share_Point (N : Nat) (s_ : List share_Point) : Option (Bool) :=
  Option.bind (slices_IndexFunc_Lshare_Point_share_Point N s_) fun r =>
  some (decide (0 ≤ r))
theorem slices_ContainsFunc_Lshare_Point_share_Point_ok {N : Nat} {G : Pers} {Lf : List Ent} {w : World} (s_ : List share_Point) {s__p : Option Addr} {s__c : Nat} {b_ : Nat} (h_s_ : Rd G 2 s__p s__c (s_.map enc_share_Point)) (hc : Ctx G (.box b_ [.func (.func 96) #[] #[]] 182 :: Lf) w) {res : Bool} (hF : slices_ContainsFunc_Lshare_Point_share_Point N s_ = some res) : Calls Try.prog 123 #[.slice s__p s_.length s__c, .func (.func 124) #[] #[.pointer (some ⟨b_, 0, none⟩)]] w (fun e w => e = .returned (.bool res) ∧ Ctx G (.box b_ [.func (.func 96) #[] #[]] 182 :: Lf) w) := by
  unfold slices_ContainsFunc_Lshare_Point_share_Point at hF
  refine fnIn (args := [.slice s__p s_.length s__c, .func (.func 124) #[] #[.pointer (some ⟨b_, 0, none⟩)]]) Try.func123 rfl Try.ntmps123 rfl fun a hf => ?_
  refine wp_seq_k fun K1 h1 => ?_
  refine cReg ?_
  refine stP hf rfl rfl rfl (pA rfl) fun a hf => ?_
  refine cNil ?_
  refine h1 _ _ ?_
  refine wp_seq_k fun K2 h2 => ?_
  refine cReg ?_
  refine stP hf rfl rfl rfl (pM rfl) fun a hf => ?_
  refine stP hf rfl rfl rfl (pM rfl) fun a hf => ?_
  obtain ⟨r, hr, hF⟩ := bnd_some hF
  refine stE hf hc rfl rfl rfl (eC (v := .int .i64 r) (vs := [.slice s__p s_.length s__c, .func (.func 124) #[] #[.pointer (some ⟨b_, 0, none⟩)]]) (caps := []) en_125 rfl rfl rfl rfl (fun w hc => (slices_IndexFunc_Lshare_Point_share_Point_ok s_ h_s_ (hc.pick k0) hr).mono fun e w h => ⟨h.1, (h.2.unpick k0)⟩)) fun a w hf hc => ?_
  refine stP hf rfl rfl rfl (pGe rfl rfl) fun a hf => ?_
  refine stP hf rfl rfl rfl (pA rfl) fun a hf => ?_
  refine cNil ?_
  refine h2 _ _ ?_
  refine wp_ret ?_
  obtain rfl := Option.some.inj hF
  exact fnOut1 (by simp) rfl Try.results123 hf hc (show look _ 4 = _ from rfl) ⟨rfl, hc⟩

def share_every_share_Point (N : Nat) (l : List share_Point) : Option (Bool) :=
  Option.bind (slices_ContainsFunc_Lshare_Point_share_Point N l) fun r =>
  some (!r)
theorem share_every_share_Point_ok {N : Nat} {G : Pers} {Lf : List Ent} {w : World} (l : List share_Point) {l_p : Option Addr} {l_c : Nat} (h_l : Rd G 2 l_p l_c (l.map enc_share_Point)) (hc : Ctx G (Lf) w) {res : Bool} (hF : share_every_share_Point N l = some res) : Calls Try.prog 95 #[.slice l_p l.length l_c, .func (.func 96) #[] #[]] w (fun e w => e = .returned (.bool res) ∧ Ctx G (Lf) w) := by
  unfold share_every_share_Point at hF
  refine fnIn (args := [.slice l_p l.length l_c, .func (.func 96) #[] #[]]) Try.func95 rfl Try.ntmps95 rfl fun a hf => ?_
  refine wp_seq_k fun K1 h1 => ?_
  refine cReg ?_
  refine stBx (cs := [.func (.func 96) #[] #[]]) hf hc rfl rfl rfl rfl fun b_1 a w hf hc => ?_
  refine stP hf rfl rfl rfl (pA rfl) fun a hf => ?_
  refine cNil ?_
  refine h1 _ _ ?_
  refine wp_seq_k fun K2 h2 => ?_
  refine cReg ?_
  refine stP hf rfl rfl rfl (pM rfl) fun a hf => ?_
  refine stP hf rfl rfl rfl (pMF (us := [.pointer (some ⟨b_1, 0, none⟩)]) rfl rfl) fun a hf => ?_
  obtain ⟨r, hr, hF⟩ := bnd_some hF
  refine stE hf hc rfl rfl rfl (eC (v := .bool r) (vs := [.slice l_p l.length l_c, .func (.func 124) #[] #[.pointer (some ⟨b_1, 0, none⟩)]]) (caps := []) en_123 rfl rfl rfl rfl (fun w hc => (slices_ContainsFunc_Lshare_Point_share_Point_ok l h_l (hc.pick k0) hr).mono fun e w h => ⟨h.1, (h.2.unpick k0)⟩)) fun a w hf hc => ?_
  refine stP hf rfl rfl rfl (pNot rfl) fun a hf => ?_
  refine stP hf rfl rfl rfl (pA rfl) fun a hf => ?_
  refine cNil ?_
  refine h2 _ _ ?_
  refine wp_ret ?_
  obtain rfl := Option.some.inj hF
  replace hc := hc.drop k0
  exact fnOut1 (by simp) rfl Try.results95 hf hc (show look _ 4 = _ from rfl) ⟨rfl, hc⟩

def share_CheckBorder_b9 (N : Nat) (b_ : share_Border) (sub : List share_Point) (x : Int) : Option (Step (Int) (Int)) :=
  cond (decide (x < ((sub.length : Nat) : Int)))
  (Option.bind (getI b_.Table x) fun e_1 =>
  Option.bind (getI b_.Table (W (x + 1))) fun e_2 =>
  cond ((decide (e_2.Index ≤ e_1.Index)) || (decide (e_2.Due < e_1.Due)))
  (some (.ret 9))
  (some (.cont (W (x + 1)))))
  (some (.brk x))
def share_CheckBorder (N : Nat) (b_ : share_Border) : Option (Int) :=
  cond (!(share_in ((b_.Table.length : Nat) : Int) 2 12))
  (some 3)
  (Option.bind (share_every_share_Point N b_.Table) fun r =>
  cond ((!r) || (!(share_water b_.Credit)))
  (some 100)
  (Option.bind (subO b_.Table 1 ((b_.Table.length : Nat) : Int)) fun sub =>
  Option.bind (loopO (fun s9 => share_CheckBorder_b9 N b_ sub s9) N 0) fun x9 =>
  exK x9 (fun s9 => some 0) some))
theorem share_CheckBorder_ok {N : Nat} {G : Pers} {Lf : List Ent} {w : World} (b_ : share_Border) {b__Table_p : Option Addr} {b__Table_c : Nat} (h_b__Table : Rd G 2 b__Table_p b__Table_c (b_.Table.map enc_share_Point)) (hc : Ctx G (Lf) w) {res : Int} (hF : share_CheckBorder N b_ = some res) : Calls Try.prog 47 #[.agg #[.slice b__Table_p b_.Table.length b__Table_c, .int .i64 b_.Credit]] w (fun e w => e = .returned (.int .i64 res) ∧ Ctx G (Lf) w) := by
  unfold share_CheckBorder at hF
  refine fnIn (args := [.agg #[.slice b__Table_p b_.Table.length b__Table_c, .int .i64 b_.Credit]]) Try.func47 rfl Try.ntmps47 rfl fun a hf => ?_
  refine wp_seq_k fun K1 h1 => ?_
  refine cReg ?_
  refine stBx (cs := [.slice b__Table_p b_.Table.length b__Table_c, .int .i64 b_.Credit]) hf hc rfl rfl rfl rfl fun b_1 a w hf hc => ?_
  refine stP hf rfl rfl rfl (pA rfl) fun a hf => ?_
  refine cNil ?_
  refine h1 _ _ ?_
  refine wp_seq_k fun K2 h2 => ?_
  refine wp_block ?_
  refine wp_seq_k fun K3 h3 => ?_
  refine cReg ?_
  refine stP hf rfl rfl rfl (pFA fa_88_0 rfl) fun a hf => ?_
  refine stE hf hc rfl rfl rfl (eLd1 sc_86 rfl (cell_box m0 rfl)) fun a w hf hc => ?_
  refine stP hf rfl rfl rfl (pLenS Try.underlying86 rfl) fun a hf => ?_
  refine stE hf hc rfl rfl rfl (eC (v := .bool (share_in ((b_.Table.length : Nat) : Int) 2 12)) (vs := [.int .i64 ((b_.Table.length : Nat) : Int), .int .i64 2, .int .i64 12]) (caps := []) en_70 rfl rfl rfl rfl (fun w hc => share_in_ok ((b_.Table.length : Nat) : Int) 2 12 hc rfl)) fun a w hf hc => ?_
  refine stP hf rfl rfl rfl (pNot rfl) fun a hf => ?_
  refine stP hf rfl rfl rfl (pA rfl) fun a hf => ?_
  refine cNil ?_
  refine h3 _ _ ?_
  refine cCond (b := (!(share_in ((b_.Table.length : Nat) : Int) 2 12))) hf rfl (fun hb => ?_) (fun hb => ?_)
  · replace hF := condT hb hF
    clear hb
    refine wp_seq_k fun K4 h4 => ?_
    refine cReg ?_
    refine stP hf rfl rfl rfl (pA rfl) fun a hf => ?_
    refine cNil ?_
    refine h4 _ _ ?_
    refine wp_ret ?_
    refine xBlkR ?_
    refine xThenR ?_
    obtain rfl := Option.some.inj hF
    replace hc := hc.drop k0
    exact fnOut1 (by simp) rfl Try.results47 hf hc (show look _ 2 = _ from rfl) ⟨rfl, hc⟩
  · replace hF := condF hb hF
    clear hb
    refine wp_seq_k fun K5 h5 => ?_
    refine cReg ?_
    refine stP hf rfl rfl rfl (pFA fa_88_0 rfl) fun a hf => ?_
    refine stE hf hc rfl rfl rfl (eLd1 sc_86 rfl (cell_box m0 rfl)) fun a w hf hc => ?_
    obtain ⟨r, hr, hF⟩ := bnd_some hF
    refine stE hf hc rfl rfl rfl (eC (v := .bool r) (vs := [.slice b__Table_p b_.Table.length b__Table_c, .func (.func 96) #[] #[]]) (caps := []) en_95 rfl rfl rfl rfl (fun w hc => share_every_share_Point_ok b_.Table h_b__Table hc hr)) fun a w hf hc => ?_
    refine stP hf rfl rfl rfl (pNot rfl) fun a hf => ?_
    refine stP hf rfl rfl rfl (pM rfl) fun a hf => ?_
    refine stCut 5 (fun a w => Has 54 a [(1, .pointer (some ⟨b_1, 0, none⟩)), (13, .pointer (some ⟨b_1, 0, none⟩)), (14, .slice b__Table_p b_.Table.length b__Table_c), (15, .bool r), (16, .bool (!r)), (17, .bool (!r)), (22, .bool ((!r) || (!(share_water b_.Credit))))] ∧ Ctx G (.box b_1 [.slice b__Table_p b_.Table.length b__Table_c, .int .i64 b_.Credit] 88 :: Lf) w) ?_ ?_
    · cases hb : (!r)
      · rw [hb] at hf
        refine stP hf rfl rfl rfl (pFA fa_88_1 rfl) fun a hf => ?_
        refine stE hf hc rfl rfl rfl (eLd1 sc_3 rfl (cell_box m0 rfl)) fun a w hf hc => ?_
        refine stE hf hc rfl rfl rfl (eC (v := .bool (share_water b_.Credit)) (vs := [.int .i64 b_.Credit]) (caps := []) en_73 rfl rfl rfl rfl (fun w hc => share_water_ok b_.Credit hc rfl)) fun a w hf hc => ?_
        refine stP hf rfl rfl rfl (pNot rfl) fun a hf => ?_
        refine stP hf rfl rfl rfl (pPf rfl rfl) fun a hf => ?_
        exact cNil ⟨hf.keep ⟨rfl, rfl, rfl, rfl, rfl, rfl, rfl, trivial⟩, hc⟩
      · rw [hb] at hf
        refine stS hf rfl rfl rfl fun a hf => ?_
        refine stS hf rfl rfl rfl fun a hf => ?_
        refine stS hf rfl rfl rfl fun a hf => ?_
        refine stS hf rfl rfl rfl fun a hf => ?_
        refine stP hf rfl rfl rfl (pPt rfl rfl) fun a hf => ?_
        exact cNil ⟨hf.keep ⟨rfl, rfl, rfl, rfl, rfl, rfl, rfl, trivial⟩, hc⟩
    intro a w ⟨hf, hc⟩
    refine stP hf rfl rfl rfl (pA rfl) fun a hf => ?_
    refine cNil ?_
    refine h5 _ _ ?_
    refine cCond (b := ((!r) || (!(share_water b_.Credit)))) hf rfl (fun hb => ?_) (fun hb => ?_)
    · replace hF := condT hb hF
      clear hb
      refine wp_seq_k fun K6 h6 => ?_
      refine cReg ?_
      refine stP hf rfl rfl rfl (pA rfl) fun a hf => ?_
      refine cNil ?_
      refine h6 _ _ ?_
      refine wp_ret ?_
      refine xBlkR ?_
      refine xThenR ?_
      obtain rfl := Option.some.inj hF
      replace hc := hc.drop k0
      exact fnOut1 (by simp) rfl Try.results47 hf hc (show look _ 2 = _ from rfl) ⟨rfl, hc⟩
    · replace hF := condF hb hF
      clear hb
      refine wp_skip ?_
      refine h2 _ _ ?_
      refine wp_seq_k fun K7 h7 => ?_
      refine wp_seq_k fun K8 h8 => ?_
      refine cReg ?_
      refine stP hf rfl rfl rfl (pFA fa_88_0 rfl) fun a hf => ?_
      refine stE hf hc rfl rfl rfl (eLd1 sc_86 rfl (cell_box m0 rfl)) fun a w hf hc => ?_
      obtain ⟨sub, hsub, hF⟩ := bnd_some hF
      have qs := Rd.sub h_b__Table hsub
      refine stP hf rfl rfl rfl (pSl Try.underlying86 sz_116 rfl rfl (by simpa using h_b__Table.1) rfl rfl hsub) fun a hf => ?_
      refine stP hf rfl rfl rfl (pLenS Try.underlying86 rfl) fun a hf => ?_
      refine stP hf rfl rfl rfl (pM rfl) fun a hf => ?_
      refine cNil ?_
      refine h8 _ _ ?_
      refine wp_block ?_
      obtain ⟨x9, hx9, hF⟩ := bnd_some hF
      let S9 : Int → Act → World → Prop := (fun (zz : Int) a w => Has 54 a [(1, .pointer (some ⟨b_1, 0, none⟩)), (26, .int .i64 ((sub.length : Nat) : Int)), (27, .int .i64 zz)] ∧ Ctx G (.box b_1 [.slice b__Table_p b_.Table.length b__Table_c, .int .i64 b_.Credit] 88 :: Lf) w)
      have hr9 : ∀ (zz : Int) a w, x9 = .go zz → S9 zz a w → K7 a w := by
        rintro x a w rfl ⟨hf, hc⟩
        replace hF : _ = some res := hF
        refine h7 _ _ ?_
        refine wp_seq_k fun K10 h10 => ?_
        refine cReg ?_
        refine stP hf rfl rfl rfl (pA rfl) fun a hf => ?_
        refine cNil ?_
        refine h10 _ _ ?_
        refine wp_ret ?_
        obtain rfl := Option.some.inj hF
        replace hc := hc.drop k0
        exact fnOut1 (by simp) rfl Try.results47 hf hc (show look _ 2 = _ from rfl) ⟨rfl, hc⟩
      have ho9 : ∀ r, x9 = .out r → r = res := by
        rintro r rfl
        exact Option.some.inj hF
      refine cLoop N (loopW (S := S9) (x := x9) ?_ N 0 _ _ ⟨hf.keep ⟨rfl, rfl, rfl, trivial⟩, hc⟩ hx9)
      clear hF hf hc
      rintro x st9 a w KB9 ⟨hf, hc⟩ hF hfin9 hK9
      unfold share_CheckBorder_b9 at hF
      refine wp_seq_k fun K11 h11 => ?_
      refine cReg ?_
      refine stP hf rfl rfl rfl (pLt rfl rfl) fun a hf => ?_
      refine cNil ?_
      refine h11 _ _ ?_
      refine wp_seq_k fun K12 h12 => ?_
      refine cCond (b := (decide (x < ((sub.length : Nat) : Int)))) hf rfl (fun hb => ?_) (fun hb => ?_)
      · replace hF := condT hb hF
        clear hb
        refine wp_skip ?_
        refine h12 _ _ ?_
        refine wp_seq_k fun K13 h13 => ?_
        refine wp_block ?_
        refine wp_seq_k fun K14 h14 => ?_
        refine cReg ?_
        refine stP hf rfl rfl rfl (pM rfl) fun a hf => ?_
        refine stP hf rfl rfl rfl (pA rfl) fun a hf => ?_
        refine cNil ?_
        refine h14 _ _ ?_
        refine wp_seq_k fun K15 h15 => ?_
        obtain ⟨e_1, he_1, hF⟩ := bnd_some hF
        obtain ⟨b_2, o, qa, qp⟩ := h_b__Table.atm he_1
        obtain ⟨e_2, he_2, hF⟩ := bnd_some hF
        obtain ⟨b_3, o_1, qa_1, qp_1⟩ := h_b__Table.atm he_2
        replace hc := hc.nilRow 0 0
        replace hc := hc.nilRow 0 0
        refine regionE (fun θ => [⟨none, none, 1, .pointer (some ⟨b_1, 0, none⟩)⟩, ⟨none, none, 3, .int .i64 x⟩, ⟨none, none, 26, .int .i64 ((sub.length : Nat) : Int)⟩, ⟨none, none, 27, .int .i64 x⟩, ⟨some 0, none, 30, .pointer (some ⟨b_1, 0, none⟩)⟩, ⟨some 1, none, 31, .slice b__Table_p b_.Table.length b__Table_c⟩, ⟨some 2, none, 32, .int .i64 x⟩, ⟨some 3, none, 33, .pointer (some ⟨b_2, o, none⟩)⟩, ⟨some 4, none, 34, .agg #[.int .i64 e_1.Index, .int .i64 e_1.Due]⟩, ⟨some 5, none, 35, .pointer (some ⟨b_1, 0, none⟩)⟩, ⟨some 6, none, 36, .slice b__Table_p b_.Table.length b__Table_c⟩, ⟨some 7, none, 37, .int .i64 x⟩, ⟨some 8, none, 38, .int .i64 (W (x + 1))⟩, ⟨some 9, none, 39, .pointer (some ⟨b_3, o_1, none⟩)⟩, ⟨some 10, none, 40, .agg #[.int .i64 e_2.Index, .int .i64 e_2.Due]⟩, ⟨some 11, none, 4, .pointer (some ⟨(θ 88).b, 0, none⟩)⟩, ⟨some 12, none, 5, .pointer (some ⟨(θ 96).b, 0, none⟩)⟩]) (fun E θ => (bif E 14 then .box (θ 96).b [.int .i64 e_2.Index, .int .i64 e_2.Due] 116 else bif E 12 then .box (θ 96).b [.int .i64 0, .int .i64 0] 116 else .row none 0 [] 0 0) :: (bif E 13 then .box (θ 88).b [.int .i64 e_1.Index, .int .i64 e_1.Due] 116 else bif E 11 then .box (θ 88).b [.int .i64 0, .int .i64 0] 116 else .row none 0 [] 0 0) :: .box b_1 [.slice b__Table_p b_.Table.length b__Table_c, .int .i64 b_.Credit] 88 :: Lf) [(13, 11), (14, 12)] (fun a w => ∃ (b_6 : Nat) (b_7 : Nat), Has 54 a [(1, .pointer (some ⟨b_1, 0, none⟩)), (26, .int .i64 ((sub.length : Nat) : Int)), (27, .int .i64 x), (4, .pointer (some ⟨b_6, 0, none⟩)), (5, .pointer (some ⟨b_7, 0, none⟩))] ∧ Ctx G (.box b_7 [.int .i64 e_2.Index, .int .i64 e_2.Due] 116 :: .box b_6 [.int .i64 e_1.Index, .int .i64 e_1.Due] 116 :: .box b_1 [.slice b__Table_p b_.Table.length b__Table_c, .int .i64 b_.Credit] 88 :: Lf) w) follows_mx (by kernel_rfl) (by kernel_rfl) (HasE.of hf ⟨rfl, rfl, rfl, rfl, trivial, trivial, trivial, trivial, trivial, trivial, trivial, trivial, trivial, trivial, trivial, trivial, trivial, trivial⟩) hc ⟨?_, ?_, ?_, ?_, ?_, ?_, ?_, ?_, ?_, ?_, ?_, ?_, ?_, ?_, ?_, trivial⟩ ?_ ?_
        · intro E θ a w hD hi hp he hc
          have hf := he.h0
          replace hf := hf.more he 0 rfl onT
          refine stP hf rfl rfl rfl (pFA fa_88_0 rfl) fun a hf => ?_
          refine cNil ?_
          refine xThenN ?_
          intro ds u hau
          refine ⟨θ, he.put0 hi hau hf rfl 4 rfl rfl, ?_⟩
          exact hc
        · intro E θ a w hD hi hp he hc
          have e0 := hp.of (k := 0) rfl
          have hf := he.h0
          replace hf := hf.more he 4 rfl (onP e0)
          refine stE hf hc rfl rfl rfl (eLd1 sc_86 rfl (cell_box m2 rfl)) fun a w hf hc => ?_
          refine cNil ?_
          refine xThenN ?_
          intro ds u hau
          refine ⟨θ, he.put0 hi hau hf rfl 5 rfl rfl, ?_⟩
          exact hc
        · intro E θ a w hD hi hp he hc
          have hf := he.h0
          replace hf := hf.more he 1 rfl onT
          refine stP hf rfl rfl rfl (pM rfl) fun a hf => ?_
          refine cNil ?_
          refine xThenN ?_
          intro ds u hau
          refine ⟨θ, he.put0 hi hau hf rfl 6 rfl rfl, ?_⟩
          exact hc
        · intro E θ a w hD hi hp he hc
          have e1 := hp.of (k := 1) rfl
          have e2 := hp.of (k := 2) rfl
          have hf := he.h0
          replace hf := hf.more he 5 rfl (onP e1)
          replace hf := hf.more he 6 rfl (onP e2)
          refine stP hf rfl rfl rfl (pIA Try.underlying86 sz_116 rfl rfl qa) fun a hf => ?_
          refine cNil ?_
          refine xThenN ?_
          intro ds u hau
          refine ⟨θ, he.put0 hi hau hf rfl 7 rfl rfl, ?_⟩
          exact hc
        · intro E θ a w hD hi hp he hc
          have e3 := hp.of (k := 3) rfl
          have hf := he.h0
          replace hf := hf.more he 7 rfl (onP e3)
          refine stE hf hc rfl rfl rfl (eLdN (vs := [.int .i64 e_1.Index, .int .i64 e_1.Due]) ag_116 rfl rfl (cells_pc qp (n := 2) (o' := 0) rfl)) fun a w hf hc => ?_
          refine cNil ?_
          refine xThenN ?_
          intro ds u hau
          refine ⟨θ, he.put0 hi hau hf rfl 8 rfl rfl, ?_⟩
          exact hc
        · intro E θ a w hD hi hp he hc
          have hf := he.h0
          replace hf := hf.more he 0 rfl onT
          refine stP hf rfl rfl rfl (pFA fa_88_0 rfl) fun a hf => ?_
          refine cNil ?_
          refine xThenN ?_
          intro ds u hau
          refine ⟨θ, he.put0 hi hau hf rfl 9 rfl rfl, ?_⟩
          exact hc
        · intro E θ a w hD hi hp he hc
          have e5 := hp.of (k := 5) rfl
          have hf := he.h0
          replace hf := hf.more he 9 rfl (onP e5)
          refine stE hf hc rfl rfl rfl (eLd1 sc_86 rfl (cell_box m2 rfl)) fun a w hf hc => ?_
          refine cNil ?_
          refine xThenN ?_
          intro ds u hau
          refine ⟨θ, he.put0 hi hau hf rfl 10 rfl rfl, ?_⟩
          exact hc
        · intro E θ a w hD hi hp he hc
          have hf := he.h0
          replace hf := hf.more he 1 rfl onT
          refine stP hf rfl rfl rfl (pM rfl) fun a hf => ?_
          refine cNil ?_
          refine xThenN ?_
          intro ds u hau
          refine ⟨θ, he.put0 hi hau hf rfl 11 rfl rfl, ?_⟩
          exact hc
        · intro E θ a w hD hi hp he hc
          have e7 := hp.of (k := 7) rfl
          have hf := he.h0
          replace hf := hf.more he 11 rfl (onP e7)
          refine stP hf rfl rfl rfl (pAdd rfl rfl) fun a hf => ?_
          refine cNil ?_
          refine xThenN ?_
          intro ds u hau
          refine ⟨θ, he.put0 hi hau hf rfl 12 rfl rfl, ?_⟩
          exact hc
        · intro E θ a w hD hi hp he hc
          have e6 := hp.of (k := 6) rfl
          have e8 := hp.of (k := 8) rfl
          have hf := he.h0
          replace hf := hf.more he 10 rfl (onP e6)
          replace hf := hf.more he 12 rfl (onP e8)
          refine stP hf rfl rfl rfl (pIA Try.underlying86 sz_116 rfl rfl qa_1) fun a hf => ?_
          refine cNil ?_
          refine xThenN ?_
          intro ds u hau
          refine ⟨θ, he.put0 hi hau hf rfl 13 rfl rfl, ?_⟩
          exact hc
        · intro E θ a w hD hi hp he hc
          have e9 := hp.of (k := 9) rfl
          have hf := he.h0
          replace hf := hf.more he 13 rfl (onP e9)
          refine stE hf hc rfl rfl rfl (eLdN (vs := [.int .i64 e_2.Index, .int .i64 e_2.Due]) ag_116 rfl rfl (cells_pc qp_1 (n := 2) (o' := 0) rfl)) fun a w hf hc => ?_
          refine cNil ?_
          refine xThenN ?_
          intro ds u hau
          refine ⟨θ, he.put0 hi hau hf rfl 14 rfl rfl, ?_⟩
          exact hc
        · intro E θ a w hD hi hp he hc
          have e13 := hD.f 0 rfl hi
          try dsimp only at hc
          rw [hi, e13] at hc
          have hf := he.h0
          refine stAl (cs := [.int .i64 0, .int .i64 0]) hf hc rfl rfl zr_116 rfl fun b_4 a w hf hc => ?_
          refine cNil ?_
          refine xThenN ?_
          intro ds u hau
          replace hc := hc.drop k2
          replace hc := hc.pick k0
          replace hc := hc.pick k1
          refine ⟨(setT θ 88 ⟨b_4, none, 0⟩), he.put hi hau hf rfl [] trivial ⟨qq, qq, qq, qq, qq, qq, qq, qq, qq, qq, qq, qq, qq, qq, qq, qq, qq, trivial⟩, ?_⟩
          try dsimp only
          rw [updE_self E 11, updE_fls 11 e13 rfl]
          exact hc
        · intro E θ a w hD hi hp he hc
          have e14 := hD.f 1 rfl hi
          try dsimp only at hc
          rw [hi, e14] at hc
          have hf := he.h0
          refine stAl (cs := [.int .i64 0, .int .i64 0]) hf hc rfl rfl zr_116 rfl fun b_5 a w hf hc => ?_
          refine cNil ?_
          refine xThenN ?_
          intro ds u hau
          replace hc := hc.drop k1
          refine ⟨(setT θ 96 ⟨b_5, none, 0⟩), he.put hi hau hf rfl [] trivial ⟨qq, qq, qq, qq, qq, qq, qq, qq, qq, qq, qq, qq, qq, qq, qq, qq, qq, trivial⟩, ?_⟩
          try dsimp only
          rw [updE_self E 12, updE_fls 12 e14 rfl]
          exact hc
        · intro E θ a w hD hi hp he hc
          have e4 := hp.of (k := 4) rfl
          have e11 := hp.of (k := 11) rfl
          try dsimp only at hc
          rw [e11, hi] at hc
          have hf := he.h0
          replace hf := hf.more he 8 rfl (onP e4)
          replace hf := hf.more he 15 rfl (onP e11)
          refine stSt (vs := [.int .i64 e_1.Index, .int .i64 e_1.Due]) hf hc rfl rfl rfl rfl sz_116 rfl rfl u1 fun w hc => ?_
          refine cNil ?_
          refine xThenN ?_
          intro ds u hau
          refine ⟨θ, he.stay0 hi hau hf rfl, ?_⟩
          try dsimp only
          rw [updE_tru 13 e11, updE_self E 13]
          exact hc
        · intro E θ a w hD hi hp he hc
          have e10 := hp.of (k := 10) rfl
          have e12 := hp.of (k := 12) rfl
          try dsimp only at hc
          rw [e12, hi] at hc
          have hf := he.h0
          replace hf := hf.more he 14 rfl (onP e10)
          replace hf := hf.more he 16 rfl (onP e12)
          refine stSt (vs := [.int .i64 e_2.Index, .int .i64 e_2.Due]) hf hc rfl rfl rfl rfl sz_116 rfl rfl u0 fun w hc => ?_
          refine cNil ?_
          refine xThenN ?_
          intro ds u hau
          refine ⟨θ, he.stay0 hi hau hf rfl, ?_⟩
          try dsimp only
          rw [updE_tru 14 e12, updE_self E 14]
          exact hc
        · intro E θ a w hall he hc
          have hf := he.h0
          have e11 := hall 11 rfl
          have e12 := hall 12 rfl
          have e13 := hall 13 rfl
          have e14 := hall 14 rfl
          replace hf := hf.more he 16 rfl (onP e12)
          replace hf := hf.more he 15 rfl (onP e11)
          replace hf := hf.more he 3 rfl (onT)
          replace hf := hf.more he 2 rfl (onT)
          replace hf := hf.more he 0 rfl (onT)
          try dsimp only at hc
          rw [e11, e12, e13, e14] at hc
          exact ⟨(θ 88).b, (θ 96).b, hf.keep ⟨rfl, rfl, rfl, rfl, rfl, trivial⟩, hc⟩
        rintro a w ⟨b_6, b_7, hf, hc⟩
        refine h15 _ _ ?_
        refine wp_seq_k fun K16 h16 => ?_
        refine cReg ?_
        refine stP hf rfl rfl rfl (pFA fa_116_0 rfl) fun a hf => ?_
        refine stE hf hc rfl rfl rfl (eLd1 sc_3 rfl (cell_box m0 rfl)) fun a w hf hc => ?_
        refine stP hf rfl rfl rfl (pFA fa_116_0 rfl) fun a hf => ?_
        refine stE hf hc rfl rfl rfl (eLd1 sc_3 rfl (cell_box m1 rfl)) fun a w hf hc => ?_
        refine stP hf rfl rfl rfl (pLe rfl rfl) fun a hf => ?_
        refine stP hf rfl rfl rfl (pM rfl) fun a hf => ?_
        refine stCut 6 (fun a w => Has 54 a [(1, .pointer (some ⟨b_1, 0, none⟩)), (26, .int .i64 ((sub.length : Nat) : Int)), (27, .int .i64 x), (4, .pointer (some ⟨b_6, 0, none⟩)), (5, .pointer (some ⟨b_7, 0, none⟩)), (41, .pointer (some ⟨b_7, 0, none⟩)), (42, .int .i64 e_2.Index), (43, .pointer (some ⟨b_6, 0, none⟩)), (44, .int .i64 e_1.Index), (45, .bool (decide (e_2.Index ≤ e_1.Index))), (46, .bool (decide (e_2.Index ≤ e_1.Index))), (52, .bool ((decide (e_2.Index ≤ e_1.Index)) || (decide (e_2.Due < e_1.Due))))] ∧ Ctx G (.box b_7 [.int .i64 e_2.Index, .int .i64 e_2.Due] 116 :: .box b_6 [.int .i64 e_1.Index, .int .i64 e_1.Due] 116 :: .box b_1 [.slice b__Table_p b_.Table.length b__Table_c, .int .i64 b_.Credit] 88 :: Lf) w) ?_ ?_
        · cases hb : (decide (e_2.Index ≤ e_1.Index))
          · rw [hb] at hf
            refine stP hf rfl rfl rfl (pFA fa_116_1 rfl) fun a hf => ?_
            refine stE hf hc rfl rfl rfl (eLd1 sc_3 rfl (cell_box m0 rfl)) fun a w hf hc => ?_
            refine stP hf rfl rfl rfl (pFA fa_116_1 rfl) fun a hf => ?_
            refine stE hf hc rfl rfl rfl (eLd1 sc_3 rfl (cell_box m1 rfl)) fun a w hf hc => ?_
            refine stP hf rfl rfl rfl (pLt rfl rfl) fun a hf => ?_
            refine stP hf rfl rfl rfl (pPf rfl rfl) fun a hf => ?_
            exact cNil ⟨hf.keep ⟨rfl, rfl, rfl, rfl, rfl, rfl, rfl, rfl, rfl, rfl, rfl, rfl, trivial⟩, hc⟩
          · rw [hb] at hf
            refine stS hf rfl rfl rfl fun a hf => ?_
            refine stS hf rfl rfl rfl fun a hf => ?_
            refine stS hf rfl rfl rfl fun a hf => ?_
            refine stS hf rfl rfl rfl fun a hf => ?_
            refine stS hf rfl rfl rfl fun a hf => ?_
            refine stP hf rfl rfl rfl (pPt rfl rfl) fun a hf => ?_
            exact cNil ⟨hf.keep ⟨rfl, rfl, rfl, rfl, rfl, rfl, rfl, rfl, rfl, rfl, rfl, rfl, trivial⟩, hc⟩
        intro a w ⟨hf, hc⟩
        refine cNil ?_
        refine h16 _ _ ?_
        refine cCond (b := ((decide (e_2.Index ≤ e_1.Index)) || (decide (e_2.Due < e_1.Due)))) hf rfl (fun hb => ?_) (fun hb => ?_)
        · replace hF := condT hb hF
          clear hb
          refine wp_seq_k fun K17 h17 => ?_
          refine cReg ?_
          refine stP hf rfl rfl rfl (pA rfl) fun a hf => ?_
          refine cNil ?_
          refine h17 _ _ ?_
          refine wp_ret ?_
          refine xBlkR ?_
          refine xThenR ?_
          refine xThenR ?_
          have he := Option.some.inj hF
          rw [← he] at hfin9
          replace hF := ho9 _ hfin9
          refine xBlkR ?_
          refine xThenR ?_
          obtain rfl := hF
          replace hc := hc.drop k2
          replace hc := hc.drop k1
          replace hc := hc.drop k0
          exact fnOut1 (by simp) rfl Try.results47 hf hc (show look _ 2 = _ from rfl) ⟨rfl, hc⟩
        · replace hF := condF hb hF
          clear hb
          refine wp_skip ?_
          refine h13 _ _ ?_
          refine cReg ?_
          refine stP hf rfl rfl rfl (pAdd rfl rfl) fun a hf => ?_
          refine stP hf rfl rfl rfl (pM rfl) fun a hf => ?_
          refine cNil ?_
          replace hc := hc.drop k1
          replace hc := hc.drop k0
          exact hK9 (W (x + 1)) _ _ (Option.some.inj hF).symm ⟨hf.keep ⟨rfl, rfl, rfl, trivial⟩, hc⟩
      · replace hF := condF hb hF
        clear hb
        refine wp_exit ?_
        refine xThen ?_
        refine xThen ?_
        have he := Option.some.inj hF
        rw [← he] at hfin9
        refine cHit ?_
        exact hr9 _ _ _ hfin9 ⟨hf.keep ⟨rfl, rfl, rfl, trivial⟩, hc⟩

def share_asked_1 (y : share_Year) : Bool :=
  ((share_waters y.Index) && (share_waters y.Delivered))
theorem share_asked_1_ok {G : Pers} {Lf : List Ent} {w : World} (y : share_Year)   (hc : Ctx G (Lf) w) {res : Bool} (hF : share_asked_1 y = res) : Calls Try.prog 128 #[.agg #[.int .i64 y.Index.Lo, .int .i64 y.Index.Hi, .int .i64 y.Delivered.Lo, .int .i64 y.Delivered.Hi, .bool y.Spill]] w (fun e w => e = .returned (.bool res) ∧ Ctx G (Lf) w) := by
  unfold share_asked_1 at hF
  refine fnIn (args := [.agg #[.int .i64 y.Index.Lo, .int .i64 y.Index.Hi, .int .i64 y.Delivered.Lo, .int .i64 y.Delivered.Hi, .bool y.Spill]]) Try.func128 rfl Try.ntmps128 rfl fun a hf => ?_
  refine wp_seq_k fun K1 h1 => ?_
  refine cReg ?_
  refine stBx (cs := [.int .i64 y.Index.Lo, .int .i64 y.Index.Hi, .int .i64 y.Delivered.Lo, .int .i64 y.Delivered.Hi, .bool y.Spill]) hf hc rfl rfl rfl rfl fun b_1 a w hf hc => ?_
  refine stP hf rfl rfl rfl (pA rfl) fun a hf => ?_
  refine cNil ?_
  refine h1 _ _ ?_
  refine wp_seq_k fun K2 h2 => ?_
  refine cReg ?_
  refine stP hf rfl rfl rfl (pFA fa_94_0 rfl) fun a hf => ?_
  refine stE hf hc rfl rfl rfl (eLdN (vs := [.int .i64 y.Index.Lo, .int .i64 y.Index.Hi]) ag_26 rfl rfl (cells_box (n := 2) m0 rfl)) fun a w hf hc => ?_
  refine stE hf hc rfl rfl rfl (eC (v := .bool (share_waters y.Index)) (vs := [.agg #[.int .i64 y.Index.Lo, .int .i64 y.Index.Hi]]) (caps := []) en_77 rfl rfl rfl rfl (fun w hc => share_waters_ok y.Index hc rfl)) fun a w hf hc => ?_
  refine stP hf rfl rfl rfl (pM rfl) fun a hf => ?_
  refine stCut 4 (fun a w => Has 11 a [(1, .pointer (some ⟨b_1, 0, none⟩)), (2, .bool false), (3, .pointer (some ⟨b_1, 0, none⟩)), (4, .agg #[.int .i64 y.Index.Lo, .int .i64 y.Index.Hi]), (5, .bool (share_waters y.Index)), (6, .bool (share_waters y.Index)), (10, .bool ((share_waters y.Index) && (share_waters y.Delivered)))] ∧ Ctx G (.box b_1 [.int .i64 y.Index.Lo, .int .i64 y.Index.Hi, .int .i64 y.Delivered.Lo, .int .i64 y.Delivered.Hi, .bool y.Spill] 94 :: Lf) w) ?_ ?_
  · cases hb : (share_waters y.Index)
    · rw [hb] at hf
      refine stS hf rfl rfl rfl fun a hf => ?_
      refine stS hf rfl rfl rfl fun a hf => ?_
      refine stS hf rfl rfl rfl fun a hf => ?_
      refine stP hf rfl rfl rfl (pPf rfl rfl) fun a hf => ?_
      exact cNil ⟨hf.keep ⟨rfl, rfl, rfl, rfl, rfl, rfl, rfl, trivial⟩, hc⟩
    · rw [hb] at hf
      refine stP hf rfl rfl rfl (pFA fa_94_1 rfl) fun a hf => ?_
      refine stE hf hc rfl rfl rfl (eLdN (vs := [.int .i64 y.Delivered.Lo, .int .i64 y.Delivered.Hi]) ag_26 rfl rfl (cells_box (n := 2) m0 rfl)) fun a w hf hc => ?_
      refine stE hf hc rfl rfl rfl (eC (v := .bool (share_waters y.Delivered)) (vs := [.agg #[.int .i64 y.Delivered.Lo, .int .i64 y.Delivered.Hi]]) (caps := []) en_77 rfl rfl rfl rfl (fun w hc => share_waters_ok y.Delivered hc rfl)) fun a w hf hc => ?_
      refine stP hf rfl rfl rfl (pPt rfl rfl) fun a hf => ?_
      exact cNil ⟨hf.keep ⟨rfl, rfl, rfl, rfl, rfl, rfl, rfl, trivial⟩, hc⟩
  intro a w ⟨hf, hc⟩
  refine stP hf rfl rfl rfl (pA rfl) fun a hf => ?_
  refine cNil ?_
  refine h2 _ _ ?_
  refine wp_ret ?_
  obtain rfl := hF
  replace hc := hc.drop k0
  exact fnOut1 (by simp) rfl Try.results128 hf hc (show look _ 2 = _ from rfl) ⟨rfl, hc⟩

def share_every_share_Year_1 (x : share_Year) : Bool :=
  (!(share_asked_1 (⟨x.Index, x.Delivered, x.Spill⟩ : share_Year)))
theorem share_every_share_Year_1_ok {G : Pers} {Lf : List Ent} {w : World} (x : share_Year) {b_ : Nat}  (hc : Ctx G (.box b_ [.func (.func 128) #[] #[]] 212 :: Lf) w) {res : Bool} (hF : share_every_share_Year_1 x = res) : Calls Try.prog 147 #[.agg #[.int .i64 x.Index.Lo, .int .i64 x.Index.Hi, .int .i64 x.Delivered.Lo, .int .i64 x.Delivered.Hi, .bool x.Spill], .pointer (some ⟨b_, 0, none⟩)] w (fun e w => e = .returned (.bool res) ∧ Ctx G (.box b_ [.func (.func 128) #[] #[]] 212 :: Lf) w) := by
  unfold share_every_share_Year_1 at hF
  refine fnIn (args := [.agg #[.int .i64 x.Index.Lo, .int .i64 x.Index.Hi, .int .i64 x.Delivered.Lo, .int .i64 x.Delivered.Hi, .bool x.Spill], .pointer (some ⟨b_, 0, none⟩)]) Try.func147 rfl Try.ntmps147 rfl fun a hf => ?_
  refine wp_seq_k fun K1 h1 => ?_
  refine cReg ?_
  refine stBx (cs := [.int .i64 x.Index.Lo, .int .i64 x.Index.Hi, .int .i64 x.Delivered.Lo, .int .i64 x.Delivered.Hi, .bool x.Spill]) hf hc rfl rfl rfl rfl fun b_1 a w hf hc => ?_
  refine stP hf rfl rfl rfl (pA rfl) fun a hf => ?_
  refine cNil ?_
  refine h1 _ _ ?_
  refine wp_seq_k fun K2 h2 => ?_
  refine cReg ?_
  refine stE hf hc rfl rfl rfl (eLd1 sc_212 rfl (cell_box m1 rfl)) fun a w hf hc => ?_
  refine stE hf hc rfl rfl rfl (eLdN (vs := [.int .i64 x.Index.Lo, .int .i64 x.Index.Hi, .int .i64 x.Delivered.Lo, .int .i64 x.Delivered.Hi, .bool x.Spill]) ag_94 rfl rfl (cells_box (n := 5) m0 rfl)) fun a w hf hc => ?_
  refine stE hf hc rfl rfl rfl (eC (v := .bool (share_asked_1 (⟨x.Index, x.Delivered, x.Spill⟩ : share_Year))) (vs := [.agg #[.int .i64 x.Index.Lo, .int .i64 x.Index.Hi, .int .i64 x.Delivered.Lo, .int .i64 x.Delivered.Hi, .bool x.Spill]]) (caps := []) en_128 rfl rfl rfl rfl (fun w hc => share_asked_1_ok (⟨x.Index, x.Delivered, x.Spill⟩ : share_Year) hc rfl)) fun a w hf hc => ?_
  refine stP hf rfl rfl rfl (pNot rfl) fun a hf => ?_
  refine stP hf rfl rfl rfl (pA rfl) fun a hf => ?_
  refine cNil ?_
  refine h2 _ _ ?_
  refine wp_ret ?_
  obtain rfl := hF
  replace hc := hc.drop k0
  exact fnOut1 (by simp) rfl Try.results147 hf hc (show look _ 3 = _ from rfl) ⟨rfl, hc⟩

def slices_IndexFunc_Lshare_Year_share_Year_b4 (N : Nat) (s_ : List share_Year) (x : Int) : Option (Step (Int) (Int)) :=
  cond (decide (x < ((s_.length : Nat) : Int)))
  (Option.bind (getI s_ x) fun e_1 =>
  cond (share_every_share_Year_1 e_1)
  (some (.ret x))
  (some (.cont (W (x + 1)))))
  (some (.brk x))
def slices_IndexFunc_Lshare_Year_share_Year (N : Nat) (s_ : List share_Year) : Option (Int) :=
  Option.bind (loopO (fun s4 => slices_IndexFunc_Lshare_Year_share_Year_b4 N s_ s4) N 0) fun x4 =>
  exK x4 (fun s4 => some (-1)) some
theorem slices_IndexFunc_Lshare_Year_share_Year_ok {N : Nat} {G : Pers} {Lf : List Ent} {w : World} (s_ : List share_Year) {s__p : Option Addr} {s__c : Nat} {b_ : Nat} (h_s_ : Rd G 5 s__p s__c (s_.map enc_share_Year)) (hc : Ctx G (.box b_ [.func (.func 128) #[] #[]] 212 :: Lf) w) {res : Int} (hF : slices_IndexFunc_Lshare_Year_share_Year N s_ = some res) : Calls Try.prog 156 #[.slice s__p s_.length s__c, .func (.func 147) #[] #[.pointer (some ⟨b_, 0, none⟩)]] w (fun e w => e = .returned (.int .i64 res) ∧ Ctx G (.box b_ [.func (.func 128) #[] #[]] 212 :: Lf) w) := by
  unfold slices_IndexFunc_Lshare_Year_share_Year at hF
  refine fnIn (args := [.slice s__p s_.length s__c, .func (.func 147) #[] #[.pointer (some ⟨b_, 0, none⟩)]]) Try.func156 rfl Try.ntmps156 rfl fun a hf => ?_
  refine wp_seq_k fun K1 h1 => ?_
  refine cReg ?_
  refine stP hf rfl rfl rfl (pA rfl) fun a hf => ?_
  refine cNil ?_
  refine h1 _ _ ?_
  refine wp_seq_k fun K2 h2 => ?_
  refine wp_seq_k fun K3 h3 => ?_
  refine cReg ?_
  refine stP hf rfl rfl rfl (pM rfl) fun a hf => ?_
  refine stP hf rfl rfl rfl (pLenS Try.underlying89 rfl) fun a hf => ?_
  refine stP hf rfl rfl rfl (pM rfl) fun a hf => ?_
  refine cNil ?_
  refine h3 _ _ ?_
  refine wp_block ?_
  obtain ⟨x4, hx4, hF⟩ := bnd_some hF
  let S4 : Int → Act → World → Prop := (fun (zz : Int) a w => Has 19 a [(0, .slice s__p s_.length s__c), (1, .func (.func 147) #[] #[.pointer (some ⟨b_, 0, none⟩)]), (7, .int .i64 ((s_.length : Nat) : Int)), (8, .int .i64 zz)] ∧ Ctx G (.box b_ [.func (.func 128) #[] #[]] 212 :: Lf) w)
  have hr4 : ∀ (zz : Int) a w, x4 = .go zz → S4 zz a w → K2 a w := by
    rintro x a w rfl ⟨hf, hc⟩
    replace hF : _ = some res := hF
    refine h2 _ _ ?_
    refine wp_seq_k fun K5 h5 => ?_
    refine cReg ?_
    refine stP hf rfl rfl rfl (pA rfl) fun a hf => ?_
    refine cNil ?_
    refine h5 _ _ ?_
    refine wp_ret ?_
    obtain rfl := Option.some.inj hF
    exact fnOut1 (by simp) rfl Try.results156 hf hc (show look _ 4 = _ from rfl) ⟨rfl, hc⟩
  have ho4 : ∀ r, x4 = .out r → r = res := by
    rintro r rfl
    exact Option.some.inj hF
  refine cLoop N (loopW (S := S4) (x := x4) ?_ N 0 _ _ ⟨hf.keep ⟨rfl, rfl, rfl, rfl, trivial⟩, hc⟩ hx4)
  clear hF hf hc
  rintro x st4 a w KB4 ⟨hf, hc⟩ hF hfin4 hK4
  unfold slices_IndexFunc_Lshare_Year_share_Year_b4 at hF
  refine wp_seq_k fun K6 h6 => ?_
  refine cReg ?_
  refine stP hf rfl rfl rfl (pLt rfl rfl) fun a hf => ?_
  refine cNil ?_
  refine h6 _ _ ?_
  refine wp_seq_k fun K7 h7 => ?_
  refine cCond (b := (decide (x < ((s_.length : Nat) : Int)))) hf rfl (fun hb => ?_) (fun hb => ?_)
  · replace hF := condT hb hF
    clear hb
    refine wp_skip ?_
    refine h7 _ _ ?_
    refine wp_seq_k fun K8 h8 => ?_
    refine wp_block ?_
    refine wp_seq_k fun K9 h9 => ?_
    refine cReg ?_
    refine stP hf rfl rfl rfl (pM rfl) fun a hf => ?_
    refine stP hf rfl rfl rfl (pA rfl) fun a hf => ?_
    refine cNil ?_
    refine h9 _ _ ?_
    refine wp_seq_k fun K10 h10 => ?_
    refine cReg ?_
    refine stP hf rfl rfl rfl (pM rfl) fun a hf => ?_
    refine stP hf rfl rfl rfl (pM rfl) fun a hf => ?_
    refine stP hf rfl rfl rfl (pM rfl) fun a hf => ?_
    obtain ⟨e_1, he_1, hF⟩ := bnd_some hF
    obtain ⟨b_1, o, qa, qp⟩ := h_s_.atm he_1
    refine stP hf rfl rfl rfl (pIA Try.underlying89 sz_94 rfl rfl qa) fun a hf => ?_
    refine stE hf hc rfl rfl rfl (eLdN (vs := [.int .i64 e_1.Index.Lo, .int .i64 e_1.Index.Hi, .int .i64 e_1.Delivered.Lo, .int .i64 e_1.Delivered.Hi, .bool e_1.Spill]) ag_94 rfl rfl (cells_pc qp (n := 5) (o' := 0) rfl)) fun a w hf hc => ?_
    refine stE hf hc rfl rfl rfl (eC (v := .bool (share_every_share_Year_1 e_1)) (vs := [.agg #[.int .i64 e_1.Index.Lo, .int .i64 e_1.Index.Hi, .int .i64 e_1.Delivered.Lo, .int .i64 e_1.Delivered.Hi, .bool e_1.Spill]]) (caps := [.pointer (some ⟨b_, 0, none⟩)]) en_147 rfl rfl rfl rfl (fun w hc => (share_every_share_Year_1_ok e_1 (hc.pick k0) rfl).mono fun e w h => ⟨h.1, (h.2.unpick k0)⟩)) fun a w hf hc => ?_
    refine cNil ?_
    refine h10 _ _ ?_
    refine cCond (b := (share_every_share_Year_1 e_1)) hf rfl (fun hb => ?_) (fun hb => ?_)
    · replace hF := condT hb hF
      clear hb
      refine wp_seq_k fun K11 h11 => ?_
      refine cReg ?_
      refine stP hf rfl rfl rfl (pM rfl) fun a hf => ?_
      refine stP hf rfl rfl rfl (pA rfl) fun a hf => ?_
      refine cNil ?_
      refine h11 _ _ ?_
      refine wp_ret ?_
      refine xBlkR ?_
      refine xThenR ?_
      refine xThenR ?_
      have he := Option.some.inj hF
      rw [← he] at hfin4
      replace hF := ho4 _ hfin4
      refine xBlkR ?_
      refine xThenR ?_
      obtain rfl := hF
      exact fnOut1 (by simp) rfl Try.results156 hf hc (show look _ 4 = _ from rfl) ⟨rfl, hc⟩
    · replace hF := condF hb hF
      clear hb
      refine wp_skip ?_
      refine h8 _ _ ?_
      refine cReg ?_
      refine stP hf rfl rfl rfl (pAdd rfl rfl) fun a hf => ?_
      refine stP hf rfl rfl rfl (pM rfl) fun a hf => ?_
      refine cNil ?_
      exact hK4 (W (x + 1)) _ _ (Option.some.inj hF).symm ⟨hf.keep ⟨rfl, rfl, rfl, rfl, trivial⟩, hc⟩
  · replace hF := condF hb hF
    clear hb
    refine wp_exit ?_
    refine xThen ?_
    refine xThen ?_
    have he := Option.some.inj hF
    rw [← he] at hfin4
    refine cHit ?_
    exact hr4 _ _ _ hfin4 ⟨hf.keep ⟨rfl, rfl, rfl, rfl, trivial⟩, hc⟩

def slices_ContainsFunc_Lshare_Year_share_Year (N : Nat) (s_ : List share_Year) : Option (Bool) :=
  Option.bind (slices_IndexFunc_Lshare_Year_share_Year N s_) fun r =>
  some (decide (0 ≤ r))
theorem slices_ContainsFunc_Lshare_Year_share_Year_ok {N : Nat} {G : Pers} {Lf : List Ent} {w : World} (s_ : List share_Year) {s__p : Option Addr} {s__c : Nat} {b_ : Nat} (h_s_ : Rd G 5 s__p s__c (s_.map enc_share_Year)) (hc : Ctx G (.box b_ [.func (.func 128) #[] #[]] 212 :: Lf) w) {res : Bool} (hF : slices_ContainsFunc_Lshare_Year_share_Year N s_ = some res) : Calls Try.prog 146 #[.slice s__p s_.length s__c, .func (.func 147) #[] #[.pointer (some ⟨b_, 0, none⟩)]] w (fun e w => e = .returned (.bool res) ∧ Ctx G (.box b_ [.func (.func 128) #[] #[]] 212 :: Lf) w) := by
  unfold slices_ContainsFunc_Lshare_Year_share_Year at hF
  refine fnIn (args := [.slice s__p s_.length s__c, .func (.func 147) #[] #[.pointer (some ⟨b_, 0, none⟩)]]) Try.func146 rfl Try.ntmps146 rfl fun a hf => ?_
  refine wp_seq_k fun K1 h1 => ?_
  refine cReg ?_
  refine stP hf rfl rfl rfl (pA rfl) fun a hf => ?_
  refine cNil ?_
  refine h1 _ _ ?_
  refine wp_seq_k fun K2 h2 => ?_
  refine cReg ?_
  refine stP hf rfl rfl rfl (pM rfl) fun a hf => ?_
  refine stP hf rfl rfl rfl (pM rfl) fun a hf => ?_
  obtain ⟨r, hr, hF⟩ := bnd_some hF
  refine stE hf hc rfl rfl rfl (eC (v := .int .i64 r) (vs := [.slice s__p s_.length s__c, .func (.func 147) #[] #[.pointer (some ⟨b_, 0, none⟩)]]) (caps := []) en_156 rfl rfl rfl rfl (fun w hc => (slices_IndexFunc_Lshare_Year_share_Year_ok s_ h_s_ (hc.pick k0) hr).mono fun e w h => ⟨h.1, (h.2.unpick k0)⟩)) fun a w hf hc => ?_
  refine stP hf rfl rfl rfl (pGe rfl rfl) fun a hf => ?_
  refine stP hf rfl rfl rfl (pA rfl) fun a hf => ?_
  refine cNil ?_
  refine h2 _ _ ?_
  refine wp_ret ?_
  obtain rfl := Option.some.inj hF
  exact fnOut1 (by simp) rfl Try.results146 hf hc (show look _ 4 = _ from rfl) ⟨rfl, hc⟩

def share_every_share_Year (N : Nat) (l : List share_Year) : Option (Bool) :=
  Option.bind (slices_ContainsFunc_Lshare_Year_share_Year N l) fun r =>
  some (!r)
theorem share_every_share_Year_ok {N : Nat} {G : Pers} {Lf : List Ent} {w : World} (l : List share_Year) {l_p : Option Addr} {l_c : Nat} (h_l : Rd G 5 l_p l_c (l.map enc_share_Year)) (hc : Ctx G (Lf) w) {res : Bool} (hF : share_every_share_Year N l = some res) : Calls Try.prog 127 #[.slice l_p l.length l_c, .func (.func 128) #[] #[]] w (fun e w => e = .returned (.bool res) ∧ Ctx G (Lf) w) := by
  unfold share_every_share_Year at hF
  refine fnIn (args := [.slice l_p l.length l_c, .func (.func 128) #[] #[]]) Try.func127 rfl Try.ntmps127 rfl fun a hf => ?_
  refine wp_seq_k fun K1 h1 => ?_
  refine cReg ?_
  refine stBx (cs := [.func (.func 128) #[] #[]]) hf hc rfl rfl rfl rfl fun b_1 a w hf hc => ?_
  refine stP hf rfl rfl rfl (pA rfl) fun a hf => ?_
  refine cNil ?_
  refine h1 _ _ ?_
  refine wp_seq_k fun K2 h2 => ?_
  refine cReg ?_
  refine stP hf rfl rfl rfl (pM rfl) fun a hf => ?_
  refine stP hf rfl rfl rfl (pMF (us := [.pointer (some ⟨b_1, 0, none⟩)]) rfl rfl) fun a hf => ?_
  obtain ⟨r, hr, hF⟩ := bnd_some hF
  refine stE hf hc rfl rfl rfl (eC (v := .bool r) (vs := [.slice l_p l.length l_c, .func (.func 147) #[] #[.pointer (some ⟨b_1, 0, none⟩)]]) (caps := []) en_146 rfl rfl rfl rfl (fun w hc => (slices_ContainsFunc_Lshare_Year_share_Year_ok l h_l (hc.pick k0) hr).mono fun e w h => ⟨h.1, (h.2.unpick k0)⟩)) fun a w hf hc => ?_
  refine stP hf rfl rfl rfl (pNot rfl) fun a hf => ?_
  refine stP hf rfl rfl rfl (pA rfl) fun a hf => ?_
  refine cNil ?_
  refine h2 _ _ ?_
  refine wp_ret ?_
  obtain rfl := Option.some.inj hF
  replace hc := hc.drop k0
  exact fnOut1 (by simp) rfl Try.results127 hf hc (show look _ 4 = _ from rfl) ⟨rfl, hc⟩

def share_asked (N : Nat) (b_ : share_Border) (start : api_Span) (years : List share_Year) : Option (Int) :=
  Option.bind (share_CheckBorder N b_) fun r =>
  cond (r != 0)
  (some r)
  (cond ((!(share_in start.Lo (-1000000000) start.Hi)) || (decide (1000000000 < start.Hi)))
  (some 4)
  (cond (decide (40 < ((years.length : Nat) : Int)))
  (some 3)
  (Option.bind (share_every_share_Year N years) fun r_1 =>
  cond (!r_1)
  (some 100)
  (some 0))))
theorem share_asked_ok {N : Nat} {G : Pers} {Lf : List Ent} {w : World} (b_ : share_Border) (start : api_Span) (years : List share_Year) {b__Table_p : Option Addr} {b__Table_c : Nat} {years_p : Option Addr} {years_c : Nat} (h_b__Table : Rd G 2 b__Table_p b__Table_c (b_.Table.map enc_share_Point)) (h_years : Rd G 5 years_p years_c (years.map enc_share_Year)) (hc : Ctx G (Lf) w) {res : Int} (hF : share_asked N b_ start years = some res) : Calls Try.prog 99 #[.agg #[.slice b__Table_p b_.Table.length b__Table_c, .int .i64 b_.Credit], .agg #[.int .i64 start.Lo, .int .i64 start.Hi], .slice years_p years.length years_c] w (fun e w => e = .returned (.int .i64 res) ∧ Ctx G (Lf) w) := by
  unfold share_asked at hF
  refine fnIn (args := [.agg #[.slice b__Table_p b_.Table.length b__Table_c, .int .i64 b_.Credit], .agg #[.int .i64 start.Lo, .int .i64 start.Hi], .slice years_p years.length years_c]) Try.func99 rfl Try.ntmps99 rfl fun a hf => ?_
  refine wp_seq_k fun K1 h1 => ?_
  refine cReg ?_
  refine stBx (cs := [.slice b__Table_p b_.Table.length b__Table_c, .int .i64 b_.Credit]) hf hc rfl rfl rfl rfl fun b_1 a w hf hc => ?_
  refine stBx (cs := [.int .i64 start.Lo, .int .i64 start.Hi]) hf hc rfl rfl rfl rfl fun b_2 a w hf hc => ?_
  refine stP hf rfl rfl rfl (pA rfl) fun a hf => ?_
  refine cNil ?_
  refine h1 _ _ ?_
  refine wp_seq_k fun K2 h2 => ?_
  refine cReg ?_
  refine stE hf hc rfl rfl rfl (eLdN (vs := [.slice b__Table_p b_.Table.length b__Table_c, .int .i64 b_.Credit]) ag_88 rfl rfl (cells_box (n := 2) m1 rfl)) fun a w hf hc => ?_
  obtain ⟨r, hr, hF⟩ := bnd_some hF
  refine stE hf hc rfl rfl rfl (eC (v := .int .i64 r) (vs := [.agg #[.slice b__Table_p b_.Table.length b__Table_c, .int .i64 b_.Credit]]) (caps := []) en_47 rfl rfl rfl rfl (fun w hc => share_CheckBorder_ok b_ h_b__Table hc hr)) fun a w hf hc => ?_
  refine stP hf rfl rfl rfl (pA rfl) fun a hf => ?_
  refine cNil ?_
  refine h2 _ _ ?_
  refine wp_seq_k fun K3 h3 => ?_
  refine wp_block ?_
  refine wp_seq_k fun K4 h4 => ?_
  refine cReg ?_
  refine stP hf rfl rfl rfl (pM rfl) fun a hf => ?_
  refine stP hf rfl rfl rfl (pNe rfl rfl) fun a hf => ?_
  refine stP hf rfl rfl rfl (pA rfl) fun a hf => ?_
  refine cNil ?_
  refine h4 _ _ ?_
  refine cCond (b := (r != 0)) hf rfl (fun hb => ?_) (fun hb => ?_)
  · replace hF := condT hb hF
    clear hb
    refine wp_seq_k fun K5 h5 => ?_
    refine cReg ?_
    refine stP hf rfl rfl rfl (pM rfl) fun a hf => ?_
    refine stP hf rfl rfl rfl (pA rfl) fun a hf => ?_
    refine cNil ?_
    refine h5 _ _ ?_
    refine wp_ret ?_
    refine xBlkR ?_
    refine xThenR ?_
    obtain rfl := Option.some.inj hF
    replace hc := hc.drop k1
    replace hc := hc.drop k0
    exact fnOut1 (by simp) rfl Try.results99 hf hc (show look _ 6 = _ from rfl) ⟨rfl, hc⟩
  · replace hF := condF hb hF
    clear hb
    refine wp_seq_k fun K6 h6 => ?_
    refine cReg ?_
    refine stP hf rfl rfl rfl (pFA fa_26_0 rfl) fun a hf => ?_
    refine stE hf hc rfl rfl rfl (eLd1 sc_3 rfl (cell_box m0 rfl)) fun a w hf hc => ?_
    refine stP hf rfl rfl rfl (pFA fa_26_1 rfl) fun a hf => ?_
    refine stE hf hc rfl rfl rfl (eLd1 sc_3 rfl (cell_box m0 rfl)) fun a w hf hc => ?_
    refine stE hf hc rfl rfl rfl (eC (v := .bool (share_in start.Lo (-1000000000) start.Hi)) (vs := [.int .i64 start.Lo, .int .i64 (-1000000000), .int .i64 start.Hi]) (caps := []) en_70 rfl rfl rfl rfl (fun w hc => share_in_ok start.Lo (-1000000000) start.Hi hc rfl)) fun a w hf hc => ?_
    refine stP hf rfl rfl rfl (pNot rfl) fun a hf => ?_
    refine stP hf rfl rfl rfl (pM rfl) fun a hf => ?_
    refine stCut 4 (fun a w => Has 34 a [(2, .slice years_p years.length years_c), (4, .pointer (some ⟨b_2, 0, none⟩)), (15, .pointer (some ⟨b_2, 0, none⟩)), (16, .int .i64 start.Lo), (17, .pointer (some ⟨b_2, 1, none⟩)), (18, .int .i64 start.Hi), (19, .bool (share_in start.Lo (-1000000000) start.Hi)), (20, .bool (!(share_in start.Lo (-1000000000) start.Hi))), (21, .bool (!(share_in start.Lo (-1000000000) start.Hi))), (25, .bool ((!(share_in start.Lo (-1000000000) start.Hi)) || (decide (1000000000 < start.Hi))))] ∧ Ctx G (.box b_2 [.int .i64 start.Lo, .int .i64 start.Hi] 26 :: .box b_1 [.slice b__Table_p b_.Table.length b__Table_c, .int .i64 b_.Credit] 88 :: Lf) w) ?_ ?_
    · cases hb : (!(share_in start.Lo (-1000000000) start.Hi))
      · rw [hb] at hf
        refine stP hf rfl rfl rfl (pFA fa_26_1 rfl) fun a hf => ?_
        refine stE hf hc rfl rfl rfl (eLd1 sc_3 rfl (cell_box m0 rfl)) fun a w hf hc => ?_
        refine stP hf rfl rfl rfl (pGt rfl rfl) fun a hf => ?_
        refine stP hf rfl rfl rfl (pPf rfl rfl) fun a hf => ?_
        exact cNil ⟨hf.keep ⟨rfl, rfl, rfl, rfl, rfl, rfl, rfl, rfl, rfl, rfl, trivial⟩, hc⟩
      · rw [hb] at hf
        refine stS hf rfl rfl rfl fun a hf => ?_
        refine stS hf rfl rfl rfl fun a hf => ?_
        refine stS hf rfl rfl rfl fun a hf => ?_
        refine stP hf rfl rfl rfl (pPt rfl rfl) fun a hf => ?_
        exact cNil ⟨hf.keep ⟨rfl, rfl, rfl, rfl, rfl, rfl, rfl, rfl, rfl, rfl, trivial⟩, hc⟩
    intro a w ⟨hf, hc⟩
    refine stP hf rfl rfl rfl (pA rfl) fun a hf => ?_
    refine cNil ?_
    refine h6 _ _ ?_
    refine cCond (b := ((!(share_in start.Lo (-1000000000) start.Hi)) || (decide (1000000000 < start.Hi)))) hf rfl (fun hb => ?_) (fun hb => ?_)
    · replace hF := condT hb hF
      clear hb
      refine wp_seq_k fun K7 h7 => ?_
      refine cReg ?_
      refine stP hf rfl rfl rfl (pA rfl) fun a hf => ?_
      refine cNil ?_
      refine h7 _ _ ?_
      refine wp_ret ?_
      refine xBlkR ?_
      refine xThenR ?_
      obtain rfl := Option.some.inj hF
      replace hc := hc.drop k1
      replace hc := hc.drop k0
      exact fnOut1 (by simp) rfl Try.results99 hf hc (show look _ 6 = _ from rfl) ⟨rfl, hc⟩
    · replace hF := condF hb hF
      clear hb
      refine wp_seq_k fun K8 h8 => ?_
      refine cReg ?_
      refine stP hf rfl rfl rfl (pM rfl) fun a hf => ?_
      refine stP hf rfl rfl rfl (pLenS Try.underlying89 rfl) fun a hf => ?_
      refine stP hf rfl rfl rfl (pGt rfl rfl) fun a hf => ?_
      refine stP hf rfl rfl rfl (pA rfl) fun a hf => ?_
      refine cNil ?_
      refine h8 _ _ ?_
      refine cCond (b := (decide (40 < ((years.length : Nat) : Int)))) hf rfl (fun hb => ?_) (fun hb => ?_)
      · replace hF := condT hb hF
        clear hb
        refine wp_seq_k fun K9 h9 => ?_
        refine cReg ?_
        refine stP hf rfl rfl rfl (pA rfl) fun a hf => ?_
        refine cNil ?_
        refine h9 _ _ ?_
        refine wp_ret ?_
        refine xBlkR ?_
        refine xThenR ?_
        obtain rfl := Option.some.inj hF
        replace hc := hc.drop k1
        replace hc := hc.drop k0
        exact fnOut1 (by simp) rfl Try.results99 hf hc (show look _ 6 = _ from rfl) ⟨rfl, hc⟩
      · replace hF := condF hb hF
        clear hb
        refine wp_seq_k fun K10 h10 => ?_
        refine cReg ?_
        refine stP hf rfl rfl rfl (pM rfl) fun a hf => ?_
        obtain ⟨r_1, hr_1, hF⟩ := bnd_some hF
        refine stE hf hc rfl rfl rfl (eC (v := .bool r_1) (vs := [.slice years_p years.length years_c, .func (.func 128) #[] #[]]) (caps := []) en_127 rfl rfl rfl rfl (fun w hc => share_every_share_Year_ok years h_years hc hr_1)) fun a w hf hc => ?_
        refine stP hf rfl rfl rfl (pNot rfl) fun a hf => ?_
        refine stP hf rfl rfl rfl (pA rfl) fun a hf => ?_
        refine cNil ?_
        refine h10 _ _ ?_
        refine cCond (b := (!r_1)) hf rfl (fun hb => ?_) (fun hb => ?_)
        · replace hF := condT hb hF
          clear hb
          refine wp_seq_k fun K11 h11 => ?_
          refine cReg ?_
          refine stP hf rfl rfl rfl (pA rfl) fun a hf => ?_
          refine cNil ?_
          refine h11 _ _ ?_
          refine wp_ret ?_
          refine xBlkR ?_
          refine xThenR ?_
          obtain rfl := Option.some.inj hF
          replace hc := hc.drop k1
          replace hc := hc.drop k0
          exact fnOut1 (by simp) rfl Try.results99 hf hc (show look _ 6 = _ from rfl) ⟨rfl, hc⟩
        · replace hF := condF hb hF
          clear hb
          refine wp_skip ?_
          refine h3 _ _ ?_
          refine wp_seq_k fun K12 h12 => ?_
          refine cReg ?_
          refine stP hf rfl rfl rfl (pA rfl) fun a hf => ?_
          refine cNil ?_
          refine h12 _ _ ?_
          refine wp_ret ?_
          obtain rfl := Option.some.inj hF
          replace hc := hc.drop k1
          replace hc := hc.drop k0
          exact fnOut1 (by simp) rfl Try.results99 hf hc (show look _ 6 = _ from rfl) ⟨rfl, hc⟩

def share_Border_goes (N : Nat) (b_ : share_Border) (debt : Int) : Option ((Int → Option Int) × Int × Int) :=
  some ((fun _ => none : Int → Option Int), b_.Credit, debt)
theorem share_Border_goes_ok {N : Nat} {G : Pers} {Lf : List Ent} {w : World} (b_ : share_Border) (debt : Int) {b__Table_p : Option Addr} {b__Table_c : Nat} (h_b__Table : Rd G 2 b__Table_p b__Table_c (b_.Table.map enc_share_Point)) (hc : Ctx G (Lf) w) {res : (Int → Option Int) × Int × Int} (hF : share_Border_goes N b_ debt = some res) : Calls Try.prog 100 #[.agg #[.slice b__Table_p b_.Table.length b__Table_c, .int .i64 b_.Credit], .int .i64 debt] w (fun e w => ∃ (b'1 : Nat) (b'2 : Nat) (b'3 : Nat) (b'4 : Nat), e = .returned (.func (.func 129) #[] #[.pointer (some ⟨b'1, 0, none⟩), .pointer (some ⟨b'3, 0, none⟩), .pointer (some ⟨b'4, 0, none⟩)]) ∧ Ctx G (.im b'2 (fun j => (res.1 j).map (Value.int .i64)) none :: .box b'1 [.map (some b'2)] 213 :: .box b'3 [.slice b__Table_p b_.Table.length b__Table_c, .int .i64 res.2.1] 88 :: .box b'4 [.int .i64 res.2.2] 3 :: Lf) w) := by
  unfold share_Border_goes at hF
  refine fnIn (args := [.agg #[.slice b__Table_p b_.Table.length b__Table_c, .int .i64 b_.Credit], .int .i64 debt]) Try.func100 rfl Try.ntmps100 rfl fun a hf => ?_
  refine wp_seq_k fun K1 h1 => ?_
  refine cReg ?_
  refine stBx (cs := [.slice b__Table_p b_.Table.length b__Table_c, .int .i64 b_.Credit]) hf hc rfl rfl rfl rfl fun b_1 a w hf hc => ?_
  refine stBx (cs := [.int .i64 debt]) hf hc rfl rfl rfl rfl fun b_2 a w hf hc => ?_
  refine stP hf rfl rfl rfl (pA rfl) fun a hf => ?_
  refine cNil ?_
  refine h1 _ _ ?_
  refine wp_seq_k fun K2 h2 => ?_
  refine cReg ?_
  refine stMM hf hc rfl rfl fun mb a w hf hc => ?_
  replace hc : Ctx _ (.im mb (fun j => ((fun _ => none : Int → Option Int) j).map (Value.int .i64)) none :: _) w := hc
  refine stAl (cs := [.map none]) hf hc rfl rfl zr_213 rfl fun b_3 a w hf hc => ?_
  refine stSt (vs := [.map (some mb)]) hf hc rfl rfl rfl rfl sz_213 rfl rfl u0 fun w hc => ?_
  refine cNil ?_
  refine h2 _ _ ?_
  refine wp_seq_k fun K3 h3 => ?_
  refine cReg ?_
  refine stP hf rfl rfl rfl (pMF (us := [.pointer (some ⟨b_3, 0, none⟩), .pointer (some ⟨b_1, 0, none⟩), .pointer (some ⟨b_2, 0, none⟩)]) rfl rfl) fun a hf => ?_
  refine stP hf rfl rfl rfl (pA rfl) fun a hf => ?_
  refine cNil ?_
  refine h3 _ _ ?_
  refine wp_ret ?_
  obtain rfl := Option.some.inj hF
  replace hc := hc.pick k2
  replace hc := hc.pick k3
  replace hc := hc.pick k2
  replace hc := hc.pick k3
  exact fnOut1 (by simp) rfl Try.results100 hf hc (show look _ 4 = _ from rfl) ⟨b_3, mb, b_1, b_2, rfl, hc⟩

def share_low (N : Nat)  : Option (Unit) :=
  some ()
theorem share_low_ok {N : Nat} {G : Pers} {Lf : List Ent} {w : World}    (hc : Ctx G (Lf) w) {res : Unit} (hF : share_low N = some res) : Calls Try.prog 103 #[] w (fun e w => e = .returned (.agg #[.func (.func 130) #[] #[], .func (.func 131) #[] #[]]) ∧ Ctx G (Lf) w) := by
  unfold share_low at hF
  refine fnIn (args := []) Try.func103 rfl Try.ntmps103 rfl fun a hf => ?_
  refine wp_seq_k fun K1 h1 => ?_
  refine cReg ?_
  refine stAl (cs := [.nilFunc, .nilFunc]) hf hc rfl rfl zr_192 rfl fun b_1 a w hf hc => ?_
  refine cNil ?_
  refine h1 _ _ ?_
  refine wp_seq_k fun K2 h2 => ?_
  refine cReg ?_
  refine stP hf rfl rfl rfl (pBuildS (cells := [.func (.func 130) #[] #[], .func (.func 131) #[] #[]]) bt_192 rfl rfl) fun a hf => ?_
  refine stSt (vs := [.func (.func 130) #[] #[], .func (.func 131) #[] #[]]) hf hc rfl rfl rfl rfl sz_192 rfl rfl u0 fun w hc => ?_
  refine cNil ?_
  refine h2 _ _ ?_
  refine wp_ret ?_
  obtain rfl := Option.some.inj hF
  exact fnOut1 (by simp) rfl Try.results103 hf hc (rv_cellN (vs := [.func (.func 130) #[] #[], .func (.func 131) #[] #[]]) ag_192 rfl rfl (cells_box (n := 2) m0 rfl)) ⟨rfl, (hc.drop k0)⟩

def share_high (N : Nat)  : Option (Unit) :=
  some ()
theorem share_high_ok {N : Nat} {G : Pers} {Lf : List Ent} {w : World}    (hc : Ctx G (Lf) w) {res : Unit} (hF : share_high N = some res) : Calls Try.prog 104 #[] w (fun e w => e = .returned (.agg #[.func (.func 132) #[] #[], .func (.func 133) #[] #[]]) ∧ Ctx G (Lf) w) := by
  unfold share_high at hF
  refine fnIn (args := []) Try.func104 rfl Try.ntmps104 rfl fun a hf => ?_
  refine wp_seq_k fun K1 h1 => ?_
  refine cReg ?_
  refine stAl (cs := [.nilFunc, .nilFunc]) hf hc rfl rfl zr_192 rfl fun b_1 a w hf hc => ?_
  refine cNil ?_
  refine h1 _ _ ?_
  refine wp_seq_k fun K2 h2 => ?_
  refine cReg ?_
  refine stP hf rfl rfl rfl (pBuildS (cells := [.func (.func 132) #[] #[], .func (.func 133) #[] #[]]) bt_192 rfl rfl) fun a hf => ?_
  refine stSt (vs := [.func (.func 132) #[] #[], .func (.func 133) #[] #[]]) hf hc rfl rfl rfl rfl sz_192 rfl rfl u0 fun w hc => ?_
  refine cNil ?_
  refine h2 _ _ ?_
  refine wp_ret ?_
  obtain rfl := Option.some.inj hF
  exact fnOut1 (by simp) rfl Try.results104 hf hc (rv_cellN (vs := [.func (.func 132) #[] #[], .func (.func 133) #[] #[]]) ag_192 rfl rfl (cells_box (n := 2) m0 rfl)) ⟨rfl, (hc.drop k0)⟩

def share_low_1 (s_ : api_Span) : Int :=
  s_.Lo
theorem share_low_1_ok {G : Pers} {Lf : List Ent} {w : World} (s_ : api_Span)   (hc : Ctx G (Lf) w) {res : Int} (hF : share_low_1 s_ = res) : Calls Try.prog 130 #[.agg #[.int .i64 s_.Lo, .int .i64 s_.Hi]] w (fun e w => e = .returned (.int .i64 res) ∧ Ctx G (Lf) w) := by
  unfold share_low_1 at hF
  refine fnIn (args := [.agg #[.int .i64 s_.Lo, .int .i64 s_.Hi]]) Try.func130 rfl Try.ntmps130 rfl fun a hf => ?_
  refine wp_seq_k fun K1 h1 => ?_
  refine cReg ?_
  refine stBx (cs := [.int .i64 s_.Lo, .int .i64 s_.Hi]) hf hc rfl rfl rfl rfl fun b_1 a w hf hc => ?_
  refine stP hf rfl rfl rfl (pA rfl) fun a hf => ?_
  refine cNil ?_
  refine h1 _ _ ?_
  refine wp_seq_k fun K2 h2 => ?_
  refine cReg ?_
  refine stP hf rfl rfl rfl (pFA fa_26_0 rfl) fun a hf => ?_
  refine stE hf hc rfl rfl rfl (eLd1 sc_3 rfl (cell_box m0 rfl)) fun a w hf hc => ?_
  refine stP hf rfl rfl rfl (pA rfl) fun a hf => ?_
  refine cNil ?_
  refine h2 _ _ ?_
  refine wp_ret ?_
  obtain rfl := hF
  replace hc := hc.drop k0
  exact fnOut1 (by simp) rfl Try.results130 hf hc (show look _ 2 = _ from rfl) ⟨rfl, hc⟩

def share_low_2 (s_ : api_Span) : Int :=
  s_.Hi
theorem share_low_2_ok {G : Pers} {Lf : List Ent} {w : World} (s_ : api_Span)   (hc : Ctx G (Lf) w) {res : Int} (hF : share_low_2 s_ = res) : Calls Try.prog 131 #[.agg #[.int .i64 s_.Lo, .int .i64 s_.Hi]] w (fun e w => e = .returned (.int .i64 res) ∧ Ctx G (Lf) w) := by
  unfold share_low_2 at hF
  refine fnIn (args := [.agg #[.int .i64 s_.Lo, .int .i64 s_.Hi]]) Try.func131 rfl Try.ntmps131 rfl fun a hf => ?_
  refine wp_seq_k fun K1 h1 => ?_
  refine cReg ?_
  refine stBx (cs := [.int .i64 s_.Lo, .int .i64 s_.Hi]) hf hc rfl rfl rfl rfl fun b_1 a w hf hc => ?_
  refine stP hf rfl rfl rfl (pA rfl) fun a hf => ?_
  refine cNil ?_
  refine h1 _ _ ?_
  refine wp_seq_k fun K2 h2 => ?_
  refine cReg ?_
  refine stP hf rfl rfl rfl (pFA fa_26_1 rfl) fun a hf => ?_
  refine stE hf hc rfl rfl rfl (eLd1 sc_3 rfl (cell_box m0 rfl)) fun a w hf hc => ?_
  refine stP hf rfl rfl rfl (pA rfl) fun a hf => ?_
  refine cNil ?_
  refine h2 _ _ ?_
  refine wp_ret ?_
  obtain rfl := hF
  replace hc := hc.drop k0
  exact fnOut1 (by simp) rfl Try.results131 hf hc (show look _ 2 = _ from rfl) ⟨rfl, hc⟩

def share_Border_due_1 (p_ : share_Point) (x : Int) : Bool :=
  (decide (x < p_.Index))
theorem share_Border_due_1_ok {G : Pers} {Lf : List Ent} {w : World} (p_ : share_Point) (x : Int) {b_ : Nat}  (hc : Ctx G (.box b_ [.int .i64 x] 3 :: Lf) w) {res : Bool} (hF : share_Border_due_1 p_ x = res) : Calls Try.prog 126 #[.agg #[.int .i64 p_.Index, .int .i64 p_.Due], .pointer (some ⟨b_, 0, none⟩)] w (fun e w => e = .returned (.bool res) ∧ Ctx G (.box b_ [.int .i64 x] 3 :: Lf) w) := by
  unfold share_Border_due_1 at hF
  refine fnIn (args := [.agg #[.int .i64 p_.Index, .int .i64 p_.Due], .pointer (some ⟨b_, 0, none⟩)]) Try.func126 rfl Try.ntmps126 rfl fun a hf => ?_
  refine wp_seq_k fun K1 h1 => ?_
  refine cReg ?_
  refine stBx (cs := [.int .i64 p_.Index, .int .i64 p_.Due]) hf hc rfl rfl rfl rfl fun b_1 a w hf hc => ?_
  refine stP hf rfl rfl rfl (pA rfl) fun a hf => ?_
  refine cNil ?_
  refine h1 _ _ ?_
  refine wp_seq_k fun K2 h2 => ?_
  refine cReg ?_
  refine stP hf rfl rfl rfl (pFA fa_116_0 rfl) fun a hf => ?_
  refine stE hf hc rfl rfl rfl (eLd1 sc_3 rfl (cell_box m0 rfl)) fun a w hf hc => ?_
  refine stE hf hc rfl rfl rfl (eLd1 sc_3 rfl (cell_box m1 rfl)) fun a w hf hc => ?_
  refine stP hf rfl rfl rfl (pGt rfl rfl) fun a hf => ?_
  refine stP hf rfl rfl rfl (pA rfl) fun a hf => ?_
  refine cNil ?_
  refine h2 _ _ ?_
  refine wp_ret ?_
  obtain rfl := hF
  replace hc := hc.drop k0
  exact fnOut1 (by simp) rfl Try.results126 hf hc (show look _ 3 = _ from rfl) ⟨rfl, hc⟩

def slices_IndexFunc_Lshare_Point_share_Point_s2_b4 (N : Nat) (s_ : List share_Point) (f_ : Int) (x : Int) : Option (Step (Int) (Int)) :=
  cond (decide (x < ((s_.length : Nat) : Int)))
  (Option.bind (getI s_ x) fun e_1 =>
  cond (share_Border_due_1 e_1 f_)
  (some (.ret x))
  (some (.cont (W (x + 1)))))
  (some (.brk x))
def slices_IndexFunc_Lshare_Point_share_Point_s2 (N : Nat) (s_ : List share_Point) (f_ : Int) : Option (Int) :=
  Option.bind (loopO (fun s4 => slices_IndexFunc_Lshare_Point_share_Point_s2_b4 N s_ f_ s4) N 0) fun x4 =>
  exK x4 (fun s4 => some (-1)) some
theorem slices_IndexFunc_Lshare_Point_share_Point_s2_ok {N : Nat} {G : Pers} {Lf : List Ent} {w : World} (s_ : List share_Point) (f_ : Int) {s__p : Option Addr} {s__c : Nat} {b_ : Nat} (h_s_ : Rd G 2 s__p s__c (s_.map enc_share_Point)) (hc : Ctx G (.box b_ [.int .i64 f_] 3 :: Lf) w) {res : Int} (hF : slices_IndexFunc_Lshare_Point_share_Point_s2 N s_ f_ = some res) : Calls Try.prog 125 #[.slice s__p s_.length s__c, .func (.func 126) #[] #[.pointer (some ⟨b_, 0, none⟩)]] w (fun e w => e = .returned (.int .i64 res) ∧ Ctx G (.box b_ [.int .i64 f_] 3 :: Lf) w) := by
  unfold slices_IndexFunc_Lshare_Point_share_Point_s2 at hF
  refine fnIn (args := [.slice s__p s_.length s__c, .func (.func 126) #[] #[.pointer (some ⟨b_, 0, none⟩)]]) Try.func125 rfl Try.ntmps125 rfl fun a hf => ?_
  refine wp_seq_k fun K1 h1 => ?_
  refine cReg ?_
  refine stP hf rfl rfl rfl (pA rfl) fun a hf => ?_
  refine cNil ?_
  refine h1 _ _ ?_
  refine wp_seq_k fun K2 h2 => ?_
  refine wp_seq_k fun K3 h3 => ?_
  refine cReg ?_
  refine stP hf rfl rfl rfl (pM rfl) fun a hf => ?_
  refine stP hf rfl rfl rfl (pLenS Try.underlying86 rfl) fun a hf => ?_
  refine stP hf rfl rfl rfl (pM rfl) fun a hf => ?_
  refine cNil ?_
  refine h3 _ _ ?_
  refine wp_block ?_
  obtain ⟨x4, hx4, hF⟩ := bnd_some hF
  let S4 : Int → Act → World → Prop := (fun (zz : Int) a w => Has 19 a [(0, .slice s__p s_.length s__c), (1, .func (.func 126) #[] #[.pointer (some ⟨b_, 0, none⟩)]), (7, .int .i64 ((s_.length : Nat) : Int)), (8, .int .i64 zz)] ∧ Ctx G (.box b_ [.int .i64 f_] 3 :: Lf) w)
  have hr4 : ∀ (zz : Int) a w, x4 = .go zz → S4 zz a w → K2 a w := by
    rintro x a w rfl ⟨hf, hc⟩
    replace hF : _ = some res := hF
    refine h2 _ _ ?_
    refine wp_seq_k fun K5 h5 => ?_
    refine cReg ?_
    refine stP hf rfl rfl rfl (pA rfl) fun a hf => ?_
    refine cNil ?_
    refine h5 _ _ ?_
    refine wp_ret ?_
    obtain rfl := Option.some.inj hF
    exact fnOut1 (by simp) rfl Try.results125 hf hc (show look _ 4 = _ from rfl) ⟨rfl, hc⟩
  have ho4 : ∀ r, x4 = .out r → r = res := by
    rintro r rfl
    exact Option.some.inj hF
  refine cLoop N (loopW (S := S4) (x := x4) ?_ N 0 _ _ ⟨hf.keep ⟨rfl, rfl, rfl, rfl, trivial⟩, hc⟩ hx4)
  clear hF hf hc
  rintro x st4 a w KB4 ⟨hf, hc⟩ hF hfin4 hK4
  unfold slices_IndexFunc_Lshare_Point_share_Point_s2_b4 at hF
  refine wp_seq_k fun K6 h6 => ?_
  refine cReg ?_
  refine stP hf rfl rfl rfl (pLt rfl rfl) fun a hf => ?_
  refine cNil ?_
  refine h6 _ _ ?_
  refine wp_seq_k fun K7 h7 => ?_
  refine cCond (b := (decide (x < ((s_.length : Nat) : Int)))) hf rfl (fun hb => ?_) (fun hb => ?_)
  · replace hF := condT hb hF
    clear hb
    refine wp_skip ?_
    refine h7 _ _ ?_
    refine wp_seq_k fun K8 h8 => ?_
    refine wp_block ?_
    refine wp_seq_k fun K9 h9 => ?_
    refine cReg ?_
    refine stP hf rfl rfl rfl (pM rfl) fun a hf => ?_
    refine stP hf rfl rfl rfl (pA rfl) fun a hf => ?_
    refine cNil ?_
    refine h9 _ _ ?_
    refine wp_seq_k fun K10 h10 => ?_
    refine cReg ?_
    refine stP hf rfl rfl rfl (pM rfl) fun a hf => ?_
    refine stP hf rfl rfl rfl (pM rfl) fun a hf => ?_
    refine stP hf rfl rfl rfl (pM rfl) fun a hf => ?_
    obtain ⟨e_1, he_1, hF⟩ := bnd_some hF
    obtain ⟨b_1, o, qa, qp⟩ := h_s_.atm he_1
    refine stP hf rfl rfl rfl (pIA Try.underlying86 sz_116 rfl rfl qa) fun a hf => ?_
    refine stE hf hc rfl rfl rfl (eLdN (vs := [.int .i64 e_1.Index, .int .i64 e_1.Due]) ag_116 rfl rfl (cells_pc qp (n := 2) (o' := 0) rfl)) fun a w hf hc => ?_
    refine stE hf hc rfl rfl rfl (eC (v := .bool (share_Border_due_1 e_1 f_)) (vs := [.agg #[.int .i64 e_1.Index, .int .i64 e_1.Due]]) (caps := [.pointer (some ⟨b_, 0, none⟩)]) en_126 rfl rfl rfl rfl (fun w hc => (share_Border_due_1_ok e_1 f_ (hc.pick k0) rfl).mono fun e w h => ⟨h.1, (h.2.unpick k0)⟩)) fun a w hf hc => ?_
    refine cNil ?_
    refine h10 _ _ ?_
    refine cCond (b := (share_Border_due_1 e_1 f_)) hf rfl (fun hb => ?_) (fun hb => ?_)
    · replace hF := condT hb hF
      clear hb
      refine wp_seq_k fun K11 h11 => ?_
      refine cReg ?_
      refine stP hf rfl rfl rfl (pM rfl) fun a hf => ?_
      refine stP hf rfl rfl rfl (pA rfl) fun a hf => ?_
      refine cNil ?_
      refine h11 _ _ ?_
      refine wp_ret ?_
      refine xBlkR ?_
      refine xThenR ?_
      refine xThenR ?_
      have he := Option.some.inj hF
      rw [← he] at hfin4
      replace hF := ho4 _ hfin4
      refine xBlkR ?_
      refine xThenR ?_
      obtain rfl := hF
      exact fnOut1 (by simp) rfl Try.results125 hf hc (show look _ 4 = _ from rfl) ⟨rfl, hc⟩
    · replace hF := condF hb hF
      clear hb
      refine wp_skip ?_
      refine h8 _ _ ?_
      refine cReg ?_
      refine stP hf rfl rfl rfl (pAdd rfl rfl) fun a hf => ?_
      refine stP hf rfl rfl rfl (pM rfl) fun a hf => ?_
      refine cNil ?_
      exact hK4 (W (x + 1)) _ _ (Option.some.inj hF).symm ⟨hf.keep ⟨rfl, rfl, rfl, rfl, trivial⟩, hc⟩
  · replace hF := condF hb hF
    clear hb
    refine wp_exit ?_
    refine xThen ?_
    refine xThen ?_
    have he := Option.some.inj hF
    rw [← he] at hfin4
    refine cHit ?_
    exact hr4 _ _ _ hfin4 ⟨hf.keep ⟨rfl, rfl, rfl, rfl, trivial⟩, hc⟩

def share_Border_due (N : Nat) (b_ : share_Border) (index : Int) : Option (Int) :=
  Option.bind (slices_IndexFunc_Lshare_Point_share_Point_s2 N b_.Table index) fun r =>
  cond (r == 0)
  (Option.bind (getI b_.Table 0) fun e_1 =>
  some e_1.Due)
  (cond (r == (-1))
  (Option.bind (getI b_.Table (W (((b_.Table.length : Nat) : Int) - 1))) fun e_2 =>
  some e_2.Due)
  (Option.bind (getI b_.Table (W (r - 1))) fun e_3 =>
  Option.bind (getI b_.Table r) fun e_4 =>
  Option.bind (nz (W (e_4.Index - e_3.Index))) fun un =>
  some (W (e_3.Due + (W ((W ((W (e_4.Due - e_3.Due)) * (W (index - e_3.Index)))).tdiv (W (e_4.Index - e_3.Index))))))))
theorem share_Border_due_ok {N : Nat} {G : Pers} {Lf : List Ent} {w : World} (b_ : share_Border) (index : Int) {b__Table_p : Option Addr} {b__Table_c : Nat} (h_b__Table : Rd G 2 b__Table_p b__Table_c (b_.Table.map enc_share_Point)) (hc : Ctx G (Lf) w) {res : Int} (hF : share_Border_due N b_ index = some res) : Calls Try.prog 97 #[.agg #[.slice b__Table_p b_.Table.length b__Table_c, .int .i64 b_.Credit], .int .i64 index] w (fun e w => e = .returned (.int .i64 res) ∧ Ctx G (Lf) w) := by
  unfold share_Border_due at hF
  refine fnIn (args := [.agg #[.slice b__Table_p b_.Table.length b__Table_c, .int .i64 b_.Credit], .int .i64 index]) Try.func97 rfl Try.ntmps97 rfl fun a hf => ?_
  refine wp_seq_k fun K1 h1 => ?_
  refine cReg ?_
  refine stBx (cs := [.slice b__Table_p b_.Table.length b__Table_c, .int .i64 b_.Credit]) hf hc rfl rfl rfl rfl fun b_1 a w hf hc => ?_
  refine stBx (cs := [.int .i64 index]) hf hc rfl rfl rfl rfl fun b_2 a w hf hc => ?_
  refine stP hf rfl rfl rfl (pA rfl) fun a hf => ?_
  refine cNil ?_
  refine h1 _ _ ?_
  refine wp_seq_k fun K2 h2 => ?_
  refine cReg ?_
  refine stP hf rfl rfl rfl (pFA fa_88_0 rfl) fun a hf => ?_
  refine stE hf hc rfl rfl rfl (eLd1 sc_86 rfl (cell_box m1 rfl)) fun a w hf hc => ?_
  refine stP hf rfl rfl rfl (pMF (us := [.pointer (some ⟨b_2, 0, none⟩)]) rfl rfl) fun a hf => ?_
  obtain ⟨r, hr, hF⟩ := bnd_some hF
  refine stE hf hc rfl rfl rfl (eC (v := .int .i64 r) (vs := [.slice b__Table_p b_.Table.length b__Table_c, .func (.func 126) #[] #[.pointer (some ⟨b_2, 0, none⟩)]]) (caps := []) en_125 rfl rfl rfl rfl (fun w hc => (slices_IndexFunc_Lshare_Point_share_Point_s2_ok b_.Table index h_b__Table (hc.pick k0) hr).mono fun e w h => ⟨h.1, (h.2.unpick k0)⟩)) fun a w hf hc => ?_
  refine stP hf rfl rfl rfl (pA rfl) fun a hf => ?_
  refine cNil ?_
  refine h2 _ _ ?_
  refine wp_seq_k fun K3 h3 => ?_
  refine wp_seq_k fun K4 h4 => ?_
  refine cReg ?_
  refine stP hf rfl rfl rfl (pM rfl) fun a hf => ?_
  refine cNil ?_
  refine h4 _ _ ?_
  refine wp_block ?_
  refine wp_seq_k fun K5 h5 => ?_
  refine cReg ?_
  refine stP hf rfl rfl rfl (pEq rfl rfl) fun a hf => ?_
  refine stP hf rfl rfl rfl (pA rfl) fun a hf => ?_
  refine cNil ?_
  refine h5 _ _ ?_
  refine cCond (b := (r == 0)) hf rfl (fun hb => ?_) (fun hb => ?_)
  · replace hF := condT hb hF
    clear hb
    refine wp_seq_k fun K6 h6 => ?_
    refine cReg ?_
    refine stP hf rfl rfl rfl (pFA fa_88_0 rfl) fun a hf => ?_
    refine stE hf hc rfl rfl rfl (eLd1 sc_86 rfl (cell_box m1 rfl)) fun a w hf hc => ?_
    obtain ⟨e_1, he_1, hF⟩ := bnd_some hF
    obtain ⟨b_3, o, qa, qp⟩ := h_b__Table.atm he_1
    refine stP hf rfl rfl rfl (pIA Try.underlying86 sz_116 rfl rfl qa) fun a hf => ?_
    refine stP hf rfl rfl rfl (pFA fa_116_1 rfl) fun a hf => ?_
    refine stE hf hc rfl rfl rfl (eLd1 sc_3 rfl (cell_pc (j := 1) qp rfl)) fun a w hf hc => ?_
    refine stP hf rfl rfl rfl (pA rfl) fun a hf => ?_
    refine cNil ?_
    refine h6 _ _ ?_
    refine wp_ret ?_
    refine xBlkR ?_
    refine xThenR ?_
    obtain rfl := Option.some.inj hF
    replace hc := hc.drop k1
    replace hc := hc.drop k0
    exact fnOut1 (by simp) rfl Try.results97 hf hc (show look _ 4 = _ from rfl) ⟨rfl, hc⟩
  · replace hF := condF hb hF
    clear hb
    refine wp_seq_k fun K7 h7 => ?_
    refine cReg ?_
    refine stP hf rfl rfl rfl (pEq rfl rfl) fun a hf => ?_
    refine stP hf rfl rfl rfl (pA rfl) fun a hf => ?_
    refine cNil ?_
    refine h7 _ _ ?_
    refine cCond (b := (r == (-1))) hf rfl (fun hb => ?_) (fun hb => ?_)
    · replace hF := condT hb hF
      clear hb
      refine wp_seq_k fun K8 h8 => ?_
      refine cReg ?_
      refine stP hf rfl rfl rfl (pFA fa_88_0 rfl) fun a hf => ?_
      refine stE hf hc rfl rfl rfl (eLd1 sc_86 rfl (cell_box m1 rfl)) fun a w hf hc => ?_
      refine stP hf rfl rfl rfl (pFA fa_88_0 rfl) fun a hf => ?_
      refine stE hf hc rfl rfl rfl (eLd1 sc_86 rfl (cell_box m1 rfl)) fun a w hf hc => ?_
      refine stP hf rfl rfl rfl (pLenS Try.underlying86 rfl) fun a hf => ?_
      refine stP hf rfl rfl rfl (pSub rfl rfl) fun a hf => ?_
      obtain ⟨e_2, he_2, hF⟩ := bnd_some hF
      obtain ⟨b_4, o_1, qa_1, qp_1⟩ := h_b__Table.atm he_2
      refine stP hf rfl rfl rfl (pIA Try.underlying86 sz_116 rfl rfl qa_1) fun a hf => ?_
      refine stP hf rfl rfl rfl (pFA fa_116_1 rfl) fun a hf => ?_
      refine stE hf hc rfl rfl rfl (eLd1 sc_3 rfl (cell_pc (j := 1) qp_1 rfl)) fun a w hf hc => ?_
      refine stP hf rfl rfl rfl (pA rfl) fun a hf => ?_
      refine cNil ?_
      refine h8 _ _ ?_
      refine wp_ret ?_
      refine xBlkR ?_
      refine xThenR ?_
      obtain rfl := Option.some.inj hF
      replace hc := hc.drop k1
      replace hc := hc.drop k0
      exact fnOut1 (by simp) rfl Try.results97 hf hc (show look _ 4 = _ from rfl) ⟨rfl, hc⟩
    · replace hF := condF hb hF
      clear hb
      refine wp_skip ?_
      refine h3 _ _ ?_
      refine wp_seq_k fun K9 h9 => ?_
      obtain ⟨e_3, he_3, hF⟩ := bnd_some hF
      obtain ⟨b_5, o_2, qa_2, qp_2⟩ := h_b__Table.atm he_3
      obtain ⟨e_4, he_4, hF⟩ := bnd_some hF
      obtain ⟨b_6, o_3, qa_3, qp_3⟩ := h_b__Table.atm he_4
      replace hc := hc.nilRow 0 0
      replace hc := hc.nilRow 0 0
      refine regionE (fun θ => [⟨none, none, 2, .pointer (some ⟨b_1, 0, none⟩)⟩, ⟨none, none, 3, .pointer (some ⟨b_2, 0, none⟩)⟩, ⟨none, none, 5, .int .i64 r⟩, ⟨some 0, none, 31, .pointer (some ⟨b_1, 0, none⟩)⟩, ⟨some 1, none, 32, .slice b__Table_p b_.Table.length b__Table_c⟩, ⟨some 2, none, 33, .int .i64 r⟩, ⟨some 3, none, 34, .int .i64 (W (r - 1))⟩, ⟨some 4, none, 35, .pointer (some ⟨b_5, o_2, none⟩)⟩, ⟨some 5, none, 36, .agg #[.int .i64 e_3.Index, .int .i64 e_3.Due]⟩, ⟨some 6, none, 37, .pointer (some ⟨b_1, 0, none⟩)⟩, ⟨some 7, none, 38, .slice b__Table_p b_.Table.length b__Table_c⟩, ⟨some 8, none, 39, .int .i64 r⟩, ⟨some 9, none, 40, .pointer (some ⟨b_6, o_3, none⟩)⟩, ⟨some 10, none, 41, .agg #[.int .i64 e_4.Index, .int .i64 e_4.Due]⟩, ⟨some 11, none, 6, .pointer (some ⟨(θ 88).b, 0, none⟩)⟩, ⟨some 12, none, 7, .pointer (some ⟨(θ 96).b, 0, none⟩)⟩]) (fun E θ => (bif E 14 then .box (θ 96).b [.int .i64 e_4.Index, .int .i64 e_4.Due] 116 else bif E 12 then .box (θ 96).b [.int .i64 0, .int .i64 0] 116 else .row none 0 [] 0 0) :: (bif E 13 then .box (θ 88).b [.int .i64 e_3.Index, .int .i64 e_3.Due] 116 else bif E 11 then .box (θ 88).b [.int .i64 0, .int .i64 0] 116 else .row none 0 [] 0 0) :: .box b_2 [.int .i64 index] 3 :: .box b_1 [.slice b__Table_p b_.Table.length b__Table_c, .int .i64 b_.Credit] 88 :: Lf) [(13, 11), (14, 12)] (fun a w => ∃ (b_9 : Nat) (b_10 : Nat), Has 61 a [(3, .pointer (some ⟨b_2, 0, none⟩)), (6, .pointer (some ⟨b_9, 0, none⟩)), (7, .pointer (some ⟨b_10, 0, none⟩))] ∧ Ctx G (.box b_10 [.int .i64 e_4.Index, .int .i64 e_4.Due] 116 :: .box b_9 [.int .i64 e_3.Index, .int .i64 e_3.Due] 116 :: .box b_2 [.int .i64 index] 3 :: .box b_1 [.slice b__Table_p b_.Table.length b__Table_c, .int .i64 b_.Credit] 88 :: Lf) w) follows_mx (by kernel_rfl) (by kernel_rfl) (HasE.of hf ⟨rfl, rfl, rfl, trivial, trivial, trivial, trivial, trivial, trivial, trivial, trivial, trivial, trivial, trivial, trivial, trivial, trivial⟩) hc ⟨?_, ?_, ?_, ?_, ?_, ?_, ?_, ?_, ?_, ?_, ?_, ?_, ?_, ?_, ?_, trivial⟩ ?_ ?_
      · intro E θ a w hD hi hp he hc
        have hf := he.h0
        replace hf := hf.more he 0 rfl onT
        refine stP hf rfl rfl rfl (pFA fa_88_0 rfl) fun a hf => ?_
        refine cNil ?_
        refine xThenN ?_
        intro ds u hau
        refine ⟨θ, he.put0 hi hau hf rfl 3 rfl rfl, ?_⟩
        exact hc
      · intro E θ a w hD hi hp he hc
        have e0 := hp.of (k := 0) rfl
        have hf := he.h0
        replace hf := hf.more he 3 rfl (onP e0)
        refine stE hf hc rfl rfl rfl (eLd1 sc_86 rfl (cell_box m3 rfl)) fun a w hf hc => ?_
        refine cNil ?_
        refine xThenN ?_
        intro ds u hau
        refine ⟨θ, he.put0 hi hau hf rfl 4 rfl rfl, ?_⟩
        exact hc
      · intro E θ a w hD hi hp he hc
        have hf := he.h0
        replace hf := hf.more he 2 rfl onT
        refine stP hf rfl rfl rfl (pM rfl) fun a hf => ?_
        refine cNil ?_
        refine xThenN ?_
        intro ds u hau
        refine ⟨θ, he.put0 hi hau hf rfl 5 rfl rfl, ?_⟩
        exact hc
      · intro E θ a w hD hi hp he hc
        have e2 := hp.of (k := 2) rfl
        have hf := he.h0
        replace hf := hf.more he 5 rfl (onP e2)
        refine stP hf rfl rfl rfl (pSub rfl rfl) fun a hf => ?_
        refine cNil ?_
        refine xThenN ?_
        intro ds u hau
        refine ⟨θ, he.put0 hi hau hf rfl 6 rfl rfl, ?_⟩
        exact hc
      · intro E θ a w hD hi hp he hc
        have e1 := hp.of (k := 1) rfl
        have e3 := hp.of (k := 3) rfl
        have hf := he.h0
        replace hf := hf.more he 4 rfl (onP e1)
        replace hf := hf.more he 6 rfl (onP e3)
        refine stP hf rfl rfl rfl (pIA Try.underlying86 sz_116 rfl rfl qa_2) fun a hf => ?_
        refine cNil ?_
        refine xThenN ?_
        intro ds u hau
        refine ⟨θ, he.put0 hi hau hf rfl 7 rfl rfl, ?_⟩
        exact hc
      · intro E θ a w hD hi hp he hc
        have e4 := hp.of (k := 4) rfl
        have hf := he.h0
        replace hf := hf.more he 7 rfl (onP e4)
        refine stE hf hc rfl rfl rfl (eLdN (vs := [.int .i64 e_3.Index, .int .i64 e_3.Due]) ag_116 rfl rfl (cells_pc qp_2 (n := 2) (o' := 0) rfl)) fun a w hf hc => ?_
        refine cNil ?_
        refine xThenN ?_
        intro ds u hau
        refine ⟨θ, he.put0 hi hau hf rfl 8 rfl rfl, ?_⟩
        exact hc
      · intro E θ a w hD hi hp he hc
        have hf := he.h0
        replace hf := hf.more he 0 rfl onT
        refine stP hf rfl rfl rfl (pFA fa_88_0 rfl) fun a hf => ?_
        refine cNil ?_
        refine xThenN ?_
        intro ds u hau
        refine ⟨θ, he.put0 hi hau hf rfl 9 rfl rfl, ?_⟩
        exact hc
      · intro E θ a w hD hi hp he hc
        have e6 := hp.of (k := 6) rfl
        have hf := he.h0
        replace hf := hf.more he 9 rfl (onP e6)
        refine stE hf hc rfl rfl rfl (eLd1 sc_86 rfl (cell_box m3 rfl)) fun a w hf hc => ?_
        refine cNil ?_
        refine xThenN ?_
        intro ds u hau
        refine ⟨θ, he.put0 hi hau hf rfl 10 rfl rfl, ?_⟩
        exact hc
      · intro E θ a w hD hi hp he hc
        have hf := he.h0
        replace hf := hf.more he 2 rfl onT
        refine stP hf rfl rfl rfl (pM rfl) fun a hf => ?_
        refine cNil ?_
        refine xThenN ?_
        intro ds u hau
        refine ⟨θ, he.put0 hi hau hf rfl 11 rfl rfl, ?_⟩
        exact hc
      · intro E θ a w hD hi hp he hc
        have e7 := hp.of (k := 7) rfl
        have e8 := hp.of (k := 8) rfl
        have hf := he.h0
        replace hf := hf.more he 10 rfl (onP e7)
        replace hf := hf.more he 11 rfl (onP e8)
        refine stP hf rfl rfl rfl (pIA Try.underlying86 sz_116 rfl rfl qa_3) fun a hf => ?_
        refine cNil ?_
        refine xThenN ?_
        intro ds u hau
        refine ⟨θ, he.put0 hi hau hf rfl 12 rfl rfl, ?_⟩
        exact hc
      · intro E θ a w hD hi hp he hc
        have e9 := hp.of (k := 9) rfl
        have hf := he.h0
        replace hf := hf.more he 12 rfl (onP e9)
        refine stE hf hc rfl rfl rfl (eLdN (vs := [.int .i64 e_4.Index, .int .i64 e_4.Due]) ag_116 rfl rfl (cells_pc qp_3 (n := 2) (o' := 0) rfl)) fun a w hf hc => ?_
        refine cNil ?_
        refine xThenN ?_
        intro ds u hau
        refine ⟨θ, he.put0 hi hau hf rfl 13 rfl rfl, ?_⟩
        exact hc
      · intro E θ a w hD hi hp he hc
        have e13 := hD.f 0 rfl hi
        try dsimp only at hc
        rw [hi, e13] at hc
        have hf := he.h0
        refine stAl (cs := [.int .i64 0, .int .i64 0]) hf hc rfl rfl zr_116 rfl fun b_7 a w hf hc => ?_
        refine cNil ?_
        refine xThenN ?_
        intro ds u hau
        replace hc := hc.drop k2
        replace hc := hc.pick k0
        replace hc := hc.pick k1
        refine ⟨(setT θ 88 ⟨b_7, none, 0⟩), he.put hi hau hf rfl [] trivial ⟨qq, qq, qq, qq, qq, qq, qq, qq, qq, qq, qq, qq, qq, qq, qq, qq, trivial⟩, ?_⟩
        try dsimp only
        rw [updE_self E 11, updE_fls 11 e13 rfl]
        exact hc
      · intro E θ a w hD hi hp he hc
        have e14 := hD.f 1 rfl hi
        try dsimp only at hc
        rw [hi, e14] at hc
        have hf := he.h0
        refine stAl (cs := [.int .i64 0, .int .i64 0]) hf hc rfl rfl zr_116 rfl fun b_8 a w hf hc => ?_
        refine cNil ?_
        refine xThenN ?_
        intro ds u hau
        replace hc := hc.drop k1
        refine ⟨(setT θ 96 ⟨b_8, none, 0⟩), he.put hi hau hf rfl [] trivial ⟨qq, qq, qq, qq, qq, qq, qq, qq, qq, qq, qq, qq, qq, qq, qq, qq, trivial⟩, ?_⟩
        try dsimp only
        rw [updE_self E 12, updE_fls 12 e14 rfl]
        exact hc
      · intro E θ a w hD hi hp he hc
        have e5 := hp.of (k := 5) rfl
        have e11 := hp.of (k := 11) rfl
        try dsimp only at hc
        rw [e11, hi] at hc
        have hf := he.h0
        replace hf := hf.more he 8 rfl (onP e5)
        replace hf := hf.more he 14 rfl (onP e11)
        refine stSt (vs := [.int .i64 e_3.Index, .int .i64 e_3.Due]) hf hc rfl rfl rfl rfl sz_116 rfl rfl u1 fun w hc => ?_
        refine cNil ?_
        refine xThenN ?_
        intro ds u hau
        refine ⟨θ, he.stay0 hi hau hf rfl, ?_⟩
        try dsimp only
        rw [updE_tru 13 e11, updE_self E 13]
        exact hc
      · intro E θ a w hD hi hp he hc
        have e10 := hp.of (k := 10) rfl
        have e12 := hp.of (k := 12) rfl
        try dsimp only at hc
        rw [e12, hi] at hc
        have hf := he.h0
        replace hf := hf.more he 13 rfl (onP e10)
        replace hf := hf.more he 15 rfl (onP e12)
        refine stSt (vs := [.int .i64 e_4.Index, .int .i64 e_4.Due]) hf hc rfl rfl rfl rfl sz_116 rfl rfl u0 fun w hc => ?_
        refine cNil ?_
        refine xThenN ?_
        intro ds u hau
        refine ⟨θ, he.stay0 hi hau hf rfl, ?_⟩
        try dsimp only
        rw [updE_tru 14 e12, updE_self E 14]
        exact hc
      · intro E θ a w hall he hc
        have hf := he.h0
        have e11 := hall 11 rfl
        have e12 := hall 12 rfl
        have e13 := hall 13 rfl
        have e14 := hall 14 rfl
        replace hf := hf.more he 15 rfl (onP e12)
        replace hf := hf.more he 14 rfl (onP e11)
        replace hf := hf.more he 1 rfl (onT)
        try dsimp only at hc
        rw [e11, e12, e13, e14] at hc
        exact ⟨(θ 88).b, (θ 96).b, hf.keep ⟨rfl, rfl, rfl, trivial⟩, hc⟩
      rintro a w ⟨b_9, b_10, hf, hc⟩
      refine h9 _ _ ?_
      refine wp_seq_k fun K10 h10 => ?_
      obtain ⟨un, hun, hF⟩ := bnd_some hF
      refine cQ hc follows_mx (by kernel_rfl) ?_
      refine qE hf rfl rfl rfl (Pu.ev (pFA fa_116_1 rfl)) fun a hf => ?_
      refine qE hf rfl rfl rfl (eLd1 sc_3 rfl (cell_box m1 rfl)) fun a hf => ?_
      refine qE hf rfl rfl rfl (Pu.ev (pFA fa_116_1 rfl)) fun a hf => ?_
      refine qE hf rfl rfl rfl (eLd1 sc_3 rfl (cell_box m0 rfl)) fun a hf => ?_
      refine qE hf rfl rfl rfl (Pu.ev (pFA fa_116_1 rfl)) fun a hf => ?_
      refine qE hf rfl rfl rfl (eLd1 sc_3 rfl (cell_box m1 rfl)) fun a hf => ?_
      refine qE hf rfl rfl rfl (Pu.ev (pSub rfl rfl)) fun a hf => ?_
      refine qE hf rfl rfl rfl (eLd1 sc_3 rfl (cell_box m2 rfl)) fun a hf => ?_
      refine qE hf rfl rfl rfl (Pu.ev (pFA fa_116_0 rfl)) fun a hf => ?_
      refine qE hf rfl rfl rfl (eLd1 sc_3 rfl (cell_box m1 rfl)) fun a hf => ?_
      refine qE hf rfl rfl rfl (Pu.ev (pSub rfl rfl)) fun a hf => ?_
      refine qE hf rfl rfl rfl (Pu.ev (pMul rfl rfl)) fun a hf => ?_
      refine qE hf rfl rfl rfl (Pu.ev (pFA fa_116_0 rfl)) fun a hf => ?_
      refine qE hf rfl rfl rfl (eLd1 sc_3 rfl (cell_box m0 rfl)) fun a hf => ?_
      refine qE hf rfl rfl rfl (Pu.ev (pFA fa_116_0 rfl)) fun a hf => ?_
      refine qE hf rfl rfl rfl (eLd1 sc_3 rfl (cell_box m1 rfl)) fun a hf => ?_
      refine qE hf rfl rfl rfl (Pu.ev (pSub rfl rfl)) fun a hf => ?_
      refine qE hf rfl rfl rfl (Pu.ev (pQuo rfl rfl (nz_spec hun))) fun a hf => ?_
      refine qE hf rfl rfl rfl (Pu.ev (pAdd rfl rfl)) fun a hf => ?_
      refine qE hf rfl rfl rfl (Pu.ev (pA rfl)) fun a hf => ?_
      intro w hc
      refine h10 _ _ ?_
      refine wp_ret ?_
      obtain rfl := Option.some.inj hF
      replace hc := hc.drop k3
      replace hc := hc.drop k2
      replace hc := hc.drop k1
      replace hc := hc.drop k0
      exact fnOut1 (by simp) rfl Try.results97 hf hc (show look _ 4 = _ from rfl) ⟨rfl, hc⟩

def share_Border_goes_1_j5 (N : Nat) (mp : Int → Option Int) (b__0 : Int) : Option (Int × (Int → Option Int) × Int) :=
  some (b__0, mp, b__0)
def share_Border_goes_1_j3 (N : Nat) (t_ : share_Truth) (spill : Bool) (x_1 : share_Border) (x_2 : Int) (due : Int) (mp : Int → Option Int) : Option (Int × (Int → Option Int) × Int) :=
  cond spill
  (share_Border_goes_1_j5 N mp 0)
  (share_Border_goes_1_j5 N mp (max (W (0 - x_1.Credit)) (W ((W (x_2 + due)) - t_.Delivered))))
def share_Border_goes_1 (N : Nat) (t_ : share_Truth) (spill : Bool) (x : Int → Option Int) (x_1 : share_Border) (x_2 : Int) : Option (Int × (Int → Option Int) × Int) :=
  cond (!((x t_.Index).isSome))
  (Option.bind (share_Border_due N x_1 t_.Index) fun r =>
  share_Border_goes_1_j3 N t_ spill x_1 x_2 r (setM x t_.Index r))
  (share_Border_goes_1_j3 N t_ spill x_1 x_2 ((x t_.Index).getD 0) x)
theorem share_Border_goes_1_ok {N : Nat} {G : Pers} {Lf : List Ent} {w : World} (t_ : share_Truth) (spill : Bool) (x : Int → Option Int) (x_1 : share_Border) (x_2 : Int) {b_ : Nat} {mb : Nat} {b__1 : Nat} {x_1_Table_p : Option Addr} {x_1_Table_c : Nat} {b__2 : Nat} (h_x_1_Table : Rd G 2 x_1_Table_p x_1_Table_c (x_1.Table.map enc_share_Point)) (hc : Ctx G (.box b_ [.map (some mb)] 213 :: .im mb (fun j => (x j).map (Value.int .i64)) none :: .box b__1 [.slice x_1_Table_p x_1.Table.length x_1_Table_c, .int .i64 x_1.Credit] 88 :: .box b__2 [.int .i64 x_2] 3 :: Lf) w) {res : Int × (Int → Option Int) × Int} (hF : share_Border_goes_1 N t_ spill x x_1 x_2 = some res) : Calls Try.prog 129 #[.agg #[.int .i64 t_.Index, .int .i64 t_.Delivered], .bool spill, .pointer (some ⟨b_, 0, none⟩), .pointer (some ⟨b__1, 0, none⟩), .pointer (some ⟨b__2, 0, none⟩)] w (fun e w => e = .returned (.int .i64 res.1) ∧ Ctx G (.box b_ [.map (some mb)] 213 :: .im mb (fun j => (res.2.1 j).map (Value.int .i64)) none :: .box b__1 [.slice x_1_Table_p x_1.Table.length x_1_Table_c, .int .i64 x_1.Credit] 88 :: .box b__2 [.int .i64 res.2.2] 3 :: Lf) w) := by
  unfold share_Border_goes_1 at hF
  refine fnIn (args := [.agg #[.int .i64 t_.Index, .int .i64 t_.Delivered], .bool spill, .pointer (some ⟨b_, 0, none⟩), .pointer (some ⟨b__1, 0, none⟩), .pointer (some ⟨b__2, 0, none⟩)]) Try.func129 rfl Try.ntmps129 rfl fun a hf => ?_
  refine wp_seq_k fun K1 h1 => ?_
  refine cReg ?_
  refine stBx (cs := [.int .i64 t_.Index, .int .i64 t_.Delivered]) hf hc rfl rfl rfl rfl fun b_1 a w hf hc => ?_
  refine stP hf rfl rfl rfl (pA rfl) fun a hf => ?_
  refine cNil ?_
  refine h1 _ _ ?_
  refine wp_seq_k fun K2 h2 => ?_
  refine cReg ?_
  refine stE hf hc rfl rfl rfl (eLd1 sc_213 rfl (cell_box m1 rfl)) fun a w hf hc => ?_
  refine stP hf rfl rfl rfl (pFA fa_97_0 rfl) fun a hf => ?_
  refine stE hf hc rfl rfl rfl (eLd1 sc_3 rfl (cell_box m0 rfl)) fun a w hf hc => ?_
  refine stE hf hc rfl rfl rfl (eLkOk (enc := (Value.int .i64)) (z0 := 0) (m := x) m2 Try.underlying213 Try.underlying3 zr_3 rfl rfl) fun a w hf hc => ?_
  refine stP hf rfl rfl rfl (pM rfl) fun a hf => ?_
  refine stP hf rfl rfl rfl (pX rfl rfl) fun a hf => ?_
  refine stP hf rfl rfl rfl (pX rfl rfl) fun a hf => ?_
  refine stP hf rfl rfl rfl (pA rfl) fun a hf => ?_
  refine stP hf rfl rfl rfl (pA rfl) fun a hf => ?_
  refine cNil ?_
  refine h2 _ _ ?_
  refine wp_seq_k fun K3 h3 => ?_
  have hj3 : ∀ (due : Int) (mp : Int → Option Int) a w, Has 39 a [(1, .bool spill), (3, .pointer (some ⟨b__1, 0, none⟩)), (4, .pointer (some ⟨b__2, 0, none⟩)), (5, .pointer (some ⟨b_1, 0, none⟩)), (8, .int .i64 due)] → Ctx G (.box b_1 [.int .i64 t_.Index, .int .i64 t_.Delivered] 97 :: .box b_ [.map (some mb)] 213 :: .im mb (fun j => (mp j).map (Value.int .i64)) none :: .box b__1 [.slice x_1_Table_p x_1.Table.length x_1_Table_c, .int .i64 x_1.Credit] 88 :: .box b__2 [.int .i64 x_2] 3 :: Lf) w → share_Border_goes_1_j3 N t_ spill x_1 x_2 due mp = some res → K3 a w := by
    intro due mp a w hf hc hF
    unfold share_Border_goes_1_j3 at hF
    refine h3 _ _ ?_
    refine wp_seq_k fun K4 h4 => ?_
    refine cReg ?_
    refine stP hf rfl rfl rfl (pFA fa_88_1 rfl) fun a hf => ?_
    refine stE hf hc rfl rfl rfl (eLd1 sc_3 rfl (cell_box m3 rfl)) fun a w hf hc => ?_
    refine stP hf rfl rfl rfl (pNeg rfl) fun a hf => ?_
    refine stE hf hc rfl rfl rfl (eLd1 sc_3 rfl (cell_box m4 rfl)) fun a w hf hc => ?_
    refine stP hf rfl rfl rfl (pM rfl) fun a hf => ?_
    refine stP hf rfl rfl rfl (pAdd rfl rfl) fun a hf => ?_
    refine stP hf rfl rfl rfl (pFA fa_97_1 rfl) fun a hf => ?_
    refine stE hf hc rfl rfl rfl (eLd1 sc_3 rfl (cell_box m0 rfl)) fun a w hf hc => ?_
    refine stP hf rfl rfl rfl (pSub rfl rfl) fun a hf => ?_
    refine stP hf rfl rfl rfl (pMax2 rfl rfl) fun a hf => ?_
    refine stSt (vs := [.int .i64 (max (W (0 - x_1.Credit)) (W ((W (x_2 + due)) - t_.Delivered)))]) hf hc rfl rfl rfl rfl sz_3 rfl rfl u4 fun w hc => ?_
    refine cNil ?_
    refine h4 _ _ ?_
    refine wp_seq_k fun K5 h5 => ?_
    have hj5 : ∀ (b__0 : Int) a w, Has 39 a [(4, .pointer (some ⟨b__2, 0, none⟩))] → Ctx G (.box b_ [.map (some mb)] 213 :: .im mb (fun j => (mp j).map (Value.int .i64)) none :: .box b__1 [.slice x_1_Table_p x_1.Table.length x_1_Table_c, .int .i64 x_1.Credit] 88 :: .box b__2 [.int .i64 b__0] 3 :: Lf) w → share_Border_goes_1_j5 N mp b__0 = some res → K5 a w := by
      intro b__0 a w hf hc hF
      unfold share_Border_goes_1_j5 at hF
      refine h5 _ _ ?_
      refine wp_seq_k fun K6 h6 => ?_
      refine cReg ?_
      refine stE hf hc rfl rfl rfl (eLd1 sc_3 rfl (cell_box m3 rfl)) fun a w hf hc => ?_
      refine stP hf rfl rfl rfl (pA rfl) fun a hf => ?_
      refine cNil ?_
      refine h6 _ _ ?_
      refine wp_ret ?_
      obtain rfl := Option.some.inj hF
      exact fnOut1 (by simp) rfl Try.results129 hf hc (show look _ 7 = _ from rfl) ⟨rfl, hc⟩
    refine wp_seq_k fun K7 h7 => ?_
    refine cReg ?_
    refine stP hf rfl rfl rfl (pM rfl) fun a hf => ?_
    refine cNil ?_
    refine h7 _ _ ?_
    refine cCond (b := spill) hf rfl (fun hb => ?_) (fun hb => ?_)
    · replace hF := condT hb hF
      clear hb
      refine cReg ?_
      refine stSt (vs := [.int .i64 0]) hf hc rfl rfl rfl rfl sz_3 rfl rfl u4 fun w hc => ?_
      refine cNil ?_
      replace hc := hc.drop k0
      exact hj5 0 _ _  (hf.keep ⟨rfl, trivial⟩) hc hF
    · replace hF := condF hb hF
      clear hb
      refine wp_skip ?_
      replace hc := hc.drop k0
      exact hj5 (max (W (0 - x_1.Credit)) (W ((W (x_2 + due)) - t_.Delivered))) _ _  (hf.keep ⟨rfl, trivial⟩) hc hF
  refine wp_seq_k fun K8 h8 => ?_
  refine cReg ?_
  refine stP hf rfl rfl rfl (pM rfl) fun a hf => ?_
  refine stP hf rfl rfl rfl (pNot rfl) fun a hf => ?_
  refine cNil ?_
  refine h8 _ _ ?_
  refine cCond (b := (!((x t_.Index).isSome))) hf rfl (fun hb => ?_) (fun hb => ?_)
  · replace hF := condT hb hF
    clear hb
    refine wp_seq_k fun K9 h9 => ?_
    refine cReg ?_
    refine stE hf hc rfl rfl rfl (eLdN (vs := [.slice x_1_Table_p x_1.Table.length x_1_Table_c, .int .i64 x_1.Credit]) ag_88 rfl rfl (cells_box (n := 2) m3 rfl)) fun a w hf hc => ?_
    refine stP hf rfl rfl rfl (pFA fa_97_0 rfl) fun a hf => ?_
    refine stE hf hc rfl rfl rfl (eLd1 sc_3 rfl (cell_box m0 rfl)) fun a w hf hc => ?_
    obtain ⟨r, hr, hF⟩ := bnd_some hF
    refine stE hf hc rfl rfl rfl (eC (v := .int .i64 r) (vs := [.agg #[.slice x_1_Table_p x_1.Table.length x_1_Table_c, .int .i64 x_1.Credit], .int .i64 t_.Index]) (caps := []) en_97 rfl rfl rfl rfl (fun w hc => share_Border_due_ok x_1 t_.Index h_x_1_Table hc hr)) fun a w hf hc => ?_
    refine stP hf rfl rfl rfl (pA rfl) fun a hf => ?_
    refine cNil ?_
    refine h9 _ _ ?_
    refine cReg ?_
    refine stE hf hc rfl rfl rfl (eLd1 sc_213 rfl (cell_box m1 rfl)) fun a w hf hc => ?_
    refine stP hf rfl rfl rfl (pFA fa_97_0 rfl) fun a hf => ?_
    refine stE hf hc rfl rfl rfl (eLd1 sc_3 rfl (cell_box m0 rfl)) fun a w hf hc => ?_
    refine stP hf rfl rfl rfl (pM rfl) fun a hf => ?_
    refine stMU (enc := (Value.int .i64)) (m := x) (v := r) hf hc rfl Try.underlying213 Try.underlying3 rfl rfl rfl u2 fun w hc => ?_
    refine cNil ?_
    exact hj3 r (setM x t_.Index r) _ _  (hf.keep ⟨rfl, rfl, rfl, rfl, rfl, trivial⟩) hc hF
  · replace hF := condF hb hF
    clear hb
    refine wp_skip ?_
    exact hj3 ((x t_.Index).getD 0) x _ _  (hf.keep ⟨rfl, rfl, rfl, rfl, rfl, trivial⟩) hc hF

def share_high_1 (s_ : api_Span) : Int :=
  s_.Hi
theorem share_high_1_ok {G : Pers} {Lf : List Ent} {w : World} (s_ : api_Span)   (hc : Ctx G (Lf) w) {res : Int} (hF : share_high_1 s_ = res) : Calls Try.prog 132 #[.agg #[.int .i64 s_.Lo, .int .i64 s_.Hi]] w (fun e w => e = .returned (.int .i64 res) ∧ Ctx G (Lf) w) := by
  unfold share_high_1 at hF
  refine fnIn (args := [.agg #[.int .i64 s_.Lo, .int .i64 s_.Hi]]) Try.func132 rfl Try.ntmps132 rfl fun a hf => ?_
  refine wp_seq_k fun K1 h1 => ?_
  refine cReg ?_
  refine stBx (cs := [.int .i64 s_.Lo, .int .i64 s_.Hi]) hf hc rfl rfl rfl rfl fun b_1 a w hf hc => ?_
  refine stP hf rfl rfl rfl (pA rfl) fun a hf => ?_
  refine cNil ?_
  refine h1 _ _ ?_
  refine wp_seq_k fun K2 h2 => ?_
  refine cReg ?_
  refine stP hf rfl rfl rfl (pFA fa_26_1 rfl) fun a hf => ?_
  refine stE hf hc rfl rfl rfl (eLd1 sc_3 rfl (cell_box m0 rfl)) fun a w hf hc => ?_
  refine stP hf rfl rfl rfl (pA rfl) fun a hf => ?_
  refine cNil ?_
  refine h2 _ _ ?_
  refine wp_ret ?_
  obtain rfl := hF
  replace hc := hc.drop k0
  exact fnOut1 (by simp) rfl Try.results132 hf hc (show look _ 2 = _ from rfl) ⟨rfl, hc⟩

def share_high_2 (s_ : api_Span) : Int :=
  s_.Lo
theorem share_high_2_ok {G : Pers} {Lf : List Ent} {w : World} (s_ : api_Span)   (hc : Ctx G (Lf) w) {res : Int} (hF : share_high_2 s_ = res) : Calls Try.prog 133 #[.agg #[.int .i64 s_.Lo, .int .i64 s_.Hi]] w (fun e w => e = .returned (.int .i64 res) ∧ Ctx G (Lf) w) := by
  unfold share_high_2 at hF
  refine fnIn (args := [.agg #[.int .i64 s_.Lo, .int .i64 s_.Hi]]) Try.func133 rfl Try.ntmps133 rfl fun a hf => ?_
  refine wp_seq_k fun K1 h1 => ?_
  refine cReg ?_
  refine stBx (cs := [.int .i64 s_.Lo, .int .i64 s_.Hi]) hf hc rfl rfl rfl rfl fun b_1 a w hf hc => ?_
  refine stP hf rfl rfl rfl (pA rfl) fun a hf => ?_
  refine cNil ?_
  refine h1 _ _ ?_
  refine wp_seq_k fun K2 h2 => ?_
  refine cReg ?_
  refine stP hf rfl rfl rfl (pFA fa_26_0 rfl) fun a hf => ?_
  refine stE hf hc rfl rfl rfl (eLd1 sc_3 rfl (cell_box m0 rfl)) fun a w hf hc => ?_
  refine stP hf rfl rfl rfl (pA rfl) fun a hf => ?_
  refine cNil ?_
  refine h2 _ _ ?_
  refine wp_ret ?_
  obtain rfl := hF
  replace hc := hc.drop k0
  exact fnOut1 (by simp) rfl Try.results133 hf hc (show look _ 2 = _ from rfl) ⟨rfl, hc⟩

def share_Debts_b11 (N : Nat) (b_ : share_Border) (years : List share_Year) (r_1 : (Int → Option Int) × Int × Int) (r_2 : (Int → Option Int) × Int × Int) (out : List api_Span) (x : Int) (x_1 : Int) (x_2 : Int) (mp : Int → Option Int) (mp_1 : Int → Option Int) : Option (Step ((List api_Span) × Int × Int × Int × (Int → Option Int) × (Int → Option Int)) ((List api_Span) × Int)) :=
  cond (decide (x < ((years.length : Nat) : Int)))
  (Option.bind (getI years x) fun e_1 =>
  Option.bind (share_Border_goes_1 N (⟨(share_low_1 e_1.Index), (share_low_2 e_1.Delivered)⟩ : share_Truth) e_1.Spill mp_1 (⟨b_.Table, r_1.2.1⟩ : share_Border) x_1) fun r_5 =>
  Option.bind (share_Border_goes_1 N (⟨(share_high_1 e_1.Index), (share_high_2 e_1.Delivered)⟩ : share_Truth) e_1.Spill mp (⟨b_.Table, r_2.2.1⟩ : share_Border) x_2) fun r_6 =>
  Option.bind (room ((out ++ [(⟨r_5.1, r_6.1⟩ : api_Span)])).length) fun un =>
  some (.cont ((out ++ [(⟨r_5.1, r_6.1⟩ : api_Span)]), W (x + 1), r_5.2.2, r_6.2.2, r_6.2.1, r_5.2.1)))
  (some (.brk (out, x, x_1, x_2, mp, mp_1)))
def share_Debts (N : Nat) (b_ : share_Border) (start : api_Span) (years : List share_Year) : Option ((List api_Span) × Int) :=
  Option.bind (share_asked N b_ start years) fun r =>
  cond (r != 0)
  (some (([] : List api_Span), r))
  (Option.bind (share_Border_goes N b_ start.Lo) fun r_1 =>
  Option.bind (share_Border_goes N b_ start.Hi) fun r_2 =>
  Option.bind (share_low N) fun r_3 =>
  Option.bind (share_high N) fun r_4 =>
  Option.bind (loopO (fun s11 => share_Debts_b11 N b_ years r_1 r_2 s11.1 s11.2.1 s11.2.2.1 s11.2.2.2.1 s11.2.2.2.2.1 s11.2.2.2.2.2) N (([] : List api_Span), 0, r_1.2.2, r_2.2.2, r_2.1, r_1.1)) fun x11 =>
  exK x11 (fun s11 => some (s11.1, 0)) some)
theorem share_Debts_ok {N : Nat} {G : Pers} {Lf : List Ent} {w : World} (b_ : share_Border) (start : api_Span) (years : List share_Year) {b__Table_p : Option Addr} {b__Table_c : Nat} {years_p : Option Addr} {years_c : Nat} (h_b__Table : Rd G 2 b__Table_p b__Table_c (b_.Table.map enc_share_Point)) (h_years : Rd G 5 years_p years_c (years.map enc_share_Year)) (hc : Ctx G (Lf) w) {res : (List api_Span) × Int} (hF : share_Debts N b_ start years = some res) : Calls Try.prog 54 #[.agg #[.slice b__Table_p b_.Table.length b__Table_c, .int .i64 b_.Credit], .agg #[.int .i64 start.Lo, .int .i64 start.Hi], .slice years_p years.length years_c] w (fun e w => ∃ (p'1 : Option Addr) (c'1 : Nat), e = .returned (.tuple #[.slice p'1 res.1.length c'1, .int .i64 res.2]) ∧ Ctx G (.row p'1 c'1 (res.1.map enc_api_Span) 26 2 :: Lf) w) := by
  unfold share_Debts at hF
  refine fnIn (args := [.agg #[.slice b__Table_p b_.Table.length b__Table_c, .int .i64 b_.Credit], .agg #[.int .i64 start.Lo, .int .i64 start.Hi], .slice years_p years.length years_c]) Try.func54 rfl Try.ntmps54 rfl fun a hf => ?_
  refine wp_seq_k fun K1 h1 => ?_
  refine cReg ?_
  refine stBx (cs := [.slice b__Table_p b_.Table.length b__Table_c, .int .i64 b_.Credit]) hf hc rfl rfl rfl rfl fun b_1 a w hf hc => ?_
  refine stBx (cs := [.int .i64 start.Lo, .int .i64 start.Hi]) hf hc rfl rfl rfl rfl fun b_2 a w hf hc => ?_
  refine stP hf rfl rfl rfl (pA rfl) fun a hf => ?_
  refine stP hf rfl rfl rfl (pA rfl) fun a hf => ?_
  refine cNil ?_
  refine h1 _ _ ?_
  refine wp_seq_k fun K2 h2 => ?_
  refine wp_seq_k fun K3 h3 => ?_
  refine cReg ?_
  refine stE hf hc rfl rfl rfl (eLdN (vs := [.slice b__Table_p b_.Table.length b__Table_c, .int .i64 b_.Credit]) ag_88 rfl rfl (cells_box (n := 2) m1 rfl)) fun a w hf hc => ?_
  refine stE hf hc rfl rfl rfl (eLdN (vs := [.int .i64 start.Lo, .int .i64 start.Hi]) ag_26 rfl rfl (cells_box (n := 2) m0 rfl)) fun a w hf hc => ?_
  refine stP hf rfl rfl rfl (pM rfl) fun a hf => ?_
  obtain ⟨r, hr, hF⟩ := bnd_some hF
  refine stE hf hc rfl rfl rfl (eC (v := .int .i64 r) (vs := [.agg #[.slice b__Table_p b_.Table.length b__Table_c, .int .i64 b_.Credit], .agg #[.int .i64 start.Lo, .int .i64 start.Hi], .slice years_p years.length years_c]) (caps := []) en_99 rfl rfl rfl rfl (fun w hc => share_asked_ok b_ start years h_b__Table h_years hc hr)) fun a w hf hc => ?_
  refine stP hf rfl rfl rfl (pA rfl) fun a hf => ?_
  refine cNil ?_
  refine h3 _ _ ?_
  refine wp_seq_k fun K4 h4 => ?_
  refine cReg ?_
  refine stP hf rfl rfl rfl (pM rfl) fun a hf => ?_
  refine stP hf rfl rfl rfl (pNe rfl rfl) fun a hf => ?_
  refine cNil ?_
  refine h4 _ _ ?_
  refine cCond (b := (r != 0)) hf rfl (fun hb => ?_) (fun hb => ?_)
  · replace hF := condT hb hF
    clear hb
    refine wp_seq_k fun K5 h5 => ?_
    refine cReg ?_
    refine stP hf rfl rfl rfl (pM rfl) fun a hf => ?_
    refine stP hf rfl rfl rfl (pA rfl) fun a hf => ?_
    refine stP hf rfl rfl rfl (pA rfl) fun a hf => ?_
    refine cNil ?_
    refine h5 _ _ ?_
    refine wp_ret ?_
    refine xThenR ?_
    obtain rfl := Option.some.inj hF
    replace hc := hc.nilRow 26 2
    replace hc := hc.drop k2
    replace hc := hc.drop k1
    exact fnOut2 (by simp) rfl Try.results54 hf hc (show look _ 6 = _ from rfl) (show look _ 7 = _ from rfl) ⟨none, 0, rfl, hc⟩
  · replace hF := condF hb hF
    clear hb
    refine wp_skip ?_
    refine h2 _ _ ?_
    refine wp_seq_k fun K6 h6 => ?_
    refine cReg ?_
    refine stP hf rfl rfl rfl (pA rfl) fun a hf => ?_
    refine cNil ?_
    refine h6 _ _ ?_
    refine wp_seq_k fun K7 h7 => ?_
    obtain ⟨r_1, hr_1, hF⟩ := bnd_some hF
    obtain ⟨r_2, hr_2, hF⟩ := bnd_some hF
    replace hc := hc.nilRow 0 0
    replace hc := hc.nilRow 0 0
    replace hc := hc.nilRow 0 0
    replace hc := hc.nilRow 0 0
    replace hc := hc.nilRow 0 0
    replace hc := hc.nilRow 0 0
    replace hc := hc.nilRow 0 0
    replace hc := hc.nilRow 0 0
    refine regionE (fun θ => [⟨none, none, 2, .slice years_p years.length years_c⟩, ⟨none, none, 3, .pointer (some ⟨b_1, 0, none⟩)⟩, ⟨none, none, 4, .pointer (some ⟨b_2, 0, none⟩)⟩, ⟨none, none, 9, .slice none 0 0⟩, ⟨some 0, none, 25, .agg #[.slice b__Table_p b_.Table.length b__Table_c, .int .i64 b_.Credit]⟩, ⟨some 1, none, 26, .pointer (some ⟨b_2, 0, none⟩)⟩, ⟨some 2, none, 27, .int .i64 start.Lo⟩, ⟨some 3, none, 28, .func (.func 129) #[] #[.pointer (some ⟨(θ 24).b, 0, none⟩), .pointer (some ⟨(θ 26).b, 0, none⟩), .pointer (some ⟨(θ 27).b, 0, none⟩)]⟩, ⟨some 4, none, 29, .agg #[.slice b__Table_p b_.Table.length b__Table_c, .int .i64 b_.Credit]⟩, ⟨some 5, none, 30, .pointer (some ⟨b_2, 1, none⟩)⟩, ⟨some 6, none, 31, .int .i64 start.Hi⟩, ⟨some 7, none, 32, .func (.func 129) #[] #[.pointer (some ⟨(θ 56).b, 0, none⟩), .pointer (some ⟨(θ 58).b, 0, none⟩), .pointer (some ⟨(θ 59).b, 0, none⟩)]⟩, ⟨some 8, none, 10, .func (.func 129) #[] #[.pointer (some ⟨(θ 24).b, 0, none⟩), .pointer (some ⟨(θ 26).b, 0, none⟩), .pointer (some ⟨(θ 27).b, 0, none⟩)]⟩, ⟨some 9, none, 11, .func (.func 129) #[] #[.pointer (some ⟨(θ 56).b, 0, none⟩), .pointer (some ⟨(θ 58).b, 0, none⟩), .pointer (some ⟨(θ 59).b, 0, none⟩)]⟩]) (fun E θ => (bif E 7 then .box (θ 59).b [.int .i64 r_2.2.2] 3 else .row none 0 [] 0 0) :: (bif E 7 then .box (θ 58).b [.slice b__Table_p b_.Table.length b__Table_c, .int .i64 r_2.2.1] 88 else .row none 0 [] 0 0) :: (bif E 7 then .box (θ 56).b [.map (some ((θ 57).b))] 213 else .row none 0 [] 0 0) :: (bif E 7 then .im ((θ 57).b) (fun j => (r_2.1 j).map (Value.int .i64)) none else .row none 0 [] 0 0) :: (bif E 3 then .box (θ 27).b [.int .i64 r_1.2.2] 3 else .row none 0 [] 0 0) :: (bif E 3 then .box (θ 26).b [.slice b__Table_p b_.Table.length b__Table_c, .int .i64 r_1.2.1] 88 else .row none 0 [] 0 0) :: (bif E 3 then .box (θ 24).b [.map (some ((θ 25).b))] 213 else .row none 0 [] 0 0) :: (bif E 3 then .im ((θ 25).b) (fun j => (r_1.1 j).map (Value.int .i64)) none else .row none 0 [] 0 0) :: .box b_2 [.int .i64 start.Lo, .int .i64 start.Hi] 26 :: .box b_1 [.slice b__Table_p b_.Table.length b__Table_c, .int .i64 b_.Credit] 88 :: Lf) [(8, 3), (9, 7)] (fun a w => ∃ (b_11 : Nat) (b_12 : Nat) (b_13 : Nat) (b_14 : Nat) (b_15 : Nat) (b_16 : Nat) (b_17 : Nat) (b_18 : Nat), Has 79 a [(2, .slice years_p years.length years_c), (9, .slice none 0 0), (10, .func (.func 129) #[] #[.pointer (some ⟨b_11, 0, none⟩), .pointer (some ⟨b_12, 0, none⟩), .pointer (some ⟨b_13, 0, none⟩)]), (11, .func (.func 129) #[] #[.pointer (some ⟨b_14, 0, none⟩), .pointer (some ⟨b_15, 0, none⟩), .pointer (some ⟨b_16, 0, none⟩)])] ∧ Ctx G (.box b_16 [.int .i64 r_2.2.2] 3 :: .box b_15 [.slice b__Table_p b_.Table.length b__Table_c, .int .i64 r_2.2.1] 88 :: .box b_14 [.map (some b_17)] 213 :: .im b_17 (fun j => (r_2.1 j).map (Value.int .i64)) none :: .box b_13 [.int .i64 r_1.2.2] 3 :: .box b_12 [.slice b__Table_p b_.Table.length b__Table_c, .int .i64 r_1.2.1] 88 :: .box b_11 [.map (some b_18)] 213 :: .im b_18 (fun j => (r_1.1 j).map (Value.int .i64)) none :: .box b_2 [.int .i64 start.Lo, .int .i64 start.Hi] 26 :: .box b_1 [.slice b__Table_p b_.Table.length b__Table_c, .int .i64 b_.Credit] 88 :: Lf) w) follows_mx (by kernel_rfl) (by kernel_rfl) (HasE.of hf ⟨rfl, rfl, rfl, rfl, trivial, trivial, trivial, trivial, trivial, trivial, trivial, trivial, trivial, trivial, trivial⟩) hc ⟨?_, ?_, ?_, ?_, ?_, ?_, ?_, ?_, ?_, ?_, trivial⟩ ?_ ?_
    · intro E θ a w hD hi hp he hc
      have hf := he.h0
      replace hf := hf.more he 1 rfl onT
      refine stE hf hc rfl rfl rfl (eLdN (vs := [.slice b__Table_p b_.Table.length b__Table_c, .int .i64 b_.Credit]) ag_88 rfl rfl (cells_box (n := 2) m9 rfl)) fun a w hf hc => ?_
      refine cNil ?_
      refine xThenN ?_
      intro ds u hau
      refine ⟨θ, he.put0 hi hau hf rfl 4 rfl rfl, ?_⟩
      exact hc
    · intro E θ a w hD hi hp he hc
      have hf := he.h0
      replace hf := hf.more he 2 rfl onT
      refine stP hf rfl rfl rfl (pFA fa_26_0 rfl) fun a hf => ?_
      refine cNil ?_
      refine xThenN ?_
      intro ds u hau
      refine ⟨θ, he.put0 hi hau hf rfl 5 rfl rfl, ?_⟩
      exact hc
    · intro E θ a w hD hi hp he hc
      have e1 := hp.of (k := 1) rfl
      have hf := he.h0
      replace hf := hf.more he 5 rfl (onP e1)
      refine stE hf hc rfl rfl rfl (eLd1 sc_3 rfl (cell_box m8 rfl)) fun a w hf hc => ?_
      refine cNil ?_
      refine xThenN ?_
      intro ds u hau
      refine ⟨θ, he.put0 hi hau hf rfl 6 rfl rfl, ?_⟩
      exact hc
    · intro E θ a w hD hi hp he hc
      have e0 := hp.of (k := 0) rfl
      have e2 := hp.of (k := 2) rfl
      have e8 := hD.f 0 rfl hi
      try dsimp only at hc
      rw [hi] at hc
      have hf := he.h0
      replace hf := hf.more he 4 rfl (onP e0)
      replace hf := hf.more he 6 rfl (onP e2)
      refine stC (vs := [.agg #[.slice b__Table_p b_.Table.length b__Table_c, .int .i64 b_.Credit], .int .i64 start.Lo]) (caps := []) hf rfl rfl rfl en_100 rfl rfl rfl rfl (share_Border_goes_ok b_ start.Lo h_b__Table hc hr_1) ?_
      rintro _ w ⟨b_3, b_4, b_5, b_6, rfl, hc⟩
      refine ⟨_, rfl, fun a hf => ?_⟩
      refine cNil ?_
      refine xThenN ?_
      intro ds u hau
      replace hc := hc.drop k11
      replace hc := hc.drop k10
      replace hc := hc.drop k9
      replace hc := hc.drop k8
      replace hc := hc.pick k0
      replace hc := hc.pick k1
      replace hc := hc.pick k2
      replace hc := hc.pick k3
      replace hc := hc.pick k7
      replace hc := hc.pick k7
      replace hc := hc.pick k7
      replace hc := hc.pick k7
      refine ⟨(setT (setT (setT (setT θ 24 ⟨b_3, none, 0⟩) 25 ⟨b_4, none, 0⟩) 26 ⟨b_5, none, 0⟩) 27 ⟨b_6, none, 0⟩), he.put hi hau hf rfl [8] ⟨⟨e8, rfl⟩, trivial⟩ ⟨qq, qq, qq, qq, qq, qq, qq, qq, qq, qq, qq, qq, trivial, qq, trivial⟩, ?_⟩
      try dsimp only
      rw [updE_self E 3]
      exact hc
    · intro E θ a w hD hi hp he hc
      have hf := he.h0
      replace hf := hf.more he 1 rfl onT
      refine stE hf hc rfl rfl rfl (eLdN (vs := [.slice b__Table_p b_.Table.length b__Table_c, .int .i64 b_.Credit]) ag_88 rfl rfl (cells_box (n := 2) m9 rfl)) fun a w hf hc => ?_
      refine cNil ?_
      refine xThenN ?_
      intro ds u hau
      refine ⟨θ, he.put0 hi hau hf rfl 8 rfl rfl, ?_⟩
      exact hc
    · intro E θ a w hD hi hp he hc
      have hf := he.h0
      replace hf := hf.more he 2 rfl onT
      refine stP hf rfl rfl rfl (pFA fa_26_1 rfl) fun a hf => ?_
      refine cNil ?_
      refine xThenN ?_
      intro ds u hau
      refine ⟨θ, he.put0 hi hau hf rfl 9 rfl rfl, ?_⟩
      exact hc
    · intro E θ a w hD hi hp he hc
      have e5 := hp.of (k := 5) rfl
      have hf := he.h0
      replace hf := hf.more he 9 rfl (onP e5)
      refine stE hf hc rfl rfl rfl (eLd1 sc_3 rfl (cell_box m8 rfl)) fun a w hf hc => ?_
      refine cNil ?_
      refine xThenN ?_
      intro ds u hau
      refine ⟨θ, he.put0 hi hau hf rfl 10 rfl rfl, ?_⟩
      exact hc
    · intro E θ a w hD hi hp he hc
      have e4 := hp.of (k := 4) rfl
      have e6 := hp.of (k := 6) rfl
      have e9 := hD.f 1 rfl hi
      try dsimp only at hc
      rw [hi] at hc
      have hf := he.h0
      replace hf := hf.more he 8 rfl (onP e4)
      replace hf := hf.more he 10 rfl (onP e6)
      refine stC (vs := [.agg #[.slice b__Table_p b_.Table.length b__Table_c, .int .i64 b_.Credit], .int .i64 start.Hi]) (caps := []) hf rfl rfl rfl en_100 rfl rfl rfl rfl (share_Border_goes_ok b_ start.Hi h_b__Table hc hr_2) ?_
      rintro _ w ⟨b_7, b_8, b_9, b_10, rfl, hc⟩
      refine ⟨_, rfl, fun a hf => ?_⟩
      refine cNil ?_
      refine xThenN ?_
      intro ds u hau
      replace hc := hc.drop k7
      replace hc := hc.drop k6
      replace hc := hc.drop k5
      replace hc := hc.drop k4
      replace hc := hc.pick k0
      replace hc := hc.pick k1
      replace hc := hc.pick k2
      replace hc := hc.pick k3
      refine ⟨(setT (setT (setT (setT θ 56 ⟨b_7, none, 0⟩) 57 ⟨b_8, none, 0⟩) 58 ⟨b_9, none, 0⟩) 59 ⟨b_10, none, 0⟩), he.put hi hau hf rfl [9] ⟨⟨e9, rfl⟩, trivial⟩ ⟨qq, qq, qq, qq, qq, qq, qq, qq, qq, qq, qq, qq, qq, trivial, trivial⟩, ?_⟩
      try dsimp only
      rw [updE_self E 7]
      exact hc
    · intro E θ a w hD hi hp he hc
      have e3 := hp.of (k := 3) rfl
      have hf := he.h0
      replace hf := hf.more he 7 rfl (onP e3)
      refine stP hf rfl rfl rfl (pA rfl) fun a hf => ?_
      refine cNil ?_
      refine xThenN ?_
      intro ds u hau
      refine ⟨θ, he.put0 hi hau hf rfl 12 rfl rfl, ?_⟩
      exact hc
    · intro E θ a w hD hi hp he hc
      have e7 := hp.of (k := 7) rfl
      have hf := he.h0
      replace hf := hf.more he 11 rfl (onP e7)
      refine stP hf rfl rfl rfl (pA rfl) fun a hf => ?_
      refine cNil ?_
      refine xThenN ?_
      intro ds u hau
      refine ⟨θ, he.put0 hi hau hf rfl 13 rfl rfl, ?_⟩
      exact hc
    · intro E θ a w hall he hc
      have hf := he.h0
      have e3 := hall 3 rfl
      have e7 := hall 7 rfl
      have e8 := hall 8 rfl
      have e9 := hall 9 rfl
      replace hf := hf.more he 13 rfl (onP e9)
      replace hf := hf.more he 12 rfl (onP e8)
      replace hf := hf.more he 3 rfl (onT)
      replace hf := hf.more he 0 rfl (onT)
      try dsimp only at hc
      rw [e3, e7] at hc
      exact ⟨(θ 24).b, (θ 26).b, (θ 27).b, (θ 56).b, (θ 58).b, (θ 59).b, (θ 57).b, (θ 25).b, hf.keep ⟨rfl, rfl, rfl, rfl, trivial⟩, hc⟩
    rintro a w ⟨b_11, b_12, b_13, b_14, b_15, b_16, b_17, b_18, hf, hc⟩
    refine h7 _ _ ?_
    refine wp_seq_k fun K8 h8 => ?_
    refine cReg ?_
    obtain ⟨r_3, hr_3, hF⟩ := bnd_some hF
    refine stE hf hc rfl rfl rfl (eC (v := .agg #[.func (.func 130) #[] #[], .func (.func 131) #[] #[]]) (vs := []) (caps := []) en_103 rfl rfl rfl rfl (fun w hc => share_low_ok hc hr_3)) fun a w hf hc => ?_
    obtain ⟨r_4, hr_4, hF⟩ := bnd_some hF
    refine stE hf hc rfl rfl rfl (eC (v := .agg #[.func (.func 132) #[] #[], .func (.func 133) #[] #[]]) (vs := []) (caps := []) en_104 rfl rfl rfl rfl (fun w hc => share_high_ok hc hr_4)) fun a w hf hc => ?_
    refine stAl (cs := [.nilFunc, .nilFunc]) hf hc rfl rfl zr_192 rfl fun b_19 a w hf hc => ?_
    refine stAl (cs := [.nilFunc, .nilFunc]) hf hc rfl rfl zr_192 rfl fun b_20 a w hf hc => ?_
    refine stSt (vs := [.func (.func 130) #[] #[], .func (.func 131) #[] #[]]) hf hc rfl rfl rfl rfl sz_192 rfl rfl u1 fun w hc => ?_
    refine stSt (vs := [.func (.func 132) #[] #[], .func (.func 133) #[] #[]]) hf hc rfl rfl rfl rfl sz_192 rfl rfl u0 fun w hc => ?_
    refine cNil ?_
    refine h8 _ _ ?_
    refine wp_seq_k fun K9 h9 => ?_
    refine wp_seq_k fun K10 h10 => ?_
    refine cReg ?_
    refine stP hf rfl rfl rfl (pM rfl) fun a hf => ?_
    refine stP hf rfl rfl rfl (pLenS Try.underlying89 rfl) fun a hf => ?_
    refine stP hf rfl rfl rfl (pM rfl) fun a hf => ?_
    refine cNil ?_
    refine h10 _ _ ?_
    refine wp_block ?_
    obtain ⟨x11, hx11, hF⟩ := bnd_some hF
    let S11 : ((List api_Span) × Int × Int × Int × (Int → Option Int) × (Int → Option Int)) → Act → World → Prop := (fun (zz : (List api_Span) × Int × Int × Int × (Int → Option Int) × (Int → Option Int)) a w => ∃ (p_1 : Option Addr) (c_1 : Nat), Has 79 a [(9, .slice p_1 zz.1.length c_1), (10, .func (.func 129) #[] #[.pointer (some ⟨b_11, 0, none⟩), .pointer (some ⟨b_12, 0, none⟩), .pointer (some ⟨b_13, 0, none⟩)]), (11, .func (.func 129) #[] #[.pointer (some ⟨b_14, 0, none⟩), .pointer (some ⟨b_15, 0, none⟩), .pointer (some ⟨b_16, 0, none⟩)]), (12, .pointer (some ⟨b_19, 0, none⟩)), (13, .pointer (some ⟨b_20, 0, none⟩)), (35, .slice years_p years.length years_c), (36, .int .i64 ((years.length : Nat) : Int)), (37, .int .i64 zz.2.1)] ∧ Ctx G (.row p_1 c_1 (zz.1.map enc_api_Span) 26 2 :: .box b_20 [.func (.func 132) #[] #[], .func (.func 133) #[] #[]] 192 :: .box b_19 [.func (.func 130) #[] #[], .func (.func 131) #[] #[]] 192 :: .box b_16 [.int .i64 zz.2.2.2.1] 3 :: .box b_15 [.slice b__Table_p b_.Table.length b__Table_c, .int .i64 r_2.2.1] 88 :: .box b_14 [.map (some b_17)] 213 :: .im b_17 (fun j => (zz.2.2.2.2.1 j).map (Value.int .i64)) none :: .box b_13 [.int .i64 zz.2.2.1] 3 :: .box b_12 [.slice b__Table_p b_.Table.length b__Table_c, .int .i64 r_1.2.1] 88 :: .box b_11 [.map (some b_18)] 213 :: .im b_18 (fun j => (zz.2.2.2.2.2 j).map (Value.int .i64)) none :: Lf) w)
    have hr11 : ∀ (zz : (List api_Span) × Int × Int × Int × (Int → Option Int) × (Int → Option Int)) a w, x11 = .go zz → S11 zz a w → K9 a w := by
      rintro ⟨out, x, x_1, x_2, mp, mp_1⟩ a w rfl ⟨p_1, c_1, hf, hc⟩
      replace hF : _ = some res := hF
      refine h9 _ _ ?_
      refine wp_seq_k fun K12 h12 => ?_
      refine cReg ?_
      refine stP hf rfl rfl rfl (pM rfl) fun a hf => ?_
      refine stP hf rfl rfl rfl (pA rfl) fun a hf => ?_
      refine stP hf rfl rfl rfl (pA rfl) fun a hf => ?_
      refine cNil ?_
      refine h12 _ _ ?_
      refine wp_ret ?_
      obtain rfl := Option.some.inj hF
      replace hc := hc.drop k10
      replace hc := hc.drop k9
      replace hc := hc.drop k8
      replace hc := hc.drop k7
      replace hc := hc.drop k6
      replace hc := hc.drop k5
      replace hc := hc.drop k4
      replace hc := hc.drop k3
      replace hc := hc.drop k2
      replace hc := hc.drop k1
      exact fnOut2 (by simp) rfl Try.results54 hf hc (show look _ 6 = _ from rfl) (show look _ 7 = _ from rfl) ⟨p_1, c_1, rfl, hc⟩
    have ho11 : ∀ r, x11 = .out r → r = res := by
      rintro r rfl
      exact Option.some.inj hF
    replace hc := hc.nilRow 26 2
    replace hc := hc.drop k12
    replace hc := hc.drop k11
    refine cLoop N (loopW (S := S11) (x := x11) ?_ N (([] : List api_Span), 0, r_1.2.2, r_2.2.2, r_2.1, r_1.1) _ _ ⟨none, 0, hf.keep ⟨rfl, rfl, rfl, rfl, rfl, rfl, rfl, rfl, trivial⟩, hc⟩ hx11)
    clear hF hf hc
    rintro ⟨out, x, x_1, x_2, mp, mp_1⟩ st11 a w KB11 ⟨p_1, c_1, hf, hc⟩ hF hfin11 hK11
    unfold share_Debts_b11 at hF
    refine wp_seq_k fun K13 h13 => ?_
    refine cReg ?_
    refine stP hf rfl rfl rfl (pLt rfl rfl) fun a hf => ?_
    refine cNil ?_
    refine h13 _ _ ?_
    refine wp_seq_k fun K14 h14 => ?_
    refine cCond (b := (decide (x < ((years.length : Nat) : Int)))) hf rfl (fun hb => ?_) (fun hb => ?_)
    · replace hF := condT hb hF
      clear hb
      refine wp_skip ?_
      refine h14 _ _ ?_
      refine wp_seq_k fun K15 h15 => ?_
      refine wp_block ?_
      refine wp_seq_k fun K16 h16 => ?_
      refine cReg ?_
      obtain ⟨e_1, he_1, hF⟩ := bnd_some hF
      obtain ⟨b_21, o, qa, qp⟩ := h_years.atm he_1
      refine stP hf rfl rfl rfl (pIA Try.underlying89 sz_94 rfl rfl qa) fun a hf => ?_
      refine stE hf hc rfl rfl rfl (eLdN (vs := [.int .i64 e_1.Index.Lo, .int .i64 e_1.Index.Hi, .int .i64 e_1.Delivered.Lo, .int .i64 e_1.Delivered.Hi, .bool e_1.Spill]) ag_94 rfl rfl (cells_pc qp (n := 5) (o' := 0) rfl)) fun a w hf hc => ?_
      refine stAl (cs := [.int .i64 0, .int .i64 0, .int .i64 0, .int .i64 0, .bool false]) hf hc rfl rfl zr_94 rfl fun b_22 a w hf hc => ?_
      refine stSt (vs := [.int .i64 e_1.Index.Lo, .int .i64 e_1.Index.Hi, .int .i64 e_1.Delivered.Lo, .int .i64 e_1.Delivered.Hi, .bool e_1.Spill]) hf hc rfl rfl rfl rfl sz_94 rfl rfl u0 fun w hc => ?_
      refine cNil ?_
      refine h16 _ _ ?_
      refine wp_seq_k fun K17 h17 => ?_
      obtain ⟨r_5, hr_5, hF⟩ := bnd_some hF
      refine regionE (fun θ => [⟨none, none, 9, .slice p_1 out.length c_1⟩, ⟨none, none, 10, .func (.func 129) #[] #[.pointer (some ⟨b_11, 0, none⟩), .pointer (some ⟨b_12, 0, none⟩), .pointer (some ⟨b_13, 0, none⟩)]⟩, ⟨none, none, 11, .func (.func 129) #[] #[.pointer (some ⟨b_14, 0, none⟩), .pointer (some ⟨b_15, 0, none⟩), .pointer (some ⟨b_16, 0, none⟩)]⟩, ⟨none, none, 12, .pointer (some ⟨b_19, 0, none⟩)⟩, ⟨none, none, 13, .pointer (some ⟨b_20, 0, none⟩)⟩, ⟨none, none, 15, .pointer (some ⟨b_22, 0, none⟩)⟩, ⟨none, none, 35, .slice years_p years.length years_c⟩, ⟨none, none, 36, .int .i64 ((years.length : Nat) : Int)⟩, ⟨none, none, 37, .int .i64 x⟩, ⟨some 0, none, 41, .func (.func 129) #[] #[.pointer (some ⟨b_11, 0, none⟩), .pointer (some ⟨b_12, 0, none⟩), .pointer (some ⟨b_13, 0, none⟩)]⟩, ⟨some 1, none, 42, .pointer (some ⟨b_19, 0, none⟩)⟩, ⟨some 2, none, 43, .func (.func 130) #[] #[]⟩, ⟨some 3, none, 44, .pointer (some ⟨b_22, 0, none⟩)⟩, ⟨some 4, none, 45, .agg #[.int .i64 e_1.Index.Lo, .int .i64 e_1.Index.Hi]⟩, ⟨some 5, none, 46, .int .i64 (share_low_1 e_1.Index)⟩, ⟨some 6, none, 47, .pointer (some ⟨b_19, 1, none⟩)⟩, ⟨some 7, none, 48, .func (.func 131) #[] #[]⟩, ⟨some 8, none, 49, .pointer (some ⟨b_22, 2, none⟩)⟩, ⟨some 9, none, 50, .agg #[.int .i64 e_1.Delivered.Lo, .int .i64 e_1.Delivered.Hi]⟩, ⟨some 10, none, 51, .int .i64 (share_low_2 e_1.Delivered)⟩, ⟨some 11, none, 52, .agg #[.int .i64 (share_low_1 e_1.Index), .int .i64 (share_low_2 e_1.Delivered)]⟩, ⟨some 12, none, 53, .pointer (some ⟨b_22, 4, none⟩)⟩, ⟨some 13, none, 54, .bool e_1.Spill⟩, ⟨some 14, none, 55, .int .i64 r_5.1⟩, ⟨some 15, none, 16, .int .i64 r_5.1⟩]) (fun E θ => .box b_22 [.int .i64 e_1.Index.Lo, .int .i64 e_1.Index.Hi, .int .i64 e_1.Delivered.Lo, .int .i64 e_1.Delivered.Hi, .bool e_1.Spill] 94 :: .row p_1 c_1 (out.map enc_api_Span) 26 2 :: .box b_20 [.func (.func 132) #[] #[], .func (.func 133) #[] #[]] 192 :: .box b_19 [.func (.func 130) #[] #[], .func (.func 131) #[] #[]] 192 :: .box b_16 [.int .i64 x_2] 3 :: .box b_15 [.slice b__Table_p b_.Table.length b__Table_c, .int .i64 r_2.2.1] 88 :: .box b_14 [.map (some b_17)] 213 :: .im b_17 (fun j => (mp j).map (Value.int .i64)) none :: (bif E 14 then .box b_13 [.int .i64 r_5.2.2] 3 else .box b_13 [.int .i64 x_1] 3) :: .box b_12 [.slice b__Table_p b_.Table.length b__Table_c, .int .i64 r_1.2.1] 88 :: .box b_11 [.map (some b_18)] 213 :: (bif E 14 then .im b_18 (fun j => (r_5.2.1 j).map (Value.int .i64)) none else .im b_18 (fun j => (mp_1 j).map (Value.int .i64)) none) :: Lf) [] (fun a w => Has 79 a [(9, .slice p_1 out.length c_1), (10, .func (.func 129) #[] #[.pointer (some ⟨b_11, 0, none⟩), .pointer (some ⟨b_12, 0, none⟩), .pointer (some ⟨b_13, 0, none⟩)]), (11, .func (.func 129) #[] #[.pointer (some ⟨b_14, 0, none⟩), .pointer (some ⟨b_15, 0, none⟩), .pointer (some ⟨b_16, 0, none⟩)]), (12, .pointer (some ⟨b_19, 0, none⟩)), (13, .pointer (some ⟨b_20, 0, none⟩)), (15, .pointer (some ⟨b_22, 0, none⟩)), (35, .slice years_p years.length years_c), (36, .int .i64 ((years.length : Nat) : Int)), (37, .int .i64 x), (16, .int .i64 r_5.1)] ∧ Ctx G (.box b_22 [.int .i64 e_1.Index.Lo, .int .i64 e_1.Index.Hi, .int .i64 e_1.Delivered.Lo, .int .i64 e_1.Delivered.Hi, .bool e_1.Spill] 94 :: .row p_1 c_1 (out.map enc_api_Span) 26 2 :: .box b_20 [.func (.func 132) #[] #[], .func (.func 133) #[] #[]] 192 :: .box b_19 [.func (.func 130) #[] #[], .func (.func 131) #[] #[]] 192 :: .box b_16 [.int .i64 x_2] 3 :: .box b_15 [.slice b__Table_p b_.Table.length b__Table_c, .int .i64 r_2.2.1] 88 :: .box b_14 [.map (some b_17)] 213 :: .im b_17 (fun j => (mp j).map (Value.int .i64)) none :: .box b_13 [.int .i64 r_5.2.2] 3 :: .box b_12 [.slice b__Table_p b_.Table.length b__Table_c, .int .i64 r_1.2.1] 88 :: .box b_11 [.map (some b_18)] 213 :: .im b_18 (fun j => (r_5.2.1 j).map (Value.int .i64)) none :: Lf) w) follows_mx (by kernel_rfl) (by kernel_rfl) (HasE.of hf ⟨rfl, rfl, rfl, rfl, rfl, rfl, rfl, rfl, rfl, trivial, trivial, trivial, trivial, trivial, trivial, trivial, trivial, trivial, trivial, trivial, trivial, trivial, trivial, trivial, trivial, trivial⟩) hc ⟨?_, ?_, ?_, ?_, ?_, ?_, ?_, ?_, ?_, ?_, ?_, ?_, ?_, ?_, ?_, ?_, trivial⟩ ?_ ?_
      · intro E θ a w hD hi hp he hc
        have hf := he.h0
        replace hf := hf.more he 1 rfl onT
        refine stP hf rfl rfl rfl (pM rfl) fun a hf => ?_
        refine cNil ?_
        refine xThenN ?_
        intro ds u hau
        refine ⟨θ, he.put0 hi hau hf rfl 9 rfl rfl, ?_⟩
        exact hc
      · intro E θ a w hD hi hp he hc
        have hf := he.h0
        replace hf := hf.more he 3 rfl onT
        refine stP hf rfl rfl rfl (pFA fa_192_0 rfl) fun a hf => ?_
        refine cNil ?_
        refine xThenN ?_
        intro ds u hau
        refine ⟨θ, he.put0 hi hau hf rfl 10 rfl rfl, ?_⟩
        exact hc
      · intro E θ a w hD hi hp he hc
        have e1 := hp.of (k := 1) rfl
        have hf := he.h0
        replace hf := hf.more he 10 rfl (onP e1)
        refine stE hf hc rfl rfl rfl (eLd1 sc_190 rfl (cell_box m3 rfl)) fun a w hf hc => ?_
        refine cNil ?_
        refine xThenN ?_
        intro ds u hau
        refine ⟨θ, he.put0 hi hau hf rfl 11 rfl rfl, ?_⟩
        exact hc
      · intro E θ a w hD hi hp he hc
        have hf := he.h0
        replace hf := hf.more he 5 rfl onT
        refine stP hf rfl rfl rfl (pFA fa_94_0 rfl) fun a hf => ?_
        refine cNil ?_
        refine xThenN ?_
        intro ds u hau
        refine ⟨θ, he.put0 hi hau hf rfl 12 rfl rfl, ?_⟩
        exact hc
      · intro E θ a w hD hi hp he hc
        have e3 := hp.of (k := 3) rfl
        have hf := he.h0
        replace hf := hf.more he 12 rfl (onP e3)
        refine stE hf hc rfl rfl rfl (eLdN (vs := [.int .i64 e_1.Index.Lo, .int .i64 e_1.Index.Hi]) ag_26 rfl rfl (cells_box (n := 2) m0 rfl)) fun a w hf hc => ?_
        refine cNil ?_
        refine xThenN ?_
        intro ds u hau
        refine ⟨θ, he.put0 hi hau hf rfl 13 rfl rfl, ?_⟩
        exact hc
      · intro E θ a w hD hi hp he hc
        have e2 := hp.of (k := 2) rfl
        have e4 := hp.of (k := 4) rfl
        have hf := he.h0
        replace hf := hf.more he 11 rfl (onP e2)
        replace hf := hf.more he 13 rfl (onP e4)
        refine stE hf hc rfl rfl rfl (eC (v := .int .i64 (share_low_1 e_1.Index)) (vs := [.agg #[.int .i64 e_1.Index.Lo, .int .i64 e_1.Index.Hi]]) (caps := []) en_130 rfl rfl rfl rfl (fun w hc => share_low_1_ok e_1.Index hc rfl)) fun a w hf hc => ?_
        refine cNil ?_
        refine xThenN ?_
        intro ds u hau
        refine ⟨θ, he.put0 hi hau hf rfl 14 rfl rfl, ?_⟩
        exact hc
      · intro E θ a w hD hi hp he hc
        have hf := he.h0
        replace hf := hf.more he 3 rfl onT
        refine stP hf rfl rfl rfl (pFA fa_192_1 rfl) fun a hf => ?_
        refine cNil ?_
        refine xThenN ?_
        intro ds u hau
        refine ⟨θ, he.put0 hi hau hf rfl 15 rfl rfl, ?_⟩
        exact hc
      · intro E θ a w hD hi hp he hc
        have e6 := hp.of (k := 6) rfl
        have hf := he.h0
        replace hf := hf.more he 15 rfl (onP e6)
        refine stE hf hc rfl rfl rfl (eLd1 sc_190 rfl (cell_box m3 rfl)) fun a w hf hc => ?_
        refine cNil ?_
        refine xThenN ?_
        intro ds u hau
        refine ⟨θ, he.put0 hi hau hf rfl 16 rfl rfl, ?_⟩
        exact hc
      · intro E θ a w hD hi hp he hc
        have hf := he.h0
        replace hf := hf.more he 5 rfl onT
        refine stP hf rfl rfl rfl (pFA fa_94_1 rfl) fun a hf => ?_
        refine cNil ?_
        refine xThenN ?_
        intro ds u hau
        refine ⟨θ, he.put0 hi hau hf rfl 17 rfl rfl, ?_⟩
        exact hc
      · intro E θ a w hD hi hp he hc
        have e8 := hp.of (k := 8) rfl
        have hf := he.h0
        replace hf := hf.more he 17 rfl (onP e8)
        refine stE hf hc rfl rfl rfl (eLdN (vs := [.int .i64 e_1.Delivered.Lo, .int .i64 e_1.Delivered.Hi]) ag_26 rfl rfl (cells_box (n := 2) m0 rfl)) fun a w hf hc => ?_
        refine cNil ?_
        refine xThenN ?_
        intro ds u hau
        refine ⟨θ, he.put0 hi hau hf rfl 18 rfl rfl, ?_⟩
        exact hc
      · intro E θ a w hD hi hp he hc
        have e7 := hp.of (k := 7) rfl
        have e9 := hp.of (k := 9) rfl
        have hf := he.h0
        replace hf := hf.more he 16 rfl (onP e7)
        replace hf := hf.more he 18 rfl (onP e9)
        refine stE hf hc rfl rfl rfl (eC (v := .int .i64 (share_low_2 e_1.Delivered)) (vs := [.agg #[.int .i64 e_1.Delivered.Lo, .int .i64 e_1.Delivered.Hi]]) (caps := []) en_131 rfl rfl rfl rfl (fun w hc => share_low_2_ok e_1.Delivered hc rfl)) fun a w hf hc => ?_
        refine cNil ?_
        refine xThenN ?_
        intro ds u hau
        refine ⟨θ, he.put0 hi hau hf rfl 19 rfl rfl, ?_⟩
        exact hc
      · intro E θ a w hD hi hp he hc
        have e5 := hp.of (k := 5) rfl
        have e10 := hp.of (k := 10) rfl
        have hf := he.h0
        replace hf := hf.more he 14 rfl (onP e5)
        replace hf := hf.more he 19 rfl (onP e10)
        refine stP hf rfl rfl rfl (pBuildS (cells := [.int .i64 (share_low_1 e_1.Index), .int .i64 (share_low_2 e_1.Delivered)]) bt_97 rfl rfl) fun a hf => ?_
        refine cNil ?_
        refine xThenN ?_
        intro ds u hau
        refine ⟨θ, he.put0 hi hau hf rfl 20 rfl rfl, ?_⟩
        exact hc
      · intro E θ a w hD hi hp he hc
        have hf := he.h0
        replace hf := hf.more he 5 rfl onT
        refine stP hf rfl rfl rfl (pFA fa_94_2 rfl) fun a hf => ?_
        refine cNil ?_
        refine xThenN ?_
        intro ds u hau
        refine ⟨θ, he.put0 hi hau hf rfl 21 rfl rfl, ?_⟩
        exact hc
      · intro E θ a w hD hi hp he hc
        have e12 := hp.of (k := 12) rfl
        have hf := he.h0
        replace hf := hf.more he 21 rfl (onP e12)
        refine stE hf hc rfl rfl rfl (eLd1 sc_4 rfl (cell_box m0 rfl)) fun a w hf hc => ?_
        refine cNil ?_
        refine xThenN ?_
        intro ds u hau
        refine ⟨θ, he.put0 hi hau hf rfl 22 rfl rfl, ?_⟩
        exact hc
      · intro E θ a w hD hi hp he hc
        have e0 := hp.of (k := 0) rfl
        have e11 := hp.of (k := 11) rfl
        have e13 := hp.of (k := 13) rfl
        try dsimp only at hc
        rw [hi] at hc
        have hf := he.h0
        replace hf := hf.more he 9 rfl (onP e0)
        replace hf := hf.more he 20 rfl (onP e11)
        replace hf := hf.more he 22 rfl (onP e13)
        refine stC (vs := [.agg #[.int .i64 (share_low_1 e_1.Index), .int .i64 (share_low_2 e_1.Delivered)], .bool e_1.Spill]) (caps := [.pointer (some ⟨b_11, 0, none⟩), .pointer (some ⟨b_12, 0, none⟩), .pointer (some ⟨b_13, 0, none⟩)]) hf rfl rfl rfl en_129 rfl rfl rfl rfl (share_Border_goes_1_ok (⟨(share_low_1 e_1.Index), (share_low_2 e_1.Delivered)⟩ : share_Truth) e_1.Spill mp_1 (⟨b_.Table, r_1.2.1⟩ : share_Border) x_1 h_b__Table ((((hc.pick k8).pick k9).pick k11).pick k11) hr_5) ?_
        rintro _ w ⟨rfl, hc⟩
        refine ⟨_, rfl, fun a hf => ?_⟩
        refine cNil ?_
        refine xThenN ?_
        intro ds u hau
        replace hc := hc.pick k1
        replace hc := hc.pick k1
        replace hc := hc.pick k2
        replace hc := hc.pick k3
        replace hc := hc.pick k11
        replace hc := hc.pick k11
        replace hc := hc.pick k11
        replace hc := hc.pick k11
        replace hc := hc.pick k11
        replace hc := hc.pick k11
        replace hc := hc.pick k11
        replace hc := hc.pick k11
        refine ⟨θ, he.put0 hi hau hf rfl 23 rfl rfl, ?_⟩
        try dsimp only
        rw [updE_self E 14]
        exact hc
      · intro E θ a w hD hi hp he hc
        have e14 := hp.of (k := 14) rfl
        have hf := he.h0
        replace hf := hf.more he 23 rfl (onP e14)
        refine stP hf rfl rfl rfl (pA rfl) fun a hf => ?_
        refine cNil ?_
        refine xThenN ?_
        intro ds u hau
        refine ⟨θ, he.put0 hi hau hf rfl 24 rfl rfl, ?_⟩
        exact hc
      · intro E θ a w hall he hc
        have hf := he.h0
        have e14 := hall 14 rfl
        have e15 := hall 15 rfl
        replace hf := hf.more he 24 rfl (onP e15)
        replace hf := hf.more he 8 rfl (onT)
        replace hf := hf.more he 7 rfl (onT)
        replace hf := hf.more he 6 rfl (onT)
        replace hf := hf.more he 5 rfl (onT)
        replace hf := hf.more he 4 rfl (onT)
        replace hf := hf.more he 3 rfl (onT)
        replace hf := hf.more he 2 rfl (onT)
        replace hf := hf.more he 1 rfl (onT)
        replace hf := hf.more he 0 rfl (onT)
        try dsimp only at hc
        rw [e14] at hc
        exact ⟨hf.keep ⟨rfl, rfl, rfl, rfl, rfl, rfl, rfl, rfl, rfl, rfl, trivial⟩, hc⟩
      rintro a w ⟨hf, hc⟩
      refine h17 _ _ ?_
      refine wp_seq_k fun K18 h18 => ?_
      obtain ⟨r_6, hr_6, hF⟩ := bnd_some hF
      refine regionE (fun θ => [⟨none, none, 9, .slice p_1 out.length c_1⟩, ⟨none, none, 10, .func (.func 129) #[] #[.pointer (some ⟨b_11, 0, none⟩), .pointer (some ⟨b_12, 0, none⟩), .pointer (some ⟨b_13, 0, none⟩)]⟩, ⟨none, none, 11, .func (.func 129) #[] #[.pointer (some ⟨b_14, 0, none⟩), .pointer (some ⟨b_15, 0, none⟩), .pointer (some ⟨b_16, 0, none⟩)]⟩, ⟨none, none, 12, .pointer (some ⟨b_19, 0, none⟩)⟩, ⟨none, none, 13, .pointer (some ⟨b_20, 0, none⟩)⟩, ⟨none, none, 15, .pointer (some ⟨b_22, 0, none⟩)⟩, ⟨none, none, 16, .int .i64 r_5.1⟩, ⟨none, none, 35, .slice years_p years.length years_c⟩, ⟨none, none, 36, .int .i64 ((years.length : Nat) : Int)⟩, ⟨none, none, 37, .int .i64 x⟩, ⟨some 0, none, 56, .func (.func 129) #[] #[.pointer (some ⟨b_14, 0, none⟩), .pointer (some ⟨b_15, 0, none⟩), .pointer (some ⟨b_16, 0, none⟩)]⟩, ⟨some 1, none, 57, .pointer (some ⟨b_20, 0, none⟩)⟩, ⟨some 2, none, 58, .func (.func 132) #[] #[]⟩, ⟨some 3, none, 59, .pointer (some ⟨b_22, 0, none⟩)⟩, ⟨some 4, none, 60, .agg #[.int .i64 e_1.Index.Lo, .int .i64 e_1.Index.Hi]⟩, ⟨some 5, none, 61, .int .i64 (share_high_1 e_1.Index)⟩, ⟨some 6, none, 62, .pointer (some ⟨b_20, 1, none⟩)⟩, ⟨some 7, none, 63, .func (.func 133) #[] #[]⟩, ⟨some 8, none, 64, .pointer (some ⟨b_22, 2, none⟩)⟩, ⟨some 9, none, 65, .agg #[.int .i64 e_1.Delivered.Lo, .int .i64 e_1.Delivered.Hi]⟩, ⟨some 10, none, 66, .int .i64 (share_high_2 e_1.Delivered)⟩, ⟨some 11, none, 67, .agg #[.int .i64 (share_high_1 e_1.Index), .int .i64 (share_high_2 e_1.Delivered)]⟩, ⟨some 12, none, 68, .pointer (some ⟨b_22, 4, none⟩)⟩, ⟨some 13, none, 69, .bool e_1.Spill⟩, ⟨some 14, none, 70, .int .i64 r_6.1⟩, ⟨some 15, none, 17, .int .i64 r_6.1⟩]) (fun E θ => .box b_22 [.int .i64 e_1.Index.Lo, .int .i64 e_1.Index.Hi, .int .i64 e_1.Delivered.Lo, .int .i64 e_1.Delivered.Hi, .bool e_1.Spill] 94 :: .row p_1 c_1 (out.map enc_api_Span) 26 2 :: .box b_20 [.func (.func 132) #[] #[], .func (.func 133) #[] #[]] 192 :: .box b_19 [.func (.func 130) #[] #[], .func (.func 131) #[] #[]] 192 :: (bif E 14 then .box b_16 [.int .i64 r_6.2.2] 3 else .box b_16 [.int .i64 x_2] 3) :: .box b_15 [.slice b__Table_p b_.Table.length b__Table_c, .int .i64 r_2.2.1] 88 :: .box b_14 [.map (some b_17)] 213 :: (bif E 14 then .im b_17 (fun j => (r_6.2.1 j).map (Value.int .i64)) none else .im b_17 (fun j => (mp j).map (Value.int .i64)) none) :: .box b_13 [.int .i64 r_5.2.2] 3 :: .box b_12 [.slice b__Table_p b_.Table.length b__Table_c, .int .i64 r_1.2.1] 88 :: .box b_11 [.map (some b_18)] 213 :: .im b_18 (fun j => (r_5.2.1 j).map (Value.int .i64)) none :: Lf) [] (fun a w => Has 79 a [(9, .slice p_1 out.length c_1), (10, .func (.func 129) #[] #[.pointer (some ⟨b_11, 0, none⟩), .pointer (some ⟨b_12, 0, none⟩), .pointer (some ⟨b_13, 0, none⟩)]), (11, .func (.func 129) #[] #[.pointer (some ⟨b_14, 0, none⟩), .pointer (some ⟨b_15, 0, none⟩), .pointer (some ⟨b_16, 0, none⟩)]), (12, .pointer (some ⟨b_19, 0, none⟩)), (13, .pointer (some ⟨b_20, 0, none⟩)), (16, .int .i64 r_5.1), (35, .slice years_p years.length years_c), (36, .int .i64 ((years.length : Nat) : Int)), (37, .int .i64 x), (17, .int .i64 r_6.1)] ∧ Ctx G (.box b_22 [.int .i64 e_1.Index.Lo, .int .i64 e_1.Index.Hi, .int .i64 e_1.Delivered.Lo, .int .i64 e_1.Delivered.Hi, .bool e_1.Spill] 94 :: .row p_1 c_1 (out.map enc_api_Span) 26 2 :: .box b_20 [.func (.func 132) #[] #[], .func (.func 133) #[] #[]] 192 :: .box b_19 [.func (.func 130) #[] #[], .func (.func 131) #[] #[]] 192 :: .box b_16 [.int .i64 r_6.2.2] 3 :: .box b_15 [.slice b__Table_p b_.Table.length b__Table_c, .int .i64 r_2.2.1] 88 :: .box b_14 [.map (some b_17)] 213 :: .im b_17 (fun j => (r_6.2.1 j).map (Value.int .i64)) none :: .box b_13 [.int .i64 r_5.2.2] 3 :: .box b_12 [.slice b__Table_p b_.Table.length b__Table_c, .int .i64 r_1.2.1] 88 :: .box b_11 [.map (some b_18)] 213 :: .im b_18 (fun j => (r_5.2.1 j).map (Value.int .i64)) none :: Lf) w) follows_mx (by kernel_rfl) (by kernel_rfl) (HasE.of hf ⟨rfl, rfl, rfl, rfl, rfl, rfl, rfl, rfl, rfl, rfl, trivial, trivial, trivial, trivial, trivial, trivial, trivial, trivial, trivial, trivial, trivial, trivial, trivial, trivial, trivial, trivial, trivial⟩) hc ⟨?_, ?_, ?_, ?_, ?_, ?_, ?_, ?_, ?_, ?_, ?_, ?_, ?_, ?_, ?_, ?_, trivial⟩ ?_ ?_
      · intro E θ a w hD hi hp he hc
        have hf := he.h0
        replace hf := hf.more he 2 rfl onT
        refine stP hf rfl rfl rfl (pM rfl) fun a hf => ?_
        refine cNil ?_
        refine xThenN ?_
        intro ds u hau
        refine ⟨θ, he.put0 hi hau hf rfl 10 rfl rfl, ?_⟩
        exact hc
      · intro E θ a w hD hi hp he hc
        have hf := he.h0
        replace hf := hf.more he 4 rfl onT
        refine stP hf rfl rfl rfl (pFA fa_192_0 rfl) fun a hf => ?_
        refine cNil ?_
        refine xThenN ?_
        intro ds u hau
        refine ⟨θ, he.put0 hi hau hf rfl 11 rfl rfl, ?_⟩
        exact hc
      · intro E θ a w hD hi hp he hc
        have e1 := hp.of (k := 1) rfl
        have hf := he.h0
        replace hf := hf.more he 11 rfl (onP e1)
        refine stE hf hc rfl rfl rfl (eLd1 sc_190 rfl (cell_box m2 rfl)) fun a w hf hc => ?_
        refine cNil ?_
        refine xThenN ?_
        intro ds u hau
        refine ⟨θ, he.put0 hi hau hf rfl 12 rfl rfl, ?_⟩
        exact hc
      · intro E θ a w hD hi hp he hc
        have hf := he.h0
        replace hf := hf.more he 5 rfl onT
        refine stP hf rfl rfl rfl (pFA fa_94_0 rfl) fun a hf => ?_
        refine cNil ?_
        refine xThenN ?_
        intro ds u hau
        refine ⟨θ, he.put0 hi hau hf rfl 13 rfl rfl, ?_⟩
        exact hc
      · intro E θ a w hD hi hp he hc
        have e3 := hp.of (k := 3) rfl
        have hf := he.h0
        replace hf := hf.more he 13 rfl (onP e3)
        refine stE hf hc rfl rfl rfl (eLdN (vs := [.int .i64 e_1.Index.Lo, .int .i64 e_1.Index.Hi]) ag_26 rfl rfl (cells_box (n := 2) m0 rfl)) fun a w hf hc => ?_
        refine cNil ?_
        refine xThenN ?_
        intro ds u hau
        refine ⟨θ, he.put0 hi hau hf rfl 14 rfl rfl, ?_⟩
        exact hc
      · intro E θ a w hD hi hp he hc
        have e2 := hp.of (k := 2) rfl
        have e4 := hp.of (k := 4) rfl
        have hf := he.h0
        replace hf := hf.more he 12 rfl (onP e2)
        replace hf := hf.more he 14 rfl (onP e4)
        refine stE hf hc rfl rfl rfl (eC (v := .int .i64 (share_high_1 e_1.Index)) (vs := [.agg #[.int .i64 e_1.Index.Lo, .int .i64 e_1.Index.Hi]]) (caps := []) en_132 rfl rfl rfl rfl (fun w hc => share_high_1_ok e_1.Index hc rfl)) fun a w hf hc => ?_
        refine cNil ?_
        refine xThenN ?_
        intro ds u hau
        refine ⟨θ, he.put0 hi hau hf rfl 15 rfl rfl, ?_⟩
        exact hc
      · intro E θ a w hD hi hp he hc
        have hf := he.h0
        replace hf := hf.more he 4 rfl onT
        refine stP hf rfl rfl rfl (pFA fa_192_1 rfl) fun a hf => ?_
        refine cNil ?_
        refine xThenN ?_
        intro ds u hau
        refine ⟨θ, he.put0 hi hau hf rfl 16 rfl rfl, ?_⟩
        exact hc
      · intro E θ a w hD hi hp he hc
        have e6 := hp.of (k := 6) rfl
        have hf := he.h0
        replace hf := hf.more he 16 rfl (onP e6)
        refine stE hf hc rfl rfl rfl (eLd1 sc_190 rfl (cell_box m2 rfl)) fun a w hf hc => ?_
        refine cNil ?_
        refine xThenN ?_
        intro ds u hau
        refine ⟨θ, he.put0 hi hau hf rfl 17 rfl rfl, ?_⟩
        exact hc
      · intro E θ a w hD hi hp he hc
        have hf := he.h0
        replace hf := hf.more he 5 rfl onT
        refine stP hf rfl rfl rfl (pFA fa_94_1 rfl) fun a hf => ?_
        refine cNil ?_
        refine xThenN ?_
        intro ds u hau
        refine ⟨θ, he.put0 hi hau hf rfl 18 rfl rfl, ?_⟩
        exact hc
      · intro E θ a w hD hi hp he hc
        have e8 := hp.of (k := 8) rfl
        have hf := he.h0
        replace hf := hf.more he 18 rfl (onP e8)
        refine stE hf hc rfl rfl rfl (eLdN (vs := [.int .i64 e_1.Delivered.Lo, .int .i64 e_1.Delivered.Hi]) ag_26 rfl rfl (cells_box (n := 2) m0 rfl)) fun a w hf hc => ?_
        refine cNil ?_
        refine xThenN ?_
        intro ds u hau
        refine ⟨θ, he.put0 hi hau hf rfl 19 rfl rfl, ?_⟩
        exact hc
      · intro E θ a w hD hi hp he hc
        have e7 := hp.of (k := 7) rfl
        have e9 := hp.of (k := 9) rfl
        have hf := he.h0
        replace hf := hf.more he 17 rfl (onP e7)
        replace hf := hf.more he 19 rfl (onP e9)
        refine stE hf hc rfl rfl rfl (eC (v := .int .i64 (share_high_2 e_1.Delivered)) (vs := [.agg #[.int .i64 e_1.Delivered.Lo, .int .i64 e_1.Delivered.Hi]]) (caps := []) en_133 rfl rfl rfl rfl (fun w hc => share_high_2_ok e_1.Delivered hc rfl)) fun a w hf hc => ?_
        refine cNil ?_
        refine xThenN ?_
        intro ds u hau
        refine ⟨θ, he.put0 hi hau hf rfl 20 rfl rfl, ?_⟩
        exact hc
      · intro E θ a w hD hi hp he hc
        have e5 := hp.of (k := 5) rfl
        have e10 := hp.of (k := 10) rfl
        have hf := he.h0
        replace hf := hf.more he 15 rfl (onP e5)
        replace hf := hf.more he 20 rfl (onP e10)
        refine stP hf rfl rfl rfl (pBuildS (cells := [.int .i64 (share_high_1 e_1.Index), .int .i64 (share_high_2 e_1.Delivered)]) bt_97 rfl rfl) fun a hf => ?_
        refine cNil ?_
        refine xThenN ?_
        intro ds u hau
        refine ⟨θ, he.put0 hi hau hf rfl 21 rfl rfl, ?_⟩
        exact hc
      · intro E θ a w hD hi hp he hc
        have hf := he.h0
        replace hf := hf.more he 5 rfl onT
        refine stP hf rfl rfl rfl (pFA fa_94_2 rfl) fun a hf => ?_
        refine cNil ?_
        refine xThenN ?_
        intro ds u hau
        refine ⟨θ, he.put0 hi hau hf rfl 22 rfl rfl, ?_⟩
        exact hc
      · intro E θ a w hD hi hp he hc
        have e12 := hp.of (k := 12) rfl
        have hf := he.h0
        replace hf := hf.more he 22 rfl (onP e12)
        refine stE hf hc rfl rfl rfl (eLd1 sc_4 rfl (cell_box m0 rfl)) fun a w hf hc => ?_
        refine cNil ?_
        refine xThenN ?_
        intro ds u hau
        refine ⟨θ, he.put0 hi hau hf rfl 23 rfl rfl, ?_⟩
        exact hc
      · intro E θ a w hD hi hp he hc
        have e0 := hp.of (k := 0) rfl
        have e11 := hp.of (k := 11) rfl
        have e13 := hp.of (k := 13) rfl
        try dsimp only at hc
        rw [hi] at hc
        have hf := he.h0
        replace hf := hf.more he 10 rfl (onP e0)
        replace hf := hf.more he 21 rfl (onP e11)
        replace hf := hf.more he 23 rfl (onP e13)
        refine stC (vs := [.agg #[.int .i64 (share_high_1 e_1.Index), .int .i64 (share_high_2 e_1.Delivered)], .bool e_1.Spill]) (caps := [.pointer (some ⟨b_14, 0, none⟩), .pointer (some ⟨b_15, 0, none⟩), .pointer (some ⟨b_16, 0, none⟩)]) hf rfl rfl rfl en_129 rfl rfl rfl rfl (share_Border_goes_1_ok (⟨(share_high_1 e_1.Index), (share_high_2 e_1.Delivered)⟩ : share_Truth) e_1.Spill mp (⟨b_.Table, r_2.2.1⟩ : share_Border) x_2 h_b__Table ((((hc.pick k4).pick k5).pick k7).pick k7) hr_6) ?_
        rintro _ w ⟨rfl, hc⟩
        refine ⟨_, rfl, fun a hf => ?_⟩
        refine cNil ?_
        refine xThenN ?_
        intro ds u hau
        replace hc := hc.pick k1
        replace hc := hc.pick k1
        replace hc := hc.pick k2
        replace hc := hc.pick k3
        replace hc := hc.pick k7
        replace hc := hc.pick k7
        replace hc := hc.pick k7
        replace hc := hc.pick k7
        refine ⟨θ, he.put0 hi hau hf rfl 24 rfl rfl, ?_⟩
        try dsimp only
        rw [updE_self E 14]
        exact hc
      · intro E θ a w hD hi hp he hc
        have e14 := hp.of (k := 14) rfl
        have hf := he.h0
        replace hf := hf.more he 24 rfl (onP e14)
        refine stP hf rfl rfl rfl (pA rfl) fun a hf => ?_
        refine cNil ?_
        refine xThenN ?_
        intro ds u hau
        refine ⟨θ, he.put0 hi hau hf rfl 25 rfl rfl, ?_⟩
        exact hc
      · intro E θ a w hall he hc
        have hf := he.h0
        have e14 := hall 14 rfl
        have e15 := hall 15 rfl
        replace hf := hf.more he 25 rfl (onP e15)
        replace hf := hf.more he 9 rfl (onT)
        replace hf := hf.more he 8 rfl (onT)
        replace hf := hf.more he 7 rfl (onT)
        replace hf := hf.more he 6 rfl (onT)
        replace hf := hf.more he 4 rfl (onT)
        replace hf := hf.more he 3 rfl (onT)
        replace hf := hf.more he 2 rfl (onT)
        replace hf := hf.more he 1 rfl (onT)
        replace hf := hf.more he 0 rfl (onT)
        try dsimp only at hc
        rw [e14] at hc
        exact ⟨hf.keep ⟨rfl, rfl, rfl, rfl, rfl, rfl, rfl, rfl, rfl, rfl, trivial⟩, hc⟩
      rintro a w ⟨hf, hc⟩
      refine h18 _ _ ?_
      refine cReg ?_
      refine stP hf rfl rfl rfl (pM rfl) fun a hf => ?_
      refine stP hf rfl rfl rfl (pM rfl) fun a hf => ?_
      refine stP hf rfl rfl rfl (pM rfl) fun a hf => ?_
      refine stP hf rfl rfl rfl (pBuildS (cells := [.int .i64 r_5.1, .int .i64 r_6.1]) bt_26 rfl rfl) fun a hf => ?_
      refine stBS (rows := ([(⟨r_5.1, r_6.1⟩ : api_Span)] : List api_Span).map enc_api_Span) (vs := [(0, .agg #[.int .i64 r_5.1, .int .i64 r_6.1])]) hf hc rfl rfl sl_41 rfl ⟨rfl, rfl, rfl, trivial⟩ rfl rfl fun b_23 a w hf hc => ?_
      obtain ⟨un, hun, hF⟩ := bnd_some hF
      refine stApm (xs := out) (ys := ([(⟨r_5.1, r_6.1⟩ : api_Span)] : List api_Span)) hf hc rfl rfl sl_41 rfl rfl rfl rfl rfl one_enc_api_Span (src_row hc m0) (fun _ _ => u2) (by simpa using room_spec hun) fun p_2 c_2 a w hf hc => ?_
      refine stP hf rfl rfl rfl (pA rfl) fun a hf => ?_
      refine cNil ?_
      refine h15 _ _ ?_
      refine cReg ?_
      refine stP hf rfl rfl rfl (pAdd rfl rfl) fun a hf => ?_
      refine stP hf rfl rfl rfl (pM rfl) fun a hf => ?_
      refine cNil ?_
      replace hc := hc.drop k1
      replace hc := hc.drop k0
      exact hK11 ((out ++ [(⟨r_5.1, r_6.1⟩ : api_Span)]), W (x + 1), r_5.2.2, r_6.2.2, r_6.2.1, r_5.2.1) _ _ (Option.some.inj hF).symm ⟨p_2, c_2, hf.keep ⟨rfl, rfl, rfl, rfl, rfl, rfl, rfl, rfl, trivial⟩, hc⟩
    · replace hF := condF hb hF
      clear hb
      refine wp_exit ?_
      refine xThen ?_
      refine xThen ?_
      have he := Option.some.inj hF
      rw [← he] at hfin11
      refine cHit ?_
      exact hr11 _ _ _ hfin11 ⟨p_1, c_1, hf.keep ⟨rfl, rfl, rfl, rfl, rfl, rfl, rfl, rfl, trivial⟩, hc⟩

def kit_Same_int_b7 (N : Nat) (a_ : List Int) (b_ : List Int) (i_1 : Int) : Option (Step (Int) (Bool)) :=
  cond (decide (i_1 < ((a_.length : Nat) : Int)))
  (Option.bind (getI a_ i_1) fun e_1 =>
  Option.bind (getI b_ i_1) fun e_2 =>
  cond (e_1 != e_2)
  (some (.ret false))
  (some (.cont (W (i_1 + 1)))))
  (some (.brk i_1))
def kit_Same_int (N : Nat) (a_ : List Int) (b_ : List Int) : Option (Bool) :=
  cond (((a_.length : Nat) : Int) != ((b_.length : Nat) : Int))
  (some false)
  (Option.bind (loopO (fun s7 => kit_Same_int_b7 N a_ b_ s7) N 0) fun x7 =>
  exK x7 (fun s7 => some true) some)
theorem kit_Same_int_ok {N : Nat} {G : Pers} {Lf : List Ent} {w : World} (a_ : List Int) (b_ : List Int) {a__p : Option Addr} {a__c : Nat} {b__p : Option Addr} {b__c : Nat} (h_a_ : Rd G 1 a__p a__c (a_.map encI_i64)) (h_b_ : Rd G 1 b__p b__c (b_.map encI_i64)) (hc : Ctx G (Lf) w) {res : Bool} (hF : kit_Same_int N a_ b_ = some res) : Calls Try.prog 20 #[.slice a__p a_.length a__c, .slice b__p b_.length b__c] w (fun e w => e = .returned (.bool res) ∧ Ctx G (Lf) w) := by
  unfold kit_Same_int at hF
  refine fnIn (args := [.slice a__p a_.length a__c, .slice b__p b_.length b__c]) Try.func20 rfl Try.ntmps20 rfl fun a hf => ?_
  refine wp_seq_k fun K1 h1 => ?_
  refine cReg ?_
  refine stP hf rfl rfl rfl (pA rfl) fun a hf => ?_
  refine cNil ?_
  refine h1 _ _ ?_
  refine wp_seq_k fun K2 h2 => ?_
  refine wp_seq_k fun K3 h3 => ?_
  refine cReg ?_
  refine stP hf rfl rfl rfl (pM rfl) fun a hf => ?_
  refine stP hf rfl rfl rfl (pLenS Try.underlying36 rfl) fun a hf => ?_
  refine stP hf rfl rfl rfl (pM rfl) fun a hf => ?_
  refine stP hf rfl rfl rfl (pLenS Try.underlying36 rfl) fun a hf => ?_
  refine stP hf rfl rfl rfl (pNe rfl rfl) fun a hf => ?_
  refine cNil ?_
  refine h3 _ _ ?_
  refine cCond (b := (((a_.length : Nat) : Int) != ((b_.length : Nat) : Int))) hf rfl (fun hb => ?_) (fun hb => ?_)
  · replace hF := condT hb hF
    clear hb
    refine wp_seq_k fun K4 h4 => ?_
    refine cReg ?_
    refine stP hf rfl rfl rfl (pA rfl) fun a hf => ?_
    refine cNil ?_
    refine h4 _ _ ?_
    refine wp_ret ?_
    refine xThenR ?_
    obtain rfl := Option.some.inj hF
    exact fnOut1 (by simp) rfl Try.results20 hf hc (show look _ 4 = _ from rfl) ⟨rfl, hc⟩
  · replace hF := condF hb hF
    clear hb
    refine wp_skip ?_
    refine h2 _ _ ?_
    refine wp_seq_k fun K5 h5 => ?_
    refine wp_seq_k fun K6 h6 => ?_
    refine cReg ?_
    refine stP hf rfl rfl rfl (pA rfl) fun a hf => ?_
    refine cNil ?_
    refine h6 _ _ ?_
    refine wp_block ?_
    obtain ⟨x7, hx7, hF⟩ := bnd_some hF
    let S7 : Int → Act → World → Prop := (fun (zz : Int) a w => Has 26 a [(0, .slice a__p a_.length a__c), (1, .slice b__p b_.length b__c), (5, .int .i64 zz)] ∧ Ctx G (Lf) w)
    have hr7 : ∀ (zz : Int) a w, x7 = .go zz → S7 zz a w → K5 a w := by
      rintro i_1 a w rfl ⟨hf, hc⟩
      replace hF : _ = some res := hF
      refine h5 _ _ ?_
      refine wp_seq_k fun K8 h8 => ?_
      refine cReg ?_
      refine stP hf rfl rfl rfl (pA rfl) fun a hf => ?_
      refine cNil ?_
      refine h8 _ _ ?_
      refine wp_ret ?_
      obtain rfl := Option.some.inj hF
      exact fnOut1 (by simp) rfl Try.results20 hf hc (show look _ 4 = _ from rfl) ⟨rfl, hc⟩
    have ho7 : ∀ r, x7 = .out r → r = res := by
      rintro r rfl
      exact Option.some.inj hF
    refine cLoop N (loopW (S := S7) (x := x7) ?_ N 0 _ _ ⟨hf.keep ⟨rfl, rfl, rfl, trivial⟩, hc⟩ hx7)
    clear hF hf hc
    rintro i_1 st7 a w KB7 ⟨hf, hc⟩ hF hfin7 hK7
    unfold kit_Same_int_b7 at hF
    refine wp_seq_k fun K9 h9 => ?_
    refine wp_seq_k fun K10 h10 => ?_
    refine cReg ?_
    refine stP hf rfl rfl rfl (pM rfl) fun a hf => ?_
    refine stP hf rfl rfl rfl (pM rfl) fun a hf => ?_
    refine stP hf rfl rfl rfl (pLenS Try.underlying36 rfl) fun a hf => ?_
    refine stP hf rfl rfl rfl (pLt rfl rfl) fun a hf => ?_
    refine cNil ?_
    refine h10 _ _ ?_
    refine cCond (b := (decide (i_1 < ((a_.length : Nat) : Int)))) hf rfl (fun hb => ?_) (fun hb => ?_)
    · replace hF := condT hb hF
      clear hb
      refine wp_skip ?_
      refine h9 _ _ ?_
      refine wp_seq_k fun K11 h11 => ?_
      refine wp_block ?_
      refine wp_seq_k fun K12 h12 => ?_
      obtain ⟨e_1, he_1, hF⟩ := bnd_some hF
      obtain ⟨b_1, o, qa, qp⟩ := h_a_.atm he_1
      obtain ⟨e_2, he_2, hF⟩ := bnd_some hF
      obtain ⟨b_2, o_1, qa_1, qp_1⟩ := h_b_.atm he_2
      refine cQ hc follows_mx (by kernel_rfl) ?_
      refine qE hf rfl rfl rfl (Pu.ev (pM rfl)) fun a hf => ?_
      refine qE hf rfl rfl rfl (Pu.ev (pM rfl)) fun a hf => ?_
      refine qE hf rfl rfl rfl (Pu.ev (pIA Try.underlying36 sz_3 rfl rfl qa)) fun a hf => ?_
      refine qE hf rfl rfl rfl (eLd1 sc_3 rfl (cell_pc (j := 0) qp rfl)) fun a hf => ?_
      refine qE hf rfl rfl rfl (Pu.ev (pM rfl)) fun a hf => ?_
      refine qE hf rfl rfl rfl (Pu.ev (pM rfl)) fun a hf => ?_
      refine qE hf rfl rfl rfl (Pu.ev (pIA Try.underlying36 sz_3 rfl rfl qa_1)) fun a hf => ?_
      refine qE hf rfl rfl rfl (eLd1 sc_3 rfl (cell_pc (j := 0) qp_1 rfl)) fun a hf => ?_
      refine qE hf rfl rfl rfl (Pu.ev (pNe rfl rfl)) fun a hf => ?_
      intro w hc
      refine h12 _ _ ?_
      refine cCond (b := (e_1 != e_2)) hf rfl (fun hb => ?_) (fun hb => ?_)
      · replace hF := condT hb hF
        clear hb
        refine wp_seq_k fun K13 h13 => ?_
        refine cReg ?_
        refine stP hf rfl rfl rfl (pA rfl) fun a hf => ?_
        refine cNil ?_
        refine h13 _ _ ?_
        refine wp_ret ?_
        refine xBlkR ?_
        refine xThenR ?_
        refine xThenR ?_
        have he := Option.some.inj hF
        rw [← he] at hfin7
        replace hF := ho7 _ hfin7
        refine xBlkR ?_
        refine xThenR ?_
        obtain rfl := hF
        exact fnOut1 (by simp) rfl Try.results20 hf hc (show look _ 4 = _ from rfl) ⟨rfl, hc⟩
      · replace hF := condF hb hF
        clear hb
        refine wp_skip ?_
        refine h11 _ _ ?_
        refine cReg ?_
        refine stP hf rfl rfl rfl (pM rfl) fun a hf => ?_
        refine stP hf rfl rfl rfl (pAdd rfl rfl) fun a hf => ?_
        refine stP hf rfl rfl rfl (pA rfl) fun a hf => ?_
        refine cNil ?_
        exact hK7 (W (i_1 + 1)) _ _ (Option.some.inj hF).symm ⟨hf.keep ⟨rfl, rfl, rfl, trivial⟩, hc⟩
    · replace hF := condF hb hF
      clear hb
      refine wp_exit ?_
      refine xThen ?_
      refine xThen ?_
      have he := Option.some.inj hF
      rw [← he] at hfin7
      refine cHit ?_
      exact hr7 _ _ _ hfin7 ⟨hf.keep ⟨rfl, rfl, rfl, trivial⟩, hc⟩

def kit_Same_api_Span_b7 (N : Nat) (a_ : List api_Span) (b_ : List api_Span) (i_1 : Int) : Option (Step (Int) (Bool)) :=
  cond (decide (i_1 < ((a_.length : Nat) : Int)))
  (Option.bind (getI a_ i_1) fun e_1 =>
  Option.bind (getI b_ i_1) fun e_2 =>
  cond (!(e_1.Lo == e_2.Lo && e_1.Hi == e_2.Hi))
  (some (.ret false))
  (some (.cont (W (i_1 + 1)))))
  (some (.brk i_1))
def kit_Same_api_Span (N : Nat) (a_ : List api_Span) (b_ : List api_Span) : Option (Bool) :=
  cond (((a_.length : Nat) : Int) != ((b_.length : Nat) : Int))
  (some false)
  (Option.bind (loopO (fun s7 => kit_Same_api_Span_b7 N a_ b_ s7) N 0) fun x7 =>
  exK x7 (fun s7 => some true) some)
theorem kit_Same_api_Span_ok {N : Nat} {G : Pers} {Lf : List Ent} {w : World} (a_ : List api_Span) (b_ : List api_Span) {a__p : Option Addr} {a__c : Nat} {b__p : Option Addr} {b__c : Nat} (h_a_ : Rd G 2 a__p a__c (a_.map enc_api_Span)) (h_b_ : Rd G 2 b__p b__c (b_.map enc_api_Span)) (hc : Ctx G (Lf) w) {res : Bool} (hF : kit_Same_api_Span N a_ b_ = some res) : Calls Try.prog 23 #[.slice a__p a_.length a__c, .slice b__p b_.length b__c] w (fun e w => e = .returned (.bool res) ∧ Ctx G (Lf) w) := by
  unfold kit_Same_api_Span at hF
  refine fnIn (args := [.slice a__p a_.length a__c, .slice b__p b_.length b__c]) Try.func23 rfl Try.ntmps23 rfl fun a hf => ?_
  refine wp_seq_k fun K1 h1 => ?_
  refine cReg ?_
  refine stP hf rfl rfl rfl (pA rfl) fun a hf => ?_
  refine cNil ?_
  refine h1 _ _ ?_
  refine wp_seq_k fun K2 h2 => ?_
  refine wp_seq_k fun K3 h3 => ?_
  refine cReg ?_
  refine stP hf rfl rfl rfl (pM rfl) fun a hf => ?_
  refine stP hf rfl rfl rfl (pLenS Try.underlying41 rfl) fun a hf => ?_
  refine stP hf rfl rfl rfl (pM rfl) fun a hf => ?_
  refine stP hf rfl rfl rfl (pLenS Try.underlying41 rfl) fun a hf => ?_
  refine stP hf rfl rfl rfl (pNe rfl rfl) fun a hf => ?_
  refine cNil ?_
  refine h3 _ _ ?_
  refine cCond (b := (((a_.length : Nat) : Int) != ((b_.length : Nat) : Int))) hf rfl (fun hb => ?_) (fun hb => ?_)
  · replace hF := condT hb hF
    clear hb
    refine wp_seq_k fun K4 h4 => ?_
    refine cReg ?_
    refine stP hf rfl rfl rfl (pA rfl) fun a hf => ?_
    refine cNil ?_
    refine h4 _ _ ?_
    refine wp_ret ?_
    refine xThenR ?_
    obtain rfl := Option.some.inj hF
    exact fnOut1 (by simp) rfl Try.results23 hf hc (show look _ 4 = _ from rfl) ⟨rfl, hc⟩
  · replace hF := condF hb hF
    clear hb
    refine wp_skip ?_
    refine h2 _ _ ?_
    refine wp_seq_k fun K5 h5 => ?_
    refine wp_seq_k fun K6 h6 => ?_
    refine cReg ?_
    refine stP hf rfl rfl rfl (pA rfl) fun a hf => ?_
    refine cNil ?_
    refine h6 _ _ ?_
    refine wp_block ?_
    obtain ⟨x7, hx7, hF⟩ := bnd_some hF
    let S7 : Int → Act → World → Prop := (fun (zz : Int) a w => Has 26 a [(0, .slice a__p a_.length a__c), (1, .slice b__p b_.length b__c), (5, .int .i64 zz)] ∧ Ctx G (Lf) w)
    have hr7 : ∀ (zz : Int) a w, x7 = .go zz → S7 zz a w → K5 a w := by
      rintro i_1 a w rfl ⟨hf, hc⟩
      replace hF : _ = some res := hF
      refine h5 _ _ ?_
      refine wp_seq_k fun K8 h8 => ?_
      refine cReg ?_
      refine stP hf rfl rfl rfl (pA rfl) fun a hf => ?_
      refine cNil ?_
      refine h8 _ _ ?_
      refine wp_ret ?_
      obtain rfl := Option.some.inj hF
      exact fnOut1 (by simp) rfl Try.results23 hf hc (show look _ 4 = _ from rfl) ⟨rfl, hc⟩
    have ho7 : ∀ r, x7 = .out r → r = res := by
      rintro r rfl
      exact Option.some.inj hF
    refine cLoop N (loopW (S := S7) (x := x7) ?_ N 0 _ _ ⟨hf.keep ⟨rfl, rfl, rfl, trivial⟩, hc⟩ hx7)
    clear hF hf hc
    rintro i_1 st7 a w KB7 ⟨hf, hc⟩ hF hfin7 hK7
    unfold kit_Same_api_Span_b7 at hF
    refine wp_seq_k fun K9 h9 => ?_
    refine wp_seq_k fun K10 h10 => ?_
    refine cReg ?_
    refine stP hf rfl rfl rfl (pM rfl) fun a hf => ?_
    refine stP hf rfl rfl rfl (pM rfl) fun a hf => ?_
    refine stP hf rfl rfl rfl (pLenS Try.underlying41 rfl) fun a hf => ?_
    refine stP hf rfl rfl rfl (pLt rfl rfl) fun a hf => ?_
    refine cNil ?_
    refine h10 _ _ ?_
    refine cCond (b := (decide (i_1 < ((a_.length : Nat) : Int)))) hf rfl (fun hb => ?_) (fun hb => ?_)
    · replace hF := condT hb hF
      clear hb
      refine wp_skip ?_
      refine h9 _ _ ?_
      refine wp_seq_k fun K11 h11 => ?_
      refine wp_block ?_
      refine wp_seq_k fun K12 h12 => ?_
      obtain ⟨e_1, he_1, hF⟩ := bnd_some hF
      obtain ⟨b_1, o, qa, qp⟩ := h_a_.atm he_1
      obtain ⟨e_2, he_2, hF⟩ := bnd_some hF
      obtain ⟨b_2, o_1, qa_1, qp_1⟩ := h_b_.atm he_2
      refine cQ hc follows_mx (by kernel_rfl) ?_
      refine qE hf rfl rfl rfl (Pu.ev (pM rfl)) fun a hf => ?_
      refine qE hf rfl rfl rfl (Pu.ev (pM rfl)) fun a hf => ?_
      refine qE hf rfl rfl rfl (Pu.ev (pIA Try.underlying41 sz_26 rfl rfl qa)) fun a hf => ?_
      refine qE hf rfl rfl rfl (eLdN (vs := [.int .i64 e_1.Lo, .int .i64 e_1.Hi]) ag_26 rfl rfl (cells_pc qp (n := 2) (o' := 0) rfl)) fun a hf => ?_
      refine qE hf rfl rfl rfl (Pu.ev (pM rfl)) fun a hf => ?_
      refine qE hf rfl rfl rfl (Pu.ev (pM rfl)) fun a hf => ?_
      refine qE hf rfl rfl rfl (Pu.ev (pIA Try.underlying41 sz_26 rfl rfl qa_1)) fun a hf => ?_
      refine qE hf rfl rfl rfl (eLdN (vs := [.int .i64 e_2.Lo, .int .i64 e_2.Hi]) ag_26 rfl rfl (cells_pc qp_1 (n := 2) (o' := 0) rfl)) fun a hf => ?_
      refine qE hf rfl rfl rfl (Pu.ev (pNeA ge_26 rfl rfl (eqs_26 _ _ _ _))) fun a hf => ?_
      intro w hc
      refine h12 _ _ ?_
      refine cCond (b := (!(e_1.Lo == e_2.Lo && e_1.Hi == e_2.Hi))) hf rfl (fun hb => ?_) (fun hb => ?_)
      · replace hF := condT hb hF
        clear hb
        refine wp_seq_k fun K13 h13 => ?_
        refine cReg ?_
        refine stP hf rfl rfl rfl (pA rfl) fun a hf => ?_
        refine cNil ?_
        refine h13 _ _ ?_
        refine wp_ret ?_
        refine xBlkR ?_
        refine xThenR ?_
        refine xThenR ?_
        have he := Option.some.inj hF
        rw [← he] at hfin7
        replace hF := ho7 _ hfin7
        refine xBlkR ?_
        refine xThenR ?_
        obtain rfl := hF
        exact fnOut1 (by simp) rfl Try.results23 hf hc (show look _ 4 = _ from rfl) ⟨rfl, hc⟩
      · replace hF := condF hb hF
        clear hb
        refine wp_skip ?_
        refine h11 _ _ ?_
        refine cReg ?_
        refine stP hf rfl rfl rfl (pM rfl) fun a hf => ?_
        refine stP hf rfl rfl rfl (pAdd rfl rfl) fun a hf => ?_
        refine stP hf rfl rfl rfl (pA rfl) fun a hf => ?_
        refine cNil ?_
        exact hK7 (W (i_1 + 1)) _ _ (Option.some.inj hF).symm ⟨hf.keep ⟨rfl, rfl, rfl, trivial⟩, hc⟩
    · replace hF := condF hb hF
      clear hb
      refine wp_exit ?_
      refine xThen ?_
      refine xThen ?_
      have he := Option.some.inj hF
      rw [← he] at hfin7
      refine cHit ?_
      exact hr7 _ _ _ hfin7 ⟨hf.keep ⟨rfl, rfl, rfl, trivial⟩, hc⟩

def share_every_int_1_s3 (x : Int) : Bool :=
  (!(share_water x))
theorem share_every_int_1_s3_ok {G : Pers} {Lf : List Ent} {w : World} (x : Int) {b_ : Nat}  (hc : Ctx G (.box b_ [.func (.func 73) #[] #[]] 146 :: Lf) w) {res : Bool} (hF : share_every_int_1_s3 x = res) : Calls Try.prog 120 #[.int .i64 x, .pointer (some ⟨b_, 0, none⟩)] w (fun e w => e = .returned (.bool res) ∧ Ctx G (.box b_ [.func (.func 73) #[] #[]] 146 :: Lf) w) := by
  unfold share_every_int_1_s3 at hF
  refine fnIn (args := [.int .i64 x, .pointer (some ⟨b_, 0, none⟩)]) Try.func120 rfl Try.ntmps120 rfl fun a hf => ?_
  refine wp_seq_k fun K1 h1 => ?_
  refine cReg ?_
  refine stP hf rfl rfl rfl (pA rfl) fun a hf => ?_
  refine cNil ?_
  refine h1 _ _ ?_
  refine wp_seq_k fun K2 h2 => ?_
  refine cReg ?_
  refine stE hf hc rfl rfl rfl (eLd1 sc_146 rfl (cell_box m0 rfl)) fun a w hf hc => ?_
  refine stP hf rfl rfl rfl (pM rfl) fun a hf => ?_
  refine stE hf hc rfl rfl rfl (eC (v := .bool (share_water x)) (vs := [.int .i64 x]) (caps := []) en_73 rfl rfl rfl rfl (fun w hc => share_water_ok x hc rfl)) fun a w hf hc => ?_
  refine stP hf rfl rfl rfl (pNot rfl) fun a hf => ?_
  refine stP hf rfl rfl rfl (pA rfl) fun a hf => ?_
  refine cNil ?_
  refine h2 _ _ ?_
  refine wp_ret ?_
  obtain rfl := hF
  exact fnOut1 (by simp) rfl Try.results120 hf hc (show look _ 3 = _ from rfl) ⟨rfl, hc⟩

def slices_IndexFunc_Lint_int_s3_b4 (N : Nat) (s_ : List Int) (x : Int) : Option (Step (Int) (Int)) :=
  cond (decide (x < ((s_.length : Nat) : Int)))
  (Option.bind (getI s_ x) fun e_1 =>
  cond (share_every_int_1_s3 e_1)
  (some (.ret x))
  (some (.cont (W (x + 1)))))
  (some (.brk x))
def slices_IndexFunc_Lint_int_s3 (N : Nat) (s_ : List Int) : Option (Int) :=
  Option.bind (loopO (fun s4 => slices_IndexFunc_Lint_int_s3_b4 N s_ s4) N 0) fun x4 =>
  exK x4 (fun s4 => some (-1)) some
theorem slices_IndexFunc_Lint_int_s3_ok {N : Nat} {G : Pers} {Lf : List Ent} {w : World} (s_ : List Int) {s__p : Option Addr} {s__c : Nat} {b_ : Nat} (h_s_ : Rd G 1 s__p s__c (s_.map encI_i64)) (hc : Ctx G (.box b_ [.func (.func 73) #[] #[]] 146 :: Lf) w) {res : Int} (hF : slices_IndexFunc_Lint_int_s3 N s_ = some res) : Calls Try.prog 145 #[.slice s__p s_.length s__c, .func (.func 120) #[] #[.pointer (some ⟨b_, 0, none⟩)]] w (fun e w => e = .returned (.int .i64 res) ∧ Ctx G (.box b_ [.func (.func 73) #[] #[]] 146 :: Lf) w) := by
  unfold slices_IndexFunc_Lint_int_s3 at hF
  refine fnIn (args := [.slice s__p s_.length s__c, .func (.func 120) #[] #[.pointer (some ⟨b_, 0, none⟩)]]) Try.func145 rfl Try.ntmps145 rfl fun a hf => ?_
  refine wp_seq_k fun K1 h1 => ?_
  refine cReg ?_
  refine stP hf rfl rfl rfl (pA rfl) fun a hf => ?_
  refine cNil ?_
  refine h1 _ _ ?_
  refine wp_seq_k fun K2 h2 => ?_
  refine wp_seq_k fun K3 h3 => ?_
  refine cReg ?_
  refine stP hf rfl rfl rfl (pM rfl) fun a hf => ?_
  refine stP hf rfl rfl rfl (pLenS Try.underlying36 rfl) fun a hf => ?_
  refine stP hf rfl rfl rfl (pM rfl) fun a hf => ?_
  refine cNil ?_
  refine h3 _ _ ?_
  refine wp_block ?_
  obtain ⟨x4, hx4, hF⟩ := bnd_some hF
  let S4 : Int → Act → World → Prop := (fun (zz : Int) a w => Has 19 a [(0, .slice s__p s_.length s__c), (1, .func (.func 120) #[] #[.pointer (some ⟨b_, 0, none⟩)]), (7, .int .i64 ((s_.length : Nat) : Int)), (8, .int .i64 zz)] ∧ Ctx G (.box b_ [.func (.func 73) #[] #[]] 146 :: Lf) w)
  have hr4 : ∀ (zz : Int) a w, x4 = .go zz → S4 zz a w → K2 a w := by
    rintro x a w rfl ⟨hf, hc⟩
    replace hF : _ = some res := hF
    refine h2 _ _ ?_
    refine wp_seq_k fun K5 h5 => ?_
    refine cReg ?_
    refine stP hf rfl rfl rfl (pA rfl) fun a hf => ?_
    refine cNil ?_
    refine h5 _ _ ?_
    refine wp_ret ?_
    obtain rfl := Option.some.inj hF
    exact fnOut1 (by simp) rfl Try.results145 hf hc (show look _ 4 = _ from rfl) ⟨rfl, hc⟩
  have ho4 : ∀ r, x4 = .out r → r = res := by
    rintro r rfl
    exact Option.some.inj hF
  refine cLoop N (loopW (S := S4) (x := x4) ?_ N 0 _ _ ⟨hf.keep ⟨rfl, rfl, rfl, rfl, trivial⟩, hc⟩ hx4)
  clear hF hf hc
  rintro x st4 a w KB4 ⟨hf, hc⟩ hF hfin4 hK4
  unfold slices_IndexFunc_Lint_int_s3_b4 at hF
  refine wp_seq_k fun K6 h6 => ?_
  refine cReg ?_
  refine stP hf rfl rfl rfl (pLt rfl rfl) fun a hf => ?_
  refine cNil ?_
  refine h6 _ _ ?_
  refine wp_seq_k fun K7 h7 => ?_
  refine cCond (b := (decide (x < ((s_.length : Nat) : Int)))) hf rfl (fun hb => ?_) (fun hb => ?_)
  · replace hF := condT hb hF
    clear hb
    refine wp_skip ?_
    refine h7 _ _ ?_
    refine wp_seq_k fun K8 h8 => ?_
    refine wp_block ?_
    refine wp_seq_k fun K9 h9 => ?_
    refine cReg ?_
    refine stP hf rfl rfl rfl (pM rfl) fun a hf => ?_
    refine stP hf rfl rfl rfl (pA rfl) fun a hf => ?_
    refine cNil ?_
    refine h9 _ _ ?_
    refine wp_seq_k fun K10 h10 => ?_
    refine cReg ?_
    refine stP hf rfl rfl rfl (pM rfl) fun a hf => ?_
    refine stP hf rfl rfl rfl (pM rfl) fun a hf => ?_
    refine stP hf rfl rfl rfl (pM rfl) fun a hf => ?_
    obtain ⟨e_1, he_1, hF⟩ := bnd_some hF
    obtain ⟨b_1, o, qa, qp⟩ := h_s_.atm he_1
    refine stP hf rfl rfl rfl (pIA Try.underlying36 sz_3 rfl rfl qa) fun a hf => ?_
    refine stE hf hc rfl rfl rfl (eLd1 sc_3 rfl (cell_pc (j := 0) qp rfl)) fun a w hf hc => ?_
    refine stE hf hc rfl rfl rfl (eC (v := .bool (share_every_int_1_s3 e_1)) (vs := [.int .i64 e_1]) (caps := [.pointer (some ⟨b_, 0, none⟩)]) en_120 rfl rfl rfl rfl (fun w hc => (share_every_int_1_s3_ok e_1 (hc.pick k0) rfl).mono fun e w h => ⟨h.1, (h.2.unpick k0)⟩)) fun a w hf hc => ?_
    refine cNil ?_
    refine h10 _ _ ?_
    refine cCond (b := (share_every_int_1_s3 e_1)) hf rfl (fun hb => ?_) (fun hb => ?_)
    · replace hF := condT hb hF
      clear hb
      refine wp_seq_k fun K11 h11 => ?_
      refine cReg ?_
      refine stP hf rfl rfl rfl (pM rfl) fun a hf => ?_
      refine stP hf rfl rfl rfl (pA rfl) fun a hf => ?_
      refine cNil ?_
      refine h11 _ _ ?_
      refine wp_ret ?_
      refine xBlkR ?_
      refine xThenR ?_
      refine xThenR ?_
      have he := Option.some.inj hF
      rw [← he] at hfin4
      replace hF := ho4 _ hfin4
      refine xBlkR ?_
      refine xThenR ?_
      obtain rfl := hF
      exact fnOut1 (by simp) rfl Try.results145 hf hc (show look _ 4 = _ from rfl) ⟨rfl, hc⟩
    · replace hF := condF hb hF
      clear hb
      refine wp_skip ?_
      refine h8 _ _ ?_
      refine cReg ?_
      refine stP hf rfl rfl rfl (pAdd rfl rfl) fun a hf => ?_
      refine stP hf rfl rfl rfl (pM rfl) fun a hf => ?_
      refine cNil ?_
      exact hK4 (W (x + 1)) _ _ (Option.some.inj hF).symm ⟨hf.keep ⟨rfl, rfl, rfl, rfl, trivial⟩, hc⟩
  · replace hF := condF hb hF
    clear hb
    refine wp_exit ?_
    refine xThen ?_
    refine xThen ?_
    have he := Option.some.inj hF
    rw [← he] at hfin4
    refine cHit ?_
    exact hr4 _ _ _ hfin4 ⟨hf.keep ⟨rfl, rfl, rfl, rfl, trivial⟩, hc⟩

def slices_ContainsFunc_Lint_int_s3 (N : Nat) (s_ : List Int) : Option (Bool) :=
  Option.bind (slices_IndexFunc_Lint_int_s3 N s_) fun r =>
  some (decide (0 ≤ r))
theorem slices_ContainsFunc_Lint_int_s3_ok {N : Nat} {G : Pers} {Lf : List Ent} {w : World} (s_ : List Int) {s__p : Option Addr} {s__c : Nat} {b_ : Nat} (h_s_ : Rd G 1 s__p s__c (s_.map encI_i64)) (hc : Ctx G (.box b_ [.func (.func 73) #[] #[]] 146 :: Lf) w) {res : Bool} (hF : slices_ContainsFunc_Lint_int_s3 N s_ = some res) : Calls Try.prog 119 #[.slice s__p s_.length s__c, .func (.func 120) #[] #[.pointer (some ⟨b_, 0, none⟩)]] w (fun e w => e = .returned (.bool res) ∧ Ctx G (.box b_ [.func (.func 73) #[] #[]] 146 :: Lf) w) := by
  unfold slices_ContainsFunc_Lint_int_s3 at hF
  refine fnIn (args := [.slice s__p s_.length s__c, .func (.func 120) #[] #[.pointer (some ⟨b_, 0, none⟩)]]) Try.func119 rfl Try.ntmps119 rfl fun a hf => ?_
  refine wp_seq_k fun K1 h1 => ?_
  refine cReg ?_
  refine stP hf rfl rfl rfl (pA rfl) fun a hf => ?_
  refine cNil ?_
  refine h1 _ _ ?_
  refine wp_seq_k fun K2 h2 => ?_
  refine cReg ?_
  refine stP hf rfl rfl rfl (pM rfl) fun a hf => ?_
  refine stP hf rfl rfl rfl (pM rfl) fun a hf => ?_
  obtain ⟨r, hr, hF⟩ := bnd_some hF
  refine stE hf hc rfl rfl rfl (eC (v := .int .i64 r) (vs := [.slice s__p s_.length s__c, .func (.func 120) #[] #[.pointer (some ⟨b_, 0, none⟩)]]) (caps := []) en_145 rfl rfl rfl rfl (fun w hc => (slices_IndexFunc_Lint_int_s3_ok s_ h_s_ (hc.pick k0) hr).mono fun e w h => ⟨h.1, (h.2.unpick k0)⟩)) fun a w hf hc => ?_
  refine stP hf rfl rfl rfl (pGe rfl rfl) fun a hf => ?_
  refine stP hf rfl rfl rfl (pA rfl) fun a hf => ?_
  refine cNil ?_
  refine h2 _ _ ?_
  refine wp_ret ?_
  obtain rfl := Option.some.inj hF
  exact fnOut1 (by simp) rfl Try.results119 hf hc (show look _ 4 = _ from rfl) ⟨rfl, hc⟩

def share_every_int_s3 (N : Nat) (l : List Int) : Option (Bool) :=
  Option.bind (slices_ContainsFunc_Lint_int_s3 N l) fun r =>
  some (!r)
theorem share_every_int_s3_ok {N : Nat} {G : Pers} {Lf : List Ent} {w : World} (l : List Int) {l_p : Option Addr} {l_c : Nat} (h_l : Rd G 1 l_p l_c (l.map encI_i64)) (hc : Ctx G (Lf) w) {res : Bool} (hF : share_every_int_s3 N l = some res) : Calls Try.prog 80 #[.slice l_p l.length l_c, .func (.func 73) #[] #[]] w (fun e w => e = .returned (.bool res) ∧ Ctx G (Lf) w) := by
  unfold share_every_int_s3 at hF
  refine fnIn (args := [.slice l_p l.length l_c, .func (.func 73) #[] #[]]) Try.func80 rfl Try.ntmps80 rfl fun a hf => ?_
  refine wp_seq_k fun K1 h1 => ?_
  refine cReg ?_
  refine stBx (cs := [.func (.func 73) #[] #[]]) hf hc rfl rfl rfl rfl fun b_1 a w hf hc => ?_
  refine stP hf rfl rfl rfl (pA rfl) fun a hf => ?_
  refine cNil ?_
  refine h1 _ _ ?_
  refine wp_seq_k fun K2 h2 => ?_
  refine cReg ?_
  refine stP hf rfl rfl rfl (pM rfl) fun a hf => ?_
  refine stP hf rfl rfl rfl (pMF (us := [.pointer (some ⟨b_1, 0, none⟩)]) rfl rfl) fun a hf => ?_
  obtain ⟨r, hr, hF⟩ := bnd_some hF
  refine stE hf hc rfl rfl rfl (eC (v := .bool r) (vs := [.slice l_p l.length l_c, .func (.func 120) #[] #[.pointer (some ⟨b_1, 0, none⟩)]]) (caps := []) en_119 rfl rfl rfl rfl (fun w hc => (slices_ContainsFunc_Lint_int_s3_ok l h_l (hc.pick k0) hr).mono fun e w h => ⟨h.1, (h.2.unpick k0)⟩)) fun a w hf hc => ?_
  refine stP hf rfl rfl rfl (pNot rfl) fun a hf => ?_
  refine stP hf rfl rfl rfl (pA rfl) fun a hf => ?_
  refine cNil ?_
  refine h2 _ _ ?_
  refine wp_ret ?_
  obtain rfl := Option.some.inj hF
  replace hc := hc.drop k0
  exact fnOut1 (by simp) rfl Try.results80 hf hc (show look _ 4 = _ from rfl) ⟨rfl, hc⟩

end Go.Nilo
